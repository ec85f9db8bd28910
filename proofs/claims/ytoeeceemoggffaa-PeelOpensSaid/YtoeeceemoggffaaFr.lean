/- Sums, differences and products of float64: how far the result lies from the exact one. Plain arithmetic, no program in sight. -/
import Derived.Test.YtoeeceemoggffaaFl
namespace Go.Proofs.Ytoeeceemoggffaa
open Ieee

/-- a magnitude, in units of 2^-1074 -/
def mg (r : Nat) : Nat := if r < 2 ^ 52 then r else (2 ^ 52 + r % 2 ^ 52) * 2 ^ (r / 2 ^ 52 - 1)
/-- a word's value, in units of 2^-1074 -/
def sv (x : Nat) : Int := if x / 2 ^ 63 % 2 == 1 then -(mg (x % 2 ^ 63) : Int) else (mg (x % 2 ^ 63) : Int)
/-- neither infinite nor a NaN -/
def Fin (x : Nat) : Prop := x % 2 ^ 63 < 2047 * 2 ^ 52

theorem c_sw : double.signWeight = 2 ^ 63 := by decide
theorem c_bin : double.binade = 2 ^ 52 := by decide
theorem c_lp : double.leastPlace = -1074 := by decide
theorem c_inf : double.infRung = 2047 * 2 ^ 52 := by decide

theorem read_fin {x : Nat} (h : Fin x) : ∃ s m e, double.read x = .number s m e ∧ -1074 ≤ e ∧ sv x = signed s m (e + 1074).toNat := by
  unfold Format.read Fin sv mg at *
  simp only [c_sw, c_bin, c_lp, c_inf]
  generalize x % 2 ^ 63 = r at *
  generalize (x / 2 ^ 63 % 2 == 1) = s
  by_cases h1 : r < 2 ^ 52
  · rw [if_pos h1, if_pos h1]
    exact ⟨s, r, -1074, rfl, by omega, by simp [signed]⟩
  · rw [if_neg h1, if_neg h1, if_pos h]
    refine ⟨s, _, _, rfl, by omega, ?_⟩
    have e : (-1074 + ((r / 2 ^ 52 - 1 : Nat) : Int) + 1074).toNat = r / 2 ^ 52 - 1 := by omega
    rw [e]
    simp only [signed, Nat.shiftLeft_eq]

theorem signed_eq (s : Bool) (m u : Nat) : signed s m u = if s then -((m * 2 ^ u : Nat) : Int) else ((m * 2 ^ u : Nat) : Int) := by
  unfold signed; rw [Nat.shiftLeft_eq]

/-- the rounding to the nearest: at most half a unit away -/
theorem cut_near (s : Bool) (n drop : Nat) : 2 * (Toward.even.cut s n drop * 2 ^ drop) ≤ 2 * n + 2 ^ drop ∧ 2 * n ≤ 2 * (Toward.even.cut s n drop * 2 ^ drop) + 2 ^ drop := by
  unfold Toward.cut
  simp only [Nat.shiftLeft_eq, Nat.one_mul]
  by_cases h : drop ≤ n.log2 + 2
  · rw [Nat.min_eq_left h]
    have hp : 0 < 2 ^ drop := Nat.two_pow_pos _
    have hd := Nat.div_add_mod n (2 ^ drop)
    have hl := Nat.mod_lt n hp
    generalize n / 2 ^ drop = q at *
    generalize n % 2 ^ drop = r at *
    generalize 2 ^ drop = g at *
    have e : q * g = g * q := Nat.mul_comm _ _
    by_cases h1 : g < 2 * r
    · have : (decide (g < 2 * r) || g == 2 * r && q % 2 == 1) = true := by simp [h1]
      rw [this]
      simp only [Bool.toNat_true, Nat.add_mul, Nat.one_mul]
      omega
    · by_cases h2 : g = 2 * r ∧ q % 2 = 1
      · have : (decide (g < 2 * r) || g == 2 * r && q % 2 == 1) = true := by simp [h2.1, h2.2]
        rw [this]
        simp only [Bool.toNat_true, Nat.add_mul, Nat.one_mul]
        omega
      · have : (decide (g < 2 * r) || g == 2 * r && q % 2 == 1) = false := by
          by_cases h3 : g = 2 * r
          · have : ¬ q % 2 = 1 := fun h => h2 ⟨h3, h⟩
            simp [h3, this]
          · simp [h1, h3]
        rw [this]
        simp only [Bool.toNat_false, Nat.add_zero]
        omega
  · rw [Nat.min_eq_right (by omega)]
    have h1 : n < 2 ^ (n.log2 + 1) := Nat.lt_log2_self
    have h2 : 2 ^ (n.log2 + 2) = 2 * 2 ^ (n.log2 + 1) := by rw [Nat.pow_succ]; omega
    have h3 : 2 ^ (n.log2 + 2) ≤ 2 ^ drop := Nat.pow_le_pow_right (by decide) (by omega)
    have hq : n / 2 ^ (n.log2 + 2) = 0 := Nat.div_eq_of_lt (by omega)
    have hr : n % 2 ^ (n.log2 + 2) = n := Nat.mod_eq_of_lt (by omega)
    rw [hq, hr]
    have : (decide (2 ^ (n.log2 + 2) < 2 * n) || 2 ^ (n.log2 + 2) == 2 * n && 0 % 2 == 1) = false := by
      have : ¬ 2 ^ (n.log2 + 2) < 2 * n := by omega
      simp [this]
    rw [this]
    simp only [Bool.toNat_false]
    omega

/-- a rung as place and digits -/
theorem mg_rung (d k : Nat) (h0 : d = 0 ∨ 2 ^ 52 ≤ k) (h1 : k ≤ 2 ^ 53) : mg (d * 2 ^ 52 + k) = k * 2 ^ d := by
  unfold mg
  by_cases hs : d * 2 ^ 52 + k < 2 ^ 52
  · have hd : d = 0 := by omega
    subst hd
    rw [if_pos hs]; simp
  · rw [if_neg hs]
    by_cases hk : k < 2 ^ 53
    · have hk2 : 2 ^ 52 ≤ k := by rcases h0 with rfl | h <;> omega
      have e1 : (d * 2 ^ 52 + k) / 2 ^ 52 = d + 1 := by omega
      have e2 : 2 ^ 52 + (d * 2 ^ 52 + k) % 2 ^ 52 = k := by omega
      rw [e1, e2, Nat.add_sub_cancel]
    · obtain rfl : k = 2 ^ 53 := by omega
      have e1 : (d * 2 ^ 52 + 2 ^ 53) / 2 ^ 52 = d + 2 := by omega
      have e2 : 2 ^ 52 + (d * 2 ^ 52 + 2 ^ 53) % 2 ^ 52 = 2 ^ 52 := by omega
      rw [e1, e2, show d + 2 - 1 = d + 1 by omega, Nat.pow_succ 2 d]
      omega

theorem sv_word (s : Bool) (r : Nat) (h : r < 2047 * 2 ^ 52) : Fin (double.word s r) ∧ sv (double.word s r) = (if s then -(mg r : Int) else (mg r : Int)) := by
  have hm : double.word s r % 2 ^ 63 = r := by
    unfold Format.word; rw [c_sw]; split <;> omega
  have hs : (double.word s r / 2 ^ 63 % 2 == 1) = s := by
    unfold Format.word; rw [c_sw]
    cases s
    · simp only [Bool.false_eq_true, if_false, beq_eq_false_iff_ne]; omega
    · simp only [if_true, beq_iff_eq]; omega
  unfold Fin sv
  rw [hm, hs]
  exact ⟨h, rfl⟩

theorem split_mul (k d S : Nat) : ((k * 2 ^ (d + S) : Nat) : Int) = ((k * 2 ^ d : Nat) : Int) * ((2 ^ S : Nat) : Int) := by
  rw [Nat.pow_add, ← Nat.mul_assoc]
  exact Int.natCast_mul _ _

theorem neg_natAbs (b : Bool) (A G B C : Int) (h : C = A * G) : ((if b then -A else A) * G - (if b then -B else B)).natAbs = (C - B).natAbs := by
  subst h
  cases b
  · simp only [Bool.false_eq_true, if_false]
  · simp only [if_true]
    rw [show -A * G - -B = -(A * G - B) by rw [Int.neg_mul]; omega, Int.natAbs_neg]

theorem exp_le {d F S : Nat} (hd : d ≤ F - 53) (hF : 53 ≤ F) (hS : S = 1074) : d + S ≤ F + (S - 53) := by omega

theorem rung_lt {d F kept : Nat} (hd : d ≤ F - 53) (hF : F ≤ 2000) (k1 : kept ≤ 2 ^ 53) : d * 2 ^ 52 + kept < 2047 * 2 ^ 52 := by omega

theorem close_nat {A B G H : Nat} (h1 : 2 * A ≤ 2 * B + G) (h2 : 2 * B ≤ 2 * A + G) (hG : G ≤ H) : 2 * ((A : Int) - (B : Int)).natAbs ≤ H := by omega

/-- how far the nearest word lies from the number: V is the number in units of 2^-(2S); S is 1074, kept a variable so that nobody reckons 2^S out -/
theorem nearest_err (S : Nat) (hS : S = 1074) (s : Bool) (m : Nat) (e : Int) (F : Nat) (he : -2148 ≤ e) (hF : 53 ≤ F) (hF2 : F ≤ 2000) (hV : m * 2 ^ (e + 2 * (S : Int)).toNat < 2 ^ (F + S)) :
    Fin (double.nearest s m e) ∧ 2 * (sv (double.nearest s m e) * ((2 ^ S : Nat) : Int) - signed s m (e + 2 * (S : Int)).toNat).natAbs ≤ 2 ^ (F + (S - 53)) := by
  by_cases h0 : m = 0
  · subst h0
    have : double.nearest s 0 e = double.word s 0 := by unfold Format.nearest; rw [if_pos rfl]
    rw [this]
    obtain ⟨h1, h2⟩ := sv_word s 0 (by decide)
    refine ⟨h1, ?_⟩
    rw [h2]
    have : mg 0 = 0 := by decide
    rw [this]
    cases s <;> simp [signed]
  · have hlog : 2 ^ m.log2 ≤ m := Nat.log2_self_le h0
    have hlog2 : m < 2 ^ (m.log2 + 1) := Nat.lt_log2_self
    generalize hL : m.log2 = L at *
    have hb : L + (e + 2 * (S : Int)).toNat < F + S := by
      have : 2 ^ (L + (e + 2 * (S : Int)).toNat) < 2 ^ (F + S) := by
        rw [Nat.pow_add]
        exact Nat.lt_of_le_of_lt (Nat.mul_le_mul_right _ hlog) hV
      exact (Nat.pow_lt_pow_iff_right (by decide)).1 this
    clear hV
    obtain ⟨last, hlast⟩ : ∃ last, last = max (e + (L : Int) - 52) (-1074) := ⟨_, rfl⟩
    obtain ⟨kept, hkept⟩ : ∃ kept, kept = Toward.even.cut s (m <<< (e - last).toNat) (last - e).toNat := ⟨_, rfl⟩
    obtain ⟨d, hd⟩ : ∃ d, d = (last + 1074).toNat := ⟨_, rfl⟩
    have hdF : d ≤ F - 53 := by omega
    -- the digits kept
    have key : kept ≤ 2 ^ 53 ∧ (d = 0 ∨ 2 ^ 52 ≤ kept) ∧ 2 * (kept * 2 ^ (d + S)) ≤ 2 * (m * 2 ^ (e + 2 * (S : Int)).toNat) + 2 ^ (d + S) ∧ 2 * (m * 2 ^ (e + 2 * (S : Int)).toNat) ≤ 2 * (kept * 2 ^ (d + S)) + 2 ^ (d + S) := by
      by_cases hc : e ≤ last
      · have e1 : (e - last).toNat = 0 := by omega
        rw [e1, Nat.shiftLeft_zero] at hkept
        obtain ⟨dr, hdr⟩ : ∃ dr, dr = (last - e).toNat := ⟨_, rfl⟩
        rw [← hdr] at hkept
        have e2 : d + S = dr + (e + 2 * (S : Int)).toNat := by omega
        obtain ⟨c1, c2⟩ := cut_near s m dr
        rw [← hkept] at c1 c2
        have hup : m < 2 ^ 53 * 2 ^ dr := by
          rw [← Nat.pow_add]
          exact Nat.lt_of_lt_of_le hlog2 (Nat.pow_le_pow_right (by decide) (by omega))
        have hg : 0 < 2 ^ dr := Nat.two_pow_pos _
        refine ⟨?_, ?_, ?_, ?_⟩
        · -- 2 kept g ≤ 2 m + g < (2^54 + 1) g
          have h3 : (2 * kept) * 2 ^ dr < (2 ^ 54 + 1) * 2 ^ dr := by
            rw [Nat.mul_assoc, Nat.add_mul]; omega
          have := Nat.lt_of_mul_lt_mul_right h3
          omega
        · by_cases hd0 : d = 0
          · exact .inl hd0
          · refine .inr ?_
            have hlo : 2 ^ 52 * 2 ^ dr ≤ m := by
              rw [← Nat.pow_add]
              exact Nat.le_trans (Nat.pow_le_pow_right (by decide) (by omega)) hlog
            have h3 : (2 ^ 53) * 2 ^ dr ≤ (2 * kept + 1) * 2 ^ dr := by
              rw [Nat.add_mul, Nat.mul_assoc]; omega
            have := Nat.le_of_mul_le_mul_right h3 hg
            omega
        · rw [e2, Nat.pow_add, ← Nat.mul_assoc, ← Nat.mul_assoc, ← Nat.mul_assoc, ← Nat.add_mul]
          exact Nat.mul_le_mul_right _ (by rw [Nat.mul_assoc]; exact c1)
        · rw [e2, Nat.pow_add, ← Nat.mul_assoc, ← Nat.mul_assoc, ← Nat.mul_assoc, ← Nat.add_mul]
          exact Nat.mul_le_mul_right _ (by rw [Nat.mul_assoc]; exact c2)
      · have e1 : (last - e).toNat = 0 := by omega
        rw [e1] at hkept
        obtain ⟨c1, c2⟩ := cut_near s (m <<< (e - last).toNat) 0
        rw [← hkept] at c1 c2
        have ek : kept = m * 2 ^ (e - last).toNat := by
          rw [Nat.shiftLeft_eq] at c1 c2
          simp only [Nat.pow_zero, Nat.mul_one] at c1 c2
          omega
        have e2 : (e + 2 * (S : Int)).toNat = (e - last).toNat + (d + S) := by omega
        have hsame : m * 2 ^ (e + 2 * (S : Int)).toNat = kept * 2 ^ (d + S) := by
          rw [e2, ek, Nat.pow_add, Nat.mul_assoc]
        refine ⟨?_, ?_, by rw [hsame]; exact Nat.le_add_right _ _, by rw [hsame]; exact Nat.le_add_right _ _⟩
        · rw [ek]
          have : m * 2 ^ (e - last).toNat < 2 ^ (L + 1) * 2 ^ (e - last).toNat := Nat.mul_lt_mul_of_pos_right hlog2 (Nat.two_pow_pos _)
          rw [← Nat.pow_add] at this
          exact Nat.le_of_lt (Nat.lt_of_lt_of_le this (Nat.pow_le_pow_right (by decide) (by omega)))
        · by_cases hd0 : d = 0
          · exact .inl hd0
          · refine .inr ?_
            rw [ek]
            have : 2 ^ L * 2 ^ (e - last).toNat ≤ m * 2 ^ (e - last).toNat := Nat.mul_le_mul_right _ hlog
            rw [← Nat.pow_add] at this
            exact Nat.le_trans (Nat.pow_le_pow_right (by decide) (by omega)) this
    obtain ⟨k1, k2, k3, k4⟩ := key
    have hrung := rung_lt hdF hF2 k1
    have hmin : min ((last + 1074).toNat * 2 ^ 52 + kept) (2047 * 2 ^ 52) = d * 2 ^ 52 + kept := by rw [← hd]; exact Nat.min_eq_left (Nat.le_of_lt hrung)
    have hn : double.nearest s m e = double.word s (min ((last + 1074).toNat * 2 ^ 52 + kept) (2047 * 2 ^ 52)) := by
      unfold Format.nearest
      rw [if_neg h0]
      simp only [c_lp, c_bin, c_inf, hL]
      rw [hkept, hlast]
      rfl
    rw [hn, hmin]
    obtain ⟨f1, f2⟩ := sv_word s _ hrung
    refine ⟨f1, ?_⟩
    rw [f2, mg_rung d kept k2 k1]
    have hle : 2 ^ (d + S) ≤ 2 ^ (F + (S - 53)) := Nat.pow_le_pow_right (by decide) (exp_le hdF hF hS)
    have ev := neg_natAbs s ((kept * 2 ^ d : Nat) : Int) ((2 ^ S : Nat) : Int) ((m * 2 ^ (e + 2 * (S : Int)).toNat : Nat) : Int) _ (split_mul kept d S)
    rw [signed_eq]
    rw [ev]
    generalize kept * 2 ^ (d + S) = A at *
    generalize m * 2 ^ (e + 2 * (S : Int)).toNat = B at *
    exact close_nat k3 k4 hle

theorem signed_up (s : Bool) (m u d : Nat) : signed s m (u + d) = signed s m u * ((2 ^ d : Nat) : Int) := by
  rw [signed_eq, signed_eq, Nat.pow_add, ← Nat.mul_assoc]
  cases s
  · simp only [Bool.false_eq_true, if_false]; exact Int.natCast_mul _ _
  · simp only [if_true]; rw [Int.neg_mul]; congr 1

theorem signed_opp (s : Bool) (m u : Nat) : signed (!s) m u = -signed s m u := by
  unfold signed; cases s <;> simp

theorem signed_of (T : Int) (z : Bool) (u : Nat) : signed (if T = 0 then z else decide (T < 0)) T.natAbs u = T * ((2 ^ u : Nat) : Int) := by
  rw [signed_eq]
  by_cases h0 : T = 0
  · subst h0; rw [if_pos rfl]; cases z <;> simp
  · rw [if_neg h0]
    by_cases hn : T < 0
    · rw [decide_eq_true hn, if_pos rfl, Int.natCast_mul, ← Int.neg_mul]
      congr 1; omega
    · rw [decide_eq_false hn, if_neg (by decide), Int.natCast_mul]
      congr 1; omega

theorem div_out {A H G : Nat} (hG : 0 < G) (h : 2 * (A * G) ≤ H * G) : 2 * A ≤ H := by
  rw [← Nat.mul_assoc] at h
  exact Nat.le_of_mul_le_mul_right h hG

theorem sum_near (S : Nat) (hS : S = 1074) (s : Bool) (m : Nat) (i : Int) (t : Bool) (n : Nat) (j : Int) (hi : -1074 ≤ i) (hj : -1074 ≤ j) (F : Nat) (hF : 53 ≤ F) (hF2 : F ≤ 2000)
    (h : (signed s m (i + 1074).toNat + signed t n (j + 1074).toNat).natAbs < 2 ^ F) :
    ∃ d, Datum.sum (.number s m i) (.number t n j) = some d ∧ Fin (double.write d) ∧ 2 * (sv (double.write d) - (signed s m (i + 1074).toNat + signed t n (j + 1074).toNat)).natAbs ≤ 2 ^ (F - 53) := by
  obtain ⟨b, hb⟩ : ∃ b, b = min i j := ⟨_, rfl⟩
  have hb0 : -1074 ≤ b := by omega
  have e1 : (i + 1074).toNat = (i - b).toNat + (b + 1074).toNat := by omega
  have e2 : (j + 1074).toNat = (j - b).toNat + (b + 1074).toNat := by omega
  rw [e1, e2, signed_up, signed_up, ← Int.add_mul] at h ⊢
  refine ⟨_, rfl, ?_⟩
  simp only [← hb]
  generalize signed s m (i - b).toNat + signed t n (j - b).toNat = T at *
  have e3 : (b + 2 * (S : Int)).toNat = (b + 1074).toNat + S := by omega
  rw [Int.natAbs_mul, Int.natAbs_natCast] at h
  have hV : T.natAbs * 2 ^ (b + 2 * (S : Int)).toNat < 2 ^ (F + S) := by
    rw [e3, Nat.pow_add, Nat.pow_add, ← Nat.mul_assoc]
    exact Nat.mul_lt_mul_of_pos_right h (Nat.two_pow_pos _)
  obtain ⟨f1, f2⟩ := nearest_err S hS (if T = 0 then s && t else decide (T < 0)) T.natAbs b F (by omega) hF hF2 hV
  refine ⟨f1, ?_⟩
  change 2 * (sv (double.nearest (if T = 0 then s && t else decide (T < 0)) T.natAbs b) - _).natAbs ≤ _
  generalize double.nearest (if T = 0 then s && t else decide (T < 0)) T.natAbs b = r at *
  rw [signed_of, e3, Nat.pow_add, Int.natCast_mul, ← Int.mul_assoc, ← Int.sub_mul, Int.natAbs_mul, Int.natAbs_natCast] at f2
  have e4 : F + (S - 53) = (F - 53) + S := by omega
  rw [e4, Nat.pow_add] at f2
  exact div_out (Nat.two_pow_pos _) f2

/-- a sum: F tells the size of the exact one (below 2^(F-1074)), the result lies within half a unit -/
theorem fadd_near (S : Nat) (hS : S = 1074) {x y : Nat} (hx : Fin x) (hy : Fin y) (F : Nat) (hF : 53 ≤ F) (hF2 : F ≤ 2000) (h : (sv x + sv y).natAbs < 2 ^ F) :
    ∃ r, fadd x y = some r ∧ Fin r ∧ 2 * (sv r - (sv x + sv y)).natAbs ≤ 2 ^ (F - 53) := by
  obtain ⟨s, m, i, rx, hi, ex⟩ := read_fin hx
  obtain ⟨t, n, j, ry, hj, ey⟩ := read_fin hy
  rw [ex, ey] at h ⊢
  obtain ⟨d, hd, f1, f2⟩ := sum_near S hS s m i t n j hi hj F hF hF2 h
  refine ⟨double.write d, ?_, f1, f2⟩
  show (Datum.sum (double.read x) (double.read y)).map double.write = _
  rw [rx, ry, hd]; rfl

theorem fsub_near (S : Nat) (hS : S = 1074) {x y : Nat} (hx : Fin x) (hy : Fin y) (F : Nat) (hF : 53 ≤ F) (hF2 : F ≤ 2000) (h : (sv x - sv y).natAbs < 2 ^ F) :
    ∃ r, fsub x y = some r ∧ Fin r ∧ 2 * (sv r - (sv x - sv y)).natAbs ≤ 2 ^ (F - 53) := by
  obtain ⟨s, m, i, rx, hi, ex⟩ := read_fin hx
  obtain ⟨t, n, j, ry, hj, ey⟩ := read_fin hy
  rw [ex, ey, Int.sub_eq_add_neg, ← signed_opp] at h ⊢
  obtain ⟨d, hd, f1, f2⟩ := sum_near S hS s m i (!t) n j hi hj F hF hF2 h
  refine ⟨double.write d, ?_, f1, f2⟩
  show (Datum.sum (double.read x) (double.read y).opposite).map double.write = _
  rw [rx, ry]
  show (Datum.sum (.number s m i) (.number (!t) n j)).map double.write = _
  rw [hd]; rfl

/-- a product -/
theorem fmul_near (S : Nat) (hS : S = 1074) {x y : Nat} (hx : Fin x) (hy : Fin y) (F : Nat) (hF : 53 ≤ F) (hF2 : F ≤ 2000) (h : (sv x * sv y).natAbs < 2 ^ (F + S)) :
    ∃ r, fmul x y = some r ∧ Fin r ∧ 2 * (sv r * ((2 ^ S : Nat) : Int) - sv x * sv y).natAbs ≤ 2 ^ (F + (S - 53)) := by
  obtain ⟨s, m, i, rx, hi, ex⟩ := read_fin hx
  obtain ⟨t, n, j, ry, hj, ey⟩ := read_fin hy
  have e3 : (i + j + 2 * (S : Int)).toNat = (i + 1074).toNat + (j + 1074).toNat := by omega
  have ep : signed (s ^^ t) (m * n) (i + j + 2 * (S : Int)).toNat = sv x * sv y := by
    rw [ex, ey, e3, signed_eq, signed_eq, signed_eq, Nat.pow_add]
    have : ((m * n * (2 ^ (i + 1074).toNat * 2 ^ (j + 1074).toNat) : Nat) : Int) = ((m * 2 ^ (i + 1074).toNat : Nat) : Int) * ((n * 2 ^ (j + 1074).toNat : Nat) : Int) := by
      rw [← Int.natCast_mul]; congr 1
      generalize 2 ^ (i + 1074).toNat = a
      generalize 2 ^ (j + 1074).toNat = b
      rw [Nat.mul_assoc, Nat.mul_assoc, ← Nat.mul_assoc n, Nat.mul_comm n a, Nat.mul_assoc]
    rw [this]
    cases s <;> cases t <;> simp [Int.neg_mul, Int.mul_neg]
  have hab : (m * n) * 2 ^ (i + j + 2 * (S : Int)).toNat = (sv x * sv y).natAbs := by
    rw [← ep, signed_eq]; cases (s ^^ t) <;> simp only [Bool.false_eq_true, if_false, if_true, Int.natAbs_neg, Int.natAbs_natCast]
  obtain ⟨f1, f2⟩ := nearest_err S hS (s ^^ t) (m * n) (i + j) F (by omega) hF hF2 (by rw [hab]; exact h)
  refine ⟨double.nearest (s ^^ t) (m * n) (i + j), ?_, f1, ?_⟩
  · show (Datum.product (double.read x) (double.read y)).map double.write = _
    rw [rx, ry]; rfl
  · rw [ep] at f2; exact f2
end Go.Proofs.Ytoeeceemoggffaa
