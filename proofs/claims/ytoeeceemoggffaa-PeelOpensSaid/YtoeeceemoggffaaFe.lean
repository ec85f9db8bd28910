/- Whole numbers among the floats: sums, differences and products of them are exact. Plain arithmetic. -/
import Derived.Test.YtoeeceemoggffaaFr
import Derived.Test.YtoeeceemoggffaaRq
namespace Go.Proofs.Ytoeeceemoggffaa
open Ieee

theorem pow_pos_int (k : Nat) : (0 : Int) < ((2 ^ k : Nat) : Int) := Int.ofNat_lt.2 (Nat.two_pow_pos k)
theorem mg_zero : mg 0 = 0 := by decide

/-- the nearest word lies on a grid of 2^d, no coarser than F tells, within half a step -/
theorem nearest_grid (S : Nat) (hS : S = 1074) (s : Bool) (m : Nat) (e : Int) (F : Nat) (he : -2148 ≤ e) (hF : 53 ≤ F) (hF2 : F ≤ 2000) (hV : m * 2 ^ (e + 2 * (S : Int)).toNat < 2 ^ (F + S)) :
    Fin (double.nearest s m e) ∧ double.nearest s m e < 18446744073709551616 ∧ ∃ k d, d ≤ F - 53 ∧ sv (double.nearest s m e) = (if s then -((k * 2 ^ d : Nat) : Int) else ((k * 2 ^ d : Nat) : Int)) ∧ 2 * (k * 2 ^ (d + S)) ≤ 2 * (m * 2 ^ (e + 2 * (S : Int)).toNat) + 2 ^ (d + S) ∧ 2 * (m * 2 ^ (e + 2 * (S : Int)).toNat) ≤ 2 * (k * 2 ^ (d + S)) + 2 ^ (d + S) := by
  by_cases h0 : m = 0
  · subst h0
    have : double.nearest s 0 e = double.word s 0 := by unfold Format.nearest; rw [if_pos rfl]
    rw [this]
    obtain ⟨h1, h2⟩ := sv_word s 0 (by decide)
    exact ⟨h1, by unfold Format.word; rw [c_sw]; split <;> omega, 0, 0, by omega, by rw [h2, mg_zero, Nat.zero_mul], by simp, by simp⟩
  · have hlog : 2 ^ m.log2 ≤ m := Nat.log2_self_le h0
    have hlog2 : m < 2 ^ (m.log2 + 1) := Nat.lt_log2_self
    generalize hL : m.log2 = L at *
    have hb : L + (e + 2 * (S : Int)).toNat < F + S := by
      have : 2 ^ (L + (e + 2 * (S : Int)).toNat) < 2 ^ (F + S) := by
        rw [Nat.pow_add]
        exact Nat.lt_of_le_of_lt (Nat.mul_le_mul_right _ hlog) hV
      exact (Nat.pow_lt_pow_iff_right (by decide)).1 this
    clear hV
    obtain ⟨last, hlast⟩ : ∃ last, last = max (e + (L : Int) - 52) (-1074) := ⟨_, rfl⟩
    obtain ⟨kept, hkept⟩ : ∃ kept, kept = Toward.even.cut s (m <<< (e - last).toNat) (last - e).toNat := ⟨_, rfl⟩
    obtain ⟨d, hd⟩ : ∃ d, d = (last + 1074).toNat := ⟨_, rfl⟩
    have hdF : d ≤ F - 53 := by omega
    -- the digits kept
    have key : kept ≤ 2 ^ 53 ∧ (d = 0 ∨ 2 ^ 52 ≤ kept) ∧ 2 * (kept * 2 ^ (d + S)) ≤ 2 * (m * 2 ^ (e + 2 * (S : Int)).toNat) + 2 ^ (d + S) ∧ 2 * (m * 2 ^ (e + 2 * (S : Int)).toNat) ≤ 2 * (kept * 2 ^ (d + S)) + 2 ^ (d + S) := by
      by_cases hc : e ≤ last
      · have e1 : (e - last).toNat = 0 := by omega
        rw [e1, Nat.shiftLeft_zero] at hkept
        obtain ⟨dr, hdr⟩ : ∃ dr, dr = (last - e).toNat := ⟨_, rfl⟩
        rw [← hdr] at hkept
        have e2 : d + S = dr + (e + 2 * (S : Int)).toNat := by omega
        obtain ⟨c1, c2⟩ := cut_near s m dr
        rw [← hkept] at c1 c2
        have hup : m < 2 ^ 53 * 2 ^ dr := by
          rw [← Nat.pow_add]
          exact Nat.lt_of_lt_of_le hlog2 (Nat.pow_le_pow_right (by decide) (by omega))
        have hg : 0 < 2 ^ dr := Nat.two_pow_pos _
        refine ⟨?_, ?_, ?_, ?_⟩
        · -- 2 kept g ≤ 2 m + g < (2^54 + 1) g
          have h3 : (2 * kept) * 2 ^ dr < (2 ^ 54 + 1) * 2 ^ dr := by
            rw [Nat.mul_assoc, Nat.add_mul]; omega
          have := Nat.lt_of_mul_lt_mul_right h3
          omega
        · by_cases hd0 : d = 0
          · exact .inl hd0
          · refine .inr ?_
            have hlo : 2 ^ 52 * 2 ^ dr ≤ m := by
              rw [← Nat.pow_add]
              exact Nat.le_trans (Nat.pow_le_pow_right (by decide) (by omega)) hlog
            have h3 : (2 ^ 53) * 2 ^ dr ≤ (2 * kept + 1) * 2 ^ dr := by
              rw [Nat.add_mul, Nat.mul_assoc]; omega
            have := Nat.le_of_mul_le_mul_right h3 hg
            omega
        · rw [e2, Nat.pow_add, ← Nat.mul_assoc, ← Nat.mul_assoc, ← Nat.mul_assoc, ← Nat.add_mul]
          exact Nat.mul_le_mul_right _ (by rw [Nat.mul_assoc]; exact c1)
        · rw [e2, Nat.pow_add, ← Nat.mul_assoc, ← Nat.mul_assoc, ← Nat.mul_assoc, ← Nat.add_mul]
          exact Nat.mul_le_mul_right _ (by rw [Nat.mul_assoc]; exact c2)
      · have e1 : (last - e).toNat = 0 := by omega
        rw [e1] at hkept
        obtain ⟨c1, c2⟩ := cut_near s (m <<< (e - last).toNat) 0
        rw [← hkept] at c1 c2
        have ek : kept = m * 2 ^ (e - last).toNat := by
          rw [Nat.shiftLeft_eq] at c1 c2
          simp only [Nat.pow_zero, Nat.mul_one] at c1 c2
          omega
        have e2 : (e + 2 * (S : Int)).toNat = (e - last).toNat + (d + S) := by omega
        have hsame : m * 2 ^ (e + 2 * (S : Int)).toNat = kept * 2 ^ (d + S) := by
          rw [e2, ek, Nat.pow_add, Nat.mul_assoc]
        refine ⟨?_, ?_, by rw [hsame]; exact Nat.le_add_right _ _, by rw [hsame]; exact Nat.le_add_right _ _⟩
        · rw [ek]
          have : m * 2 ^ (e - last).toNat < 2 ^ (L + 1) * 2 ^ (e - last).toNat := Nat.mul_lt_mul_of_pos_right hlog2 (Nat.two_pow_pos _)
          rw [← Nat.pow_add] at this
          exact Nat.le_of_lt (Nat.lt_of_lt_of_le this (Nat.pow_le_pow_right (by decide) (by omega)))
        · by_cases hd0 : d = 0
          · exact .inl hd0
          · refine .inr ?_
            rw [ek]
            have : 2 ^ L * 2 ^ (e - last).toNat ≤ m * 2 ^ (e - last).toNat := Nat.mul_le_mul_right _ hlog
            rw [← Nat.pow_add] at this
            exact Nat.le_trans (Nat.pow_le_pow_right (by decide) (by omega)) this
    obtain ⟨k1, k2, k3, k4⟩ := key
    have hrung := rung_lt hdF hF2 k1
    have hmin : min ((last + 1074).toNat * 2 ^ 52 + kept) (2047 * 2 ^ 52) = d * 2 ^ 52 + kept := by rw [← hd]; exact Nat.min_eq_left (Nat.le_of_lt hrung)
    have hn : double.nearest s m e = double.word s (min ((last + 1074).toNat * 2 ^ 52 + kept) (2047 * 2 ^ 52)) := by
      unfold Format.nearest
      rw [if_neg h0]
      simp only [c_lp, c_bin, c_inf, hL]
      rw [hkept, hlast]
      rfl
    rw [hn, hmin]
    obtain ⟨f1, f2⟩ := sv_word s _ hrung
    refine ⟨f1, ?_, kept, d, hdF, ?_, k3, k4⟩
    · clear k3 k4 hn hmin f1 f2
      unfold Format.word; rw [c_sw]; split <;> omega
    · rw [f2, mg_rung d kept k2 k1]

theorem grid_eq {k A g : Nat} (hg : 0 < g) (h1 : 2 * (k * g) ≤ 2 * (A * g) + g) (h2 : 2 * (A * g) ≤ 2 * (k * g) + g) : k = A := by
  have e1 : (2 * k) * g ≤ (2 * A + 1) * g := by rw [Nat.add_mul, Nat.mul_assoc, Nat.mul_assoc]; omega
  have e2 : (2 * A) * g ≤ (2 * k + 1) * g := by rw [Nat.add_mul, Nat.mul_assoc, Nat.mul_assoc]; omega
  have := Nat.le_of_mul_le_mul_right e1 hg
  have := Nat.le_of_mul_le_mul_right e2 hg
  omega

theorem nearest_exact (S : Nat) (hS : S = 1074) (s : Bool) (m : Nat) (e : Int) (a : Nat) (he : -2148 ≤ e) (ha : a < 2 ^ 53) (hV : m * 2 ^ (e + 2 * (S : Int)).toNat = a * 2 ^ (S + S)) :
    Fin (double.nearest s m e) ∧ double.nearest s m e < 18446744073709551616 ∧ sv (double.nearest s m e) = (if s then -((a * 2 ^ S : Nat) : Int) else ((a * 2 ^ S : Nat) : Int)) := by
  have hlt : m * 2 ^ (e + 2 * (S : Int)).toNat < 2 ^ ((S + 53) + S) := by
    rw [hV, show S + 53 + S = 53 + (S + S) by omega, Nat.pow_add 2 53]
    exact Nat.mul_lt_mul_of_pos_right ha (Nat.two_pow_pos _)
  obtain ⟨f1, f2, k, d, hd, hs, h1, h2⟩ := nearest_grid S hS s m e (S + 53) he (by omega) (by omega) hlt
  refine ⟨f1, f2, ?_⟩
  rw [hs]
  have hd' : d ≤ S := by omega
  have e1 : a * 2 ^ (S + S) = (a * 2 ^ (S - d)) * 2 ^ (d + S) := by
    rw [Nat.mul_assoc, ← Nat.pow_add]; congr 2; omega
  rw [hV, e1] at h1 h2
  have hk := grid_eq (Nat.two_pow_pos _) h1 h2
  have e2 : k * 2 ^ d = a * 2 ^ S := by
    rw [hk, Nat.mul_assoc, ← Nat.pow_add]; congr 2; omega
  rw [e2]

/-- the word x is the whole number a -/
structure Whole (x : Nat) (a : Int) : Prop where
  lt : x < 18446744073709551616
  fin : Fin x
  val : ∀ S : Nat, S = 1074 → sv x = a * ((2 ^ S : Nat) : Int)

theorem whole_of (S : Nat) (hS : S = 1074) {x : Nat} {a : Int} (h1 : x < 18446744073709551616) (h2 : Fin x) (h3 : sv x = a * ((2 ^ S : Nat) : Int)) : Whole x a :=
  ⟨h1, h2, fun T hT => by rw [hT, ← hS]; exact h3⟩

theorem signed_abs (b : Bool) (a : Int) (g : Nat) (h0 : a ≠ 0 → b = decide (a < 0)) : (if b then -((a.natAbs * g : Nat) : Int) else ((a.natAbs * g : Nat) : Int)) = a * (g : Int) := by
  by_cases ha : a = 0
  · subst ha; cases b <;> simp
  · rw [h0 ha]
    by_cases hn : a < 0
    · rw [decide_eq_true hn, if_pos rfl, Int.natCast_mul, ← Int.neg_mul]; congr 1; omega
    · rw [decide_eq_false hn, if_neg (by decide), Int.natCast_mul]; congr 1; omega

theorem sum_whole (S : Nat) (hS : S = 1074) (s : Bool) (m : Nat) (i : Int) (t : Bool) (n : Nat) (j : Int) (hi : -1074 ≤ i) (hj : -1074 ≤ j) (a : Int) (ha : a.natAbs < 2 ^ 53)
    (h : signed s m (i + 1074).toNat + signed t n (j + 1074).toNat = a * ((2 ^ S : Nat) : Int)) :
    ∃ d, Datum.sum (.number s m i) (.number t n j) = some d ∧ Whole (double.write d) a := by
  obtain ⟨b, hb⟩ : ∃ b, b = min i j := ⟨_, rfl⟩
  have hb0 : -1074 ≤ b := by omega
  have e1 : (i + 1074).toNat = (i - b).toNat + (b + 1074).toNat := by omega
  have e2 : (j + 1074).toNat = (j - b).toNat + (b + 1074).toNat := by omega
  rw [e1, e2, signed_up, signed_up, ← Int.add_mul] at h
  refine ⟨_, rfl, ?_⟩
  simp only [← hb]
  generalize signed s m (i - b).toNat + signed t n (j - b).toNat = T at *
  have e3 : (b + 2 * (S : Int)).toNat = (b + 1074).toNat + S := by omega
  have hV : T.natAbs * 2 ^ (b + 2 * (S : Int)).toNat = a.natAbs * 2 ^ (S + S) := by
    have h4 := congrArg Int.natAbs h
    rw [Int.natAbs_mul, Int.natAbs_mul, Int.natAbs_natCast, Int.natAbs_natCast] at h4
    rw [e3, Nat.pow_add, Nat.pow_add, ← Nat.mul_assoc, ← Nat.mul_assoc, h4]
  have hsgn : a ≠ 0 → (if T = 0 then s && t else decide (T < 0)) = decide (a < 0) := by
    intro ha0
    have p1 : (0 : Int) < ((2 ^ S : Nat) : Int) := pow_pos_int S
    have p2 : (0 : Int) < ((2 ^ (b + 1074).toNat : Nat) : Int) := pow_pos_int _
    have hT : T ≠ 0 := by
      rintro rfl
      rw [Int.zero_mul] at h
      rcases Int.mul_eq_zero.1 h.symm with h5 | h5
      · exact ha0 h5
      · omega
    rw [if_neg hT]
    generalize ((2 ^ S : Nat) : Int) = g1 at *
    generalize ((2 ^ (b + 1074).toNat : Nat) : Int) = g2 at *
    by_cases hn : a < 0
    · have : a * g1 < 0 := Int.mul_neg_of_neg_of_pos hn p1
      have : T < 0 := by
        by_cases h6 : T < 0
        · exact h6
        · have := Int.mul_nonneg (show 0 ≤ T by omega) (Int.le_of_lt p2)
          omega
      rw [decide_eq_true hn, decide_eq_true this]
    · have : 0 < a * g1 := Int.mul_pos (by omega) p1
      have : ¬ T < 0 := by
        intro h6
        have := Int.mul_neg_of_neg_of_pos h6 p2
        omega
      rw [decide_eq_false hn, decide_eq_false this]
  obtain ⟨f1, f2, f3⟩ := nearest_exact S hS (if T = 0 then s && t else decide (T < 0)) T.natAbs b a.natAbs (by omega) ha hV
  refine whole_of S hS f2 f1 ?_
  change sv (double.nearest (if T = 0 then s && t else decide (T < 0)) T.natAbs b) = _
  rw [f3, signed_abs _ _ _ hsgn]

theorem whole_add {x y : Nat} {a b : Int} (hx : Whole x a) (hy : Whole y b) (h : (a + b).natAbs < 2 ^ 53) : ∃ r, fadd x y = some r ∧ Whole r (a + b) := by
  obtain ⟨S, hS⟩ : ∃ S : Nat, S = 1074 := ⟨_, rfl⟩
  obtain ⟨s, m, i, rx, hi, ex⟩ := read_fin hx.fin
  obtain ⟨t, n, j, ry, hj, ey⟩ := read_fin hy.fin
  have e := hx.val S hS
  have e' := hy.val S hS
  rw [ex] at e
  rw [ey] at e'
  obtain ⟨d, hd, f⟩ := sum_whole S hS s m i t n j hi hj (a + b) h (by rw [e, e', Int.add_mul])
  refine ⟨double.write d, ?_, f⟩
  show (Datum.sum (double.read x) (double.read y)).map double.write = _
  rw [rx, ry, hd]; rfl

theorem whole_sub {x y : Nat} {a b : Int} (hx : Whole x a) (hy : Whole y b) (h : (a - b).natAbs < 2 ^ 53) : ∃ r, fsub x y = some r ∧ Whole r (a - b) := by
  obtain ⟨S, hS⟩ : ∃ S : Nat, S = 1074 := ⟨_, rfl⟩
  obtain ⟨s, m, i, rx, hi, ex⟩ := read_fin hx.fin
  obtain ⟨t, n, j, ry, hj, ey⟩ := read_fin hy.fin
  have e := hx.val S hS
  have e' := hy.val S hS
  rw [ex] at e
  rw [ey] at e'
  obtain ⟨d, hd, f⟩ := sum_whole S hS s m i (!t) n j hi hj (a - b) h (by rw [signed_opp, e, e', Int.sub_mul]; rfl)
  refine ⟨double.write d, ?_, f⟩
  show (Datum.sum (double.read x) (double.read y).opposite).map double.write = _
  rw [rx, ry]
  show (Datum.sum (.number s m i) (.number (!t) n j)).map double.write = _
  rw [hd]; rfl

theorem whole_mul {x y : Nat} {a b : Int} (hx : Whole x a) (hy : Whole y b) (h : (a * b).natAbs < 2 ^ 53) : ∃ r, fmul x y = some r ∧ Whole r (a * b) := by
  obtain ⟨S, hS⟩ : ∃ S : Nat, S = 1074 := ⟨_, rfl⟩
  obtain ⟨s, m, i, rx, hi, ex⟩ := read_fin hx.fin
  obtain ⟨t, n, j, ry, hj, ey⟩ := read_fin hy.fin
  have e3 : (i + j + 2 * (S : Int)).toNat = (i + 1074).toNat + (j + 1074).toNat := by omega
  have vx := hx.val S hS
  have vy := hy.val S hS
  have ep : signed (s ^^ t) (m * n) (i + j + 2 * (S : Int)).toNat = sv x * sv y := by
    rw [ex, ey, e3, signed_eq, signed_eq, signed_eq, Nat.pow_add]
    have : ((m * n * (2 ^ (i + 1074).toNat * 2 ^ (j + 1074).toNat) : Nat) : Int) = ((m * 2 ^ (i + 1074).toNat : Nat) : Int) * ((n * 2 ^ (j + 1074).toNat : Nat) : Int) := by
      rw [← Int.natCast_mul]; congr 1
      generalize 2 ^ (i + 1074).toNat = u
      generalize 2 ^ (j + 1074).toNat = v
      rw [Nat.mul_assoc, Nat.mul_assoc, ← Nat.mul_assoc n, Nat.mul_comm n u, Nat.mul_assoc]
    rw [this]
    cases s <;> cases t <;> simp [Int.neg_mul, Int.mul_neg]
  rw [vx, vy] at ep
  have ep2 : signed (s ^^ t) (m * n) (i + j + 2 * (S : Int)).toNat = (a * b) * ((2 ^ (S + S) : Nat) : Int) := by
    rw [ep, Nat.pow_add, Int.natCast_mul]
    generalize ((2 ^ S : Nat) : Int) = g
    rw [Int.mul_assoc, ← Int.mul_assoc g, Int.mul_comm g b, Int.mul_assoc, Int.mul_assoc]
  have hV : (m * n) * 2 ^ (i + j + 2 * (S : Int)).toNat = (a * b).natAbs * 2 ^ (S + S) := by
    have h4 := congrArg Int.natAbs ep2
    rw [Int.natAbs_mul, Int.natAbs_natCast, signed_eq] at h4
    rw [← h4]
    cases (s ^^ t) <;> simp only [Bool.false_eq_true, if_false, if_true, Int.natAbs_neg, Int.natAbs_natCast]
  have hsgn : a * b ≠ 0 → (s ^^ t) = decide (a * b < 0) := by
    intro h0
    have p1 : (0 : Int) < ((2 ^ (S + S) : Nat) : Int) := pow_pos_int _
    rw [signed_eq] at ep2
    generalize ((2 ^ (S + S) : Nat) : Int) = g at *
    have hz : (0 : Int) ≤ ((m * n * 2 ^ (i + j + 2 * (S : Int)).toNat : Nat) : Int) := Int.natCast_nonneg _
    generalize ((m * n * 2 ^ (i + j + 2 * (S : Int)).toNat : Nat) : Int) = z at *
    by_cases hn : a * b < 0
    · have := Int.mul_neg_of_neg_of_pos hn p1
      rw [decide_eq_true hn]
      cases hb : (s ^^ t)
      · rw [hb] at ep2
        simp only [Bool.false_eq_true, if_false] at ep2
        omega
      · rfl
    · have := Int.mul_pos (show 0 < a * b by omega) p1
      rw [decide_eq_false hn]
      cases hb : (s ^^ t)
      · rfl
      · rw [hb] at ep2
        simp only [if_true] at ep2
        omega
  obtain ⟨f1, f2, f3⟩ := nearest_exact S hS (s ^^ t) (m * n) (i + j) (a * b).natAbs (by omega) h hV
  refine ⟨double.nearest (s ^^ t) (m * n) (i + j), ?_, whole_of S hS f2 f1 ?_⟩
  · show (Datum.product (double.read x) (double.read y)).map double.write = _
    rw [rx, ry]; rfl
  · rw [f3, signed_abs _ _ _ hsgn]

theorem mg_lt_succ (r : Nat) : mg r < mg (r + 1) := by
  unfold mg
  by_cases h1 : r + 1 < 2 ^ 52
  · rw [if_pos (by omega), if_pos h1]; omega
  · rw [if_neg h1]
    by_cases h2 : r < 2 ^ 52
    · have e1 : (r + 1) / 2 ^ 52 - 1 = 0 := by omega
      have e2 : (r + 1) % 2 ^ 52 = 0 := by omega
      rw [if_pos h2, e1, e2]
      omega
    · rw [if_neg h2]
      by_cases h3 : (r + 1) % 2 ^ 52 = 0
      · have e1 : (r + 1) / 2 ^ 52 - 1 = (r / 2 ^ 52 - 1) + 1 := by omega
        have e2 : r % 2 ^ 52 = 2 ^ 52 - 1 := by omega
        rw [e1, h3, e2, Nat.pow_succ 2 (r / 2 ^ 52 - 1)]
        have := Nat.two_pow_pos (r / 2 ^ 52 - 1)
        generalize 2 ^ (r / 2 ^ 52 - 1) = g at *
        omega
      · have e1 : (r + 1) / 2 ^ 52 = r / 2 ^ 52 := by omega
        have e2 : (r + 1) % 2 ^ 52 = r % 2 ^ 52 + 1 := by omega
        rw [e1, e2]
        exact Nat.mul_lt_mul_of_pos_right (by omega) (Nat.two_pow_pos _)

theorem mg_mono {r : Nat} : ∀ k, mg r < mg (r + (k + 1))
  | 0 => mg_lt_succ r
  | k + 1 => Nat.lt_trans (mg_mono k) (mg_lt_succ _)

theorem mg_inj {r t : Nat} (h : mg r = mg t) : r = t := by
  rcases Nat.lt_trichotomy r t with h1 | h1 | h1
  · obtain ⟨k, rfl⟩ : ∃ k, t = r + (k + 1) := ⟨t - r - 1, by omega⟩
    have := mg_mono (r := r) k
    omega
  · exact h1
  · obtain ⟨k, rfl⟩ : ∃ k, r = t + (k + 1) := ⟨r - t - 1, by omega⟩
    have := mg_mono (r := t) k
    omega

theorem mg_eq_zero {r : Nat} (h : mg r = 0) : r = 0 := mg_inj (h.trans mg_zero.symm)

theorem sv_eq_zero {x : Nat} : sv x = 0 ↔ x % 2 ^ 63 = 0 := by
  unfold sv
  constructor
  · intro h
    apply mg_eq_zero
    split at h <;> omega
  · intro h
    rw [h, mg_zero]; simp

theorem sv_inj {x y : Nat} (hx : x < 18446744073709551616) (hy : y < 18446744073709551616) (h : sv x = sv y) (h0 : sv x ≠ 0) : x = y := by
  have z1 : x % 2 ^ 63 ≠ 0 := fun h => h0 (sv_eq_zero.2 h)
  have z2 : y % 2 ^ 63 ≠ 0 := fun h => h0 (by rw [‹sv x = sv y›]; exact sv_eq_zero.2 h)
  have m1 : mg (x % 2 ^ 63) ≠ 0 := fun h => z1 (mg_eq_zero h)
  have m2 : mg (y % 2 ^ 63) ≠ 0 := fun h => z2 (mg_eq_zero h)
  have key : ∀ b c : Bool, (x / 2 ^ 63 % 2 == 1) = b → (y / 2 ^ 63 % 2 == 1) = c → mg (x % 2 ^ 63) = mg (y % 2 ^ 63) ∧ b = c := by
    intro b c hb hc
    unfold sv at h
    rw [hb, hc] at h
    cases b <;> cases c <;> simp only [if_true, Bool.false_eq_true, if_false] at h <;> first | exact ⟨by omega, rfl⟩ | omega
  obtain ⟨k1, k2⟩ := key _ _ rfl rfl
  have k3 := mg_inj k1
  have k4 : x / 2 ^ 63 % 2 = y / 2 ^ 63 % 2 := by
    by_cases g1 : x / 2 ^ 63 % 2 = 1 <;> by_cases g2 : y / 2 ^ 63 % 2 = 1 <;> simp [g1, g2] at k2 <;> omega
  omega

theorem Whole.zero {x : Nat} {a : Int} (h : Whole x a) : x % 2 ^ 63 = 0 ↔ a = 0 := by
  obtain ⟨S, hS⟩ : ∃ S : Nat, S = 1074 := ⟨_, rfl⟩
  rw [← sv_eq_zero, h.val S hS]
  have p1 : (0 : Int) < ((2 ^ S : Nat) : Int) := pow_pos_int S
  generalize ((2 ^ S : Nat) : Int) = g at *
  constructor
  · intro h; rcases Int.mul_eq_zero.1 h with h | h
    · exact h
    · omega
  · rintro rfl; simp

theorem Whole.uniq {x y : Nat} {a : Int} (h : Whole x a) (k : Whole y a) (h0 : a ≠ 0) : x = y := by
  have z : sv x ≠ 0 := fun e => h0 (h.zero.1 (sv_eq_zero.1 e))
  exact sv_inj h.lt k.lt ((h.val _ rfl).trans (k.val _ rfl).symm) z

/-- the word of a whole number, none of them a negative zero -/
def fint (a : Int) : Nat := if a = 0 then 0 else double.nearest (decide (a < 0)) a.natAbs 0

theorem whole_fint {a : Int} (h : a.natAbs < 2 ^ 53) : Whole (fint a) a := by
  obtain ⟨S, hS⟩ : ∃ S : Nat, S = 1074 := ⟨_, rfl⟩
  unfold fint
  by_cases h0 : a = 0
  · subst h0
    rw [if_pos rfl]
    refine whole_of S hS (by decide) (by unfold Fin; decide) ?_
    rw [Int.zero_mul]
    exact sv_eq_zero.2 (by decide)
  · rw [if_neg h0]
    obtain ⟨f1, f2, f3⟩ := nearest_exact S hS (decide (a < 0)) a.natAbs 0 a.natAbs (by omega) h (by congr 2; omega)
    exact whole_of S hS f2 f1 (by rw [f3, signed_abs _ _ _ (fun _ => rfl)])

theorem Whole.plain {x : Nat} {a : Int} (h : Whole x a) (ha : a.natAbs < 2 ^ 53) : plain1 x = fint a := by
  unfold plain1
  rw [feq_zero h.lt]
  by_cases h0 : a = 0
  · have : x % 9223372036854775808 = 0 := h.zero.2 h0
    rw [if_pos (decide_eq_true this), h0]; rfl
  · have : ¬ x % 9223372036854775808 = 0 := fun e => h0 (h.zero.1 e)
    rw [if_neg (by rw [decide_eq_false this]; decide)]
    exact h.uniq (whole_fint ha) h0

theorem whole_neg {x : Nat} {a : Int} (h : Whole x a) : Whole (fneg x) (-a) := by
  obtain ⟨S, hS⟩ : ∃ S : Nat, S = 1074 := ⟨_, rfl⟩
  have hm : fneg x % 2 ^ 63 = x % 2 ^ 63 := fneg_mod x
  refine whole_of S hS (fneg_lt h.lt) (by unfold Fin; rw [hm]; exact h.fin) ?_
  rw [Int.neg_mul, ← h.val S hS]
  have hsb : ∀ x : Nat, (x / 2 ^ 63 % 2 == 1) = x.testBit 63 := by
    intro x
    rw [Nat.testBit_eq_decide_div_mod_eq]
    by_cases h : x / 2 ^ 63 % 2 = 1 <;> simp [h]
  have h63 : (fneg x).testBit 63 = !x.testBit 63 := by
    unfold fneg
    rw [Nat.testBit_xor]
    have : (9223372036854775808 : Nat).testBit 63 = true := by decide
    rw [this]; simp
  unfold sv
  rw [hsb, hsb, h63, hm]
  cases x.testBit 63 <;> simp
end Go.Proofs.Ytoeeceemoggffaa
