/- What the law on near roots asks, as a law on words: for every order and places. Plain arithmetic. -/
import Derived.Test.YtoeeceemoggffaaZp
namespace Go.Proofs.Ytoeeceemoggffaa
open Ieee

/-- without its sign -/
def absf (x : Nat) : Nat := x % 9223372036854775808

theorem Fin_absf {x : Nat} (h : Fin x) : Fin (absf x) := by
  unfold Fin absf at *
  omega

theorem sv_absf (x : Nat) : sv (absf x) = ((sv x).natAbs : Int) := by
  have e1 : absf x / 2 ^ 63 % 2 = 0 := by unfold absf; omega
  have e2 : absf x % 2 ^ 63 = x % 2 ^ 63 := by unfold absf; omega
  have hx : sv (absf x) = (mg (x % 2 ^ 63) : Int) := by
    unfold sv; rw [e1, e2]; rfl
  rw [hx]
  unfold sv
  split <;> simp

/-- not above a bound -/
def leB (x y : Nat) : Bool := FloatKind.f64.format.order x y == some .lt || FloatKind.f64.format.order x y == some .eq

theorem leB_of {x y : Nat} (hx : Fin x) (hy : Fin y) (h : sv x ≤ sv y) : leB x y = true := by
  have : FloatKind.f64.format.order x y = some (compare (sv x) (sv y)) := order_sv hx hy
  unfold leB
  rw [this]
  rcases Int.lt_or_eq_of_le h with h | h
  · rw [Int.compare_eq_lt.2 h]; rfl
  · rw [h, Int.compare_eq_eq.2 rfl]; rfl

theorem eq_self {x : Nat} (hx : Fin x) : FloatKind.f64.format.order x x = some .eq := by
  have : FloatKind.f64.format.order x x = some (compare (sv x) (sv x)) := order_sv hx hx
  rw [this, Int.compare_eq_eq.2 rfl]

/-- 2^-44 and 2^-46 -/
theorem sv44 (S : Nat) (h : S = 1074) : sv 4409024035195715584 = ((2 ^ (S - 44) : Nat) : Int) := by subst h; decide +kernel
theorem sv46 (S : Nat) (h : S = 1074) : sv 4400016835940974592 = ((2 ^ (S - 46) : Nat) : Int) := by subst h; decide +kernel
theorem sv_one (S : Nat) (h : S = 1074) : sv wOne = ((2 ^ S : Nat) : Int) := by subst h; decide +kernel
theorem fin44 : Fin 4409024035195715584 := by unfold Fin; decide
theorem fin46 : Fin 4400016835940974592 := by unfold Fin; decide
theorem fin_one : Fin wOne := by unfold Fin; decide

theorem R_up : ∀ d t i, t + d ≤ 12 → i < 2 ^ t → R (t + d) (i * 2 ^ d) = R t i := by
  intro d
  induction d with
  | zero => intro t i _ _; rw [Nat.pow_zero, Nat.mul_one]; rfl
  | succ d ih =>
    intro t i h hi
    have hlt : i * 2 ^ d < 2 ^ (t + d) := by rw [Nat.pow_add]; exact Nat.mul_lt_mul_of_pos_right hi (Nat.two_pow_pos _)
    have := R_double (t := t + d) (j := i * 2 ^ d) (by omega) hlt
    rw [ih t i (by omega) hi] at this
    rw [← this, Nat.pow_succ]
    show R (t + d + 1) _ = _
    congr 1
    rw [Nat.mul_comm (2 ^ d) 2, Nat.mul_left_comm]

/-- the place at order 4096 -/
theorem R_4096 {t i : Nat} (ht : t ≤ 12) (hi : i < 2 ^ t) : R t i = R 12 (i * 2 ^ (12 - t)) := by
  have := R_up (12 - t) t i (by omega) hi
  rw [show t + (12 - t) = 12 by omega] at this
  exact this.symm

theorem zW_128 : zW.toNat = 2 ^ 128 := by decide
theorem zW_int : zW = ((2 ^ 128 : Nat) : Int) := by decide

theorem Zf_le (J : Nat) : (Zf J).1.natAbs ≤ 2 ^ 128 ∧ (Zf J).2.natAbs ≤ 2 ^ 128 := by
  obtain ⟨h1, h2, _⟩ := Zf_bound J
  rw [zW_128] at h1 h2
  exact ⟨h1, h2⟩

theorem part_near (S : Nat) {m c A X : Int} (T : Nat) (hT : T = 2 ^ (S - 128)) (hm : (m * ((2 ^ 128 : Nat) : Int) - A * (T : Int)).natAbs ≤ 2 ^ 209 * T)
    (hA : (A - ((2 ^ 128 : Nat) : Int) * X).natAbs ≤ 12288 * 2 ^ 128) (hc : (c - X * (T : Int)).natAbs ≤ 2 ^ 77 * T) : (m - c).natAbs ≤ 2 ^ 82 * T := by
  have hTp : 0 < T := by rw [hT]; exact Nat.two_pow_pos _
  clear hT
  refine close_W (W := 2 ^ 128) (by decide) ?_
  have h1 : (A * (T : Int) - ((2 ^ 128 : Nat) : Int) * X * (T : Int)).natAbs ≤ 12288 * 2 ^ 128 * T := by
    rw [← Int.sub_mul, Int.natAbs_mul, Int.natAbs_natCast]
    exact Nat.mul_le_mul_right _ hA
  have h2 : (c * ((2 ^ 128 : Nat) : Int) - ((2 ^ 128 : Nat) : Int) * X * (T : Int)).natAbs ≤ 2 ^ 77 * T * 2 ^ 128 := by
    have e : ((2 ^ 128 : Nat) : Int) * X * (T : Int) = X * (T : Int) * ((2 ^ 128 : Nat) : Int) := by
      rw [Int.mul_assoc, Int.mul_comm]
    rw [e, ← Int.sub_mul, Int.natAbs_mul, Int.natAbs_natCast]
    exact Nat.mul_le_mul_right _ hc
  generalize A * (T : Int) = P at *
  generalize ((2 ^ 128 : Nat) : Int) * X * (T : Int) = Q at *
  clear hA hc
  omega

/-- the product of two roots, and how far it lies from the root at the sum of the places -/
theorem near_mul (t i j : Nat) (ht : t ≤ 12) (hi : i < 2 ^ t) (hj : j < 2 ^ t) : ∃ m d1 d2, cmul (R t i) (R t j) = some m ∧ fsub m.1 (R t ((i + j) % 2 ^ t)).1 = some d1 ∧ fsub m.2 (R t ((i + j) % 2 ^ t)).2 = some d2 ∧
    Fin d1 ∧ Fin d2 ∧ leB (absf d1) 4409024035195715584 = true ∧ leB (absf d2) 4409024035195715584 = true := by
  obtain ⟨S, hS⟩ : ∃ S : Nat, S = 1074 := ⟨_, rfl⟩
  have hk : (i + j) % 2 ^ t < 2 ^ t := Nat.mod_lt _ (Nat.two_pow_pos _)
  rw [R_4096 ht hi, R_4096 ht hj, R_4096 ht hk]
  have e : ((i + j) % 2 ^ t) * 2 ^ (12 - t) = (i * 2 ^ (12 - t) + j * 2 ^ (12 - t)) % 4096 := by
    rw [← Nat.add_mul, ← Nat.mul_mod_mul_right, ← Nat.pow_add, show t + (12 - t) = 12 by omega]
  rw [e]
  generalize i * 2 ^ (12 - t) = I
  generalize j * 2 ^ (12 - t) = J
  have na := near_R S hS I
  have nb := near_R S hS J
  have nc := near_R S hS ((I + J) % 4096)
  rw [Zf_mod] at nc
  obtain ⟨m, hm, f1, f2, n1, n2⟩ := cmul_near S hS na nb (Zf_le I).1 (Zf_le I).2 (Zf_le J).1 (Zf_le J).2
  have hd := zdiff_near I J
  unfold zdiff zn zsub zscale at hd
  rw [zW_int] at hd
  simp only at hd
  have hw : (((2 ^ 128 : Nat) : Int)).toNat = 2 ^ 128 := by decide
  rw [hw] at hd
  have p1 := part_near S (m := sv m.1) (c := sv (R 12 ((I + J) % 4096)).1) _ rfl n1 (by omega) nc.near1
  have p2 := part_near S (m := sv m.2) (c := sv (R 12 ((I + J) % 4096)).2) _ rfl n2 (by omega) nc.near2
  obtain ⟨d1, g1, h1, k1⟩ := small_sub S hS 82 f1 nc.fin1 (by decide) p1
  obtain ⟨d2, g2, h2, k2⟩ := small_sub S hS 82 f2 nc.fin2 (by decide) p2
  have hle : 2 ^ (S - 127 + 82) ≤ 2 ^ (S - 44) := Nat.pow_le_pow_right (by decide) (by omega)
  refine ⟨m, d1, d2, hm, g1, g2, h1, h2, ?_, ?_⟩
  · refine leB_of (Fin_absf h1) fin44 ?_
    rw [sv_absf, sv44 S hS]
    exact Int.ofNat_le.2 (Nat.le_trans k1 hle)
  · refine leB_of (Fin_absf h2) fin44 ?_
    rw [sv_absf, sv44 S hS]
    exact Int.ofNat_le.2 (Nat.le_trans k2 hle)

theorem unit_near (S : Nat) {m A : Int} (T : Nat) (hT : T = 2 ^ (S - 128)) (hm : (m * ((2 ^ 128 : Nat) : Int) - A * (T : Int)).natAbs ≤ (2 ^ 208 + 2 ^ 206) * T)
    (hA : (A - ((2 ^ 128 : Nat) : Int) * ((2 ^ 128 : Nat) : Int)).natAbs ≤ 4 * 2 ^ 128) : (m - ((2 ^ 128 : Nat) : Int) * (T : Int)).natAbs ≤ 2 ^ 81 * T := by
  have hTp : 0 < T := by rw [hT]; exact Nat.two_pow_pos _
  clear hT
  refine close_W (W := 2 ^ 128) (by decide) ?_
  have h1 : (A * (T : Int) - ((2 ^ 128 : Nat) : Int) * ((2 ^ 128 : Nat) : Int) * (T : Int)).natAbs ≤ 4 * 2 ^ 128 * T := by
    rw [← Int.sub_mul, Int.natAbs_mul, Int.natAbs_natCast]
    exact Nat.mul_le_mul_right _ hA
  have e : ((2 ^ 128 : Nat) : Int) * (T : Int) * ((2 ^ 128 : Nat) : Int) = ((2 ^ 128 : Nat) : Int) * ((2 ^ 128 : Nat) : Int) * (T : Int) := by
    rw [Int.mul_assoc, Int.mul_comm (T : Int), ← Int.mul_assoc]
  rw [e]
  generalize A * (T : Int) = P at *
  generalize ((2 ^ 128 : Nat) : Int) * ((2 ^ 128 : Nat) : Int) * (T : Int) = Q at *
  clear hA
  omega

/-- the length of a root -/
theorem near_unit (t i : Nat) (ht : t ≤ 12) (hi : i < 2 ^ t) : ∃ s1 s2 s d, fmul (R t i).1 (R t i).1 = some s1 ∧ fmul (R t i).2 (R t i).2 = some s2 ∧ fadd s1 s2 = some s ∧ fsub s wOne = some d ∧
    d < 18446744073709551616 ∧ leB (absf d) 4400016835940974592 = true := by
  obtain ⟨S, hS⟩ : ∃ S : Nat, S = 1074 := ⟨_, rfl⟩
  rw [R_4096 ht hi]
  generalize i * 2 ^ (12 - t) = I
  have na := near_R S hS I
  obtain ⟨z1, z2⟩ := Zf_le I
  obtain ⟨s1, e1, f1, n1⟩ := prod_near S hS _ _ _ rfl na.fin1 na.fin1 na.near1 na.near1 z1 z1
  obtain ⟨s2, e2, f2, n2⟩ := prod_near S hS _ _ _ rfl na.fin2 na.fin2 na.near2 na.near2 z2 z2
  obtain ⟨_, ⟨s, e3, f3, n3⟩⟩ := pair_near S hS _ _ _ rfl f1 f2 n1 n2 (XYT_le z1 z1) (XYT_le z2 z2)
  have hu := (Zf_bound I).2.2
  rw [zW_int] at hu
  have p := unit_near S _ rfl n3 hu
  have e4 : ((2 ^ 128 : Nat) : Int) * ((2 ^ (S - 128) : Nat) : Int) = sv wOne := by
    rw [sv_one S hS, ← Int.natCast_mul, ← Nat.pow_add, show 128 + (S - 128) = S by omega]
  rw [e4] at p
  obtain ⟨d, g, h, k⟩ := small_sub S hS 81 f3 fin_one (by decide) p
  refine ⟨s1, s2, s, d, e1, e2, e3, g, ?_, ?_⟩
  · unfold fsub at g; exact fbits_lt g
  · refine leB_of (Fin_absf h) fin46 ?_
    rw [sv_absf, sv46 S hS]
    exact Int.ofNat_le.2 (Nat.le_trans k (Nat.pow_le_pow_right (by decide) (by omega)))
end Go.Proofs.Ytoeeceemoggffaa
