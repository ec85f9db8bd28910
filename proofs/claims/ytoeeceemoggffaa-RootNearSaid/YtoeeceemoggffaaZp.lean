/- The product of two roots lies near to the root at the sum of the places, and each length near to 1. Plain arithmetic. -/
import Derived.Test.YtoeeceemoggffaaZn
namespace Go.Proofs.Ytoeeceemoggffaa
open Ieee

theorem expand (X Y T e f : Int) : (X * T + e) * (Y * T + f) = X * Y * T * T + (X * T * f + Y * T * e + e * f) := by grind

theorem cancel_T {A B : Int} {k T : Nat} (hT : 0 < T) (h : (A * (T : Int) - B * (T : Int)).natAbs ≤ k * T) : (A - B).natAbs ≤ k := by
  rw [← Int.sub_mul, Int.natAbs_mul, Int.natAbs_natCast] at h
  exact Nat.le_of_mul_le_mul_right h hT

theorem tri3 (A B C : Int) (a b c : Nat) (h1 : A.natAbs ≤ a) (h2 : B.natAbs ≤ b) (h3 : C.natAbs ≤ c) : (A + B + C).natAbs ≤ a + b + c := by omega

theorem mul3_le (X f : Int) (T W D : Nat) (hX : X.natAbs ≤ W) (hf : f.natAbs ≤ D * T) : (X * (T : Int) * f).natAbs ≤ W * D * (T * T) := by
  rw [Int.natAbs_mul, Int.natAbs_mul, Int.natAbs_natCast]
  have h1 : X.natAbs * T * f.natAbs ≤ W * T * (D * T) := Nat.mul_le_mul (Nat.mul_le_mul_right _ hX) hf
  have e : W * T * (D * T) = W * D * (T * T) := by
    rw [Nat.mul_assoc, Nat.mul_left_comm T D T, ← Nat.mul_assoc]
  omega

theorem mul2_le (e f : Int) (T D : Nat) (he : e.natAbs ≤ D * T) (hf : f.natAbs ≤ D * T) : (e * f).natAbs ≤ D * D * (T * T) := by
  rw [Int.natAbs_mul]
  have h1 : e.natAbs * f.natAbs ≤ D * T * (D * T) := Nat.mul_le_mul he hf
  have e : D * T * (D * T) = D * D * (T * T) := by
    rw [Nat.mul_assoc, Nat.mul_left_comm T D T, ← Nat.mul_assoc]
  omega

theorem size_le {X Y : Int} {T W : Nat} (hX : X.natAbs ≤ W) (hY : Y.natAbs ≤ W) : (X * Y * (T : Int) * (T : Int)).natAbs ≤ W * W * (T * T) := by
  rw [Int.natAbs_mul, Int.natAbs_mul, Int.natAbs_mul, Int.natAbs_natCast, Nat.mul_assoc]
  exact Nat.mul_le_mul_right _ (Nat.mul_le_mul hX hY)

theorem prod_near (S : Nat) (hS : S = 1074) {x y : Nat} (X Y : Int) (T : Nat) (hT : T = 2 ^ (S - 128)) (hx : Fin x) (hy : Fin y)
    (h1 : (sv x - X * (T : Int)).natAbs ≤ 2 ^ 77 * T) (h2 : (sv y - Y * (T : Int)).natAbs ≤ 2 ^ 77 * T) (hX : X.natAbs ≤ 2 ^ 128) (hY : Y.natAbs ≤ 2 ^ 128) :
    ∃ r, fmul x y = some r ∧ Fin r ∧ (sv r * ((2 ^ 128 : Nat) : Int) - X * Y * (T : Int)).natAbs ≤ 2 ^ 207 * T := by
  have hTp : 0 < T := by rw [hT]; exact Nat.two_pow_pos _
  have e2S : 2 ^ S = T * 2 ^ 128 := by rw [hT, ← Nat.pow_add, show S - 128 + 128 = S by omega]
  obtain ⟨e, he⟩ : ∃ e, e = sv x - X * (T : Int) := ⟨_, rfl⟩
  obtain ⟨f, hf⟩ : ∃ f, f = sv y - Y * (T : Int) := ⟨_, rfl⟩
  rw [← he] at h1
  rw [← hf] at h2
  have ex : sv x = X * (T : Int) + e := by omega
  have ey : sv y = Y * (T : Int) + f := by omega
  have hxy : sv x * sv y = X * Y * (T : Int) * (T : Int) + (X * (T : Int) * f + Y * (T : Int) * e + e * f) := by rw [ex, ey]; exact expand X Y T e f
  have b := tri3 _ _ _ _ _ _ (mul3_le X f T _ _ hX h2) (mul3_le Y e T _ _ hY h1) (mul2_le e f T _ h1 h2)
  have z := size_le (T := T) hX hY
  generalize X * (T : Int) * f + Y * (T : Int) * e + e * f = G at *
  have hsz : (sv x * sv y).natAbs < 2 ^ (S + 1 + S) := by
    have e3 : 2 ^ (S + 1 + S) = 2 * (2 ^ 128 * 2 ^ 128) * (T * T) := by
      rw [show S + 1 + S = 1 + (S + S) by omega, Nat.pow_add, Nat.pow_add, e2S]
      generalize 2 ^ 128 = W
      rw [Nat.pow_one, Nat.mul_assoc 2]
      congr 1
      rw [Nat.mul_assoc, Nat.mul_left_comm W T W, ← Nat.mul_assoc, Nat.mul_comm (T * T)]
    rw [e3, hxy]
    have hTT : 0 < T * T := Nat.mul_pos hTp hTp
    generalize X * Y * (T : Int) * (T : Int) = P at *
    generalize T * T = TT at *
    omega
  obtain ⟨r, hr, fr, hn⟩ := fmul_near S hS hx hy (S + 1) (by omega) (by omega) hsz
  refine ⟨r, hr, fr, ?_⟩
  have e4 : 2 ^ (S + 1 + (S - 53)) = 2 ^ 204 * (T * T) := by
    rw [show S + 1 + (S - 53) = 204 + ((S - 128) + (S - 128)) by omega, Nat.pow_add, Nat.pow_add, ← hT]
  rw [e4, e2S, hxy] at hn
  have e5 : sv r * ((T * 2 ^ 128 : Nat) : Int) = sv r * ((2 ^ 128 : Nat) : Int) * (T : Int) := by
    rw [Int.natCast_mul, Int.mul_comm (T : Int), Int.mul_assoc]
  rw [e5] at hn
  apply cancel_T hTp
  have e6 : 2 ^ 207 * T * T = 2 ^ 207 * (T * T) := Nat.mul_assoc _ _ _
  rw [e6]
  generalize sv r * ((2 ^ 128 : Nat) : Int) * (T : Int) = A at *
  generalize X * Y * (T : Int) * (T : Int) = P at *
  generalize T * T = TT at *
  clear e2S e4 e5 e6 hxy hsz z
  omega

theorem bound_of {r P : Int} {k W T : Nat} (h : (r * (W : Int) - P).natAbs ≤ k) (hP : P.natAbs ≤ T * W) (hk : k ≤ T * W) (hW : 0 < W) : r.natAbs ≤ 2 * T := by
  have h1 : r.natAbs * W ≤ 2 * T * W := by
    have : (r * (W : Int)).natAbs = r.natAbs * W := by rw [Int.natAbs_mul, Int.natAbs_natCast]
    rw [← this, Nat.mul_assoc]; omega
  exact Nat.le_of_mul_le_mul_right h1 hW

theorem XYT_le {X Y : Int} {T : Nat} (hX : X.natAbs ≤ 2 ^ 128) (hY : Y.natAbs ≤ 2 ^ 128) : (X * Y * (T : Int)).natAbs ≤ (2 ^ 128 * T) * 2 ^ 128 := by
  rw [Int.natAbs_mul, Int.natAbs_mul, Int.natAbs_natCast]
  have := Nat.mul_le_mul_right T (Nat.mul_le_mul hX hY)
  have e : 2 ^ 128 * T * 2 ^ 128 = 2 ^ 128 * 2 ^ 128 * T := by rw [Nat.mul_assoc, Nat.mul_comm T, ← Nat.mul_assoc]
  omega

/-- two products' sum or difference, once more rounded -/
theorem pair_near (S : Nat) (hS : S = 1074) {p q : Nat} (P Q : Int) (T : Nat) (hT : T = 2 ^ (S - 128)) (hp : Fin p) (hq : Fin q)
    (h1 : (sv p * ((2 ^ 128 : Nat) : Int) - P * (T : Int)).natAbs ≤ 2 ^ 207 * T) (h2 : (sv q * ((2 ^ 128 : Nat) : Int) - Q * (T : Int)).natAbs ≤ 2 ^ 207 * T)
    (b1 : (P * (T : Int)).natAbs ≤ (2 ^ 128 * T) * 2 ^ 128) (b2 : (Q * (T : Int)).natAbs ≤ (2 ^ 128 * T) * 2 ^ 128) :
    (∃ r, fsub p q = some r ∧ Fin r ∧ (sv r * ((2 ^ 128 : Nat) : Int) - (P - Q) * (T : Int)).natAbs ≤ (2 ^ 208 + 2 ^ 206) * T) ∧
    (∃ r, fadd p q = some r ∧ Fin r ∧ (sv r * ((2 ^ 128 : Nat) : Int) - (P + Q) * (T : Int)).natAbs ≤ (2 ^ 208 + 2 ^ 206) * T) := by
  have hTp : 0 < T := by rw [hT]; exact Nat.two_pow_pos _
  have k1 : 2 ^ 207 * T ≤ (2 ^ 128 * T) * 2 ^ 128 := by omega
  have n1 := bound_of h1 b1 k1 (by decide)
  have n2 := bound_of h2 b2 k1 (by decide)
  have eF : 2 ^ (S + 3) = 8 * (2 ^ 128 * T) := by
    rw [show S + 3 = 3 + (128 + (S - 128)) by omega, Nat.pow_add, Nat.pow_add, ← hT]
  have eG : 2 ^ (S + 3 - 53) = 2 ^ 78 * T := by
    rw [show S + 3 - 53 = 78 + (S - 128) by omega, Nat.pow_add, ← hT]
  rw [Int.sub_mul, Int.add_mul]
  generalize P * (T : Int) = A at *
  generalize Q * (T : Int) = B at *
  constructor
  · obtain ⟨r, hr, fr, hn⟩ := fsub_near S hS hp hq (S + 3) (by omega) (by omega) (by rw [eF]; omega)
    refine ⟨r, hr, fr, ?_⟩
    rw [eG] at hn
    clear eF eG b1 b2 n1 n2 k1
    omega
  · obtain ⟨r, hr, fr, hn⟩ := fadd_near S hS hp hq (S + 3) (by omega) (by omega) (by rw [eF]; omega)
    refine ⟨r, hr, fr, ?_⟩
    rw [eG] at hn
    clear eF eG b1 b2 n1 n2 k1
    omega

theorem cmul_near (S : Nat) (hS : S = 1074) {a b : Nat × Nat} {z w : Z2} (ha : Near S a z) (hb : Near S b w)
    (z1 : z.1.natAbs ≤ 2 ^ 128) (z2 : z.2.natAbs ≤ 2 ^ 128) (w1 : w.1.natAbs ≤ 2 ^ 128) (w2 : w.2.natAbs ≤ 2 ^ 128) :
    ∃ m, cmul a b = some m ∧ Fin m.1 ∧ Fin m.2 ∧ (sv m.1 * ((2 ^ 128 : Nat) : Int) - (zmul z w).1 * ((2 ^ (S - 128) : Nat) : Int)).natAbs ≤ 2 ^ 209 * 2 ^ (S - 128) ∧
      (sv m.2 * ((2 ^ 128 : Nat) : Int) - (zmul z w).2 * ((2 ^ (S - 128) : Nat) : Int)).natAbs ≤ 2 ^ 209 * 2 ^ (S - 128) := by
  obtain ⟨pu, e1, f1, n1⟩ := prod_near S hS z.1 w.1 _ rfl ha.fin1 hb.fin1 ha.near1 hb.near1 z1 w1
  obtain ⟨qv, e2, f2, n2⟩ := prod_near S hS z.2 w.2 _ rfl ha.fin2 hb.fin2 ha.near2 hb.near2 z2 w2
  obtain ⟨pv, e3, f3, n3⟩ := prod_near S hS z.1 w.2 _ rfl ha.fin1 hb.fin2 ha.near1 hb.near2 z1 w2
  obtain ⟨qu, e4, f4, n4⟩ := prod_near S hS z.2 w.1 _ rfl ha.fin2 hb.fin1 ha.near2 hb.near1 z2 w1
  obtain ⟨⟨re, e5, f5, n5⟩, _⟩ := pair_near S hS _ _ _ rfl f1 f2 n1 n2 (XYT_le z1 w1) (XYT_le z2 w2)
  obtain ⟨_, ⟨im, e6, f6, n6⟩⟩ := pair_near S hS _ _ _ rfl f3 f4 n3 n4 (XYT_le z1 w2) (XYT_le z2 w1)
  refine ⟨(re, im), ?_, f5, f6, Nat.le_trans n5 (Nat.mul_le_mul_right _ (by decide)), Nat.le_trans n6 (Nat.mul_le_mul_right _ (by decide))⟩
  unfold cmul
  rw [e1, Option.bind_some, e2, Option.bind_some, e5, Option.bind_some, e3, Option.bind_some, e4, Option.bind_some, e6, Option.bind_some]

theorem close_W {A B : Int} {k T W : Nat} (hW : 0 < W) (h : (A * (W : Int) - B * (W : Int)).natAbs ≤ k * T * W) : (A - B).natAbs ≤ k * T := by
  rw [← Int.sub_mul, Int.natAbs_mul, Int.natAbs_natCast] at h
  exact Nat.le_of_mul_le_mul_right h hW

/-- a difference that is small stays small -/
theorem small_sub (S : Nat) (hS : S = 1074) {x y : Nat} (k : Nat) (hx : Fin x) (hy : Fin y) (hk : k ≤ 100) (h : (sv x - sv y).natAbs ≤ 2 ^ k * 2 ^ (S - 128)) :
    ∃ d, fsub x y = some d ∧ Fin d ∧ (sv d).natAbs ≤ 2 ^ (S - 127 + k) := by
  have e1 : 2 ^ (S - 127 + k) = 2 * (2 ^ k * 2 ^ (S - 128)) := by
    rw [show S - 127 + k = 1 + (k + (S - 128)) by omega, Nat.pow_add, Nat.pow_add, Nat.pow_one]
  have e2 : 2 ^ (S - 127 + k) = 2 ^ 53 * 2 ^ (S - 127 + k - 53) := by
    rw [← Nat.pow_add, show 53 + (S - 127 + k - 53) = S - 127 + k by omega]
  have hp : 0 < 2 ^ k * 2 ^ (S - 128) := Nat.mul_pos (Nat.two_pow_pos _) (Nat.two_pow_pos _)
  obtain ⟨d, hd, fd, hn⟩ := fsub_near S hS hx hy (S - 127 + k) (by omega) (by omega) (by rw [e1]; omega)
  refine ⟨d, hd, fd, ?_⟩
  generalize 2 ^ k * 2 ^ (S - 128) = M at *
  generalize 2 ^ (S - 127 + k) = N at *
  generalize 2 ^ (S - 127 + k - 53) = Q at *
  omega
end Go.Proofs.Ytoeeceemoggffaa
