/- The order of finite words is the order of their values. -/
import Derived.Test.YtoeeceemoggffaaFe
namespace Go.Proofs.Ytoeeceemoggffaa
open Ieee

theorem order_val {x y : Nat} (hx : Fin x) (hy : Fin y) : FloatKind.f64.format.order x y = some (compare (sv x) (sv y)) := by
  obtain ⟨s, m, i, rx, hi, ex⟩ := read_fin hx
  obtain ⟨t, n, j, ry, hj, ey⟩ := read_fin hy
  show Datum.order (double.read x) (double.read y) = _
  rw [rx, ry, ex, ey]
  obtain ⟨b, hb⟩ : ∃ b, b = min i j := ⟨_, rfl⟩
  have e1 : (i + 1074).toNat = (i - b).toNat + (b + 1074).toNat := by omega
  have e2 : (j + 1074).toNat = (j - b).toNat + (b + 1074).toNat := by omega
  rw [e1, e2, signed_up, signed_up]
  show some (compare (signed s m (i - min i j).toNat) (signed t n (j - min i j).toNat)) = _
  rw [← hb]
  have hp : (0 : Int) < ((2 ^ (b + 1074).toNat : Nat) : Int) := by have := Nat.two_pow_pos (b + 1074).toNat; omega
  generalize ((2 ^ (b + 1074).toNat : Nat) : Int) = g at *
  generalize signed s m (i - b).toNat = A
  generalize signed t n (j - b).toNat = B
  congr 1
  rcases Int.lt_trichotomy A B with h | h | h
  · rw [(Int.compare_eq_lt).2 h, (Int.compare_eq_lt).2 (Int.mul_lt_mul_of_pos_right h hp)]
  · subst h; rw [(Int.compare_eq_eq).2 rfl, (Int.compare_eq_eq).2 rfl]
  · rw [(Int.compare_eq_gt).2 h, (Int.compare_eq_gt).2 (Int.mul_lt_mul_of_pos_right h hp)]

/-- two words of one whole number are equal -/
theorem feq_whole {x y : Nat} {a : Int} (hx : Whole x a) (hy : Whole y a) : (FloatKind.f64.format.order x y == some Ordering.eq) = true := by
  obtain ⟨S, hS⟩ : ∃ S : Nat, S = 1074 := ⟨_, rfl⟩
  rw [order_val hx.fin hy.fin, hx.val S hS, hy.val S hS, Int.compare_eq_eq.2 rfl]
  rfl
end Go.Proofs.Ytoeeceemoggffaa
