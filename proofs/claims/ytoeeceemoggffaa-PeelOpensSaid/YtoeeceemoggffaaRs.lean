/- What the functions of package root come to, each by a contract of its own. -/
import Derived.Test.YtoeeceemoggffaaCx
import Derived.Lib.Hide
import Derived.Test.YtoeeceemoggffaaRp
namespace Go.Proofs.Ytoeeceemoggffaa
open Go.RowKit
set_option maxHeartbeats 400000

/-- a length that is right: 2^t, t from 0 to 12 -/
def lenB (n : Int) : Bool := (List.range 13).any fun t => n == (2 : Int) ^ t

theorem lenB_iff {n : Int} : lenB n = true ↔ ∃ t, t ≤ 12 ∧ n = ((2 ^ t : Nat) : Int) := by
  unfold lenB
  rw [List.any_eq_true]
  constructor
  · rintro ⟨t, ht, h⟩
    refine ⟨t, by rw [List.mem_range] at ht; omega, ?_⟩
    rw [beq_iff_eq] at h
    rw [h]; simp
  · rintro ⟨t, ht, h⟩
    refine ⟨t, by rw [List.mem_range]; omega, ?_⟩
    rw [beq_iff_eq, h]; simp

theorem lenB_small' : ∀ a : Nat, a < 64 → ∀ b : Nat, b < 64 → (bits .and .i64 (((64 * a + b : Nat) : Int) + 1) (((64 * a + b : Nat) : Int) + 1 - 1) == 0) = lenB (((64 * a + b : Nat) : Int) + 1) := by
  decide +kernel

theorem lenB_small (n : Nat) (h : n < 4096) : (bits .and .i64 ((n : Int) + 1) ((n : Int) + 1 - 1) == 0) = lenB ((n : Int) + 1) := by
  have := lenB_small' (n / 64) (by omega) (n % 64) (by omega)
  rwa [Nat.div_add_mod] at this

theorem lenB_mid {n : Int} (h1 : 0 < n) (h2 : n ≤ 4096) : (bits .and .i64 n (n - 1) == 0) = lenB n := by
  have := lenB_small (n - 1).toNat (by omega)
  have e : (((n - 1).toNat : Nat) : Int) + 1 = n := by omega
  rwa [e] at this

theorem lenB_out {n : Int} (h : n ≤ 0 ∨ 4096 < n) : lenB n = false := by
  cases hb : lenB n with
  | false => rfl
  | true =>
    obtain ⟨t, ht, e⟩ := lenB_iff.1 hb
    have h1 := Nat.two_pow_pos t
    have h2 : 2 ^ t ≤ 2 ^ 12 := Nat.pow_le_pow_right (by decide) ht
    omega

theorem right_walk (n : Int) (w : World) :
    Calls Try.prog 50 #[.int .i64 n] w fun e w' => e = .returned (.bool (lenB n)) ∧ w = w' := by
  by_cases h1 : 0 < n
  · by_cases h2 : n ≤ 4096
    · have h3 := lenB_mid h1 h2
      go_enter Try.func50, Try.ntmps50
      go_wp2
      go_ret
      exact ⟨rfl, rfl⟩
    · have h3 := lenB_out (n := n) (by omega)
      have h4 : decide (n ≤ 4096) = false := by simpa using h2
      rw [h3]
      clear h3
      go_enter Try.func50, Try.ntmps50
      go_wp2
      go_ret
      exact ⟨rfl, rfl⟩
  · have h3 := lenB_out (n := n) (by omega)
    have h4 : decide (0 < n) = false := by simpa using h1
    rw [h3]
    clear h3
    go_enter Try.func50, Try.ntmps50
    go_wp2
    go_ret
    exact ⟨rfl, rfl⟩

theorem step_walk (w : World) : ∀ (k : Nat) (s : Nat × Nat), k ≤ 9 → stepN k = some s →
    Calls Try.prog 92 #[.int .i64 ((2 ^ (k + 3) : Nat) : Int)] w fun e w' => e = .returned (cv s) ∧ w = w' := by
  intro k
  induction k with
  | zero =>
    intro s _ h
    obtain ⟨c, d⟩ := s
    obtain ⟨h1, h2⟩ := stepN_zero h
    obtain rfl : d = c := h2
    simp only [Nat.zero_add]
    rw [show ((2 ^ 3 : Nat) : Int) = 8 from rfl]
    go_enter Try.func92, Try.ntmps92
    go_wp2_with fail
    refine (Sqrt_walk _ _ _ h1).mono ?_; rintro e w' ⟨rfl, rfl⟩
    go_wp2
    go_ret
    exact ⟨rfl, rfl⟩
  | succ k ih =>
    intro s hk h
    obtain ⟨c, d⟩ := s
    obtain ⟨p, a, b, x, h0, h1, h2, h3, h4, h5⟩ := stepN_succ h
    obtain ⟨p1, p2⟩ := p
    have r0 := (stepN_zero (c := (stepN 0).getD (0, 0)) (by decide +kernel)).1
    have r1 := fun t w => run_float_arith (P := Try.prog) w .add t .f64 _ _ _ h1
    have r2 := fun t w => run_float_arith (P := Try.prog) w .mul t .f64 _ _ _ h2
    have r4 := fun t w => run_float_arith (P := Try.prog) w .mul t .f64 _ _ _ h4
    have r5 := fun t w => run_float_arith (P := Try.prog) w .quo t .f64 _ _ _ h5
    have ih' := ih _ (by omega) h0
    clear ih h h0 h1 h2 h4 h5
    have e1 : ((2 ^ (k + 1 + 3) : Nat) : Int) = 2 * ((2 ^ (k + 3) : Nat) : Int) := by rw [show k + 1 + 3 = (k + 3) + 1 from rfl, Nat.pow_succ]; omega
    rw [e1]
    generalize hN : ((2 ^ (k + 3) : Nat) : Int) = N at *
    have b1 : 8 ≤ N := by
      have : 2 ^ 3 ≤ 2 ^ (k + 3) := Nat.pow_le_pow_right (by decide) (by omega)
      omega
    have b2 : N ≤ 4096 := by
      have : 2 ^ (k + 3) ≤ 2 ^ 12 := Nat.pow_le_pow_right (by decide) (by omega)
      omega
    clear e1 hN
    have IH := Lib.hid ih'
    clear ih'
    have hb : (2 * N == 8) = false := by simp; omega
    go_enter Try.func92, Try.ntmps92
    go_wp2_with fail
    refine (Sqrt_walk _ _ _ r0).mono ?_; rintro e w' ⟨rfl, rfl⟩
    go_wp2_with fail
    refine IH.out.mono ?_; rintro e w' ⟨rfl, rfl⟩
    go_wp2_with fail
    refine (Sqrt_walk _ _ _ h3).mono ?_; rintro e w' ⟨rfl, rfl⟩
    go_wp2
    go_ret
    exact ⟨rfl, rfl⟩

end Go.Proofs.Ytoeeceemoggffaa
