/- The reference's Root, and the fixed fact that the statements of layer 2 ask first. -/
import Derived.Test.YtoeeceemoggffaaR2
namespace Go.Proofs.Ytoeeceemoggffaa
open Go.RowKit
set_option maxHeartbeats 400000

theorem rRoot_no (n k : Int) (w : World) (h : lenB n = false) :
    Calls Try.prog 17 #[.int .i64 n, .int .i64 k] w fun e w' => e = .returned (.tuple #[cv (0, 0), .int .i64 30]) ∧ w = w' := by
  go_enter Try.func17, Try.ntmps17
  go_wp2_with fail
  refine (Length_walk _ _).mono ?_; rintro e w' ⟨rfl, rfl⟩
  rw [h]
  go_wp2
  go_ret2
  exact ⟨rfl, rfl⟩

theorem rRoot_yes (t : Nat) (k : Int) (w : World) (ht : t ≤ 12) :
    Calls Try.prog 17 #[.int .i64 ((2 ^ t : Nat) : Int), .int .i64 k] w fun e w' => e = .returned (.tuple #[cv (R t (k % ((2 ^ t : Nat) : Int)).toNat), .int .i64 0]) ∧ w = w' := by
  have h : lenB ((2 ^ t : Nat) : Int) = true := lenB_iff.2 ⟨t, ht, rfl⟩
  have hm := and_mask (k := k) (t := t) (by omega)
  have hp := Nat.two_pow_pos t
  have h0 : 0 ≤ k % ((2 ^ t : Nat) : Int) := Int.emod_nonneg _ (by omega)
  have h1 : k % ((2 ^ t : Nat) : Int) < ((2 ^ t : Nat) : Int) := Int.emod_lt_of_pos _ (by omega)
  obtain ⟨j, hj⟩ := Int.eq_ofNat_of_zero_le h0
  rw [hj] at h1 hm ⊢
  have hle := pow_le12 ht
  have hA := At_walk w _ t j ht (by omega) (Nat.le_refl _)
  have hR := Length_walk ((2 ^ t : Nat) : Int) w
  rw [h] at hR
  simp only [Int.toNat_natCast]
  have b1 : 1 ≤ ((2 ^ t : Nat) : Int) := by omega
  have b2 : ((2 ^ t : Nat) : Int) ≤ 4096 := by omega
  generalize ((2 ^ t : Nat) : Int) = N at *
  have HA := Lib.hid hA
  have HR := Lib.hid hR
  clear hA hR h hj h0
  go_enter Try.func17, Try.ntmps17
  go_wp2_with fail
  refine HR.out.mono ?_; rintro e w' ⟨rfl, rfl⟩
  go_wp2_with fail
  refine HA.out.mono ?_; rintro e w' ⟨rfl, rfl⟩
  go_wp2
  go_ret2
  exact ⟨rfl, rfl⟩

theorem R_two_one : R 2 1 = (0, 4607182418800017408) := by decide +kernel
theorem R_three_one : R 3 1 = (4604544271217802189, 4604544271217802189) := by decide +kernel

theorem alive02 (w : World) : Calls Try.prog 15 #[] w fun e w' => e = .returned (.bool true) ∧ Below w.heap.size w w' := by
  have c1 := fun w => Root_yes 2 1 w (by decide)
  have c2 := fun w => Root_yes 3 1 w (by decide)
  rw [show (1 % ((2 ^ 2 : Nat) : Int)).toNat = 1 from rfl, R_two_one, show ((2 ^ 2 : Nat) : Int) = 4 from rfl] at c1
  rw [show (1 % ((2 ^ 3 : Nat) : Int)).toNat = 1 from rfl, R_three_one, show ((2 ^ 3 : Nat) : Int) = 8 from rfl] at c2
  have C1 := Lib.hid c1
  have C2 := Lib.hid c2
  clear c1 c2
  have o1 : (FloatKind.f64.format.order 4604544271217802189 4604480259023595110 == some Ordering.gt) = true := by decide +kernel
  have o2 : (FloatKind.f64.format.order 4604544271217802189 4604544271217802189 == some Ordering.eq) = true := by decide +kernel
  have o3 : ((FloatKind.f64.format.order 0 0 == some Ordering.eq) && (FloatKind.f64.format.order 4607182418800017408 4607182418800017408 == some Ordering.eq)) = true := by decide +kernel
  have hq : ∀ t w, (binOp .eql t (.complex .f64 0 4607182418800017408) (.complex .f64 0 4607182418800017408)).run Try.prog w = .ok (.bool true) w := fun t w => by rw [run_eql_complex, o3]
  have hg : ∀ t w, (binOp .gtr t (.float .f64 4604544271217802189) (.float .f64 4604480259023595110)).run Try.prog w = .ok (.bool true) w := fun t w => by rw [binOp_float_cmp_gtr, o1]; rfl
  have he : ∀ t w, (binOp .eql t (.float .f64 4604544271217802189) (.float .f64 4604544271217802189)).run Try.prog w = .ok (.bool true) w := fun t w => by rw [binOp_float_cmp_eql, o2]; rfl
  clear o1 o2 o3
  go_enter Try.func15, Try.ntmps15
  go_wp2_with fail
  refine (C1.out _).mono ?_; rintro e w1 ⟨rfl, hb1⟩
  go_wp2_with fail
  refine (C2.out _).mono ?_; rintro e w2 ⟨rfl, hb2⟩
  go_wp2
  go_ret
  exact ⟨rfl, hb1.trans (hb2.mono hb1.size)⟩
end Go.Proofs.Ytoeeceemoggffaa
