/- What the reference's functions on complex numbers come to (layer 1), each by a contract of its own. -/
import Derived.Test.YtoeeceemoggffaaCx
import Derived.Test.YtoeeceemoggffaaRp
namespace Go.Proofs.Ytoeeceemoggffaa
open Go.RowKit
set_option maxHeartbeats 400000

theorem rsame_refl (x : Nat) (w : World) :
    Calls Try.prog 55 #[.float .f64 x, .float .f64 x] w fun e w' => e = .returned (.bool true) ∧ w = w' := by
  have r1 := f64bits_run
  have h1 : ((x : Int) == (x : Int)) = true := by simp
  go_enter Try.func55, Try.ntmps55
  go_wp2
  go_ret
  exact ⟨rfl, rfl⟩

theorem rSame_refl (a : Nat × Nat) (w : World) :
    Calls Try.prog 18 #[cv a, cv a] w fun e w' => e = .returned (.bool true) ∧ w = w' := by
  go_enter Try.func18, Try.ntmps18
  go_wp2_with fail
  refine (rsame_refl _ _).mono ?_; rintro e w' ⟨rfl, rfl⟩
  go_wp2_with fail
  refine (rsame_refl _ _).mono ?_; rintro e w' ⟨rfl, rfl⟩
  go_wp2
  go_ret
  exact ⟨rfl, rfl⟩

theorem rplain_walk (p : Nat) (w : World) : Calls Try.prog 56 #[.float .f64 p] w fun e w' => e = .returned (.float .f64 (plain1 p)) ∧ w = w' := by
  cases hf : feq p 0
  · have e : plain1 p = p := by unfold plain1; rw [hf]; rfl
    have hf' : (FloatKind.f64.format.order p 0 == some Ordering.eq) = false := hf
    rw [e]
    clear e hf
    go_enter Try.func56, Try.ntmps56
    go_wp2
    go_ret
    exact ⟨rfl, rfl⟩
  · have e : plain1 p = 0 := by unfold plain1; rw [hf]; rfl
    have hf' : (FloatKind.f64.format.order p 0 == some Ordering.eq) = true := hf
    rw [e]
    clear e hf
    go_enter Try.func56, Try.ntmps56
    go_wp2
    go_ret
    exact ⟨rfl, rfl⟩

theorem rPlain_walk (p q : Nat) (w : World) : Calls Try.prog 20 #[.complex .f64 p q] w fun e w' => e = .returned (cv (plain2 (p, q))) ∧ w = w' := by
  go_enter Try.func20, Try.ntmps20
  go_wp2_with fail
  refine (rplain_walk _ _).mono ?_; rintro e w' ⟨rfl, rfl⟩
  go_wp2_with fail
  refine (rplain_walk _ _).mono ?_; rintro e w' ⟨rfl, rfl⟩
  go_wp2
  go_ret
  exact ⟨rfl, rfl⟩

theorem rturned_walk (p : Nat) (w : World) (hp : p < 18446744073709551616) :
    Calls Try.prog 57 #[.float .f64 p] w fun e w' => e = .returned (.float .f64 (fneg p)) ∧ w = w' := by
  have e1 : bits .xor .u64 (p : Int) 9223372036854775808 = ((fneg p : Nat) : Int) := bits_xor_u64_nat p 9223372036854775808 hp (by decide)
  have r1 := f64bits_run
  have r2 := f64from_run
  go_enter Try.func57, Try.ntmps57
  go_wp2
  go_ret
  exact ⟨rfl, rfl⟩

theorem rTurn1_walk (p q : Nat) (w : World) (hq : q < 18446744073709551616) :
    Calls Try.prog 22 #[.complex .f64 p q, .int .i64 1] w fun e w' => e = .returned (.complex .f64 (fneg q) p) ∧ w = w' := by
  have hb : bits .and .i64 1 3 = 1 := by decide
  go_enter Try.func22, Try.ntmps22
  go_wp2
  refine wp_loop_rounds 2 ?_
  rw [rounds_succ]
  go_wp2_with fail
  refine (rturned_walk _ _ hq).mono ?_; rintro e w' ⟨rfl, rfl⟩
  go_wp2
  rw [rounds_succ]
  go_wp2
  go_ret
  exact ⟨rfl, rfl⟩

theorem rConj_walk (p q : Nat) (w : World) (hq : q < 18446744073709551616) :
    Calls Try.prog 21 #[.complex .f64 p q] w fun e w' => e = .returned (.complex .f64 p (fneg q)) ∧ w = w' := by
  go_enter Try.func21, Try.ntmps21
  go_wp2_with fail
  refine (rturned_walk _ _ hq).mono ?_; rintro e w' ⟨rfl, rfl⟩
  go_wp2
  go_ret
  exact ⟨rfl, rfl⟩

theorem rMul_walk (p q u v : Nat) (r : Nat × Nat) (w : World) (h : cmul (p, q) (u, v) = some r) :
    Calls Try.prog 24 #[.complex .f64 p q, .complex .f64 u v] w fun e w' => e = .returned (cv r) ∧ w = w' := by
  obtain ⟨re, im⟩ := r
  obtain ⟨pu, qv, pv, qu, h1, h2, h3, h4, h5, h6⟩ := cmul_some h
  clear h
  have r1 := fun t w => run_float_arith (P := Try.prog) w .mul t .f64 _ _ _ h1
  have r2 := fun t w => run_float_arith (P := Try.prog) w .mul t .f64 _ _ _ h2
  have r3 := fun t w => run_float_arith (P := Try.prog) w .sub t .f64 _ _ _ h3
  have r4 := fun t w => run_float_arith (P := Try.prog) w .mul t .f64 _ _ _ h4
  have r5 := fun t w => run_float_arith (P := Try.prog) w .mul t .f64 _ _ _ h5
  have r6 := fun t w => run_float_arith (P := Try.prog) w .add t .f64 _ _ _ h6
  clear h1 h2 h3 h4 h5 h6
  go_enter Try.func24, Try.ntmps24
  go_wp2
  go_ret
  exact ⟨rfl, rfl⟩

theorem rAdd_walk (p q u v re im : Nat) (w : World) (h1 : fadd p u = some re) (h2 : fadd q v = some im) :
    Calls Try.prog 67 #[.complex .f64 p q, .complex .f64 u v] w fun e w' => e = .returned (.complex .f64 re im) ∧ w = w' := by
  have r1 := fun t w => run_float_arith (P := Try.prog) w .add t .f64 _ _ _ h1
  have r2 := fun t w => run_float_arith (P := Try.prog) w .add t .f64 _ _ _ h2
  clear h1 h2
  go_enter Try.func67, Try.ntmps67
  go_wp2
  go_ret
  exact ⟨rfl, rfl⟩

theorem rSub_walk (p q u v re im : Nat) (w : World) (h1 : fsub p u = some re) (h2 : fsub q v = some im) :
    Calls Try.prog 59 #[.complex .f64 p q, .complex .f64 u v] w fun e w' => e = .returned (.complex .f64 re im) ∧ w = w' := by
  have r1 := fun t w => run_float_arith (P := Try.prog) w .sub t .f64 _ _ _ h1
  have r2 := fun t w => run_float_arith (P := Try.prog) w .sub t .f64 _ _ _ h2
  clear h1 h2
  go_enter Try.func59, Try.ntmps59
  go_wp2
  go_ret
  exact ⟨rfl, rfl⟩
end Go.Proofs.Ytoeeceemoggffaa
