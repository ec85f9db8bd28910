/- What the functions of package cx come to, each by a contract of its own. -/
import Derived.Test.YtoeeceemoggffaaChecked
import Derived.Test.YtoeeceemoggffaaFl
import Derived.KernelRfl
namespace Go.Proofs.Ytoeeceemoggffaa
set_option maxHeartbeats 400000

theorem f64bits_run (b : Nat) (w : World) : (callFunc 61 #[.float .f64 b]).run Try.prog w = .ok (.value (.int .u64 b)) w := by kernel_rfl
theorem f64from_run (n : Int) (w : World) : (callFunc 60 #[.int .u64 n]).run Try.prog w = .ok (.value (.float .f64 n.toNat)) w := by kernel_rfl
theorem sqrt_run (x r : Nat) (w : World) (h : fsqrt x = some r) : (callFunc 143 #[.float .f64 x]).run Try.prog w = .ok (.value (.float .f64 r)) w := by
  rw [run_callFunc_extern (e := Extern.MathSqrt.sqrt) Try.func143 (by kernel_rfl) (by kernel_rfl) (by kernel_rfl) (by kernel_rfl)]
  change ((match fsqrt x with
    | some r => (pure (.float .f64 r) : Sem Value)
    | none => do pure (.float .f64 (← choose (.nanBits .f64 x x)))).run Try.prog w).andThen _ = _
  rw [h]
  rfl

theorem Copysign_walk (x s : Nat) (w : World) (hx : x < 18446744073709551616) (hs : s < 18446744073709551616) :
    Calls Try.prog 124 #[.float .f64 x, .float .f64 s] w fun e w' => e = .returned (.float .f64 (csign x s)) ∧ w = w' := by
  have e1 := bits_andNot_nat hx (show 9223372036854775808 < 18446744073709551616 by decide)
  have e2 := bits_and_nat hs (show 9223372036854775808 < 18446744073709551616 by decide)
  have l1 : x &&& (18446744073709551615 ^^^ 9223372036854775808) < 18446744073709551616 := Nat.lt_of_le_of_lt Nat.and_le_left hx
  have l2 : s &&& 9223372036854775808 < 18446744073709551616 := Nat.lt_of_le_of_lt Nat.and_le_left hs
  have e3 := bits_or_nat l1 l2
  have fin : (bits .or .u64 (bits .andNot .u64 (x : Int) 9223372036854775808) (bits .and .u64 (s : Int) 9223372036854775808)).toNat = csign x s := by
    have e1' : bits .andNot .u64 (x : Int) 9223372036854775808 = _ := e1
    have e2' : bits .and .u64 (s : Int) 9223372036854775808 = _ := e2
    rw [e1', e2', e3]; rfl
  clear e1 e2 l1 l2 e3
  have r1 := f64bits_run
  have r2 := f64from_run
  go_enter Try.func124, Try.ntmps124
  go_wp2
  go_ret
  exact ⟨rfl, rfl⟩

theorem flip_walk (p : Nat) (w : World) (hp : p < 18446744073709551616) :
    Calls Try.prog 102 #[.float .f64 p] w fun e w' => e = .returned (.float .f64 (fneg p)) ∧ w = w' := by
  have hneg : ∀ (b : Nat) (w : World), (Op.unary .neg (.float .f64 b)).run Try.prog w = .ok (.float .f64 (fneg b)) w := fun _ _ => rfl
  have l1 : csign 4607182418800017408 p < 18446744073709551616 := csign_lt (by decide) hp
  have l2 := fneg_lt l1
  go_enter Try.func102, Try.ntmps102
  go_wp2_with fail
  refine (Copysign_walk _ _ _ (by decide) hp).mono ?_; rintro e w' ⟨rfl, rfl⟩
  go_wp2_with fail
  refine (Copysign_walk _ _ _ hp l2).mono ?_; rintro e w' ⟨rfl, rfl⟩
  go_wp2
  go_ret
  exact ⟨by rw [← csign_flip hp]; rfl, rfl⟩

theorem Plain1_walk (p : Nat) (w : World) : Calls Try.prog 117 #[.float .f64 p] w fun e w' => e = .returned (.float .f64 (plain1 p)) ∧ w = w' := by
  cases hf : feq p 0
  · have e : plain1 p = p := by unfold plain1; rw [hf]; rfl
    have hf' : (FloatKind.f64.format.order p 0 == some Ordering.eq) = false := hf
    rw [e]
    clear e hf
    go_enter Try.func117, Try.ntmps117
    go_wp2
    go_ret
    exact ⟨rfl, rfl⟩
  · have e : plain1 p = 0 := by unfold plain1; rw [hf]; rfl
    have hf' : (FloatKind.f64.format.order p 0 == some Ordering.eq) = true := hf
    rw [e]
    clear e hf
    go_enter Try.func117, Try.ntmps117
    go_wp2
    go_ret
    exact ⟨rfl, rfl⟩

theorem each_plain (p q : Nat) (w : World) : Calls Try.prog 116 #[.complex .f64 p q, .func (.func 117) #[] #[]] w fun e w' => e = .returned (cv (plain2 (p, q))) ∧ w = w' := by
  go_enter Try.func116, Try.ntmps116
  go_wp2_with fail
  refine (Plain1_walk _ _).mono ?_; rintro e w' ⟨rfl, rfl⟩
  go_wp2_with fail
  refine (Plain1_walk _ _).mono ?_; rintro e w' ⟨rfl, rfl⟩
  go_wp2
  go_ret
  exact ⟨rfl, rfl⟩

theorem Plain_walk (p q : Nat) (w : World) : Calls Try.prog 90 #[.complex .f64 p q] w fun e w' => e = .returned (cv (plain2 (p, q))) ∧ w = w' := by
  go_enter Try.func90, Try.ntmps90
  go_wp2_with fail
  refine (each_plain _ _ _).mono ?_; rintro e w' ⟨rfl, rfl⟩
  go_wp2
  go_ret
  exact ⟨rfl, rfl⟩

theorem Mul_walk (p q u v : Nat) (r : Nat × Nat) (w : World) (h : cmul (p, q) (u, v) = some r) :
    Calls Try.prog 75 #[.complex .f64 p q, .complex .f64 u v] w fun e w' => e = .returned (cv r) ∧ w = w' := by
  obtain ⟨re, im⟩ := r
  obtain ⟨pu, qv, pv, qu, h1, h2, h3, h4, h5, h6⟩ := cmul_some h
  clear h
  have r1 := fun t w => run_float_arith (P := Try.prog) w .mul t .f64 _ _ _ h1
  have r2 := fun t w => run_float_arith (P := Try.prog) w .mul t .f64 _ _ _ h2
  have r3 := fun t w => run_float_arith (P := Try.prog) w .sub t .f64 _ _ _ h3
  have r4 := fun t w => run_float_arith (P := Try.prog) w .mul t .f64 _ _ _ h4
  have r5 := fun t w => run_float_arith (P := Try.prog) w .mul t .f64 _ _ _ h5
  have r6 := fun t w => run_float_arith (P := Try.prog) w .add t .f64 _ _ _ h6
  clear h1 h2 h3 h4 h5 h6
  go_enter Try.func75, Try.ntmps75
  go_wp2
  go_ret
  exact ⟨rfl, rfl⟩

theorem Add_walk (p q u v re im : Nat) (w : World) (h1 : fadd p u = some re) (h2 : fadd q v = some im) :
    Calls Try.prog 74 #[.complex .f64 p q, .complex .f64 u v] w fun e w' => e = .returned (.complex .f64 re im) ∧ w = w' := by
  have r1 : ∀ t w, (binOp .add t (.complex .f64 p q) (.complex .f64 u v)).run Try.prog w = .ok (.complex .f64 re im) w := fun t w => run_complex_sum w .add (.inl rfl) t .f64 p q u v re im (by unfold fadd at h1 h2; simp [cSumBits, h1, h2])
  go_enter Try.func74, Try.ntmps74
  go_wp2
  go_ret
  exact ⟨rfl, rfl⟩

theorem Sub_walk (p q u v re im : Nat) (w : World) (h1 : fsub p u = some re) (h2 : fsub q v = some im) :
    Calls Try.prog 107 #[.complex .f64 p q, .complex .f64 u v] w fun e w' => e = .returned (.complex .f64 re im) ∧ w = w' := by
  have r1 : ∀ t w, (binOp .sub t (.complex .f64 p q) (.complex .f64 u v)).run Try.prog w = .ok (.complex .f64 re im) w := fun t w => run_complex_sum w .sub (.inr rfl) t .f64 p q u v re im (by unfold fsub at h1 h2; simp [cSumBits, h1, h2])
  go_enter Try.func107, Try.ntmps107
  go_wp2
  go_ret
  exact ⟨rfl, rfl⟩

theorem Sqrt_walk (x r : Nat) (w : World) (h : fsqrt x = some r) :
    Calls Try.prog 118 #[.float .f64 x] w fun e w' => e = .returned (.float .f64 r) ∧ w = w' := by
  have r1 := fun w => sqrt_run x r w h
  clear h
  go_enter Try.func118, Try.ntmps118
  go_wp2
  go_ret
  exact ⟨rfl, rfl⟩

theorem Turn1_walk (p q : Nat) (w : World) (hq : q < 18446744073709551616) :
    Calls Try.prog 91 #[.complex .f64 p q, .int .i64 1] w fun e w' => e = .returned (.complex .f64 (fneg q) p) ∧ w = w' := by
  have hb : bits .and .i64 1 3 = 1 := by decide
  go_enter Try.func91, Try.ntmps91
  go_wp2_with fail
  refine (flip_walk _ _ hq).mono ?_; rintro e w' ⟨rfl, rfl⟩
  go_wp2
  go_ret
  exact ⟨rfl, rfl⟩

theorem Turn0_walk (p q : Nat) (w : World) :
    Calls Try.prog 91 #[.complex .f64 p q, .int .i64 0] w fun e w' => e = .returned (.complex .f64 p q) ∧ w = w' := by
  have hb : bits .and .i64 0 3 = 0 := by decide
  go_enter Try.func91, Try.ntmps91
  go_wp2
  go_ret
  exact ⟨rfl, rfl⟩

theorem Turn2_walk (p q : Nat) (w : World) (hp : p < 18446744073709551616) (hq : q < 18446744073709551616) :
    Calls Try.prog 91 #[.complex .f64 p q, .int .i64 2] w fun e w' => e = .returned (.complex .f64 (fneg p) (fneg q)) ∧ w = w' := by
  have hb : bits .and .i64 2 3 = 2 := by decide
  go_enter Try.func91, Try.ntmps91
  go_wp2_with fail
  refine (flip_walk _ _ hp).mono ?_; rintro e w' ⟨rfl, rfl⟩
  go_wp2_with fail
  refine (flip_walk _ _ hq).mono ?_; rintro e w' ⟨rfl, rfl⟩
  go_wp2
  go_ret
  exact ⟨rfl, rfl⟩

theorem Conj_walk (p q : Nat) (w : World) (hq : q < 18446744073709551616) :
    Calls Try.prog 76 #[.complex .f64 p q] w fun e w' => e = .returned (.complex .f64 p (fneg q)) ∧ w = w' := by
  go_enter Try.func76, Try.ntmps76
  go_wp2_with fail
  refine (flip_walk _ _ hq).mono ?_; rintro e w' ⟨rfl, rfl⟩
  go_wp2
  go_ret
  exact ⟨rfl, rfl⟩
end Go.Proofs.Ytoeeceemoggffaa
