/- Package cx over whole numbers, by contracts (the door seat). -/
import Derived.Test.YtoeeceemoggffaaDoorChecked
import Derived.Test.YtoeeceemoggffaaDoorDw
import Derived.KernelRfl
import Derived.Lib.Hide
import Derived.Deep.QuietTactic
import Derived.BigQuiet
import Derived.Below
namespace Go.Proofs.YtoeeceemoggffaaDoor
open Go.RowKit
set_option maxHeartbeats 1600000
set_option maxRecDepth 100000

theorem f64bits_run (b : Nat) (w : World) : (callFunc 23 #[.float .f64 b]).run Tryd.prog w = .ok (.value (.int .u64 b)) w := by kernel_rfl
theorem f64from_run (n : Int) (w : World) : (callFunc 21 #[.int .u64 n]).run Tryd.prog w = .ok (.value (.float .f64 n.toNat)) w := by kernel_rfl

theorem Plain1_walk (p : Nat) (w : World) : Calls Tryd.prog 14 #[.float .f64 p] w fun e w' => e = .returned (.float .f64 (plain1 p)) ∧ w = w' := by
  unfold plain1 feq
  by_cases h : (FloatKind.f64.format.order p 0 == some Ordering.eq) = true
  · rw [if_pos h]
    go_enter Tryd.func14, Tryd.ntmps14
    go_wp2
    go_ret
    exact ⟨rfl, rfl⟩
  · rw [if_neg h]
    have h' : (FloatKind.f64.format.order p 0 == some Ordering.eq) = false := by simpa using h
    clear h
    go_enter Tryd.func14, Tryd.ntmps14
    go_wp2
    go_ret
    exact ⟨rfl, rfl⟩
theorem each_plain (p q : Nat) (w : World) : Calls Tryd.prog 13 #[.complex .f64 p q, .func (.func 14) #[] #[]] w fun e w' => e = .returned (cv (plain2 (p, q))) ∧ w = w' := by
  go_enter Tryd.func13, Tryd.ntmps13
  go_wp2_with fail
  refine (Plain1_walk _ _).mono ?_; rintro e w' ⟨rfl, rfl⟩
  go_wp2_with fail
  refine (Plain1_walk _ _).mono ?_; rintro e w' ⟨rfl, rfl⟩
  go_wp2
  go_ret
  exact ⟨rfl, rfl⟩
theorem Plain_walk (p q : Nat) (w : World) : Calls Tryd.prog 9 #[.complex .f64 p q] w fun e w' => e = .returned (cv (plain2 (p, q))) ∧ w = w' := by
  go_enter Tryd.func9, Tryd.ntmps9
  go_wp2_with fail
  refine (each_plain _ _ _).mono ?_; rintro e w' ⟨rfl, rfl⟩
  go_wp2
  go_ret
  exact ⟨rfl, rfl⟩
theorem Mul_walk (p q u v : Nat) (r : Nat × Nat) (w : World) (h : cmul (p, q) (u, v) = some r) :
    Calls Tryd.prog 8 #[.complex .f64 p q, .complex .f64 u v] w fun e w' => e = .returned (cv r) ∧ w = w' := by
  obtain ⟨re, im⟩ := r
  obtain ⟨pu, qv, pv, qu, h1, h2, h3, h4, h5, h6⟩ := cmul_some h
  clear h
  have r1 := fun t w => run_float_arith (P := Tryd.prog) w .mul t .f64 _ _ _ h1
  have r2 := fun t w => run_float_arith (P := Tryd.prog) w .mul t .f64 _ _ _ h2
  have r3 := fun t w => run_float_arith (P := Tryd.prog) w .sub t .f64 _ _ _ h3
  have r4 := fun t w => run_float_arith (P := Tryd.prog) w .mul t .f64 _ _ _ h4
  have r5 := fun t w => run_float_arith (P := Tryd.prog) w .mul t .f64 _ _ _ h5
  have r6 := fun t w => run_float_arith (P := Tryd.prog) w .add t .f64 _ _ _ h6
  clear h1 h2 h3 h4 h5 h6
  go_enter Tryd.func8, Tryd.ntmps8
  go_wp2
  go_ret
  exact ⟨rfl, rfl⟩
theorem Add_walk (p q u v re im : Nat) (w : World) (h1 : fadd p u = some re) (h2 : fadd q v = some im) :
    Calls Tryd.prog 6 #[.complex .f64 p q, .complex .f64 u v] w fun e w' => e = .returned (.complex .f64 re im) ∧ w = w' := by
  have r1 : ∀ t w, (binOp .add t (.complex .f64 p q) (.complex .f64 u v)).run Tryd.prog w = .ok (.complex .f64 re im) w := fun t w => run_complex_sum w .add (.inl rfl) t .f64 p q u v re im (by unfold fadd at h1 h2; simp [cSumBits, h1, h2])
  go_enter Tryd.func6, Tryd.ntmps6
  go_wp2
  go_ret
  exact ⟨rfl, rfl⟩
theorem Sub_walk (p q u v re im : Nat) (w : World) (h1 : fsub p u = some re) (h2 : fsub q v = some im) :
    Calls Tryd.prog 7 #[.complex .f64 p q, .complex .f64 u v] w fun e w' => e = .returned (.complex .f64 re im) ∧ w = w' := by
  have r1 : ∀ t w, (binOp .sub t (.complex .f64 p q) (.complex .f64 u v)).run Tryd.prog w = .ok (.complex .f64 re im) w := fun t w => run_complex_sum w .sub (.inr rfl) t .f64 p q u v re im (by unfold fsub at h1 h2; simp [cSumBits, h1, h2])
  go_enter Tryd.func7, Tryd.ntmps7
  go_wp2
  go_ret
  exact ⟨rfl, rfl⟩

theorem floatOfInt_fint (a : Int) : floatOfInt .f64 a = fint a := by
  unfold fint
  by_cases h : a = 0
  · subst h; decide +kernel
  · rw [if_neg h]; rfl

/-- the parts of a number out of two int32 -/
theorem number_any (a b : Int) (w : World) :
    Calls Tryd.prog 5 #[.agg #[.int .i32 a, .int .i32 b]] w fun e w' => e = .returned (.complex .f64 (fint (a / 128)) (fint (b / 128))) ∧ Below w.heap.size w w' := by
  go_enter Tryd.func5, Tryd.ntmps5
  go_wp2
  go_ret
  exact ⟨by rw [floatOfInt_fint, floatOfInt_fint]; rfl, (Below.refl _ _).alloc (Nat.le_refl _) _⟩

theorem floor_run (x r : Nat) (w : World) (h : floorW x = some r) : (callFunc 24 #[.float .f64 x]).run Tryd.prog w = .ok (.value (.float .f64 r)) w := by
  rw [run_callFunc_extern (e := Extern.MathFloor.toIntegral "math.archFloor" .down) Tryd.func24 (by kernel_rfl) (by kernel_rfl) (by kernel_rfl) (by kernel_rfl)]
  unfold floorW at h
  change (((Extern.MathFloor.toIntegral.match_1 (fun _ => Sem Value) (FloatKind.f64.decode x) _ _ : Sem Value)).run Tryd.prog w).andThen _ = _
  cases hd : FloatKind.f64.decode x with
  | nan s t => rw [hd] at h; cases h
  | infinity s => rw [hd] at h; cases h; rfl
  | number s m e => rw [hd] at h; cases h; rfl
theorem Floor_at (b r : Nat) (w : World) (h : ∀ w, (callFunc 24 #[.float .f64 b]).run Tryd.prog w = .ok (.value (.float .f64 r)) w) :
    Calls Tryd.prog 17 #[.float .f64 b] w fun e w' => e = .returned (.float .f64 r) ∧ w = w' := by
  go_enter Tryd.func17, Tryd.ntmps17
  go_wp2
  go_ret
  exact ⟨rfl, rfl⟩
theorem Signbit_at (b : Nat) (r : Bool) (w : World) (h : decide (wrap64 (b : Int) < 0) = r) :
    Calls Tryd.prog 18 #[.float .f64 b] w fun e w' => e = .returned (.bool r) ∧ w = w' := by
  have r1 := f64bits_run
  go_enter Tryd.func18, Tryd.ntmps18
  go_wp2
  go_ret
  exact ⟨by rw [← h]; rfl, rfl⟩
theorem Abs_at (b r : Nat) (w : World) (h : bits .andNot .u64 (b : Int) 9223372036854775808 = ((r : Nat) : Int)) :
    Calls Tryd.prog 16 #[.float .f64 b] w fun e w' => e = .returned (.float .f64 r) ∧ w = w' := by
  have r1 := f64bits_run
  have r2 := f64from_run
  go_enter Tryd.func16, Tryd.ntmps16
  go_wp2
  go_ret
  exact ⟨rfl, rfl⟩
theorem undInt : Tryd.prog.underlying 3 = some (.int .i64) := by kernel_rfl
theorem undFl : Tryd.prog.underlying 34 = some (.float .f64) := by kernel_rfl
theorem conv_at (b : Nat) (n : Int) (h : floatToIntVal .f64 b .i64 = some n) (w : World) : (convert 34 3 (.float .f64 b)).run Tryd.prog w = .ok (.int .i64 n) w :=
  run_convert_float_int w 34 3 .f64 .i64 b n (by rw [undFl]; rfl) undInt h

def Drawn (w w' : World) : Prop := ∃ n, w' = w.drewN n
theorem Drawn.below {w w' : World} (h : Drawn w w') (B : Nat) : Below B w w' := by
  obtain ⟨n, rfl⟩ := h
  exact ⟨rfl, rfl, rfl, Nat.le_refl _, fun _ _ => rfl⟩
theorem quiet_same {P : Program} {f : FuncId} {args : Array Value} {w : World} {n : Nat} {v : Value}
    (h : Calls P f args (w.drewN n) fun e w' => e = .returned v ∧ w.drewN n = w') : Calls P f args (w.drewN n) fun e w'' => e = .returned v ∧ ∃ m, w'' = w.drewN m :=
  Calls.quiet_of_same (h.mono fun _ _ h => ⟨h.1, h.2.symm⟩)

theorem Whole1_gen (b r : Nat) (z : Bool) (n most : Int) (a : Addr) (w : World) (ha : w.cell? a = some (.int .i64 most)) (h1 : bits .andNot .u64 (b : Int) 9223372036854775808 = ((r : Nat) : Int))
    (hf : ∀ w, (callFunc 24 #[.float .f64 b]).run Tryd.prog w = .ok (.value (.float .f64 b)) w) (hlt : (FloatKind.f64.format.order r 4890909195324358656 == some Ordering.lt) = true)
    (heq : (FloatKind.f64.format.order b b == some Ordering.eq) = true) (hz : (FloatKind.f64.format.order b 0 == some Ordering.eq) = z) (hs : z = true → decide (wrap64 (b : Int) < 0) = false)
    (hn : n ≤ most) (hc : ∀ w, (convert 34 3 (.float .f64 r)).run Tryd.prog w = .ok (.int .i64 n) w) :
    Calls Tryd.prog 15 #[.float .f64 b, .pointer (some a)] w fun e w' => e = .returned (.bool true) ∧ Drawn w w' := by
  have C1 := Lib.hid (fun w => Abs_at b r w h1)
  have C2 := Lib.hid (fun w => Floor_at b b w hf)
  clear h1 hf
  cases z
  · clear hs
    go_enter Tryd.func15, Tryd.ntmps15
    go_wp2
    go_quiet ((first | (go_at_call 16; exact quiet_same (C1.out _)) | (go_at_call 17; exact quiet_same (C2.out _))))
    go_wp2
    go_ret
    exact ⟨rfl, ⟨_, rfl⟩⟩
  · have C3 := Lib.hid (fun w => Signbit_at b false w (hs rfl))
    clear hs
    go_enter Tryd.func15, Tryd.ntmps15
    go_wp2
    go_quiet ((first | (go_at_call 16; exact quiet_same (C1.out _)) | (go_at_call 17; exact quiet_same (C2.out _)) | (go_at_call 18; exact quiet_same (C3.out _))))
    go_wp2
    go_ret
    exact ⟨rfl, ⟨_, rfl⟩⟩

theorem low63 (x : Nat) : x &&& (18446744073709551615 ^^^ 9223372036854775808) = x % 9223372036854775808 := by
  have : 18446744073709551615 ^^^ 9223372036854775808 = 2 ^ 63 - 1 := by decide
  rw [this, Nat.and_two_pow_sub_one_eq_mod]

theorem Whole1_int (x most : Int) (hx : x.natAbs < 2 ^ 53) (hm : (x.natAbs : Int) ≤ most) (a : Addr) (w : World) (ha : w.cell? a = some (.int .i64 most)) :
    Calls Tryd.prog 15 #[.float .f64 (fint x), .pointer (some a)] w fun e w' => e = .returned (.bool true) ∧ Drawn w w' := by
  have hw := whole_fint hx
  have e1 := bits_andNot_nat hw.lt (show 9223372036854775808 < 18446744073709551616 by decide)
  rw [low63, abs_whole hw hx] at e1
  have hz := eq0_whole hx
  refine Whole1_gen (fint x) (fint (x.natAbs : Int)) (decide (x = 0)) (x.natAbs : Int) most a w ha e1 (fun w => floor_run _ _ w (floor_whole x hx)) (lt63_whole (by omega)) (feq_whole hw hw) hz (fun h => ?_) hm (conv_at _ _ (int_whole (by omega) (by omega)))
  have : x = 0 := by simpa using h
  subst this
  decide +kernel

theorem Whole_int (x y most : Int) (hx : x.natAbs < 2 ^ 53) (hy : y.natAbs < 2 ^ 53) (hmx : (x.natAbs : Int) ≤ most) (hmy : (y.natAbs : Int) ≤ most) (w : World) :
    Calls Tryd.prog 10 #[.complex .f64 (fint x) (fint y), .int .i64 most] w fun e w' => e = .returned (.bool true) ∧ Below w.heap.size w w' := by
  have C1 := Lib.hid (fun a w ha => Whole1_int x most hx hmx a w ha)
  have C2 := Lib.hid (fun a w ha => Whole1_int y most hy hmy a w ha)
  have hm0 : 0 ≤ most := by omega
  clear hx hy hmx hmy
  generalize fint x = fx at *
  generalize fint y = fy at *
  go_enter Tryd.func10, Tryd.ntmps10
  have hn0 : ∀ j, (w.alloc (.cells #[.int .i64 most] 3)).cell? ⟨w.heap.size, j, none⟩ = #[Value.int .i64 most][j]? := fun j => cell_of_row _ _ j _ _ (0, 0) (heap_alloc_new w _)
  have HN := Lib.hid hn0
  clear hn0
  go_wp2_with fail
  refine (C1.out _ _ (HN.out 0)).mono ?_; rintro e w1 ⟨rfl, hd⟩
  have c := ((hd.below (w.heap.size + 1)).cell (p := ⟨w.heap.size, 0, none⟩) (by simp)).trans (HN.out 0)
  have HB := Lib.hid (((Below.refl w.heap.size w).alloc (Nat.le_refl _) (.cells #[.int .i64 most] 3)).trans (hd.below _))
  clear hd
  go_wp2_with fail
  refine (C2.out _ _ c).mono ?_; rintro e w2 ⟨rfl, hd⟩
  have HB2 := Lib.hid (HB.out.trans (hd.below _))
  clear hd
  go_wp2
  go_ret
  exact ⟨rfl, HB2.out⟩
end Go.Proofs.YtoeeceemoggffaaDoor
