/- cx.Whole and grid.Check at small whole numbers, by their contracts. -/
import Derived.Test.YtoeeceemoggffaaGb
import Derived.Test.YtoeeceemoggffaaOv
import Derived.Test.YtoeeceemoggffaaSd
namespace Go.Proofs.Ytoeeceemoggffaa
open Go.RowKit
set_option maxHeartbeats 1600000
set_option maxRecDepth 100000

/-- the word's floor -/
def floorW (x : Nat) : Option Nat :=
  match FloatKind.f64.decode x with
  | .nan _ _ => none
  | d => some (FloatKind.f64.encode (d.integral .down))

theorem floor_run (x r : Nat) (w : World) (h : floorW x = some r) : (callFunc 145 #[.float .f64 x]).run Try.prog w = .ok (.value (.float .f64 r)) w := by
  rw [run_callFunc_extern (e := Extern.MathFloor.toIntegral "math.archFloor" .down) Try.func145 (by kernel_rfl) (by kernel_rfl) (by kernel_rfl) (by kernel_rfl)]
  unfold floorW at h
  change (((Extern.MathFloor.toIntegral.match_1 (fun _ => Sem Value) (FloatKind.f64.decode x) _ _ : Sem Value)).run Try.prog w).andThen _ = _
  cases hd : FloatKind.f64.decode x with
  | nan s t => rw [hd] at h; cases h
  | infinity s => rw [hd] at h; cases h; rfl
  | number s m e => rw [hd] at h; cases h; rfl

/-- what the words of the small whole numbers come to -/
def smallOK (k : Nat) : Bool :=
  let a : Int := (k : Int) - 128
  let b := fint a
  let r := fint (a.natAbs : Int)
  decide (bits .andNot .u64 (b : Int) 9223372036854775808 = ((r : Nat) : Int)) && decide (floorW b = some b) && (FloatKind.f64.format.order r 4890909195324358656 == some Ordering.lt) &&
  ((FloatKind.f64.format.order b 0 == some Ordering.eq) == decide (a = 0)) && decide (floatToIntVal .f64 r .i64 = some (a.natAbs : Int))

theorem small_all : ∀ k, k < 257 → smallOK k = true := by decide +kernel

theorem small_facts {a : Int} (h : -128 ≤ a ∧ a ≤ 128) : bits .andNot .u64 (fint a : Int) 9223372036854775808 = ((fint (a.natAbs : Int) : Nat) : Int) ∧ floorW (fint a) = some (fint a) ∧
    (FloatKind.f64.format.order (fint (a.natAbs : Int)) 4890909195324358656 == some Ordering.lt) = true ∧ (FloatKind.f64.format.order (fint a) 0 == some Ordering.eq) = decide (a = 0) ∧ floatToIntVal .f64 (fint (a.natAbs : Int)) .i64 = some (a.natAbs : Int) := by
  have := small_all (a + 128).toNat (by omega)
  have e : ((a + 128).toNat : Int) - 128 = a := by omega
  unfold smallOK at this
  simp only [e, Bool.and_eq_true, decide_eq_true_eq, beq_iff_eq] at this
  obtain ⟨⟨⟨⟨h1, h2⟩, h3⟩, h4⟩, h5⟩ := this
  exact ⟨h1, h2, by rw [h3]; rfl, h4, h5⟩

theorem Whole1_gen (b r : Nat) (z : Bool) (n most : Int) (a : Addr) (w : World) (ha : w.cell? a = some (.int .i64 most)) (h1 : bits .andNot .u64 (b : Int) 9223372036854775808 = ((r : Nat) : Int))
    (hf : ∀ w, (callFunc 145 #[.float .f64 b]).run Try.prog w = .ok (.value (.float .f64 b)) w) (hlt : (FloatKind.f64.format.order r 4890909195324358656 == some Ordering.lt) = true)
    (heq : (FloatKind.f64.format.order b b == some Ordering.eq) = true) (hz : (FloatKind.f64.format.order b 0 == some Ordering.eq) = z) (hs : z = true → decide (wrap64 (b : Int) < 0) = false)
    (hn : n ≤ most) (hc : ∀ w, (convert 32 3 (.float .f64 r)).run Try.prog w = .ok (.int .i64 n) w) :
    Calls Try.prog 127 #[.float .f64 b, .pointer (some a)] w fun e w' => e = .returned (.bool true) ∧ Drawn w w' := by
  have C1 := Lib.hid (fun w => Abs_at b r w h1)
  have C2 := Lib.hid (fun w => Floor_at b b w hf)
  clear h1 hf
  cases z
  · clear hs
    go_enter Try.func127, Try.ntmps127
    go_wp2
    go_quiet ((first | (go_at_call 25; exact quiet_same (C1.out _)) | (go_at_call 128; exact quiet_same (C2.out _))))
    go_wp2
    go_ret
    exact ⟨rfl, ⟨_, rfl⟩⟩
  · have C3 := Lib.hid (fun w => Signbit_at b false w (hs rfl))
    clear hs
    go_enter Try.func127, Try.ntmps127
    go_wp2
    go_quiet ((first | (go_at_call 25; exact quiet_same (C1.out _)) | (go_at_call 128; exact quiet_same (C2.out _)) | (go_at_call 129; exact quiet_same (C3.out _))))
    go_wp2
    go_ret
    exact ⟨rfl, ⟨_, rfl⟩⟩

theorem Whole1_small (x most : Int) (hx : -128 ≤ x ∧ x ≤ 128) (hm : 128 ≤ most) (a : Addr) (w : World) (ha : w.cell? a = some (.int .i64 most)) :
    Calls Try.prog 127 #[.float .f64 (fint x), .pointer (some a)] w fun e w' => e = .returned (.bool true) ∧ Drawn w w' := by
  obtain ⟨f1, f2, f3, f4, f5⟩ := small_facts hx
  have hw := whole_fint (a := x) (by omega)
  refine Whole1_gen (fint x) _ _ (x.natAbs : Int) most a w ha f1 (fun w => floor_run _ _ w f2) f3 (feq_whole hw hw) f4 (fun h => ?_) (by omega) (conv_at _ _ f5)
  have : x = 0 := by simpa using h
  subst this
  decide +kernel

theorem Whole_small (x y most : Int) (hx : -128 ≤ x ∧ x ≤ 128) (hy : -128 ≤ y ∧ y ≤ 128) (hm : 128 ≤ most) (w : World) :
    Calls Try.prog 105 #[.complex .f64 (fint x) (fint y), .int .i64 most] w fun e w' => e = .returned (.bool true) ∧ Below w.heap.size w w' := by
  have C1 := Lib.hid (fun a w ha => Whole1_small x most hx hm a w ha)
  have C2 := Lib.hid (fun a w ha => Whole1_small y most hy hm a w ha)
  go_enter Try.func105, Try.ntmps105
  go_wp2_with fail
  refine (C1.out _ _ (new_cell _ _ _ 0)).mono ?_; rintro e w1 ⟨rfl, hd⟩
  have c := (hd.cell ⟨w.heap.size, 0, none⟩).trans (new_cell _ _ _ 0)
  have HB := Lib.hid (((Below.refl w.heap.size w).alloc (Nat.le_refl _) (.cells #[.int .i64 most] 3)).trans (hd.below _))
  clear hd
  go_wp2_with fail
  refine (C2.out _ _ c).mono ?_; rintro e w2 ⟨rfl, hd⟩
  have HB2 := Lib.hid (HB.out.trans (hd.below _))
  clear hd
  go_wp2
  go_ret
  exact ⟨rfl, HB2.out⟩

theorem value_small (x y : Int) (hx : -128 ≤ x ∧ x ≤ 128) (hy : -128 ≤ y ∧ y ≤ 128) (w : World) :
    Calls Try.prog 99 #[.complex .f64 (fint x) (fint y)] w fun e w' => e = .returned (.bool true) ∧ Below w.heap.size w w' := by
  have C := Lib.hid (fun w => Whole_small x y 1048576 hx hy (by decide) w)
  go_enter Try.func99, Try.ntmps99
  go_wp2_with fail
  refine (C.out _).mono ?_; rintro e w1 ⟨rfl, hb⟩
  have HB := Lib.hid hb
  clear hb
  go_wp2
  go_ret
  exact ⟨rfl, HB.out⟩

theorem gridCheck_small (n M g cap : Nat) (A B : Nat → Int) (w : World) (hM : M = n * n) (h1 : 1 ≤ n) (h2 : n ≤ 64) (hA : ∀ i, -128 ≤ A i ∧ A i ≤ 128) (hB : ∀ i, -128 ≤ B i ∧ B i ≤ 128)
    (hg : g < w.heap.size) (hc : ∀ i, i < M → w.cell? ⟨g, i, none⟩ = some (cv (fint (A i), fint (B i)))) :
    Calls Try.prog 70 #[gridV n g M cap] w fun e w' => GivesInt 0 w e w' := by
  have hM4 : M ≤ 4096 := by rw [hM]; exact Nat.mul_le_mul h2 h2
  have hnn : (n : Int) * (n : Int) = (M : Int) := by rw [hM]; exact (Int.natCast_mul _ _).symm
  have hne : ((M : Int) != (M : Int)) = false := by simp
  have HC := Lib.hid hc
  have HA := Lib.hid hA
  have HB := Lib.hid hB
  clear hc hA hB hM
  go_enter Try.func70, Try.ntmps70
  go_wp2
  go_loopw [2, 27] (fun r i wr => r = .int .i64 0 ∧ ∃ k : Nat, k ≤ M ∧ i = .int .i64 k ∧ Below w.heap.size w wr) (fun _ i _ => M - (intOf i).toNat)
  case atStart => exact ⟨rfl, 0, Nat.zero_le _, rfl, (Below.refl _ _).alloc (Nat.le_refl _) _⟩
  case round =>
    obtain ⟨rfl, k, hk, rfl, hb⟩ := hrel
    have HBk := Lib.hid hb
    clear hb
    by_cases hlt : k < M
    · have c := (HBk.out.cell (p := ⟨g, k, none⟩) hg).trans (HC.out k hlt)
      have HK := Lib.hid (fun w => value_small _ _ (HA.out k) (HB.out k) w)
      go_wp2_with fail
      refine (HK.out _).mono ?_; rintro e w2 ⟨rfl, hb⟩
      have HB2 := Lib.hid (HBk.out.trans (hb.mono HBk.out.size))
      clear hb
      go_wp2
      go_roundw
      case rel => exact ⟨rfl, k + 1, by omega, by go_num, HB2.out⟩
      case measure => simp [intOf]; omega
    · obtain rfl : k = M := by omega
      go_wp2
      go_ret
      exact ⟨rfl, HBk.out⟩
end Go.Proofs.Ytoeeceemoggffaa
