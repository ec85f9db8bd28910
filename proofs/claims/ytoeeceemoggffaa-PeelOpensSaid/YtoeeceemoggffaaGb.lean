/- cx.Whole at 0, 1 and -1, and ghost.Check of a small ghost, by their contracts. -/
import Derived.Test.YtoeeceemoggffaaGm
import Derived.Maps.RangeWalk
namespace Go.Proofs.Ytoeeceemoggffaa
open Go.RowKit
set_option maxHeartbeats 1600000
set_option maxRecDepth 100000

theorem Floor_at (b r : Nat) (w : World) (h : ∀ w, (callFunc 145 #[.float .f64 b]).run Try.prog w = .ok (.value (.float .f64 r)) w) :
    Calls Try.prog 128 #[.float .f64 b] w fun e w' => e = .returned (.float .f64 r) ∧ w = w' := by
  go_enter Try.func128, Try.ntmps128
  go_wp2
  go_ret
  exact ⟨rfl, rfl⟩
theorem fl0 (w : World) : (callFunc 145 #[.float .f64 0]).run Try.prog w = .ok (.value (.float .f64 0)) w := by kernel_rfl
theorem fl1 (w : World) : (callFunc 145 #[.float .f64 4607182418800017408]).run Try.prog w = .ok (.value (.float .f64 4607182418800017408)) w := by kernel_rfl
theorem fl2 (w : World) : (callFunc 145 #[.float .f64 13830554455654793216]).run Try.prog w = .ok (.value (.float .f64 13830554455654793216)) w := by kernel_rfl
theorem Signbit_at (b : Nat) (r : Bool) (w : World) (h : decide (wrap64 (b : Int) < 0) = r) :
    Calls Try.prog 129 #[.float .f64 b] w fun e w' => e = .returned (.bool r) ∧ w = w' := by
  have r1 := f64bits_run
  go_enter Try.func129, Try.ntmps129
  go_wp2
  go_ret
  exact ⟨by rw [← h]; rfl, rfl⟩
theorem Abs_at (b r : Nat) (w : World) (h : bits .andNot .u64 (b : Int) 9223372036854775808 = ((r : Nat) : Int)) :
    Calls Try.prog 25 #[.float .f64 b] w fun e w' => e = .returned (.float .f64 r) ∧ w = w' := by
  have r1 := f64bits_run
  have r2 := f64from_run
  go_enter Try.func25, Try.ntmps25
  go_wp2
  go_ret
  exact ⟨rfl, rfl⟩

theorem Whole1_at (b r : Nat) (z : Bool) (n : Int) (a : Addr) (w : World) (ha : w.cell? a = some (.int .i64 65536)) (h1 : bits .andNot .u64 (b : Int) 9223372036854775808 = ((r : Nat) : Int))
    (hf : ∀ w, (callFunc 145 #[.float .f64 b]).run Try.prog w = .ok (.value (.float .f64 b)) w) (hlt : (FloatKind.f64.format.order r 4890909195324358656 == some Ordering.lt) = true)
    (heq : (FloatKind.f64.format.order b b == some Ordering.eq) = true) (hz : (FloatKind.f64.format.order b 0 == some Ordering.eq) = z) (hs : z = true → decide (wrap64 (b : Int) < 0) = false)
    (hn : n ≤ 65536) (hc : ∀ w, (convert 32 3 (.float .f64 r)).run Try.prog w = .ok (.int .i64 n) w) :
    Calls Try.prog 127 #[.float .f64 b, .pointer (some a)] w fun e w' => e = .returned (.bool true) ∧ Drawn w w' := by
  have C1 := Lib.hid (fun w => Abs_at b r w h1)
  have C2 := Lib.hid (fun w => Floor_at b b w hf)
  clear h1 hf
  cases z
  · clear hs
    go_enter Try.func127, Try.ntmps127
    go_wp2
    go_quiet ((first | (go_at_call 25; exact quiet_same (C1.out _)) | (go_at_call 128; exact quiet_same (C2.out _))))
    go_wp2
    go_ret
    exact ⟨rfl, ⟨_, rfl⟩⟩
  · have C3 := Lib.hid (fun w => Signbit_at b false w (hs rfl))
    clear hs
    go_enter Try.func127, Try.ntmps127
    go_wp2
    go_quiet ((first | (go_at_call 25; exact quiet_same (C1.out _)) | (go_at_call 128; exact quiet_same (C2.out _)) | (go_at_call 129; exact quiet_same (C3.out _))))
    go_wp2
    go_ret
    exact ⟨rfl, ⟨_, rfl⟩⟩

/-- 0, 1 or -1 -/
def okW (b : Nat) : Prop := b = 0 ∨ b = 4607182418800017408 ∨ b = 13830554455654793216

theorem undFl : Try.prog.underlying 32 = some (.float .f64) := by kernel_rfl
theorem conv_at (b : Nat) (n : Int) (h : floatToIntVal .f64 b .i64 = some n) (w : World) : (convert 32 3 (.float .f64 b)).run Try.prog w = .ok (.int .i64 n) w :=
  run_convert_float_int w 32 3 .f64 .i64 b n (by rw [undFl]; rfl) undInt h

theorem Whole1_ok (b : Nat) (a : Addr) (w : World) (hb : okW b) (ha : w.cell? a = some (.int .i64 65536)) :
    Calls Try.prog 127 #[.float .f64 b, .pointer (some a)] w fun e w' => e = .returned (.bool true) ∧ Drawn w w' := by
  rcases hb with rfl | rfl | rfl
  · exact Whole1_at 0 0 true 0 a w ha (by decide) fl0 (by decide +kernel) (by decide +kernel) (by decide +kernel) (fun _ => by decide +kernel) (by decide) (conv_at 0 0 (by decide +kernel))
  · exact Whole1_at _ 4607182418800017408 false 1 a w ha (by decide) fl1 (by decide +kernel) (by decide +kernel) (by decide +kernel) (fun h => by cases h) (by decide) (conv_at _ 1 (by decide +kernel))
  · exact Whole1_at _ 4607182418800017408 false 1 a w ha (by decide) fl2 (by decide +kernel) (by decide +kernel) (by decide +kernel) (fun h => by cases h) (by decide) (conv_at _ 1 (by decide +kernel))

theorem Whole_ok (b : Nat) (w : World) (hb : okW b) :
    Calls Try.prog 105 #[.complex .f64 b 0, .int .i64 65536] w fun e w' => e = .returned (.bool true) ∧ Below w.heap.size w w' := by
  have C1 := Lib.hid (fun a w ha => Whole1_ok b a w hb ha)
  have C2 := Lib.hid (fun a w ha => Whole1_ok 0 a w (.inl rfl) ha)
  go_enter Try.func105, Try.ntmps105
  go_wp2_with fail
  refine (C1.out _ _ (new_cell _ _ _ 0)).mono ?_; rintro e w1 ⟨rfl, hd⟩
  have c := (hd.cell ⟨w.heap.size, 0, none⟩).trans (new_cell _ _ _ 0)
  have HB := Lib.hid (((Below.refl w.heap.size w).alloc (Nat.le_refl _) (.cells #[.int .i64 65536] 3)).trans (hd.below _))
  clear hd
  go_wp2_with fail
  refine (C2.out _ _ c).mono ?_; rintro e w2 ⟨rfl, hd⟩
  have HB2 := Lib.hid (HB.out.trans (hd.below _))
  clear hd
  go_wp2
  go_ret
  exact ⟨rfl, HB2.out⟩

theorem Check1_walk (n : Int) (w : World) (h1 : 1 ≤ n) (h2 : n ≤ 64) :
    Calls Try.prog 119 #[.int .i64 n] w fun e w' => e = .returned (.bool true) ∧ w = w' := by
  go_enter Try.func119, Try.ntmps119
  go_wp2
  go_ret
  exact ⟨rfl, rfl⟩

theorem gCheck_ok (g cap W H : Nat) (w : World) (hW : 1 ≤ W ∧ W ≤ 64) (hH : 1 ≤ H ∧ H ≤ 64) (hg : g < w.heap.size) (hc : ∀ j, j < W * H → ∃ b, okW b ∧ w.cell? ⟨g, j, none⟩ = some (.complex .f64 b 0)) :
    Calls Try.prog 95 #[ghV W H g (W * H) cap] w fun e w' => GivesInt 0 w e w' := by
  have hmul : W * H ≤ 4096 := Nat.mul_le_mul (show W ≤ 64 by omega) (show H ≤ 64 by omega)
  have hm : (W : Int) * (H : Int) = ((W * H : Nat) : Int) := (Int.natCast_mul _ _).symm
  generalize W * H = M at *
  have HC := Lib.hid hc
  clear hc
  go_enter Try.func95, Try.ntmps95
  go_wp2_with fail
  refine (Check1_walk _ _ (by omega) (by omega)).mono ?_; rintro e w1 ⟨rfl, rfl⟩
  go_wp2_with fail
  refine (Check1_walk _ _ (by omega) (by omega)).mono ?_; rintro e w1 ⟨rfl, rfl⟩
  go_wp2
  go_loopw [2, 32] (fun r i wr => r = .int .i64 0 ∧ ∃ k : Nat, k ≤ M ∧ i = .int .i64 k ∧ Below w.heap.size w wr) (fun _ i _ => M - (intOf i).toNat)
  case atStart => exact ⟨rfl, 0, Nat.zero_le _, rfl, (Below.refl _ _).alloc (Nat.le_refl _) _⟩
  case round =>
    obtain ⟨rfl, k, hk, rfl, hb⟩ := hrel
    have HB := Lib.hid hb
    clear hb
    by_cases hlt : k < M
    · obtain ⟨b, hb, hcell⟩ := HC.out k hlt
      have c := (HB.out.cell (p := ⟨g, k, none⟩) hg).trans hcell
      have HK := Lib.hid (fun w => Whole_ok b w hb)
      clear hcell hb
      go_wp2_with fail
      refine (HK.out _).mono ?_; rintro e w2 ⟨rfl, hb⟩
      have HB2 := Lib.hid (HB.out.trans (hb.mono HB.out.size))
      clear hb
      go_wp2
      go_roundw
      case rel => exact ⟨rfl, k + 1, by omega, by go_num, HB2.out⟩
      case measure => simp [intOf]; omega
    · obtain rfl : k = M := by omega
      go_wp2
      go_ret
      exact ⟨rfl, HB.out⟩
end Go.Proofs.Ytoeeceemoggffaa
