/- The reference's comparison of two lists of complex numbers, where both hold the same. -/
import Derived.Test.YtoeeceemoggffaaR1
import Derived.Test.YtoeeceemoggffaaRt
import Derived.Test.YtoeeceemoggffaaLw
namespace Go.Proofs.Ytoeeceemoggffaa
open Go.RowKit
set_option maxHeartbeats 400000

theorem rSameList_empty (A1 A2 : Option Addr) (c1 c2 : Nat) (w : World) :
    Calls Try.prog 28 #[.slice A1 0 c1, .slice A2 0 c2] w fun e w' => e = .returned (.bool true) ∧ Below w.heap.size w w' := by
  go_enter Try.func28, Try.ntmps28
  go_wp2
  refine wp_loop_rounds 1 ?_
  rw [rounds_succ]
  go_wp2
  go_ret
  exact ⟨rfl, Below.refl _ _⟩

theorem rSameList_refl (xs : List (Nat × Nat)) (L g1 g2 c1 c2 : Nat) (w : World) (hL : L = xs.length) (hr1 : RowC w g1 xs) (hr2 : RowC w g2 xs) (hm : L ≤ 1000000) :
    Calls Try.prog 28 #[.slice (some ⟨g1, 0, none⟩) L c1, .slice (some ⟨g2, 0, none⟩) L c2] w fun e w' => e = .returned (.bool true) ∧ Below w.heap.size w w' := by
  have HL := Lib.hid hL
  have h1 := Lib.hid hr1
  have h2 := Lib.hid hr2
  clear hL hr1 hr2
  have hb : ((L : Int) != (L : Int)) = false := by simp
  go_enter Try.func28, Try.ntmps28
  go_wp2
  go_loopw [5] (fun i wr => ∃ j : Nat, j ≤ L ∧ i = .int .i64 j ∧ Drawn w wr) (fun i _ => L - (intOf i).toNat)
  case atStart => exact ⟨0, Nat.zero_le _, rfl, Drawn.refl _⟩
  case round =>
    obtain ⟨j, hj, rfl, hq⟩ := hrel
    by_cases hlt : j < L
    · have Hq := Lib.hid hq
      have e1 := (hq.cell _).trans (h1.out.at (show j < xs.length by rw [← HL.out]; exact hlt))
      have e2 := (hq.cell _).trans (h2.out.at (show j < xs.length by rw [← HL.out]; exact hlt))
      clear hq
      generalize xs.getD j (0, 0) = a at *
      have i1 : (j : Int) < (L : Int) := by omega
      have i2 : (0 : Int) ≤ (j : Int) := by omega
      go_wp2
      go_quiet ((go_at_call 18; exact quiet_same (rSame_refl a _)))
      go_wp2
      go_roundw
      case rel => exact ⟨j + 1, by omega, by go_num, Hq.out.more _⟩
      case measure => simp [intOf]; omega
    · obtain rfl : j = L := by omega
      go_wp2
      go_ret
      exact ⟨rfl, hq.below _⟩
end Go.Proofs.Ytoeeceemoggffaa
