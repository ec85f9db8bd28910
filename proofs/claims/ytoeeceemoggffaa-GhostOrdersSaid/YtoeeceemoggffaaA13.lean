/- The fixed fact of layer 13. -/
import Derived.Test.YtoeeceemoggffaaBl
namespace Go.Proofs.Ytoeeceemoggffaa
open Go.RowKit
set_option maxHeartbeats 1600000
set_option maxRecDepth 100000

theorem cells13 : (cellsG (gh [(-1, 1)]) (wN [(-1, 1)]) (wN [(-1, 1)] * hN [(-1, 1)])).map cv = [.complex .f64 0 0, .complex .f64 4607182418800017408 0, .complex .f64 13830554455654793216 0, .complex .f64 0 0] := by
  have h : cellsG (gh [(-1, 1)]) (wN [(-1, 1)]) (wN [(-1, 1)] * hN [(-1, 1)]) = [(0, 0), (4607182418800017408, 0), (13830554455654793216, 0), (0, 0)] := by decide +kernel
  rw [h]; rfl
theorem w13 : wN [(-1, 1)] = 2 := by decide
theorem h13 : hN [(-1, 1)] = 2 := by decide

theorem alive13_walk (w : World) : Calls Try.prog 29 #[] w fun e w' => e = .returned (.bool true) ∧ Below w.heap.size w w' := by
  have hd : Dirs (w.alloc (.cells #[.int .i64 (-1), .int .i64 1] 51)) (some ⟨w.heap.size, 0, none⟩) [(-1, 1)] := by
    refine ⟨fun i d hi => ?_, fun d hd => ?_, by decide⟩
    · match i, hi with
      | 0, hi =>
        obtain rfl : (-1, 1) = d := by simpa using hi
        exact ⟨w.heap.size, 0, rfl, by simp, new_cell _ _ _ 0, new_cell _ _ _ 1⟩
    · obtain rfl : d = (-1, 1) := by simpa using hd
      unfold I64; decide
  have HM := Lib.hid (Make_yes (some ⟨w.heap.size, 0, none⟩) 1 [(-1, 1)] _ hd (by decide) (by decide))
  clear hd
  have q1 : (FloatKind.f64.format.order 4607182418800017408 4607182418800017408 == some Ordering.eq) = true := by decide +kernel
  have q2 : (FloatKind.f64.format.order 13830554455654793216 13830554455654793216 == some Ordering.eq) = true := by decide +kernel
  have q3 : (FloatKind.f64.format.order 0 0 == some Ordering.eq) = true := by decide +kernel
  go_enter Try.func29, Try.ntmps29
  go_wp2_with fail
  refine HM.out.mono ?_; rintro e w1 ⟨g, rfl, ho⟩
  rw [cells13, w13, h13] at ho
  rw [w13, h13]
  have hgl := ho.lt
  simp at hgl
  have hb := ho.below
  have hs := hb.size
  simp at hs
  have HO := Lib.hid ho
  have HB := Lib.hid (((Below.refl w.heap.size w).alloc (Nat.le_refl _) (.cells #[.int .i64 (-1), .int .i64 1] 51)).trans (hb.mono (by simp)))
  have hba := (Below.refl w1.heap.size w1).alloc (Nat.le_refl _) (.cells #[.int .i64 2, .int .i64 2, .slice (some ⟨g, 0, none⟩) 4 4] 44)
  have p0 := (hba.cell (p := ⟨g, 0, none⟩) hgl.2).trans (ho.cell (j := 0) rfl)
  have p1 := (hba.cell (p := ⟨g, 1, none⟩) hgl.2).trans (ho.cell (j := 1) rfl)
  have p2 := (hba.cell (p := ⟨g, 2, none⟩) hgl.2).trans (ho.cell (j := 2) rfl)
  have p3 := (hba.cell (p := ⟨g, 3, none⟩) hgl.2).trans (ho.cell (j := 3) rfl)
  have HBl := Lib.hid (Blind_at g 4 _ (by rw [new_size]; omega) p0 p1 p2 p3)
  have P1 := Lib.hid p1
  have P2 := Lib.hid p2
  clear p0 p1 p2 p3 hba hb ho
  go_wp2_with fail
  refine HBl.out.mono ?_; rintro e w2 ⟨rfl, hb2⟩
  have hs2 := hb2.size
  simp at hs2
  have x1 := (hb2.cell (p := ⟨g, 1, none⟩) (by simp <;> omega)).trans P1.out
  have x2 := (hb2.cell (p := ⟨g, 2, none⟩) (by simp <;> omega)).trans P2.out
  have y0 := (hb2.cell (p := ⟨w1.heap.size, 0, none⟩) (by simp)).trans (new_cell w1 _ _ 0)
  have y1 := (hb2.cell (p := ⟨w1.heap.size, 1, none⟩) (by simp)).trans (new_cell w1 _ _ 1)
  have y2 := (hb2.cell (p := ⟨w1.heap.size, 2, none⟩) (by simp)).trans (new_cell w1 _ _ 2)
  have HB2 := Lib.hid ((HB.out.alloc (by omega) (.cells #[.int .i64 2, .int .i64 2, .slice (some ⟨g, 0, none⟩) 4 4] 44)).trans (hb2.mono (by simp; omega)))
  clear hb2
  go_wp2
  go_ret
  exact ⟨rfl, HB2.out⟩
end Go.Proofs.Ytoeeceemoggffaa
