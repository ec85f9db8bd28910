/- The fixed fact of layer 9. -/
import Derived.Test.YtoeeceemoggffaaPr
namespace Go.Proofs.Ytoeeceemoggffaa
open Go.RowKit
set_option maxHeartbeats 1600000
set_option maxRecDepth 100000

def aliveA (i : Nat) : Int := if i < 4 then (i : Int) + 1 else 0
theorem alive_bins : (binsC (lineN 2 (1, 1)) aliveA (fun _ => 0) (List.range 4) (binsN 2 (1, 1))).map cv = [.complex .f64 4613937818241073152 0, .complex .f64 4617315517961601024 0, .complex .f64 4611686018427387904 0] := by
  have h : binsC (lineN 2 (1, 1)) aliveA (fun _ => 0) (List.range 4) (binsN 2 (1, 1)) = [(4613937818241073152, 0), (4617315517961601024, 0), (4611686018427387904, 0)] := by decide +kernel
  rw [h]; rfl
theorem alive_n : binsN 2 (1, 1) = 3 := by decide
theorem alive_w : fint 1 = 4607182418800017408 ∧ fint 2 = 4611686018427387904 ∧ fint 3 = 4613937818241073152 ∧ fint 4 = 4616189618054758400 ∧ fint 0 = 0 := by decide +kernel

theorem alive09_walk (w : World) : Calls Try.prog 37 #[] w fun e w' => e = .returned (.bool true) ∧ Below w.heap.size w w' := by
  have hc : ∀ i, i < 4 → (w.alloc (.cells #[.complex .f64 4607182418800017408 0, .complex .f64 4611686018427387904 0, .complex .f64 4613937818241073152 0, .complex .f64 4616189618054758400 0] 23)).cell? ⟨w.heap.size, i, none⟩ = some (cv (fint (aliveA i), fint ((fun _ => 0 : Nat → Int) i))) := by
    obtain ⟨e1, e2, e3, e4, e0⟩ := alive_w
    intro i hi
    have hn := new_cell w #[.complex .f64 4607182418800017408 0, .complex .f64 4611686018427387904 0, .complex .f64 4613937818241073152 0, .complex .f64 4616189618054758400 0] 23
    match i, hi with
    | 0, _ => rw [hn 0]; show _ = some (cv (fint 1, fint 0)); rw [e1, e0]; rfl
    | 1, _ => rw [hn 1]; show _ = some (cv (fint 2, fint 0)); rw [e2, e0]; rfl
    | 2, _ => rw [hn 2]; show _ = some (cv (fint 3, fint 0)); rw [e3, e0]; rfl
    | 3, _ => rw [hn 3]; show _ = some (cv (fint 4, fint 0)); rw [e4, e0]; rfl
  have C := Lib.hid (Project_yes 2 4 w.heap.size 4 1 1 aliveA (fun _ => 0) _ rfl (by decide) (by decide) (by decide) (by intro i; unfold aliveA; split <;> omega) (by intro i; simp) (by simp) hc)
  rw [alive_n] at C
  clear hc
  have q1 : (FloatKind.f64.format.order 4613937818241073152 4613937818241073152 == some Ordering.eq) = true := by decide +kernel
  have q2 : (FloatKind.f64.format.order 4617315517961601024 4617315517961601024 == some Ordering.eq) = true := by decide +kernel
  have q3 : (FloatKind.f64.format.order 0 0 == some Ordering.eq) = true := by decide +kernel
  go_enter Try.func37, Try.ntmps37
  go_wp2_with fail
  refine C.out.mono ?_; rintro e w1 ⟨g, rfl, ho⟩
  have ha := alive_bins
  rw [alive_n] at ha
  rw [ha] at ho
  have hs := ho.below.size
  have HB := Lib.hid (((Below.refl w.heap.size w).alloc (Nat.le_refl _) (.cells #[.complex .f64 4607182418800017408 0, .complex .f64 4611686018427387904 0, .complex .f64 4613937818241073152 0, .complex .f64 4616189618054758400 0] 23)).trans (ho.below.mono (by simp)))
  have hb2 := (Below.refl w1.heap.size w1).alloc (Nat.le_refl _) (.cells #[.int .i64 1, .int .i64 1, .slice (some ⟨g, 0, none⟩) 3 3] 61)
  have p0 := cells_below hb2 ho.lt.2 (ho.cell (j := 0) rfl)
  have p1 := cells_below hb2 ho.lt.2 (ho.cell (j := 1) rfl)
  clear ho ha hb2 C
  go_wp2
  go_ret
  exact ⟨rfl, HB.out.alloc HB.out.size _⟩
end Go.Proofs.Ytoeeceemoggffaa
