/- Bytes and a direction that came in: what they read as. -/
import Derived.Test.YtoeeceemoggffaaOd
import Derived.Test.YtoeeceemoggffaaSm
import Derived.ChangeSlices
import Derived.ChangeArms
namespace Go.Proofs.Ytoeeceemoggffaa
open Go.RowKit
set_option maxHeartbeats 400000
set_option maxRecDepth 100000

theorem undBytes : Try.prog.underlying 56 = some (.slice 5) := by kernel_rfl
theorem undU8 : Try.prog.underlying 5 = some (.int .u8) := by kernel_rfl
theorem cellsU8 : Try.prog.cellsOf 5 = 1 := by kernel_rfl

theorem wf_u8 {n : Int} (h : (Lit.int .u8 n).wf = true) : 0 ≤ n ∧ n ≤ 255 := by
  simp only [Lit.wf, Bool.and_eq_true, decide_eq_true_eq] at h
  exact h

theorem open_bytes {H : Type} {enc : TypeId × Value → H} {w : World} {sp : Nat → Bool} {A0 : Option Addr} {len0 cap0 : Nat} {d : DataW H} {ps : List MemPlace} (h : DataW.Trod enc Try.prog w 0 sp true 56 (.slice A0 len0 cap0) d ps)
    (hsz : ∀ elems spare, d = .slice elems spare → (elems.length + spare.length) * 1 ≤ reachBytes) : ∃ Z : Nat → Int, Bytes w A0 len0 Z := by
  obtain ⟨fuel, h⟩ := h
  rcases Go.ChangeShapes.open_ints undBytes undU8 cellsU8 h with ⟨h0, _⟩ | ⟨a, len, cap, zs, hc, _, hlc, _, hm, hx, hcell, hwf⟩
  · simp [Value.cells] at h0
    obtain ⟨rfl, rfl, rfl⟩ := h0
    exact ⟨fun _ => 0, fun i hi => (Nat.not_lt_zero i hi).elim, fun i hi => (Nat.not_lt_zero i hi).elim, Nat.zero_le _⟩
  · simp [Value.cells] at hc
    obtain ⟨rfl, rfl, rfl⟩ := hc
    have hlm : len0 ≤ zs.length := by rw [hm]; split <;> omega
    have hlen : len0 ≤ 140737488355328 := by
      have hd := (Prod.mk.inj hx).1
      have := hsz _ _ hd
      simp [Go.ChangeShapes.lits, reachBytes] at this
      omega
    refine ⟨fun i => zs.getD i 0, fun i hi => ?_, fun i hi => ?_, hlen⟩
    · have c := hcell i (by omega)
      have c00 := hcell 0 (by omega)
      obtain ⟨b, off, spot⟩ := a
      have hspot : spot = none := by simpa [Addr.add] using World.cell?_spot c00
      subst hspot
      rw [Go.WideShapes.add_plain] at c
      exact ⟨b, off, rfl, lt_of_cell c, c⟩
    · refine wf_u8 (hwf _ ?_)
      simp [List.getElem?_eq_getElem (show i < zs.length by omega)]

theorem open_dir {H : Type} {enc : TypeId × Value → H} {w : World} {sp : Nat → Bool} {r : Reach} {b0 : Nat} {v : Value} {d : DataW H} {ps : List MemPlace} (hval : Value.okWide Try.prog w r b0 51 v)
    (h : DataW.Trod enc Try.prog w 0 sp true 51 v d ps) : ∃ p q : Int, v = .agg #[.int .i64 p, .int .i64 q] ∧ I64 p ∧ I64 q := by
  unfold Value.okWide at hval
  rw [undDir] at hval
  obtain ⟨cs, rfl, hs, _⟩ := hval
  rw [cellsDir] at hs
  obtain ⟨fuel, h⟩ := h
  obtain ⟨x, y, rfl⟩ : ∃ x y, cs = #[x, y] := by
    match cs, hs with
    | ⟨[x, y]⟩, _ => exact ⟨x, y, rfl⟩
  obtain ⟨ys, m, _, hx, _, hl, hf⟩ := Go.DataW.trod_struct undDir h
  have f0 := hf 0 _ rfl
  have f1 := hf 1 _ rfl
  match ys, hl with
  | [y0, y1], _ =>
    simp [Value.cells, cellsInt] at f0 f1
    obtain ⟨z0, rfl, w0⟩ := trod_one_int undInt f0
    obtain ⟨z1, rfl, w1⟩ := trod_one_int undInt f1
    exact ⟨z0, z1, rfl, wf_I64 w0, wf_I64 w1⟩
end Go.Proofs.Ytoeeceemoggffaa
