/- A list of directions that came in: what it reads as, in memory. -/
import Derived.Test.YtoeeceemoggffaaMk
import Derived.Test.YtoeeceemoggffaaTw
import Derived.Deep.SlicePairs
import Derived.SizedLaws
import Derived.Carry
namespace Go.Proofs.Ytoeeceemoggffaa
open Go.RowKit
set_option maxHeartbeats 400000

theorem trod_one_int {H : Type} {enc : TypeId × Value → H} {P : Program} {w : World} {base : Nat} {sp : Nat → Bool} {held : Bool} {n : Nat} {t : TypeId} {k : IntKind} {v : Value} {x : DataW H × List MemPlace} (hu : P.underlying t = some (.int k))
    (h : DataW.trod enc P w base sp held n t [v] = some x) : ∃ z, v = .int k z ∧ (Lit.int k z).wf = true := by
  cases n with
  | zero => simp [DataW.trod] at h
  | succ n =>
    rw [DataW.trod_step] at h
    unfold DataW.trodStep at h
    rw [hu] at h
    cases v <;> simp at h
    obtain ⟨⟨rfl, hw⟩, _⟩ := h
    exact ⟨_, rfl, hw⟩

theorem lt_of_cell {w : World} {b off : Nat} {v : Value} (h : w.cell? ⟨b, off, none⟩ = some v) : b < w.heap.size := by
  rcases Nat.lt_or_ge b w.heap.size with h1 | h1
  · exact h1
  · have : w.heap[b]? = none := Array.getElem?_eq_none h1
    simp [World.cell?, this] at h

theorem undDirs : Try.prog.underlying 42 = some (.slice 51) := by kernel_rfl
theorem bytesDir : Try.prog.bytesOf 51 = 16 := by kernel_rfl

theorem open_dirs {H : Type} {enc : TypeId × Value → H} {w : World} {sp : Nat → Bool} {A0 : Option Addr} {len0 cap0 : Nat} {d : DataW H} {ps : List MemPlace} (h : DataW.Trod enc Try.prog w 0 sp true 42 (.slice A0 len0 cap0) d ps)
    (hsz : ∀ elems spare, d = .slice elems spare → (elems.length + spare.length) * 16 ≤ reachBytes) : ∃ ds : List (Int × Int), len0 = ds.length ∧ ds.length ≤ cap0 ∧ Dirs w A0 ds := by
  obtain ⟨fuel, h⟩ := h
  rcases Go.Deep.open_slice_pairs undDirs undDir cellsDir rfl rfl cellsInt cellsInt h with ⟨h0, _⟩ | ⟨a, len, cap, m, n, V0, V1, D0, D1, P0, P1, hc, _, hlc, _, hm, hx, hcell⟩
  · simp [Value.cells] at h0
    obtain ⟨rfl, rfl, rfl⟩ := h0
    exact ⟨[], rfl, Nat.le_refl _, fun i d hi => by simp at hi, fun d hd => by simp at hd, Nat.zero_le _⟩
  · simp [Value.cells] at hc
    obtain ⟨rfl, rfl, rfl⟩ := hc
    have hlm : len0 ≤ m := by rw [hm]; split <;> omega
    have each : ∀ i, i < len0 → ∃ z0 z1, V0 i = .int .i64 z0 ∧ V1 i = .int .i64 z1 ∧ I64 z0 ∧ I64 z1 := by
      intro i hi
      obtain ⟨_, _, t0, t1⟩ := hcell i (by omega)
      obtain ⟨z0, e0, w0⟩ := trod_one_int undInt t0
      obtain ⟨z1, e1, w1⟩ := trod_one_int undInt t1
      exact ⟨z0, z1, e0, e1, wf_I64 w0, wf_I64 w1⟩
    have hlen : len0 ≤ 17592186044416 := by
      have hd := (Prod.mk.inj hx).1
      have := hsz _ _ hd
      simp [reachBytes] at this
      omega
    refine ⟨(List.range len0).map fun i => (intOf (V0 i), intOf (V1 i)), by simp, by simpa using hlc, fun i d hi => ?_, fun d hd => ?_, by simpa using hlen⟩
    · rw [List.getElem?_map] at hi
      have hlt : i < len0 := by
        rcases Nat.lt_or_ge i len0 with h1 | h1
        · exact h1
        · rw [List.getElem?_eq_none (by simpa using h1)] at hi; simp at hi
      rw [List.getElem?_eq_getElem (by simpa using hlt)] at hi
      simp at hi
      obtain ⟨c0, c1, _, _⟩ := hcell i (by omega)
      obtain ⟨z0, z1, e0, e1, _, _⟩ := each i hlt
      obtain ⟨c00, _⟩ := hcell 0 (by omega)
      obtain ⟨b, off, spot⟩ := a
      have hspot : spot = none := by simpa [Addr.add] using World.cell?_spot c00
      subst hspot
      rw [Go.WideShapes.add_plain] at c0 c1
      subst hi
      refine ⟨b, off, rfl, ?_, ?_, ?_⟩
      · exact lt_of_cell c0
      · rw [c0, e0]; rfl
      · rw [Nat.add_assoc, c1, e1]; rfl
    · obtain ⟨i, hi, rfl⟩ := List.mem_map.1 hd
      obtain ⟨z0, z1, e0, e1, i0, i1⟩ := each i (by simpa using hi)
      rw [e0, e1]
      exact ⟨i0, i1⟩
end Go.Proofs.Ytoeeceemoggffaa
