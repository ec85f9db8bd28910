/- The statement GhostOrders: for every input the law of this name returns true. No condition. The walk of the law put into the row's frame. -/
import Derived.Test.YtoeeceemoggffaaRows
import Derived.Test.YtoeeceemoggffaaLo
import Derived.Test.YtoeeceemoggffaaOd
import Derived.Test.YtoeeceemoggffaaAp
import Derived.WalkKit
import Derived.ProofKit
import Derived.OpenShut
import Derived.Below
import Derived.SizedLaws
import Derived.Carry
namespace Go.Proofs.Ytoeeceemoggffaa.ghostOrders
open Go.ChangeShapes Go.WideShapes Go.ChangeAt Go.RowKit
set_option linter.unusedVariables false
theorem own : ownKnob Try.prog.godebug = none := by kernel_rfl
set_option maxRecDepth 100000 in
theorem lifted (os : Os) (started : os.Started) (H : Type) (enc : TypeId × Value → H) :
    ReturnsInHanded {} Try.checked os 9 .any (Rows.ghostOrdersSpec.pre6 enc Try.prog Try.f9 Rows.ghostOrdersRow.domain false) (Rows.ghostOrdersSpec.post enc Try.prog Try.f9 false true false false) := by
  refine returnsInHanded_of_change_sized (C := Try.checked) own started (by kernel_rfl) Try.func9
    (ChangeSpec.witness6 (enc := enc) (C := Try.checked) false ⟨#[], #[.slice none 0 0], []⟩ 8 (by kernel_rfl) (by kernel_rfl) (by kernel_rfl) (by kernel_rfl)) ?_
  intro W base args ds gs before hval0 hW hcnd hsized _
  have hval : ∀ (j : Nat) t v, Try.f9.params[j]? = some t → args[j]? = some v → Value.okWide Try.prog W .any base t v := hval0
  have hW' := hW
  obtain ⟨p, q, hA0, hV, rfl, hfz, hnd⟩ := hW
  have hA : DataW.TrodAll enc Try.prog W 0 (fun _ => true) true Try.f9.params.toList args.toList ds p := hA0
  rw [Try.params9] at hA hval
  obtain ⟨v0, vs0, d0, ds0, p0, q0, hargs, rfl, rfl, h0, r0⟩ := trodAll_cons hA
  obtain ⟨rfl, rfl, rfl⟩ := trodAll_nil r0
  obtain rfl : args = #[v0] := by cases args; simp_all
  obtain ⟨rfl, rfl⟩ := trodVars_none hV
  obtain ⟨A0, len0, cap0, rfl⟩ := okWide_slice Try.underlying42 (hval 0 42 v0 rfl rfl)
  have h0k := h0
  have hlt0 : ∀ x ∈ p0, x.block < W.heap.size := by obtain ⟨m, hm⟩ := h0k; exact DataW.trod_lt m _ _ _ hm
  obtain ⟨l0, e0, hcap0, hD0⟩ := open_dirs h0 (fun elems spare hd => by have := sized_slice hsized (j := 0) (t := 42) (e := 51) (elems := elems) (spare := spare) rfl (by rw [hd]; rfl) undDirs; rwa [show Try.checked.prog.bytesOf 51 = 16 from by kernel_rfl] at this)
  obtain ⟨hnil0, h160⟩ := dirs_keep h0 (fun elems spare hd => by have := sized_slice hsized (j := 0) (t := 42) (e := 51) (elems := elems) (spare := spare) rfl (by rw [hd]; rfl) undDirs; rwa [show Try.checked.prog.bytesOf 51 = 16 from by kernel_rfl] at this)
  subst e0
  clear hA0 hval0
  refine (GhostOrders_walk A0 cap0 l0 W hD0 hcap0 hnil0 h160).mono fun e W' ⟨he, bel⟩ => ?_
  subst he
  exact ⟨_, rfl, _, _, _, [], _, [], hW', trodAll_mk1 (shut_bool Try.underlying4 _), (trodAll_cons_mk (Below.trod laidOut (by kernel_rfl) (of_decide_eq_true (by kernel_rfl)) h0k bel hlt0) trodAll_mk0), rfl, bel.frame _, fun h => by cases h⟩

theorem over : Rows.ghostOrdersRow.holds Try.pinned (OpenSpec.ofChange Rows.ghostOrdersSpec) :=
  OpenClaim.holds_of_wide 9 Try.f9 rfl rfl rfl rfl rfl rfl rfl ⟨rfl, rfl, rfl, rfl, rfl⟩ rfl rfl rfl rfl rfl (by kernel_rfl) Try.func9 (by kernel_rfl)
    (of_decide_eq_true (by kernel_rfl)) (by unfold Func.isWrapper; first | (rw [if_pos (by decide +kernel)]; kernel_rfl) | (rw [if_neg (by decide +kernel)]; exact ⟨rfl, rfl⟩))
    (fun os started H enc _ => lifted os started H enc)
end Go.Proofs.Ytoeeceemoggffaa.ghostOrders
namespace Go.Proofs.Ytoeeceemoggffaa
theorem ghostOrders_holds : Rows.GhostOrdersSaid := ghostOrders.over
#print axioms ghostOrders_holds
end Go.Proofs.Ytoeeceemoggffaa
