/- The statement PeelOpens: for every input the law of this name returns true. No condition. The walk of the law put into the row's frame. -/
import Derived.Test.YtoeeceemoggffaaRows
import Derived.Test.YtoeeceemoggffaaJl
import Derived.Test.YtoeeceemoggffaaOd
import Derived.WalkKit
import Derived.ProofKit
import Derived.OpenShut
import Derived.Below
import Derived.SizedLaws
import Derived.Carry
namespace Go.Proofs.Ytoeeceemoggffaa.peelOpens
open Go.ChangeShapes Go.WideShapes Go.ChangeAt Go.RowKit
set_option linter.unusedVariables false
theorem own : ownKnob Try.prog.godebug = none := by kernel_rfl
set_option maxRecDepth 100000 in
theorem lifted (os : Os) (started : os.Started) (H : Type) (enc : TypeId × Value → H) :
    ReturnsInHanded {} Try.checked os 11 .any (Rows.peelOpensSpec.pre6 enc Try.prog Try.f11 Rows.peelOpensRow.domain false) (Rows.peelOpensSpec.post enc Try.prog Try.f11 false true false false) := by
  refine returnsInHanded_of_change_sized (C := Try.checked) own started (by kernel_rfl) Try.func11
    (ChangeSpec.witness6 (enc := enc) (C := Try.checked) false ⟨#[], #[.int .i64 0, .slice none 0 0], []⟩ 8 (by kernel_rfl) (by kernel_rfl) (by kernel_rfl) (by kernel_rfl)) ?_
  intro W base args ds gs before hval0 hW hcnd hsized _
  have hval : ∀ (j : Nat) t v, Try.f11.params[j]? = some t → args[j]? = some v → Value.okWide Try.prog W .any base t v := hval0
  have hW' := hW
  obtain ⟨p, q, hA0, hV, rfl, hfz, hnd⟩ := hW
  have hA : DataW.TrodAll enc Try.prog W 0 (fun _ => true) true Try.f11.params.toList args.toList ds p := hA0
  rw [Try.params11] at hA hval
  obtain ⟨v0, vs0, d0, ds0, p0, q0, hargs, rfl, rfl, h0, r0⟩ := trodAll_cons hA
  obtain ⟨v1, vs1, d1, ds1, p1, q1, rfl, rfl, rfl, h1, r1⟩ := trodAll_cons r0
  obtain ⟨rfl, rfl, rfl⟩ := trodAll_nil r1
  obtain rfl : args = #[v0, v1] := by cases args; simp_all
  obtain ⟨rfl, rfl⟩ := trodVars_none hV
  obtain ⟨a0, rfl, rfl, rfl, w0⟩ := open_int Try.underlying3 (hval 0 3 v0 rfl rfl) h0
  obtain ⟨A1, len1, cap1, rfl⟩ := okWide_slice Try.underlying42 (hval 1 42 v1 rfl rfl)
  have h1k := h1
  have hlt1 : ∀ x ∈ p1, x.block < W.heap.size := by obtain ⟨m, hm⟩ := h1k; exact DataW.trod_lt m _ _ _ hm
  obtain ⟨l1, e1, hcap1, hD1⟩ := open_dirs h1 (fun elems spare hd => by have := sized_slice hsized (j := 1) (t := 42) (e := 51) (elems := elems) (spare := spare) rfl (by rw [hd]; rfl) undDirs; rwa [show Try.checked.prog.bytesOf 51 = 16 from by kernel_rfl] at this)
  obtain ⟨hnil1, h161⟩ := dirs_keep h1 (fun elems spare hd => by have := sized_slice hsized (j := 1) (t := 42) (e := 51) (elems := elems) (spare := spare) rfl (by rw [hd]; rfl) undDirs; rwa [show Try.checked.prog.bytesOf 51 = 16 from by kernel_rfl] at this)
  subst e1
  clear hA0 hval0
  refine (PeelOpens_walk a0 (wf_I64 w0) A1 cap1 l1 W hD1 hcap1 hnil1 h161).mono fun e W' ⟨he, bel⟩ => ?_
  subst he
  exact ⟨_, rfl, _, _, _, [], _, [], hW', trodAll_mk1 (shut_bool Try.underlying4 _), (trodAll_cons_mk (shut_int Try.underlying3 w0) (trodAll_cons_mk (Below.trod laidOut (by kernel_rfl) (of_decide_eq_true (by kernel_rfl)) h1k bel hlt1) trodAll_mk0)), rfl, bel.frame _, fun h => by cases h⟩

theorem over : Rows.peelOpensRow.holds Try.pinned (OpenSpec.ofChange Rows.peelOpensSpec) :=
  OpenClaim.holds_of_wide 11 Try.f11 rfl rfl rfl rfl rfl rfl rfl ⟨rfl, rfl, rfl, rfl, rfl⟩ rfl rfl rfl rfl rfl (by kernel_rfl) Try.func11 (by kernel_rfl)
    (of_decide_eq_true (by kernel_rfl)) (by unfold Func.isWrapper; first | (rw [if_pos (by decide +kernel)]; kernel_rfl) | (rw [if_neg (by decide +kernel)]; exact ⟨rfl, rfl⟩))
    (fun os started H enc _ => lifted os started H enc)
end Go.Proofs.Ytoeeceemoggffaa.peelOpens
namespace Go.Proofs.Ytoeeceemoggffaa
theorem peelOpens_holds : Rows.PeelOpensSaid := peelOpens.over
#print axioms peelOpens_holds
end Go.Proofs.Ytoeeceemoggffaa
