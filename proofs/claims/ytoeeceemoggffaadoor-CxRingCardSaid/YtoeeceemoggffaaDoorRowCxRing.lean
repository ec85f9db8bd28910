/- The statement CxRing: for every input the law of this name returns true. No condition. The walk of the law put into the row's frame. -/
import Derived.Test.YtoeeceemoggffaaDoorRows
import Derived.Test.YtoeeceemoggffaaDoorDm
import Derived.Test.YtoeeceemoggffaaDoorTie
import Derived.Test.YtoeeceemoggffaaDoorCards
import Derived.WalkKit
import Derived.ProofKit
import Derived.OpenShut
import Derived.Below
import Derived.SizedLaws
import Derived.Carry
import Derived.ChangeSlices
import Derived.ChangeArms
import Derived.LaidMore
import Derived.Lay
import Derived.SevenTiedAt
import Derived.Stop.Joined
namespace Go.Proofs.YtoeeceemoggffaaDoor.cxRing
open Go.ChangeShapes Go.WideShapes Go.ChangeAt Go.RowKit
set_option linter.unusedVariables false
theorem laidOut : laidOutB Tryd.prog = true := by kernel_rfl
theorem undA : Tryd.prog.underlying 22 = some (.array 2 21) := by kernel_rfl
theorem undI : Tryd.prog.underlying 21 = some (.int .i32) := by kernel_rfl
theorem cellsA : Tryd.prog.cellsOf 22 = 2 := by kernel_rfl
theorem cellsI : Tryd.prog.cellsOf 21 = 1 := by kernel_rfl
theorem wf_i32 {n : Int} (h : (Lit.int .i32 n).wf = true) : -2147483648 ≤ n ∧ n ≤ 2147483647 := by
  simp only [Lit.wf, Bool.and_eq_true, decide_eq_true_eq] at h
  exact h
theorem trod_one_int {H : Type} {enc : TypeId × Value → H} {P : Program} {w : World} {base : Nat} {sp : Nat → Bool} {held : Bool} {n : Nat} {t : TypeId} {k : IntKind} {v : Value} {x : DataW H × List MemPlace} (hu : P.underlying t = some (.int k))
    (h : DataW.trod enc P w base sp held n t [v] = some x) : ∃ z, v = .int k z ∧ (Lit.int k z).wf = true := by
  cases n with
  | zero => simp [DataW.trod] at h
  | succ n =>
    rw [DataW.trod_step] at h
    unfold DataW.trodStep at h
    rw [hu] at h
    cases v <;> simp at h
    obtain ⟨⟨rfl, hw⟩, _⟩ := h
    exact ⟨_, rfl, hw⟩
theorem open_pair {H : Type} {enc : TypeId × Value → H} {w : World} {sp : Nat → Bool} {r : Reach} {b0 : Nat} {v : Value} {d : DataW H} {ps : List MemPlace} (hval : Value.okWide Tryd.prog w r b0 22 v)
    (h : DataW.Trod enc Tryd.prog w 0 sp true 22 v d ps) : ∃ p q : Int, v = .agg #[.int .i32 p, .int .i32 q] ∧ (-2147483648 ≤ p ∧ p ≤ 2147483647) ∧ (-2147483648 ≤ q ∧ q ≤ 2147483647) := by
  unfold Value.okWide at hval
  rw [undA] at hval
  obtain ⟨cs, rfl, hs, _⟩ := hval
  rw [cellsA] at hs
  obtain ⟨fuel, h⟩ := h
  obtain ⟨x, y, rfl⟩ : ∃ x y, cs = #[x, y] := by
    match cs, hs with
    | ⟨[x, y]⟩, _ => exact ⟨x, y, rfl⟩
  obtain ⟨ys, m, _, hx, _, hl, hf⟩ := Go.DataW.trod_array undA h
  have f0 := hf 0 (by decide)
  have f1 := hf 1 (by decide)
  match ys, hl with
  | [y0, y1], _ =>
    simp [Value.cells, cellsI] at f0 f1
    obtain ⟨z0, rfl, w0⟩ := trod_one_int undI f0
    obtain ⟨z1, rfl, w1⟩ := trod_one_int undI f1
    exact ⟨z0, z1, rfl, wf_i32 w0, wf_i32 w1⟩
theorem own : ownKnob Tryd.prog.godebug = none := by kernel_rfl
set_option maxRecDepth 100000 in
theorem lifted (os : Os) (started : os.Started) (H : Type) (enc : TypeId × Value → H) :
    ReturnsInHanded {} Tryd.checked os 3 .any (fun w args => (Rows.cxRingSpec.pre enc Tryd.prog Tryd.f3 Rows.cxRingRow.domain false w args ∧ laidMetH Tryd.prog Rows.cxRingRow.laid w) ∧ sizedMet enc Tryd.prog Tryd.f3 (OpenSpec.ofChange Rows.cxRingSpec) false w args)
      (Rows.cxRingSpec.post enc Tryd.prog Tryd.f3 false true false false) := by
  refine returnsInHanded_of_change_and (C := Tryd.checked) (X := fun w _ => laidMetH Tryd.prog Rows.cxRingRow.laid w) (fun _ _ _ hh h => h.of_heap hh) own started (by kernel_rfl) Tryd.func3
    (ChangeSpec.witness_shaped (enc := enc) (C := Tryd.checked) (os := os) (X := fun w _ => laidMetH Tryd.prog Rows.cxRingRow.laid w) false (World.laidAll Tryd.prog os Rows.cxRingRow.laid) #[.agg #[.int .i32 0, .int .i32 0], .agg #[.int .i32 0, .int .i32 0], .agg #[.int .i32 0, .int .i32 0]] 8 (World.laidAll_os _ _ _)
      (World.shaped_of_ZipB (by kernel_rfl) (by kernel_rfl)) (by kernel_rfl) (by kernel_rfl) (by kernel_rfl)
      (by rw [MakeChecks.laidMetH_plain _ _ _ (by kernel_rfl)]; exact laidMet_laidAll _ (by kernel_rfl) (by kernel_rfl))) ?_
  intro W base args ds gs before hval0 hW hcnd _ _ _
  have hval : ∀ (j : Nat) t v, Tryd.f3.params[j]? = some t → args[j]? = some v → Value.okWide Tryd.prog W .any base t v := hval0
  have hW' := hW
  obtain ⟨p, q, hA0, hV, rfl, hfz, hnd⟩ := hW
  have hA : DataW.TrodAll enc Tryd.prog W 0 (fun _ => true) true Tryd.f3.params.toList args.toList ds p := hA0
  rw [Tryd.params3] at hA hval
  obtain ⟨v0, vs0, d0, ds0, p0, q0, hargs, rfl, rfl, h0, r0⟩ := trodAll_cons hA
  obtain ⟨v1, vs1, d1, ds1, p1, q1, rfl, rfl, rfl, h1, r1⟩ := trodAll_cons r0
  obtain ⟨v2, vs2, d2, ds2, p2, q2, rfl, rfl, rfl, h2, r2⟩ := trodAll_cons r1
  obtain ⟨rfl, rfl, rfl⟩ := trodAll_nil r2
  obtain rfl : args = #[v0, v1, v2] := by cases args; simp_all
  obtain ⟨rfl, rfl⟩ := trodVars_none hV
  have h0k := h0
  have hlt0 : ∀ x ∈ p0, x.block < W.heap.size := by obtain ⟨m, hm⟩ := h0k; exact DataW.trod_lt m _ _ _ hm
  obtain ⟨a0, b0, rfl, wa0, wb0⟩ := open_pair (hval 0 22 v0 rfl rfl) h0
  have h1k := h1
  have hlt1 : ∀ x ∈ p1, x.block < W.heap.size := by obtain ⟨m, hm⟩ := h1k; exact DataW.trod_lt m _ _ _ hm
  obtain ⟨a1, b1, rfl, wa1, wb1⟩ := open_pair (hval 1 22 v1 rfl rfl) h1
  have h2k := h2
  have hlt2 : ∀ x ∈ p2, x.block < W.heap.size := by obtain ⟨m, hm⟩ := h2k; exact DataW.trod_lt m _ _ _ hm
  obtain ⟨a2, b2, rfl, wa2, wb2⟩ := open_pair (hval 2 22 v2 rfl rfl) h2
  clear hA0 hval0
  refine (law_walk a0 b0 a1 b1 a2 b2 wa0 wb0 wa1 wb1 wa2 wb2 W).mono fun e W' ⟨he, bel⟩ => ?_
  subst he
  exact ⟨_, rfl, _, _, _, [], _, [], hW', trodAll_mk1 (shut_bool Tryd.underlying4 _), (trodAll_cons_mk (Below.trod laidOut (by kernel_rfl) (of_decide_eq_true (by kernel_rfl)) h0k bel hlt0) (trodAll_cons_mk (Below.trod laidOut (by kernel_rfl) (of_decide_eq_true (by kernel_rfl)) h1k bel hlt1) (trodAll_cons_mk (Below.trod laidOut (by kernel_rfl) (of_decide_eq_true (by kernel_rfl)) h2k bel hlt2) trodAll_mk0))), rfl, bel.frame _, fun h => by cases h⟩

theorem over : Rows.cxRingRow.holds Tryd.pinned (OpenSpec.ofChange Rows.cxRingSpec) :=
  OpenClaim.holds_of_wide 3 Tryd.f3 rfl rfl rfl rfl rfl rfl rfl ⟨rfl, rfl, rfl, rfl, rfl⟩ rfl rfl rfl rfl rfl (by kernel_rfl) Tryd.func3 (by kernel_rfl)
    (of_decide_eq_true (by kernel_rfl)) (by unfold Func.isWrapper; first | (rw [if_pos (by decide +kernel)]; kernel_rfl) | (rw [if_neg (by decide +kernel)]; exact ⟨rfl, rfl⟩))
    (fun os started H enc _ => lifted os started H enc)

theorem card : Rows.CxRingCardSaid :=
  Claim7.holds_tied_plain_at .later [] [.data, .data, .data, .data, .sentinel, .sentinel, .pinned] true (true, "3c99a992c499db80589331e486a9e12f84c4bb6737c0e7f5709c48b13d463949") true over (fun _ h => by cases h) (by kernel_rfl) (fun _ h => by cases h) cxRing_row_tie rfl ⟨rfl, rfl⟩ (by kernel_rfl) rfl
    (fun f fn hf hfn => by
      obtain rfl : f = 3 := Option.some.inj ((show Tryd.prog.funcNamed "penumbra/penumbralaw01.CxRing" = some 3 by kernel_rfl).symm.trans hf) |>.symm
      obtain rfl : fn = Tryd.f3 := (Option.some.inj (Tryd.func3.symm.trans hfn)).symm
      exact ⟨by kernel_rfl, fun j t ht => by
        rw [Tryd.params3] at ht
        have hm : t ∈ [22, 22, 22] := by simpa using Array.mem_of_getElem? ht
        have hall : ([22, 22, 22].all fun u => !Tryd.prog.wantsStandIn u) = true := by kernel_rfl
        exact (show Tryd.prog.wantsStandIn t = false by simpa using List.all_eq_true.1 hall t hm)⟩)
    (by kernel_rfl)
end Go.Proofs.YtoeeceemoggffaaDoor.cxRing
namespace Go.Proofs.YtoeeceemoggffaaDoor
theorem cxRing_holds : Rows.CxRingCardSaid := cxRing.card
#print axioms cxRing_holds
end Go.Proofs.YtoeeceemoggffaaDoor
