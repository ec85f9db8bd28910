/- ray.project by its contract. -/
import Derived.Test.YtoeeceemoggffaaLp
import Derived.Deep.DeepCutAuto
import Derived.BigRegion
namespace Go.Proofs.Ytoeeceemoggffaa
open Go.RowKit
set_option maxHeartbeats 3200000
set_option maxRecDepth 100000
attribute [local go_sem] Oper.semAt_some

abbrev projV (p q : Int) (g b : Nat) : Value := .agg #[.int .i64 p, .int .i64 q, .slice (some ⟨g, 0, none⟩) b b]

/-- a projection in new memory -/
def GivesProj (p q : Int) (b : Nat) (xs : List (Nat × Nat)) (w : World) (e : Ending) (w' : World) : Prop :=
  ∃ g, e = .returned (projV p q g b) ∧ Own w.heap.size 23 w w' (.slice (some ⟨g, 0, none⟩) b b) (xs.map cv)

/-- a row of zeros and three values that lead to it, in new memory -/
structure FreshP (w1 wx : World) (g h : Nat) (x y : Value) (N : Nat) : Prop where
  ne : g ≠ h
  lo : w1.heap.size ≤ h
  own : Own w1.heap.size 23 w1 wx (.slice (some ⟨g, 0, none⟩) N N) (List.replicate N (.complex .f64 0 0))
  three : Three h x y (.slice (some ⟨g, 0, none⟩) N N) wx

theorem freshp_a (w1 : World) (x y : Value) (N : Nat) (hN : N ≤ maxLen) (t : TypeId) :
    FreshP w1 ((w1.alloc (.cells (madeCells #[.complex .f64 0 0] N) 23)).alloc (.cells #[x, y, .slice (some ⟨w1.heap.size, 0, none⟩) N N] t)).drew w1.heap.size (w1.heap.size + 1) x y N := by
  obtain ⟨W, hW⟩ : ∃ W, W = w1.alloc (.cells (madeCells #[.complex .f64 0 0] N) 23) := ⟨_, rfl⟩
  have hs : W.heap.size = w1.heap.size + 1 := by rw [hW]; simp
  have ho : Own w1.heap.size 23 w1 W (.slice (some ⟨w1.heap.size, 0, none⟩) N N) (List.replicate N (.complex .f64 0 0)) := by rw [hW]; exact Own.zeros _ _ _ _ hN
  rw [← hW]
  have ht := Three.made W t x y (.slice (some ⟨w1.heap.size, 0, none⟩) N N)
  rw [hs] at ht
  exact ⟨by omega, by omega, (ho.later ((Below.refl (w1.heap.size + 1) W).alloc (by omega) _) (by omega)).drew, ht.later (Below.refl (w1.heap.size + 2) _).drew (by omega)⟩

theorem freshp_b (w1 : World) (x y : Value) (N : Nat) (hN : N ≤ maxLen) (t : TypeId) :
    FreshP w1 ((w1.alloc (.cells #[x, y, .slice (some ⟨w1.heap.size + 1, 0, none⟩) N N] t)).alloc (.cells (madeCells #[.complex .f64 0 0] N) 23)).drew (w1.heap.size + 1) w1.heap.size x y N := by
  have ht := Three.made w1 t x y (.slice (some ⟨w1.heap.size + 1, 0, none⟩) N N)
  obtain ⟨W, hW⟩ : ∃ W, W = w1.alloc (.cells #[x, y, .slice (some ⟨w1.heap.size + 1, 0, none⟩) N N] t) := ⟨_, rfl⟩
  have hs : W.heap.size = w1.heap.size + 1 := by rw [hW]; simp
  have hb : Below w1.heap.size w1 W := by rw [hW]; exact (Below.refl _ _).alloc (Nat.le_refl _) _
  rw [← hW] at ht ⊢
  have ho := Own.zeros W 23 (.complex .f64 0 0) N hN
  rw [hs] at ho
  have hb2 : Below (w1.heap.size + 1) W (W.alloc (.cells (madeCells #[.complex .f64 0 0] N) 23)) := (Below.refl _ _).alloc (by omega) _
  exact ⟨by omega, by omega, (ho.lower (by omega) hb).drew, (ht.later hb2 (by omega)).later (Below.refl (w1.heap.size + 1) _).drew (by omega)⟩

theorem own_from {β : Type} {B C g n cap : Nat} {e : TypeId} {w0 : World} (f : β → List Value) (hg : g < B) (hC : C ≤ B) : OwnFrom B (fun (s : β) W => Own C e w0 W (.slice (some ⟨g, 0, none⟩) n cap) (f s)) := by
  intro s W W' row hs hgr hr
  refine ⟨hs.own.kept hgr (.inr (fun h => ?_)), hs.below.grown hgr hs.base (fun k hk => ?_), Nat.le_trans hs.base hgr.size⟩
  · have := (hr g (by simpa [Value.ownBlock] using h.symm)).1
    omega
  · have := (hr k hk).1
    omega
theorem three_from {β : Type} {B h : Nat} {x y z : Value} (hh : h < B) : OwnFrom B (fun (_ : β) W => Three h x y z W) := by
  intro s W W' row hs hgr hr
  have e : W'.heap[h]? = W.heap[h]? := hgr.block h hs.lt (fun k => by have := (hr h k.symm).1; omega)
  exact ⟨Nat.lt_of_lt_of_le hs.lt hgr.size, (World.cell?_of_block (a := ⟨h, 0, none⟩) e).trans hs.c0, (World.cell?_of_block (a := ⟨h, 1, none⟩) e).trans hs.c1, (World.cell?_of_block (a := ⟨h, 2, none⟩) e).trans hs.c2,
    (World.frozen?_of_block (a := ⟨h, 0, none⟩) e).trans hs.f0, (World.frozen?_of_block (a := ⟨h, 1, none⟩) e).trans hs.f1, (World.frozen?_of_block (a := ⟨h, 2, none⟩) e).trans hs.f2⟩
theorem keepsTwo_t {B : Nat} {a b c : World} (h : KeepsTwo B a b) (k : KeepsTwo B b c) : KeepsTwo B a c := ⟨k.1.trans h.1, k.2.1.trans h.2.1, Nat.le_trans h.2.2 k.2.2⟩
theorem keepsTwo_b {B C : Nat} (hB : B + 1 < C) (W : World) (l : Nat) (o o' : Obj) (hl : C ≤ l) (_ : W.heap[l]? = some o) (_ : o.isCells = false) (_ : o.isWalk = false) : KeepsTwo B W (W.putObj l o') :=
  ⟨World.putObj_heap_other (by omega), World.putObj_heap_other (by omega), (grownBy_putObj' W l o').size⟩

theorem project_walk (n M gc cap : Nat) (p q : Int) (A B : Nat → Int) (w : World) (hM : M = n * n) (h1 : 1 ≤ n) (h2 : n ≤ 64) (h : okD (p, q) = true) (hA : ∀ i, -128 ≤ A i ∧ A i ≤ 128) (hB : ∀ i, -128 ≤ B i ∧ B i ≤ 128)
    (hg : gc < w.heap.size) (hc : ∀ i, i < M → w.cell? ⟨gc, i, none⟩ = some (cv (fint (A i), fint (B i)))) :
    Calls Try.prog 71 #[.agg #[.int .i64 n, .slice (some ⟨gc, 0, none⟩) M cap], .agg #[.int .i64 p, .int .i64 q]] w fun e w' =>
      GivesProj p q (binsN n (p, q)) (binsC (lineN n (p, q)) A B (List.range M) (binsN n (p, q))) w e w' := by
  have CB := Lib.hid (fun w => Bins_walk n p q w h1 h2 h)
  have CL := Lib.hid (fun w => lines_walk n p q w)
  have HC := Lib.hid hc
  have hbl := binsN_le h h2
  obtain ⟨b, hb⟩ : ∃ b, b = binsN n (p, q) := ⟨_, rfl⟩
  rw [← hb] at CB hbl ⊢
  have HBn := Lib.hid hb
  have hM4 : M ≤ 4096 := by rw [hM]; exact Nat.mul_le_mul h2 h2
  have HM := Lib.hid hM
  have HOk := Lib.hid h
  have HA := Lib.hid hA
  have HB := Lib.hid hB
  have hT1 := Two.made (w.alloc (.cells #[.int .i64 n, .slice (some ⟨gc, 0, none⟩) M cap] 59)) 51 p q
  have T1 := Lib.hid hT1
  clear hc hb hM h hA hB hT1
  refine (callsIn_wide (n := 3)).1 ?_
  refine callsIn_of_wp_marks Try.func71 rfl trivial ?_ rfl
  refine wpIn_wide.2 ?_
  simp only [Try.ntmps71, List.size_toArray, List.length_cons, List.length_nil, Nat.reduceAdd, Nat.reduceSub, Array.replicate_succ, Array.replicate_zero, List.push_toArray, List.append_toArray, List.nil_append, List.cons_append]
  go_wp2_with fail
  refine (CB.out _).mono ?_; rintro e w1 ⟨rfl, hb1⟩
  have t1 : Two (w.heap.size + 1) p q w1 := by
    have := T1.out
    rw [new_size] at this
    exact (this.later ((Below.refl (w.heap.size + 1 + 1) _).alloc (by simp) _) (by omega)).later hb1 (by simp <;> omega)
  have t0 : Two w.heap.size n 0 w1 → True := fun _ => trivial
  have g0 := (hb1.cell (p := ⟨w.heap.size, 0, none⟩) (by simp <;> omega)).trans (show _ = some (Value.int IntKind.i64 n) by simp [go_sem])
  have g1 := (hb1.cell (p := ⟨w.heap.size, 1, none⟩) (by simp <;> omega)).trans (show _ = some (Value.slice (some ⟨gc, 0, none⟩) M cap) by simp [go_sem])
  have t4 : Three (w.heap.size + 1 + 1) (.int .i64 0) (.int .i64 0) (.slice none 0 0) w1 := by
    have := Three.made ((w.alloc (.cells #[.int .i64 n, .slice (some ⟨gc, 0, none⟩) M cap] 59)).alloc (.cells #[.int .i64 p, .int .i64 q] 51)) 61 (.int .i64 0) (.int .i64 0) (.slice none 0 0)
    rw [new_size, new_size] at this
    exact this.later hb1 (by simp <;> omega)
  have hsz1 := hb1.size
  rw [new_size, new_size, new_size] at hsz1
  have HBw := Lib.hid (((((Below.refl w.heap.size w).alloc (Nat.le_refl _) (.cells #[.int .i64 n, .slice (some ⟨gc, 0, none⟩) M cap] 59)).alloc (by simp) (.cells #[.int .i64 p, .int .i64 q] 51)).alloc (by simp <;> omega) (.cells #[.int .i64 0, .int .i64 0, .slice none 0 0] 61)).trans (hb1.mono (by simp <;> omega)))
  have G0 := Lib.hid g0
  have G1 := Lib.hid g1
  have T4 := Lib.hid t4
  have HT1 := Lib.hid t1
  clear hb1 t0 g0 g1 t4 T1
  have hmk := fun W => run_make_row' (P := Try.prog) 37 23 (.complex .f64 0 0) 16 Try.underlying37 infoC rfl .i64 .i64 b (by omega) (by omega) W
  go_upto_region 2 with fail
  go_cut [7] from 17 to 20 (fun s7 wx => ∃ g h : Nat, s7 = .pointer (some ⟨h, 0, none⟩) ∧ FreshP w1 wx g h (.int .i64 p) (.int .i64 q) b)
  case first =>
    have a0 := fun o => (t1.alloc o).c0
    have a1 := fun o => (t1.alloc o).c1
    have b0 := fun o o' => ((t1.alloc o).alloc o').c0
    have b1 := fun o o' => ((t1.alloc o).alloc o').c1
    obtain ⟨l2, c0, c1, f0, f1⟩ := t1
    have hlen : b ≤ maxLen := by unfold maxLen; omega
    go_region
    · go_wp2_with fail
      go_meet
      exact ⟨_, _, rfl, freshp_a w1 _ _ b hlen _⟩
    · go_wp2_with fail
      go_meet
      exact ⟨_, _, rfl, freshp_b w1 _ _ b hlen _⟩
  case rest =>
    obtain ⟨g, h, rfl, hf⟩ := hcut
    have HF := Lib.hid hf
    have ht1 := t1.later hf.own.below t1.lt
    have g0 := (hf.own.below.cell (p := ⟨w.heap.size, 0, none⟩) (by simp <;> omega)).trans G0.out
    have HT1c := Lib.hid ht1
    obtain ⟨_, d0, d1, _, _⟩ := ht1
    clear hf hmk t1
    have hgl := HF.out.own.lt
    have hhl := HF.out.three.lt
    have hlo := HF.out.lo
    have hne := HF.out.ne
    go_wp2_with fail
    refine (CL.out _).mono ?_; rintro e w' ⟨rfl, rfl⟩
    obtain ⟨W0, hW0⟩ : ∃ W0, W0 = (wc.alloc (.cells #[.int .i64 n] 3)).alloc (.cells #[.int .i64 p, .int .i64 q] 51) := ⟨_, rfl⟩
    have hbx : Boxes wc.heap.size n p q W0 := by
      have h3 := new_cell wc #[.int .i64 n] 3 0
      have h4 := fun j => new_cell (wc.alloc (.cells #[.int .i64 n] 3)) #[.int .i64 p, .int .i64 q] 51 j
      rw [new_size] at h4
      have hb2 := (Below.refl (wc.heap.size + 1) (wc.alloc (.cells #[.int .i64 n] 3))).alloc (by rw [new_size]; omega) (.cells #[.int .i64 p, .int .i64 q] 51)
      rw [hW0]
      exact ⟨by rw [new_size, new_size]; omega, cells_below hb2 (by omega) h3, h4 0, h4 1⟩
    have hs0 : W0.heap.size = wc.heap.size + 1 + 1 := by rw [hW0, new_size, new_size]
    have hbw0 : Below wc.heap.size wc W0 := by rw [hW0]; exact ((Below.refl _ _).alloc (Nat.le_refl _) _).alloc (by simp) _
    have HBx := Lib.hid hbx
    have HBw0 := Lib.hid hbw0
    have HW0 := Lib.hid hW0
    have HS0 := Lib.hid hs0
    rw [← hW0]
    clear hbx hbw0 hW0 hs0 d0 d1 g0
    go_wp2_with fail
    refine (wpIn_wide (n := 3)).1 ?_
    refine wpIn_rangeFunc_ownF (F := Fence.wide) rfl (by decide) (gf := 100) (lb := #[.pointer (some ⟨wc.heap.size, 0, none⟩), .pointer (some ⟨wc.heap.size + 1, 0, none⟩)]) rfl trivial (enters_of Try.func100 (by kernel_rfl) rfl)
      (lines_stops n M p q HM.out h1 h2 HOk.out wc.heap.size W0 HBx.out 2) keepsTwo_t (keepsTwo_b (by rw [HS0.out]; omega)) (Below.refl _ _) (fun _ => rfl)
      (fun pre W => Own w1.heap.size 23 w1 W (.slice (some ⟨g, 0, none⟩) b b) ((binsC (lineN n (p, q)) A B (pre.map (·.1)) b).map cv) ∧ Three h (.int .i64 p) (.int .i64 q) (.slice (some ⟨g, 0, none⟩) b b) W)
      (fun _ _ _ => False)
      (OwnFrom.and (own_from _ (by rw [HS0.out]; omega) (by rw [HS0.out]; omega)) (three_from (by rw [HS0.out]; omega)))
      (fun _ _ _ _ _ hs _ _ => hs)
      ?h0 ?a1 ?assign ?body ?done ?stop
    case assign =>
      intro l x W K hK
      gi_wp2
      exact hK
    case h0 =>
      refine ⟨?_, HF.out.three.later HBw0.out hhl⟩
      rw [List.map_nil, binsC_nil, List.map_replicate]
      exact HF.out.own.later HBw0.out (Nat.le_refl _)
    case body =>
      rintro l pre x W ⟨ho, ht⟩ hlen
      have hj := lineN_cast HM.out HOk.out x.2
      have hjb := lineN_lt HM.out HOk.out x.2
      rw [← HBn.out] at hjb
      rw [hj]
      obtain ⟨j0, hj0⟩ : ∃ j0, j0 = lineN n (p, q) x.1 := ⟨_, rfl⟩
      rw [← hj0] at hjb ⊢
      have hx := x.2
      have c1 := (ho.below.cell (p := ⟨w.heap.size, 1, none⟩) (by simp; omega)).trans G1.out
      have c2 := ht.c2
      have c3 := ((HBw.out.trans (ho.below.mono (by omega))).cell (p := ⟨gc, x.1, none⟩) hg).trans (HC.out x.1 x.2)
      have c4 := ho.cell (j := j0) (by rw [List.getElem?_map, binsC_get _ _ _ _ hjb]; rfl)
      have fr := ho.free (by rw [List.length_map, binsC_length]) j0
      have sa := sumL_bound (ln := lineN n (p, q)) (c := 128) (by decide) HA.out j0 (pre.map (·.1))
      have sb := sumL_bound (ln := lineN n (p, q)) (c := 128) (by decide) HB.out j0 (pre.map (·.1))
      rw [List.length_map] at sa sb
      have ax := HA.out x.1
      have bx := HB.out x.1
      obtain ⟨sA, hsA⟩ : ∃ z, z = sumL (lineN n (p, q)) A (pre.map (·.1)) j0 := ⟨_, rfl⟩
      obtain ⟨sB, hsB⟩ : ∃ z, z = sumL (lineN n (p, q)) B (pre.map (·.1)) j0 := ⟨_, rfl⟩
      obtain ⟨zA, hzA⟩ : ∃ z, z = A x.1 := ⟨_, rfl⟩
      obtain ⟨zB, hzB⟩ : ∃ z, z = B x.1 := ⟨_, rfl⟩
      rw [← hsA] at c4 sa
      rw [← hsB] at c4 sb
      rw [← hzA] at c3 ax
      rw [← hzB] at c3 bx
      obtain ⟨re, hre, wre⟩ := whole_add (whole_fint (a := sA) (by omega)) (whole_fint (a := zA) (by omega)) (by omega)
      obtain ⟨im, him, wim⟩ := whole_add (whole_fint (a := sB) (by omega)) (whole_fint (a := zB) (by omega)) (by omega)
      have hpl : plain2 (re, im) = (fint (sA + zA), fint (sB + zB)) := by
        unfold plain2
        rw [wre.plain (by omega), wim.plain (by omega)]
      have HC2 := Lib.hid (fun W => still_of (Add_walk (fint sA) (fint sB) (fint zA) (fint zB) re im W hre him))
      have HC3 := Lib.hid (fun W => still_of (Plain_walk re im W))
      rw [hpl] at HC3
      have HO := Lib.hid ho
      have HTt := Lib.hid ht
      have HSA := Lib.hid hsA
      have HSB := Lib.hid hsB
      have HZA := Lib.hid hzA
      have HZB := Lib.hid hzB
      have HJ0 := Lib.hid hj0
      clear ho ht hj hj0 sa sb ax bx hsA hsB hzA hzB hre wre him wim hpl
      refine wpIn_block ?_
      refine wpIn_region_still_tail (lax_round l) 16 (by kernel_rfl) (by kernel_rfl) (by rfl) ?_
      simp only [List.take_succ_cons, List.take_zero, List.drop_succ_cons, List.drop_zero]
      repeat still_step
      still_call (HC2.out _)
      still_call (HC3.out _)
      still_step
      refine wpStill_nil ?_
      gi_wp2
      have hst := (HO.out.stored (by rw [List.length_map, binsC_length]) j0 (cv (fint (sA + zA), fint (sB + zB)))).drew
      rw [← List.map_set] at hst
      refine ⟨(KeepsOthers.setCell _ _ _).trans (KeepsOthers.drew _), ⟨Below.heap_setCell _ _ _ _ (by show wc.heap.size ≠ g; omega), Below.heap_setCell _ _ _ _ (by show wc.heap.size + 1 ≠ g; omega), by simp [World.setCell]⟩, ?_, ?_⟩
      · rw [List.map_append, List.map_cons, List.map_nil, binsC_set, ← HJ0.out, ← HSA.out, ← HSB.out, ← HZA.out, ← HZB.out]
        exact hst
      · exact (HTt.out.grown (grown_store (World.grownBy.refl _ _) (Drawn.refl _) j0 _) (by omega)).later (Below.refl (h + 1) _).drew (Nat.lt_succ_self h)
    case done =>
      rintro D ys W hD rfl ⟨ho, ht⟩ hK
      have T4' := T4.out.later ho.below (by omega)
      have HT4 := Lib.hid T4'
      have HO := Lib.hid ho
      have HK := Lib.hid hK
      have HD := Lib.hid hD
      obtain ⟨_, k0, k1, k2, _, _, _⟩ := ht
      obtain ⟨l4, e0, e1, e2, f0, f1, f2⟩ := T4'
      clear ho hK hD
      go_wp2
      have hs0 := HS0.out
      have hz := HT4.out.set (.int .i64 p) (.int .i64 q) (.slice (some ⟨g, 0, none⟩) b b)
      have ho := (((HO.out.lower (B' := w.heap.size) (by omega) HBw.out).other (k := w.heap.size + 1 + 1) (by omega) (by omega) 0 (.int .i64 p)).other (k := w.heap.size + 1 + 1) (by omega) (by omega) 1 (.int .i64 q)).other (k := w.heap.size + 1 + 1) (by omega) (by omega) 2 (.slice (some ⟨g, 0, none⟩) b b)
      obtain ⟨W2, hW2⟩ : ∃ W2, W2 = ((W.setCell ⟨w.heap.size + 1 + 1, 0, none⟩ (.int .i64 p)).setCell ⟨w.heap.size + 1 + 1, 1, none⟩ (.int .i64 q)).setCell ⟨w.heap.size + 1 + 1, 2, none⟩ (.slice (some ⟨g, 0, none⟩) b b) := ⟨_, rfl⟩
      have hk : W2.heap[D]? = some (.deferred (some [])) := by
        rw [hW2]
        exact (((KeepsOthers.setCell _ _ _).trans (KeepsOthers.setCell _ _ _)).trans (KeepsOthers.setCell _ _ _)).same D _ HK.out rfl
      rw [← hW2] at hz ho ⊢
      have hz2 := (three_from (β := Unit) (B := W0.heap.size) (h := w.heap.size + 1 + 1) (x := .int .i64 p) (y := .int .i64 q) (z := .slice (some ⟨g, 0, none⟩) b b) (by omega)).putObj (s := ()) (.deferred none) hz HD.out hk rfl
      have ho2 := (own_from (β := Unit) (B := W0.heap.size) (C := w.heap.size) (g := g) (n := b) (cap := b) (e := 23) (w0 := w) (fun _ => (binsC (lineN n (p, q)) A B ((List.finRange M).map (·.1)) b).map cv) (by omega) (by omega)).putObj (s := ()) (.deferred none) ho HD.out hk rfl
      have hfr : (List.finRange M).map (·.1) = List.range M := by
        apply List.ext_getElem <;> simp
      refine ⟨by simp, .inl ⟨_, _, rfl, run_takeDeferred hk, ?_⟩⟩
      refine ⟨projV p q g b, by simp [results, Try.f71, go_sem, hz2.c0, hz2.c1, hz2.c2], g, rfl, ?_⟩
      rw [← hfr]
      exact ho2
    case stop =>
      rintro D c pre W _ _ h _
      exact h.elim
end Go.Proofs.Ytoeeceemoggffaa
