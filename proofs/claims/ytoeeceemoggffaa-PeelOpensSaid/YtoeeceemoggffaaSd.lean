/- ray.Spread by its contract. -/
import Derived.Test.YtoeeceemoggffaaPj
namespace Go.Proofs.Ytoeeceemoggffaa
open Go.RowKit
set_option maxHeartbeats 3200000
set_option maxRecDepth 100000
attribute [local go_sem] Oper.semAt_some

abbrev gridV (n g N cap : Nat) : Value := .agg #[.int .i64 n, .slice (some ⟨g, 0, none⟩) N cap]

/-- the cells of a list are laid, the others are 0 -/
def spreadC (f : Nat → Nat × Nat) (M : Nat) (pre : List Nat) : List (Nat × Nat) := (List.range M).map fun i => if i ∈ pre then f i else (0, 0)
theorem spreadC_length (f : Nat → Nat × Nat) (M : Nat) (pre : List Nat) : (spreadC f M pre).length = M := by simp [spreadC]
theorem spreadC_nil (f : Nat → Nat × Nat) (M : Nat) : spreadC f M [] = List.replicate M (0, 0) := by
  apply List.ext_getElem
  · simp [spreadC]
  · intro j h1 h2; simp [spreadC]
theorem spreadC_set (f : Nat → Nat × Nat) (M : Nat) (pre : List Nat) (x : Nat) : spreadC f M (pre ++ [x]) = (spreadC f M pre).set x (f x) := by
  apply List.ext_getElem
  · simp [spreadC]
  · intro j h1 h2
    rw [List.getElem_set]
    simp only [spreadC, List.getElem_map, List.getElem_range]
    by_cases h : x = j
    · subst h; simp
    · have : ¬ j = x := fun e => h e.symm
      simp [h, this]
theorem spreadC_all (f : Nat → Nat × Nat) (M : Nat) : spreadC f M (List.range M) = (List.range M).map f := by
  unfold spreadC
  apply List.map_congr_left
  intro i hi
  rw [if_pos hi]

def GivesGrid (n M : Nat) (xs : List (Nat × Nat)) (w : World) (e : Ending) (w' : World) : Prop :=
  ∃ g, e = .returned (.tuple #[gridV n g M M, .int .i64 0]) ∧ Own w.heap.size 23 w w' (.slice (some ⟨g, 0, none⟩) M M) (xs.map cv)

/-- two values lie at b, and may be written -/
structure PairV (b : Nat) (x y : Value) (w : World) : Prop where
  lt : b < w.heap.size
  c0 : w.cell? ⟨b, 0, none⟩ = some x
  c1 : w.cell? ⟨b, 1, none⟩ = some y
  f0 : w.frozen? ⟨b, 0, none⟩ = false
  f1 : w.frozen? ⟨b, 1, none⟩ = false
theorem PairV.made (w : World) (e : TypeId) (x y : Value) : PairV w.heap.size x y (w.alloc (.cells #[x, y] e)) :=
  ⟨by simp, new_cell _ _ _ 0, new_cell _ _ _ 1, new_free _ _ _ 0, new_free _ _ _ 1⟩
theorem PairV.later {b B : Nat} {x y : Value} {w w' : World} (h : PairV b x y w) (hb : Below B w w') (hB : b < B) : PairV b x y w' :=
  ⟨Nat.lt_of_lt_of_le h.lt hb.size, (hb.cell (p := ⟨b, 0, none⟩) hB).trans h.c0, (hb.cell (p := ⟨b, 1, none⟩) hB).trans h.c1, (hb.frozen (p := ⟨b, 0, none⟩) hB).trans h.f0, (hb.frozen (p := ⟨b, 1, none⟩) hB).trans h.f1⟩
theorem PairV.set {b : Nat} {x y : Value} {w : World} (h : PairV b x y w) (u v : Value) : PairV b u v ((w.setCell ⟨b, 0, none⟩ u).setCell ⟨b, 1, none⟩ v) := by
  obtain ⟨h1, h2, h3, h4, h5⟩ := h
  refine ⟨by simpa [World.setCell] using h1, ?_, ?_, ?_, ?_⟩ <;> simp [go_sem, h2, h3, h4, h5]
theorem PairV.grown {b k : Nat} {x y : Value} {w w' : World} (h : PairV b x y w) (hg : w.grownBy w' (some k)) (hne : b ≠ k) : PairV b x y w' := by
  have e : w'.heap[b]? = w.heap[b]? := hg.block b h.lt (by simpa using hne)
  exact ⟨Nat.lt_of_lt_of_le h.lt hg.size, (World.cell?_of_block (a := ⟨b, 0, none⟩) e).trans h.c0, (World.cell?_of_block (a := ⟨b, 1, none⟩) e).trans h.c1, (World.frozen?_of_block (a := ⟨b, 0, none⟩) e).trans h.f0, (World.frozen?_of_block (a := ⟨b, 1, none⟩) e).trans h.f1⟩
theorem pair_from {β : Type} {B h : Nat} {x y : Value} (hh : h < B) : OwnFrom B (fun (_ : β) W => PairV h x y W) := by
  intro s W W' row hs hgr hr
  have e : W'.heap[h]? = W.heap[h]? := hgr.block h hs.lt (fun k => by have := (hr h k.symm).1; omega)
  exact ⟨Nat.lt_of_lt_of_le hs.lt hgr.size, (World.cell?_of_block (a := ⟨h, 0, none⟩) e).trans hs.c0, (World.cell?_of_block (a := ⟨h, 1, none⟩) e).trans hs.c1, (World.frozen?_of_block (a := ⟨h, 0, none⟩) e).trans hs.f0, (World.frozen?_of_block (a := ⟨h, 1, none⟩) e).trans hs.f1⟩

theorem Spread_walk (n M gb cap b : Nat) (p q : Int) (L : Nat → Nat × Nat) (w : World) (hM : M = n * n) (h1 : 1 ≤ n) (h2 : n ≤ 64) (h : okD (p, q) = true) (hb : b = binsN n (p, q))
    (hg : gb < w.heap.size) (hc : ∀ j, j < b → w.cell? ⟨gb, j, none⟩ = some (cv (L j))) :
    Calls Try.prog 40 #[.int .i64 n, .agg #[.int .i64 p, .int .i64 q, .slice (some ⟨gb, 0, none⟩) b cap]] w fun e w' =>
      GivesGrid n M ((List.range M).map fun i => L (lineN n (p, q) i)) w e w' := by
  have CB := Lib.hid (fun w => Bins_walk n p q w h1 h2 h)
  have CL := Lib.hid (fun w => lines_walk n p q w)
  have HC := Lib.hid hc
  have hbl := binsN_le h h2
  rw [← hb] at CB hbl
  have HBn := Lib.hid hb
  have hM4 : M ≤ 4096 := by rw [hM]; exact Nat.mul_le_mul h2 h2
  have hnn : (n : Int) * (n : Int) = (M : Int) := by rw [hM]; exact (Int.natCast_mul _ _).symm
  have HM := Lib.hid hM
  have HOk := Lib.hid h
  have hmk := fun W => run_make_row' (P := Try.prog) 37 23 (.complex .f64 0 0) 16 Try.underlying37 infoC rfl .i64 .i64 M (by omega) (by omega) W
  have T1 := Lib.hid (Three.made w 61 (.int .i64 p) (.int .i64 q) (.slice (some ⟨gb, 0, none⟩) b cap))
  have hbb : ((b : Int) != (b : Int)) = false := by simp
  clear hc hb hM h
  refine (callsIn_wide (n := 3)).1 ?_
  refine callsIn_of_wp_marks Try.func40 rfl trivial ?_ rfl
  refine wpIn_wide.2 ?_
  simp only [Try.ntmps40, List.size_toArray, List.length_cons, List.length_nil, Nat.reduceAdd, Nat.reduceSub, Array.replicate_succ, Array.replicate_zero, List.push_toArray, List.append_toArray, List.nil_append, List.cons_append]
  go_wp2_with fail
  refine (CB.out _).mono ?_; rintro e w1 ⟨rfl, hb1⟩
  have hsz1 := hb1.size
  rw [new_size, new_size] at hsz1
  have t1 : Three w.heap.size (.int .i64 p) (.int .i64 q) (.slice (some ⟨gb, 0, none⟩) b cap) w1 := (T1.out.later ((Below.refl (w.heap.size + 1) _).alloc (by rw [new_size]; omega) _) (by omega)).later hb1 (by simp; omega)
  have t4 : PairV (w.heap.size + 1) (.int .i64 0) (.slice none 0 0) w1 := by
    have := PairV.made (w.alloc (.cells #[.int .i64 p, .int .i64 q, .slice (some ⟨gb, 0, none⟩) b cap] 61)) 59 (.int .i64 0) (.slice none 0 0)
    rw [new_size] at this
    exact this.later hb1 (by simp <;> omega)
  have HBw := Lib.hid ((((Below.refl w.heap.size w).alloc (Nat.le_refl _) (.cells #[.int .i64 p, .int .i64 q, .slice (some ⟨gb, 0, none⟩) b cap] 61)).alloc (by simp) (.cells #[.int .i64 0, .slice none 0 0] 59)).trans (hb1.mono (by simp <;> omega)))
  have HT1 := Lib.hid t1
  have HT4 := Lib.hid t4
  obtain ⟨_, d0, d1, d2, _, _, _⟩ := t1
  clear hb1 T1 t4
  have ho0 := Own.zeros w1 23 (.complex .f64 0 0) M (by unfold maxLen; omega)
  have HO0 := Lib.hid ho0
  have hp0 := PairV.made (w1.alloc (.cells (madeCells #[.complex .f64 0 0] M) 23)) 59 (.int .i64 n) (.slice (some ⟨w1.heap.size, 0, none⟩) M M)
  rw [new_size] at hp0
  have HP0 := Lib.hid hp0
  obtain ⟨Wf, hWf⟩ : ∃ Wf, Wf = (w1.alloc (.cells (madeCells #[.complex .f64 0 0] M) 23)).alloc (.cells #[.int .i64 n, .slice (some ⟨w1.heap.size, 0, none⟩) M M] 59) := ⟨_, rfl⟩
  have hsf : Wf.heap.size = w1.heap.size + 1 + 1 := by rw [hWf, new_size, new_size]
  have hbf : Below w1.heap.size w1 Wf := by rw [hWf]; exact ((Below.refl _ _).alloc (Nat.le_refl _) _).alloc (by simp) _
  have HBf := Lib.hid hbf
  have HSf := Lib.hid hsf
  have hof : Own w1.heap.size 23 w1 Wf (.slice (some ⟨w1.heap.size, 0, none⟩) M M) (List.replicate M (.complex .f64 0 0)) := by
    rw [hWf]; exact ho0.later ((Below.refl (w1.heap.size + 1) _).alloc (by simp) _) (by simp)
  rw [← hWf] at hp0 HP0
  have HOf := Lib.hid hof
  clear ho0 HO0 hp0 hbf hsf hof
  go_upto_region 7 with fail
  rw [← hWf]
  have HWf := Lib.hid hWf
  clear hWf d0 d1 d2
  have ht1 := HT1.out.later HBf.out HT1.out.lt
  obtain ⟨_, d0, d1, d2, _, _, _⟩ := ht1
  go_wp2_with fail
  refine (CL.out _).mono ?_; rintro e w' ⟨rfl, rfl⟩
  obtain ⟨W0, hW0⟩ : ∃ W0, W0 = (Wf.alloc (.cells #[.int .i64 n] 3)).alloc (.cells #[.int .i64 p, .int .i64 q] 51) := ⟨_, rfl⟩
  have hbx : Boxes Wf.heap.size n p q W0 := by
    have h3 := new_cell Wf #[.int .i64 n] 3 0
    have h4 := fun j => new_cell (Wf.alloc (.cells #[.int .i64 n] 3)) #[.int .i64 p, .int .i64 q] 51 j
    rw [new_size] at h4
    have hb2 := (Below.refl (Wf.heap.size + 1) (Wf.alloc (.cells #[.int .i64 n] 3))).alloc (by rw [new_size]; omega) (.cells #[.int .i64 p, .int .i64 q] 51)
    rw [hW0]
    exact ⟨by rw [new_size, new_size]; omega, cells_below hb2 (by omega) h3, h4 0, h4 1⟩
  have hs0 : W0.heap.size = Wf.heap.size + 1 + 1 := by rw [hW0, new_size, new_size]
  have hbw0 : Below Wf.heap.size Wf W0 := by rw [hW0]; exact ((Below.refl _ _).alloc (Nat.le_refl _) _).alloc (by simp) _
  have HBx := Lib.hid hbx
  have HBw0 := Lib.hid hbw0
  have HW0 := Lib.hid hW0
  have HS0 := Lib.hid hs0
  rw [← hW0]
  clear hbx hbw0 hW0 hs0 d0 d1 d2
  go_wp2_with fail
  refine (wpIn_wide (n := 3)).1 ?_
  refine wpIn_rangeFunc_ownF (F := Fence.wide) rfl (by decide) (gf := 100) (lb := #[.pointer (some ⟨Wf.heap.size, 0, none⟩), .pointer (some ⟨Wf.heap.size + 1, 0, none⟩)]) rfl trivial (enters_of Try.func100 (by kernel_rfl) rfl)
    (lines_stops n M p q HM.out h1 h2 HOk.out Wf.heap.size W0 HBx.out 2) keepsTwo_t (keepsTwo_b (by rw [HS0.out]; omega)) (Below.refl _ _) (fun _ => rfl)
    (fun pre W => Own w1.heap.size 23 w1 W (.slice (some ⟨w1.heap.size, 0, none⟩) M M) ((spreadC (fun i => L (lineN n (p, q) i)) M (pre.map (·.1))).map cv) ∧ PairV (w1.heap.size + 1) (.int .i64 n) (.slice (some ⟨w1.heap.size, 0, none⟩) M M) W)
    (fun _ _ _ => False)
    (OwnFrom.and (own_from _ (by rw [HS0.out, HSf.out]; omega) (by rw [HS0.out, HSf.out]; omega)) (pair_from (by rw [HS0.out, HSf.out]; omega)))
    (fun _ _ _ _ _ hs _ _ => hs)
    ?h0 ?a1 ?assign ?body ?done ?stop
  case assign =>
    intro l x W K hK
    gi_wp2
    exact hK
  case h0 =>
    refine ⟨?_, HP0.out.later HBw0.out HP0.out.lt⟩
    rw [List.map_nil, spreadC_nil, List.map_replicate]
    exact HOf.out.later HBw0.out (Nat.le_refl _)
  case stop =>
    rintro D c pre W _ _ h _
    exact h.elim
  case body =>
    rintro l pre x W ⟨ho, ht⟩ hlen
    have hj := lineN_cast HM.out HOk.out x.2
    have hjb := lineN_lt HM.out HOk.out x.2
    rw [← HBn.out] at hjb
    rw [hj]
    obtain ⟨j0, hj0⟩ : ∃ j0, j0 = lineN n (p, q) x.1 := ⟨_, rfl⟩
    rw [← hj0] at hjb ⊢
    have hx := x.2
    have hsf := HSf.out
    have c1 := (HT1.out.later ho.below HT1.out.lt).c2
    have c2 := ht.c1
    have c3 := ((HBw.out.trans (ho.below.mono (by omega))).cell (p := ⟨gb, j0, none⟩) hg).trans (HC.out j0 hjb)
    have c4 := ho.cell (j := x.1) (u := cv (if x.1 ∈ pre.map (·.1) then L (lineN n (p, q) x.1) else (0, 0))) (by rw [List.getElem?_map, spreadC, List.getElem?_map, List.getElem?_eq_getElem (by simp)]; simp)
    have fr := ho.free (by rw [List.length_map, spreadC_length]) x.1
    have HO := Lib.hid ho
    have HTt := Lib.hid ht
    have HJ0 := Lib.hid hj0
    generalize (if x.1 ∈ pre.map (·.1) then L (lineN n (p, q) x.1) else (0, 0)) = u0 at c4
    clear ho ht hj hj0 hsf
    refine wpIn_block ?_
    refine wpIn_region_still_tail (lax_round l) 9 (by kernel_rfl) (by kernel_rfl) (by rfl) ?_
    simp only [List.take_succ_cons, List.take_zero, List.drop_succ_cons, List.drop_zero]
    repeat still_step
    refine wpStill_nil ?_
    gi_wp2
    have hsf := HSf.out
    have hst := (HO.out.stored (by rw [List.length_map, spreadC_length]) x.1 (cv (L j0))).drew
    rw [← List.map_set] at hst
    refine ⟨(KeepsOthers.setCell _ _ _).trans (KeepsOthers.drew _), ⟨Below.heap_setCell _ _ _ _ (by show Wf.heap.size ≠ w1.heap.size; omega), Below.heap_setCell _ _ _ _ (by show Wf.heap.size + 1 ≠ w1.heap.size; omega), by simp [World.setCell]⟩, ?_, ?_⟩
    · rw [List.map_append, List.map_cons, List.map_nil, spreadC_set, ← HJ0.out]
      exact hst
    · exact (HTt.out.grown (grown_store (World.grownBy.refl _ _) (Drawn.refl _) x.1 _) (by omega)).later (Below.refl (w1.heap.size + 2) _).drew (by omega)
  case done =>
    rintro D ys W hD rfl ⟨ho, ht⟩ hK
    have T4' := HT4.out.later ho.below HT4.out.lt
    have HT4c := Lib.hid T4'
    have HO := Lib.hid ho
    have HK := Lib.hid hK
    have HD := Lib.hid hD
    obtain ⟨_, k0, k1, _, _⟩ := ht
    obtain ⟨l4, e0, e1, f0, f1⟩ := T4'
    clear ho hK hD
    go_wp2
    have hs0 := HS0.out
    have hsf := HSf.out
    have hz := HT4c.out.set (.int .i64 n) (.slice (some ⟨w1.heap.size, 0, none⟩) M M)
    have ho := ((HO.out.lower (B' := w.heap.size) (by omega) HBw.out).other (k := w.heap.size + 1) (by omega) (by omega) 0 (.int .i64 n)).other (k := w.heap.size + 1) (by omega) (by omega) 1 (.slice (some ⟨w1.heap.size, 0, none⟩) M M)
    obtain ⟨W2, hW2⟩ : ∃ W2, W2 = (W.setCell ⟨w.heap.size + 1, 0, none⟩ (.int .i64 n)).setCell ⟨w.heap.size + 1, 1, none⟩ (.slice (some ⟨w1.heap.size, 0, none⟩) M M) := ⟨_, rfl⟩
    have hk : W2.heap[D]? = some (.deferred (some [])) := by
      rw [hW2]
      exact ((KeepsOthers.setCell _ _ _).trans (KeepsOthers.setCell _ _ _)).same D _ HK.out rfl
    rw [← hW2] at hz ho ⊢
    have hz2 := (pair_from (β := Unit) (B := W0.heap.size) (h := w.heap.size + 1) (x := .int .i64 n) (y := .slice (some ⟨w1.heap.size, 0, none⟩) M M) (by omega)).putObj (s := ()) (.deferred none) hz HD.out hk rfl
    have ho2 := (own_from (β := Unit) (B := W0.heap.size) (C := w.heap.size) (g := w1.heap.size) (n := M) (cap := M) (e := 23) (w0 := w) (fun _ => (spreadC (fun i => L (lineN n (p, q) i)) M ((List.finRange M).map (·.1))).map cv) (by omega) (by omega)).putObj (s := ()) (.deferred none) ho HD.out hk rfl
    have hfr : (List.finRange M).map (·.1) = List.range M := by
      apply List.ext_getElem <;> simp
    refine ⟨by simp, .inl ⟨_, _, rfl, run_takeDeferred hk, ?_⟩⟩
    refine ⟨.tuple #[gridV n w1.heap.size M M, .int .i64 0], by simp [results, Try.f40, go_sem, hz2.c0, hz2.c1], _, rfl, ?_⟩
    rw [← spreadC_all, ← hfr]
    exact ho2
end Go.Proofs.Ytoeeceemoggffaa
