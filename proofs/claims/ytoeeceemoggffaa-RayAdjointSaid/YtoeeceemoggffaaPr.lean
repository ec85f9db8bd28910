/- ray.Project at small whole numbers, by its contract; the fixed fact of layer 9. -/
import Derived.Test.YtoeeceemoggffaaSm
namespace Go.Proofs.Ytoeeceemoggffaa
open Go.RowKit
set_option maxHeartbeats 1600000
set_option maxRecDepth 100000

def GivesProj0 (p q : Int) (b : Nat) (xs : List (Nat × Nat)) (w : World) (e : Ending) (w' : World) : Prop :=
  ∃ g, e = .returned (.tuple #[projV p q g b, .int .i64 0]) ∧ Own w.heap.size 23 w w' (.slice (some ⟨g, 0, none⟩) b b) (xs.map cv)

theorem Project_yes (n M gc cap : Nat) (p q : Int) (A B : Nat → Int) (w : World) (hM : M = n * n) (h1 : 1 ≤ n) (h2 : n ≤ 64) (h : okD (p, q) = true) (hA : ∀ i, -128 ≤ A i ∧ A i ≤ 128) (hB : ∀ i, -128 ≤ B i ∧ B i ≤ 128)
    (hg : gc < w.heap.size) (hc : ∀ i, i < M → w.cell? ⟨gc, i, none⟩ = some (cv (fint (A i), fint (B i)))) :
    Calls Try.prog 39 #[gridV n gc M cap, .agg #[.int .i64 p, .int .i64 q]] w fun e w' =>
      GivesProj0 p q (binsN n (p, q)) (binsC (lineN n (p, q)) A B (List.range M) (binsN n (p, q))) w e w' := by
  obtain ⟨o0, o1, o2, _⟩ := (okD_iff p q).1 h
  have hp : I64 p := by unfold I64; omega
  have hq : I64 q := by unfold I64; omega
  have he : errD (p, q) = 0 := by unfold errD; rw [if_pos h]
  have C1 := Lib.hid (fun w hg hc => gridCheck_small n M gc cap A B w hM h1 h2 hA hB hg hc)
  have C2 := Lib.hid (fun w => Check_walk p q w hp hq)
  have C3 := Lib.hid (fun w hg hc => project_walk n M gc cap p q A B w hM h1 h2 h hA hB hg hc)
  rw [he] at C2
  have HC := Lib.hid hc
  obtain ⟨W0, hW0⟩ : ∃ W0, W0 = ((w.alloc (.cells #[.int .i64 n, .slice (some ⟨gc, 0, none⟩) M cap] 59)).alloc (.cells #[.int .i64 p, .int .i64 q] 51)).alloc (.cells #[.int .i64 0, .int .i64 0, .slice none 0 0] 61) := ⟨_, rfl⟩
  have hs0 : W0.heap.size = w.heap.size + 1 + 1 + 1 := by rw [hW0, new_size, new_size, new_size]
  have hb0 : Below w.heap.size w W0 := by rw [hW0]; exact (((Below.refl _ _).alloc (Nat.le_refl _) _).alloc (by simp) _).alloc (by simp <;> omega) _
  have t1 : PairV w.heap.size (.int .i64 n) (.slice (some ⟨gc, 0, none⟩) M cap) W0 := by
    rw [hW0]
    exact ((PairV.made w _ _ _).later ((Below.refl (w.heap.size + 1) _).alloc (by simp) _) (by omega)).later ((Below.refl (w.heap.size + 1) _).alloc (by simp) _) (by omega)
  have t2 : PairV (w.heap.size + 1) (.int .i64 p) (.int .i64 q) W0 := by
    have := PairV.made (w.alloc (.cells #[.int .i64 n, .slice (some ⟨gc, 0, none⟩) M cap] 59)) 51 (.int .i64 p) (.int .i64 q)
    rw [new_size] at this
    rw [hW0]
    exact this.later ((Below.refl (w.heap.size + 2) _).alloc (by simp) _) (by omega)
  have t4 : Three (w.heap.size + 1 + 1) (.int .i64 0) (.int .i64 0) (.slice none 0 0) W0 := by
    have := Three.made ((w.alloc (.cells #[.int .i64 n, .slice (some ⟨gc, 0, none⟩) M cap] 59)).alloc (.cells #[.int .i64 p, .int .i64 q] 51)) 61 (.int .i64 0) (.int .i64 0) (.slice none 0 0)
    rw [new_size, new_size] at this
    rw [hW0]
    exact this
  have T1 := Lib.hid t1
  have T2 := Lib.hid t2
  have T4 := Lib.hid t4
  have HB0 := Lib.hid hb0
  have HS0 := Lib.hid hs0
  clear hA hB hM h hp hq he hc t2 t4 hb0 hs0
  generalize binsN n (p, q) = b at *
  generalize binsC (lineN n (p, q)) A B (List.range M) b = xs at *
  obtain ⟨_, a0, a1, _, _⟩ := t1
  go_enter Try.func39, Try.ntmps39
  go_upto_region 1 with fail
  rw [← hW0]
  have HW0 := Lib.hid hW0
  clear hW0
  go_wp2_with fail
  refine (C1.out _ (by have := HS0.out; omega) (fun i hi => cells_below HB0.out hg (HC.out i hi))).mono ?_; rintro e w1 ⟨rfl, hb1⟩
  have HB1 := Lib.hid (HB0.out.trans (hb1.mono HB0.out.size))
  obtain ⟨_, d0, d1, _, _⟩ := T2.out.later hb1 T2.out.lt
  have T11 := Lib.hid (T1.out.later hb1 T1.out.lt)
  have T21 := Lib.hid (T2.out.later hb1 T2.out.lt)
  have T41 := Lib.hid (T4.out.later hb1 T4.out.lt)
  clear hb1 a0 a1
  go_wp2_with fail
  refine (C2.out _).mono ?_; rintro e w2 ⟨rfl, hb2⟩
  have HB2 := Lib.hid (HB1.out.trans (hb2.mono HB1.out.size))
  obtain ⟨_, a0, a1, _, _⟩ := T11.out.later hb2 T11.out.lt
  have T42 := Lib.hid (T41.out.later hb2 T41.out.lt)
  clear d0 d1
  obtain ⟨_, d0, d1, _, _⟩ := T21.out.later hb2 T21.out.lt
  clear hb2
  go_wp2_with fail
  refine (C3.out _ (by have := HB2.out.size; omega) (fun i hi => cells_below HB2.out hg (HC.out i hi))).mono ?_; rintro e w3 ⟨g, rfl, ho⟩
  have T43 := Lib.hid (T42.out.later ho.below T42.out.lt)
  have HO := Lib.hid ho
  obtain ⟨_, e0, e1, e2, f0, f1, f2⟩ := T42.out.later ho.below T42.out.lt
  have hlo := T42.out.lt
  clear ho a0 a1 d0 d1
  go_wp2
  have hz := T43.out.set (.int .i64 p) (.int .i64 q) (.slice (some ⟨g, 0, none⟩) b b)
  have hgl := HO.out.lt
  have ho := (((HO.out.lower (B' := w.heap.size) (by omega) HB2.out).other (k := w.heap.size + 1 + 1) (by omega) (by omega) 0 (.int .i64 p)).other (k := w.heap.size + 1 + 1) (by omega) (by omega) 1 (.int .i64 q)).other (k := w.heap.size + 1 + 1) (by omega) (by omega) 2 (.slice (some ⟨g, 0, none⟩) b b)
  refine bodyPost_ret (v := .tuple #[projV p q g b, .int .i64 0]) (by simp [results, Try.results39, go_sem, hz.c0, hz.c1, hz.c2]) rfl ⟨g, rfl, ho⟩

theorem Project_no (n M gc cap : Nat) (p q : Int) (A B : Nat → Int) (w : World) (hM : M = n * n) (h1 : 1 ≤ n) (h2 : n ≤ 64) (h : okD (p, q) = false) (hp : I64 p) (hq : I64 q) (hA : ∀ i, -128 ≤ A i ∧ A i ≤ 128) (hB : ∀ i, -128 ≤ B i ∧ B i ≤ 128)
    (hg : gc < w.heap.size) (hc : ∀ i, i < M → w.cell? ⟨gc, i, none⟩ = some (cv (fint (A i), fint (B i)))) :
    Calls Try.prog 39 #[gridV n gc M cap, .agg #[.int .i64 p, .int .i64 q]] w fun e w' =>
      e = .returned (.tuple #[.agg #[.int .i64 0, .int .i64 0, .slice none 0 0], .int .i64 60]) ∧ Below w.heap.size w w' := by
  have he : errD (p, q) = 60 := by unfold errD; rw [if_neg (by rw [h]; decide)]
  have C1 := Lib.hid (fun w hg hc => gridCheck_small n M gc cap A B w hM h1 h2 hA hB hg hc)
  have C2 := Lib.hid (fun w => Check_walk p q w hp hq)
  rw [he] at C2
  have HC := Lib.hid hc
  obtain ⟨W0, hW0⟩ : ∃ W0, W0 = ((w.alloc (.cells #[.int .i64 n, .slice (some ⟨gc, 0, none⟩) M cap] 59)).alloc (.cells #[.int .i64 p, .int .i64 q] 51)).alloc (.cells #[.int .i64 0, .int .i64 0, .slice none 0 0] 61) := ⟨_, rfl⟩
  have hs0 : W0.heap.size = w.heap.size + 1 + 1 + 1 := by rw [hW0, new_size, new_size, new_size]
  have hb0 : Below w.heap.size w W0 := by rw [hW0]; exact (((Below.refl _ _).alloc (Nat.le_refl _) _).alloc (by simp) _).alloc (by simp <;> omega) _
  have t1 : PairV w.heap.size (.int .i64 n) (.slice (some ⟨gc, 0, none⟩) M cap) W0 := by
    rw [hW0]
    exact ((PairV.made w _ _ _).later ((Below.refl (w.heap.size + 1) _).alloc (by simp) _) (by omega)).later ((Below.refl (w.heap.size + 1) _).alloc (by simp) _) (by omega)
  have t2 : PairV (w.heap.size + 1) (.int .i64 p) (.int .i64 q) W0 := by
    have := PairV.made (w.alloc (.cells #[.int .i64 n, .slice (some ⟨gc, 0, none⟩) M cap] 59)) 51 (.int .i64 p) (.int .i64 q)
    rw [new_size] at this
    rw [hW0]
    exact this.later ((Below.refl (w.heap.size + 2) _).alloc (by simp) _) (by omega)
  have t4 : Three (w.heap.size + 1 + 1) (.int .i64 0) (.int .i64 0) (.slice none 0 0) W0 := by
    have := Three.made ((w.alloc (.cells #[.int .i64 n, .slice (some ⟨gc, 0, none⟩) M cap] 59)).alloc (.cells #[.int .i64 p, .int .i64 q] 51)) 61 (.int .i64 0) (.int .i64 0) (.slice none 0 0)
    rw [new_size, new_size] at this
    rw [hW0]
    exact this
  have T2 := Lib.hid t2
  have T4 := Lib.hid t4
  have HB0 := Lib.hid hb0
  have HS0 := Lib.hid hs0
  clear hA hB hM h hp hq he hc t2 t4 hb0 hs0
  obtain ⟨_, a0, a1, _, _⟩ := t1
  go_enter Try.func39, Try.ntmps39
  go_upto_region 1 with fail
  rw [← hW0]
  have HW0 := Lib.hid hW0
  clear hW0
  go_wp2_with fail
  refine (C1.out _ (by have := HS0.out; omega) (fun i hi => cells_below HB0.out hg (HC.out i hi))).mono ?_; rintro e w1 ⟨rfl, hb1⟩
  have HB1 := Lib.hid (HB0.out.trans (hb1.mono HB0.out.size))
  obtain ⟨_, d0, d1, _, _⟩ := T2.out.later hb1 T2.out.lt
  have T41 := Lib.hid (T4.out.later hb1 T4.out.lt)
  clear hb1 a0 a1
  go_wp2_with fail
  refine (C2.out _).mono ?_; rintro e w2 ⟨rfl, hb2⟩
  have HB2 := Lib.hid (HB1.out.trans (hb2.mono HB1.out.size))
  have T42 := Lib.hid (T41.out.later hb2 T41.out.lt)
  obtain ⟨_, e0, e1, e2, f0, f1, f2⟩ := T41.out.later hb2 T41.out.lt
  clear hb2 d0 d1
  go_wp2
  have hz := T42.out.set (.int .i64 0) (.int .i64 0) (.slice none 0 0)
  refine bodyPost_ret (v := .tuple #[.agg #[.int .i64 0, .int .i64 0, .slice none 0 0], .int .i64 60]) (by simp [results, Try.results39, go_sem, hz.c0, hz.c1, hz.c2]) rfl ⟨rfl, ?_⟩
  exact ((HB2.out.setCell (p := ⟨w.heap.size + 1 + 1, 0, none⟩) (by simp; omega) _).setCell (p := ⟨w.heap.size + 1 + 1, 1, none⟩) (by simp; omega) _).setCell (p := ⟨w.heap.size + 1 + 1, 2, none⟩) (by simp; omega) _
end Go.Proofs.Ytoeeceemoggffaa
