/- The reference's copy of a ghost, by its contract. -/
import Derived.Test.YtoeeceemoggffaaRy
import Derived.Deep.RegionHeld3
import Derived.Deep.AppendLies
import Derived.WalkSpells
import Derived.OwnWalk
namespace Go.Proofs.Ytoeeceemoggffaa
open Go.RowKit
set_option maxHeartbeats 3200000
set_option maxRecDepth 100000

/-- a copy of a ghost, in new memory -/
def GivesCopy (X Y N : Nat) (xs : List Value) (w : World) (e : Ending) (w' : World) : Prop :=
  ∃ g cap, e = .returned (ghV X Y g N cap) ∧ Own w.heap.size 23 w w' (.slice (some ⟨g, 0, none⟩) N cap) xs

theorem fz_keep {W : World} {b j : Nat} {o : Obj} (h : W.frozen? ⟨b, j, none⟩ = false) (hl : b < W.heap.size) : ((W.alloc o).drew.frozen? ⟨b, j, none⟩ = false) :=
  (((Below.refl W.heap.size W).alloc (Nat.le_refl _) o).drew.frozen (p := ⟨b, j, none⟩) hl).trans h

theorem rCopy13_walk (X Y N g c : Nat) (xs : List Value) (w : World) (hL : xs.length = N) (hN : 0 < N) (hm : N ≤ 1000000) (hg : g < w.heap.size) (hc : ∀ j u, xs[j]? = some u → w.cell? ⟨g, j, none⟩ = some u) (h1 : ∀ u ∈ xs, u.oneCell' = true) :
    Calls Try.prog 36 #[ghV X Y g N c] w fun e w' => GivesCopy X Y N xs w e w' := by
  obtain ⟨i0, hi0, hz0, hz1, hz2⟩ := info_parts infoC
  have HL := Lib.hid hL
  have HC := Lib.hid hc
  have H1 := Lib.hid h1
  have n1 : 0 + N ≤ maxLen := by unfold maxLen; omega
  have n2 : (0 + N) * 16 ≤ 140737488355328 := by omega
  obtain ⟨W, hW⟩ : ∃ W, W = (w.alloc (.cells #[.int .i64 X, .int .i64 Y, .slice (some ⟨g, 0, none⟩) N c] 44)).alloc (.cells #[.int .i64 0, .int .i64 0, .slice none 0 0] 44) := ⟨_, rfl⟩
  have hs : W.heap.size = w.heap.size + 1 + 1 := by rw [hW]; simp
  have T1 : Three w.heap.size (.int .i64 X) (.int .i64 Y) (.slice (some ⟨g, 0, none⟩) N c) W := by rw [hW]; exact (Three.made w _ _ _ _).alloc _
  have T2 : Three (w.heap.size + 1) (.int .i64 0) (.int .i64 0) (.slice none 0 0) W := by
    rw [hW, ← new_size w (.cells #[.int .i64 X, .int .i64 Y, .slice (some ⟨g, 0, none⟩) N c] 44)]; exact Three.made _ _ _ _ _
  have HT2 := Lib.hid T2
  have hb : Below w.heap.size w W := by rw [hW]; exact ((Below.refl _ _).alloc (Nat.le_refl _) _).alloc (by simp) _
  have HB := Lib.hid hb
  have hcw : ∀ j u, xs[j]? = some u → W.cell? ⟨g, j, none⟩ = some u := fun j u h => cells_below hb hg (hc j u h)
  have HCW := Lib.hid hcw
  obtain ⟨_, t0, t1, t2, _, _, _⟩ := T1
  obtain ⟨_, u0, u1, u2, v0, v1, v2⟩ := T2
  have hown : (W.alloc (.cells #[] 23)).ownsRow (w.heap.size + 1 + 1) 23 1 (.slice (some ⟨w.heap.size + 1 + 1, 0, none⟩) 0 0) 0 [] := by rw [← hs]; exact World.ownsRow_made W #[] 0 (Nat.le_refl _) (Nat.zero_le _) rfl
  have HOwn := Lib.hid hown
  have HW := Lib.hid hW
  have HS := Lib.hid hs
  have hs1 : w.heap.size + 1 < W.heap.size := by omega
  clear hL hc h1 hb hcw hown hs
  go_enter Try.func36, Try.ntmps36
  go_wp2_with fail
  rw [← hW]
  clear hW
  go_region_held3 (fun w' => w'.cell? ⟨w.heap.size, 0, none⟩ = some (.int .i64 X) ∧ w'.cell? ⟨w.heap.size, 1, none⟩ = some (.int .i64 Y) ∧ w'.cell? ⟨w.heap.size, 2, none⟩ = some (.slice (some ⟨g, 0, none⟩) N c))
    (first
      | (go_keep; done)
      | (go_split_ands
         refine ⟨?_, ?_, ?_⟩ <;> first
           | assumption
           | (rw [hgrow.cell_far _ (by simp <;> omega) (by simp [Value.ownBlock] <;> omega)]; assumption)))
    ((refine step_append_lies _ (by rfl) _ _ _ (by rfl) (w.heap.size + 1 + 1) 23 i0 _ 1 16 Try.underlying37 hi0 hz0 hz1 hz2 rfl (by omega) (.slice (some ⟨w.heap.size + 1 + 1, 0, none⟩) 0 0) 0 [] (by simp [Act.eval, HS.out]) (by first | exact HOwn.out.drew | exact HOwn.out | exact HOwn.out.alloc _)
        ⟨g, 0, none⟩ N c xs (by rfl) (by rw [HL.out]; omega) (fun j u h => by rw [Go.WideShapes.add_plain, Nat.zero_add]; exact cells_below (((Below.refl W.heap.size W).alloc (Nat.le_refl _) _).drew) (by omega) (HCW.out j u h)) H1.out
        hN n1 n2 (by simp [HS.out]) (w.heap.size + 1 + 1 + 1) (by simp [HS.out]) ?_; intro gg cap w1 hown1 hgrow hat hlt;
      have hbA : Below (w.heap.size + 1 + 1) W w1 := (((Below.refl W.heap.size W).alloc (Nat.le_refl _) (.cells #[] 23)).drew.mono (by rw [HS.out] <;> exact Nat.le_refl _)).grown hgrow (by simp [HS.out]) (by intro k hk; simp [Value.ownBlock] at hk; omega);
      have x0 := (hbA.cell (p := ⟨w.heap.size + 1, 0, none⟩) (by simp)).trans u0;
      have x1 := (hbA.cell (p := ⟨w.heap.size + 1, 1, none⟩) (by simp)).trans u1;
      have x2 := (hbA.cell (p := ⟨w.heap.size + 1, 2, none⟩) (by simp)).trans u2;
      have y0 := (hbA.frozen (p := ⟨w.heap.size + 1, 0, none⟩) (by simp)).trans v0;
      have y1 := (hbA.frozen (p := ⟨w.heap.size + 1, 1, none⟩) (by simp)).trans v1;
      have y2 := (hbA.frozen (p := ⟨w.heap.size + 1, 2, none⟩) (by simp)).trans v2))
  go_wp2
  have hl1 : w.heap.size + 1 < w1.heap.size := by have := hbA.size; omega
  have hz := (⟨hl1, x0, x1, x2, y0, y1, y2⟩ : Three (w.heap.size + 1) _ _ _ w1).set (.int .i64 X) (.int .i64 Y) (.slice (some ⟨gg, 0, none⟩) N cap)
  have hgg : w.heap.size + 1 + 1 ≤ gg := by
    rcases hat with h | h
    · simp [Value.ownBlock] at h; omega
    · omega
  refine bodyPost_ret (v := ghV X Y gg N cap) (by simp [results, Try.results36, go_sem, hz.c0, hz.c1, hz.c2]) rfl ⟨gg, cap, rfl, ?_⟩
  have ho : Own (w.heap.size + 1 + 1) 23 W w1 (.slice (some ⟨gg, 0, none⟩) N cap) xs := by
    refine ⟨?_, hbA, ?_⟩
    · rw [Nat.zero_add, List.nil_append] at hown1
      rw [HL.out]; exact hown1
    · omega
  have ho2 := ho.lower (B' := w.heap.size) (by omega) HB.out
  exact ((ho2.other (by omega) (by omega) 0 _).other (by omega) (by omega) 1 _).other (by omega) (by omega) 2 _
end Go.Proofs.Ytoeeceemoggffaa
