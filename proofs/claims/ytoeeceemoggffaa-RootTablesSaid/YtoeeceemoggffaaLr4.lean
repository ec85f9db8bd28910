/- The law RootTables, walked. -/
import Derived.Test.YtoeeceemoggffaaAl02
import Derived.Test.YtoeeceemoggffaaRb
import Derived.Test.YtoeeceemoggffaaSl
namespace Go.Proofs.Ytoeeceemoggffaa
open Go.RowKit
set_option maxHeartbeats 400000

theorem RowC.store {w : World} {g g' j : Nat} {u : Value} {xs : List (Nat × Nat)} (h : RowC w g xs) (hne : g ≠ g') : RowC (w.setCell ⟨g', j, none⟩ u) g xs := fun i a hi => by
  rw [World.cell?_of_block (w := w) (Below.heap_setCell _ _ _ _ (by simpa using hne))]
  exact h i a hi

theorem RowC.later {w w' : World} {g B : Nat} {xs : List (Nat × Nat)} (h : RowC w g xs) (hb : Below B w w') (hg : g < B) : RowC w' g xs := fun i a hi => cells_below hb hg (h i a hi)

theorem RowC_of_own {B : Nat} {w0 w : World} {g n cap : Nat} {xs : List (Nat × Nat)} (h : Own B 23 w0 w (.slice (some ⟨g, 0, none⟩) n cap) (xs.map cv)) : RowC w g xs := fun i a hi => h.cell (by rw [List.getElem?_map, hi]; rfl)

theorem RootTables_no (n : Int) (w : World) (h : lenB n = false) :
    Calls Try.prog 6 #[.int .i64 n] w fun e w' => e = .returned (.bool true) ∧ Below w.heap.size w w' := by
  have c1 := fun w => Table_no n w h
  have c2 := fun w => rTable_no n w h
  have C1 := Lib.hid c1
  have C2 := Lib.hid c2
  clear c1 c2 h
  go_enter Try.func6, Try.ntmps6
  go_wp2_with fail
  refine (alive02 _).mono ?_; rintro e w1 ⟨rfl, hb1⟩
  go_wp2_with fail
  refine (C1.out _).mono ?_; rintro e w2 ⟨rfl, hb2⟩
  go_wp2_with fail
  refine (C2.out _).mono ?_; rintro e w3 ⟨rfl, hb3⟩
  go_wp2_with fail
  refine (rSameList_empty _ _ _ _ _).mono ?_; rintro e w4 ⟨rfl, hb4⟩
  go_wp2_with fail
  refine wp_loop_rounds 1 ?_
  rw [rounds_succ]
  go_wp2_with fail
  refine (C1.out _).mono ?_; rintro e w5 ⟨rfl, hb5⟩
  go_wp2_with fail
  refine (rSameList_empty _ _ _ _ _).mono ?_; rintro e w6 ⟨rfl, hb6⟩
  go_wp2
  go_ret
  have s1 := hb1.size
  have s2 := hb2.size
  have s3 := hb3.size
  have s4 := hb4.size
  have s5 := hb5.size
  exact ⟨rfl, ((((hb1.trans (hb2.mono (by omega))).trans (hb3.mono (by omega))).trans (hb4.mono (by omega))).trans (hb5.mono (by omega))).trans (hb6.mono (by omega))⟩

theorem RootTables_yes (t : Nat) (ht : t ≤ 12) (w : World) :
    Calls Try.prog 6 #[.int .i64 ((2 ^ t : Nat) : Int)] w fun e w' => e = .returned (.bool true) ∧ Below w.heap.size w w' := by
  have c1 := fun w => Table_yes t w ht
  have c2 := fun w => rTable_yes t w ht
  have hn := RL_length t
  have hle := pow_le12 ht
  generalize 2 ^ t = N at *
  have hLN : (RL t).length ≤ 4096 := by omega
  have C1 := Lib.hid c1
  have C2 := Lib.hid c2
  clear c1 c2 hn
  generalize RL t = xs at *
  go_enter Try.func6, Try.ntmps6
  go_wp2_with fail
  refine (alive02 _).mono ?_; rintro e w1 ⟨rfl, hb1⟩
  go_wp2_with fail
  refine (C1.out _).mono ?_; rintro e w2 ⟨g1, cap1, rfl, ho1⟩
  go_wp2_with fail
  refine (C2.out _).mono ?_; rintro e w3 ⟨g2, cap2, rfl, ho2⟩
  have l1 := ho1.lt
  have l2 := ho2.lt
  have r1 := (RowC_of_own ho1).later ho2.below l1.2
  have r2 := RowC_of_own ho2
  have b1 := ho1.below
  have b2 := ho2.below
  have s1 := hb1.size
  have s2 := b1.size
  have s3 := b2.size
  have ho1' := ho1.later ho2.below (Nat.le_refl _)
  obtain ⟨L, hL⟩ : ∃ L, L = xs.length := ⟨_, rfl⟩
  rw [← hL] at ho1' hLN ⊢
  have HL := Lib.hid hL
  have R1 := Lib.hid r1
  have R2 := Lib.hid r2
  have O1 := Lib.hid ho1'
  have B12 := Lib.hid ((hb1.trans (b1.mono s1)).trans (b2.mono (by omega)))
  clear hL r1 r2 ho1' hb1 b1 b2 ho1 ho2
  go_wp2_with fail
  refine (rSameList_refl xs L g1 g2 cap1 cap2 _ HL.out R1.out R2.out (by omega)).mono ?_; rintro e w4 ⟨rfl, hb4⟩
  have s4 := hb4.size
  have R2' := Lib.hid (R2.out.later hb4 l2.2)
  have O1' := Lib.hid (O1.out.later hb4 (Nat.le_refl _))
  have B4 := Lib.hid hb4
  clear R1 R2 O1 hb4
  go_wp2
  go_loopw [7] (fun i wr => ∃ k : Nat, k ≤ L ∧ i = .int .i64 k ∧ RowC wr g2 xs ∧ Below w.heap.size w wr ∧ w4.heap.size ≤ wr.heap.size ∧ ∃ ys, ys.length = L ∧ Own w1.heap.size 23 w1 wr (.slice (some ⟨g1, 0, none⟩) L cap1) ys) (fun i _ => L - (intOf i).toNat)
  case atStart => exact ⟨0, Nat.zero_le _, rfl, R2'.out, B12.out.trans (B4.out.mono (by omega)), Nat.le_refl _, _, by rw [List.length_map, ← HL.out], O1'.out⟩
  case round =>
    obtain ⟨k, hk, rfl, hr2, hbw, hsz, ys, hys, hown⟩ := hrel
    by_cases hlt : k < L
    · have hc := hown.cell (j := k) (List.getElem?_eq_getElem (by rw [hys]; exact hlt))
      have hf := hown.free hys.symm k
      generalize ys[k]'(by rw [hys]; exact hlt) = old at *
      have HO := Lib.hid hown
      have HY := Lib.hid hys
      have HR := Lib.hid hr2
      have HB := Lib.hid hbw
      clear hown hys hr2 hbw
      go_wp2
      go_roundw
      case rel =>
        refine ⟨k + 1, by omega, by go_num, HR.out.store (by omega), HB.out.setCell (by simp; omega) _, by simpa [World.setCell] using hsz, ys.set k (.complex .f64 4636666922610458624 0), by simpa using HY.out, ?_⟩
        exact HO.out.stored HY.out.symm k _
      case measure => simp [intOf]; omega
    · obtain rfl : k = L := by omega
      have HR := Lib.hid hr2
      have HB := Lib.hid hbw
      clear hr2 hbw hown hys
      go_wp2_with fail
      refine (C1.out _).mono ?_; rintro e w5 ⟨g3, cap3, rfl, ho3⟩
      have r3 := RowC_of_own ho3
      have r2 := HR.out.later ho3.below (by omega)
      have b3 := ho3.below
      have HB3 := Lib.hid b3
      have R3 := Lib.hid r3
      have R2 := Lib.hid r2
      clear ho3 r3 r2 b3
      rw [← HL.out]
      go_wp2_with fail
      refine (rSameList_refl xs k g3 g2 cap3 cap2 _ HL.out R3.out R2.out (by omega)).mono ?_; rintro e w6 ⟨rfl, hb6⟩
      go_wp2
      go_ret
      have z1 := HB.out.size
      have z2 := HB3.out.size
      exact ⟨rfl, (HB.out.trans (HB3.out.mono (by omega))).trans (hb6.mono (by omega))⟩

theorem RootTables_walk (n : Int) (_w0 : (Lit.int .i64 n).wf = true) (w : World) :
    Calls Try.prog 6 #[.int .i64 n] w fun e w' => e = .returned (.bool true) ∧ Below w.heap.size w w' := by
  cases h : lenB n
  · exact RootTables_no n w h
  · obtain ⟨t, ht, rfl⟩ := lenB_iff.1 h
    exact RootTables_yes t ht w
end Go.Proofs.Ytoeeceemoggffaa
