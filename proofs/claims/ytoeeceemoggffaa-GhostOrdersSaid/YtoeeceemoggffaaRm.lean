/- The reference's ghost of a list of directions: the refusals, by their contract. -/
import Derived.Test.YtoeeceemoggffaaRg
import Derived.Test.YtoeeceemoggffaaRk
namespace Go.Proofs.Ytoeeceemoggffaa
open Go.RowKit
set_option maxHeartbeats 1600000
set_option maxRecDepth 100000

theorem rMake_no (A : Option Addr) (cap : Nat) (ds : List (Int × Int)) (w : World) (hD : Dirs w A ds) (he : mkErr ds ≠ 0) :
    Calls Try.prog 31 #[.slice A ds.length cap] w fun e w' => e = .returned (.tuple #[gh0, .int .i64 (mkErr ds)]) ∧ Below w.heap.size w w' := by
  have hlen := hD.len
  have HT := Lib.hid (fun w hD => rTwice_walk A cap ds w hD)
  have HL := fun hok => Lib.hid (fun w hD => rmeasures_walk A cap ds w hD hok)
  have HD := Lib.hid hD
  have hokt : twice ds = 0 → ∀ d ∈ ds, okD d = true := twiceFrom_ok ds []
  unfold mkErr at he ⊢
  clear hD
  generalize ds.length = n at *
  by_cases h8 : 8 < n
  · rw [if_pos h8]
    clear he HL hokt
    go_enter Try.func31, Try.ntmps31
    go_wp2
    have hz := (Three.made w 44 (.int .i64 0) (.int .i64 0) (.slice none 0 0))
    refine bodyPost_ret (v := .tuple #[gh0, .int .i64 2]) (by simp [results, Try.results31, go_sem, hz.c0, hz.c1, hz.c2]) rfl ⟨rfl, (Below.refl _ _).alloc (Nat.le_refl _) _⟩
  · rw [if_neg h8] at he ⊢
    have hz := (Three.made w 44 (.int .i64 0) (.int .i64 0) (.slice none 0 0))
    have HZ := Lib.hid hz
    have hDa := HD.out.later ((Below.refl w.heap.size w).alloc (Nat.le_refl _) (.cells #[.int .i64 0, .int .i64 0, .slice none 0 0] 44))
    have HDa := Lib.hid hDa
    clear hz hDa
    by_cases ht : twice ds ≠ 0
    · rw [if_pos ht]
      clear he HL hokt
      generalize twice ds = T at *
      have hT : (T != 0) = true := by simpa using ht
      clear ht
      go_enter Try.func31, Try.ntmps31
      go_wp2_with fail
      refine (HT.out _ HDa.out).mono ?_; rintro e w1 ⟨rfl, hb⟩
      have hz := HZ.out.later hb (by simp)
      have HB := Lib.hid (((Below.refl w.heap.size w).alloc (Nat.le_refl _) (.cells #[.int .i64 0, .int .i64 0, .slice none 0 0] 44)).trans (hb.mono (by simp)))
      have HZ2 := Lib.hid hz
      obtain ⟨l4, e0, e1, e2, f0, f1, f2⟩ := hz
      clear hb
      go_wp2
      have hz3 := HZ2.out.set (.int .i64 0) (.int .i64 0) (.slice none 0 0)
      refine bodyPost_ret (v := .tuple #[gh0, .int .i64 T]) (by simp [results, Try.results31, go_sem, hz3.c0, hz3.c1, hz3.c2]) rfl ⟨rfl, ?_⟩
      exact ((HB.out.setCell (Nat.le_refl _) _).setCell (Nat.le_refl _) _).setCell (Nat.le_refl _) _
    · have ht0 : twice ds = 0 := by simpa using ht
      rw [if_neg ht] at he ⊢
      have HL := HL (hokt ht0)
      rw [ht0] at HT
      clear ht ht0 hokt
      generalize mw ds = X at *
      generalize mh ds = Y at *
      by_cases hX : 64 < X
      · rw [if_pos (.inl hX)]
        clear he
        go_enter Try.func31, Try.ntmps31
        go_wp2_with fail
        refine (HT.out _ HDa.out).mono ?_; rintro e w1 ⟨rfl, hb⟩
        have hz := HZ.out.later hb (by simp)
        have HB := Lib.hid (((Below.refl w.heap.size w).alloc (Nat.le_refl _) (.cells #[.int .i64 0, .int .i64 0, .slice none 0 0] 44)).trans (hb.mono (by simp)))
        have HZ2 := Lib.hid hz
        clear hb hz
        go_wp2_with fail
        refine (HL.out _ (HD.out.later HB.out)).mono ?_; rintro e w2 ⟨rfl, hb⟩
        have hz := HZ2.out.later hb HZ2.out.lt
        have HZ3 := Lib.hid hz
        have HB2 := Lib.hid (HB.out.trans (hb.mono HB.out.size))
        obtain ⟨l4, e0, e1, e2, f0, f1, f2⟩ := hz
        clear hb
        go_wp2
        have hz3 := HZ3.out.set (.int .i64 0) (.int .i64 0) (.slice none 0 0)
        refine bodyPost_ret (v := .tuple #[gh0, .int .i64 4]) (by simp [results, Try.results31, go_sem, hz3.c0, hz3.c1, hz3.c2]) rfl ⟨rfl, ?_⟩
        exact ((HB2.out.setCell (Nat.le_refl _) _).setCell (Nat.le_refl _) _).setCell (Nat.le_refl _) _
      · by_cases hY : 64 < Y
        · rw [if_pos (.inr hY)]
          clear he
          go_enter Try.func31, Try.ntmps31
          go_wp2_with fail
          refine (HT.out _ HDa.out).mono ?_; rintro e w1 ⟨rfl, hb⟩
          have hz := HZ.out.later hb (by simp)
          have HB := Lib.hid (((Below.refl w.heap.size w).alloc (Nat.le_refl _) (.cells #[.int .i64 0, .int .i64 0, .slice none 0 0] 44)).trans (hb.mono (by simp)))
          have HZ2 := Lib.hid hz
          clear hb hz
          go_wp2_with fail
          refine (HL.out _ (HD.out.later HB.out)).mono ?_; rintro e w2 ⟨rfl, hb⟩
          have hz := HZ2.out.later hb HZ2.out.lt
          have HZ3 := Lib.hid hz
          have HB2 := Lib.hid (HB.out.trans (hb.mono HB.out.size))
          obtain ⟨l4, e0, e1, e2, f0, f1, f2⟩ := hz
          clear hb
          go_wp2
          have hz3 := HZ3.out.set (.int .i64 0) (.int .i64 0) (.slice none 0 0)
          refine bodyPost_ret (v := .tuple #[gh0, .int .i64 4]) (by simp [results, Try.results31, go_sem, hz3.c0, hz3.c1, hz3.c2]) rfl ⟨rfl, ?_⟩
          exact ((HB2.out.setCell (Nat.le_refl _) _).setCell (Nat.le_refl _) _).setCell (Nat.le_refl _) _
        · rw [if_neg (by omega)] at he
          exact (he rfl).elim
end Go.Proofs.Ytoeeceemoggffaa
