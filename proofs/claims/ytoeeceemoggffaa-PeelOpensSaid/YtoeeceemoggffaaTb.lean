/- root.Table: all roots of one order, in new memory. -/
import Derived.Test.YtoeeceemoggffaaRf
namespace Go.Proofs.Ytoeeceemoggffaa
open Go.RowKit
set_option maxHeartbeats 400000

/-- all roots of order 2^t -/
def RL (t : Nat) : List (Nat × Nat) := (List.range (2 ^ t)).map (R t)

/-- a list of complex numbers in new memory, and an error's number -/
def GivesTab (xs : List (Nat × Nat)) (w : World) (e : Ending) (w' : World) : Prop :=
  ∃ g cap, e = .returned (.tuple #[.slice (some ⟨g, 0, none⟩) xs.length cap, .int .i64 0]) ∧ Own w.heap.size 23 w w' (.slice (some ⟨g, 0, none⟩) xs.length cap) (xs.map cv)

theorem RL_length (t : Nat) : (RL t).length = 2 ^ t := by simp [RL]
theorem RL_map (t : Nat) : (RL t).map cv = (List.range (2 ^ t)).map fun i => cv (R t i) := by simp [RL, Function.comp_def]

theorem Table_no (n : Int) (w : World) (h : lenB n = false) :
    Calls Try.prog 26 #[.int .i64 n] w fun e w' => e = .returned (.tuple #[.slice none 0 0, .int .i64 30]) ∧ Below w.heap.size w w' := by
  go_enter Try.func26, Try.ntmps26
  go_wp2_with fail
  refine (right_walk _ _).mono ?_; rintro e w' ⟨rfl, rfl⟩
  rw [h]
  go_wp2
  go_ret2
  exact ⟨rfl, Below.refl _ _⟩

theorem Table_yes (t : Nat) (w : World) (ht : t ≤ 12) :
    Calls Try.prog 26 #[.int .i64 ((2 ^ t : Nat) : Int)] w fun e w' => GivesTab (RL t) w e w' := by
  have h : lenB ((2 ^ t : Nat) : Int) = true := lenB_iff.2 ⟨t, ht, rfl⟩
  have hp := Nat.two_pow_pos t
  have hle := pow_le12 ht
  have hA := fun j g cap w (hj : j < 2 ^ t) => at_any t j cap g w ht hj
  have hE := eighth_walk t w ht
  have hR := right_walk ((2 ^ t : Nat) : Int) w
  rw [h] at hR
  have hl := EL_len ht
  have hm := RL_map t
  have hn := RL_length t
  generalize 2 ^ t = N at *
  have hmk := fun W => run_make_row' (P := Try.prog) 37 23 (.complex .f64 0 0) 16 Try.underlying37 infoC rfl .i64 .i64 N (by omega) (by omega) W
  have HA := Lib.hid hA
  have HE := Lib.hid hE
  have HR := Lib.hid hR
  have HL := Lib.hid hl
  have HM := Lib.hid hm
  have HN := Lib.hid hn
  clear hA hE hR h hl hm hn
  go_enter Try.func26, Try.ntmps26
  go_wp2_with fail
  refine HR.out.mono ?_; rintro e w' ⟨rfl, rfl⟩
  go_wp2_with fail
  refine HE.out.mono ?_; rintro e w1 ⟨v, rfl, hO⟩
  obtain ⟨g, cap, rfl, hg0, hg1, hcell⟩ := hO.form (by rw [List.length_map, HL.out]; omega)
  rw [List.length_map]
  have hr : RowC w1 g (EL t) := fun j a h => hcell j _ (by rw [List.getElem?_map, h]; rfl)
  have HB := Lib.hid hO.below
  have HRo := Lib.hid hr
  clear hcell hO hr
  go_wp2
  go_loopw [15] (fun i wr => ∃ k : Nat, k ≤ N ∧ i = .int .i64 k ∧ Own w1.heap.size 23 w1 wr (.slice (some ⟨w1.heap.size, 0, none⟩) N N) (upTo (.complex .f64 0 0) (fun i => cv (R t i)) N k)) (fun i _ => N - (intOf i).toNat)
  case atStart => exact ⟨0, Nat.zero_le _, rfl, by rw [upTo_zero]; exact Own.zeros _ _ _ _ (by unfold maxLen; omega)⟩
  case round =>
    obtain ⟨k, hk, rfl, hown⟩ := hrel
    by_cases hlt : k < N
    · have hc := hown.cell (upTo_get _ _ hlt)
      have hf := hown.free (upTo_length _ _ _ _).symm k
      have hR : RowC wr g (EL t) := fun j a h => cells_below hown.below hg1 (HRo.out j a h)
      have HR2 := Lib.hid hR
      have HO := Lib.hid hown
      clear hown hR
      go_wp2_with fail
      refine (HA.out _ _ _ _ hlt HR2.out).mono ?_; rintro e w' ⟨rfl, rfl⟩
      go_wp2
      go_roundw
      case rel =>
        refine ⟨k + 1, by omega, by go_num, ?_⟩
        rw [← upTo_set]
        exact HO.out.stored (upTo_length _ _ _ _).symm k _
      case measure => simp [intOf]; omega
    · obtain rfl : k = N := by omega
      go_wp2
      go_ret2
      refine ⟨w1.heap.size, k, by rw [HN.out]; rfl, ?_⟩
      rw [upTo_full, ← HM.out] at hown
      rw [HN.out]
      exact hown.lower (Nat.le_of_lt (by have := HB.out.size; omega)) HB.out
end Go.Proofs.Ytoeeceemoggffaa
