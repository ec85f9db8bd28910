/- The reference's Table: all roots of one order, in new memory. -/
import Derived.Test.YtoeeceemoggffaaR2
import Derived.Test.YtoeeceemoggffaaTb
namespace Go.Proofs.Ytoeeceemoggffaa
open Go.RowKit
set_option maxHeartbeats 400000

theorem rTable_no (n : Int) (w : World) (h : lenB n = false) :
    Calls Try.prog 27 #[.int .i64 n] w fun e w' => e = .returned (.tuple #[.slice none 0 0, .int .i64 30]) ∧ Below w.heap.size w w' := by
  go_enter Try.func27, Try.ntmps27
  go_wp2_with fail
  refine (Length_walk _ _).mono ?_; rintro e w' ⟨rfl, rfl⟩
  rw [h]
  go_wp2
  go_ret2
  exact ⟨rfl, Below.refl _ _⟩

theorem rTable_yes (t : Nat) (w : World) (ht : t ≤ 12) :
    Calls Try.prog 27 #[.int .i64 ((2 ^ t : Nat) : Int)] w fun e w' => GivesTab (RL t) w e w' := by
  have h : lenB ((2 ^ t : Nat) : Int) = true := lenB_iff.2 ⟨t, ht, rfl⟩
  have hp := Nat.two_pow_pos t
  have hle := pow_le12 ht
  have hA := fun w j (hj : j < 2 ^ t) => At_walk w _ t j ht hj (Nat.le_refl _)
  have hR := Length_walk ((2 ^ t : Nat) : Int) w
  rw [h] at hR
  have hm := RL_map t
  have hn := RL_length t
  have hT : ∀ k, 4 ≤ 2 ^ t → 2 ^ t / 4 ≤ k → R t k = plain2 (turn1 (R t (k - 2 ^ t / 4))) := fun k h4 hk => by
    refine R_turn ?_ hk
    by_cases h2 : 2 ≤ t
    · exact h2
    · rcases two_pow_lt4 h2 with rfl | rfl <;> omega
  generalize 2 ^ t = N at *
  have hmk := fun W => run_make_row' (P := Try.prog) 37 23 (.complex .f64 0 0) 16 Try.underlying37 infoC rfl .i64 .i64 N (by omega) (by omega) W
  have HA := Lib.hid hA
  have HR := Lib.hid hR
  have HM := Lib.hid hm
  have HN := Lib.hid hn
  have HT := Lib.hid hT
  clear hA hR h hm hn hT
  have hWd := fun k => R_Wd ht k
  go_enter Try.func27, Try.ntmps27
  go_wp2_with fail
  refine HR.out.mono ?_; rintro e w' ⟨rfl, rfl⟩
  go_wp2
  go_loopw [5] (fun i wr => ∃ k : Nat, k ≤ N ∧ i = .int .i64 k ∧ Own w.heap.size 23 w wr (.slice (some ⟨w.heap.size, 0, none⟩) N N) (upTo (.complex .f64 0 0) (fun i => cv (R t i)) N k)) (fun i _ => N - (intOf i).toNat)
  case atStart => exact ⟨0, Nat.zero_le _, rfl, by rw [upTo_zero]; exact Own.zeros _ _ _ _ (by unfold maxLen; omega)⟩
  case round =>
    obtain ⟨k, hk, rfl, hown⟩ := hrel
    by_cases hlt : k < N
    · have hc := hown.cell (upTo_get _ _ hlt)
      have hf := hown.free (upTo_length _ _ _ _).symm k
      by_cases h4 : 4 ≤ N ∧ N / 4 ≤ k
      · have h4' := h4.1
        have hk4 := h4.2
        have hc2 := hown.cell (upTo_get (.complex .f64 0 0) (fun i => cv (R t i)) (k := k) (show k - N / 4 < N by omega))
        rw [if_pos (by omega)] at hc2
        have hval := HT.out k h4' hk4
        have hw2 := (hWd (k - N / 4)).2
        generalize R t (k - N / 4) = b at *
        have HV := Lib.hid hval
        have HO := Lib.hid hown
        have t1 : (4 : Int) ≤ (N : Int) := by omega
        have t2 : (N : Int) / 4 ≤ (k : Int) := by omega
        have t3 : 0 ≤ (k : Int) - (N : Int) / 4 ∧ (k : Int) - (N : Int) / 4 < (N : Int) := by omega
        clear hown h4 hval
        go_wp2_with fail
        refine (rTurn1_walk _ _ _ hw2).mono ?_; rintro e w' ⟨rfl, rfl⟩
        go_wp2_with fail
        refine (rPlain_walk _ _ _).mono ?_; rintro e w' ⟨rfl, rfl⟩
        go_wp2
        go_roundw
        case rel =>
          refine ⟨k + 1, by omega, by go_num, ?_⟩
          rw [← upTo_set]
          have := HO.out.stored (upTo_length _ _ _ _).symm k (cv (R t k))
          rw [HV.out] at this ⊢
          exact this
        case measure => simp [intOf]; omega
      · have HO := Lib.hid hown
        clear hown
        by_cases t1 : (4 : Int) ≤ (N : Int)
        · have t2 : decide ((N : Int) / 4 ≤ (k : Int)) = false := by simp; omega
          have t5 : decide ((4 : Int) ≤ (N : Int)) = true := by simp; omega
          go_wp2_with fail
          refine (HA.out _ k hlt).mono ?_; rintro e w' ⟨rfl, rfl⟩
          go_wp2
          go_roundw
          case rel =>
            refine ⟨k + 1, by omega, by go_num, ?_⟩
            rw [← upTo_set]
            exact HO.out.stored (upTo_length _ _ _ _).symm k _
          case measure => simp [intOf]; omega
        · have t5 : decide ((4 : Int) ≤ (N : Int)) = false := by simp; omega
          go_wp2_with fail
          refine (HA.out _ k hlt).mono ?_; rintro e w' ⟨rfl, rfl⟩
          go_wp2
          go_roundw
          case rel =>
            refine ⟨k + 1, by omega, by go_num, ?_⟩
            rw [← upTo_set]
            exact HO.out.stored (upTo_length _ _ _ _).symm k _
          case measure => simp [intOf]; omega
    · obtain rfl : k = N := by omega
      go_wp2
      go_ret2
      refine ⟨w.heap.size, k, by rw [HN.out]; rfl, ?_⟩
      rw [upTo_full, ← HM.out] at hown
      rw [HN.out]
      exact hown
end Go.Proofs.Ytoeeceemoggffaa
