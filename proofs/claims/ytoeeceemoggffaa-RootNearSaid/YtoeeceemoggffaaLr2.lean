/- The law RootTurns, walked. -/
import Derived.Test.YtoeeceemoggffaaAl02
import Derived.Test.YtoeeceemoggffaaRq
namespace Go.Proofs.Ytoeeceemoggffaa
open Go.RowKit
set_option maxHeartbeats 400000

def GivesLen (w : World) (e : Ending) (w' : World) : Prop := w = w' ∧ ∃ t : Nat, t ≤ 12 ∧ e = .returned (.int .i64 ((2 ^ t : Nat) : Int))

theorem length_walk (n : Int) (w : World) :
    Calls Try.prog 19 #[.int .i64 n, .int .i64 4096] w fun e w' => GivesLen w e w' := by
  have hm := and_mask (k := n) (t := 4) (by decide)
  rw [show ((2 ^ 4 : Nat) : Int) - 1 = 15 from rfl, show ((2 ^ 4 : Nat) : Int) = 16 from rfl] at hm
  have h0 : 0 ≤ n % 16 := Int.emod_nonneg _ (by decide)
  have h1 : n % 16 < 16 := Int.emod_lt_of_pos _ (by decide)
  generalize n % 16 = q at *
  go_enter Try.func19, Try.ntmps19
  go_wp2
  go_loop [5, 6] (fun m i => ∃ t : Nat, t ≤ 12 ∧ m = .int .i64 ((2 ^ t : Nat) : Int) ∧ i = .int .i64 t) (fun _ i => 12 - (intOf i).toNat)
  case atStart => exact ⟨0, Nat.zero_le _, rfl, rfl⟩
  case round =>
    obtain ⟨t, ht, rfl, rfl⟩ := hrel
    have e1 : ((2 ^ (t + 1) : Nat) : Int) = ((2 ^ t : Nat) : Int) * 2 := by rw [Nat.pow_succ]; omega
    have b1 : 1 ≤ ((2 ^ t : Nat) : Int) := by have := Nat.two_pow_pos t; omega
    have b2 : ((2 ^ t : Nat) : Int) ≤ 4096 := by have := pow_le12 ht; omega
    have b3 : t < 12 → ((2 ^ t : Nat) : Int) < 4096 := fun h => by
      have : 2 ^ t < 2 ^ 12 := Nat.pow_lt_pow_right (by decide) h
      omega
    have b4 : t = 12 → ((2 ^ t : Nat) : Int) = 4096 := fun h => by subst h; rfl
    generalize hM : ((2 ^ t : Nat) : Int) = M at *
    have B3 := Lib.hid b3
    have B4 := Lib.hid b4
    have E1 := Lib.hid e1
    have HM := Lib.hid hM
    clear b3 b4 e1 hM
    by_cases hlt : (t : Int) < q
    · by_cases h12 : t < 12
      · have hM2 : M < 4096 := B3.out h12
        go_wp2
        go_round
        case rel => exact ⟨t + 1, by omega, by rw [E1.out], by go_num⟩
        case measure => simp [intOf]; omega
      · have hM2 : ¬ M < 4096 := by have := B4.out (by omega); omega
        go_wp2
        go_ret
        exact ⟨rfl, t, ht, by rw [HM.out]; rfl⟩
    · have hd : decide ((t : Int) < q) = false := by simpa using hlt
      go_wp2
      go_ret
      exact ⟨rfl, t, ht, by rw [HM.out]; rfl⟩

/-- what the law asks of one order and one place -/
theorem turns_facts (t : Nat) (K : Int) (ht : t ≤ 12) (_hK : 0 ≤ K) : ∃ a, Wd a ∧ plain2 a = a ∧
    (∀ w, Calls Try.prog 16 #[.int .i64 ((2 ^ t : Nat) : Int), .int .i64 K] w fun e w' => GivesRoot a 0 w e w') ∧
    (∀ w, Calls Try.prog 16 #[.int .i64 ((2 ^ t : Nat) : Int), .int .i64 (-K)] w fun e w' => GivesRoot (plain2 (conj1 a)) 0 w e w') ∧
    ((4 : Int) ≤ ((2 ^ t : Nat) : Int) → ∀ w, Calls Try.prog 16 #[.int .i64 ((2 ^ t : Nat) : Int), .int .i64 (K + ((2 ^ t : Nat) : Int) / 4)] w fun e w' => GivesRoot (plain2 (turn1 a)) 0 w e w') ∧
    (((2 ^ t : Nat) : Int) ≠ 4096 → ∀ w, Calls Try.prog 16 #[.int .i64 (2 * ((2 ^ t : Nat) : Int)), .int .i64 (2 * K)] w fun e w' => GivesRoot a 0 w e w') := by
  have hp := Nat.two_pow_pos t
  obtain ⟨j, hj⟩ : ∃ j : Nat, K % ((2 ^ t : Nat) : Int) = (j : Int) := Int.eq_ofNat_of_zero_le (Int.emod_nonneg _ (by omega))
  have hlt : j < 2 ^ t := by
    have : K % ((2 ^ t : Nat) : Int) < ((2 ^ t : Nat) : Int) := Int.emod_lt_of_pos _ (by omega)
    omega
  have hdm : ((2 ^ t : Nat) : Int) * (K / ((2 ^ t : Nat) : Int)) + (j : Int) = K := by rw [← hj]; exact Int.mul_ediv_add_emod _ _
  refine ⟨R t j, R_Wd ht j, R_Pl ht hlt, fun w => ?_, fun w => ?_, fun h4 w => ?_, fun hne w => ?_⟩
  · have := Root_yes t K w ht
    rw [hj, Int.toNat_natCast] at this
    exact this
  · have := Root_yes t (-K) w ht
    have e : (-K % ((2 ^ t : Nat) : Int)).toNat = (2 ^ t - j) % 2 ^ t := by
      have e1 : -K = ((2 ^ t : Nat) : Int) * (-(K / ((2 ^ t : Nat) : Int) + 1)) + ((2 ^ t - j : Nat) : Int) := by
        rw [Int.mul_neg, Int.mul_add, Int.mul_one]; omega
      rw [e1, Int.mul_add_emod_self_left]
      have : (((2 ^ t - j : Nat) : Int)) % ((2 ^ t : Nat) : Int) = (((2 ^ t - j) % 2 ^ t : Nat) : Int) := (Int.natCast_emod _ _).symm
      rw [this, Int.toNat_natCast]
    rw [e, R_conj ht hlt] at this
    exact this
  · have h2 : 2 ≤ t := by
      by_cases h2 : 2 ≤ t
      · exact h2
      · rcases lt2 h2 with rfl | rfl <;> simp at h4
    have := Root_yes t (K + ((2 ^ t : Nat) : Int) / 4) w ht
    have e : ((K + ((2 ^ t : Nat) : Int) / 4) % ((2 ^ t : Nat) : Int)).toNat = (j + 2 ^ t / 4) % 2 ^ t := by
      have e1 : K + ((2 ^ t : Nat) : Int) / 4 = ((2 ^ t : Nat) : Int) * (K / ((2 ^ t : Nat) : Int)) + ((j + 2 ^ t / 4 : Nat) : Int) := by omega
      rw [e1, Int.mul_add_emod_self_left]
      have : (((j + 2 ^ t / 4 : Nat) : Int)) % ((2 ^ t : Nat) : Int) = (((j + 2 ^ t / 4) % 2 ^ t : Nat) : Int) := (Int.natCast_emod _ _).symm
      rw [this, Int.toNat_natCast]
    rw [e, R_further h2 ht hlt] at this
    exact this
  · have h12 : t + 1 ≤ 12 := by
      by_cases h : t = 12
      · subst h; exact absurd rfl hne
      · omega
    have := Root_yes (t + 1) (2 * K) w h12
    have e1 : ((2 ^ (t + 1) : Nat) : Int) = 2 * ((2 ^ t : Nat) : Int) := by rw [Nat.pow_succ]; omega
    have e : (2 * K % ((2 ^ (t + 1) : Nat) : Int)).toNat = 2 * j := by
      rw [e1, Int.mul_emod_mul_of_pos _ _ (by decide), hj]; omega
    rw [e, R_double h12 hlt, e1] at this
    exact this

theorem RootTurns_walk (n k : Int) (_w0 : (Lit.int .i64 n).wf = true) (_w1 : (Lit.int .i64 k).wf = true) (w : World) :
    Calls Try.prog 4 #[.int .i64 n, .int .i64 k] w fun e w' => e = .returned (.bool true) ∧ Below w.heap.size w w' := by
  have hm := and_mask (k := k) (t := 40) (by decide)
  rw [show ((2 ^ 40 : Nat) : Int) - 1 = 1099511627775 from rfl, show ((2 ^ 40 : Nat) : Int) = 1099511627776 from rfl] at hm
  have h0 : 0 ≤ k % 1099511627776 := Int.emod_nonneg _ (by decide)
  have h1 : k % 1099511627776 < 1099511627776 := Int.emod_lt_of_pos _ (by decide)
  generalize k % 1099511627776 = K at *
  clear _w0 _w1
  go_enter Try.func4, Try.ntmps4
  go_wp2_with fail
  refine (alive02 _).mono ?_; rintro e w1 ⟨rfl, hb1⟩
  go_wp2_with fail
  refine (length_walk _ _).mono ?_; rintro e w1' ⟨rfl, t, ht, rfl⟩
  obtain ⟨a, hw, hp, c1, c2, c3, c4⟩ := turns_facts t K ht h0
  have b1 : 1 ≤ ((2 ^ t : Nat) : Int) := by have := Nat.two_pow_pos t; omega
  have b2 : ((2 ^ t : Nat) : Int) ≤ 4096 := by have := pow_le12 ht; omega
  generalize ((2 ^ t : Nat) : Int) = N at *
  have HP := Lib.hid hp
  have C1 := Lib.hid c1
  have C2 := Lib.hid c2
  have C3 := Lib.hid c3
  have C4 := Lib.hid c4
  have HB1 := Lib.hid hb1
  clear c1 c2 c3 c4 hp hb1
  have hsame := rSame_refl a
  have HS := Lib.hid hsame
  clear hsame
  obtain ⟨x, y⟩ := a
  go_wp2_with fail
  refine (C1.out _).mono ?_; rintro e w2 ⟨rfl, hb2⟩
  have HB2 := Lib.hid (HB1.out.trans (hb2.mono HB1.out.size))
  clear hb2 HB1
  go_wp2_with fail
  refine (C2.out _).mono ?_; rintro e w3 ⟨rfl, hb3⟩
  have HB3 := Lib.hid (HB2.out.trans (hb3.mono HB2.out.size))
  clear hb3 HB2
  go_wp2_with fail
  refine (rConj_walk _ _ _ hw.2).mono ?_; rintro e w' ⟨rfl, rfl⟩
  go_wp2_with fail
  refine (rPlain_walk _ _ _).mono ?_; rintro e w' ⟨rfl, rfl⟩
  go_wp2_with fail
  refine (rSame_refl (plain2 (conj1 (x, y))) _).mono ?_; rintro e w' ⟨rfl, rfl⟩
  go_wp2_with fail
  refine (rPlain_walk _ _ _).mono ?_; rintro e w' ⟨rfl, rfl⟩
  rw [HP.out]
  go_wp2_with fail
  refine (HS.out _).mono ?_; rintro e w' ⟨rfl, rfl⟩
  by_cases h4 : 4 ≤ N
  · have C3' := Lib.hid (C3.out h4)
    go_wp2_with fail
    refine (C3'.out _).mono ?_; rintro e w4 ⟨rfl, hb4⟩
    have HB4 := Lib.hid (HB3.out.trans (hb4.mono HB3.out.size))
    clear hb4 HB3
    go_wp2_with fail
    refine (rTurn1_walk _ _ _ hw.2).mono ?_; rintro e w' ⟨rfl, rfl⟩
    go_wp2_with fail
    refine (rPlain_walk _ _ _).mono ?_; rintro e w' ⟨rfl, rfl⟩
    go_wp2_with fail
    refine (rSame_refl (plain2 (turn1 (x, y))) _).mono ?_; rintro e w' ⟨rfl, rfl⟩
    by_cases hN : N = 4096
    · subst hN
      go_wp2
      go_ret
      exact ⟨rfl, HB4.out⟩
    · have hq : (N == 4096) = false := by simpa using hN
      have C4' := Lib.hid (C4.out hN)
      go_wp2_with fail
      refine (C4'.out _).mono ?_; rintro e w5 ⟨rfl, hb5⟩
      have HB5 := Lib.hid (HB4.out.trans (hb5.mono HB4.out.size))
      clear hb5 HB4
      go_wp2_with fail
      refine (HS.out _).mono ?_; rintro e w' ⟨rfl, rfl⟩
      go_wp2
      go_ret
      exact ⟨rfl, HB5.out⟩
  · have hN : N ≠ 4096 := by omega
    have hq : (N == 4096) = false := by simpa using hN
    have C4' := Lib.hid (C4.out hN)
    go_wp2_with fail
    refine (C4'.out _).mono ?_; rintro e w5 ⟨rfl, hb5⟩
    have HB5 := Lib.hid (HB3.out.trans (hb5.mono HB3.out.size))
    clear hb5 HB3
    go_wp2_with fail
    refine (HS.out _).mono ?_; rintro e w' ⟨rfl, rfl⟩
    go_wp2
    go_ret
    exact ⟨rfl, HB5.out⟩
end Go.Proofs.Ytoeeceemoggffaa
