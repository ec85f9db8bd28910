/- What the reference of layer 2 comes to: step, At, Root. -/
import Derived.Test.YtoeeceemoggffaaR1
import Derived.Test.YtoeeceemoggffaaRf
namespace Go.Proofs.Ytoeeceemoggffaa
open Go.RowKit
set_option maxHeartbeats 400000

theorem Length_walk (n : Int) (w : World) :
    Calls Try.prog 53 #[.int .i64 n] w fun e w' => e = .returned (.bool (lenB n)) ∧ w = w' := by
  by_cases h1 : 1 ≤ n
  · by_cases h2 : n ≤ 4096
    · have h3 := lenB_mid (show 0 < n by omega) h2
      go_enter Try.func53, Try.ntmps53
      go_wp2
      go_ret
      exact ⟨rfl, rfl⟩
    · have h3 := lenB_out (n := n) (by omega)
      have h4 : decide (n ≤ 4096) = false := by simpa using h2
      rw [h3]
      clear h3
      go_enter Try.func53, Try.ntmps53
      go_wp2
      go_ret
      exact ⟨rfl, rfl⟩
  · have h3 := lenB_out (n := n) (by omega)
    have h4 : decide (1 ≤ n) = false := by simpa using h1
    rw [h3]
    clear h3
    go_enter Try.func53, Try.ntmps53
    go_wp2
    go_ret
    exact ⟨rfl, rfl⟩

theorem stepN_some : ∀ k, k ≤ 9 → ∃ s, stepN k = some s := by
  intro k hk
  obtain ⟨L, hL⟩ := E_some (k + 3) (by omega)
  cases k with
  | zero => obtain ⟨s, _, h, _⟩ := E_three hL; exact ⟨s, h⟩
  | succ k => obtain ⟨_, s, _, h, _⟩ := E_succ hL; exact ⟨s, h⟩

theorem rstep_walk (k : Nat) (s : Nat × Nat) (w : World) (hk : k ≤ 9) (hs : stepN k = some s) :
    Calls Try.prog 93 #[.int .i64 ((2 ^ (k + 3) : Nat) : Int)] w fun e w' => e = .returned (.tuple #[.float .f64 s.1, .float .f64 s.2]) ∧ w = w' := by
  obtain ⟨s0, h0⟩ := stepN_some 0 (by decide)
  obtain ⟨c0, d0⟩ := s0
  obtain ⟨r0, h1⟩ := stepN_zero h0
  obtain rfl : d0 = c0 := h1
  have b1 : 8 ≤ ((2 ^ (k + 3) : Nat) : Int) := by
    have : 2 ^ 3 ≤ 2 ^ (k + 3) := Nat.pow_le_pow_right (by decide) (by omega)
    omega
  have b2 : ((2 ^ (k + 3) : Nat) : Int) ≤ 4096 := by
    have : 2 ^ (k + 3) ≤ 2 ^ 12 := Nat.pow_le_pow_right (by decide) (by omega)
    omega
  have hpow : ∀ j, j ≤ k → ((2 ^ (j + 4) : Nat) : Int) ≤ 2 * ((2 ^ (k + 3) : Nat) : Int) := fun j hj => by
    have : 2 ^ (j + 4) ≤ 2 ^ (k + 4) := Nat.pow_le_pow_right (by decide) (by omega)
    have e : 2 ^ (k + 4) = 2 ^ (k + 3) * 2 := Nat.pow_succ 2 (k + 3)
    omega
  have hlt : ∀ j, j < k → ((2 ^ (j + 4) : Nat) : Int) ≤ ((2 ^ (k + 3) : Nat) : Int) := fun j hj => by
    have : 2 ^ (j + 4) ≤ 2 ^ (k + 3) := Nat.pow_le_pow_right (by decide) (by omega)
    omega
  have hgt : ((2 ^ (k + 3) : Nat) : Int) < ((2 ^ (k + 4) : Nat) : Int) := by
    have : 2 ^ (k + 3) < 2 ^ (k + 4) := Nat.pow_lt_pow_right (by decide) (by omega)
    omega
  generalize ((2 ^ (k + 3) : Nat) : Int) = N at *
  have HP := Lib.hid hpow
  have HL := Lib.hid hlt
  have HS := Lib.hid hs
  have H0 := Lib.hid h0
  have HG := Lib.hid hgt
  clear hpow hlt hs h0 hgt
  go_enter Try.func93, Try.ntmps93
  go_wp2_with fail
  refine (Sqrt_walk _ _ _ r0).mono ?_; rintro e w' ⟨rfl, rfl⟩
  go_wp2
  go_loop [4, 5, 6] (fun c d m => ∃ j : Nat, j ≤ k ∧ m = .int .i64 ((2 ^ (j + 4) : Nat) : Int) ∧ ∃ x y, stepN j = some (x, y) ∧ c = .float .f64 x ∧ d = .float .f64 y) (fun _ _ m => (2 * N - intOf m).toNat)
  case atStart => exact ⟨0, Nat.zero_le _, rfl, _, _, H0.out, rfl, rfl⟩
  case round =>
    obtain ⟨j, hj, rfl, x, y, hxy, rfl, rfl⟩ := hrel
    have hp1 := HP.out j hj
    have hp0 : 16 ≤ ((2 ^ (j + 4) : Nat) : Int) := by
      have : 2 ^ 4 ≤ 2 ^ (j + 4) := Nat.pow_le_pow_right (by decide) (by omega)
      omega
    have e1 : ((2 ^ (j + 1 + 4) : Nat) : Int) = ((2 ^ (j + 4) : Nat) : Int) * 2 := by rw [show j + 1 + 4 = (j + 4) + 1 from rfl, Nat.pow_succ]; omega
    by_cases hlt : j < k
    · obtain ⟨s', hs'⟩ := stepN_some (j + 1) (by omega)
      obtain ⟨c', d'⟩ := s'
      obtain ⟨p, a, b, z, h0, h1, h2, h3, h4, h5⟩ := stepN_succ hs'
      rw [hxy] at h0
      cases h0
      have hle := HL.out j hlt
      generalize ((2 ^ (j + 4) : Nat) : Int) = M at *
      have E1 := Lib.hid e1
      have HS' := Lib.hid hs'
      have r1 := fun t w => run_float_arith (P := Try.prog) w .add t .f64 _ _ _ h1
      have r2 := fun t w => run_float_arith (P := Try.prog) w .mul t .f64 _ _ _ h2
      have r4 := fun t w => run_float_arith (P := Try.prog) w .mul t .f64 _ _ _ h4
      have r5 := fun t w => run_float_arith (P := Try.prog) w .quo t .f64 _ _ _ h5
      clear e1 hs' hxy h1 h2 h4 h5
      go_wp2_with fail
      refine (Sqrt_walk _ _ _ h3).mono ?_; rintro e w' ⟨rfl, rfl⟩
      go_wp2
      go_round
      case rel => exact ⟨j + 1, by omega, by rw [E1.out], _, _, HS'.out, rfl, rfl⟩
      case measure => simp [intOf]; omega
    · obtain rfl : j = k := by omega
      have hgt : N < ((2 ^ (j + 4) : Nat) : Int) := HG.out
      have e : s = (x, y) := by have := HS.out; rw [hxy] at this; exact (Option.some.inj this).symm
      subst e
      generalize ((2 ^ (j + 4) : Nat) : Int) = M at *
      clear e1 hxy
      go_wp2
      go_ret2
      exact ⟨rfl, rfl⟩

theorem two_pow_lt4 {t : Nat} (h : ¬ 2 ≤ t) : t = 0 ∨ t = 1 := by omega

theorem At_walk (w : World) : ∀ (d t k : Nat), t ≤ 12 → k < 2 ^ t → 2 ^ t + k ≤ d →
    Calls Try.prog 54 #[.int .i64 ((2 ^ t : Nat) : Int), .int .i64 (k : Int)] w fun e w' => e = .returned (cv (R t k)) ∧ w = w' := by
  intro d
  induction d with
  | zero => intro t k _ _ h; have := Nat.two_pow_pos t; omega
  | succ d ih =>
    intro t k ht hk hd
    have IH := Lib.hid ih
    have hN := pow_le12 ht
    have hW := fun j => R_Wd ht j
    clear ih
    by_cases h2 : 2 ≤ t
    · have h4 := two_pow_ge h2
      have hp : 0 < 2 ^ (t - 2) := Nat.two_pow_pos _
      have g4 : 4 ≤ 2 ^ t := by omega
      by_cases hq : 2 ^ t / 4 ≤ k
      · -- a quarter further
        have c := IH.out t (k - 2 ^ t / 4) ht (by omega) (by omega)
        have hr := R_turn h2 hq
        rw [hr]
        have hw := hW (k - 2 ^ t / 4)
        generalize R t (k - 2 ^ t / 4) = a at *
        generalize 2 ^ t = N at *
        have ec : ((k - N / 4 : Nat) : Int) = (k : Int) - (N : Int) / 4 := by omega
        rw [ec] at c
        have C := Lib.hid c
        have t1 : (4 : Int) ≤ (N : Int) := by omega
        have t2 : (N : Int) / 4 ≤ (k : Int) := by omega
        have t3 : (k : Int) ≤ 4096 := by omega
        have t4 : (N : Int) ≤ 4096 := by omega
        clear hr c ec h4 hW
        go_enter Try.func54, Try.ntmps54
        go_wp2_with fail
        refine C.out.mono ?_; rintro e w' ⟨rfl, rfl⟩
        go_wp2_with fail
        refine (rTurn1_walk _ _ _ hw.2).mono ?_; rintro e w' ⟨rfl, rfl⟩
        go_wp2_with fail
        refine (rPlain_walk _ _ _).mono ?_; rintro e w' ⟨rfl, rfl⟩
        go_wp2
        go_ret
        exact ⟨rfl, rfl⟩
      · by_cases h0 : k = 0
        · subst h0
          rw [R_zero ht]
          generalize 2 ^ t = N at *
          have t1 : (4 : Int) ≤ (N : Int) := by omega
          have t2 : ¬ ((N : Int) / 4 ≤ 0) := by omega
          have t5 : decide ((N : Int) / 4 ≤ 0) = false := by simpa using t2
          have t3 : ((N : Int) == 2) = false := by simp; omega
          clear h4 hW
          go_enter Try.func54, Try.ntmps54
          go_wp2
          go_ret
          exact ⟨rfl, rfl⟩
        · have h3 : 3 ≤ t := by
            by_cases e : t = 2
            · subst e; omega
            · omega
          by_cases h8 : 2 ^ t / 8 < k
          · have c := IH.out t (2 ^ t / 4 - k) ht (by omega) (by omega)
            rw [R_swap h3 (by omega) h8]
            generalize R t (2 ^ t / 4 - k) = a at *
            generalize 2 ^ t = N at *
            have ec : ((N / 4 - k : Nat) : Int) = (N : Int) / 4 - (k : Int) := by omega
            rw [ec] at c
            have C := Lib.hid c
            have t1 : (4 : Int) ≤ (N : Int) := by omega
            have t2 : decide ((N : Int) / 4 ≤ (k : Int)) = false := by simp; omega
            have t3 : ((N : Int) == 2) = false := by simp; omega
            have t4 : ((k : Int) == 0) = false := by simp; omega
            have t5 : (N : Int) / 8 < (k : Int) := by omega
            have t6 : (N : Int) ≤ 4096 := by omega
            have t7 : (k : Int) < (N : Int) / 4 := by omega
            clear c ec h4 hW
            go_enter Try.func54, Try.ntmps54
            go_wp2_with fail
            refine C.out.mono ?_; rintro e w' ⟨rfl, rfl⟩
            go_wp2
            go_ret
            exact ⟨rfl, rfl⟩
          · by_cases hev : k % 2 = 0
            · obtain ⟨j, rfl⟩ : ∃ j, k = 2 * j := ⟨k / 2, by omega⟩
              have e2 : 2 ^ t = 2 * 2 ^ (t - 1) := by
                obtain ⟨u, rfl⟩ : ∃ u, t = u + 1 := ⟨t - 1, by omega⟩
                rw [Nat.pow_succ]; simp; omega
              have c := IH.out (t - 1) j (by omega) (by omega) (by omega)
              rw [R_even h3 ht (by omega)]
              generalize R (t - 1) j = a at *
              generalize 2 ^ (t - 1) = M at *
              generalize 2 ^ t = N at *
              subst e2
              have C := Lib.hid c
              rw [Int.natCast_mul, Int.natCast_mul]
              have t1 : decide ((4 : Int) ≤ 2 * (M : Int)) = true := by simp; omega
              have t2 : decide ((2 * (M : Int)) / 4 ≤ 2 * (j : Int)) = false := by simp; omega
              have t3 : (2 * (M : Int) == 2) = false := by simp; omega
              have t4 : (2 * (j : Int) == 0) = false := by simp; omega
              have t5 : decide ((2 * (M : Int)) / 8 < 2 * (j : Int)) = false := by simp; omega
              have t6 : (M : Int) ≤ 4096 := by omega
              have t7 : (j : Int) ≤ 4096 := by omega
              have t8 : ((2 * (j : Int)) % 2 == 0) = true := by simp
              have t9 : ((2 : Nat) : Int) = 2 := rfl
              rw [t9]
              clear c h4 hW t9
              go_enter Try.func54, Try.ntmps54
              go_wp2_with fail
              refine C.out.mono ?_; rintro e w' ⟨rfl, rfl⟩
              go_wp2
              go_ret
              exact ⟨rfl, rfl⟩
            · obtain ⟨j, rfl⟩ : ∃ j, k = 2 * j + 1 := ⟨k / 2, by omega⟩
              have c := IH.out t (2 * j) ht (by omega) (by omega)
              obtain ⟨s, m, hs, hm, hr⟩ := R_odd h3 ht (show 2 * j + 1 ≤ 2 ^ t / 8 by omega)
              have hst := rstep_walk (t - 3) s w (by omega) hs
              rw [show t - 3 + 3 = t by omega] at hst
              rw [hr]
              generalize R t (2 * j) = a at *
              generalize 2 ^ t = N at *
              have ec : ((2 * j : Nat) : Int) = (2 : Int) * (j : Int) := by omega
              have ec' : ((2 * j + 1 : Nat) : Int) = (2 : Int) * (j : Int) + 1 := by omega
              rw [ec] at c
              rw [ec']
              have C := Lib.hid c
              have HST := Lib.hid hst
              have t1 : (4 : Int) ≤ (N : Int) := by omega
              have t2 : decide ((N : Int) / 4 ≤ 2 * (j : Int) + 1) = false := by simp; omega
              have t3 : ((N : Int) == 2) = false := by simp; omega
              have t4 : (2 * (j : Int) + 1 == 0) = false := by simp; omega
              have t5 : decide ((N : Int) / 8 < 2 * (j : Int) + 1) = false := by simp; omega
              have t6 : (N : Int) ≤ 4096 := by omega
              have t7 : (j : Int) ≤ 4096 := by omega
              have t8 : ((2 * (j : Int) + 1) % 2 == 0) = false := by rw [beq_eq_false_iff_ne]; omega
              clear c ec ec' hst h4 hW hr hs
              go_enter Try.func54, Try.ntmps54
              go_wp2_with fail
              refine HST.out.mono ?_; rintro e w' ⟨rfl, rfl⟩
              go_wp2_with fail
              refine C.out.mono ?_; rintro e w' ⟨rfl, rfl⟩
              go_wp2_with fail
              refine (rMul_walk _ _ _ _ _ _ hm).mono ?_; rintro e w' ⟨rfl, rfl⟩
              go_wp2_with fail
              refine (rPlain_walk _ _ _).mono ?_; rintro e w' ⟨rfl, rfl⟩
              go_wp2
              go_ret
              exact ⟨rfl, rfl⟩
    · have h01 := two_pow_lt4 h2
      rcases h01 with rfl | rfl
      · obtain rfl : k = 0 := by omega
        rw [R_zero ht]
        clear hW
        go_enter Try.func54, Try.ntmps54
        go_wp2
        go_ret
        exact ⟨rfl, rfl⟩
      · have hk' : k = 0 ∨ k = 1 := by omega
        rcases hk' with rfl | rfl
        · rw [R_zero ht]
          clear hW
          go_enter Try.func54, Try.ntmps54
          go_wp2
          go_ret
          exact ⟨rfl, rfl⟩
        · rw [R_one_one]
          clear hW
          go_enter Try.func54, Try.ntmps54
          go_wp2
          go_ret
          exact ⟨rfl, rfl⟩
end Go.Proofs.Ytoeeceemoggffaa
