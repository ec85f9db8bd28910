/- The law RootNear, walked. -/
import Derived.Test.YtoeeceemoggffaaZf
import Derived.Test.YtoeeceemoggffaaLr2
namespace Go.Proofs.Ytoeeceemoggffaa
open Go.RowKit
set_option maxHeartbeats 400000

theorem low63 (x : Nat) : x &&& (18446744073709551615 ^^^ 9223372036854775808) = absf x := by
  have : 18446744073709551615 ^^^ 9223372036854775808 = 2 ^ 63 - 1 := by decide
  rw [this, Nat.and_two_pow_sub_one_eq_mod]; rfl

theorem Abs_walk (x : Nat) (w : World) (hx : x < 18446744073709551616) :
    Calls Try.prog 25 #[.float .f64 x] w fun e w' => e = .returned (.float .f64 (absf x)) ∧ w = w' := by
  have e1 := bits_andNot_nat hx (show 9223372036854775808 < 18446744073709551616 by decide)
  rw [low63] at e1
  have e2 : bits .andNot .u64 (x : Int) 9223372036854775808 = ((absf x : Nat) : Int) := e1
  clear e1
  have r1 := f64bits_run
  have r2 := f64from_run
  go_enter Try.func25, Try.ntmps25
  go_wp2
  go_ret
  exact ⟨rfl, rfl⟩

def GivesLe (b : Nat) (w : World) (e : Ending) (w' : World) : Prop := w = w' ∧ ∃ r, e = .returned (.float .f64 r) ∧ leB r b = true

theorem rSize_walk (p q b : Nat) (w : World) (hp : p < 18446744073709551616) (hq : q < 18446744073709551616) (fp : Fin p) (fq : Fin q) (h1 : leB (absf p) b = true) (h2 : leB (absf q) b = true) :
    Calls Try.prog 58 #[.complex .f64 p q] w fun e w' => GivesLe b w e w' := by
  have s1 : (FloatKind.f64.format.order (absf p) (absf p) != some Ordering.eq) = false := by rw [eq_self (Fin_absf fp)]; rfl
  have s2 : (FloatKind.f64.format.order (absf q) (absf q) != some Ordering.eq) = false := by rw [eq_self (Fin_absf fq)]; rfl
  have H1 := Lib.hid h1
  have H2 := Lib.hid h2
  clear h1 h2 fp fq
  have a1 := fun w => Abs_walk p w hp
  have a2 := fun w => Abs_walk q w hq
  have A1 := Lib.hid a1
  have A2 := Lib.hid a2
  clear a1 a2
  generalize absf p = x at *
  generalize absf q = y at *
  cases hc : (FloatKind.f64.format.order x y == some Ordering.lt)
  · go_enter Try.func58, Try.ntmps58
    go_wp2_with fail
    refine (A1.out _).mono ?_; rintro e w' ⟨rfl, rfl⟩
    go_wp2_with fail
    refine (A2.out _).mono ?_; rintro e w' ⟨rfl, rfl⟩
    go_wp2
    go_ret
    exact ⟨rfl, x, rfl, H1.out⟩
  · go_enter Try.func58, Try.ntmps58
    go_wp2_with fail
    refine (A1.out _).mono ?_; rintro e w' ⟨rfl, rfl⟩
    go_wp2_with fail
    refine (A2.out _).mono ?_; rintro e w' ⟨rfl, rfl⟩
    go_wp2
    go_ret
    exact ⟨rfl, y, rfl, H2.out⟩

theorem rFar_walk (p q u v d1 d2 b : Nat) (w : World) (h1 : fsub p u = some d1) (h2 : fsub q v = some d2) (f1 : Fin d1) (f2 : Fin d2) (l1 : leB (absf d1) b = true) (l2 : leB (absf d2) b = true) :
    Calls Try.prog 23 #[.complex .f64 p q, .complex .f64 u v] w fun e w' => GivesLe b w e w' := by
  have c1 := fun w => rSub_walk p q u v d1 d2 w h1 h2
  have c2 := fun w => rSize_walk d1 d2 b w (by unfold fsub at h1; exact fbits_lt h1) (by unfold fsub at h2; exact fbits_lt h2) f1 f2 l1 l2
  have C1 := Lib.hid c1
  have C2 := Lib.hid c2
  clear c1 c2 h1 h2 f1 f2 l1 l2
  go_enter Try.func23, Try.ntmps23
  go_wp2_with fail
  refine (C1.out _).mono ?_; rintro e w' ⟨rfl, rfl⟩
  go_wp2_with fail
  refine (C2.out _).mono ?_; rintro e w' ⟨rfl, r, rfl, hr⟩
  go_wp2
  go_ret
  exact ⟨rfl, r, rfl, hr⟩

/-- what the law asks of one order and two places -/
theorem near_facts (t : Nat) (K L : Int) (ht : t ≤ 12) (_hK : 0 ≤ K) (_hL : 0 ≤ L) : ∃ a b c m s1 s2 s d, ∃ d1 d2,
    (∀ w, Calls Try.prog 16 #[.int .i64 ((2 ^ t : Nat) : Int), .int .i64 K] w fun e w' => GivesRoot a 0 w e w') ∧
    (∀ w, Calls Try.prog 16 #[.int .i64 ((2 ^ t : Nat) : Int), .int .i64 L] w fun e w' => GivesRoot b 0 w e w') ∧
    (∀ w, Calls Try.prog 16 #[.int .i64 ((2 ^ t : Nat) : Int), .int .i64 (K + L)] w fun e w' => GivesRoot c 0 w e w') ∧
    cmul a b = some m ∧ fsub m.1 c.1 = some d1 ∧ fsub m.2 c.2 = some d2 ∧ Fin d1 ∧ Fin d2 ∧ leB (absf d1) 4409024035195715584 = true ∧ leB (absf d2) 4409024035195715584 = true ∧
    fmul a.1 a.1 = some s1 ∧ fmul a.2 a.2 = some s2 ∧ fadd s1 s2 = some s ∧ fsub s wOne = some d ∧ d < 18446744073709551616 ∧ leB (absf d) 4400016835940974592 = true := by
  have hp := Nat.two_pow_pos t
  have place : ∀ M : Int, ∃ j : Nat, j < 2 ^ t ∧ M % ((2 ^ t : Nat) : Int) = (j : Int) := fun M => by
    obtain ⟨j, hj⟩ : ∃ j : Nat, M % ((2 ^ t : Nat) : Int) = (j : Int) := Int.eq_ofNat_of_zero_le (Int.emod_nonneg _ (by omega))
    refine ⟨j, ?_, hj⟩
    have : M % ((2 ^ t : Nat) : Int) < ((2 ^ t : Nat) : Int) := Int.emod_lt_of_pos _ (by omega)
    omega
  obtain ⟨i, hi, ei⟩ := place K
  obtain ⟨j, hj, ej⟩ := place L
  have es : ((K + L) % ((2 ^ t : Nat) : Int)).toNat = (i + j) % 2 ^ t := by
    rw [Int.add_emod, ei, ej, ← Int.natCast_add, ← Int.natCast_emod, Int.toNat_natCast]
  obtain ⟨m, d1, d2, h1, h2, h3, h4, h5, h6, h7⟩ := near_mul t i j ht hi hj
  obtain ⟨s1, s2, s, d, k1, k2, k3, k4, k5, k6⟩ := near_unit t i ht hi
  refine ⟨R t i, R t j, R t ((i + j) % 2 ^ t), m, s1, s2, s, d, d1, d2, fun w => ?_, fun w => ?_, fun w => ?_, h1, h2, h3, h4, h5, h6, h7, k1, k2, k3, k4, k5, k6⟩
  · have := Root_yes t K w ht
    rw [ei, Int.toNat_natCast] at this
    exact this
  · have := Root_yes t L w ht
    rw [ej, Int.toNat_natCast] at this
    exact this
  · have := Root_yes t (K + L) w ht
    rw [es] at this
    exact this

theorem RootNear_walk (n j k : Int) (_w0 : (Lit.int .i64 n).wf = true) (_w1 : (Lit.int .i64 j).wf = true) (_w2 : (Lit.int .i64 k).wf = true) (w : World) :
    Calls Try.prog 5 #[.int .i64 n, .int .i64 j, .int .i64 k] w fun e w' => e = .returned (.bool true) ∧ Below w.heap.size w w' := by
  have hm1 := and_mask (k := j) (t := 40) (by decide)
  have hm2 := and_mask (k := k) (t := 40) (by decide)
  rw [show ((2 ^ 40 : Nat) : Int) - 1 = 1099511627775 from rfl, show ((2 ^ 40 : Nat) : Int) = 1099511627776 from rfl] at hm1 hm2
  have h0 : 0 ≤ j % 1099511627776 := Int.emod_nonneg _ (by decide)
  have h1 : j % 1099511627776 < 1099511627776 := Int.emod_lt_of_pos _ (by decide)
  have h2 : 0 ≤ k % 1099511627776 := Int.emod_nonneg _ (by decide)
  have h3 : k % 1099511627776 < 1099511627776 := Int.emod_lt_of_pos _ (by decide)
  generalize j % 1099511627776 = K at *
  generalize k % 1099511627776 = L at *
  clear _w0 _w1 _w2
  go_enter Try.func5, Try.ntmps5
  go_wp2_with fail
  refine (alive02 _).mono ?_; rintro e w1 ⟨rfl, hb1⟩
  go_wp2_with fail
  refine (length_walk _ _).mono ?_; rintro e w1' ⟨rfl, t, ht, rfl⟩
  obtain ⟨a, b, c, m, s1, s2, s, d, d1, d2, c1, c2, c3, g1, g2, g3, g4, g5, g6, g7, k1, k2, k3, k4, k5, k6⟩ := near_facts t K L ht h0 h2
  have b1 : 1 ≤ ((2 ^ t : Nat) : Int) := by have := Nat.two_pow_pos t; omega
  have b2 : ((2 ^ t : Nat) : Int) ≤ 4096 := by have := pow_le12 ht; omega
  generalize ((2 ^ t : Nat) : Int) = N at *
  obtain ⟨x, y⟩ := a
  obtain ⟨u, v⟩ := b
  obtain ⟨p, q⟩ := c
  have C1 := Lib.hid c1
  have C2 := Lib.hid c2
  have C3 := Lib.hid c3
  have HB1 := Lib.hid hb1
  have M1 := Lib.hid (fun w => rMul_walk x y u v m w g1)
  have F1 := Lib.hid (fun w => rFar_walk m.1 m.2 p q d1 d2 _ w g2 g3 g4 g5 g6 g7)
  have A1 := Lib.hid (fun w => Abs_walk d w k5)
  have q1 := fun t w => run_float_arith (P := Try.prog) w .mul t .f64 _ _ _ k1
  have q2 := fun t w => run_float_arith (P := Try.prog) w .mul t .f64 _ _ _ k2
  have q3 := fun t w => run_float_arith (P := Try.prog) w .add t .f64 _ _ _ k3
  have q4 := fun t w => run_float_arith (P := Try.prog) w .sub t .f64 _ _ _ k4
  have K6 := Lib.hid k6
  clear c1 c2 c3 hb1 g1 g2 g3 g4 g5 g6 g7 k1 k2 k3 k4 k5 k6
  go_wp2_with fail
  refine (C1.out _).mono ?_; rintro e w2 ⟨rfl, hb2⟩
  have HB2 := Lib.hid (HB1.out.trans (hb2.mono HB1.out.size))
  clear hb2 HB1
  go_wp2_with fail
  refine (C2.out _).mono ?_; rintro e w3 ⟨rfl, hb3⟩
  have HB3 := Lib.hid (HB2.out.trans (hb3.mono HB2.out.size))
  clear hb3 HB2
  go_wp2_with fail
  refine (C3.out _).mono ?_; rintro e w4 ⟨rfl, hb4⟩
  have HB4 := Lib.hid (HB3.out.trans (hb4.mono HB3.out.size))
  clear hb4 HB3
  go_wp2_with fail
  refine (M1.out _).mono ?_; rintro e w' ⟨rfl, rfl⟩
  go_wp2_with fail
  refine (F1.out _).mono ?_; rintro e w' ⟨rfl, r, rfl, hr⟩
  have hr' : (FloatKind.f64.format.order r 4409024035195715584 == some Ordering.lt || FloatKind.f64.format.order r 4409024035195715584 == some Ordering.eq) = true := hr
  have k6' : (FloatKind.f64.format.order (absf d) 4400016835940974592 == some Ordering.lt || FloatKind.f64.format.order (absf d) 4400016835940974592 == some Ordering.eq) = true := K6.out
  clear hr
  go_wp2_with fail
  refine (A1.out _).mono ?_; rintro e w' ⟨rfl, rfl⟩
  go_wp2
  go_ret
  exact ⟨rfl, HB4.out⟩
end Go.Proofs.Ytoeeceemoggffaa
