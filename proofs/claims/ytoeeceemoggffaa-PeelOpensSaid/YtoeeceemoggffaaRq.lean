/- How the roots of one turn, mirror and nest: laws on the words alone. -/
import Derived.Test.YtoeeceemoggffaaRf
namespace Go.Proofs.Ytoeeceemoggffaa

theorem feq_zero {x : Nat} (_hx : x < 18446744073709551616) : feq x 0 = decide (x % 9223372036854775808 = 0) := by
  have e0 : Ieee.double.read 0 = .number false 0 (-1074) := by decide +kernel
  show ((Ieee.double.read x).order (Ieee.double.read 0) == some .eq) = _
  rw [e0]
  have hsw : Ieee.double.signWeight = 9223372036854775808 := by decide
  have hbin : Ieee.double.binade = 4503599627370496 := by decide
  have hlp : Ieee.double.leastPlace = -1074 := by decide
  unfold Ieee.Format.read
  simp only [hsw, hbin, hlp]
  generalize x % 9223372036854775808 = r
  split
  · rename_i h
    simp only [Ieee.Datum.order]
    by_cases hr : r = 0
    · subst hr; cases (x / 9223372036854775808 % 2 == 1) <;> decide
    · have : compare (Ieee.signed (x / 9223372036854775808 % 2 == 1) r 0) 0 ≠ .eq := by
        rw [ne_eq, Int.compare_eq_eq]
        unfold Ieee.signed
        split <;> simp <;> omega
      have e : (min (-1074 : Int) (-1074)) = -1074 := by decide
      simp only [e, Int.sub_self, Int.toNat_zero]
      have e2 : Ieee.signed false 0 0 = 0 := by decide
      rw [e2]
      simp [hr, this]
  · split
    · rename_i h1 h2
      simp only [Ieee.Datum.order]
      have hr : r ≠ 0 := by omega
      have hle : ∀ z : Nat, min ((-1074 : Int) + (z : Nat)) (-1074) = -1074 := fun z => by omega
      simp only [hle]
      have : compare (Ieee.signed (x / 9223372036854775808 % 2 == 1) (4503599627370496 + r % 4503599627370496) (-1074 + ((r / 4503599627370496 - 1 : Nat) : Int) - -1074).toNat) (Ieee.signed false 0 ((-1074 : Int) - -1074).toNat) ≠ .eq := by
        rw [ne_eq, Int.compare_eq_eq]
        have e2 : Ieee.signed false 0 ((-1074 : Int) - -1074).toNat = 0 := by decide
        rw [e2]
        have hp : 0 < (4503599627370496 + r % 4503599627370496) <<< (-1074 + ((r / 4503599627370496 - 1 : Nat) : Int) - -1074).toNat := by
          rw [Nat.shiftLeft_eq]
          exact Nat.mul_pos (by omega) (Nat.two_pow_pos _)
        unfold Ieee.signed
        split <;> omega
      rw [show decide (r = 0) = false by simpa using hr, beq_eq_false_iff_ne]
      intro hh
      exact this (Option.some.inj hh)
    · have hr : r ≠ 0 := by omega
      split <;> simp [Ieee.Datum.order, hr]
      split <;> decide

theorem fneg_mod (x : Nat) : fneg x % 9223372036854775808 = x % 9223372036854775808 := by
  have h : fneg x % 2 ^ 63 = x % 2 ^ 63 := by
    apply Nat.eq_of_testBit_eq
    intro i
    rw [Nat.testBit_mod_two_pow, Nat.testBit_mod_two_pow]
    unfold fneg
    rw [Nat.testBit_xor]
    have : (9223372036854775808 : Nat) = 2 ^ 63 := by decide
    rw [this, Nat.testBit_two_pow]
    by_cases hi : i < 63
    · have : ¬ 63 = i := by omega
      simp [this]
    · simp [hi]
  exact h

theorem fneg_fneg (x : Nat) : fneg (fneg x) = x := by
  unfold fneg
  rw [Nat.xor_assoc, Nat.xor_self, Nat.xor_zero]

theorem feq_fneg {x : Nat} (hx : x < 18446744073709551616) : feq (fneg x) 0 = feq x 0 := by
  rw [feq_zero hx, feq_zero (fneg_lt hx), fneg_mod x]

theorem plain1_plain1 (x : Nat) : plain1 (plain1 x) = plain1 x := by
  by_cases h : feq x 0 = true
  · have : plain1 x = 0 := by unfold plain1; rw [if_pos h]
    rw [this]; decide +kernel
  · have : plain1 x = x := by unfold plain1; rw [if_neg h]
    rw [this, this]

/-- a nought has no sign -/
def Pl (a : Nat × Nat) : Prop := plain2 a = a
theorem Pl.fst {a : Nat × Nat} (h : Pl a) : plain1 a.1 = a.1 := congrArg Prod.fst h
theorem Pl.snd {a : Nat × Nat} (h : Pl a) : plain1 a.2 = a.2 := congrArg Prod.snd h
theorem Pl_mk {x y : Nat} (hx : plain1 x = x) (hy : plain1 y = y) : Pl (x, y) := by
  unfold Pl plain2; rw [hx, hy]
theorem Pl_plain (a : Nat × Nat) : Pl (plain2 a) := by unfold Pl plain2; simp only [plain1_plain1]

/-- the sign turned twice, noughts made plain each time -/
theorem back {x : Nat} (hx : x < 18446744073709551616) (hp : plain1 x = x) : plain1 (fneg (plain1 (fneg x))) = x := by
  by_cases h : feq x 0 = true
  · have e0 : x = 0 := by rw [← hp]; unfold plain1; rw [if_pos h]
    subst e0; decide +kernel
  · have h' : ¬ feq (fneg x) 0 = true := by rw [feq_fneg hx]; exact h
    have e : plain1 (fneg x) = fneg x := by unfold plain1; rw [if_neg h']
    rw [e, fneg_fneg, hp]

/-- the turn, made plain -/
def tn (a : Nat × Nat) : Nat × Nat := plain2 (turn1 a)
def conj1 (a : Nat × Nat) : Nat × Nat := (a.1, fneg a.2)
def swap1 (a : Nat × Nat) : Nat × Nat := (a.2, a.1)

theorem tn4 {a : Nat × Nat} (hw : Wd a) (hp : Pl a) : tn (tn (tn (tn a))) = a := by
  obtain ⟨x, y⟩ := a
  have e1 := back hw.1 hp.fst
  have e2 := back hw.2 hp.snd
  have p1 := hp.fst
  have p2 := hp.snd
  simp only [tn, turn1, plain2] at *
  simp only [plain1_plain1, p1, p2, e1, e2]

theorem conj_turns {a : Nat × Nat} (hw : Wd a) (hp : Pl a) :
    tn (tn (tn (swap1 a))) = plain2 (conj1 a) ∧ tn (tn (swap1 a)) = plain2 (conj1 (tn a)) ∧ tn (swap1 a) = plain2 (conj1 (tn (tn a))) ∧ swap1 a = plain2 (conj1 (tn (tn (tn a)))) := by
  obtain ⟨x, y⟩ := a
  have e1 := back hw.1 hp.fst
  have e2 := back hw.2 hp.snd
  have p1 := hp.fst
  have p2 := hp.snd
  simp only [tn, turn1, plain2, swap1, conj1] at *
  simp only [plain1_plain1, p1, p2, e1, e2, and_self]

theorem one_Pl : Pl (wOne, 0) := by unfold Pl; decide +kernel

theorem inter_Pl (s : Nat × Nat) : ∀ (l L : List (Nat × Nat)), inter s l = some L → (∀ a ∈ l, Pl a) → ∀ a ∈ L, Pl a
  | [], L, h, _ => by cases h; intro a ha; simp at ha
  | [b], L, h, hw => by cases h; exact hw
  | b :: c :: l, L, h, hw => by
    unfold inter at h
    obtain ⟨m, h1, h⟩ := bind_some h
    obtain ⟨r, h2, h⟩ := bind_some h
    cases h
    intro a ha
    rcases List.mem_cons.1 ha with rfl | ha
    · exact hw _ List.mem_cons_self
    rcases List.mem_cons.1 ha with rfl | ha
    · exact Pl_plain m
    · exact inter_Pl s (c :: l) r h2 (fun a ha => hw a (List.mem_cons_of_mem _ ha)) a ha

theorem E_Pl : ∀ t L, E t = some L → ∀ a ∈ L, Pl a := by
  intro t
  induction t with
  | zero => intro L h a ha; cases h; obtain rfl : a = _ := by simpa using ha
            exact one_Pl
  | succ t ih =>
    match t, ih with
    | 0, _ => intro L h a ha; cases h; obtain rfl : a = _ := by simpa using ha
              exact one_Pl
    | 1, _ => intro L h a ha; cases h; obtain rfl : a = _ := by simpa using ha
              exact one_Pl
    | 2, _ =>
      intro L h a ha
      obtain ⟨s, m, _, h2, rfl⟩ := E_three h
      rcases List.mem_cons.1 ha with rfl | ha
      · exact one_Pl
      · obtain rfl : a = _ := by simpa using ha
        exact Pl_plain m
    | t + 3, ih =>
      intro L h
      obtain ⟨H, s, h1, _, h3⟩ := E_succ h
      exact inter_Pl s H L h3 (ih H h1)

theorem zero_Pl : Pl (0, 0) := by unfold Pl; decide +kernel

theorem Pl_getD {xs : List (Nat × Nat)} (h : ∀ a ∈ xs, Pl a) (i : Nat) : Pl (xs.getD i (0, 0)) := by
  rw [List.getD_eq_getElem?_getD]
  cases e : xs[i]? with
  | none => exact zero_Pl
  | some a => exact h a (List.mem_of_getElem? e)

theorem R_Pl {t : Nat} (ht : t ≤ 12) {k : Nat} (hk : k < 2 ^ t) : Pl (R t k) := by
  unfold R atL
  split
  · have h : t = 0 ∨ t = 1 := by
      by_cases h2 : 2 ≤ t
      · have := two_pow_ge h2; have := Nat.two_pow_pos (t - 2); omega
      · omega
    rcases h with rfl | rfl
    · obtain rfl : k = 0 := by omega
      unfold Pl; decide +kernel
    · have : k = 0 ∨ k = 1 := by omega
      rcases this with rfl | rfl <;> (unfold Pl; decide +kernel)
  · have hE := E_Pl t _ (E_EL ht)
    generalize k / (2 ^ t / 4) = j
    cases j with
    | succ j => exact Pl_plain _
    | zero =>
      show Pl (quarterL _ _ _)
      unfold quarterL
      split
      · exact Pl_getD hE _
      · exact Pl_mk (Pl_getD hE _).snd (Pl_getD hE _).fst

theorem lt2 {t : Nat} (h : ¬ 2 ≤ t) : t = 0 ∨ t = 1 := by omega

/-- R by quarters -/
theorem R_q {t i : Nat} (ht : 2 ≤ t) : R t (2 ^ t / 4 + i) = tn (R t i) := by
  rw [R_turn ht (by omega), Nat.add_sub_cancel_left]; rfl

theorem R_quarters {t i : Nat} (ht : 2 ≤ t) : R t (1 * (2 ^ t / 4) + i) = tn (R t i) ∧ R t (2 * (2 ^ t / 4) + i) = tn (tn (R t i)) ∧ R t (3 * (2 ^ t / 4) + i) = tn (tn (tn (R t i))) := by
  have h1 := R_q (i := i) ht
  have h2 := R_q (i := 2 ^ t / 4 + i) ht
  have h3 := R_q (i := 2 ^ t / 4 + (2 ^ t / 4 + i)) ht
  refine ⟨by rw [Nat.one_mul]; exact h1, ?_, ?_⟩
  · rw [show 2 * (2 ^ t / 4) + i = 2 ^ t / 4 + (2 ^ t / 4 + i) by omega, h2, h1]
  · rw [show 3 * (2 ^ t / 4) + i = 2 ^ t / 4 + (2 ^ t / 4 + (2 ^ t / 4 + i)) by omega, h3, h2, h1]

/-- a quarter further, round -/
theorem R_further {t j : Nat} (ht : 2 ≤ t) (h12 : t ≤ 12) (hj : j < 2 ^ t) : R t ((j + 2 ^ t / 4) % 2 ^ t) = tn (R t j) := by
  have h4 := two_pow_ge ht
  have hp : 0 < 2 ^ (t - 2) := Nat.two_pow_pos _
  by_cases h : j + 2 ^ t / 4 < 2 ^ t
  · rw [Nat.mod_eq_of_lt h, Nat.add_comm, R_q ht]
  · have e : (j + 2 ^ t / 4) % 2 ^ t = j - 3 * (2 ^ t / 4) := by
      rw [Nat.mod_eq_sub_mod (by omega), Nat.mod_eq_of_lt (by omega)]; omega
    rw [e]
    obtain ⟨i, hi⟩ : ∃ i, j = 3 * (2 ^ t / 4) + i := ⟨j - 3 * (2 ^ t / 4), by omega⟩
    rw [hi, (R_quarters ht).2.2, tn4 (R_Wd h12 _) (R_Pl h12 (by omega)), Nat.add_sub_cancel_left]

/-- the middle of the quarter has like parts -/
theorem R_mid : ∀ t, 3 ≤ t → t ≤ 12 → swap1 (R t (2 ^ t / 8)) = R t (2 ^ t / 8) := by
  intro t
  induction t with
  | zero => intro h; omega
  | succ t ih =>
    intro h3 h12
    by_cases h : t = 2
    · subst h; decide +kernel
    · have e : 2 ^ (t + 1) / 8 = 2 * (2 ^ t / 8) := by
        obtain ⟨u, rfl⟩ : ∃ u, t = u + 3 := ⟨t - 3, by omega⟩
        rw [show u + 3 + 1 = u + 4 from rfl, Nat.pow_add, Nat.pow_add]; omega
      rw [e, R_even h3 h12 (by omega)]
      exact ih (by omega) (by omega)

theorem R_mirror {t i : Nat} (ht : 2 ≤ t) (h12 : t ≤ 12) (h0 : 0 < i) (hi : i < 2 ^ t / 4) : R t (2 ^ t / 4 - i) = swap1 (R t i) := by
  have h3 : 3 ≤ t := by
    by_cases e : t = 2
    · subst e; omega
    · omega
  have h8 := pow3 h3
  by_cases h : i < 2 ^ t / 8
  · have := R_swap (k := 2 ^ t / 4 - i) h3 (by omega) (by omega)
    rw [this, show 2 ^ t / 4 - (2 ^ t / 4 - i) = i by omega]; rfl
  · by_cases h' : 2 ^ t / 8 < i
    · have := R_swap h3 hi h'
      rw [this]
      rfl
    · obtain rfl : i = 2 ^ t / 8 := by omega
      rw [R_mid t h3 h12, show 2 ^ t / 4 - 2 ^ t / 8 = 2 ^ t / 8 by omega]

theorem one_turns : tn (tn (tn (wOne, 0))) = plain2 (conj1 (tn (wOne, 0))) ∧ tn (tn (wOne, 0)) = plain2 (conj1 (tn (tn (wOne, 0)))) ∧ tn (wOne, 0) = plain2 (conj1 (tn (tn (tn (wOne, 0))))) ∧ (wOne, 0) = plain2 (conj1 (wOne, 0)) := by
  decide +kernel

/-- backwards is the conjugate -/
theorem R_conj {t j : Nat} (h12 : t ≤ 12) (hj : j < 2 ^ t) : R t ((2 ^ t - j) % 2 ^ t) = plain2 (conj1 (R t j)) := by
  by_cases ht : 2 ≤ t
  · have h4 := two_pow_ge ht
    have hp : 0 < 2 ^ (t - 2) := Nat.two_pow_pos _
    obtain ⟨q, i, hq, hi, e⟩ : ∃ q i, q < 4 ∧ i < 2 ^ t / 4 ∧ j = q * (2 ^ t / 4) + i := by
      refine ⟨j / (2 ^ t / 4), j % (2 ^ t / 4), ?_, Nat.mod_lt _ (by omega), (Nat.div_add_mod' _ _).symm⟩
      rw [Nat.div_lt_iff_lt_mul (by omega)]; omega
    by_cases h0 : i = 0
    · subst h0
      have z := R_zero h12
      obtain ⟨o1, o2, o3, o4⟩ := one_turns
      have Q := R_quarters (t := t) (i := 0) ht
      rw [z] at Q
      have hq' : q = 0 ∨ q = 1 ∨ q = 2 ∨ q = 3 := by omega
      rcases hq' with rfl | rfl | rfl | rfl
      · have : j = 0 := by omega
        subst this
        rw [Nat.sub_zero, Nat.mod_self, z]; exact o4
      · rw [e, Q.1, ← o1, ← Q.2.2]; congr 1; rw [Nat.mod_eq_of_lt (by omega)]; omega
      · rw [e, Q.2.1, ← o2, ← Q.2.1]; congr 1; rw [Nat.mod_eq_of_lt (by omega)]; omega
      · rw [e, Q.2.2, ← o3, ← Q.1]; congr 1; rw [Nat.mod_eq_of_lt (by omega)]; omega
    · have Q := R_quarters (t := t) (i := i) ht
      have Q' := R_quarters (t := t) (i := 2 ^ t / 4 - i) ht
      have m := R_mirror ht h12 (by omega) hi
      obtain ⟨c1, c2, c3, c4⟩ := conj_turns (R_Wd h12 i) (R_Pl h12 (k := i) (by omega))
      have hq' : q = 0 ∨ q = 1 ∨ q = 2 ∨ q = 3 := by omega
      rw [m] at Q'
      rcases hq' with rfl | rfl | rfl | rfl
      · have : j = i := by omega
        subst this
        rw [← c1, ← Q'.2.2]; congr 1; rw [Nat.mod_eq_of_lt (by omega)]; omega
      · rw [e, Q.1, ← c2, ← Q'.2.1]; congr 1; rw [Nat.mod_eq_of_lt (by omega)]; omega
      · rw [e, Q.2.1, ← c3, ← Q'.1]; congr 1; rw [Nat.mod_eq_of_lt (by omega)]; omega
      · rw [e, Q.2.2, ← c4, ← m]; congr 1; rw [Nat.mod_eq_of_lt (by omega)]; omega
  · rcases lt2 ht with rfl | rfl
    · obtain rfl : j = 0 := by omega
      decide +kernel
    · have : j = 0 ∨ j = 1 := by omega
      rcases this with rfl | rfl <;> decide +kernel

/-- every second root of twice the order -/
theorem R_double {t j : Nat} (h12 : t + 1 ≤ 12) (hj : j < 2 ^ t) : R (t + 1) (2 * j) = R t j := by
  by_cases ht : 2 ≤ t
  · have h4 := two_pow_ge ht
    have hp : 0 < 2 ^ (t - 2) := Nat.two_pow_pos _
    have e2 : 2 ^ (t + 1) = 2 * 2 ^ t := by rw [Nat.pow_succ]; omega
    have key : ∀ i, i < 2 ^ t / 4 → R (t + 1) (2 * i) = R t i := by
      intro i hi
      by_cases h8 : i ≤ 2 ^ t / 8
      · exact R_even (by omega) h12 (by omega)
      · have h3 : 3 ≤ t := by
          by_cases e : t = 2
          · subst e; omega
          · omega
        have h8' := pow3 h3
        have a := R_mirror (t := t) (i := 2 ^ t / 4 - i) ht (by omega) (by omega) (by omega)
        have b := R_mirror (t := t + 1) (i := 2 * (2 ^ t / 4 - i)) (by omega) h12 (by omega) (by omega)
        rw [show 2 ^ t / 4 - (2 ^ t / 4 - i) = i by omega] at a
        rw [show 2 ^ (t + 1) / 4 - 2 * (2 ^ t / 4 - i) = 2 * i by omega] at b
        rw [a, b, R_even (by omega) h12 (by omega)]
        rfl
    obtain ⟨q, i, hq, hi, e⟩ : ∃ q i, q < 4 ∧ i < 2 ^ t / 4 ∧ j = q * (2 ^ t / 4) + i := by
      refine ⟨j / (2 ^ t / 4), j % (2 ^ t / 4), ?_, Nat.mod_lt _ (by omega), (Nat.div_add_mod' _ _).symm⟩
      rw [Nat.div_lt_iff_lt_mul (by omega)]; omega
    have Q := R_quarters (t := t) (i := i) ht
    have Q' := R_quarters (t := t + 1) (i := 2 * i) (by omega)
    have k := key i hi
    rw [k] at Q'
    have hq' : q = 0 ∨ q = 1 ∨ q = 2 ∨ q = 3 := by omega
    rcases hq' with rfl | rfl | rfl | rfl
    · have : j = i := by omega
      subst this; exact k
    · rw [e, Q.1, ← Q'.1]; congr 1; omega
    · rw [e, Q.2.1, ← Q'.2.1]; congr 1; omega
    · rw [e, Q.2.2, ← Q'.2.2]; congr 1; omega
  · rcases lt2 ht with rfl | rfl
    · obtain rfl : j = 0 := by omega
      decide +kernel
    · have : j = 0 ∨ j = 1 := by omega
      rcases this with rfl | rfl <;> decide +kernel
end Go.Proofs.Ytoeeceemoggffaa
