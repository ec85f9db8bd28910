/- Whole numbers as words: their floor, their size, their order, and what they are as integers. No program in sight. -/
import Derived.Test.YtoeeceemoggffaaDoorDo
namespace Go.Proofs.YtoeeceemoggffaaDoor
open Ieee

/-- a cut that drops nothing -/
theorem cut_exact (way : Toward) (s : Bool) {n drop A : Nat} (h : n = A * 2 ^ drop) (hw : way = .down ∨ way = .zero) : way.cut s n drop = A := by
  have key : n / (1 <<< min drop (n.log2 + 2)) = A ∧ n % (1 <<< min drop (n.log2 + 2)) = 0 := by
    rw [Nat.shiftLeft_eq, Nat.one_mul]
    by_cases hd : drop ≤ n.log2 + 2
    · rw [Nat.min_eq_left hd, h]
      exact ⟨Nat.mul_div_cancel _ (Nat.two_pow_pos _), Nat.mul_mod_left _ _⟩
    · rw [Nat.min_eq_right (by omega)]
      have hA : A = 0 := by
        rcases Nat.eq_zero_or_pos A with h0 | h0
        · exact h0
        · exfalso
          have h1 : n < 2 ^ (n.log2 + 1) := Nat.lt_log2_self
          have h2 : 2 ^ (n.log2 + 1) ≤ 2 ^ drop := Nat.pow_le_pow_right (by decide) (by omega)
          have h3 : 2 ^ drop ≤ A * 2 ^ drop := Nat.le_mul_of_pos_left _ h0
          omega
      subst hA
      rw [Nat.zero_mul] at h
      subst h
      simp
  obtain ⟨k1, k2⟩ := key
  unfold Toward.cut
  rcases hw with rfl | rfl
  · simp only [k1, k2]
    simp
  · simp only [k1]
    simp

/-- a whole word, read -/
theorem whole_read {x : Nat} {a : Int} (h : Whole x a) : ∃ s m e, double.read x = .number s m e ∧ (a ≠ 0 → s = decide (a < 0)) ∧ ∀ way, way = Toward.down ∨ way = Toward.zero → way.cut s (m <<< e.toNat) (-e).toNat = a.natAbs := by
  obtain ⟨s, m, e, hr, he, hv⟩ := read_fin h.fin
  obtain ⟨S, hS⟩ : ∃ S : Nat, S = 1074 := ⟨_, rfl⟩
  have hval := h.val S hS
  rw [hv, signed_eq] at hval
  have hpos : 0 < 2 ^ S := Nat.two_pow_pos _
  have hmag : m * 2 ^ (e + 1074).toNat = a.natAbs * 2 ^ S := by
    have h1 := congrArg Int.natAbs hval
    rw [Int.natAbs_mul, Int.natAbs_natCast] at h1
    rw [← h1]
    generalize m * 2 ^ (e + 1074).toNat = M
    split <;> omega
  refine ⟨s, m, e, hr, fun ha => ?_, fun way hw => ?_⟩
  · have hp : (0 : Int) < ((2 ^ S : Nat) : Int) := Int.ofNat_lt.2 hpos
    have hm : 0 < m * 2 ^ (e + 1074).toNat := by
      rw [hmag]
      exact Nat.mul_pos (by omega) hpos
    generalize m * 2 ^ (e + 1074).toNat = M at *
    generalize ((2 ^ S : Nat) : Int) = g at *
    by_cases hneg : a < 0
    · rw [decide_eq_true hneg]
      cases s with
      | true => rfl
      | false =>
        exfalso
        have : a * g < 0 := Int.mul_neg_of_neg_of_pos hneg hp
        simp at hval
        omega
    · rw [decide_eq_false hneg]
      cases s with
      | false => rfl
      | true =>
        exfalso
        have : 0 < a * g := Int.mul_pos (by omega) hp
        simp at hval
        omega
  · refine cut_exact way s ?_ hw
    rw [Nat.shiftLeft_eq]
    rcases Int.le_total 0 e with h0 | h0
    · have e1 : (e + 1074).toNat = e.toNat + S := by omega
      have e2 : (-e).toNat = 0 := by omega
      rw [e1, Nat.pow_add, ← Nat.mul_assoc] at hmag
      rw [e2, Nat.pow_zero, Nat.mul_one]
      exact Nat.eq_of_mul_eq_mul_right hpos hmag
    · have e1 : e.toNat = 0 := by omega
      have e2 : S = (e + 1074).toNat + (-e).toNat := by omega
      rw [e1, Nat.pow_zero, Nat.mul_one]
      have e3 : a.natAbs * 2 ^ S = (a.natAbs * 2 ^ (-e).toNat) * 2 ^ (e + 1074).toNat := by
        rw [Nat.mul_assoc, ← Nat.pow_add]; congr 2; omega
      rw [e3] at hmag
      exact Nat.eq_of_mul_eq_mul_right (Nat.two_pow_pos _) hmag

theorem encode_number (s : Bool) (m : Nat) (e : Int) : FloatKind.f64.encode (.number s m e) = double.nearest s m e := rfl

/-- the word's floor -/
def floorW (x : Nat) : Option Nat :=
  match FloatKind.f64.decode x with
  | .nan _ _ => none
  | d => some (FloatKind.f64.encode (d.integral .down))

theorem floor_whole (a : Int) (h : a.natAbs < 2 ^ 53) : floorW (fint a) = some (fint a) := by
  by_cases h0 : a = 0
  · subst h0; decide +kernel
  · obtain ⟨s, m, e, hr, hs, hc⟩ := whole_read (whole_fint h)
    have hd : FloatKind.f64.decode (fint a) = .number s m e := hr
    unfold floorW
    rw [hd]
    show some (FloatKind.f64.encode ((Datum.number s m e).integral .down)) = _
    have hi : (Datum.number s m e).integral .down = .number s a.natAbs 0 := by
      unfold Datum.integral
      simp only [hc .down (.inl rfl)]
    rw [hi, encode_number, hs h0]
    unfold fint
    rw [if_neg h0]

theorem int_whole {a : Int} (h : a.natAbs < 2 ^ 53) (h0 : 0 ≤ a) : floatToIntVal .f64 (fint a) .i64 = some a := by
  obtain ⟨s, m, e, hr, hs, hc⟩ := whole_read (whole_fint h)
  have hd : FloatKind.f64.decode (fint a) = .number s m e := hr
  have hi : (Datum.number s m e).integral .zero = .number s a.natAbs 0 := by
    unfold Datum.integral
    simp only [hc .zero (.inr rfl)]
  have ht : (Datum.number s m e).toInt .zero = some a := by
    unfold Datum.toInt
    rw [hi]
    show some (signed s a.natAbs 0) = some a
    congr 1
    rw [signed_eq, Nat.pow_zero, Nat.mul_one]
    by_cases ha : a = 0
    · subst ha; split <;> rfl
    · have : s = false := by rw [hs ha]; exact decide_eq_false (by omega)
      rw [this]
      simp
      omega
  unfold floatToIntVal
  rw [hd, ht]
  have h1 : IntKind.i64.min ≤ a ∧ a ≤ IntKind.i64.max := by
    have e1 : IntKind.i64.min = -9223372036854775808 := by decide
    have e2 : IntKind.i64.max = 9223372036854775807 := by decide
    rw [e1, e2]; omega
  simp only
  rw [if_pos h1]

/-- without its sign -/
theorem abs_whole {x : Nat} {a : Int} (h : Whole x a) (ha : a.natAbs < 2 ^ 53) : x % 9223372036854775808 = fint (a.natAbs : Int) := by
  by_cases h0 : a = 0
  · subst h0
    have := h.zero.2 rfl
    exact this
  · have hw : Whole (x % 9223372036854775808) (a.natAbs : Int) := by
      obtain ⟨S, hS⟩ : ∃ S : Nat, S = 1074 := ⟨_, rfl⟩
      have e2 : (x % 9223372036854775808) % 2 ^ 63 = x % 2 ^ 63 := by omega
      have e1 : (x % 9223372036854775808) / 2 ^ 63 % 2 = 0 := by omega
      refine whole_of S hS (by omega) (by unfold Fin; rw [e2]; exact h.fin) ?_
      have hv := h.val S hS
      have h1 : sv (x % 9223372036854775808) = (mg (x % 2 ^ 63) : Int) := by
        unfold sv; rw [e1, e2]; rfl
      have h2 : ((sv x).natAbs : Int) = (mg (x % 2 ^ 63) : Int) := by
        unfold sv; split <;> simp
      rw [h1, ← h2, hv, Int.natAbs_mul, Int.natCast_mul, Int.natAbs_natCast]
    exact hw.uniq (whole_fint (by omega)) (by omega)

theorem lt63_whole {a : Int} (h : a.natAbs < 2 ^ 53) : (FloatKind.f64.format.order (fint a) 4890909195324358656 == some Ordering.lt) = true := by
  obtain ⟨S, hS⟩ : ∃ S : Nat, S = 1074 := ⟨_, rfl⟩
  have hw := whole_fint h
  have hf : Fin 4890909195324358656 := by unfold Fin; decide
  have hv : sv 4890909195324358656 = 9223372036854775808 * ((2 ^ S : Nat) : Int) := by subst hS; decide +kernel
  rw [order_val hw.fin hf, hw.val S hS, hv]
  have hp : (0 : Int) < ((2 ^ S : Nat) : Int) := Int.ofNat_lt.2 (Nat.two_pow_pos _)
  have : compare (a * ((2 ^ S : Nat) : Int)) (9223372036854775808 * ((2 ^ S : Nat) : Int)) = .lt := by
    rw [Int.compare_eq_lt]
    exact Int.mul_lt_mul_of_pos_right (by omega) hp
  rw [this]; rfl

theorem eq0_whole {a : Int} (h : a.natAbs < 2 ^ 53) : (FloatKind.f64.format.order (fint a) 0 == some Ordering.eq) = decide (a = 0) := by
  have hw := whole_fint h
  have := feq_zero hw.lt
  unfold feq at this
  rw [this]
  have hz := hw.zero
  by_cases h0 : a = 0
  · rw [decide_eq_true h0, decide_eq_true (hz.2 h0)]
  · rw [decide_eq_false h0, decide_eq_false (fun e => h0 (hz.1 e))]
end Go.Proofs.YtoeeceemoggffaaDoor
