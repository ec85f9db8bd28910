/- Lines and sums over them: the plain law. -/
import Derived.Test.YtoeeceemoggffaaLi
import Derived.Test.YtoeeceemoggffaaFe
namespace Go.Proofs.Ytoeeceemoggffaa

theorem line_rng {n M i : Nat} {p q : Int} (hM : M = n * n) (h : okD (p, q) = true) (hi : i < M) : 0 ≤ lineZ n (p, q) i ∧ lineZ n (p, q) i < (binsN n (p, q) : Int) := by
  obtain ⟨o0, _⟩ := (okD_iff p q).1 h
  have hn : 0 < n := by
    rcases Nat.eq_zero_or_pos n with rfl | h
    · rw [Nat.zero_mul] at hM; omega
    · exact h
  have ha : i % n < n := Nat.mod_lt _ hn
  have hb : i / n < n := by rw [Nat.div_lt_iff_lt_mul hn, ← hM]; exact hi
  unfold lineZ startN binsN
  simp only
  generalize i % n = a at *
  generalize i / n = b at *
  obtain ⟨m, rfl⟩ : ∃ m, n = m + 1 := ⟨n - 1, by omega⟩
  rw [Nat.add_sub_cancel]
  obtain ⟨Q, rfl⟩ : ∃ Q : Nat, q = (Q : Int) := ⟨q.toNat, by omega⟩
  have e1 : (Q : Int) * (a : Int) = ((Q * a : Nat) : Int) := (Int.natCast_mul _ _).symm
  have l1 : Q * a ≤ Q * m := Nat.mul_le_mul_left _ (by omega)
  rcases Int.le_total 0 p with hp | hp
  · obtain ⟨P, rfl⟩ : ∃ P : Nat, p = (P : Int) := ⟨p.toNat, by omega⟩
    have e2 : (P : Int) * (b : Int) = ((P * b : Nat) : Int) := (Int.natCast_mul _ _).symm
    have l2 : P * b ≤ P * m := Nat.mul_le_mul_left _ (by omega)
    rw [e1, e2]
    simp only [Int.toNat_natCast, Int.natAbs_natCast]
    rw [Nat.mul_add, Nat.mul_comm m P, Nat.mul_comm m Q]
    omega
  · obtain ⟨P, rfl⟩ : ∃ P : Nat, p = -(P : Int) := ⟨p.natAbs, by omega⟩
    have e2 : -(P : Int) * (b : Int) = -((P * b : Nat) : Int) := by rw [Int.neg_mul, ← Int.natCast_mul]
    have l2 : P * b ≤ P * m := Nat.mul_le_mul_left _ (by omega)
    have e3 : (-(P : Int)).toNat = 0 := by omega
    rw [e1, e2, e3]
    simp only [Int.toNat_natCast, Int.natAbs_neg, Int.natAbs_natCast, Nat.mul_zero]
    rw [Nat.mul_add, Nat.mul_comm m P, Nat.mul_comm m Q]
    omega

/-- the line of a cell, as a number -/
def lineN (n : Nat) (d : Int × Int) (i : Nat) : Nat := (lineZ n d i).toNat
theorem lineN_cast {n M i : Nat} {p q : Int} (hM : M = n * n) (h : okD (p, q) = true) (hi : i < M) : lineZ n (p, q) i = (lineN n (p, q) i : Int) := by
  have := line_rng hM h hi
  unfold lineN
  omega
theorem lineN_lt {n M i : Nat} {p q : Int} (hM : M = n * n) (h : okD (p, q) = true) (hi : i < M) : lineN n (p, q) i < binsN n (p, q) := by
  have := line_rng hM h hi
  unfold lineN
  omega

/-- what the cells of a list bring to a line -/
def sumL (ln : Nat → Nat) (A : Nat → Int) (pre : List Nat) (j : Nat) : Int := (pre.map fun i => if ln i = j then A i else 0).sum

theorem sumL_snoc (ln : Nat → Nat) (A : Nat → Int) (pre : List Nat) (x j : Nat) : sumL ln A (pre ++ [x]) j = sumL ln A pre j + (if ln x = j then A x else 0) := by
  unfold sumL
  rw [List.map_append, List.sum_append]
  simp
theorem sumL_bound {ln : Nat → Nat} {A : Nat → Int} {c : Int} (hc : 0 ≤ c) (hA : ∀ i, -c ≤ A i ∧ A i ≤ c) (j : Nat) : ∀ pre : List Nat, -(c * pre.length) ≤ sumL ln A pre j ∧ sumL ln A pre j ≤ c * pre.length
  | [] => by simp [sumL]
  | x :: r => by
    have ih := sumL_bound (ln := ln) hc hA j r
    have hx := hA x
    have e : sumL ln A (x :: r) j = (if ln x = j then A x else 0) + sumL ln A r j := rfl
    rw [e, List.length_cons, Int.natCast_add, Int.mul_add]
    split <;> omega

/-- the bins' words -/
def binsC (ln : Nat → Nat) (A B : Nat → Int) (pre : List Nat) (b : Nat) : List (Nat × Nat) := (List.range b).map fun j => (fint (sumL ln A pre j), fint (sumL ln B pre j))
theorem binsC_length (ln : Nat → Nat) (A B : Nat → Int) (pre : List Nat) (b : Nat) : (binsC ln A B pre b).length = b := by simp [binsC]
theorem binsC_get (ln : Nat → Nat) (A B : Nat → Int) (pre : List Nat) {b j : Nat} (h : j < b) : (binsC ln A B pre b)[j]? = some (fint (sumL ln A pre j), fint (sumL ln B pre j)) := by
  rw [binsC, List.getElem?_map, List.getElem?_eq_getElem (by simpa using h)]; simp
theorem binsC_nil (ln : Nat → Nat) (A B : Nat → Int) (b : Nat) : binsC ln A B [] b = List.replicate b (0, 0) := by
  apply List.ext_getElem
  · simp [binsC]
  · intro j h1 h2
    simp [binsC, sumL, fint]
theorem binsC_set (ln : Nat → Nat) (A B : Nat → Int) (pre : List Nat) (x b : Nat) :
    binsC ln A B (pre ++ [x]) b = (binsC ln A B pre b).set (ln x) (fint (sumL ln A pre (ln x) + A x), fint (sumL ln B pre (ln x) + B x)) := by
  apply List.ext_getElem
  · simp [binsC]
  · intro j h1 h2
    rw [List.getElem_set]
    simp only [binsC, List.getElem_map, List.getElem_range]
    rw [sumL_snoc, sumL_snoc]
    by_cases h : ln x = j
    · subst h; simp
    · simp [h]
end Go.Proofs.Ytoeeceemoggffaa
