/- Zero and the turned sign, as words. -/
import Derived.Test.YtoeeceemoggffaaDoorFl
namespace Go.Proofs.YtoeeceemoggffaaDoor

theorem feq_zero {x : Nat} (_hx : x < 18446744073709551616) : feq x 0 = decide (x % 9223372036854775808 = 0) := by
  have e0 : Ieee.double.read 0 = .number false 0 (-1074) := by decide +kernel
  show ((Ieee.double.read x).order (Ieee.double.read 0) == some .eq) = _
  rw [e0]
  have hsw : Ieee.double.signWeight = 9223372036854775808 := by decide
  have hbin : Ieee.double.binade = 4503599627370496 := by decide
  have hlp : Ieee.double.leastPlace = -1074 := by decide
  unfold Ieee.Format.read
  simp only [hsw, hbin, hlp]
  generalize x % 9223372036854775808 = r
  split
  · rename_i h
    simp only [Ieee.Datum.order]
    by_cases hr : r = 0
    · subst hr; cases (x / 9223372036854775808 % 2 == 1) <;> decide
    · have : compare (Ieee.signed (x / 9223372036854775808 % 2 == 1) r 0) 0 ≠ .eq := by
        rw [ne_eq, Int.compare_eq_eq]
        unfold Ieee.signed
        split <;> simp <;> omega
      have e : (min (-1074 : Int) (-1074)) = -1074 := by decide
      simp only [e, Int.sub_self, Int.toNat_zero]
      have e2 : Ieee.signed false 0 0 = 0 := by decide
      rw [e2]
      simp [hr, this]
  · split
    · rename_i h1 h2
      simp only [Ieee.Datum.order]
      have hr : r ≠ 0 := by omega
      have hle : ∀ z : Nat, min ((-1074 : Int) + (z : Nat)) (-1074) = -1074 := fun z => by omega
      simp only [hle]
      have : compare (Ieee.signed (x / 9223372036854775808 % 2 == 1) (4503599627370496 + r % 4503599627370496) (-1074 + ((r / 4503599627370496 - 1 : Nat) : Int) - -1074).toNat) (Ieee.signed false 0 ((-1074 : Int) - -1074).toNat) ≠ .eq := by
        rw [ne_eq, Int.compare_eq_eq]
        have e2 : Ieee.signed false 0 ((-1074 : Int) - -1074).toNat = 0 := by decide
        rw [e2]
        have hp : 0 < (4503599627370496 + r % 4503599627370496) <<< (-1074 + ((r / 4503599627370496 - 1 : Nat) : Int) - -1074).toNat := by
          rw [Nat.shiftLeft_eq]
          exact Nat.mul_pos (by omega) (Nat.two_pow_pos _)
        unfold Ieee.signed
        split <;> omega
      rw [show decide (r = 0) = false by simpa using hr, beq_eq_false_iff_ne]
      intro hh
      exact this (Option.some.inj hh)
    · have hr : r ≠ 0 := by omega
      split <;> simp [Ieee.Datum.order, hr]
      split <;> decide

theorem fneg_mod (x : Nat) : fneg x % 9223372036854775808 = x % 9223372036854775808 := by
  have h : fneg x % 2 ^ 63 = x % 2 ^ 63 := by
    apply Nat.eq_of_testBit_eq
    intro i
    rw [Nat.testBit_mod_two_pow, Nat.testBit_mod_two_pow]
    unfold fneg
    rw [Nat.testBit_xor]
    have : (9223372036854775808 : Nat) = 2 ^ 63 := by decide
    rw [this, Nat.testBit_two_pow]
    by_cases hi : i < 63
    · have : ¬ 63 = i := by omega
      simp [this]
    · simp [hi]
  exact h

end Go.Proofs.YtoeeceemoggffaaDoor
