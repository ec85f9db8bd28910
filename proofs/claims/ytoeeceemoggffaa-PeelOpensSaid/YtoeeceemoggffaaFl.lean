/- Plain facts on the bits of float64, with no program in sight: names for the operations on words, the sign bit. -/
import Derived.WalkKit
import Derived.WalkLawsBesides
namespace Go.Proofs.Ytoeeceemoggffaa

def fadd (x y : Nat) : Option Nat := floatBits .add .f64 x y
def fsub (x y : Nat) : Option Nat := floatBits .sub .f64 x y
def fmul (x y : Nat) : Option Nat := floatBits .mul .f64 x y
def fdiv (x y : Nat) : Option Nat := floatBits .quo .f64 x y
def fsqrt (x : Nat) : Option Nat := Ieee.double.sqrt x
/-- the two parts compare equal -/
def feq (x y : Nat) : Bool := FloatKind.f64.format.order x y == some .eq
def plain1 (x : Nat) : Nat := if feq x 0 then 0 else x
def fneg (x : Nat) : Nat := x ^^^ 9223372036854775808
/-- the product by its parts, each step rounded by itself -/
def cmul (a b : Nat × Nat) : Option (Nat × Nat) :=
  (fmul a.1 b.1).bind fun pu => (fmul a.2 b.2).bind fun qv => (fsub pu qv).bind fun re =>
  (fmul a.1 b.2).bind fun pv => (fmul a.2 b.1).bind fun qu => (fadd pv qu).bind fun im => some (re, im)
def plain2 (a : Nat × Nat) : Nat × Nat := (plain1 a.1, plain1 a.2)

/-- a complex number as the machine holds it -/
abbrev cv (a : Nat × Nat) : Value := .complex .f64 a.1 a.2

theorem cmul_some {a b r : Nat × Nat} (h : cmul a b = some r) : ∃ pu qv pv qu, floatBits .mul .f64 a.1 b.1 = some pu ∧ floatBits .mul .f64 a.2 b.2 = some qv ∧ floatBits .sub .f64 pu qv = some r.1 ∧
    floatBits .mul .f64 a.1 b.2 = some pv ∧ floatBits .mul .f64 a.2 b.1 = some qu ∧ floatBits .add .f64 pv qu = some r.2 := by
  unfold cmul fmul fsub fadd at h
  obtain ⟨pu, h1, h⟩ := bind_some h
  obtain ⟨qv, h2, h⟩ := bind_some h
  obtain ⟨re, h3, h⟩ := bind_some h
  obtain ⟨pv, h4, h⟩ := bind_some h
  obtain ⟨qu, h5, h⟩ := bind_some h
  obtain ⟨im, h6, h⟩ := bind_some h
  cases h
  exact ⟨pu, qv, pv, qu, h1, h2, h3, h4, h5, h6⟩

theorem fneg_lt {x : Nat} (h : x < 18446744073709551616) : fneg x < 18446744073709551616 := by
  have : x ^^^ 9223372036854775808 < 2 ^ 64 := Nat.xor_lt_two_pow (by omega) (by omega)
  unfold fneg; omega

theorem bv_of_nat {x : Nat} (h : x < 18446744073709551616) : (BitVec.ofInt 64 (x : Int)).toNat = x := by
  rw [BitVec.ofInt_natCast, BitVec.toNat_ofNat]; exact Nat.mod_eq_of_lt (by omega)

/-- the bits of math.Copysign's result -/
def csign (x s : Nat) : Nat := (x &&& (18446744073709551615 ^^^ 9223372036854775808)) ||| (s &&& 9223372036854775808)

theorem wrapU_nat {x : Nat} (h : x < 18446744073709551616) : IntKind.u64.wrap (x : Int) = (x : Int) := by
  rw [IntKind.wrap_u64]; omega

theorem bits_and_nat {a b : Nat} (ha : a < 18446744073709551616) (hb : b < 18446744073709551616) : bits .and .u64 (a : Int) (b : Int) = ((a &&& b : Nat) : Int) := by
  show IntKind.u64.wrap ((BitVec.ofInt 64 (a : Int) &&& BitVec.ofInt 64 (b : Int)).toNat : Int) = _
  rw [BitVec.toNat_and, bv_of_nat ha, bv_of_nat hb]
  exact wrapU_nat (Nat.lt_of_le_of_lt Nat.and_le_left ha)

theorem bits_or_nat {a b : Nat} (ha : a < 18446744073709551616) (hb : b < 18446744073709551616) : bits .or .u64 (a : Int) (b : Int) = ((a ||| b : Nat) : Int) := by
  show IntKind.u64.wrap ((BitVec.ofInt 64 (a : Int) ||| BitVec.ofInt 64 (b : Int)).toNat : Int) = _
  rw [BitVec.toNat_or, bv_of_nat ha, bv_of_nat hb]
  exact wrapU_nat (by have : a ||| b < 2 ^ 64 := Nat.or_lt_two_pow (by omega) (by omega); omega)

theorem bits_andNot_nat {a b : Nat} (ha : a < 18446744073709551616) (hb : b < 18446744073709551616) : bits .andNot .u64 (a : Int) (b : Int) = ((a &&& (18446744073709551615 ^^^ b) : Nat) : Int) := by
  show IntKind.u64.wrap ((BitVec.ofInt 64 (a : Int) &&& ~~~(BitVec.ofInt 64 (b : Int))).toNat : Int) = _
  have e : (~~~(BitVec.ofInt 64 (b : Int))).toNat = 18446744073709551615 ^^^ b := by
    have : ~~~(BitVec.ofInt 64 (b : Int)) = BitVec.allOnes 64 ^^^ BitVec.ofInt 64 (b : Int) := by rw [BitVec.allOnes_xor]
    rw [this, BitVec.toNat_xor, bv_of_nat hb]; rfl
  rw [BitVec.toNat_and, bv_of_nat ha, e]
  exact wrapU_nat (Nat.lt_of_le_of_lt Nat.and_le_left ha)

theorem csign_lt {x s : Nat} (hx : x < 18446744073709551616) (hs : s < 18446744073709551616) : csign x s < 18446744073709551616 := by
  have : csign x s < 2 ^ 64 := Nat.or_lt_two_pow (Nat.lt_of_le_of_lt Nat.and_le_left (by omega)) (Nat.lt_of_le_of_lt Nat.and_le_left (by omega))
  omega

theorem testBit_of_ge {x i : Nat} (hx : x < 18446744073709551616) (hi : 64 ≤ i) : x.testBit i = false :=
  Nat.testBit_lt_two_pow (Nat.lt_of_lt_of_le (show x < 2 ^ 64 by omega) (Nat.pow_le_pow_right (by omega) hi))

/-- the sign bit turned by math.Copysign, twice called -/
theorem csign_flip {p : Nat} (hp : p < 18446744073709551616) : csign p (fneg (csign 4607182418800017408 p)) = fneg p := by
  have top : ∀ i, (9223372036854775808 : Nat).testBit i = decide (i = 63) := fun i => by
    have : (9223372036854775808 : Nat) = 2 ^ 63 := by decide
    rw [this, Nat.testBit_two_pow]; exact decide_eq_decide.2 ⟨fun h => h.symm, fun h => h.symm⟩
  have ones : ∀ i, (18446744073709551615 : Nat).testBit i = decide (i < 64) := fun i => by
    have : (18446744073709551615 : Nat) = 2 ^ 64 - 1 := by decide
    rw [this, Nat.testBit_two_pow_sub_one]
  have one63 : (4607182418800017408 : Nat).testBit 63 = false := by decide
  apply Nat.eq_of_testBit_eq
  intro i
  simp only [csign, fneg, Nat.testBit_or, Nat.testBit_and, Nat.testBit_xor, top, ones]
  by_cases h : i = 63
  · subst h; simp [one63]
  · by_cases h2 : i < 64
    · simp [h, h2]
    · have e := testBit_of_ge hp (show 64 ≤ i by omega); simp [h, h2, e]
end Go.Proofs.Ytoeeceemoggffaa
