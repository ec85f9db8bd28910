/- The roots lie near to the table's numbers: reckoned out by the kernel. Plain arithmetic. -/
import Derived.Test.YtoeeceemoggffaaFr
import Derived.Test.YtoeeceemoggffaaZm
import Derived.Test.YtoeeceemoggffaaRq
namespace Go.Proofs.Ytoeeceemoggffaa

/-- a root's word lies near to a number of the table -/
structure Near (S : Nat) (a : Nat × Nat) (z : Z2) : Prop where
  fin1 : Fin a.1
  fin2 : Fin a.2
  near1 : (sv a.1 - z.1 * ((2 ^ (S - 128) : Nat) : Int)).natAbs ≤ 2 ^ 77 * 2 ^ (S - 128)
  near2 : (sv a.2 - z.2 * ((2 ^ (S - 128) : Nat) : Int)).natAbs ≤ 2 ^ 77 * 2 ^ (S - 128)

def nearB (S : Nat) (p : (Nat × Nat) × Z2) : Bool :=
  decide (p.1.1 % 2 ^ 63 < 2047 * 2 ^ 52) && decide (p.1.2 % 2 ^ 63 < 2047 * 2 ^ 52) && decide ((sv p.1.1 - p.2.1 * ((2 ^ (S - 128) : Nat) : Int)).natAbs ≤ 2 ^ 77 * 2 ^ (S - 128)) && decide ((sv p.1.2 - p.2.2 * ((2 ^ (S - 128) : Nat) : Int)).natAbs ≤ 2 ^ 77 * 2 ^ (S - 128))

theorem near_check0 (S : Nat) (h : S = 1074) : (List.zip ((E 12).getD []) zl).all (nearB S) = true := by
  subst h; decide +kernel

theorem near_check (S : Nat) (h : S = 1074) (L : List (Nat × Nat)) (hL : L = EL 12) : (List.zip L zl).all (nearB S) = true := by
  have e : EL 12 = (E 12).getD [] := by rw [EL]
  rw [hL, e]; exact near_check0 S h


end Go.Proofs.Ytoeeceemoggffaa
