/-
  No cell of these rows narrows 'for every input' (looked for: loops, veiled, ifaces, maps, wideKeys, modest, calm, conditions, laid).
  DERIVED. THE GIVEN ROWS OF THIS SEAT. 12 by the template 'for every input the law returns true; each argument reads behind the call as it read before'; 0 by the template 'total and deterministic' (their statements: YtoeeceemoggffaaTotals.lean).
  GIVEN WITH THE SEED: the statements are not yours to turn. If you find one false, say at which input.
  Laid BY PROGRAM, IN A SANDBOX (cutbox-rows.mjs): the forced cells as the released guide's own fill.sh prints them over the translation 108bf25f462eee1d… (all of the seat's roots in one cut). By AI agents, Wed Nov 11 2026. No macro, syntax, notation, axiom, sorry.
-/
import Derived.Test.YtoeeceemoggffaaChecked
import GoSem.Claim
import GoSem.ClaimJoined
import GoSem.ClaimMapViews
import Derived.JoinedTies
import Derived.KernelRfl
namespace Go.Proofs.Ytoeeceemoggffaa
/- THE CELL 'sum', in the pinned program and in every row, IS THE sha256 OF THE DUMP (.gsa) THAT YtoeeceemoggffaaProg.lean LOADS. Nothing in Lean hashes anything: it is a label: what it is worth is what the hold of that sum in a sandbox is worth. -/
noncomputable def Try.pinned : Pinned := { name := "ytoeeceemoggffaa", sum := "108bf25f462eee1dad7104e6dee311f5e0a89f4061cf09cab7403388e7a4432b", checked := Try.checked }
namespace Rows
def none {H : Type} : Left H := { results := [], args := [] }

/-- 'penumbralaw02.RootEach': WHATEVER THE INPUT: true; the input reads as it did. -/
def rootEachSpec : ChangeSpec := { name := "rootEach", fn := fun _ => fun
  | [d1, d2] => { results := [.lit (.bool true)], args := [d1, d2] }
  | _ => none }
def rootEachRow : OpenClaim := { program := "ytoeeceemoggffaa", sum := "108bf25f462eee1dad7104e6dee311f5e0a89f4061cf09cab7403388e7a4432b", func := "penumbra/penumbralaw02.RootEach", spec := "rootEach", inPlace := ["math.sqrt", "math.Float64bits", "math.Float64frombits"], unfollowed := true, recurses := true, plainKeys := false, apart := false }
def RootEachSaid : Prop := rootEachRow.holds Try.pinned (OpenSpec.ofChange rootEachSpec)

/-- ITS FALSE NEIGHBOUR: 'it returns false'. Refute it at one input. -/
def rootEachWrong : ChangeSpec := { name := "rootEach", fn := fun _ => fun
  | [d1, d2] => { results := [.lit (.bool false)], args := [d1, d2] }
  | _ => none }
def RootEachWrongFalsely : Prop := rootEachRow.holds Try.pinned (OpenSpec.ofChange rootEachWrong)

/-- 'penumbralaw02.RootTurns': WHATEVER THE INPUT: true; the input reads as it did. -/
def rootTurnsSpec : ChangeSpec := { name := "rootTurns", fn := fun _ => fun
  | [d1, d2] => { results := [.lit (.bool true)], args := [d1, d2] }
  | _ => none }
def rootTurnsRow : OpenClaim := { program := "ytoeeceemoggffaa", sum := "108bf25f462eee1dad7104e6dee311f5e0a89f4061cf09cab7403388e7a4432b", func := "penumbra/penumbralaw02.RootTurns", spec := "rootTurns", inPlace := ["math.sqrt", "math.Float64bits", "math.Float64frombits"], unfollowed := true, recurses := true, plainKeys := false, apart := false }
def RootTurnsSaid : Prop := rootTurnsRow.holds Try.pinned (OpenSpec.ofChange rootTurnsSpec)

/-- ITS FALSE NEIGHBOUR: 'it returns false'. Refute it at one input. -/
def rootTurnsWrong : ChangeSpec := { name := "rootTurns", fn := fun _ => fun
  | [d1, d2] => { results := [.lit (.bool false)], args := [d1, d2] }
  | _ => none }
def RootTurnsWrongFalsely : Prop := rootTurnsRow.holds Try.pinned (OpenSpec.ofChange rootTurnsWrong)

/-- 'penumbralaw02.RootNear': WHATEVER THE INPUT: true; the input reads as it did. -/
def rootNearSpec : ChangeSpec := { name := "rootNear", fn := fun _ => fun
  | [d1, d2, d3] => { results := [.lit (.bool true)], args := [d1, d2, d3] }
  | _ => none }
def rootNearRow : OpenClaim := { program := "ytoeeceemoggffaa", sum := "108bf25f462eee1dad7104e6dee311f5e0a89f4061cf09cab7403388e7a4432b", func := "penumbra/penumbralaw02.RootNear", spec := "rootNear", inPlace := ["math.sqrt", "math.Float64bits", "math.Float64frombits"], unfollowed := true, recurses := true, plainKeys := false, apart := false }
def RootNearSaid : Prop := rootNearRow.holds Try.pinned (OpenSpec.ofChange rootNearSpec)

/-- ITS FALSE NEIGHBOUR: 'it returns false'. Refute it at one input. -/
def rootNearWrong : ChangeSpec := { name := "rootNear", fn := fun _ => fun
  | [d1, d2, d3] => { results := [.lit (.bool false)], args := [d1, d2, d3] }
  | _ => none }
def RootNearWrongFalsely : Prop := rootNearRow.holds Try.pinned (OpenSpec.ofChange rootNearWrong)

/-- 'penumbralaw02.RootTables': WHATEVER THE INPUT: true; the input reads as it did. -/
def rootTablesSpec : ChangeSpec := { name := "rootTables", fn := fun _ => fun
  | [d] => { results := [.lit (.bool true)], args := [d] }
  | _ => none }
def rootTablesRow : OpenClaim := { program := "ytoeeceemoggffaa", sum := "108bf25f462eee1dad7104e6dee311f5e0a89f4061cf09cab7403388e7a4432b", func := "penumbra/penumbralaw02.RootTables", spec := "rootTables", inPlace := ["math.sqrt", "math.Float64bits", "math.Float64frombits"], unfollowed := true, recurses := true, plainKeys := false, apart := false }
def RootTablesSaid : Prop := rootTablesRow.holds Try.pinned (OpenSpec.ofChange rootTablesSpec)

/-- ITS FALSE NEIGHBOUR: 'it returns false'. Refute it at one input. -/
def rootTablesWrong : ChangeSpec := { name := "rootTables", fn := fun _ => fun
  | [d] => { results := [.lit (.bool false)], args := [d] }
  | _ => none }
def RootTablesWrongFalsely : Prop := rootTablesRow.holds Try.pinned (OpenSpec.ofChange rootTablesWrong)

/-- 'penumbralaw13.GhostMakes': WHATEVER THE INPUT: true; the input reads as it did. -/
def ghostMakesSpec : ChangeSpec := { name := "ghostMakes", fn := fun _ => fun
  | [d1, d2] => { results := [.lit (.bool true)], args := [d1, d2] }
  | _ => none }
def ghostMakesRow : OpenClaim := { program := "ytoeeceemoggffaa", sum := "108bf25f462eee1dad7104e6dee311f5e0a89f4061cf09cab7403388e7a4432b", func := "penumbra/penumbralaw13.GhostMakes", spec := "ghostMakes", inPlace := ["math.Float64bits", "math.Float64frombits", "math.archFloor", "math.archTrunc"], unfollowed := true, recurses := true, plainKeys := false, apart := false }
def GhostMakesSaid : Prop := ghostMakesRow.holds Try.pinned (OpenSpec.ofChange ghostMakesSpec)

/-- ITS FALSE NEIGHBOUR: 'it returns false'. Refute it at one input. -/
def ghostMakesWrong : ChangeSpec := { name := "ghostMakes", fn := fun _ => fun
  | [d1, d2] => { results := [.lit (.bool false)], args := [d1, d2] }
  | _ => none }
def GhostMakesWrongFalsely : Prop := ghostMakesRow.holds Try.pinned (OpenSpec.ofChange ghostMakesWrong)

/-- 'penumbralaw13.GhostKatz': WHATEVER THE INPUT: true; the input reads as it did. -/
def ghostKatzSpec : ChangeSpec := { name := "ghostKatz", fn := fun _ => fun
  | [d1, d2] => { results := [.lit (.bool true)], args := [d1, d2] }
  | _ => none }
def ghostKatzRow : OpenClaim := { program := "ytoeeceemoggffaa", sum := "108bf25f462eee1dad7104e6dee311f5e0a89f4061cf09cab7403388e7a4432b", func := "penumbra/penumbralaw13.GhostKatz", spec := "ghostKatz", inPlace := ["math.Float64bits", "math.Float64frombits", "math.archFloor", "math.archTrunc"], unfollowed := true, recurses := true, plainKeys := false, apart := false }
def GhostKatzSaid : Prop := ghostKatzRow.holds Try.pinned (OpenSpec.ofChange ghostKatzSpec)

/-- ITS FALSE NEIGHBOUR: 'it returns false'. Refute it at one input. -/
def ghostKatzWrong : ChangeSpec := { name := "ghostKatz", fn := fun _ => fun
  | [d1, d2] => { results := [.lit (.bool false)], args := [d1, d2] }
  | _ => none }
def GhostKatzWrongFalsely : Prop := ghostKatzRow.holds Try.pinned (OpenSpec.ofChange ghostKatzWrong)

/-- 'penumbralaw13.GhostOrders': WHATEVER THE INPUT: true; the input reads as it did. -/
def ghostOrdersSpec : ChangeSpec := { name := "ghostOrders", fn := fun _ => fun
  | [d] => { results := [.lit (.bool true)], args := [d] }
  | _ => none }
def ghostOrdersRow : OpenClaim := { program := "ytoeeceemoggffaa", sum := "108bf25f462eee1dad7104e6dee311f5e0a89f4061cf09cab7403388e7a4432b", func := "penumbra/penumbralaw13.GhostOrders", spec := "ghostOrders", inPlace := ["math.Float64bits", "math.Float64frombits", "math.archFloor", "math.archTrunc"], unfollowed := true, recurses := true, plainKeys := false, apart := false }
def GhostOrdersSaid : Prop := ghostOrdersRow.holds Try.pinned (OpenSpec.ofChange ghostOrdersSpec)

/-- ITS FALSE NEIGHBOUR: 'it returns false'. Refute it at one input. -/
def ghostOrdersWrong : ChangeSpec := { name := "ghostOrders", fn := fun _ => fun
  | [d] => { results := [.lit (.bool false)], args := [d] }
  | _ => none }
def GhostOrdersWrongFalsely : Prop := ghostOrdersRow.holds Try.pinned (OpenSpec.ofChange ghostOrdersWrong)

/-- 'penumbralaw09.RayAdjoint': WHATEVER THE INPUT: true; the input reads as it did. -/
def rayAdjointSpec : ChangeSpec := { name := "rayAdjoint", fn := fun _ => fun
  | [d1, d2, d3] => { results := [.lit (.bool true)], args := [d1, d2, d3] }
  | _ => none }
def rayAdjointRow : OpenClaim := { program := "ytoeeceemoggffaa", sum := "108bf25f462eee1dad7104e6dee311f5e0a89f4061cf09cab7403388e7a4432b", func := "penumbra/penumbralaw09.RayAdjoint", spec := "rayAdjoint", inPlace := ["math.Float64bits", "math.Float64frombits", "math.archFloor", "math.archTrunc"], unfollowed := true, recurses := true, plainKeys := false, apart := false }
def RayAdjointSaid : Prop := rayAdjointRow.holds Try.pinned (OpenSpec.ofChange rayAdjointSpec)

/-- ITS FALSE NEIGHBOUR: 'it returns false'. Refute it at one input. -/
def rayAdjointWrong : ChangeSpec := { name := "rayAdjoint", fn := fun _ => fun
  | [d1, d2, d3] => { results := [.lit (.bool false)], args := [d1, d2, d3] }
  | _ => none }
def RayAdjointWrongFalsely : Prop := rayAdjointRow.holds Try.pinned (OpenSpec.ofChange rayAdjointWrong)

/-- 'penumbralaw14.PeelOpens': WHATEVER THE INPUT: true; the input reads as it did. -/
def peelOpensSpec : ChangeSpec := { name := "peelOpens", fn := fun _ => fun
  | [d1, d2] => { results := [.lit (.bool true)], args := [d1, d2] }
  | _ => none }
def peelOpensRow : OpenClaim := { program := "ytoeeceemoggffaa", sum := "108bf25f462eee1dad7104e6dee311f5e0a89f4061cf09cab7403388e7a4432b", func := "penumbra/penumbralaw14.PeelOpens", spec := "peelOpens", inPlace := ["math.Float64bits", "math.Float64frombits", "math.archFloor", "math.archTrunc"], unfollowed := true, recurses := true, plainKeys := false, apart := false }
def PeelOpensSaid : Prop := peelOpensRow.holds Try.pinned (OpenSpec.ofChange peelOpensSpec)

/-- ITS FALSE NEIGHBOUR: 'it returns false'. Refute it at one input. -/
def peelOpensWrong : ChangeSpec := { name := "peelOpens", fn := fun _ => fun
  | [d1, d2] => { results := [.lit (.bool false)], args := [d1, d2] }
  | _ => none }
def PeelOpensWrongFalsely : Prop := peelOpensRow.holds Try.pinned (OpenSpec.ofChange peelOpensWrong)

/-- 'penumbralaw14.PeelKatz': WHATEVER THE INPUT: true; the input reads as it did. -/
def peelKatzSpec : ChangeSpec := { name := "peelKatz", fn := fun _ => fun
  | [d1, d2] => { results := [.lit (.bool true)], args := [d1, d2] }
  | _ => none }
def peelKatzRow : OpenClaim := { program := "ytoeeceemoggffaa", sum := "108bf25f462eee1dad7104e6dee311f5e0a89f4061cf09cab7403388e7a4432b", func := "penumbra/penumbralaw14.PeelKatz", spec := "peelKatz", inPlace := ["math.Float64bits", "math.Float64frombits", "math.archFloor", "math.archTrunc"], unfollowed := true, recurses := true, plainKeys := false, apart := false }
def PeelKatzSaid : Prop := peelKatzRow.holds Try.pinned (OpenSpec.ofChange peelKatzSpec)

/-- ITS FALSE NEIGHBOUR: 'it returns false'. Refute it at one input. -/
def peelKatzWrong : ChangeSpec := { name := "peelKatz", fn := fun _ => fun
  | [d1, d2] => { results := [.lit (.bool false)], args := [d1, d2] }
  | _ => none }
def PeelKatzWrongFalsely : Prop := peelKatzRow.holds Try.pinned (OpenSpec.ofChange peelKatzWrong)

/-- 'penumbralaw14.PeelOrders': WHATEVER THE INPUT: true; the input reads as it did. -/
def peelOrdersSpec : ChangeSpec := { name := "peelOrders", fn := fun _ => fun
  | [d1, d2, d3] => { results := [.lit (.bool true)], args := [d1, d2, d3] }
  | _ => none }
def peelOrdersRow : OpenClaim := { program := "ytoeeceemoggffaa", sum := "108bf25f462eee1dad7104e6dee311f5e0a89f4061cf09cab7403388e7a4432b", func := "penumbra/penumbralaw14.PeelOrders", spec := "peelOrders", inPlace := ["math.Float64bits", "math.Float64frombits", "math.archFloor", "math.archTrunc"], unfollowed := true, recurses := true, plainKeys := false, apart := false }
def PeelOrdersSaid : Prop := peelOrdersRow.holds Try.pinned (OpenSpec.ofChange peelOrdersSpec)

/-- ITS FALSE NEIGHBOUR: 'it returns false'. Refute it at one input. -/
def peelOrdersWrong : ChangeSpec := { name := "peelOrders", fn := fun _ => fun
  | [d1, d2, d3] => { results := [.lit (.bool false)], args := [d1, d2, d3] }
  | _ => none }
def PeelOrdersWrongFalsely : Prop := peelOrdersRow.holds Try.pinned (OpenSpec.ofChange peelOrdersWrong)

/-- 'penumbratop.WholeAngles': WHATEVER THE INPUT: true; the input reads as it did. -/
def wholeAnglesSpec : ChangeSpec := { name := "wholeAngles", fn := fun _ => fun
  | [d1, d2] => { results := [.lit (.bool true)], args := [d1, d2] }
  | _ => none }
def wholeAnglesRow : OpenClaim := { program := "ytoeeceemoggffaa", sum := "108bf25f462eee1dad7104e6dee311f5e0a89f4061cf09cab7403388e7a4432b", func := "penumbra/penumbratop.WholeAngles", spec := "wholeAngles", inPlace := ["math.Float64bits", "math.Float64frombits", "math.archFloor", "math.archTrunc"], unfollowed := true, recurses := true, plainKeys := false, apart := false }
def WholeAnglesSaid : Prop := wholeAnglesRow.holds Try.pinned (OpenSpec.ofChange wholeAnglesSpec)

/-- ITS FALSE NEIGHBOUR: 'it returns false'. Refute it at one input. -/
def wholeAnglesWrong : ChangeSpec := { name := "wholeAngles", fn := fun _ => fun
  | [d1, d2] => { results := [.lit (.bool false)], args := [d1, d2] }
  | _ => none }
def WholeAnglesWrongFalsely : Prop := wholeAnglesRow.holds Try.pinned (OpenSpec.ofChange wholeAnglesWrong)

/- THE SECOND FORM. 'bulk': how many values and letters a reading holds, each counted each time it is reached (what is shared counts as often as it is met; a slice's spare places count too). A statement '..UptoSaid' is the law's where the arguments, and the package variables that the reading takes, are together of bulk at most 1048576: NARROWER than '..Said'. Prove '..Said' where nothing that the law and all that it calls make is longer than what came in: it says more and counts as full. Else prove '..UptoSaid'. A law counts once. -/
mutual
def uptoBulk {H : Type} : DataW H → Nat
  | .lit (.string bytes) => bytes.length + 1
  | .lit _ => 1
  | .nil => 1
  | .ptr d => uptoBulk d + 1
  | .slice elems spare => uptoBulkAll elems + uptoBulkAll spare + 1
  | .agg parts => uptoBulkAll parts + 1
  | .iface _ d => uptoBulk d + 1
  | .map entries => uptoBulkEntries entries + 1
  | .held _ => 1
def uptoBulkAll {H : Type} : List (DataW H) → Nat
  | [] => 0
  | d :: r => uptoBulk d + uptoBulkAll r
def uptoBulkEntries {H : Type} : List (Lit × DataW H) → Nat
  | [] => 0
  | x :: r => uptoBulkEntry x + uptoBulkEntries r
def uptoBulkEntry {H : Type} : Lit × DataW H → Nat
  | (.string bytes, d) => bytes.length + uptoBulk d + 1
  | (_, d) => uptoBulk d + 1
 end
def uptoSmall : (H : Type) → List (DataW H) → Bool := fun _ ds => decide (uptoBulkAll ds ≤ 1048576)
def OpenSpec.upto (s : _root_.Go.ChangeSpec) : _root_.Go.OpenSpec := { _root_.Go.OpenSpec.ofChange s with cond := some uptoSmall }

/-- 'penumbralaw02.RootEach', WHERE WHAT IT READS IS OF BULK AT MOST 1048576: true; the input reads as it did. -/
def rootEachUptoRow : OpenClaim := { program := "ytoeeceemoggffaa", sum := "108bf25f462eee1dad7104e6dee311f5e0a89f4061cf09cab7403388e7a4432b", func := "penumbra/penumbralaw02.RootEach", spec := "rootEach", inPlace := ["math.sqrt", "math.Float64bits", "math.Float64frombits"], unfollowed := true, recurses := true, plainKeys := false, apart := false, narrowed := true }
def RootEachUptoSaid : Prop := rootEachUptoRow.holds Try.pinned (OpenSpec.upto rootEachSpec)

/-- 'penumbralaw02.RootTurns', WHERE WHAT IT READS IS OF BULK AT MOST 1048576: true; the input reads as it did. -/
def rootTurnsUptoRow : OpenClaim := { program := "ytoeeceemoggffaa", sum := "108bf25f462eee1dad7104e6dee311f5e0a89f4061cf09cab7403388e7a4432b", func := "penumbra/penumbralaw02.RootTurns", spec := "rootTurns", inPlace := ["math.sqrt", "math.Float64bits", "math.Float64frombits"], unfollowed := true, recurses := true, plainKeys := false, apart := false, narrowed := true }
def RootTurnsUptoSaid : Prop := rootTurnsUptoRow.holds Try.pinned (OpenSpec.upto rootTurnsSpec)

/-- 'penumbralaw02.RootNear', WHERE WHAT IT READS IS OF BULK AT MOST 1048576: true; the input reads as it did. -/
def rootNearUptoRow : OpenClaim := { program := "ytoeeceemoggffaa", sum := "108bf25f462eee1dad7104e6dee311f5e0a89f4061cf09cab7403388e7a4432b", func := "penumbra/penumbralaw02.RootNear", spec := "rootNear", inPlace := ["math.sqrt", "math.Float64bits", "math.Float64frombits"], unfollowed := true, recurses := true, plainKeys := false, apart := false, narrowed := true }
def RootNearUptoSaid : Prop := rootNearUptoRow.holds Try.pinned (OpenSpec.upto rootNearSpec)

/-- 'penumbralaw02.RootTables', WHERE WHAT IT READS IS OF BULK AT MOST 1048576: true; the input reads as it did. -/
def rootTablesUptoRow : OpenClaim := { program := "ytoeeceemoggffaa", sum := "108bf25f462eee1dad7104e6dee311f5e0a89f4061cf09cab7403388e7a4432b", func := "penumbra/penumbralaw02.RootTables", spec := "rootTables", inPlace := ["math.sqrt", "math.Float64bits", "math.Float64frombits"], unfollowed := true, recurses := true, plainKeys := false, apart := false, narrowed := true }
def RootTablesUptoSaid : Prop := rootTablesUptoRow.holds Try.pinned (OpenSpec.upto rootTablesSpec)

/-- 'penumbralaw13.GhostMakes', WHERE WHAT IT READS IS OF BULK AT MOST 1048576: true; the input reads as it did. -/
def ghostMakesUptoRow : OpenClaim := { program := "ytoeeceemoggffaa", sum := "108bf25f462eee1dad7104e6dee311f5e0a89f4061cf09cab7403388e7a4432b", func := "penumbra/penumbralaw13.GhostMakes", spec := "ghostMakes", inPlace := ["math.Float64bits", "math.Float64frombits", "math.archFloor", "math.archTrunc"], unfollowed := true, recurses := true, plainKeys := false, apart := false, narrowed := true }
def GhostMakesUptoSaid : Prop := ghostMakesUptoRow.holds Try.pinned (OpenSpec.upto ghostMakesSpec)

/-- 'penumbralaw13.GhostKatz', WHERE WHAT IT READS IS OF BULK AT MOST 1048576: true; the input reads as it did. -/
def ghostKatzUptoRow : OpenClaim := { program := "ytoeeceemoggffaa", sum := "108bf25f462eee1dad7104e6dee311f5e0a89f4061cf09cab7403388e7a4432b", func := "penumbra/penumbralaw13.GhostKatz", spec := "ghostKatz", inPlace := ["math.Float64bits", "math.Float64frombits", "math.archFloor", "math.archTrunc"], unfollowed := true, recurses := true, plainKeys := false, apart := false, narrowed := true }
def GhostKatzUptoSaid : Prop := ghostKatzUptoRow.holds Try.pinned (OpenSpec.upto ghostKatzSpec)

/-- 'penumbralaw13.GhostOrders', WHERE WHAT IT READS IS OF BULK AT MOST 1048576: true; the input reads as it did. -/
def ghostOrdersUptoRow : OpenClaim := { program := "ytoeeceemoggffaa", sum := "108bf25f462eee1dad7104e6dee311f5e0a89f4061cf09cab7403388e7a4432b", func := "penumbra/penumbralaw13.GhostOrders", spec := "ghostOrders", inPlace := ["math.Float64bits", "math.Float64frombits", "math.archFloor", "math.archTrunc"], unfollowed := true, recurses := true, plainKeys := false, apart := false, narrowed := true }
def GhostOrdersUptoSaid : Prop := ghostOrdersUptoRow.holds Try.pinned (OpenSpec.upto ghostOrdersSpec)

/-- 'penumbralaw09.RayAdjoint', WHERE WHAT IT READS IS OF BULK AT MOST 1048576: true; the input reads as it did. -/
def rayAdjointUptoRow : OpenClaim := { program := "ytoeeceemoggffaa", sum := "108bf25f462eee1dad7104e6dee311f5e0a89f4061cf09cab7403388e7a4432b", func := "penumbra/penumbralaw09.RayAdjoint", spec := "rayAdjoint", inPlace := ["math.Float64bits", "math.Float64frombits", "math.archFloor", "math.archTrunc"], unfollowed := true, recurses := true, plainKeys := false, apart := false, narrowed := true }
def RayAdjointUptoSaid : Prop := rayAdjointUptoRow.holds Try.pinned (OpenSpec.upto rayAdjointSpec)

/-- 'penumbralaw14.PeelOpens', WHERE WHAT IT READS IS OF BULK AT MOST 1048576: true; the input reads as it did. -/
def peelOpensUptoRow : OpenClaim := { program := "ytoeeceemoggffaa", sum := "108bf25f462eee1dad7104e6dee311f5e0a89f4061cf09cab7403388e7a4432b", func := "penumbra/penumbralaw14.PeelOpens", spec := "peelOpens", inPlace := ["math.Float64bits", "math.Float64frombits", "math.archFloor", "math.archTrunc"], unfollowed := true, recurses := true, plainKeys := false, apart := false, narrowed := true }
def PeelOpensUptoSaid : Prop := peelOpensUptoRow.holds Try.pinned (OpenSpec.upto peelOpensSpec)

/-- 'penumbralaw14.PeelKatz', WHERE WHAT IT READS IS OF BULK AT MOST 1048576: true; the input reads as it did. -/
def peelKatzUptoRow : OpenClaim := { program := "ytoeeceemoggffaa", sum := "108bf25f462eee1dad7104e6dee311f5e0a89f4061cf09cab7403388e7a4432b", func := "penumbra/penumbralaw14.PeelKatz", spec := "peelKatz", inPlace := ["math.Float64bits", "math.Float64frombits", "math.archFloor", "math.archTrunc"], unfollowed := true, recurses := true, plainKeys := false, apart := false, narrowed := true }
def PeelKatzUptoSaid : Prop := peelKatzUptoRow.holds Try.pinned (OpenSpec.upto peelKatzSpec)

/-- 'penumbralaw14.PeelOrders', WHERE WHAT IT READS IS OF BULK AT MOST 1048576: true; the input reads as it did. -/
def peelOrdersUptoRow : OpenClaim := { program := "ytoeeceemoggffaa", sum := "108bf25f462eee1dad7104e6dee311f5e0a89f4061cf09cab7403388e7a4432b", func := "penumbra/penumbralaw14.PeelOrders", spec := "peelOrders", inPlace := ["math.Float64bits", "math.Float64frombits", "math.archFloor", "math.archTrunc"], unfollowed := true, recurses := true, plainKeys := false, apart := false, narrowed := true }
def PeelOrdersUptoSaid : Prop := peelOrdersUptoRow.holds Try.pinned (OpenSpec.upto peelOrdersSpec)

/-- 'penumbratop.WholeAngles', WHERE WHAT IT READS IS OF BULK AT MOST 1048576: true; the input reads as it did. -/
def wholeAnglesUptoRow : OpenClaim := { program := "ytoeeceemoggffaa", sum := "108bf25f462eee1dad7104e6dee311f5e0a89f4061cf09cab7403388e7a4432b", func := "penumbra/penumbratop.WholeAngles", spec := "wholeAngles", inPlace := ["math.Float64bits", "math.Float64frombits", "math.archFloor", "math.archTrunc"], unfollowed := true, recurses := true, plainKeys := false, apart := false, narrowed := true }
def WholeAnglesUptoSaid : Prop := wholeAnglesUptoRow.holds Try.pinned (OpenSpec.upto wholeAnglesSpec)

end Rows
end Go.Proofs.Ytoeeceemoggffaa
