/- Directions as the keys of a map: the law of such keys, what each reads as. -/
import Derived.Test.YtoeeceemoggffaaDc
import Derived.DeepKeys4
import Derived.Maps.OwnSet
namespace Go.Proofs.Ytoeeceemoggffaa
open Go.RowKit Go.Maps
set_option maxHeartbeats 400000

theorem undDir : Try.prog.underlying 51 = some (.struct #[{ name := "P", type := 3, offset := 0, embedded := false, tag := "", pkgPath := "", byteOffset := 0 }, { name := "Q", type := 3, offset := 1, embedded := false, tag := "", pkgPath := "", byteOffset := 8 }]) := by kernel_rfl
theorem undInt : Try.prog.underlying 3 = some (.int .i64) := by kernel_rfl
theorem undSet : Try.prog.underlying 95 = some (.map 51 97) := by kernel_rfl
theorem laidOut : laidOutB Try.prog = true := by kernel_rfl
theorem rowDir : (51 : TypeId) < Try.prog.types.size := of_decide_eq_true (by kernel_rfl)
theorem smallTypes : Try.prog.types.size + 2 ≤ 10000 := of_decide_eq_true (by kernel_rfl)
theorem keyTypeDir : Try.prog.keyType 51 = true := by kernel_rfl
theorem lawDir : Keyed Try.prog 51 := Keyed.of_law (deep_law_laid laidOut smallTypes rowDir keyTypeDir (by rw [undDir]))
theorem zeroUnit (w : World) : (zeroValue 97).run Try.prog w = .ok (.agg #[]) w := by kernel_rfl

/-- what a direction reads as, where it is a key -/
def kd (d : Int × Int) : Lit := .string (keyBytes [.int .i64 d.1, .int .i64 d.2])
theorem key_two {P : Program} {k t : TypeId} {p q : Int} {n0 n1 : String} {b0 b1 : Bool} {t0 t1 g0 g1 : String} {o0 o1 : Nat} (wp : (Lit.int .i64 p).wf = true) (wq : (Lit.int .i64 q).wf = true)
    (hu : P.underlying k = some (.struct #[{ name := n0, type := t, offset := 0, embedded := b0, tag := t0, pkgPath := g0, byteOffset := o0 }, { name := n1, type := t, offset := 1, embedded := b1, tag := t1, pkgPath := g1, byteOffset := o1 }]))
    (h0 : (n0 != "_") = true) (h1 : (n1 != "_") = true) (hn : P.underlying t = some (.int .i64)) (hk : P.keyType k = true) (hc : P.cellsOf k = 2) (hi : P.cellsOf t = 1) (hs : 0 < P.types.size) :
    keyOf P k (.agg #[.int .i64 p, .int .i64 q]) = some (kd (p, q)) := by
  obtain ⟨m, hm⟩ : ∃ m, P.types.size = m + 1 := ⟨P.types.size - 1, by omega⟩
  have h2 : ¬ n0 = "_" := by simpa using h0
  have h3 : ¬ n1 = "_" := by simpa using h1
  unfold keyOf
  rw [hu]
  simp [hk, Value.formed, hu, hc, hm, Program.keyLits, Value.cells, hi, hn, wp, wq, kd, h2, h3]
theorem cellsDir : Try.prog.cellsOf 51 = 2 := by kernel_rfl
theorem cellsInt : Try.prog.cellsOf 3 = 1 := by kernel_rfl
theorem key_dir {p q : Int} (hp : I64 p) (hq : I64 q) : keyOf Try.prog 51 (.agg #[.int .i64 p, .int .i64 q]) = some (kd (p, q)) :=
  key_two (WalkArith.wf_i64 hp) (WalkArith.wf_i64 hq) undDir (by decide) (by decide) undInt keyTypeDir cellsDir cellsInt (Nat.lt_of_le_of_lt (Nat.zero_le _) rowDir)

theorem kd_key (d : Int × Int) : WideAt.IsKeyLit (kd d) := trivial
theorem kd_inj {a b : Int × Int} (ha : I64 a.1 ∧ I64 a.2) (hb : I64 b.1 ∧ I64 b.2) (h : kd a = kd b) : a = b := by
  have h1 := key_dir ha.1 ha.2
  have h2 := key_dir hb.1 hb.2
  have h3 := lawDir.inj h1 (by rw [h2]; exact congrArg some h.symm)
  simp only [Value.agg.injEq, Array.mk.injEq, List.cons.injEq, Value.int.injEq, true_and, and_true] at h3
  exact Prod.ext h3.1 h3.2

/-- the set of a list of directions -/
def setD (ds : List (Int × Int)) : DataW Unit := setOf (.agg []) (ds.map kd)
theorem setD_nil : setD [] = .map [] := rfl
theorem setD_snoc (ds : List (Int × Int)) (d : Int × Int) : (setD ds).put (kd d) (.agg []) = setD (ds ++ [d]) := by
  unfold setD
  rw [List.map_append, List.map_cons, List.map_nil, setOf_snoc]
theorem has_setD {ds : List (Int × Int)} {d : Int × Int} (hd : I64 d.1 ∧ I64 d.2) (hds : ∀ e ∈ ds, I64 e.1 ∧ I64 e.2) : Maps.has (setD ds) (kd d) = decide (d ∈ ds) := by
  unfold setD
  rw [has_setOf _ _ _ (by intro x hx; obtain ⟨e, _, rfl⟩ := List.mem_map.1 hx; exact kd_key e)]
  apply Bool.eq_iff_iff.2
  simp only [List.any_eq_true, List.mem_map, decide_eq_true_eq]
  constructor
  · rintro ⟨x, ⟨e, he, rfl⟩, hs⟩
    have := kd_inj (hds e he) hd (WideAt.sameKey_eq hs)
    rwa [← this]
  · intro h
    exact ⟨_, ⟨d, h, rfl⟩, WideAt.sameKey_self (kd_key d)⟩
end Go.Proofs.Ytoeeceemoggffaa
