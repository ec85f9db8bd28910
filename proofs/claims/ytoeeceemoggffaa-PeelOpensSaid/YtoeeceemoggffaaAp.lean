/- A list of directions laid into memory of the call's own by append, and read again. -/
import Derived.Test.YtoeeceemoggffaaMk
import Derived.Test.YtoeeceemoggffaaTw
import Derived.Test.YtoeeceemoggffaaGm
import Derived.Test.YtoeeceemoggffaaOd
import Derived.Laws.AppendOwnNone
namespace Go.Proofs.Ytoeeceemoggffaa
open Go.RowKit
set_option maxHeartbeats 1600000

/-- the words of a list of directions -/
def flatD (ds : List (Int × Int)) : List Value := ds.flatMap fun d => [.int .i64 d.1, .int .i64 d.2]
theorem flatD_length (ds : List (Int × Int)) : (flatD ds).length = ds.length * 2 := by
  induction ds with
  | nil => rfl
  | cons d r ih => simp [flatD] at ih ⊢; omega
theorem flatD_get {ds : List (Int × Int)} : ∀ {i : Nat} {d : Int × Int}, ds[i]? = some d → (flatD ds)[i * 2]? = some (.int .i64 d.1) ∧ (flatD ds)[i * 2 + 1]? = some (.int .i64 d.2) := by
  induction ds with
  | nil => intro i d h; simp at h
  | cons a r ih =>
    intro i d h
    cases i with
    | zero => simp at h; subst h; exact ⟨rfl, rfl⟩
    | succ i =>
      have h' : r[i]? = some d := by simpa using h
      obtain ⟨h1, h2⟩ := ih h'
      have e : flatD (a :: r) = .int .i64 a.1 :: .int .i64 a.2 :: flatD r := rfl
      rw [e, show (i + 1) * 2 = i * 2 + 1 + 1 from by omega]
      exact ⟨by simpa using h1, by simpa using h2⟩
theorem flatD_append (a b : List (Int × Int)) : flatD (a ++ b) = flatD a ++ flatD b := by simp [flatD]
theorem flatD_one (ds : List (Int × Int)) : ∀ u ∈ flatD ds, u.oneCell' = true := by
  intro u hu
  obtain ⟨d, _, h⟩ := List.mem_flatMap.1 hu
  simp at h
  rcases h with rfl | rfl <;> rfl

/-- the words that stand where a list of directions lies -/
theorem Dirs.flat {w : World} {b off : Nat} {ds : List (Int × Int)} (h : Dirs w (some ⟨b, off, none⟩) ds) (j : Nat) (u : Value) (hj : (flatD ds)[j]? = some u) : w.cell? ((⟨b, off, none⟩ : Addr).add j) = some u := by
  have hlt : j < ds.length * 2 := by
    rw [← flatD_length]
    rcases Nat.lt_or_ge j (flatD ds).length with h1 | h1
    · exact h1
    · rw [List.getElem?_eq_none h1] at hj; cases hj
  have hi : ds[j / 2]? = some ds[j / 2] := List.getElem?_eq_getElem (by omega)
  obtain ⟨c0, c1⟩ := h.pair hi
  obtain ⟨f0, f1⟩ := flatD_get hi
  rw [Go.WideShapes.add_plain]
  by_cases hp : j % 2 = 0
  · have e : j = j / 2 * 2 := by omega
    rw [← e] at f0 c0
    rw [c0, ← f0, hj]
  · have e : j = j / 2 * 2 + 1 := by omega
    rw [← e] at f1
    rw [Nat.add_assoc, ← e] at c1
    rw [c1, ← f1, hj]

/-- what is owned and holds a list's words, read as the list -/
theorem dirs_of_row {w : World} {B n : Nat} {v : Value} {ds : List (Int × Int)} (h : w.ownsRow B 51 2 v n (flatD ds)) (hi : ∀ d ∈ ds, I64 d.1 ∧ I64 d.2) (hl : ds.length ≤ 17592186044416) :
    n = ds.length ∧ ∃ A cap, v = .slice A n cap ∧ n ≤ cap ∧ Dirs w A ds ∧ (A = none → cap = 0) := by
  have hn : n = ds.length := by have := h.1; rw [flatD_length] at this; omega
  refine ⟨hn, ?_⟩
  have hlt := h.lt
  rcases h.2 with ⟨rfl, h0⟩ | ⟨g, cap, cur, rfl, hbg, hg, hnc, hcm, hcs, htake⟩
  · refine ⟨none, 0, by rw [h0], by omega, ?_, fun _ => rfl⟩
    have : ds = [] := List.eq_nil_of_length_eq_zero (by omega)
    subst this
    exact ⟨fun i d hi => by simp at hi, fun d hd => by simp at hd, Nat.zero_le _⟩
  · refine ⟨some ⟨g, 0, none⟩, cap, rfl, hnc, ⟨fun i d hd => ?_, hi, hl⟩, fun h => by cases h⟩
    obtain ⟨f0, f1⟩ := flatD_get hd
    have hc := h.cells (g := g) rfl
    have c0 := hc _ _ f0
    have c1 := hc _ _ f1
    rw [Go.WideShapes.add_plain] at c0 c1
    exact ⟨g, 0, rfl, (hlt g rfl).2, c0, by rw [Nat.add_assoc]; exact c1⟩

theorem und42 : Try.prog.underlying 42 = some (.slice 51) := by kernel_rfl
theorem infoDir : (Try.prog.info? 51).map (fun i => (i.zero, i.size, i.bytes)) = some (some (.agg #[.int .i64 0, .int .i64 0]), 2, 16) := by kernel_rfl

section
variable {ops : Array Oper} {rest : List Oper} {o : Oper} {a : Act} {Q : Exit → Act → World → Prop}
/-- append(v, list...) -/
theorem append_dirs {w0 W : World} (B : Nat) (hgd : o.guard = none) (s x : Operand)
    (ho : o.op = .call { callee := .builtin .append, args := #[s, x], argTypes := #[42, 42] })
    (v : Value) (n : Nat) (xs : List (Int × Int)) (A : Option Addr) (cap : Nat) (ds : List (Int × Int)) (hs : a.eval s = v) (hx : a.eval x = .slice A ds.length cap) (hA : A = none → cap = 0)
    (hown : W.ownsRow B 51 2 v n (flatD xs)) (hB : B ≤ W.heap.size) (hb : Below B w0 W) (hD : Dirs W A ds) (hl : (n + ds.length) * 16 ≤ 140737488355328)
    (h : ∀ v1 w1, w1.ownsRow B 51 2 v1 (n + ds.length) (flatD (xs ++ ds)) → Below B w0 w1 → W.heap.size ≤ w1.heap.size → wpList Try.prog ops Q rest (a.put o.dst v1) w1) :
    wpList Try.prog ops Q (o :: rest) a W := by
  obtain ⟨i0, hi, hzz⟩ := Option.map_eq_some_iff.1 infoDir
  simp only [Prod.mk.injEq] at hzz
  obtain ⟨hz0, hz1, hz2⟩ := hzz
  cases A with
  | none =>
    have h0 : ds = [] := by
      cases ds with
      | nil => rfl
      | cons d r => obtain ⟨b, off, e, _⟩ := hD.at_ 0 d rfl; cases e
    subst h0
    have hc := hA rfl
    subst hc
    refine wpList_append_own_none hgd s x _ ho B _ i0 2 und42 hi v n (flatD xs) hs hown hx (h v W (by simpa using hown) hb (Nat.le_refl _))
  | some ad =>
    obtain ⟨b, off, spot, had⟩ : ∃ b off spot, ad = ⟨b, off, spot⟩ := ⟨_, _, _, rfl⟩
    have hcell : ∀ j u, (flatD ds)[j]? = some u → W.cell? (ad.add j) = some u := by
      cases ds with
      | nil => intro j u hj; simp [flatD] at hj
      | cons d r =>
        obtain ⟨b, off, e, _⟩ := hD.at_ 0 d rfl
        simp only [Option.some.injEq] at e
        subst e
        exact hD.flat
    refine wpList_append_own W hgd s x _ ho B _ i0 _ 2 16 und42 hi hz0 hz1 hz2 rfl (by decide) v n (flatD xs) hs hown ad ds.length cap (flatD ds) hx (flatD_length ds) hcell (flatD_one ds) (by unfold maxLen; omega) hl hB ?_
    intro v1 w1 hown1 hg _
    rw [← flatD_append] at hown1
    exact h v1 w1 hown1 (hb.grown hg hB (fun k hk => (hown.lt k hk).1)) hg.size
end

/-- what a slice of directions that came in keeps to -/
theorem dirs_keep {H : Type} {enc : TypeId × Value → H} {w : World} {sp : Nat → Bool} {A0 : Option Addr} {len0 cap0 : Nat} {d : DataW H} {ps : List MemPlace} (h : DataW.Trod enc Try.prog w 0 sp true 42 (.slice A0 len0 cap0) d ps)
    (hsz : ∀ elems spare, d = .slice elems spare → (elems.length + spare.length) * 16 ≤ reachBytes) : (A0 = none → cap0 = 0) ∧ len0 * 16 ≤ 140737488355328 := by
  obtain ⟨fuel, h⟩ := h
  rcases Go.Deep.open_slice_pairs undDirs undDir cellsDir rfl rfl cellsInt cellsInt h with ⟨h0, _⟩ | ⟨a, len, cap, m, n, V0, V1, D0, D1, P0, P1, hc, _, hlc, _, hm, hx, hcell⟩
  · simp [Value.cells] at h0
    obtain ⟨rfl, rfl, rfl⟩ := h0
    exact ⟨fun _ => rfl, by decide⟩
  · simp [Value.cells] at hc
    obtain ⟨rfl, rfl, rfl⟩ := hc
    refine ⟨(fun h => by cases h), ?_⟩
    have hd := (Prod.mk.inj hx).1
    have := hsz _ _ hd
    simp [reachBytes] at this
    omega
end Go.Proofs.Ytoeeceemoggffaa
