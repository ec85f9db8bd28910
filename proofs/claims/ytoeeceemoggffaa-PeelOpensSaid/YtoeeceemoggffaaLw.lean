/- Laws on memory that the call makes itself, for whatever program: an append of one element, rows of complex numbers. -/
import Derived.WalkKit
import Derived.WalkLawsBesides
import Derived.Lib.Hide
import Derived.Deep.QuietTactic
import Derived.BigQuiet
import Derived.Deep.OwnRows
namespace Go.Proofs.Ytoeeceemoggffaa
open Go.RowKit

section
variable {P : Program} (w : World) (a : Addr) (m : Mode)
@[go_sem] theorem run_store_complex (k : FloatKind) (x y : Nat) : (store a (.complex k x y) m).run P w = stored P w a (.complex k x y) m := run_store P w a _ m rfl
@[go_sem] theorem run_store_float (k : FloatKind) (x : Nat) : (store a (.float k x) m).run P w = stored P w a (.float k x) m := run_store P w a _ m rfl
end

theorem own_base {w : World} {base : Nat} {e : TypeId} {size n : Nat} {v : Value} {xs : List Value} (h : w.ownsRow base e size v n xs) (k : Nat) (hk : v.ownBlock = some k) : base ≤ k := (h.lt k hk).1

theorem len_le {xs : List Value} {k : Nat} (h : xs.length ≤ k) (hk : k < 1000000000) : xs.length + 1 ≤ maxLen := by unfold maxLen; omega
theorem len_snoc {xs : List Value} {y : Value} {k : Nat} (h : xs.length ≤ k) : (xs ++ [y]).length ≤ k + 1 := by rw [List.length_append]; exact Nat.succ_le_succ h

/-- below B nothing has turned, and the blocks from B on are the call's own -/
structure Own (B : Nat) (e : TypeId) (w0 w : World) (v : Value) (xs : List Value) : Prop where
  own : w.ownsRow B e 1 v xs.length xs
  below : Below B w0 w
  base : B ≤ w.heap.size

theorem one_new (W : World) (e : TypeId) (y : Value) : ∀ (j : Nat) (u : Value), [y][j]? = some u → (W.alloc (.cells #[y] e)).cell? ((⟨W.heap.size, 0, none⟩ : Addr).add j) = some u := by
  intro j u h
  match j, h with
  | 0, h =>
    obtain rfl : y = u := by simpa using h
    have : (⟨W.heap.size, 0, none⟩ : Addr).add 0 = ⟨W.heap.size, 0, none⟩ := rfl
    rw [this, cell_of_row _ _ 0 #[y] e (0, 0) (heap_alloc_new W _)]
    rfl

section
variable {P : Program} {ops : Array Oper} {rest : List Oper} {o : Oper} {a : Act} {Q : Exit → Act → World → Prop}

/-- append(v, y): behind the box of y -/
theorem append_one {w0 W : World} (B : Nat) (hgd : o.guard = none) (s x : Operand) (t e : TypeId) (z : Value) (bytes : Nat)
    (ho : o.op = .call { callee := .builtin .append, args := #[s, x], argTypes := #[t, t] })
    (ht : P.underlying t = some (.slice e)) (hinfo : (P.info? e).map (fun i => (i.zero, i.size, i.bytes)) = some (some z, 1, bytes)) (hz : z.cells.size = 1)
    (v : Value) (xs : List Value) (y : Value) (hs : a.eval s = v) (hx : a.eval x = .slice (some ⟨W.heap.size, 0, none⟩) 1 1) (h1 : y.oneCell' = true)
    (HO : Own B e w0 W v xs) (hl : xs.length + 1 ≤ maxLen) (hb : (xs.length + 1) * bytes ≤ 140737488355328)
    (h : ∀ v1 w1, Own B e w0 w1 v1 (xs ++ [y]) → W.heap.size ≤ w1.heap.size → wpList P ops Q rest (a.put o.dst v1) w1) :
    wpList P ops Q (o :: rest) a (W.alloc (.cells #[y] e)) := by
  obtain ⟨i0, hi, hzz⟩ := Option.map_eq_some_iff.1 hinfo
  simp only [Prod.mk.injEq] at hzz
  obtain ⟨hz0, hz1, hz2⟩ := hzz
  refine wpList_append_own (W.alloc (.cells #[y] e)) hgd s x t ho B e i0 z 1 bytes ht hi hz0 hz1 hz2 hz (by omega) v xs.length xs hs (HO.own.alloc _) ⟨W.heap.size, 0, none⟩ 1 1 [y] hx rfl
    (one_new W e y) (by simpa using h1) hl hb (by have := HO.base; simp; omega) ?_
  intro v1 w1 hown hg _
  have hs2 : W.heap.size ≤ w1.heap.size := by have := hg.size; simp at this; omega
  exact h v1 w1 ⟨by simpa using hown, (HO.below.alloc HO.base _).grown hg (by have := HO.base; simp; omega) (own_base HO.own), by have := HO.base; omega⟩ hs2
end

theorem Own.nil (w : World) (e : TypeId) : Own w.heap.size e w w (.slice none 0 0) [] := ⟨World.ownsRow_nil _ _ _ _, Below.refl _ _, Nat.le_refl _⟩

/-- the shape of what is owned, where it holds something -/
theorem Own.form {B : Nat} {e : TypeId} {w0 w : World} {v : Value} {xs : List Value} (h : Own B e w0 w v xs) (hn : 0 < xs.length) :
    ∃ g cap, v = .slice (some ⟨g, 0, none⟩) xs.length cap ∧ B ≤ g ∧ g < w.heap.size ∧ ∀ j u, xs[j]? = some u → w.cell? ⟨g, j, none⟩ = some u := by
  rcases h.own.2 with ⟨_, h0⟩ | ⟨g, cap, cur, rfl, hb, hg, _, _, _, htake⟩
  · omega
  · refine ⟨g, cap, rfl, hb, (Array.getElem?_eq_some_iff.1 hg).1, fun j u hu => ?_⟩
    have := h.own.cells (g := g) rfl j u hu
    have ha : (⟨g, 0, none⟩ : Addr).add j = ⟨g, j, none⟩ := by unfold Addr.add; split <;> simp_all
    rwa [ha] at this

/-- what is there in one world is there in a later one -/
theorem cells_below {B g : Nat} {w w1 : World} (hb : Below B w w1) (hg : g < B) {j : Nat} {u : Value} (h : w.cell? ⟨g, j, none⟩ = some u) : w1.cell? ⟨g, j, none⟩ = some u :=
  (hb.cell (p := ⟨g, j, none⟩) hg).trans h

/-- a new block of cells, written out, is owned -/
theorem Own.made (w : World) (e : TypeId) (cs : List Value) (hc : cs.length ≤ maxLen) :
    Own w.heap.size e w (w.alloc (.cells cs.toArray e)) (.slice (some ⟨w.heap.size, 0, none⟩) cs.length cs.length) cs := by
  refine ⟨?_, (Below.refl _ _).alloc (Nat.le_refl _) _, by simp⟩
  refine ⟨by simp, .inr ⟨w.heap.size, cs.length, cs.toArray, rfl, Nat.le_refl _, heap_alloc_new w _, Nat.le_refl _, hc, by simp, by simp⟩⟩

/-- owned from a smaller number on -/
theorem Own.lower {B B' : Nat} {e : TypeId} {w0 w1 w : World} {v : Value} {xs : List Value} (h : Own B e w1 w v xs) (hB : B' ≤ B) (hb : Below B' w0 w1) : Own B' e w0 w v xs := by
  refine ⟨⟨h.own.1, ?_⟩, hb.trans (h.below.mono hB), by have := h.base; omega⟩
  rcases h.own.2 with hn | ⟨g, cap, cur, rfl, hg, rest⟩
  · exact .inl hn
  · exact .inr ⟨g, cap, cur, rfl, by omega, rest⟩

/-- owned still, where nothing below a later number has turned -/
theorem Own.later {B B' : Nat} {e : TypeId} {w0 w w' : World} {v : Value} {xs : List Value} (h : Own B e w0 w v xs) (hb : Below B' w w') (hB : w.heap.size ≤ B') : Own B e w0 w' v xs := by
  have hbase := h.base
  have hsz := hb.size
  refine ⟨⟨h.own.1, ?_⟩, h.below.trans (hb.mono (by omega)), by omega⟩
  rcases h.own.2 with hn | ⟨g, cap, cur, rfl, hg, hgg, rest⟩
  · exact .inl hn
  · refine .inr ⟨g, cap, cur, rfl, hg, ?_, rest⟩
    have := (Array.getElem?_eq_some_iff.1 hgg).1
    rw [hb.block g (by omega)]; exact hgg

/-- a contract that leaves the world alone, inside a region whose order is open -/
theorem quiet_same {P : Program} {f : FuncId} {args : Array Value} {w : World} {n : Nat} {v : Value}
    (h : Calls P f args (w.drewN n) fun e w' => e = .returned v ∧ w.drewN n = w') : Calls P f args (w.drewN n) fun e w'' => e = .returned v ∧ ∃ m, w'' = w.drewN m :=
  h.mono fun _ _ ⟨he, hm⟩ => ⟨he, n, hm.symm⟩

/-- the world is the old one, some orders having been drawn -/
def Drawn (w w' : World) : Prop := ∃ n, w' = w.drewN n
theorem Drawn.refl (w : World) : Drawn w w := ⟨0, rfl⟩
theorem Drawn.more {w w' : World} (h : Drawn w w') (n : Nat) : Drawn w (w'.drewN n) := by
  obtain ⟨m, rfl⟩ := h
  exact ⟨m + n, World.drewN_drewN ..⟩
theorem Drawn.cell {w w' : World} (h : Drawn w w') (a : Addr) : w'.cell? a = w.cell? a := by
  obtain ⟨m, rfl⟩ := h
  rfl
theorem Drawn.below {w w' : World} (h : Drawn w w') (B : Nat) : Below B w w' := by
  obtain ⟨m, rfl⟩ := h
  exact below_drewN (Below.refl _ _) _

/-- make([]T, n): a row of zeros -/
theorem Own.zeros (w : World) (e : TypeId) (z : Value) (n : Nat) (hn : n ≤ maxLen) :
    Own w.heap.size e w (w.alloc (.cells (madeCells #[z] n) e)) (.slice (some ⟨w.heap.size, 0, none⟩) n n) (List.replicate n z) := by
  refine ⟨?_, (Below.refl _ _).alloc (Nat.le_refl _) _, by simp⟩
  refine ⟨by simp, .inr ⟨w.heap.size, n, _, by rw [List.length_replicate], Nat.le_refl _, heap_alloc_new w _, by simp, hn, by simp [size_madeCells], ?_⟩⟩
  rw [toList_madeCells_one, List.length_replicate, Nat.mul_one, List.take_of_length_le (by simp)]

/-- a store into what is owned -/
theorem Own.stored {B : Nat} {e : TypeId} {w0 w : World} {g n cap : Nat} {xs : List Value} (h : Own B e w0 w (.slice (some ⟨g, 0, none⟩) n cap) xs) (hn : n = xs.length) (j : Nat) (u : Value) :
    Own B e w0 (w.setCell ⟨g, j, none⟩ u) (.slice (some ⟨g, 0, none⟩) n cap) (xs.set j u) := by
  subst hn
  have hs := h.own.stored j u
  have hg := own_base h.own g rfl
  exact ⟨by simpa using hs.1, h.below.setCell hg u, by have := h.base; simpa [World.setCell] using this⟩

theorem Own.cell {B : Nat} {e : TypeId} {w0 w : World} {g n cap : Nat} {xs : List Value} (h : Own B e w0 w (.slice (some ⟨g, 0, none⟩) n cap) xs) {j : Nat} {u : Value} (hj : xs[j]? = some u) : w.cell? ⟨g, j, none⟩ = some u := by
  have := h.own.cells (g := g) rfl j u hj
  have ha : (⟨g, 0, none⟩ : Addr).add j = ⟨g, j, none⟩ := by unfold Addr.add; split <;> simp_all
  rwa [ha] at this

theorem Own.free {B : Nat} {e : TypeId} {w0 w : World} {g n cap : Nat} {xs : List Value} (h : Own B e w0 w (.slice (some ⟨g, 0, none⟩) n cap) xs) (hn : n = xs.length) (j : Nat) : w.frozen? ⟨g, j, none⟩ = false := by
  subst hn
  exact h.own.frozenAt j

theorem Own.lt {B : Nat} {e : TypeId} {w0 w : World} {g n cap : Nat} {xs : List Value} (h : Own B e w0 w (.slice (some ⟨g, 0, none⟩) n cap) xs) : B ≤ g ∧ g < w.heap.size := h.own.lt g rfl

/-- a draw turns nothing of it -/
theorem Own.drew {B : Nat} {e : TypeId} {w0 w : World} {v : Value} {xs : List Value} (h : Own B e w0 w v xs) : Own B e w0 w.drew v xs :=
  ⟨h.own.drew, h.below.drew, h.base⟩

/-- a list made place by place -/
def upTo {α : Type} (d : α) (f : Nat → α) (n k : Nat) : List α := (List.range n).map fun i => if i < k then f i else d
theorem upTo_zero {α : Type} (d : α) (f : Nat → α) (n : Nat) : upTo d f n 0 = List.replicate n d := by
  apply List.ext_getElem
  · simp [upTo]
  · intro i h1 h2; simp [upTo]
theorem upTo_length {α : Type} (d : α) (f : Nat → α) (n k : Nat) : (upTo d f n k).length = n := by simp [upTo]
theorem upTo_set {α : Type} (d : α) (f : Nat → α) (n k : Nat) : (upTo d f n k).set k (f k) = upTo d f n (k + 1) := by
  apply List.ext_getElem
  · simp [upTo]
  · intro i h1 h2
    rw [List.getElem_set]
    simp only [upTo, List.getElem_map, List.getElem_range]
    by_cases h : k = i
    · subst h; simp
    · rw [if_neg h]
      by_cases h3 : i < k
      · rw [if_pos h3, if_pos (by omega)]
      · rw [if_neg h3, if_neg (by omega)]
theorem upTo_full {α : Type} (d : α) (f : Nat → α) (n : Nat) : upTo d f n n = (List.range n).map f := by
  apply List.map_congr_left
  intro i hi
  rw [List.mem_range] at hi
  rw [if_pos hi]
theorem upTo_get {α : Type} (d : α) (f : Nat → α) {n k j : Nat} (hj : j < n) : (upTo d f n k)[j]? = some (if j < k then f j else d) := by
  rw [upTo, List.getElem?_map, List.getElem?_eq_getElem (by simpa using hj)]
  simp

theorem Drawn.frozen {w w' : World} (h : Drawn w w') (a : Addr) : w'.frozen? a = w.frozen? a := by
  obtain ⟨m, rfl⟩ := h
  rfl
theorem Drawn.size {w w' : World} (h : Drawn w w') : w'.heap.size = w.heap.size := by
  obtain ⟨m, rfl⟩ := h
  rfl
theorem Drawn.trans {a b c : World} (h : Drawn a b) (k : Drawn b c) : Drawn a c := by
  obtain ⟨m, rfl⟩ := k
  exact h.more m
theorem new_cell (w : World) (cs : Array Value) (e : TypeId) (j : Nat) : (w.alloc (.cells cs e)).cell? ⟨w.heap.size, j, none⟩ = cs[j]? :=
  cell_of_row _ _ j cs e (0, 0) (heap_alloc_new w _)
theorem new_free (w : World) (cs : Array Value) (e : TypeId) (j : Nat) : (w.alloc (.cells cs e)).frozen? ⟨w.heap.size, j, none⟩ = false :=
  frozen_of_row _ _ j cs e (heap_alloc_new w _)
theorem new_size (w : World) (o : Obj) : (w.alloc o).heap.size = w.heap.size + 1 := by simp

theorem quiet_drawn {P : Program} {f : FuncId} {args : Array Value} {w : World} {n : Nat} {v : Value}
    (h : Calls P f args (w.drewN n) fun e w' => e = .returned v ∧ Drawn (w.drewN n) w') : Calls P f args (w.drewN n) fun e w'' => e = .returned v ∧ ∃ m, w'' = w.drewN m :=
  h.mono fun _ _ ⟨he, m, hm⟩ => ⟨he, n + m, by rw [hm, World.drewN_drewN]⟩
end Go.Proofs.Ytoeeceemoggffaa
