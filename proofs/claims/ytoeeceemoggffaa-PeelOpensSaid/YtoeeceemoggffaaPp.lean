/- Counting cells on lines, with no program in sight: how many open cells a line has, the sum of their numbers; what shutting a cell does to both.
The memory of peel's board: one predicate, and what each kind of step does to it.
(*board).line of package peel: the line of a cell.
(*board).next of package peel: a place whose line has one open cell, and that cell; or none is left.
(*board).shut of package peel: a cell is shut, each of its lines is told. -/
import Derived.Test.YtoeeceemoggffaaHh
import Derived.Deep.OwnRows
import Derived.Test.YtoeeceemoggffaaLp
import Derived.StillTailTactics
namespace Go.Proofs.Ytoeeceemoggffaa

/-- the open cells among the first M that lie on line i -/
def cnt (ln : Nat → Nat) (S : Nat → Bool) : Nat → Nat → Nat
  | 0, _ => 0
  | M + 1, i => cnt ln S M i + (if S M = true ∧ ln M = i then 1 else 0)
/-- the sum of their numbers -/
def sms (ln : Nat → Nat) (S : Nat → Bool) : Nat → Nat → Nat
  | 0, _ => 0
  | M + 1, i => sms ln S M i + (if S M = true ∧ ln M = i then M else 0)
/-- how many are open -/
def opn (S : Nat → Bool) : Nat → Nat
  | 0 => 0
  | M + 1 => opn S M + (if S M = true then 1 else 0)
def shutC (S : Nat → Bool) (x : Nat) : Nat → Bool := fun c => if c = x then false else S c

theorem cnt_le (ln : Nat → Nat) (S : Nat → Bool) (M i : Nat) : cnt ln S M i ≤ M := by
  induction M with
  | zero => exact Nat.le_refl _
  | succ M ih => unfold cnt; split <;> omega
theorem sms_le (ln : Nat → Nat) (S : Nat → Bool) (M i : Nat) : sms ln S M i ≤ M * M := by
  induction M with
  | zero => exact Nat.le_refl _
  | succ M ih =>
    unfold sms
    have : (M + 1) * (M + 1) = M * M + M + M + 1 := by rw [Nat.add_mul, Nat.mul_add]; omega
    split <;> omega
theorem opn_le (S : Nat → Bool) (M : Nat) : opn S M ≤ M := by
  induction M with
  | zero => exact Nat.le_refl _
  | succ M ih => unfold opn; split <;> omega
theorem opn_all (M : Nat) : opn (fun _ => true) M = M := by
  induction M with
  | zero => rfl
  | succ M ih => unfold opn; rw [ih]; simp
theorem opn_zero {S : Nat → Bool} : ∀ {M : Nat}, (∀ c, c < M → S c = false) → opn S M = 0
  | 0, _ => rfl
  | M + 1, h => by
    unfold opn
    rw [opn_zero (fun c hc => h c (by omega)), h M (by omega)]
    simp
theorem opn_mono {S T : Nat → Bool} : ∀ {M : Nat}, (∀ c, c < M → S c = true → T c = true) → opn S M ≤ opn T M
  | 0, _ => Nat.le_refl _
  | M + 1, h => by
    unfold opn
    have := opn_mono (M := M) (fun c hc => h c (by omega))
    have h2 := h M (by omega)
    by_cases hS : S M = true
    · rw [if_pos hS, if_pos (h2 hS)]; omega
    · rw [if_neg hS]; omega
theorem opn_congr {S T : Nat → Bool} : ∀ {M : Nat}, (∀ c, c < M → S c = T c) → opn S M = opn T M
  | 0, _ => rfl
  | M + 1, h => by
    unfold opn
    rw [opn_congr (M := M) (fun c hc => h c (by omega)), h M (by omega)]

theorem cnt_shut_past {ln : Nat → Nat} {S : Nat → Bool} {x : Nat} : ∀ {M : Nat}, M ≤ x → ∀ i, cnt ln (shutC S x) M i = cnt ln S M i
  | 0, _, _ => rfl
  | M + 1, h, i => by
    unfold cnt
    rw [cnt_shut_past (by omega) i]
    have : shutC S x M = S M := by unfold shutC; rw [if_neg (by omega)]
    rw [this]
theorem sms_shut_past {ln : Nat → Nat} {S : Nat → Bool} {x : Nat} : ∀ {M : Nat}, M ≤ x → ∀ i, sms ln (shutC S x) M i = sms ln S M i
  | 0, _, _ => rfl
  | M + 1, h, i => by
    unfold sms
    rw [sms_shut_past (by omega) i]
    have : shutC S x M = S M := by unfold shutC; rw [if_neg (by omega)]
    rw [this]
theorem opn_shut_past {S : Nat → Bool} {x : Nat} : ∀ {M : Nat}, M ≤ x → opn (shutC S x) M = opn S M
  | 0, _ => rfl
  | M + 1, h => by
    unfold opn
    rw [opn_shut_past (by omega)]
    have : shutC S x M = S M := by unfold shutC; rw [if_neg (by omega)]
    rw [this]

theorem cnt_shut {ln : Nat → Nat} {S : Nat → Bool} {x : Nat} (hS : S x = true) (i : Nat) : ∀ {M : Nat}, x < M → cnt ln (shutC S x) M i + (if ln x = i then 1 else 0) = cnt ln S M i
  | 0, h => by omega
  | M + 1, h => by
    unfold cnt
    by_cases e : x = M
    · subst e
      rw [cnt_shut_past (Nat.le_refl _)]
      have : shutC S x x = false := by unfold shutC; rw [if_pos rfl]
      rw [this, hS]
      simp
    · have ih := cnt_shut hS i (M := M) (by omega) (ln := ln)
      have : shutC S x M = S M := by unfold shutC; rw [if_neg (by omega)]
      rw [this]
      omega
theorem sms_shut {ln : Nat → Nat} {S : Nat → Bool} {x : Nat} (hS : S x = true) (i : Nat) : ∀ {M : Nat}, x < M → sms ln (shutC S x) M i + (if ln x = i then x else 0) = sms ln S M i
  | 0, h => by omega
  | M + 1, h => by
    unfold sms
    by_cases e : x = M
    · subst e
      rw [sms_shut_past (Nat.le_refl _)]
      have : shutC S x x = false := by unfold shutC; rw [if_pos rfl]
      rw [this, hS]
      simp
    · have ih := sms_shut hS i (M := M) (by omega) (ln := ln)
      have : shutC S x M = S M := by unfold shutC; rw [if_neg (by omega)]
      rw [this]
      omega
theorem opn_shut {S : Nat → Bool} {x : Nat} (hS : S x = true) : ∀ {M : Nat}, x < M → opn (shutC S x) M + 1 = opn S M
  | 0, h => by omega
  | M + 1, h => by
    unfold opn
    by_cases e : x = M
    · subst e
      rw [opn_shut_past (Nat.le_refl _)]
      have : shutC S x x = false := by unfold shutC; rw [if_pos rfl]
      rw [this, hS]
      simp
    · have ih := opn_shut hS (M := M) (by omega)
      have : shutC S x M = S M := by unfold shutC; rw [if_neg (by omega)]
      rw [this]
      omega

theorem cnt_zero {ln : Nat → Nat} {S : Nat → Bool} {i : Nat} : ∀ {M : Nat}, cnt ln S M i = 0 → sms ln S M i = 0 ∧ ∀ c, c < M → S c = true → ln c ≠ i
  | 0, _ => ⟨rfl, fun c hc => by omega⟩
  | M + 1, h => by
    unfold cnt at h
    have h0 : ¬ (S M = true ∧ ln M = i) := by
      intro h1
      rw [if_pos h1] at h
      omega
    rw [if_neg h0] at h
    obtain ⟨h1, h2⟩ := cnt_zero (M := M) (by omega)
    refine ⟨by unfold sms; rw [if_neg h0, h1], fun c hc hS he => ?_⟩
    by_cases e : c = M
    · exact h0 (by rw [← e]; exact ⟨hS, he⟩)
    · exact h2 c (by omega) hS he
/-- a line with one open cell: the sum is that cell -/
theorem cnt_one {ln : Nat → Nat} {S : Nat → Bool} {i : Nat} : ∀ {M : Nat}, cnt ln S M i = 1 → ∃ x, x < M ∧ S x = true ∧ ln x = i ∧ sms ln S M i = x ∧ ∀ c, c < M → S c = true → ln c = i → c = x
  | 0, h => by cases h
  | M + 1, h => by
    unfold cnt at h
    by_cases h0 : S M = true ∧ ln M = i
    · rw [if_pos h0] at h
      obtain ⟨h1, h2⟩ := cnt_zero (M := M) (i := i) (ln := ln) (S := S) (by omega)
      refine ⟨M, by omega, h0.1, h0.2, by unfold sms; rw [if_pos h0, h1]; omega, fun c hc hS he => ?_⟩
      by_cases e : c = M
      · exact e
      · exact absurd he (h2 c (by omega) hS)
    · rw [if_neg h0] at h
      obtain ⟨x, h1, h2, h3, h4, h5⟩ := cnt_one (M := M) (i := i) (ln := ln) (S := S) (by omega)
      refine ⟨x, by omega, h2, h3, by unfold sms; rw [if_neg h0, h4]; omega, fun c hc hS he => ?_⟩
      by_cases e : c = M
      · exact absurd (by rw [← e]; exact ⟨hS, he⟩) h0
      · exact h5 c (by omega) hS he
/-- two open cells on a line: the count is at least two -/
theorem cnt_pos {ln : Nat → Nat} {S : Nat → Bool} {i x : Nat} (hS : S x = true) (he : ln x = i) : ∀ {M : Nat}, x < M → 0 < cnt ln S M i := fun {M} hx => by
  rcases Nat.eq_zero_or_pos (cnt ln S M i) with h | h
  · exact absurd he ((cnt_zero h).2 x hx hS)
  · exact h
theorem cnt_alone {ln : Nat → Nat} {S : Nat → Bool} {i x M : Nat} (hx : x < M) (hS : S x = true) (he : ln x = i) (h : cnt ln S M i ≠ 1) : ∃ c, c < M ∧ c ≠ x ∧ S c = true ∧ ln c = i := by
  have h1 := cnt_shut (ln := ln) hS i hx
  rw [if_pos he] at h1
  have h2 := cnt_pos hS he hx
  have h3 : cnt ln (shutC S x) M i ≠ 0 := by omega
  refine Classical.byContradiction fun hno => h3 ?_
  clear h h1 h2 h3
  have key : ∀ m, m ≤ M → cnt ln (shutC S x) m i = 0 := by
    intro m
    induction m with
    | zero => intro _; rfl
    | succ m ih =>
      intro hm
      unfold cnt
      rw [ih (by omega), if_neg ?_]
      rintro ⟨h4, h5⟩
      unfold shutC at h4
      split at h4
      · cases h4
      · rename_i hne
        exact hno ⟨m, by omega, hne, h4, h5⟩
  exact key M (Nat.le_refl _)
end Go.Proofs.Ytoeeceemoggffaa

namespace Go.Proofs.Ytoeeceemoggffaa
open Go.RowKit Go.Lib
set_option maxHeartbeats 800000
set_option linter.unusedVariables false

/-- a slice from the head of block g on -/
abbrev sl (g n cap : Nat) : Value := .slice (some ⟨g, 0, none⟩) n cap

/-- the struct's seven cells -/
structure Str (w : World) (b n : Nat) (dv sv ov cv gv rv : Value) : Prop where
  c0 : w.cell? ⟨b, 0, none⟩ = some (.int .i64 n)
  c1 : w.cell? ⟨b, 1, none⟩ = some dv
  c2 : w.cell? ⟨b, 2, none⟩ = some sv
  c3 : w.cell? ⟨b, 3, none⟩ = some ov
  c4 : w.cell? ⟨b, 4, none⟩ = some cv
  c5 : w.cell? ⟨b, 5, none⟩ = some gv
  c6 : w.cell? ⟨b, 6, none⟩ = some rv
  fz : ∀ j, w.frozen? ⟨b, j, none⟩ = false
section
variable {w w' : World} {b n : Nat} {dv sv ov cv gv rv : Value}
theorem Str.keep (h : Str w b n dv sv ov cv gv rv) (e : w'.heap[b]? = w.heap[b]?) : Str w' b n dv sv ov cv gv rv :=
  have c : ∀ j, w'.cell? ⟨b, j, none⟩ = w.cell? ⟨b, j, none⟩ := fun j => World.cell?_of_block e
  ⟨(c 0).trans h.c0, (c 1).trans h.c1, (c 2).trans h.c2, (c 3).trans h.c3, (c 4).trans h.c4, (c 5).trans h.c5, (c 6).trans h.c6, fun j => (World.frozen?_of_block e).trans (h.fz j)⟩
theorem set_far (w : World) (b i j : Nat) (v : Value) (h : i ≠ j) : (w.setCell ⟨b, i, none⟩ v).cell? ⟨b, j, none⟩ = w.cell? ⟨b, j, none⟩ :=
  World.cell?_setCell_other (h := fun e => h (Addr.mk.inj e).2.1) ..
theorem Str.set2 (h : Str w b n dv sv ov cv gv rv) (v : Value) : Str (w.setCell ⟨b, 2, none⟩ v) b n dv v ov cv gv rv :=
  ⟨(set_far w b 2 0 v (by decide)).trans h.c0, (set_far w b 2 1 v (by decide)).trans h.c1, World.cell?_setCell_same _ _ _ h.c2, (set_far w b 2 3 v (by decide)).trans h.c3, (set_far w b 2 4 v (by decide)).trans h.c4, (set_far w b 2 5 v (by decide)).trans h.c5, (set_far w b 2 6 v (by decide)).trans h.c6, fun j => by rw [World.frozen?_setCell]; exact h.fz j⟩
theorem Str.set4 (h : Str w b n dv sv ov cv gv rv) (v : Value) : Str (w.setCell ⟨b, 4, none⟩ v) b n dv sv ov v gv rv :=
  ⟨(set_far w b 4 0 v (by decide)).trans h.c0, (set_far w b 4 1 v (by decide)).trans h.c1, (set_far w b 4 2 v (by decide)).trans h.c2, (set_far w b 4 3 v (by decide)).trans h.c3, World.cell?_setCell_same _ _ _ h.c4, (set_far w b 4 5 v (by decide)).trans h.c5, (set_far w b 4 6 v (by decide)).trans h.c6, fun j => by rw [World.frozen?_setCell]; exact h.fz j⟩
theorem Str.set5 (h : Str w b n dv sv ov cv gv rv) (v : Value) : Str (w.setCell ⟨b, 5, none⟩ v) b n dv sv ov cv v rv :=
  ⟨(set_far w b 5 0 v (by decide)).trans h.c0, (set_far w b 5 1 v (by decide)).trans h.c1, (set_far w b 5 2 v (by decide)).trans h.c2, (set_far w b 5 3 v (by decide)).trans h.c3, (set_far w b 5 4 v (by decide)).trans h.c4, World.cell?_setCell_same _ _ _ h.c5, (set_far w b 5 6 v (by decide)).trans h.c6, fun j => by rw [World.frozen?_setCell]; exact h.fz j⟩
theorem Str.set6 (h : Str w b n dv sv ov cv gv rv) (v : Value) : Str (w.setCell ⟨b, 6, none⟩ v) b n dv sv ov cv gv v :=
  ⟨(set_far w b 6 0 v (by decide)).trans h.c0, (set_far w b 6 1 v (by decide)).trans h.c1, (set_far w b 6 2 v (by decide)).trans h.c2, (set_far w b 6 3 v (by decide)).trans h.c3, (set_far w b 6 4 v (by decide)).trans h.c4, (set_far w b 6 5 v (by decide)).trans h.c5, World.cell?_setCell_same _ _ _ h.c6, fun j => by rw [World.frozen?_setCell]; exact h.fz j⟩
theorem Str.lt (h : Str w b n dv sv ov cv gv rv) : b < w.heap.size := block_lt_of_cell h.c0
end

theorem own_keep {w w' : World} {B : Nat} {e : TypeId} {z : Nat} {v : Value} {n : Nat} {xs : List Value} (h : w.ownsRow B e z v n xs) (k : ∀ g, v.ownBlock = some g → w'.heap[g]? = w.heap[g]?) : w'.ownsRow B e z v n xs := by
  refine ⟨h.1, ?_⟩
  rcases h.2 with hn | ⟨g, cap, cur, rfl, hb, hg, rest⟩
  · exact .inl hn
  · exact .inr ⟨g, cap, cur, rfl, hb, (k g rfl).trans hg, rest⟩

/-- what has turned: only blocks whose tag is in p (and new ones) -/
structure Chg (T T' : Nat → Nat) (p : Nat → Prop) (w w' : World) : Prop where
  os : w'.os = w.os
  tape : w'.tape = w.tape
  output : w'.output = w.output
  size : w.heap.size ≤ w'.heap.size
  block : ∀ x, x < w.heap.size → ¬ p (T x) → w'.heap[x]? = w.heap[x]?
  tags : ∀ x, x < w.heap.size → T' x = T x
  new : ∀ x, T' x ≠ 0 → x < w'.heap.size

abbrev starts (st : Nat → Nat) (k : Nat) : List Value := (List.range k).map fun j => .int .i64 (st j : Nat)
abbrev rowsV (C bn : Nat → Nat) (k : Nat) : List Value := (List.range k).map fun j => sl (C j) (bn j) (bn j)

/-- the board -/
structure Brd (w0 : World) (T : Nat → Nat) (b o n M : Nat) (dv : Value) (st bn : Nat → Nat) (sv cv gv rv : Value) (C G : Nat → Nat) (ks kc kg : Nat) (S : Nat → Bool) (cf gf : Nat → Nat → Nat) (l : List (Int × Int)) (w : World) : Prop where
  below : Below w0.heap.size w0 w
  lt : ∀ x, T x ≠ 0 → w0.heap.size ≤ x ∧ x < w.heap.size
  str : Str w b n dv sv (sl o M M) cv gv rv
  own_s : w.ownsRow 0 3 1 sv ks (starts st ks)
  own_c : w.ownsRow 0 118 1 cv kc (rowsV C bn kc)
  own_g : w.ownsRow 0 118 1 gv kg (rowsV G bn kg)
  own_r : w.ownsRow 0 113 2 rv l.length (flatD l)
  opn : w.rowIs o 4 M fun i => .bool (S i)
  cnt : ∀ j, j < kc → w.rowIs (C j) 3 (bn j) fun i => .int .i64 (cf j i : Nat)
  sms : ∀ j, j < kg → w.rowIs (G j) 3 (bn j) fun i => .int .i64 (gf j i : Nat)
  tb : T b = 1
  t_o : T o = 2
  ts : ∀ g, sv.ownBlock = some g → T g = 3
  tc : ∀ g, cv.ownBlock = some g → T g = 4
  tg : ∀ g, gv.ownBlock = some g → T g = 5
  tr : ∀ g, rv.ownBlock = some g → T g = 6
  tC : ∀ j, j < kc → T (C j) = 10 + 2 * j
  tG : ∀ j, j < kg → T (G j) = 11 + 2 * j

section
variable {w0 : World} {T T' : Nat → Nat} {b o n M : Nat} {dv : Value} {st bn : Nat → Nat} {sv cv gv rv : Value} {C G : Nat → Nat} {ks kc kg : Nat} {S : Nat → Bool} {cf gf : Nat → Nat → Nat} {l : List (Int × Int)} {w w' : World} {p : Nat → Prop}
abbrev BrdAt (w0 : World) (T : Nat → Nat) (b o n M : Nat) (dv : Value) (st bn : Nat → Nat) (sv cv gv rv : Value) (C G : Nat → Nat) (ks kc kg : Nat) (S : Nat → Bool) (cf gf : Nat → Nat → Nat) (l : List (Int × Int)) (w : World) : Prop := Brd w0 T b o n M dv st bn sv cv gv rv C G ks kc kg S cf gf l w

theorem Brd.live (h : Brd w0 T b o n M dv st bn sv cv gv rv C G ks kc kg S cf gf l w) {x t : Nat} (hx : T x = t) (ht : t ≠ 0) : x < w.heap.size := (h.lt x (by omega)).2
theorem Brd.same (h : Brd w0 T b o n M dv st bn sv cv gv rv C G ks kc kg S cf gf l w) (k : Chg T T' p w w') {x t : Nat} (hx : T x = t) (ht : t ≠ 0) (hp : ¬ p t) : w'.heap[x]? = w.heap[x]? :=
  k.block x (h.live hx ht) (by rw [hx]; exact hp)
theorem Brd.tag (h : Brd w0 T b o n M dv st bn sv cv gv rv C G ks kc kg S cf gf l w) (k : Chg T T' p w w') {x t : Nat} (hx : T x = t) (ht : t ≠ 0) : T' x = t := (k.tags x (h.live hx ht)).trans hx
theorem Brd.below_chg (h : Brd w0 T b o n M dv st bn sv cv gv rv C G ks kc kg S cf gf l w) (k : Chg T T' p w w') (hp0 : ¬ p 0) : Below w0.heap.size w0 w' :=
  h.below.trans ⟨k.os, k.tape, k.output, k.size, fun x hx => k.block x (Nat.lt_of_lt_of_le hx h.below.size) (by
    have : T x = 0 := by
      rcases Nat.eq_zero_or_pos (T x) with h0 | h0
      · exact h0
      · have := (h.lt x (by omega)).1; omega
    rw [this]; exact hp0)⟩
theorem Brd.lt_chg (h : Brd w0 T b o n M dv st bn sv cv gv rv C G ks kc kg S cf gf l w) (k : Chg T T' p w w') : ∀ x, T' x ≠ 0 → w0.heap.size ≤ x ∧ x < w'.heap.size := fun x hx => by
  refine ⟨?_, k.new x hx⟩
  rcases Nat.lt_or_ge x w.heap.size with h1 | h1
  · exact (h.lt x (by rw [← k.tags x h1]; exact hx)).1
  · exact Nat.le_trans h.below.size h1

/-- nothing of the board has turned (a draw, a new block of no tag, a store elsewhere) -/
theorem Brd.step (h : Brd w0 T b o n M dv st bn sv cv gv rv C G ks kc kg S cf gf l w) (k : Chg T T' p w w') (hp : ∀ t, p t → t ≠ 0 → (6 < t ∧ t < 10)) (hp0 : ¬ p 0) : Brd w0 T' b o n M dv st bn sv cv gv rv C G ks kc kg S cf gf l w' := by
  have np : ∀ t, t ≠ 0 → (t ≤ 6 ∨ 10 ≤ t) → ¬ p t := fun t h0 h1 h2 => by have := hp t h2 h0; omega
  exact ⟨h.below_chg k hp0, h.lt_chg k, h.str.keep (h.same k h.tb (by omega) (np _ (by omega) (by omega))),
    own_keep h.own_s fun g e => h.same k (h.ts g e) (by omega) (np _ (by omega) (by omega)), own_keep h.own_c fun g e => h.same k (h.tc g e) (by omega) (np _ (by omega) (by omega)),
    own_keep h.own_g fun g e => h.same k (h.tg g e) (by omega) (np _ (by omega) (by omega)), own_keep h.own_r fun g e => h.same k (h.tr g e) (by omega) (np _ (by omega) (by omega)),
    h.opn.of_block (h.same k h.t_o (by omega) (np _ (by omega) (by omega))), fun j hj => (h.cnt j hj).of_block (h.same k (h.tC j hj) (by omega) (np _ (by omega) (by omega))),
    fun j hj => (h.sms j hj).of_block (h.same k (h.tG j hj) (by omega) (np _ (by omega) (by omega))),
    h.tag k h.tb (by omega), h.tag k h.t_o (by omega), fun g e => h.tag k (h.ts g e) (by omega), fun g e => h.tag k (h.tc g e) (by omega), fun g e => h.tag k (h.tg g e) (by omega), fun g e => h.tag k (h.tr g e) (by omega),
    fun j hj => h.tag k (h.tC j hj) (by omega), fun j hj => h.tag k (h.tG j hj) (by omega)⟩

theorem Brd.k_str (h : Brd w0 T b o n M dv st bn sv cv gv rv C G ks kc kg S cf gf l w) (k : Chg T T' p w w') (hp : ¬ p 1) : Str w' b n dv sv (sl o M M) cv gv rv := h.str.keep (h.same k h.tb (by omega) hp)
theorem Brd.k_s (h : Brd w0 T b o n M dv st bn sv cv gv rv C G ks kc kg S cf gf l w) (k : Chg T T' p w w') (hp : ¬ p 3) : w'.ownsRow 0 3 1 sv ks (starts st ks) := own_keep h.own_s fun g e => h.same k (h.ts g e) (by omega) hp
theorem Brd.k_c (h : Brd w0 T b o n M dv st bn sv cv gv rv C G ks kc kg S cf gf l w) (k : Chg T T' p w w') (hp : ¬ p 4) : w'.ownsRow 0 118 1 cv kc (rowsV C bn kc) := own_keep h.own_c fun g e => h.same k (h.tc g e) (by omega) hp
theorem Brd.k_g (h : Brd w0 T b o n M dv st bn sv cv gv rv C G ks kc kg S cf gf l w) (k : Chg T T' p w w') (hp : ¬ p 5) : w'.ownsRow 0 118 1 gv kg (rowsV G bn kg) := own_keep h.own_g fun g e => h.same k (h.tg g e) (by omega) hp
theorem Brd.k_r (h : Brd w0 T b o n M dv st bn sv cv gv rv C G ks kc kg S cf gf l w) (k : Chg T T' p w w') (hp : ¬ p 6) : w'.ownsRow 0 113 2 rv l.length (flatD l) := own_keep h.own_r fun g e => h.same k (h.tr g e) (by omega) hp
theorem Brd.k_o (h : Brd w0 T b o n M dv st bn sv cv gv rv C G ks kc kg S cf gf l w) (k : Chg T T' p w w') (hp : ¬ p 2) : w'.rowIs o 4 M fun i => .bool (S i) := h.opn.of_block (h.same k h.t_o (by omega) hp)
theorem Brd.k_cnt (h : Brd w0 T b o n M dv st bn sv cv gv rv C G ks kc kg S cf gf l w) (k : Chg T T' p w w') {j : Nat} (hj : j < kc) (hp : ¬ p (10 + 2 * j)) : w'.rowIs (C j) 3 (bn j) fun i => .int .i64 (cf j i : Nat) := (h.cnt j hj).of_block (h.same k (h.tC j hj) (by omega) hp)
theorem Brd.k_sms (h : Brd w0 T b o n M dv st bn sv cv gv rv C G ks kc kg S cf gf l w) (k : Chg T T' p w w') {j : Nat} (hj : j < kg) (hp : ¬ p (11 + 2 * j)) : w'.rowIs (G j) 3 (bn j) fun i => .int .i64 (gf j i : Nat) := (h.sms j hj).of_block (h.same k (h.tG j hj) (by omega) hp)

theorem Chg.drewN (h : Brd w0 T b o n M dv st bn sv cv gv rv C G ks kc kg S cf gf l w) (k : Nat) : Chg T T (fun _ => False) w (w.drewN k) := ⟨rfl, rfl, rfl, Nat.le_refl _, fun _ _ _ => rfl, fun _ _ => rfl, fun x hx => (h.lt x hx).2⟩
theorem Chg.drew (h : Brd w0 T b o n M dv st bn sv cv gv rv C G ks kc kg S cf gf l w) : Chg T T (fun _ => False) w w.drew := ⟨rfl, rfl, rfl, Nat.le_refl _, fun _ _ _ => rfl, fun _ _ => rfl, fun x hx => (h.lt x hx).2⟩
theorem Chg.alloc (h : Brd w0 T b o n M dv st bn sv cv gv rv C G ks kc kg S cf gf l w) (ob : Obj) : Chg T T (fun _ => False) w (w.alloc ob) := ⟨rfl, rfl, rfl, by simp, fun x hx _ => Below.heap_alloc _ _ _ hx, fun _ _ => rfl, fun x hx => by have := (h.lt x hx).2; simp; omega⟩
theorem Chg.below (h : Brd w0 T b o n M dv st bn sv cv gv rv C G ks kc kg S cf gf l w) (k : Below w.heap.size w w') : Chg T T (fun _ => False) w w' := ⟨k.os, k.tape, k.output, k.size, fun x hx _ => k.block x hx, fun _ _ => rfl, fun x hx => Nat.lt_of_lt_of_le (h.lt x hx).2 k.size⟩
theorem Chg.set (h : Brd w0 T b o n M dv st bn sv cv gv rv C G ks kc kg S cf gf l w) (a : Addr) (v : Value) : Chg T T (fun t => t = T a.block) w (w.setCell a v) := ⟨rfl, rfl, rfl, by simp [World.setCell], fun x hx hp => Below.heap_setCell _ _ _ _ (fun e => hp (by rw [e])), fun _ _ => rfl, fun x hx => by have := (h.lt x hx).2; simp [World.setCell]; omega⟩

theorem Brd.drewN (h : Brd w0 T b o n M dv st bn sv cv gv rv C G ks kc kg S cf gf l w) (k : Nat) : Brd w0 T b o n M dv st bn sv cv gv rv C G ks kc kg S cf gf l (w.drewN k) := h.step (Chg.drewN h k) (fun _ hf => hf.elim) (fun hf => hf.elim)
theorem Brd.drew (h : Brd w0 T b o n M dv st bn sv cv gv rv C G ks kc kg S cf gf l w) : Brd w0 T b o n M dv st bn sv cv gv rv C G ks kc kg S cf gf l w.drew := h.step (Chg.drew h) (fun _ hf => hf.elim) (fun hf => hf.elim)
theorem Brd.alloc (h : Brd w0 T b o n M dv st bn sv cv gv rv C G ks kc kg S cf gf l w) (ob : Obj) : Brd w0 T b o n M dv st bn sv cv gv rv C G ks kc kg S cf gf l (w.alloc ob) := h.step (Chg.alloc h ob) (fun _ hf => hf.elim) (fun hf => hf.elim)
theorem Brd.beyond (h : Brd w0 T b o n M dv st bn sv cv gv rv C G ks kc kg S cf gf l w) (k : Below w.heap.size w w') : Brd w0 T b o n M dv st bn sv cv gv rv C G ks kc kg S cf gf l w' := h.step (Chg.below h k) (fun _ hf => hf.elim) (fun hf => hf.elim)
theorem Brd.new (h : Brd w0 T b o n M dv st bn sv cv gv rv C G ks kc kg S cf gf l w) (x : Nat) (hx : w.heap.size ≤ x) : T x = 0 := by
  rcases Nat.eq_zero_or_pos (T x) with h0 | h0
  · exact h0
  · have := (h.lt x (by omega)).2; omega

/-- a store into the row of counts of direction j -/
theorem Brd.setC (h : Brd w0 T b o n M dv st bn sv cv gv rv C G ks kc kg S cf gf l w) {j : Nat} (hj : j < kc) (i v : Nat) : Brd w0 T b o n M dv st bn sv cv gv rv C G ks kc kg S (fun j' i' => if j' = j ∧ i' = i then v else cf j' i') gf l (w.setCell ⟨C j, i, none⟩ (.int .i64 v)) := by
  have k := Chg.set h ⟨C j, i, none⟩ (.int .i64 v)
  have ht := h.tC j hj
  simp only [ht] at k
  exact { below := h.below_chg k (by omega), lt := h.lt_chg k, str := h.k_str k (by omega), own_s := h.k_s k (by omega), own_c := h.k_c k (by omega), own_g := h.k_g k (by omega), own_r := h.k_r k (by omega), opn := h.k_o k (by omega)
          cnt := fun j' hj' => by
            by_cases e : j' = j
            · subst e
              exact ((h.cnt j' hj).set i (.int .i64 v)).congr fun x _ => by
                by_cases e2 : x = i <;> simp [e2]
            · exact (h.k_cnt k hj' (by omega)).congr fun x _ => by simp [e]
          sms := fun j' hj' => h.k_sms k hj' (by omega), tb := h.tb, t_o := h.t_o, ts := h.ts, tc := h.tc, tg := h.tg, tr := h.tr, tC := h.tC, tG := h.tG }
theorem Brd.setG (h : Brd w0 T b o n M dv st bn sv cv gv rv C G ks kc kg S cf gf l w) {j : Nat} (hj : j < kg) (i v : Nat) : Brd w0 T b o n M dv st bn sv cv gv rv C G ks kc kg S cf (fun j' i' => if j' = j ∧ i' = i then v else gf j' i') l (w.setCell ⟨G j, i, none⟩ (.int .i64 v)) := by
  have k := Chg.set h ⟨G j, i, none⟩ (.int .i64 v)
  have ht := h.tG j hj
  simp only [ht] at k
  exact { below := h.below_chg k (by omega), lt := h.lt_chg k, str := h.k_str k (by omega), own_s := h.k_s k (by omega), own_c := h.k_c k (by omega), own_g := h.k_g k (by omega), own_r := h.k_r k (by omega), opn := h.k_o k (by omega)
          sms := fun j' hj' => by
            by_cases e : j' = j
            · subst e
              exact ((h.sms j' hj).set i (.int .i64 v)).congr fun x _ => by
                by_cases e2 : x = i <;> simp [e2]
            · exact (h.k_sms k hj' (by omega)).congr fun x _ => by simp [e]
          cnt := fun j' hj' => h.k_cnt k hj' (by omega), tb := h.tb, t_o := h.t_o, ts := h.ts, tc := h.tc, tg := h.tg, tr := h.tr, tC := h.tC, tG := h.tG }
theorem Brd.setO (h : Brd w0 T b o n M dv st bn sv cv gv rv C G ks kc kg S cf gf l w) (c : Nat) (v : Bool) : Brd w0 T b o n M dv st bn sv cv gv rv C G ks kc kg (fun x => if x = c then v else S x) cf gf l (w.setCell ⟨o, c, none⟩ (.bool v)) := by
  have k := Chg.set h ⟨o, c, none⟩ (.bool v)
  have ht := h.t_o
  simp only [ht] at k
  exact { below := h.below_chg k (by omega), lt := h.lt_chg k, str := h.k_str k (by omega), own_s := h.k_s k (by omega), own_c := h.k_c k (by omega), own_g := h.k_g k (by omega), own_r := h.k_r k (by omega)
          opn := (h.opn.set c (.bool v)).congr fun x _ => by by_cases e : x = c <;> simp [e]
          cnt := fun j' hj' => h.k_cnt k hj' (by omega), sms := fun j' hj' => h.k_sms k hj' (by omega), tb := h.tb, t_o := h.t_o, ts := h.ts, tc := h.tc, tg := h.tg, tr := h.tr, tC := h.tC, tG := h.tG }

/-- a store into a block of the call's own that is none of the board's -/
theorem Brd.free (h : Brd w0 T b o n M dv st bn sv cv gv rv C G ks kc kg S cf gf l w) (a : Addr) (hT : T a.block = 0) (ha : w0.heap.size ≤ a.block) (v : Value) : Brd w0 T b o n M dv st bn sv cv gv rv C G ks kc kg S cf gf l (w.setCell a v) := by
  have k := Chg.set h a v
  simp only [hT] at k
  exact { below := h.below.setCell ha v, lt := h.lt_chg k, str := h.k_str k (by omega), own_s := h.k_s k (by omega), own_c := h.k_c k (by omega), own_g := h.k_g k (by omega), own_r := h.k_r k (by omega), opn := h.k_o k (by omega)
          cnt := fun j' hj' => h.k_cnt k hj' (by omega), sms := fun j' hj' => h.k_sms k hj' (by omega), tb := h.tb, t_o := h.t_o, ts := h.ts, tc := h.tc, tg := h.tg, tr := h.tr, tC := h.tC, tG := h.tG }

/-- the ready places have turned (an append, heap.Push, heap.Pop, heap.Init) -/
theorem Brd.ready (h : Brd w0 T b o n M dv st bn sv cv gv rv C G ks kc kg S cf gf l w) {rv' : Value} {l' : List (Int × Int)} (hv : OnlyV b rv w w') (hown : w'.ownsRow 0 113 2 rv' l'.length (flatD l')) (c6 : w'.cell? ⟨b, 6, none⟩ = some rv') (hat : ∀ g, rv'.ownBlock = some g → rv.ownBlock = some g ∨ w.heap.size ≤ g) :
    ∃ T', (∀ x, x < w.heap.size → T' x = T x) ∧ Brd w0 T' b o n M dv st bn sv cv gv rv' C G ks kc kg S cf gf l' w' := by
  have hbl : b < w.heap.size := h.str.lt
  have k : Chg T (fun x => if rv'.ownBlock = some x then 6 else T x) (fun t => t = 1 ∨ t = 6) w w' := by
    refine ⟨hv.os, hv.tape, hv.output, hv.size, fun x hx hp => ?_, fun x hx => ?_, fun x hx => ?_⟩
    · refine hv.block x hx (fun e => hp (.inr (h.tr x e))) (fun e => hp (.inl (by rw [e]; exact h.tb)))
    · show (if rv'.ownBlock = some x then 6 else T x) = T x
      split
      · rename_i e
        rcases hat x e with h1 | h1
        · exact (h.tr x h1).symm
        · omega
      · rfl
    · have hx' : (if rv'.ownBlock = some x then 6 else T x) ≠ 0 := hx
      by_cases e : rv'.ownBlock = some x
      · exact (hown.lt x e).2
      · rw [if_neg e] at hx'
        exact Nat.lt_of_lt_of_le (h.lt x hx').2 hv.size
  refine ⟨_, k.tags, ?_⟩
  have str : Str w' b n dv sv (sl o M M) cv gv rv' :=
    ⟨(hv.cells 0 (by decide)).trans h.str.c0, (hv.cells 1 (by decide)).trans h.str.c1, (hv.cells 2 (by decide)).trans h.str.c2, (hv.cells 3 (by decide)).trans h.str.c3, (hv.cells 4 (by decide)).trans h.str.c4, (hv.cells 5 (by decide)).trans h.str.c5, c6, fun j => (hv.froz hbl j).trans (h.str.fz j)⟩
  exact { below := h.below_chg k (by omega), lt := h.lt_chg k, str := str, own_s := h.k_s k (by omega), own_c := h.k_c k (by omega), own_g := h.k_g k (by omega), own_r := hown, opn := h.k_o k (by omega)
          cnt := fun j' hj' => h.k_cnt k hj' (by omega), sms := fun j' hj' => h.k_sms k hj' (by omega), tb := h.tag k h.tb (by omega), t_o := h.tag k h.t_o (by omega), ts := fun g e => h.tag k (h.ts g e) (by omega), tc := fun g e => h.tag k (h.tc g e) (by omega), tg := fun g e => h.tag k (h.tg g e) (by omega)
          tr := fun g e => if_pos e, tC := fun j hj => h.tag k (h.tC j hj) (by omega), tG := fun j hj => h.tag k (h.tG j hj) (by omega) }

theorem rowsV_succ (C bn : Nat → Nat) (k H : Nat) : rowsV C bn k ++ [sl H (bn k) (bn k)] = rowsV (fun j => if j = k then H else C j) bn (k + 1) := by
  unfold rowsV
  rw [List.range_succ, List.map_append]
  congr 1
  · exact List.map_congr_left fun j hj => by simp only [if_neg (show ¬ j = k by have := List.mem_range.1 hj; omega)]
  · simp

/-- what an append to the slice in a cell of the struct does -/
theorem Chg.push (h : Brd w0 T b o n M dv st bn sv cv gv rv C G ks kc kg S cf gf l w) {a w1 : World} {v u : Value} {t H j : Nat} {f : Nat → Nat} (ha : Below w.heap.size w a) (hg : a.grownBy w1 v.ownBlock) (ht : ∀ g, v.ownBlock = some g → T g = t) {g : Nat} (hat : v.ownBlock = some g ∨ g = a.heap.size) (hgl : g < w1.heap.size)
    (hf : ∀ x, x < w.heap.size → f x = T x) (hf2 : ∀ x, f x ≠ 0 → x < w1.heap.size) : Chg T (fun x => if x = g then t else f x) (fun s => s = 1 ∨ s = t) w (w1.setCell ⟨b, j, none⟩ u) := by
  have hs := ha.size
  refine ⟨hg.os.trans ha.os, hg.tape.trans ha.tape, hg.output.trans ha.output, ?_, fun x hx hp => ?_, fun x hx => ?_, fun x hx => ?_⟩
  · have := hg.size
    simp only [World.setCell, Array.size_modify]
    omega
  · rw [Below.heap_setCell _ _ _ _ (fun e => hp (.inl (by rw [e]; exact h.tb)))]
    exact (hg.block x (Nat.lt_of_lt_of_le hx hs) (fun e => hp (.inr (ht x e.symm)))).trans (ha.block x hx)
  · show (if x = g then t else f x) = T x
    split
    · rename_i e
      rcases hat with h1 | h1
      · rw [e]; exact (ht g h1).symm
      · omega
    · exact hf x hx
  · have hx' : (if x = g then t else f x) ≠ 0 := hx
    simp only [World.setCell, Array.size_modify]
    by_cases e : x = g
    · rw [e]; exact hgl
    · rw [if_neg e] at hx'
      exact hf2 x hx'

theorem Brd.asS (h : Brd w0 T b o n M dv st bn sv cv gv rv C G ks kc kg S cf gf l w) {S' : Nat → Bool} (e : ∀ i, i < M → S i = S' i) : Brd w0 T b o n M dv st bn sv cv gv rv C G ks kc kg S' cf gf l w :=
  { h with opn := h.opn.congr fun i hi => by rw [e i hi] }

theorem Brd.str_far (h : Brd w0 T b o n M dv st bn sv cv gv rv C G ks kc kg S cf gf l w) {a w1 : World} {v : Value} {t : Nat} (ha : Below w.heap.size w a) (hg : a.grownBy w1 v.ownBlock) (ht : ∀ g, v.ownBlock = some g → T g = t) (h1 : t ≠ 1) : Str w1 b n dv sv (sl o M M) cv gv rv :=
  h.str.keep ((hg.block b (Nat.lt_of_lt_of_le h.str.lt ha.size) (fun e => by have h2 := ht b e.symm; rw [h.tb] at h2; omega)).trans (ha.block b h.str.lt))

theorem Brd.push_s (h : Brd w0 T b o n M dv st bn sv cv gv rv C G ks kc kg S cf gf l w) {a w1 : World} {g cap : Nat} (ha : Below w.heap.size w a) (hg : a.grownBy w1 sv.ownBlock) (hown : w1.ownsRow 0 3 1 (sl g (ks + 1) cap) (ks + 1) (starts st ks ++ [.int .i64 (st ks : Nat)])) (hat : sv.ownBlock = some g ∨ g = a.heap.size) :
    ∃ T', (∀ x, x < w.heap.size → T' x = T x) ∧ Brd w0 T' b o n M dv st bn (sl g (ks + 1) cap) cv gv rv C G (ks + 1) kc kg S cf gf l (w1.setCell ⟨b, 2, none⟩ (sl g (ks + 1) cap)) := by
  have hgl := (hown.lt g rfl).2
  have hs := ha.size
  have hs1 := hg.size
  have k := Chg.push h (f := T) (u := sl g (ks + 1) cap) (j := 2) (H := 0) ha hg h.ts hat hgl (fun _ _ => rfl) (fun x hx => by have := (h.lt x hx).2; omega)
  have hbg : b ≠ g := fun e => by
    rcases hat with h1 | h1
    · have h2 := h.ts g h1; rw [← e, h.tb] at h2; omega
    · have := h.str.lt; omega
  have str1 : Str w1 b n dv sv (sl o M M) cv gv rv := h.str.keep ((hg.block b (Nat.lt_of_lt_of_le h.str.lt hs) (fun e => by have h2 := h.ts b e.symm; rw [h.tb] at h2; omega)).trans (ha.block b h.str.lt))
  refine ⟨_, k.tags, ?_⟩
  exact { below := h.below_chg k (by omega), lt := h.lt_chg k, str := str1.set2 _, own_s := by
            have e : starts st (ks + 1) = starts st ks ++ [.int .i64 (st ks : Nat)] := by unfold starts; rw [List.range_succ, List.map_append]; rfl
            rw [e]
            exact ownsRow_setCell_other hown (by simp [Value.ownBlock]; exact fun e => hbg e.symm) _
          own_c := h.k_c k (by omega), own_g := h.k_g k (by omega), own_r := h.k_r k (by omega), opn := h.k_o k (by omega)
          cnt := fun j' hj' => h.k_cnt k hj' (by omega), sms := fun j' hj' => h.k_sms k hj' (by omega), tb := h.tag k h.tb (by omega), t_o := h.tag k h.t_o (by omega)
          ts := fun g' e => by
            obtain rfl : g = g' := by simpa [Value.ownBlock] using e
            exact if_pos rfl
          tc := fun g e => h.tag k (h.tc g e) (by omega), tg := fun g e => h.tag k (h.tg g e) (by omega)
          tr := fun g e => h.tag k (h.tr g e) (by omega), tC := fun j hj => h.tag k (h.tC j hj) (by omega), tG := fun j hj => h.tag k (h.tG j hj) (by omega) }

theorem Brd.push_c (h : Brd w0 T b o n M dv st bn sv cv gv rv C G ks kc kg S cf gf l w) {a w1 : World} {g cap H : Nat} (ha : Below w.heap.size w a) (hH : a.rowIs H 3 (bn kc) fun _ => .int .i64 0) (hHw : w.heap.size ≤ H) (hg : a.grownBy w1 cv.ownBlock) (hown : w1.ownsRow 0 118 1 (sl g (kc + 1) cap) (kc + 1) (rowsV C bn kc ++ [sl H (bn kc) (bn kc)])) (hat : cv.ownBlock = some g ∨ g = a.heap.size) :
    ∃ T', (∀ x, x < w.heap.size → T' x = T x) ∧ Brd w0 T' b o n M dv st bn sv (sl g (kc + 1) cap) gv rv (fun j => if j = kc then H else C j) G ks (kc + 1) kg S (fun j i => if j = kc then 0 else cf j i) gf l (w1.setCell ⟨b, 4, none⟩ (sl g (kc + 1) cap)) := by
  have hgl := (hown.lt g rfl).2
  have hs := ha.size
  have hs1 := hg.size
  have hHl := hH.lt
  have k := Chg.push h (f := fun x => if x = H then 10 + 2 * kc else T x) (u := sl g (kc + 1) cap) (j := 4) (H := 0) ha hg h.tc hat hgl (fun x hx => by show (if x = H then 10 + 2 * kc else T x) = T x; rw [if_neg (by omega)]) (fun x hx => by
    by_cases e : x = H
    · omega
    · have hx' : (if x = H then 10 + 2 * kc else T x) ≠ 0 := hx
      rw [if_neg e] at hx'
      have := (h.lt x hx').2; omega)
  have hbg : b ≠ g := fun e => by
    rcases hat with h1 | h1
    · have h2 := h.tc g h1; rw [← e, h.tb] at h2; omega
    · have := h.str.lt; omega
  have hHg : H ≠ g := fun e => by
    rcases hat with h1 | h1
    · have h2 := h.live (h.tc g h1) (by omega); omega
    · omega
  have str1 : Str w1 b n dv sv (sl o M M) cv gv rv := h.str.keep ((hg.block b (Nat.lt_of_lt_of_le h.str.lt hs) (fun e => by have h2 := h.tc b e.symm; rw [h.tb] at h2; omega)).trans (ha.block b h.str.lt))
  have hrow : (w1.setCell ⟨b, 4, none⟩ (sl g (kc + 1) cap)).rowIs H 3 (bn kc) fun _ => .int .i64 0 :=
    (hH.of_block (hg.block H hHl (fun e => by have h2 := h.live (h.tc H e.symm) (by omega); omega))).setOther (by have := h.str.lt; show H ≠ b; omega) _
  refine ⟨_, k.tags, ?_⟩
  exact { below := h.below_chg k (by omega), lt := h.lt_chg k, str := str1.set4 _, own_s := h.k_s k (by omega)
          own_c := by
            rw [← rowsV_succ]
            exact ownsRow_setCell_other hown (by simp [Value.ownBlock]; exact fun e => hbg e.symm) _
          own_g := h.k_g k (by omega), own_r := h.k_r k (by omega), opn := h.k_o k (by omega)
          cnt := fun j' hj' => by
            by_cases e : j' = kc
            · subst e
              simpa using hrow
            · have h3 := h.k_cnt k (j := j') (by omega) (by omega)
              simp only [if_neg e]
              exact h3
          sms := fun j' hj' => h.k_sms k hj' (by omega), tb := h.tag k h.tb (by omega), t_o := h.tag k h.t_o (by omega)
          ts := fun g e => h.tag k (h.ts g e) (by omega)
          tc := fun g' e => by
            obtain rfl : g = g' := by simpa [Value.ownBlock] using e
            exact if_pos rfl
          tg := fun g e => h.tag k (h.tg g e) (by omega)
          tr := fun g e => h.tag k (h.tr g e) (by omega)
          tC := fun j hj => by
            by_cases e : j = kc
            · subst e
              rw [if_pos rfl]
              show (if H = g then 4 else if H = H then 10 + 2 * j else T H) = 10 + 2 * j
              rw [if_neg hHg, if_pos rfl]
            · have h3 := h.tag k (h.tC j (by omega)) (by omega)
              simp only [if_neg e]
              exact h3
          tG := fun j hj => h.tag k (h.tG j hj) (by omega) }

theorem Brd.push_g (h : Brd w0 T b o n M dv st bn sv cv gv rv C G ks kc kg S cf gf l w) {a w1 : World} {g cap H : Nat} (ha : Below w.heap.size w a) (hH : a.rowIs H 3 (bn kg) fun _ => .int .i64 0) (hHw : w.heap.size ≤ H) (hg : a.grownBy w1 gv.ownBlock) (hown : w1.ownsRow 0 118 1 (sl g (kg + 1) cap) (kg + 1) (rowsV G bn kg ++ [sl H (bn kg) (bn kg)])) (hat : gv.ownBlock = some g ∨ g = a.heap.size) :
    ∃ T', (∀ x, x < w.heap.size → T' x = T x) ∧ Brd w0 T' b o n M dv st bn sv cv (sl g (kg + 1) cap) rv C (fun j => if j = kg then H else G j) ks kc (kg + 1) S cf (fun j i => if j = kg then 0 else gf j i) l (w1.setCell ⟨b, 5, none⟩ (sl g (kg + 1) cap)) := by
  have hgl := (hown.lt g rfl).2
  have hs := ha.size
  have hs1 := hg.size
  have hHl := hH.lt
  have k := Chg.push h (f := fun x => if x = H then 11 + 2 * kg else T x) (u := sl g (kg + 1) cap) (j := 5) (H := 0) ha hg h.tg hat hgl (fun x hx => by show (if x = H then 11 + 2 * kg else T x) = T x; rw [if_neg (by omega)]) (fun x hx => by
    by_cases e : x = H
    · omega
    · have hx' : (if x = H then 11 + 2 * kg else T x) ≠ 0 := hx
      rw [if_neg e] at hx'
      have := (h.lt x hx').2; omega)
  have hbg : b ≠ g := fun e => by
    rcases hat with h1 | h1
    · have h2 := h.tg g h1; rw [← e, h.tb] at h2; omega
    · have := h.str.lt; omega
  have hHg : H ≠ g := fun e => by
    rcases hat with h1 | h1
    · have h2 := h.live (h.tg g h1) (by omega); omega
    · omega
  have str1 : Str w1 b n dv sv (sl o M M) cv gv rv := h.str.keep ((hg.block b (Nat.lt_of_lt_of_le h.str.lt hs) (fun e => by have h2 := h.tg b e.symm; rw [h.tb] at h2; omega)).trans (ha.block b h.str.lt))
  have hrow : (w1.setCell ⟨b, 5, none⟩ (sl g (kg + 1) cap)).rowIs H 3 (bn kg) fun _ => .int .i64 0 :=
    (hH.of_block (hg.block H hHl (fun e => by have h2 := h.live (h.tg H e.symm) (by omega); omega))).setOther (by have := h.str.lt; show H ≠ b; omega) _
  refine ⟨_, k.tags, ?_⟩
  exact { below := h.below_chg k (by omega), lt := h.lt_chg k, str := str1.set5 _, own_s := h.k_s k (by omega), own_c := h.k_c k (by omega)
          own_g := by
            rw [← rowsV_succ]
            exact ownsRow_setCell_other hown (by simp [Value.ownBlock]; exact fun e => hbg e.symm) _
          own_r := h.k_r k (by omega), opn := h.k_o k (by omega)
          sms := fun j' hj' => by
            by_cases e : j' = kg
            · subst e
              simpa using hrow
            · have h3 := h.k_sms k (j := j') (by omega) (by omega)
              simp only [if_neg e]
              exact h3
          cnt := fun j' hj' => h.k_cnt k hj' (by omega), tb := h.tag k h.tb (by omega), t_o := h.tag k h.t_o (by omega)
          ts := fun g e => h.tag k (h.ts g e) (by omega)
          tg := fun g' e => by
            obtain rfl : g = g' := by simpa [Value.ownBlock] using e
            exact if_pos rfl
          tc := fun g e => h.tag k (h.tc g e) (by omega)
          tr := fun g e => h.tag k (h.tr g e) (by omega)
          tG := fun j hj => by
            by_cases e : j = kg
            · subst e
              rw [if_pos rfl]
              show (if H = g then 5 else if H = H then 11 + 2 * j else T H) = 11 + 2 * j
              rw [if_neg hHg, if_pos rfl]
            · have h3 := h.tag k (h.tG j (by omega)) (by omega)
              simp only [if_neg e]
              exact h3
          tC := fun j hj => h.tag k (h.tC j hj) (by omega) }
end
end Go.Proofs.Ytoeeceemoggffaa

namespace Go.Proofs.Ytoeeceemoggffaa
open Go.RowKit Go.Lib
set_option maxHeartbeats 3200000
set_option maxRecDepth 100000

theorem mul_bound {q : Int} {x : Nat} (h1 : -16 ≤ q) (h2 : q ≤ 16) (hx : x ≤ 64) : -1024 ≤ q * (x : Int) ∧ q * (x : Int) ≤ 1024 := by
  have a1 := Int.mul_le_mul_of_nonneg_right h2 (show (0 : Int) ≤ (x : Int) by omega)
  have a2 := Int.mul_le_mul_of_nonneg_right h1 (show (0 : Int) ≤ (x : Int) by omega)
  omega

theorem line_raw (b n k c db off K capd sb ks scap s0 : Nat) (p q : Int) (w : World) (c0 : w.cell? ⟨b, 0, none⟩ = some (.int .i64 n)) (c1 : w.cell? ⟨b, 1, none⟩ = some (.slice (some ⟨db, off, none⟩) K capd)) (c2 : w.cell? ⟨b, 2, none⟩ = some (sl sb ks scap))
    (d0 : w.cell? ⟨db, off + k * 2, none⟩ = some (.int .i64 p)) (d1 : w.cell? ⟨db, off + k * 2 + 1, none⟩ = some (.int .i64 q)) (hs : w.cell? ⟨sb, k, none⟩ = some (.int .i64 s0)) (hk : k < K) (hks : k < ks)
    (hn : 0 < n) (hc : c / n ≤ 64) (hn2 : n ≤ 64) (hs0 : s0 ≤ 10000) (p1 : -16 ≤ p) (p2 : p ≤ 16) (q1 : -16 ≤ q) (q2 : q ≤ 16) :
    Calls Try.prog 108 #[.pointer (some ⟨b, 0, none⟩), .int .i64 k, .int .i64 c] w fun e w' => e = .returned (.int .i64 ((s0 : Int) + q * ((c % n : Nat) : Int) - p * ((c / n : Nat) : Int))) ∧ ∃ z, w' = w.drewN z := by
  have hk' : (k : Int) < (K : Int) := by omega
  have hks' : (k : Int) < (ks : Int) := by omega
  have e1 : (c : Int).tmod (n : Int) = ((c % n : Nat) : Int) := by rw [Int.tmod_eq_emod_of_nonneg (by omega)]; omega
  have e2 : (c : Int).tdiv (n : Int) = ((c / n : Nat) : Int) := by rw [Int.tdiv_eq_ediv_of_nonneg (by omega)]; omega
  have hx : c % n ≤ 64 := by have := Nat.mod_lt c hn; omega
  have hn' : ((n : Int) == 0) = false := by
    have : (n : Int) ≠ 0 := by omega
    simpa using this
  have hn'' : (n == 0) = false := by
    have : n ≠ 0 := by omega
    simpa using this
  obtain ⟨x, hxe⟩ : ∃ x, x = c % n := ⟨_, rfl⟩
  obtain ⟨y, hye⟩ : ∃ y, y = c / n := ⟨_, rfl⟩
  rw [← hxe] at e1 hx ⊢
  rw [← hye] at e2 hc ⊢
  have b1 := mul_bound q1 q2 hx
  have b2 := mul_bound p1 p2 hc
  obtain ⟨u, hu⟩ : ∃ u, q * (x : Int) = u := ⟨_, rfl⟩
  obtain ⟨v, hv⟩ : ∃ v, p * (y : Int) = v := ⟨_, rfl⟩
  rw [hu] at b1 ⊢
  rw [hv] at b2 ⊢
  obtain ⟨u1, u2⟩ := b1
  obtain ⟨v1, v2⟩ := b2
  clear hxe hye
  go_enter Try.func108, Try.ntmps108
  go_wp2_with fail
  go_quiet (fail)
  go_wp2
  go_ret
  exact ⟨rfl, _, rfl⟩

theorem starts_get {st : Nat → Nat} {ks k : Nat} (h : k < ks) : (starts st ks)[k]? = some (.int .i64 (st k : Nat)) := by
  unfold starts
  rw [List.getElem?_map, List.getElem?_range h]
  rfl
theorem rowsV_get {C bn : Nat → Nat} {kc k : Nat} (h : k < kc) : (rowsV C bn kc)[k]? = some (sl (C k) (bn k) (bn k)) := by
  unfold rowsV
  rw [List.getElem?_map, List.getElem?_range h]
  rfl
theorem row_form {w : World} {e : TypeId} {z n : Nat} {v : Value} {xs : List Value} (h : w.ownsRow 0 e z v n xs) (hn : 0 < n) : ∃ g cap, v = sl g n cap ∧ ∀ (i : Nat) (u : Value), xs[i]? = some u → w.cell? ⟨g, i, none⟩ = some u := by
  obtain ⟨g, cap, rfl, _⟩ := World.ownsRow.form h hn
  refine ⟨g, cap, rfl, fun i u hu => ?_⟩
  have c := World.ownsRow.cells h (g := g) rfl _ _ hu
  have ha : (⟨g, 0, none⟩ : Addr).add i = ⟨g, i, none⟩ := by unfold Addr.add; split <;> simp_all
  rw [ha] at c
  exact c

/-- the directions in a list, as the starts and the numbers of bins by their places -/
def dirAt (ds : List (Int × Int)) (k : Nat) : Int × Int := ds.getD k (0, 0)
theorem dirAt_mem {ds : List (Int × Int)} {k : Nat} (h : k < ds.length) : dirAt ds k ∈ ds := by
  unfold dirAt
  rw [List.getD_eq_getElem?_getD, List.getElem?_eq_getElem h]
  exact List.getElem_mem h
theorem dirAt_get {ds : List (Int × Int)} {k : Nat} (h : k < ds.length) : ds[k]? = some (dirAt ds k) := by
  unfold dirAt
  rw [List.getD_eq_getElem?_getD, List.getElem?_eq_getElem h]
  rfl
abbrev stD (n : Nat) (ds : List (Int × Int)) (k : Nat) : Nat := startN n (dirAt ds k)
abbrev bnD (n : Nat) (ds : List (Int × Int)) (k : Nat) : Nat := binsN n (dirAt ds k)
abbrev lnD (n : Nat) (ds : List (Int × Int)) (k : Nat) (c : Nat) : Nat := lineN n (dirAt ds k) c

theorem Brd.line {w0 : World} {T : Nat → Nat} {b o n M : Nat} {sv cv gv rv : Value} {C G : Nat → Nat} {ks kc kg : Nat} {S : Nat → Bool} {cf gf : Nat → Nat → Nat} {l : List (Int × Int)} {w : World} {A : Option Addr} {capd : Nat} {ds : List (Int × Int)}
    (h : Brd w0 T b o n M (.slice A ds.length capd) (stD n ds) (bnD n ds) sv cv gv rv C G ks kc kg S cf gf l w) (hD : Dirs w0 A ds) (ho : ∀ d ∈ ds, okD d = true) (hM : M = n * n) (h1 : 1 ≤ n) (h2 : n ≤ 64) (k c : Nat) (hk : k < ds.length) (hks : k < ks) (hc : c < M) :
    Calls Try.prog 108 #[.pointer (some ⟨b, 0, none⟩), .int .i64 k, .int .i64 c] w fun e w' => e = .returned (.int .i64 (lnD n ds k c : Nat)) ∧ ∃ z, w' = w.drewN z := by
  have hok := ho _ (dirAt_mem hk)
  have hD' := hD.later h.below
  obtain ⟨g, cap, rfl, hg⟩ := row_form h.own_s (by omega)
  obtain ⟨db, off, rfl⟩ : ∃ db off, A = some ⟨db, off, none⟩ := by
    obtain ⟨b', o', e, _⟩ := hD.at_ k _ (dirAt_get hk)
    exact ⟨b', o', e⟩
  obtain ⟨d0, d1⟩ := hD'.pair (dirAt_get hk)
  obtain ⟨o0, o1, o2, o3, o4⟩ := (okD_iff (dirAt ds k).1 (dirAt ds k).2).1 hok
  have hst : stD n ds k ≤ 63 * 16 := Nat.mul_le_mul (by omega) (by omega)
  refine (line_raw b n k c db off ds.length capd g ks cap (stD n ds k) (dirAt ds k).1 (dirAt ds k).2 w h.str.c0 h.str.c1 h.str.c2 d0 d1 (hg _ _ (starts_get hks)) hk hks (by omega) ?_ h2 (by omega) (by omega) (by omega) (by omega) (by omega)).mono ?_
  · have : c / n < n := by rw [Nat.div_lt_iff_lt_mul (by omega), ← hM]; exact hc
    omega
  · rintro e w' ⟨rfl, hz⟩
    refine ⟨?_, hz⟩
    have := lineN_cast (n := n) (p := (dirAt ds k).1) (q := (dirAt ds k).2) hM hok hc
    unfold lineZ at this
    simp only at this
    rw [this]
end Go.Proofs.Ytoeeceemoggffaa

namespace Go.Proofs.Ytoeeceemoggffaa
open Go.RowKit Go.Lib
set_option maxHeartbeats 3200000
set_option maxRecDepth 100000

def Rdy (K : Nat) (bn : Nat → Nat) (cf : Nat → Nat → Nat) (l : List (Int × Int)) : Prop := ∀ j i, j < K → i < bn j → cf j i = 1 → ((j : Int), (i : Int)) ∈ l
def Good (K : Nat) (bn : Nat → Nat) (l : List (Int × Int)) : Prop := ∀ x ∈ l, ∃ j i : Nat, x = ((j : Int), (i : Int)) ∧ j < K ∧ i < bn j
def lenAt (b : Nat) (w : World) : Nat := match w.cell? ⟨b, 6, none⟩ with
  | some (.slice _ n _) => n
  | _ => 0
theorem lenAt_of {b : Nat} {w : World} {A : Option Addr} {n cap : Nat} (h : w.cell? ⟨b, 6, none⟩ = some (.slice A n cap)) : lenAt b w = n := by unfold lenAt; rw [h]

/-- what stands at the head of a round of next -/
structure NextR (w0 : World) (T0 : Nat → Nat) (b o n M : Nat) (dv : Value) (st bn : Nat → Nat) (sv cv gv : Value) (C G : Nat → Nat) (K : Nat) (S : Nat → Bool) (cf gf : Nat → Nat → Nat) (l0 : List (Int × Int)) (w wr : World) (rv : Value) (l : List (Int × Int)) (T : Nat → Nat) : Prop where
  brd : Brd w0 T b o n M dv st bn sv cv gv rv C G K K K S cf gf l wr
  tags : ∀ x, x < w.heap.size → T x = T0 x
  rdy : Rdy K bn cf l0 → Rdy K bn cf l
  sub : ∀ x ∈ l, x ∈ l0
  len : l.length ≤ l0.length
  size : w.heap.size ≤ wr.heap.size
  frame : ∀ x, x < w.heap.size → T0 x = 0 → wr.heap[x]? = w.heap[x]?

theorem own_zero {w : World} {e : TypeId} {z : Nat} {v : Value} {xs : List Value} (h : w.ownsRow 0 e z v 0 xs) : ∃ A cap, v = .slice A 0 cap := by
  rcases h.2 with ⟨rfl, _⟩ | ⟨g, cap, cur, rfl, _⟩
  · exact ⟨_, _, rfl⟩
  · exact ⟨_, _, rfl⟩
theorem own_cap {w : World} {e : TypeId} {z g n cap : Nat} {xs : List Value} (h : w.ownsRow 0 e z (sl g n cap) n xs) : n ≤ cap := by
  rcases h.2 with ⟨h1, _⟩ | ⟨g', cap', cur, h1, _, _, h2, _⟩
  · cases h1
  · obtain ⟨_, _, rfl⟩ := Value.slice.inj h1
    exact h2

theorem next_walk {w0 : World} {T0 : Nat → Nat} {b o n M : Nat} {dv : Value} {st bn : Nat → Nat} {sv cv gv rv0 : Value} {C G : Nat → Nat} {K : Nat} {S : Nat → Bool} {cf gf : Nat → Nat → Nat} {l0 : List (Int × Int)} {w : World}
    (h : Brd w0 T0 b o n M dv st bn sv cv gv rv0 C G K K K S cf gf l0 w) (hl : l0.length ≤ 1000000) (hg : Good K bn l0) (hcf : ∀ j i, cf j i ≤ 5000) (hgf : ∀ j i, gf j i ≤ 20000000) :
    Calls Try.prog 79 #[.pointer (some ⟨b, 0, none⟩)] w fun e w' => ∃ rv l T, NextR w0 T0 b o n M dv st bn sv cv gv C G K S cf gf l0 w w' rv l T ∧
      ((∃ j i : Nat, ((j : Int), (i : Int)) ∈ l ∧ j < K ∧ i < bn j ∧ cf j i = 1 ∧ e = .returned (.tuple #[.agg #[.int .i64 j, .int .i64 i], .int .i64 (gf j i : Nat), .bool true])) ∨ (l = [] ∧ e = .returned (.tuple #[.agg #[.int .i64 0, .int .i64 0], .int .i64 0, .bool false]))) := by
  have HH := Lib.hid h
  have HG := Lib.hid hg
  have HF := Lib.hid hcf
  have HF2 := Lib.hid hgf
  have bl : ∀ ob, Below w.heap.size w (w.alloc ob) := fun ob => (Below.refl _ _).alloc (Nat.le_refl _) ob
  have HS : ∀ ob, NextR w0 T0 b o n M dv st bn sv cv gv C G K S cf gf l0 w (w.alloc ob) rv0 l0 T0 := fun ob => ⟨h.alloc ob, fun _ _ => rfl, id, fun _ hx => hx, Nat.le_refl _, by simp, fun x hx _ => (bl ob).block x hx⟩
  have HS' := Lib.hid HS
  have HT0 := Lib.hid (h.new _ (Nat.le_refl _))
  have HB0 := Lib.hid h.below.size
  obtain ⟨B1, hB1⟩ : ∃ B1, B1 = w.heap.size := ⟨_, rfl⟩
  have hnew : ∀ ob, (w.alloc ob).heap[w.heap.size]? = some ob := fun ob => heap_alloc_new w ob
  have HN := Lib.hid hnew
  clear h hg hcf hgf bl HS hnew
  go_enter Try.func79, Try.ntmps79
  go_wp2
  go_loopw [5] (fun _ wr => ∃ rv l T, Hid (NextR w0 T0 b o n M dv st bn sv cv gv C G K S cf gf l0 w wr rv l T ∧ wr.heap[w.heap.size]? = some (.cells #[.int .i64 0, .int .i64 0] 113 (0, 0)) ∧ T w.heap.size = 0)) (fun _ wr => lenAt b wr)
  case atStart => exact ⟨rv0, l0, T0, Lib.hid ⟨HS'.out _, HN.out _, HT0.out⟩⟩
  case round =>
    obtain ⟨rv, l, T, HR⟩ := hrel
    obtain ⟨hR, hres, hT1⟩ := HR.out
    have hbrd := hR.brd
    have c6 := hbrd.str.c6
    have r0 : wr.cell? ⟨w.heap.size, 0, none⟩ = some (.int .i64 0) := by simp [World.cell?, hres]
    have r1 : wr.cell? ⟨w.heap.size, 1, none⟩ = some (.int .i64 0) := by simp [World.cell?, hres]
    have rf : ∀ j, wr.frozen? ⟨w.heap.size, j, none⟩ = false := fun j => by simp [World.frozen?, hres]
    have rf0 := rf 0
    have rf1 := rf 1
    have hlt := hR.size
    clear rf
    cases l with
    | nil =>
      obtain ⟨A, cap, rfl⟩ := own_zero hbrd.own_r
      clear hR hres hbrd hT1 hlt
      go_wp2
      obtain ⟨hR, hres, hT1⟩ := HR.out
      refine bodyPost_ret (v := .tuple #[.agg #[.int .i64 0, .int .i64 0], .int .i64 0, .bool false]) (by simp [results, Try.results79, go_sem, r0, r1]) rfl ⟨_, _, T, ⟨(hR.brd.free _ hT1 HB0.out _).free _ hT1 HB0.out _, hR.tags, hR.rdy, hR.sub, hR.len, by simp [World.setCell]; exact hR.size, fun x hx h0 => ?_⟩, .inr ⟨rfl, rfl⟩⟩
      rw [Below.heap_setCell _ _ _ _ (by show x ≠ w.heap.size; omega), Below.heap_setCell _ _ _ _ (by show x ≠ w.heap.size; omega)]
      exact hR.frame x hx h0
    | cons x r =>
      obtain ⟨j, i, rfl, hj, hi⟩ := HG.out x (hR.sub x (by simp))
      obtain ⟨g, cap, rfl, hrow⟩ := row_form hbrd.own_r (by simp)
      have hcap := own_cap hbrd.own_r
      have g0 : wr.cell? ⟨g, 0, none⟩ = some (.int .i64 j) := hrow 0 _ rfl
      have g1 : wr.cell? ⟨g, 1, none⟩ = some (.int .i64 i) := hrow 1 _ rfl
      have hbA := fun ob => hbrd.alloc ob
      obtain ⟨cb, cc, rfl, hcb⟩ := row_form hbrd.own_c (by omega)
      obtain ⟨gb, gc, rfl, hgb⟩ := row_form hbrd.own_g (by omega)
      have bl : ∀ ob, Below wr.heap.size wr (wr.alloc ob) := fun ob => (Below.refl _ _).alloc (Nat.le_refl _) ob
      have a4 : ∀ ob, (wr.alloc ob).cell? ⟨b, 4, none⟩ = some (sl cb K cc) := fun ob => (hbA ob).str.c4
      have a5 : ∀ ob, (wr.alloc ob).cell? ⟨b, 5, none⟩ = some (sl gb K gc) := fun ob => (hbA ob).str.c5
      have acb : ∀ ob, (wr.alloc ob).cell? ⟨cb, j, none⟩ = some (sl (C j) (bn j) (bn j)) := fun ob => by
        have h0 := hcb j _ (rowsV_get hj)
        exact ((bl ob).cell (block_lt_of_cell h0)).trans h0
      have agb : ∀ ob, (wr.alloc ob).cell? ⟨gb, j, none⟩ = some (sl (G j) (bn j) (bn j)) := fun ob => by
        have h0 := hgb j _ (rowsV_get hj)
        exact ((bl ob).cell (block_lt_of_cell h0)).trans h0
      have aC : ∀ ob, (wr.alloc ob).cell? ⟨C j, i, none⟩ = some (.int .i64 (cf j i : Nat)) := fun ob => ((hbA ob).cnt j hj).cell hi
      have aG : ∀ ob, (wr.alloc ob).cell? ⟨G j, i, none⟩ = some (.int .i64 (gf j i : Nat)) := fun ob => ((hbA ob).sms j hj).cell hi
      have hj' : (j : Int) < (K : Int) := by omega
      have hi' : (i : Int) < (bn j : Int) := by omega
      have hlen : (0 : Int) < ((r.length + 1 : Nat) : Int) := by omega
      obtain ⟨N, hN⟩ : ∃ N, N = r.length + 1 := ⟨_, rfl⟩
      have hN' : (((j : Int), (i : Int)) :: r).length = N := by rw [hN]; rfl
      rw [hN'] at c6
      have hN1 : (0 : Int) < (N : Int) := by omega
      have f1 := HF.out j i
      have f2 := HF2.out j i
      by_cases h1 : cf j i = 1
      · have h1' : ((cf j i : Nat) : Int) = 1 := by omega
        have HR2 := Lib.hid hR
        have HRes := Lib.hid hres
        have HT1 := Lib.hid hT1
        have n1 : b ≠ w.heap.size := fun e => by have := hbrd.tb; rw [e, hT1] at this; omega
        have n2 : gb ≠ w.heap.size := fun e => by have := hbrd.tg gb rfl; rw [e, hT1] at this; omega
        have n3 : G j ≠ w.heap.size := fun e => by have := hbrd.tG j hj; rw [e, hT1] at this; omega
        have n4 : wr.heap.size ≠ w.heap.size := fun e => by
          rw [← e] at hres
          rw [Array.getElem?_eq_none (Nat.le_refl _)] at hres
          cases hres
        have n1' := n1.symm
        have n2' := n2.symm
        have n3' := n3.symm
        have n4' := n4.symm
        have q0 : ∀ ob, (wr.alloc ob).cell? ⟨w.heap.size, 0, none⟩ = some (.int .i64 0) := fun ob => ((bl ob).cell (block_lt_of_cell r0)).trans r0
        have q1 : ∀ ob, (wr.alloc ob).cell? ⟨w.heap.size, 1, none⟩ = some (.int .i64 0) := fun ob => ((bl ob).cell (block_lt_of_cell r1)).trans r1
        have qf0 : ∀ ob, (wr.alloc ob).frozen? ⟨w.heap.size, 0, none⟩ = false := fun ob => ((bl ob).frozen (block_lt_of_cell r0)).trans rf0
        have qf1 : ∀ ob, (wr.alloc ob).frozen? ⟨w.heap.size, 1, none⟩ = false := fun ob => ((bl ob).frozen (block_lt_of_cell r1)).trans rf1
        clear hR hres hbrd hbA bl hrow hcb hgb hlen hcap hT1 hN'
        go_wp2_with fail
        go_quiet (fail)
        go_wp2_with fail
        go_region
        all_goals go_wp2
        have hR := HR2.out
        have hT1 := HT1.out
        refine bodyPost_ret (v := .tuple #[.agg #[.int .i64 j, .int .i64 i], .int .i64 (gf j i : Nat), .bool true]) (by simp [results, Try.results79, go_sem, q0, q1]) rfl
          ⟨_, _, T, ⟨(((hR.brd.alloc (.cells #[.int .i64 j, .int .i64 i] 113)).drewN _).free _ hT1 HB0.out _).free _ hT1 HB0.out _, hR.tags, hR.rdy, hR.sub, hR.len, by simp [World.setCell]; have := hR.size; omega, fun x hx h0 => ?_⟩, .inl ⟨j, i, by simp, hj, hi, h1, rfl⟩⟩
        rw [Below.heap_setCell _ _ _ _ (by show x ≠ w.heap.size; omega), Below.heap_setCell _ _ _ _ (by show x ≠ w.heap.size; omega)]
        exact (Below.heap_alloc wr _ x (Nat.lt_of_lt_of_le hx hR.size)).trans (hR.frame x hx h0)
      · have h1' : (((cf j i : Nat) : Int) == 1) = false := by
          have : ((cf j i : Nat) : Int) ≠ 1 := by omega
          simpa using this
        have HR2 := Lib.hid hR
        have HRes := Lib.hid hres
        have HT1 := Lib.hid hT1
        have HC := Lib.hid hcap
        have HSF := Lib.hid (fun ob k => (⟨((hbrd.alloc ob).drewN k).own_r, ((hbrd.alloc ob).drewN k).str.c6, rfl, fun e => by have := hbrd.tb; rw [e, hbrd.tr g rfl] at this; omega⟩ : HS 0 b g (r.length + 1) cap (((j : Int), (i : Int)) :: r) ((wr.alloc ob).drewN k)))
        have HFz := Lib.hid (fun ob k => ((hbrd.alloc ob).drewN k).str.fz 6)
        clear hR hres hbrd hbA bl hrow hcb hgb hlen hcap a5 agb aG hT1 hN'
        go_wp2_with fail
        go_quiet (fail)
        go_wp2_with fail
        refine (HPop_walk 0 b g r.length cap (((j : Int), (i : Int))) r _ (HSF.out _ _) (by have := HR2.out.len; simp at this; omega) (HFz.out _ _) HC.out).mono ?_; rintro e w2 ⟨v, l', rfl, hs, hp, ho⟩
        have c62 := hs.at6
        have HS2 := Lib.hid hs
        have HO := Lib.hid ho
        have HP := Lib.hid hp
        have hl2 : lenAt b w2 < lenAt b wr := by rw [lenAt_of hs.at6, lenAt_of c6]; omega
        clear hs ho hp
        go_wp2
        go_roundw
        case measure => exact hl2
        case rel =>
          have hR := HR2.out
          have hB := (hR.brd.alloc (.cells #[.int .i64 j, .int .i64 i] 113)).drewN nq
          obtain ⟨T2, ht2, hb2⟩ := hB.ready (OnlyV.of6 (n := r.length + 1) (cap := cap) HO.out) (by have := HS2.out.len; rw [← this]; exact HS2.out.row) HS2.out.at6 (fun g' e => .inl e)
          have hsz : (wr.alloc (.cells #[.int .i64 j, .int .i64 i] 113)).heap.size = wr.heap.size + 1 := by simp
          have key : ∀ x, x < wr.heap.size → T x = 0 → w2.heap[x]? = wr.heap[x]? := fun x hx h0 => by
            have e1 := HO.out.block x (by show x < (wr.alloc _).heap.size; omega) (fun e => by have := hR.brd.tr g rfl; rw [← e, h0] at this; omega) (fun e => by have := hR.brd.tb; rw [← e, h0] at this; omega)
            exact e1.trans (Below.heap_alloc wr _ x hx)
          have hlw : w.heap.size < wr.heap.size := block_lt_of_cell r0
          have ht3 : ∀ x, x < wr.heap.size → T2 x = T x := fun x hx => ht2 x (by show x < (wr.alloc _).heap.size; omega)
          refine ⟨_, l', T2, Lib.hid ⟨⟨hb2, fun x hx => (ht3 x (by omega)).trans (hR.tags x hx), fun hr j' i' a1 a2 a3 => ?_, fun x hx => hR.sub x (List.mem_cons_of_mem _ (HP.out.mem_iff.1 hx)), ?_, ?_, fun x hx h0 => ?_⟩, ?_, ?_⟩⟩
          · rcases List.mem_cons.1 (hR.rdy hr j' i' a1 a2 a3) with e | e
            · have e1 := (Prod.mk.inj e).1
              have e2 := (Prod.mk.inj e).2
              obtain rfl : j' = j := by omega
              obtain rfl : i' = i := by omega
              exact absurd a3 h1
            · exact HP.out.mem_iff.2 e
          · have := HP.out.length_eq
            have := hR.len
            simp at this
            omega
          · have := HO.out.size
            have : w2.heap.size ≥ (wr.alloc (.cells #[.int .i64 j, .int .i64 i] 113)).heap.size := this
            omega
          · exact (key x (by omega) ((hR.tags x hx).trans h0)).trans (hR.frame x hx h0)
          · exact (key _ hlw HT1.out).trans HRes.out
          · exact (ht3 _ hlw).trans HT1.out
end Go.Proofs.Ytoeeceemoggffaa

namespace Go.Proofs.Ytoeeceemoggffaa
open Go.RowKit Go.Lib
set_option maxHeartbeats 3200000
set_option maxRecDepth 100000

def mix (k : Nat) (f' f : Nat → Nat → Nat) : Nat → Nat → Nat := fun j i => if j < k then f' j i else f j i
theorem mix_zero (f' f : Nat → Nat → Nat) : mix 0 f' f = f := by
  funext j i
  unfold mix
  rw [if_neg (by omega)]

theorem mix_step {K k L v : Nat} {cf' cf : Nat → Nat → Nat} {ln : Nat → Nat} (h : ∀ j i, j < K → cf' j i + (if ln j = i then v else 0) = cf j i) (hL : L = ln k) : ∀ j i, j < K → (j ≠ k ∨ i ≠ L) → mix (k + 1) cf' cf j i = mix k cf' cf j i := by
  intro j i hj hne
  unfold mix
  by_cases e : j = k
  · subst e
    have e2 := h j i hj
    rw [← hL] at e2
    have e3 : ¬ L = i := by
      rcases hne with h9 | h9
      · exact absurd rfl h9
      · exact fun e => h9 e.symm
    rw [if_neg e3] at e2
    rw [if_neg (show ¬ j < j by omega), if_pos (by omega)]
    omega
  · by_cases e4 : j < k
    · rw [if_pos e4, if_pos (by omega)]
    · rw [if_neg e4, if_neg (by omega)]
theorem rdy_step {K k L : Nat} {bn : Nat → Nat} {cf' cf : Nat → Nat → Nat} {l l' : List (Int × Int)} (hm : ∀ j i, j < K → (j ≠ k ∨ i ≠ L) → mix (k + 1) cf' cf j i = mix k cf' cf j i) (h : Rdy K bn (mix k cf' cf) l) (hs : ∀ x ∈ l, x ∈ l')
    (h1 : mix (k + 1) cf' cf k L = 1 → ((k : Int), (L : Int)) ∈ l') : Rdy K bn (mix (k + 1) cf' cf) l' := by
  intro j i hj hi ha
  by_cases e : j = k ∧ i = L
  · obtain ⟨rfl, rfl⟩ := e
    exact h1 ha
  · have e' : j ≠ k ∨ i ≠ L := by
      by_cases e1 : j = k
      · exact .inr fun e2 => e ⟨e1, e2⟩
      · exact .inl e1
    rw [hm j i hj e'] at ha
    exact hs _ (h j i hj hi ha)

/-- what stands at the head of a round of shut -/
structure ShutR (w0 : World) (T0 : Nat → Nat) (b o n M : Nat) (dv : Value) (st bn : Nat → Nat) (sv cv gv : Value) (C G : Nat → Nat) (K : Nat) (S : Nat → Bool) (cf' cf gf' gf : Nat → Nat → Nat) (l0 : List (Int × Int)) (R : Nat → Prop) (J : Nat → World → Prop) (k : Nat) (w wr : World) (rv : Value) (l : List (Int × Int)) (T : Nat → Nat) : Prop where
  brd : Brd w0 T b o n M dv st bn sv cv gv rv C G K K K S (mix k cf' cf) (mix k gf' gf) l wr
  tags : ∀ x, x < w.heap.size → T x = T0 x
  rdy : Rdy K bn (mix k cf' cf) l
  good : Good K bn l
  len : l.length ≤ l0.length + k
  size : w.heap.size ≤ wr.heap.size
  frame : ∀ x, x < w.heap.size → T0 x = 0 → ¬ R x → wr.heap[x]? = w.heap[x]?
  inv : J k wr

/-- nothing but the blocks of R (and new ones) has turned -/
structure FreeR (R : Nat → Prop) (w w' : World) : Prop where
  os : w'.os = w.os
  tape : w'.tape = w.tape
  output : w'.output = w.output
  size : w.heap.size ≤ w'.heap.size
  block : ∀ x, x < w.heap.size → ¬ R x → w'.heap[x]? = w.heap[x]?

theorem Brd.freeR {w0 : World} {T : Nat → Nat} {b o n M : Nat} {dv : Value} {st bn : Nat → Nat} {sv cv gv rv : Value} {C G : Nat → Nat} {ks kc kg : Nat} {S : Nat → Bool} {cf gf : Nat → Nat → Nat} {l : List (Int × Int)} {w w' : World} {R : Nat → Prop}
    (h : Brd w0 T b o n M dv st bn sv cv gv rv C G ks kc kg S cf gf l w) (k : FreeR R w w') (hR : ∀ x, R x → w0.heap.size ≤ x ∧ T x = 0) : Brd w0 T b o n M dv st bn sv cv gv rv C G ks kc kg S cf gf l w' := by
  have c : Chg T T (fun t => t = 0) w w' := ⟨k.os, k.tape, k.output, k.size, fun x hx hp => k.block x hx (fun hr => hp (hR x hr).2), fun _ _ => rfl, fun x hx => Nat.lt_of_lt_of_le (h.lt x hx).2 k.size⟩
  exact { below := h.below.trans ⟨k.os, k.tape, k.output, k.size, fun x hx => k.block x (Nat.lt_of_lt_of_le hx h.below.size) (fun hr => by have := (hR x hr).1; omega)⟩
          lt := h.lt_chg c, str := h.k_str c (by omega), own_s := h.k_s c (by omega), own_c := h.k_c c (by omega), own_g := h.k_g c (by omega), own_r := h.k_r c (by omega), opn := h.k_o c (by omega)
          cnt := fun j' hj' => h.k_cnt c hj' (by omega), sms := fun j' hj' => h.k_sms c hj' (by omega), tb := h.tb, t_o := h.t_o, ts := h.ts, tc := h.tc, tg := h.tg, tr := h.tr, tC := h.tC, tG := h.tG }

theorem Brd.as {w0 : World} {T : Nat → Nat} {b o n M : Nat} {dv : Value} {st bn : Nat → Nat} {sv cv gv rv : Value} {C G : Nat → Nat} {ks kc kg : Nat} {S : Nat → Bool} {cf gf cf1 gf1 : Nat → Nat → Nat} {l : List (Int × Int)} {w : World}
    (h : Brd w0 T b o n M dv st bn sv cv gv rv C G ks kc kg S cf gf l w) (e1 : ∀ j i, cf j i = cf1 j i) (e2 : ∀ j i, gf j i = gf1 j i) : Brd w0 T b o n M dv st bn sv cv gv rv C G ks kc kg S cf1 gf1 l w := by
  have e1' : cf = cf1 := funext fun j => funext fun i => e1 j i
  have e2' : gf = gf1 := funext fun j => funext fun i => e2 j i
  rw [← e1', ← e2']
  exact h

theorem row_cell {w : World} {e : TypeId} {z g n cap : Nat} {xs : List Value} (h : w.ownsRow 0 e z (sl g n cap) n xs) {i : Nat} {u : Value} (hu : xs[i]? = some u) : w.cell? ⟨g, i, none⟩ = some u := by
  have c := World.ownsRow.cells h (g := g) rfl _ _ hu
  have ha : (⟨g, 0, none⟩ : Addr).add i = ⟨g, i, none⟩ := by unfold Addr.add; split <;> simp_all
  rw [ha] at c
  exact c

theorem shut_walk {w0 : World} {T0 : Nat → Nat} {b o n M : Nat} {A : Option Addr} {capd : Nat} {ds : List (Int × Int)} {sv cv gv rv0 : Value} {C G : Nat → Nat} {S : Nat → Bool} {cf cf' gf gf' : Nat → Nat → Nat} {l0 : List (Int × Int)} {w : World}
    (h : Brd w0 T0 b o n M (.slice A ds.length capd) (stD n ds) (bnD n ds) sv cv gv rv0 C G ds.length ds.length ds.length S cf gf l0 w) (hD : Dirs w0 A ds) (ho : ∀ d ∈ ds, okD d = true) (hM : M = n * n) (h1 : 1 ≤ n) (h2 : n ≤ 64) (hds : ds.length ≤ 64) (c : Nat) (hc : c < M)
    (hl : l0.length + 64 ≤ 1000000) (hg : Good ds.length (bnD n ds) l0) (hr : Rdy ds.length (bnD n ds) cf l0) (hcf : ∀ j i, cf j i ≤ 5000) (hgf : ∀ j i, gf j i ≤ 20000000)
    (hcf' : ∀ j i, j < ds.length → cf' j i + (if lnD n ds j c = i then 1 else 0) = cf j i) (hgf' : ∀ j i, j < ds.length → gf' j i + (if lnD n ds j c = i then c else 0) = gf j i)
    (fn : Nat) (caps : Array Value) (hC : ∀ args a, Sem.run Try.prog (callFunc fn args) a = .ok (.enter fn args) a) (R : Nat → Prop) (J : Nat → World → Prop) (hR : ∀ x, R x → w0.heap.size ≤ x ∧ T0 x = 0 ∧ x < w.heap.size) (hJ0 : J 0 w) (hJ : ∀ k a d, J k a → (∀ x, R x → d.heap[x]? = a.heap[x]?) → J k d)
    (hE : ∀ k a, k < ds.length → J k a → w.heap.size ≤ a.heap.size → Calls Try.prog fn (#[.agg #[.int .i64 k, .int .i64 (lnD n ds k c : Nat)]] ++ caps) a fun e a' => e = .returned (.tuple #[]) ∧ J (k + 1) a' ∧ FreeR R a a') :
    Calls Try.prog 80 #[.pointer (some ⟨b, 0, none⟩), .int .i64 c, .func (.func fn) #[] caps] w fun e w' => e = .returned (.tuple #[]) ∧ ∃ rv l T, ShutR w0 T0 b o n M (.slice A ds.length capd) (stD n ds) (bnD n ds) sv cv gv C G ds.length (shutC S c) cf' cf gf' gf l0 R J ds.length w w' rv l T := by
  have HH := Lib.hid h
  have HD := Lib.hid hD
  have HO := Lib.hid ho
  have HM := Lib.hid hM
  have HG := Lib.hid hg
  have HF := Lib.hid hcf
  have HF2 := Lib.hid hgf
  have HF' := Lib.hid hcf'
  have HF2' := Lib.hid hgf'
  have HR := Lib.hid hR
  have HJ := Lib.hid hJ
  have HE := Lib.hid hE
  have HS : ShutR w0 T0 b o n M (.slice A ds.length capd) (stD n ds) (bnD n ds) sv cv gv C G ds.length (shutC S c) cf' cf gf' gf l0 R J 0 w (w.setCell ⟨o, c, none⟩ (.bool false)) rv0 l0 T0 :=
    ⟨by rw [mix_zero, mix_zero]; exact h.setO c false, fun _ _ => rfl, by rw [mix_zero]; exact hr, hg, by omega, by simp [World.setCell], fun x hx h0 _ => Below.heap_setCell _ _ _ _ (fun e => by have h3 := h.t_o; have e' : x = o := e; rw [← e'] at h3; omega),
      hJ 0 _ _ hJ0 fun x hx => Below.heap_setCell _ _ _ _ (fun e => by have h3 := h.t_o; have h4 := (hR x hx).2.1; have e' : x = o := e; rw [e', h3] at h4; omega)⟩
  have HS' := Lib.hid HS
  have c3 := h.str.c3
  have oc := h.opn.cell hc
  have of := h.opn.frozen c
  have s1 := HS.brd.str.c1
  have hc' : (c : Int) < (M : Int) := by omega
  clear h hD ho hM hg hr hcf hgf hcf' hgf' hR hJ hE hJ0 HS
  go_enter Try.func80, Try.ntmps80
  go_wp2
  go_loopw [6, 7, 19] (fun _ _ i wr => ∃ k : Nat, k ≤ ds.length ∧ i = .int .i64 k ∧ ∃ rv l T, Hid (ShutR w0 T0 b o n M (.slice A ds.length capd) (stD n ds) (bnD n ds) sv cv gv C G ds.length (shutC S c) cf' cf gf' gf l0 R J k w wr rv l T)) (fun _ _ i _ => ds.length - (intOf i).toNat)
  case atStart => exact ⟨0, Nat.zero_le _, rfl, rv0, l0, T0, HS'⟩
  case round =>
    obtain ⟨k, hk, rfl, rv, l, T, HQ⟩ := hrel
    by_cases hk1 : k < ds.length
    · have hk1' : (k : Int) < (ds.length : Int) := by omega
      have hb := HQ.out.brd
      have HL := Lib.hid (hb.line HD.out HO.out HM.out h1 h2 k c hk1 hk1 hc)
      have hLb : lnD n ds k c < bnD n ds k := lineN_lt (n := n) (p := (dirAt ds k).1) (q := (dirAt ds k).2) HM.out (HO.out _ (dirAt_mem hk1)) hc
      obtain ⟨L, hL⟩ : ∃ L, L = lnD n ds k c := ⟨_, rfl⟩
      rw [← hL] at HL hLb
      have HLe := Lib.hid hL
      clear hb hL
      go_upto_region 5 with (go_at_call 108; refine (HL.out).mono ?_; rintro e w1 ⟨rfl, hz⟩; have HZ := Lib.hid hz; clear hz)
      have hb1 : Brd w0 T b o n M (.slice A ds.length capd) (stD n ds) (bnD n ds) sv cv gv rv C G ds.length ds.length ds.length (shutC S c) (mix k cf' cf) (mix k gf' gf) l w1 := by
        obtain ⟨z, rfl⟩ := HZ.out
        exact HQ.out.brd.drewN z
      obtain ⟨cb, cc, rfl, hcb⟩ := row_form hb1.own_c (by omega)
      obtain ⟨gb, gc, rfl, hgb⟩ := row_form hb1.own_g (by omega)
      obtain ⟨W, hW⟩ : ∃ W, W = w1.alloc (.cells #[.int .i64 k, .int .i64 L] 113) := ⟨_, rfl⟩
      rw [← hW]
      have hbW : Brd w0 T b o n M (.slice A ds.length capd) (stD n ds) (bnD n ds) sv (sl cb ds.length cc) (sl gb ds.length gc) rv C G ds.length ds.length ds.length (shutC S c) (mix k cf' cf) (mix k gf' gf) l W := by
        rw [hW]
        exact hb1.alloc _
      have x4 := hbW.str.c4
      have xcb : W.cell? ⟨cb, k, none⟩ = some (sl (C k) (bnD n ds k) (bnD n ds k)) := by
        have h0 := hcb k _ (rowsV_get hk1)
        rw [hW]
        exact (((Below.refl _ _).alloc (Nat.le_refl _) _).cell (block_lt_of_cell h0)).trans h0
      have xat0 : W.cell? ⟨w1.heap.size, 0, none⟩ = some (.int .i64 k) := by rw [hW]; exact new_cell w1 _ _ 0
      have HBx := Lib.hid (hb1.new _ (Nat.le_refl _))
      have xat1 : W.cell? ⟨w1.heap.size, 1, none⟩ = some (.int .i64 L) := by rw [hW]; exact new_cell w1 _ _ 1
      have xC := (hbW.cnt k hk1).cell hLb
      have xCf := (hbW.cnt k hk1).frozen L
      have hLb' : (L : Int) < (bnD n ds k : Int) := by omega
      obtain ⟨u, hu⟩ : ∃ u, u = cf' k L := ⟨_, rfl⟩
      obtain ⟨s, hs⟩ : ∃ s, s = gf' k L := ⟨_, rfl⟩
      have hu1 : mix k cf' cf k L = u + 1 := by
        have := HF'.out k L hk1
        rw [if_pos HLe.out.symm] at this
        unfold mix
        rw [if_neg (by omega)]
        omega
      have hs1 : mix k gf' gf k L = s + c := by
        have := HF2'.out k L hk1
        rw [if_pos HLe.out.symm] at this
        unfold mix
        rw [if_neg (by omega)]
        omega
      have hu2 : u ≤ 5000 := by
        have := HF'.out k L hk1
        have := HF.out k L
        omega
      have hs2 : s ≤ 20000000 := by
        have := HF2'.out k L hk1
        have := HF2.out k L
        omega
      have hc2 : c ≤ 5000 := by
        have h3 := Nat.mul_le_mul h2 h2
        rw [← HM.out] at h3
        omega
      simp only [hu1, Int.natCast_add, Int.natCast_one] at xC
      have HFr : Hid (∀ x, x < wr.heap.size → W.heap[x]? = wr.heap[x]?) := Lib.hid (fun x hx => by
        obtain ⟨z, rfl⟩ := HZ.out
        rw [hW]
        exact Below.heap_alloc _ _ _ hx)
      have HSz : Hid (wr.heap.size < W.heap.size) := Lib.hid (by
        obtain ⟨z, rfl⟩ := HZ.out
        rw [hW]
        simp)
      have HxW : Hid (w1.heap.size < W.heap.size) := Lib.hid (by
        rw [hW]
        simp)
      have HbW := Lib.hid hbW
      have HWe := Lib.hid hW
      have HU := Lib.hid hu
      have HSe := Lib.hid hs
      have HS1 := Lib.hid hs1
      clear hb1 hW hbW hu hs hu1 hs1 hcb hgb
      have hw : IntKind.i64.wrap (u : Int) = (u : Int) := by rw [IntKind.wrap_i64]; omega
      have hw2 : IntKind.i64.wrap (s : Int) = (s : Int) := by rw [IntKind.wrap_i64]; omega
      go_still_tail 13, (by kernel_rfl)
      change wpList _ _ _ _ _ W.drew
      go_upto_region 6 with fail
      obtain ⟨W2, hW2⟩ : ∃ W2, W2 = (W.setCell ⟨C k, L, none⟩ (.int .i64 u)).drew := ⟨_, rfl⟩
      rw [← hW2]
      have hb2 := (HbW.out.setC hk1 L u).drew
      rw [← hW2] at hb2
      have hBx : T w1.heap.size = 0 := HBx.out
      have hCx : C k ≠ w1.heap.size := fun e => by have := HbW.out.tC k hk1; rw [e, hBx] at this; omega
      have hGx : G k ≠ w1.heap.size := fun e => by have := HbW.out.tG k hk1; rw [e, hBx] at this; omega
      have y0 : W2.cell? ⟨w1.heap.size, 0, none⟩ = some (.int .i64 k) := by
        rw [hW2]
        exact (World.cell?_of_block (Below.heap_setCell _ _ _ _ (by show w1.heap.size ≠ C k; exact fun e => hCx e.symm))).trans xat0
      have y1 : W2.cell? ⟨w1.heap.size, 1, none⟩ = some (.int .i64 L) := by
        rw [hW2]
        exact (World.cell?_of_block (Below.heap_setCell _ _ _ _ (by show w1.heap.size ≠ C k; exact fun e => hCx e.symm))).trans xat1
      have y5 := hb2.str.c5
      have ygb := row_cell hb2.own_g (rowsV_get hk1)
      have yG := (hb2.sms k hk1).cell hLb
      have yGf := (hb2.sms k hk1).frozen L
      rw [HS1.out, Int.natCast_add] at yG
      have Hb2 := Lib.hid hb2
      have HFr2 : Hid (∀ x, x < wr.heap.size → T x = 0 → W2.heap[x]? = wr.heap[x]?) := Lib.hid (fun x hx h0 => by
        rw [hW2]
        exact (Below.heap_setCell _ _ _ _ (by show x ≠ C k; exact fun e => by have h9 := HbW.out.tC k hk1; rw [← e, h0] at h9; omega)).trans (HFr.out x hx))
      have HSz2 : Hid (W2.heap.size = W.heap.size) := Lib.hid (by
        rw [hW2]
        simp [World.setCell])
      have HCx := Lib.hid hCx
      have HGx := Lib.hid hGx
      clear hb2 hW2 hBx hCx hGx xC xCf x4 xcb xat1 xat0
      go_still_tail 14, (by kernel_rfl)
      change wpList _ _ _ _ _ W2.drew
      go_upto_region 7 with fail
      obtain ⟨W3, hW3⟩ : ∃ W3, W3 = (W2.setCell ⟨G k, L, none⟩ (.int .i64 s)).drew := ⟨_, rfl⟩
      rw [← hW3]
      have hb3 : Brd w0 T b o n M (.slice A ds.length capd) (stD n ds) (bnD n ds) sv (sl cb ds.length cc) (sl gb ds.length gc) rv C G ds.length ds.length ds.length (shutC S c) (mix (k + 1) cf' cf) (mix (k + 1) gf' gf) l W3 := by
        have h3 := (Hb2.out.setG hk1 L s).drew
        rw [← hW3] at h3
        refine h3.as (fun j i => ?_) (fun j i => ?_)
        · have e1 := HF'.out j i
          rw [HU.out]
          unfold mix
          by_cases e : j = k
          · subst e
            have e2 := e1 hk1
            rw [← HLe.out] at e2
            by_cases e3 : i = L
            · subst e3
              simp
            · rw [if_neg (fun h => e3 h.symm)] at e2
              rw [if_neg (fun h => e3 h.2), if_neg (by omega), if_pos (by omega)]
              omega
          · rw [if_neg (fun h => e h.1)]
            by_cases e4 : j < k
            · rw [if_pos e4, if_pos (by omega)]
            · rw [if_neg e4, if_neg (by omega)]
        · have e1 := HF2'.out j i
          rw [HSe.out]
          unfold mix
          by_cases e : j = k
          · subst e
            have e2 := e1 hk1
            rw [← HLe.out] at e2
            by_cases e3 : i = L
            · subst e3
              simp
            · rw [if_neg (fun h => e3 h.symm)] at e2
              rw [if_neg (fun h => e3 h.2), if_neg (by omega), if_pos (by omega)]
              omega
          · rw [if_neg (fun h => e h.1)]
            by_cases e4 : j < k
            · rw [if_pos e4, if_pos (by omega)]
            · rw [if_neg e4, if_neg (by omega)]
      have hm3 : mix (k + 1) cf' cf k L = u := by unfold mix; rw [if_pos (by omega)]; exact HU.out.symm
      have z0 : W3.cell? ⟨w1.heap.size, 0, none⟩ = some (.int .i64 k) := by
        rw [hW3]
        exact (World.cell?_of_block (Below.heap_setCell _ _ _ _ (by show w1.heap.size ≠ G k; exact fun e => HGx.out e.symm))).trans y0
      have z1 : W3.cell? ⟨w1.heap.size, 1, none⟩ = some (.int .i64 L) := by
        rw [hW3]
        exact (World.cell?_of_block (Below.heap_setCell _ _ _ _ (by show w1.heap.size ≠ G k; exact fun e => HGx.out e.symm))).trans y1
      have z4 := hb3.str.c4
      have zcb := row_cell hb3.own_c (rowsV_get hk1)
      have zC := (hb3.cnt k hk1).cell hLb
      rw [hm3] at zC
      have Hb3 := Lib.hid hb3
      have HM3 := Lib.hid hm3
      have HFr3 : Hid (∀ x, x < wr.heap.size → T x = 0 → W3.heap[x]? = wr.heap[x]?) := Lib.hid (fun x hx h0 => by
        rw [hW3]
        exact (Below.heap_setCell _ _ _ _ (by show x ≠ G k; exact fun e => by have h9 := HbW.out.tG k hk1; rw [← e, h0] at h9; omega)).trans (HFr2.out x hx h0))
      have HSz3 : Hid (W3.heap.size = W.heap.size) := Lib.hid (by
        have := HSz2.out
        rw [hW3]
        simpa [World.setCell] using this)
      have hT0 : ∀ x, x < w.heap.size → T0 x = 0 → T x = 0 := fun x hx h0 => (HQ.out.tags x hx).trans h0
      have HT0 := Lib.hid hT0
      clear hb3 hW3 hm3 y0 y1 y5 ygb yG yGf
      clear hT0
      have HJ3 : Hid (∀ a : World, (∀ x, x < W3.heap.size → T x = 0 → a.heap[x]? = W3.heap[x]?) → J k a) := Lib.hid (fun a ha => HJ.out k wr a HQ.out.inv (fun x hx => by
        obtain ⟨h3, h4, h5⟩ := HR.out x hx
        have h6 := HQ.out.size
        have h7 := HSz.out
        have h8 := HSz3.out
        exact (ha x (by omega) (HT0.out x h5 h4)).trans (HFr3.out x (by omega) (HT0.out x h5 h4))))
      by_cases hu1 : u = 1
      · have hu1' : (u : Int) = 1 := by omega
        go_quiet (fail)
        go_upto_region 8 with fail
        obtain ⟨W4, hW4⟩ : ∃ W4, W4 = W3.drewN nq := ⟨_, rfl⟩
        rw [← hW4]
        have v0 : W4.cell? ⟨w1.heap.size, 0, none⟩ = some (.int .i64 k) := by rw [hW4]; exact z0
        have v1 : W4.cell? ⟨w1.heap.size, 1, none⟩ = some (.int .i64 L) := by rw [hW4]; exact z1
        have HW4 := Lib.hid hW4
        clear z0 z1 z4 zcb zC hW4
        go_still_tail 6, (by kernel_rfl)
        change wpList _ _ _ _ _ W4.drew
        go_wp2_with fail
        have hbP : Brd w0 T b o n M (.slice A ds.length capd) (stD n ds) (bnD n ds) sv (sl cb ds.length cc) (sl gb ds.length gc) rv C G ds.length ds.length ds.length (shutC S c) (mix (k + 1) cf' cf) (mix (k + 1) gf' gf) l W4.drew := by
          rw [HW4.out]
          exact (Hb3.out.drewN nq).drew
        refine (HPush_walk b l.length rv l ((k : Int), (L : Int)) _ hbP.str.c6 hbP.own_r rfl (fun e => by have h9 := hbP.tr b e; rw [hbP.tb] at h9; omega) (by have h9 := HQ.out.len; omega) (hbP.str.fz 6)).mono ?_; rintro e w4 ⟨rfl, g, cap, l', hs, hp, ho, hat⟩
        obtain ⟨T2, ht2, hb5⟩ := hbP.ready (rv' := sl g (l.length + 1) cap) (l' := l') ho (by have h9 := hs.len; rw [← h9]; exact hs.row) hs.at6 (fun g' e => by
          obtain rfl : g = g' := by simpa [Value.ownBlock] using e
          exact hat)
        have hWs : W4.drew.heap.size = W3.heap.size := by rw [HW4.out]; rfl
        have hWh : W4.drew.heap = W3.heap := by rw [HW4.out]; rfl
        have hblk : ∀ x, x < W3.heap.size → T x = 0 → w4.heap[x]? = W3.heap[x]? := fun x hx h0 => by
          rw [← hWh]
          exact ho.block x (by rw [hWs]; exact hx) (fun e => by have h9 := hbP.tr x e; omega) (fun e => by have h9 := hbP.tb; rw [← e, h0] at h9; omega)
        have hxl : w1.heap.size < W3.heap.size := by have h7 := HxW.out; have h8 := HSz3.out; omega
        have q0 : w4.cell? ⟨w1.heap.size, 0, none⟩ = some (.int .i64 k) := by
          rw [World.cell?_of_block (hblk _ hxl HBx.out), ← v0]
          unfold World.cell?
          rw [← hWh]
          rfl
        have q1 : w4.cell? ⟨w1.heap.size, 1, none⟩ = some (.int .i64 L) := by
          rw [World.cell?_of_block (hblk _ hxl HBx.out), ← v1]
          unfold World.cell?
          rw [← hWh]
          rfl
        have hsz4 : W3.heap.size ≤ w4.heap.size := by rw [← hWs]; exact ho.size
        have HB5 := Lib.hid hb5
        have HT2 : Hid (∀ x, x < W3.heap.size → T2 x = T x) := Lib.hid (fun x hx => ht2 x (by rw [hWs]; exact hx))
        have HPm := Lib.hid hp
        have HBk := Lib.hid hblk
        have HS4 := Lib.hid hsz4
        clear hbP hb5 hs hp ho hat ht2 hWs hWh hblk hxl hsz4 v0 v1
        go_wp2_with fail
        have hE1 := HE.out k w4 hk1 (HJ3.out _ HBk.out) (by have h6 := HQ.out.size; have h7 := HSz.out; have h8 := HSz3.out; have h9 := HS4.out; omega)
        rw [← HLe.out] at hE1
        refine hE1.mono ?_; rintro e w5 ⟨rfl, hj4, hf4⟩
        have HJ4 := Lib.hid hj4
        have HF4 := Lib.hid hf4
        clear hj4 hf4
        go_wp2
        go_roundw
        case measure => simp [intOf]; omega
        case rel =>
          have h6 := HQ.out.size
          have h7 := HSz.out
          have h8 := HSz3.out
          have h9 := HS4.out
          have hT2 : ∀ x, x < w.heap.size → T2 x = T x := fun x hx => HT2.out x (by omega)
          have hb6 := HB5.out.freeR HF4.out (fun x hx => ⟨(HR.out x hx).1, (hT2 x (HR.out x hx).2.2).trans (HT0.out x (HR.out x hx).2.2 (HR.out x hx).2.1)⟩)
          refine ⟨k + 1, by omega, by go_num, _, l', T2, Lib.hid ⟨hb6, fun x hx => (hT2 x hx).trans (HQ.out.tags x hx), rdy_step (mix_step HF'.out HLe.out) HQ.out.rdy (fun x hx => HPm.out.mem_iff.2 (List.mem_append_left _ hx)) (fun _ => HPm.out.mem_iff.2 (by simp)), fun x hx => ?_, ?_, ?_, fun x hx h0 hnr => ?_, HJ4.out⟩⟩
          · rcases List.mem_append.1 (HPm.out.mem_iff.1 hx) with h10 | h10
            · exact HQ.out.good x h10
            · exact ⟨k, L, by simpa using h10, hk1, hLb⟩
          · have h10 := HPm.out.length_eq
            have h11 := HQ.out.len
            simp at h10
            omega
          · have h10 : w4.heap.size ≤ w5.heap.size := HF4.out.size
            omega
          · exact (((HF4.out.block x (by omega) hnr).trans (HBk.out x (by omega) (HT0.out x hx h0))).trans (HFr3.out x (by omega) (HT0.out x hx h0))).trans (HQ.out.frame x hx h0 hnr)
      · have hu1' : ((u : Int) == 1) = false := by
          have : (u : Int) ≠ 1 := by omega
          simpa using this
        go_quiet (fail)
        go_wp2_with fail
        have hE1 := HE.out k (W3.drewN nq) hk1 (HJ3.out _ fun x _ _ => rfl) (by have h6 := HQ.out.size; have h7 := HSz.out; have h8 := HSz3.out; show w.heap.size ≤ W3.heap.size; omega)
        rw [← HLe.out] at hE1
        refine hE1.mono ?_; rintro e w4 ⟨rfl, hj4, hf4⟩
        have HJ4 := Lib.hid hj4
        have HF4 := Lib.hid hf4
        clear hj4 hf4
        go_wp2
        go_roundw
        case measure => simp [intOf]; omega
        case rel =>
          have hbD := Hb3.out.drewN nq
          have hb4 := hbD.freeR HF4.out (fun x hx => ⟨(HR.out x hx).1, HT0.out x (HR.out x hx).2.2 (HR.out x hx).2.1⟩)
          refine ⟨k + 1, by omega, by go_num, rv, l, T, Lib.hid ⟨hb4, HQ.out.tags, rdy_step (mix_step HF'.out HLe.out) HQ.out.rdy (fun _ hx => hx) (fun h9 => absurd (HM3.out.symm.trans h9) hu1), HQ.out.good, by have := HQ.out.len; omega, ?_, fun x hx h0 hnr => ?_, HJ4.out⟩⟩
          · have h6 := HQ.out.size
            have h7 := HSz.out
            have h8 := HSz3.out
            have h9 : W3.heap.size ≤ w4.heap.size := HF4.out.size
            omega
          · have h6 := HQ.out.size
            have h7 := HSz.out
            have h8 := HSz3.out
            exact ((HF4.out.block x (by show x < W3.heap.size; omega) hnr).trans (HFr3.out x (by omega) (HT0.out x hx h0))).trans (HQ.out.frame x hx h0 hnr)
    · obtain rfl : k = ds.length := by omega
      have hk2 : decide ((ds.length : Int) < (ds.length : Int)) = false := by simp
      go_wp2
      exact bodyPost_end (v := .tuple #[]) (by simp [results, Try.results80, go_sem]) rfl ⟨rfl, rv, l, T, HQ.out⟩
end Go.Proofs.Ytoeeceemoggffaa
