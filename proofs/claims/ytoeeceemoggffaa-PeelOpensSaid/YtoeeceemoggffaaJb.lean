/- The memory of the reference's board: one predicate, and what each kind of step does to it. -/
import Derived.Test.YtoeeceemoggffaaJa
import Derived.Laws.OwnMore
namespace Go.Proofs.Ytoeeceemoggffaa
open Go.RowKit Go.Lib
set_option maxHeartbeats 800000
set_option linter.unusedVariables false

/-- how many of the first m numbers are 1 -/
def ones (f : Nat → Nat) : Nat → Nat
  | 0 => 0
  | m + 1 => ones f m + (if f m = 1 then 1 else 0)
theorem ones_le (f : Nat → Nat) (m : Nat) : ones f m ≤ m := by
  induction m with
  | zero => exact Nat.le_refl _
  | succ m ih => unfold ones; split <;> omega
theorem ones_congr {f g : Nat → Nat} : ∀ {m : Nat}, (∀ i, i < m → f i = g i) → ones f m = ones g m
  | 0, _ => rfl
  | m + 1, h => by
    unfold ones
    rw [ones_congr (m := m) (fun i hi => h i (by omega)), h m (by omega)]
theorem ones_pos {f : Nat → Nat} {i : Nat} (h : f i = 1) : ∀ {m : Nat}, i < m → 0 < ones f m
  | 0, hi => by omega
  | m + 1, hi => by
    unfold ones
    by_cases e : i = m
    · subst e
      rw [if_pos h]
      omega
    · have := ones_pos h (m := m) (by omega)
      omega
/-- one number turned from u + 1 to u -/
theorem ones_step {f g : Nat → Nat} {L u : Nat} (h1 : f L = u + 1) (h2 : g L = u) (h3 : ∀ i, i ≠ L → g i = f i) : ∀ {m : Nat}, L < m → ones g m + (if u = 0 then 1 else 0) = ones f m + (if u = 1 then 1 else 0)
  | 0, h => by omega
  | m + 1, h => by
    unfold ones
    by_cases e : L = m
    · subst e
      rw [ones_congr (m := L) (f := g) (g := f) (fun i hi => h3 i (by omega)), h1, h2]
      by_cases e0 : u = 0
      · subst e0
        simp
      · rw [if_neg e0, if_neg (show ¬ u + 1 = 1 by omega)]
        omega
    · have := ones_step h1 h2 h3 (m := m) (by omega)
      rw [h3 m (fun h => e h.symm)]
      omega

/-- the struct's six cells -/
structure Srf (w : World) (b n : Nat) (ov rv cv yv dv : Value) : Prop where
  c0 : w.cell? ⟨b, 0, none⟩ = some (.int .i64 n)
  c1 : w.cell? ⟨b, 1, none⟩ = some ov
  c2 : w.cell? ⟨b, 2, none⟩ = some rv
  c3 : w.cell? ⟨b, 3, none⟩ = some cv
  c4 : w.cell? ⟨b, 4, none⟩ = some yv
  c5 : w.cell? ⟨b, 5, none⟩ = some dv
  fz : ∀ j, w.frozen? ⟨b, j, none⟩ = false
section
variable {w w' : World} {b n : Nat} {ov rv cv yv dv : Value}
theorem Srf.keep (h : Srf w b n ov rv cv yv dv) (e : w'.heap[b]? = w.heap[b]?) : Srf w' b n ov rv cv yv dv :=
  have c : ∀ j, w'.cell? ⟨b, j, none⟩ = w.cell? ⟨b, j, none⟩ := fun j => World.cell?_of_block e
  ⟨(c 0).trans h.c0, (c 1).trans h.c1, (c 2).trans h.c2, (c 3).trans h.c3, (c 4).trans h.c4, (c 5).trans h.c5, fun j => (World.frozen?_of_block e).trans (h.fz j)⟩
theorem Srf.set2 (h : Srf w b n ov rv cv yv dv) (v : Value) : Srf (w.setCell ⟨b, 2, none⟩ v) b n ov v cv yv dv :=
  ⟨(set_far w b 2 0 v (by decide)).trans h.c0, (set_far w b 2 1 v (by decide)).trans h.c1, World.cell?_setCell_same _ _ _ h.c2, (set_far w b 2 3 v (by decide)).trans h.c3, (set_far w b 2 4 v (by decide)).trans h.c4, (set_far w b 2 5 v (by decide)).trans h.c5, fun j => by rw [World.frozen?_setCell]; exact h.fz j⟩
theorem Srf.set3 (h : Srf w b n ov rv cv yv dv) (v : Value) : Srf (w.setCell ⟨b, 3, none⟩ v) b n ov rv v yv dv :=
  ⟨(set_far w b 3 0 v (by decide)).trans h.c0, (set_far w b 3 1 v (by decide)).trans h.c1, (set_far w b 3 2 v (by decide)).trans h.c2, World.cell?_setCell_same _ _ _ h.c3, (set_far w b 3 4 v (by decide)).trans h.c4, (set_far w b 3 5 v (by decide)).trans h.c5, fun j => by rw [World.frozen?_setCell]; exact h.fz j⟩
theorem Srf.set4 (h : Srf w b n ov rv cv yv dv) (v : Value) : Srf (w.setCell ⟨b, 4, none⟩ v) b n ov rv cv v dv :=
  ⟨(set_far w b 4 0 v (by decide)).trans h.c0, (set_far w b 4 1 v (by decide)).trans h.c1, (set_far w b 4 2 v (by decide)).trans h.c2, (set_far w b 4 3 v (by decide)).trans h.c3, World.cell?_setCell_same _ _ _ h.c4, (set_far w b 4 5 v (by decide)).trans h.c5, fun j => by rw [World.frozen?_setCell]; exact h.fz j⟩
theorem Srf.lt (h : Srf w b n ov rv cv yv dv) : b < w.heap.size := block_lt_of_cell h.c0
end

/-- the reference's board -/
structure Brf (w0 : World) (T : Nat → Nat) (b o n M : Nat) (dv : Value) (bn : Nat → Nat) (rv cv yv : Value) (C G : Nat → Nat) (kr kc ky : Nat) (S : Nat → Bool) (cf : Nat → Nat → Nat) (yf : Nat → Nat) (w : World) : Prop where
  below : Below w0.heap.size w0 w
  lt : ∀ x, T x ≠ 0 → w0.heap.size ≤ x ∧ x < w.heap.size
  str : Srf w b n (sl o M M) rv cv yv dv
  own_r : w.ownsRow 0 37 1 rv kr (rowsV G bn kr)
  own_c : w.ownsRow 0 118 1 cv kc (rowsV C bn kc)
  own_y : w.ownsRow 0 3 1 yv ky (starts yf ky)
  opn : w.rowIs o 4 M fun i => .bool (S i)
  cnt : ∀ j, j < kc → w.rowIs (C j) 3 (bn j) fun i => .int .i64 (cf j i : Nat)
  rst : ∀ j, j < kr → w.rowIs (G j) 23 (bn j) fun _ => .complex .f64 0 0
  tb : T b = 1
  t_o : T o = 2
  tr : ∀ g, rv.ownBlock = some g → T g = 3
  tc : ∀ g, cv.ownBlock = some g → T g = 4
  ty : ∀ g, yv.ownBlock = some g → T g = 5
  tC : ∀ j, j < kc → T (C j) = 10 + 2 * j
  tG : ∀ j, j < kr → T (G j) = 11 + 2 * j

section
variable {w0 : World} {T T' : Nat → Nat} {b o n M : Nat} {dv : Value} {bn : Nat → Nat} {rv cv yv : Value} {C G : Nat → Nat} {kr kc ky : Nat} {S : Nat → Bool} {cf : Nat → Nat → Nat} {yf : Nat → Nat} {w w' : World} {p : Nat → Prop}

theorem Brf.live (h : Brf w0 T b o n M dv bn rv cv yv C G kr kc ky S cf yf w) {x t : Nat} (hx : T x = t) (ht : t ≠ 0) : x < w.heap.size := (h.lt x (by omega)).2
theorem Brf.same (h : Brf w0 T b o n M dv bn rv cv yv C G kr kc ky S cf yf w) (k : Chg T T' p w w') {x t : Nat} (hx : T x = t) (ht : t ≠ 0) (hp : ¬ p t) : w'.heap[x]? = w.heap[x]? :=
  k.block x (h.live hx ht) (by rw [hx]; exact hp)
theorem Brf.tag (h : Brf w0 T b o n M dv bn rv cv yv C G kr kc ky S cf yf w) (k : Chg T T' p w w') {x t : Nat} (hx : T x = t) (ht : t ≠ 0) : T' x = t := (k.tags x (h.live hx ht)).trans hx
theorem Brf.below_chg (h : Brf w0 T b o n M dv bn rv cv yv C G kr kc ky S cf yf w) (k : Chg T T' p w w') (hp0 : ¬ p 0) : Below w0.heap.size w0 w' :=
  h.below.trans ⟨k.os, k.tape, k.output, k.size, fun x hx => k.block x (Nat.lt_of_lt_of_le hx h.below.size) (by
    have : T x = 0 := by
      rcases Nat.eq_zero_or_pos (T x) with h0 | h0
      · exact h0
      · have := (h.lt x (by omega)).1; omega
    rw [this]; exact hp0)⟩
theorem Brf.lt_chg (h : Brf w0 T b o n M dv bn rv cv yv C G kr kc ky S cf yf w) (k : Chg T T' p w w') : ∀ x, T' x ≠ 0 → w0.heap.size ≤ x ∧ x < w'.heap.size := fun x hx => by
  refine ⟨?_, k.new x hx⟩
  rcases Nat.lt_or_ge x w.heap.size with h1 | h1
  · exact (h.lt x (by rw [← k.tags x h1]; exact hx)).1
  · exact Nat.le_trans h.below.size h1

theorem Brf.k_str (h : Brf w0 T b o n M dv bn rv cv yv C G kr kc ky S cf yf w) (k : Chg T T' p w w') (hp : ¬ p 1) : Srf w' b n (sl o M M) rv cv yv dv := h.str.keep (h.same k h.tb (by omega) hp)
theorem Brf.k_r (h : Brf w0 T b o n M dv bn rv cv yv C G kr kc ky S cf yf w) (k : Chg T T' p w w') (hp : ¬ p 3) : w'.ownsRow 0 37 1 rv kr (rowsV G bn kr) := own_keep h.own_r fun g e => h.same k (h.tr g e) (by omega) hp
theorem Brf.k_c (h : Brf w0 T b o n M dv bn rv cv yv C G kr kc ky S cf yf w) (k : Chg T T' p w w') (hp : ¬ p 4) : w'.ownsRow 0 118 1 cv kc (rowsV C bn kc) := own_keep h.own_c fun g e => h.same k (h.tc g e) (by omega) hp
theorem Brf.k_y (h : Brf w0 T b o n M dv bn rv cv yv C G kr kc ky S cf yf w) (k : Chg T T' p w w') (hp : ¬ p 5) : w'.ownsRow 0 3 1 yv ky (starts yf ky) := own_keep h.own_y fun g e => h.same k (h.ty g e) (by omega) hp
theorem Brf.k_o (h : Brf w0 T b o n M dv bn rv cv yv C G kr kc ky S cf yf w) (k : Chg T T' p w w') (hp : ¬ p 2) : w'.rowIs o 4 M fun i => .bool (S i) := h.opn.of_block (h.same k h.t_o (by omega) hp)
theorem Brf.k_cnt (h : Brf w0 T b o n M dv bn rv cv yv C G kr kc ky S cf yf w) (k : Chg T T' p w w') {j : Nat} (hj : j < kc) (hp : ¬ p (10 + 2 * j)) : w'.rowIs (C j) 3 (bn j) fun i => .int .i64 (cf j i : Nat) := (h.cnt j hj).of_block (h.same k (h.tC j hj) (by omega) hp)
theorem Brf.k_rst (h : Brf w0 T b o n M dv bn rv cv yv C G kr kc ky S cf yf w) (k : Chg T T' p w w') {j : Nat} (hj : j < kr) (hp : ¬ p (11 + 2 * j)) : w'.rowIs (G j) 23 (bn j) fun _ => .complex .f64 0 0 := (h.rst j hj).of_block (h.same k (h.tG j hj) (by omega) hp)

/-- nothing of the board has turned -/
theorem Brf.step (h : Brf w0 T b o n M dv bn rv cv yv C G kr kc ky S cf yf w) (k : Chg T T' p w w') (hp : ∀ t, p t → t = 0) (hp0 : ¬ p 0) : Brf w0 T' b o n M dv bn rv cv yv C G kr kc ky S cf yf w' := by
  have np : ∀ t, ¬ p t := fun t h1 => by have := hp t h1; subst this; exact hp0 h1
  exact ⟨h.below_chg k hp0, h.lt_chg k, h.k_str k (np _), h.k_r k (np _), h.k_c k (np _), h.k_y k (np _), h.k_o k (np _), fun j hj => h.k_cnt k hj (np _), fun j hj => h.k_rst k hj (np _),
    h.tag k h.tb (by omega), h.tag k h.t_o (by omega), fun g e => h.tag k (h.tr g e) (by omega), fun g e => h.tag k (h.tc g e) (by omega), fun g e => h.tag k (h.ty g e) (by omega),
    fun j hj => h.tag k (h.tC j hj) (by omega), fun j hj => h.tag k (h.tG j hj) (by omega)⟩

theorem Brf.c_below (h : Brf w0 T b o n M dv bn rv cv yv C G kr kc ky S cf yf w) (k : Below w.heap.size w w') : Chg T T (fun _ => False) w w' := ⟨k.os, k.tape, k.output, k.size, fun x hx _ => k.block x hx, fun _ _ => rfl, fun x hx => Nat.lt_of_lt_of_le (h.lt x hx).2 k.size⟩
theorem Brf.c_set (h : Brf w0 T b o n M dv bn rv cv yv C G kr kc ky S cf yf w) (a : Addr) (v : Value) : Chg T T (fun t => t = T a.block) w (w.setCell a v) := ⟨rfl, rfl, rfl, by simp [World.setCell], fun x hx hp => Below.heap_setCell _ _ _ _ (fun e => hp (by rw [e])), fun _ _ => rfl, fun x hx => by have := (h.lt x hx).2; simp [World.setCell]; omega⟩

theorem Brf.beyond (h : Brf w0 T b o n M dv bn rv cv yv C G kr kc ky S cf yf w) (k : Below w.heap.size w w') : Brf w0 T b o n M dv bn rv cv yv C G kr kc ky S cf yf w' := h.step (h.c_below k) (fun _ hf => hf.elim) (fun hf => hf.elim)
theorem Brf.drewN (h : Brf w0 T b o n M dv bn rv cv yv C G kr kc ky S cf yf w) (k : Nat) : Brf w0 T b o n M dv bn rv cv yv C G kr kc ky S cf yf (w.drewN k) := h.beyond (Drawn.below ⟨_, rfl⟩ _)
theorem Brf.drew (h : Brf w0 T b o n M dv bn rv cv yv C G kr kc ky S cf yf w) : Brf w0 T b o n M dv bn rv cv yv C G kr kc ky S cf yf w.drew := h.beyond (Below.refl _ _).drew
theorem Brf.alloc (h : Brf w0 T b o n M dv bn rv cv yv C G kr kc ky S cf yf w) (ob : Obj) : Brf w0 T b o n M dv bn rv cv yv C G kr kc ky S cf yf (w.alloc ob) := h.beyond ((Below.refl _ _).alloc (Nat.le_refl _) _)
theorem Brf.new (h : Brf w0 T b o n M dv bn rv cv yv C G kr kc ky S cf yf w) (x : Nat) (hx : w.heap.size ≤ x) : T x = 0 := by
  rcases Nat.eq_zero_or_pos (T x) with h0 | h0
  · exact h0
  · have := (h.lt x (by omega)).2; omega

/-- a new block is given a tag -/
theorem Brf.retag (h : Brf w0 T b o n M dv bn rv cv yv C G kr kc ky S cf yf w) {H : Nat} (t : Nat) (hT : T H = 0) (hl : w0.heap.size ≤ H) (hlt : H < w.heap.size) : Brf w0 (fun x => if x = H then t else T x) b o n M dv bn rv cv yv C G kr kc ky S cf yf w := by
  have e : ∀ {x s : Nat}, T x = s → s ≠ 0 → (if x = H then t else T x) = s := fun {x s} h1 h2 => by
    rw [if_neg (fun e => by rw [e, hT] at h1; omega)]
    exact h1
  exact { h with
    lt := fun x hx => by
      by_cases e1 : x = H
      · subst e1; exact ⟨hl, hlt⟩
      · have hx' : (if x = H then t else T x) ≠ 0 := hx
        rw [if_neg e1] at hx'
        exact h.lt x hx'
    tb := e h.tb (by omega), t_o := e h.t_o (by omega), tr := fun g h1 => e (h.tr g h1) (by omega), tc := fun g h1 => e (h.tc g h1) (by omega), ty := fun g h1 => e (h.ty g h1) (by omega)
    tC := fun j hj => e (h.tC j hj) (by omega), tG := fun j hj => e (h.tG j hj) (by omega) }

/-- a store into the row of counts of direction j -/
theorem Brf.setC (h : Brf w0 T b o n M dv bn rv cv yv C G kr kc ky S cf yf w) {j : Nat} (hj : j < kc) (i v : Nat) : Brf w0 T b o n M dv bn rv cv yv C G kr kc ky S (fun j' i' => if j' = j ∧ i' = i then v else cf j' i') yf (w.setCell ⟨C j, i, none⟩ (.int .i64 v)) := by
  have k := h.c_set ⟨C j, i, none⟩ (.int .i64 v)
  have ht := h.tC j hj
  simp only [ht] at k
  exact { below := h.below_chg k (by omega), lt := h.lt_chg k, str := h.k_str k (by omega), own_r := h.k_r k (by omega), own_c := h.k_c k (by omega), own_y := h.k_y k (by omega), opn := h.k_o k (by omega)
          cnt := fun j' hj' => by
            by_cases e : j' = j
            · subst e
              exact ((h.cnt j' hj).set i (.int .i64 v)).congr fun x _ => by
                by_cases e2 : x = i <;> simp [e2]
            · exact (h.k_cnt k hj' (by omega)).congr fun x _ => by simp [e]
          rst := fun j' hj' => h.k_rst k hj' (by omega), tb := h.tb, t_o := h.t_o, tr := h.tr, tc := h.tc, ty := h.ty, tC := h.tC, tG := h.tG }
/-- a store of 0 into the row of rests of direction j -/
theorem Brf.setR (h : Brf w0 T b o n M dv bn rv cv yv C G kr kc ky S cf yf w) {j : Nat} (hj : j < kr) (i : Nat) : Brf w0 T b o n M dv bn rv cv yv C G kr kc ky S cf yf (w.setCell ⟨G j, i, none⟩ (.complex .f64 0 0)) := by
  have k := h.c_set ⟨G j, i, none⟩ (.complex .f64 0 0)
  have ht := h.tG j hj
  simp only [ht] at k
  exact { below := h.below_chg k (by omega), lt := h.lt_chg k, str := h.k_str k (by omega), own_r := h.k_r k (by omega), own_c := h.k_c k (by omega), own_y := h.k_y k (by omega), opn := h.k_o k (by omega)
          rst := fun j' hj' => by
            by_cases e : j' = j
            · subst e
              exact ((h.rst j' hj).set i (.complex .f64 0 0)).congr fun x _ => by
                by_cases e2 : x = i <;> simp [e2]
            · exact h.k_rst k hj' (by omega)
          cnt := fun j' hj' => h.k_cnt k hj' (by omega), tb := h.tb, t_o := h.t_o, tr := h.tr, tc := h.tc, ty := h.ty, tC := h.tC, tG := h.tG }
theorem Brf.setO (h : Brf w0 T b o n M dv bn rv cv yv C G kr kc ky S cf yf w) (c : Nat) (v : Bool) : Brf w0 T b o n M dv bn rv cv yv C G kr kc ky (fun x => if x = c then v else S x) cf yf (w.setCell ⟨o, c, none⟩ (.bool v)) := by
  have k := h.c_set ⟨o, c, none⟩ (.bool v)
  have ht := h.t_o
  simp only [ht] at k
  exact { below := h.below_chg k (by omega), lt := h.lt_chg k, str := h.k_str k (by omega), own_r := h.k_r k (by omega), own_c := h.k_c k (by omega), own_y := h.k_y k (by omega)
          opn := (h.opn.set c (.bool v)).congr fun x _ => by by_cases e : x = c <;> simp [e]
          cnt := fun j' hj' => h.k_cnt k hj' (by omega), rst := fun j' hj' => h.k_rst k hj' (by omega), tb := h.tb, t_o := h.t_o, tr := h.tr, tc := h.tc, ty := h.ty, tC := h.tC, tG := h.tG }
theorem starts_set (yf : Nat → Nat) (ky j v : Nat) : (starts yf ky).set j (.int .i64 v) = starts (fun x => if x = j then v else yf x) ky := by
  unfold starts
  apply List.ext_getElem?
  intro i
  rw [List.getElem?_set, List.getElem?_map, List.getElem?_map]
  by_cases hi : i < ky
  · rw [List.getElem?_range hi]
    by_cases e : j = i
    · subst e
      simp [hi]
    · rw [if_neg e]
      simp [show ¬ i = j from fun h => e h.symm]
  · rw [List.getElem?_eq_none (by simpa using hi)]
    by_cases e : j = i
    · subst e
      simp [hi]
    · simp [e]
/-- a store into the row of the numbers of ready bins -/
theorem Brf.setY {g cap : Nat} (h : Brf w0 T b o n M dv bn rv cv (sl g ky cap) C G kr kc ky S cf yf w) (j v : Nat) : Brf w0 T b o n M dv bn rv cv (sl g ky cap) C G kr kc ky S cf (fun x => if x = j then v else yf x) (w.setCell ⟨g, j, none⟩ (.int .i64 v)) := by
  have k := h.c_set ⟨g, j, none⟩ (.int .i64 v)
  have ht := h.ty g rfl
  simp only [ht] at k
  exact { below := h.below_chg k (by omega), lt := h.lt_chg k, str := h.k_str k (by omega), own_r := h.k_r k (by omega), own_c := h.k_c k (by omega), opn := h.k_o k (by omega)
          own_y := by
            rw [← starts_set]
            exact (h.own_y.stored j (.int .i64 v)).1
          cnt := fun j' hj' => h.k_cnt k hj' (by omega), rst := fun j' hj' => h.k_rst k hj' (by omega), tb := h.tb, t_o := h.t_o, tr := h.tr, tc := h.tc, ty := h.ty, tC := h.tC, tG := h.tG }
/-- a store into a block of the call's own that is none of the board's -/
theorem Brf.free (h : Brf w0 T b o n M dv bn rv cv yv C G kr kc ky S cf yf w) (a : Addr) (hT : T a.block = 0) (ha : w0.heap.size ≤ a.block) (v : Value) : Brf w0 T b o n M dv bn rv cv yv C G kr kc ky S cf yf (w.setCell a v) := by
  have k := h.c_set a v
  simp only [hT] at k
  exact { below := h.below.setCell ha v, lt := h.lt_chg k, str := h.k_str k (by omega), own_r := h.k_r k (by omega), own_c := h.k_c k (by omega), own_y := h.k_y k (by omega), opn := h.k_o k (by omega)
          cnt := fun j' hj' => h.k_cnt k hj' (by omega), rst := fun j' hj' => h.k_rst k hj' (by omega), tb := h.tb, t_o := h.t_o, tr := h.tr, tc := h.tc, ty := h.ty, tC := h.tC, tG := h.tG }

theorem Brf.asS (h : Brf w0 T b o n M dv bn rv cv yv C G kr kc ky S cf yf w) {S' : Nat → Bool} (e : ∀ i, i < M → S i = S' i) : Brf w0 T b o n M dv bn rv cv yv C G kr kc ky S' cf yf w :=
  { h with opn := h.opn.congr fun i hi => by rw [e i hi] }
theorem Brf.as (h : Brf w0 T b o n M dv bn rv cv yv C G kr kc ky S cf yf w) {cf1 : Nat → Nat → Nat} {yf1 : Nat → Nat} (e1 : ∀ j i, j < kc → i < bn j → cf j i = cf1 j i) (e2 : ∀ j, j < ky → yf j = yf1 j) : Brf w0 T b o n M dv bn rv cv yv C G kr kc ky S cf1 yf1 w :=
  { h with
    cnt := fun j hj => (h.cnt j hj).congr fun i hi => by rw [e1 j i hj hi]
    own_y := by
      have e : starts yf1 ky = starts yf ky := by
        unfold starts
        exact List.map_congr_left fun j hj => by rw [e2 j (List.mem_range.1 hj)]
      rw [e]
      exact h.own_y }

/-- what an append to the slice in a cell of the struct does -/
theorem Brf.c_push (h : Brf w0 T b o n M dv bn rv cv yv C G kr kc ky S cf yf w) {a w1 : World} {v u : Value} {t j : Nat} (ha : Below w.heap.size w a) (hg : a.grownBy w1 v.ownBlock) (ht : ∀ g, v.ownBlock = some g → T g = t) {g : Nat} (hat : v.ownBlock = some g ∨ g = a.heap.size) (hgl : g < w1.heap.size) :
    Chg T (fun x => if x = g then t else T x) (fun s => s = 1 ∨ s = t) w (w1.setCell ⟨b, j, none⟩ u) := by
  have hs := ha.size
  have hs1 := hg.size
  refine ⟨hg.os.trans ha.os, hg.tape.trans ha.tape, hg.output.trans ha.output, ?_, fun x hx hp => ?_, fun x hx => ?_, fun x hx => ?_⟩
  · simp only [World.setCell, Array.size_modify]
    omega
  · rw [Below.heap_setCell _ _ _ _ (fun e => hp (.inl (by rw [e]; exact h.tb)))]
    exact (hg.block x (Nat.lt_of_lt_of_le hx hs) (fun e => hp (.inr (ht x e.symm)))).trans (ha.block x hx)
  · show (if x = g then t else T x) = T x
    split
    · rename_i e
      rcases hat with h1 | h1
      · rw [e]; exact (ht g h1).symm
      · omega
    · rfl
  · have hx' : (if x = g then t else T x) ≠ 0 := hx
    simp only [World.setCell, Array.size_modify]
    by_cases e : x = g
    · rw [e]; exact hgl
    · rw [if_neg e] at hx'
      have := (h.lt x hx').2
      omega
theorem Brf.str_far (h : Brf w0 T b o n M dv bn rv cv yv C G kr kc ky S cf yf w) {a w1 : World} {v : Value} {t : Nat} (ha : Below w.heap.size w a) (hg : a.grownBy w1 v.ownBlock) (ht : ∀ g, v.ownBlock = some g → T g = t) (h1 : t ≠ 1) : Srf w1 b n (sl o M M) rv cv yv dv :=
  h.str.keep ((hg.block b (Nat.lt_of_lt_of_le h.str.lt ha.size) (fun e => by have h2 := ht b e.symm; rw [h.tb] at h2; omega)).trans (ha.block b h.str.lt))
theorem Brf.far (h : Brf w0 T b o n M dv bn rv cv yv C G kr kc ky S cf yf w) {a : World} {v : Value} {t g : Nat} (ha : Below w.heap.size w a) (ht : ∀ g, v.ownBlock = some g → T g = t) (h1 : t ≠ 1) (hat : v.ownBlock = some g ∨ g = a.heap.size) : b ≠ g := fun e => by
  rcases hat with h2 | h2
  · have h3 := ht g h2; rw [← e, h.tb] at h3; omega
  · have := h.str.lt; have := ha.size; omega

theorem Brf.push_y (h : Brf w0 T b o n M dv bn rv cv yv C G kr kc ky S cf yf w) {a w1 : World} {g cap : Nat} (ha : Below w.heap.size w a) (hg : a.grownBy w1 yv.ownBlock) (hown : w1.ownsRow 0 3 1 (sl g (ky + 1) cap) (ky + 1) (starts yf ky ++ [.int .i64 (yf ky : Nat)])) (hat : yv.ownBlock = some g ∨ g = a.heap.size) :
    Brf w0 (fun x => if x = g then 5 else T x) b o n M dv bn rv cv (sl g (ky + 1) cap) C G kr kc (ky + 1) S cf yf (w1.setCell ⟨b, 4, none⟩ (sl g (ky + 1) cap)) := by
  have hgl := (hown.lt g rfl).2
  have k := h.c_push (u := sl g (ky + 1) cap) (j := 4) ha hg h.ty hat hgl
  have hbg : b ≠ g := h.far ha h.ty (by omega) hat
  exact { below := h.below_chg k (by omega), lt := h.lt_chg k, str := (h.str_far ha hg h.ty (by omega)).set4 _, own_r := h.k_r k (by omega), own_c := h.k_c k (by omega)
          own_y := by
            have e : starts yf (ky + 1) = starts yf ky ++ [.int .i64 (yf ky : Nat)] := by unfold starts; rw [List.range_succ, List.map_append]; rfl
            rw [e]
            exact ownsRow_setCell_other hown (by simp [Value.ownBlock]; exact fun e => hbg e.symm) _
          opn := h.k_o k (by omega), cnt := fun j' hj' => h.k_cnt k hj' (by omega), rst := fun j' hj' => h.k_rst k hj' (by omega), tb := h.tag k h.tb (by omega), t_o := h.tag k h.t_o (by omega)
          ty := fun g' e => by
            obtain rfl : g = g' := by simpa [Value.ownBlock] using e
            exact if_pos rfl
          tr := fun g e => h.tag k (h.tr g e) (by omega), tc := fun g e => h.tag k (h.tc g e) (by omega)
          tC := fun j hj => h.tag k (h.tC j hj) (by omega), tG := fun j hj => h.tag k (h.tG j hj) (by omega) }

theorem Brf.push_c (h : Brf w0 T b o n M dv bn rv cv yv C G kr kc ky S cf yf w) {a w1 : World} {g cap H : Nat} {f : Nat → Nat} (ha : Below w.heap.size w a) (hH : w.rowIs H 3 (bn kc) fun i => .int .i64 (f i : Nat)) (hT : T H = 10 + 2 * kc) (hg : a.grownBy w1 cv.ownBlock) (hown : w1.ownsRow 0 118 1 (sl g (kc + 1) cap) (kc + 1) (rowsV C bn kc ++ [sl H (bn kc) (bn kc)])) (hat : cv.ownBlock = some g ∨ g = a.heap.size) :
    Brf w0 (fun x => if x = g then 4 else T x) b o n M dv bn rv (sl g (kc + 1) cap) yv (fun j => if j = kc then H else C j) G kr (kc + 1) ky S (fun j i => if j = kc then f i else cf j i) yf (w1.setCell ⟨b, 3, none⟩ (sl g (kc + 1) cap)) := by
  have hgl := (hown.lt g rfl).2
  have k := h.c_push (u := sl g (kc + 1) cap) (j := 3) ha hg h.tc hat hgl
  have hbg : b ≠ g := h.far ha h.tc (by omega) hat
  have hrow := hH.of_block (h.same k hT (by omega) (by omega))
  exact { below := h.below_chg k (by omega), lt := h.lt_chg k, str := (h.str_far ha hg h.tc (by omega)).set3 _, own_r := h.k_r k (by omega)
          own_c := by
            rw [← rowsV_succ]
            exact ownsRow_setCell_other hown (by simp [Value.ownBlock]; exact fun e => hbg e.symm) _
          own_y := h.k_y k (by omega), opn := h.k_o k (by omega)
          cnt := fun j' hj' => by
            by_cases e : j' = kc
            · subst e
              simpa using hrow
            · have h3 := h.k_cnt k (j := j') (by omega) (by omega)
              simp only [if_neg e]
              exact h3
          rst := fun j' hj' => h.k_rst k hj' (by omega), tb := h.tag k h.tb (by omega), t_o := h.tag k h.t_o (by omega)
          tc := fun g' e => by
            obtain rfl : g = g' := by simpa [Value.ownBlock] using e
            exact if_pos rfl
          tr := fun g e => h.tag k (h.tr g e) (by omega), ty := fun g e => h.tag k (h.ty g e) (by omega)
          tC := fun j hj => by
            by_cases e : j = kc
            · subst e
              rw [if_pos rfl]
              exact h.tag k hT (by omega)
            · have h3 := h.tag k (h.tC j (by omega)) (by omega)
              simp only [if_neg e]
              exact h3
          tG := fun j hj => h.tag k (h.tG j hj) (by omega) }

theorem Brf.push_r (h : Brf w0 T b o n M dv bn rv cv yv C G kr kc ky S cf yf w) {a w1 : World} {g cap H : Nat} (ha : Below w.heap.size w a) (hH : w.rowIs H 23 (bn kr) fun _ => .complex .f64 0 0) (hT : T H = 11 + 2 * kr) (hg : a.grownBy w1 rv.ownBlock) (hown : w1.ownsRow 0 37 1 (sl g (kr + 1) cap) (kr + 1) (rowsV G bn kr ++ [sl H (bn kr) (bn kr)])) (hat : rv.ownBlock = some g ∨ g = a.heap.size) :
    Brf w0 (fun x => if x = g then 3 else T x) b o n M dv bn (sl g (kr + 1) cap) cv yv C (fun j => if j = kr then H else G j) (kr + 1) kc ky S cf yf (w1.setCell ⟨b, 2, none⟩ (sl g (kr + 1) cap)) := by
  have hgl := (hown.lt g rfl).2
  have k := h.c_push (u := sl g (kr + 1) cap) (j := 2) ha hg h.tr hat hgl
  have hbg : b ≠ g := h.far ha h.tr (by omega) hat
  have hrow := hH.of_block (h.same k hT (by omega) (by omega))
  exact { below := h.below_chg k (by omega), lt := h.lt_chg k, str := (h.str_far ha hg h.tr (by omega)).set2 _
          own_r := by
            rw [← rowsV_succ]
            exact ownsRow_setCell_other hown (by simp [Value.ownBlock]; exact fun e => hbg e.symm) _
          own_c := h.k_c k (by omega), own_y := h.k_y k (by omega), opn := h.k_o k (by omega)
          rst := fun j' hj' => by
            by_cases e : j' = kr
            · subst e
              simpa using hrow
            · have h3 := h.k_rst k (j := j') (by omega) (by omega)
              simp only [if_neg e]
              exact h3
          cnt := fun j' hj' => h.k_cnt k hj' (by omega), tb := h.tag k h.tb (by omega), t_o := h.tag k h.t_o (by omega)
          tr := fun g' e => by
            obtain rfl : g = g' := by simpa [Value.ownBlock] using e
            exact if_pos rfl
          tc := fun g e => h.tag k (h.tc g e) (by omega), ty := fun g e => h.tag k (h.ty g e) (by omega)
          tG := fun j hj => by
            by_cases e : j = kr
            · subst e
              rw [if_pos rfl]
              exact h.tag k hT (by omega)
            · have h3 := h.tag k (h.tG j (by omega)) (by omega)
              simp only [if_neg e]
              exact h3
          tC := fun j hj => h.tag k (h.tC j hj) (by omega) }
end
end Go.Proofs.Ytoeeceemoggffaa
