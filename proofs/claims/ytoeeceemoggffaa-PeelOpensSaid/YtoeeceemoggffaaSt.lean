/- The closure of peel.Solve: a shut cell's value is taken off a rest.
What peel.Solve holds beside the board: the rests and the grid.
One step of peel.Solve beside the board: what shutting a cell does to the rests. -/
import Derived.Test.YtoeeceemoggffaaSs
import Derived.Test.YtoeeceemoggffaaGd
namespace Go.Proofs.Ytoeeceemoggffaa
open Go.RowKit Go.Lib
set_option maxHeartbeats 3200000
set_option maxRecDepth 100000

/-- the sum of G over the open cells among the first M on line i -/
def gsm (ln : Nat → Nat) (S : Nat → Bool) (G : Nat → Int) : Nat → Nat → Int
  | 0, _ => 0
  | M + 1, i => gsm ln S G M i + (if S M = true ∧ ln M = i then G M else 0)
theorem gsm_bound {ln : Nat → Nat} {S : Nat → Bool} {G : Nat → Int} (hG : ∀ c, -8 ≤ G c ∧ G c ≤ 8) (M i : Nat) : -(8 * (M : Int)) ≤ gsm ln S G M i ∧ gsm ln S G M i ≤ 8 * (M : Int) := by
  induction M with
  | zero => exact ⟨Int.le_refl _, Int.le_refl _⟩
  | succ M ih =>
    unfold gsm
    have := hG M
    split <;> omega
theorem gsm_shut_past {ln : Nat → Nat} {S : Nat → Bool} {G : Nat → Int} {x : Nat} : ∀ {M : Nat}, M ≤ x → ∀ i, gsm ln (shutC S x) G M i = gsm ln S G M i
  | 0, _, _ => rfl
  | M + 1, h, i => by
    unfold gsm
    rw [gsm_shut_past (by omega) i]
    have : shutC S x M = S M := by unfold shutC; rw [if_neg (by omega)]
    rw [this]
theorem gsm_shut {ln : Nat → Nat} {S : Nat → Bool} {G : Nat → Int} {x : Nat} (hS : S x = true) (i : Nat) : ∀ {M : Nat}, x < M → gsm ln (shutC S x) G M i = gsm ln S G M i - (if ln x = i then G x else 0)
  | 0, h => by omega
  | M + 1, h => by
    unfold gsm
    by_cases e : x = M
    · subst e
      rw [gsm_shut_past (Nat.le_refl _)]
      have : shutC S x x = false := by unfold shutC; rw [if_pos rfl]
      rw [this, hS]
      simp
    · have ih := gsm_shut hS i (M := M) (by omega) (ln := ln) (G := G)
      have : shutC S x M = S M := by unfold shutC; rw [if_neg (by omega)]
      rw [this, ih]
      omega
theorem gsm_zero {ln : Nat → Nat} {S : Nat → Bool} {G : Nat → Int} {i : Nat} : ∀ {M : Nat}, cnt ln S M i = 0 → gsm ln S G M i = 0
  | 0, _ => rfl
  | M + 1, h => by
    unfold cnt at h
    have h0 : ¬ (S M = true ∧ ln M = i) := by
      intro h1
      rw [if_pos h1] at h
      omega
    rw [if_neg h0] at h
    unfold gsm
    rw [if_neg h0, gsm_zero (M := M) (by omega)]
    rfl
theorem gsm_one {ln : Nat → Nat} {S : Nat → Bool} {G : Nat → Int} {i : Nat} : ∀ {M : Nat}, cnt ln S M i = 1 → ∀ {x : Nat}, x < M → S x = true → ln x = i → gsm ln S G M i = G x
  | 0, h, _, _, _, _ => by cases h
  | M + 1, h, x, hx, hS, hl => by
    unfold cnt at h
    unfold gsm
    by_cases h0 : S M = true ∧ ln M = i
    · rw [if_pos h0] at h
      rw [if_pos h0, gsm_zero (M := M) (by omega)]
      by_cases e : x = M
      · rw [e]; omega
      · exact absurd hl ((cnt_zero (M := M) (i := i) (ln := ln) (S := S) (by omega)).2 x (by omega) hS)
    · rw [if_neg h0] at h
      rw [if_neg h0, gsm_one (M := M) (by omega) (x := x) (by
        by_cases e : x = M
        · exact absurd (by rw [← e]; exact ⟨hS, hl⟩) h0
        · omega) hS hl]
      omega

/-- the first m cells of a block of the call's own -/
structure RowF (w : World) (b m : Nat) (f : Nat → Value) : Prop where
  cell : ∀ i, i < m → w.cell? ⟨b, i, none⟩ = some (f i)
  free : ∀ i, w.frozen? ⟨b, i, none⟩ = false
theorem RowF.keep {w w' : World} {b m : Nat} {f : Nat → Value} (h : RowF w b m f) (e : w'.heap[b]? = w.heap[b]?) : RowF w' b m f :=
  ⟨fun i hi => (World.cell?_of_block (a := ⟨b, i, none⟩) e).trans (h.cell i hi), fun i => (World.frozen?_of_block (a := ⟨b, i, none⟩) e).trans (h.free i)⟩
theorem RowF.set {w : World} {b m : Nat} {f : Nat → Value} (h : RowF w b m f) {L : Nat} (hL : L < m) (v : Value) : RowF (w.setCell ⟨b, L, none⟩ v) b m (fun j => if j = L then v else f j) := by
  refine ⟨fun i hi => ?_, fun i => by rw [World.frozen?_setCell]; exact h.free i⟩
  by_cases e : i = L
  · subst e
    rw [World.cell?_setCell_same _ _ _ (h.cell i hi), if_pos rfl]
  · rw [set_far _ _ _ _ _ (fun e2 => e e2.symm), if_neg e]
    exact h.cell i hi
theorem RowF.congr {w : World} {b m : Nat} {f g : Nat → Value} (h : RowF w b m f) (e : ∀ i, i < m → f i = g i) : RowF w b m g := ⟨fun i hi => by rw [← e i hi]; exact h.cell i hi, h.free⟩

theorem Take_walk (rb rr vb Rk K k bk capk L : Nat) (a v : Int) (f : Nat → Value) (w : World) (r0 : w.cell? ⟨rb, 0, none⟩ = some (sl rr K K)) (r1 : w.cell? ⟨rr, k, none⟩ = some (sl Rk bk capk)) (v0 : w.cell? ⟨vb, 0, none⟩ = some (.complex .f64 (fint v) 0))
    (hrow : RowF w Rk bk f) (hf : f L = .complex .f64 (fint a) 0) (hk : k < K) (hL : L < bk) (ha : -128 ≤ a ∧ a ≤ 128) (hv : -128 ≤ v ∧ v ≤ 128) :
    Calls Try.prog 106 #[.agg #[.int .i64 k, .int .i64 L], .pointer (some ⟨rb, 0, none⟩), .pointer (some ⟨vb, 0, none⟩)] w fun e w' => e = .returned (.tuple #[]) ∧ RowF w' Rk bk (fun j => if j = L then .complex .f64 (fint (a - v)) 0 else f j) ∧ FreeR (fun x => x = Rk) w w' := by
  have hk' : (k : Int) < (K : Int) := by omega
  have hL' : (L : Int) < (bk : Int) := by omega
  have bl : ∀ ob, Below w.heap.size w (w.alloc ob) := fun ob => (Below.refl _ _).alloc (Nat.le_refl _) ob
  have c : ∀ {p : Addr} {u : Value}, w.cell? p = some u → ∀ ob, (w.alloc ob).cell? p = some u := fun {_ _} e ob => ((bl ob).cell (block_lt_of_cell e)).trans e
  have a0 := c r0
  have a1 := c r1
  have a2 := c v0
  have hc := hrow.cell L hL
  rw [hf] at hc
  have a3 := c hc
  have a4 : ∀ ob, (w.alloc ob).frozen? ⟨Rk, L, none⟩ = false := fun ob => ((bl ob).frozen (block_lt_of_cell hc)).trans (hrow.free L)
  obtain ⟨re, hre, wre⟩ : ∃ r, fsub (fint a) (fint v) = some r ∧ Whole r (a - v) := whole_sub (whole_fint (by omega)) (whole_fint (by omega)) (by omega)
  have him : fsub 0 0 = some 0 := by decide +kernel
  have hpl : plain2 (re, 0) = (fint (a - v), 0) := by
    unfold plain2
    rw [wre.plain (by omega), plain1_zero]
  have HC1 := Lib.hid (fun W => still_of (Sub_walk (fint a) 0 (fint v) 0 re 0 W hre him))
  have HC2 := Lib.hid (fun W => still_of (Plain_walk re 0 W))
  rw [hpl] at HC2
  have HRow := Lib.hid (fun ob => (hrow.keep ((bl ob).block Rk (block_lt_of_cell hc))))
  have HBl := Lib.hid bl
  obtain ⟨fa, hfa⟩ : ∃ x, x = fint a := ⟨_, rfl⟩
  obtain ⟨fv, hfv⟩ : ∃ x, x = fint v := ⟨_, rfl⟩
  obtain ⟨fd, hfd⟩ : ∃ x, x = fint (a - v) := ⟨_, rfl⟩
  rw [← hfa] at a3 HC1
  rw [← hfv] at a2 HC1
  rw [← hfd] at HC2 ⊢
  clear c bl r0 r1 v0 hc hrow hf hre wre him hpl hfa hfv hfd
  go_enter Try.func106, Try.ntmps106
  go_wp2_with fail
  go_quiet (fail)
  go_upto_region 2 with fail
  obtain ⟨W, hW⟩ : ∃ W, W = (w.alloc (.cells #[.int .i64 k, .int .i64 L] 113)).drewN nq := ⟨_, rfl⟩
  rw [← hW]
  have b2 : W.cell? ⟨vb, 0, none⟩ = some (.complex .f64 fv 0) := by rw [hW]; exact a2 _
  have b3 : W.cell? ⟨Rk, L, none⟩ = some (.complex .f64 fa 0) := by rw [hW]; exact a3 _
  have b4 : W.frozen? ⟨Rk, L, none⟩ = false := by rw [hW]; exact a4 _
  have HRW : Hid (RowF W Rk bk f) := Lib.hid (by rw [hW]; exact (HRow.out _).keep rfl)
  have HBW : Hid (Below w.heap.size w W) := Lib.hid (by rw [hW]; exact Drawn.below ⟨_, rfl⟩ _ |> (HBl.out (.cells #[.int .i64 k, .int .i64 L] 113)).trans)
  clear hW a0 a1 a2 a3 a4
  go_still_tail 8, (by kernel_rfl)
  still_call (HC1.out _)
  still_call (HC2.out _)
  still_step
  refine wpStill_nil ?_
  change wpList _ _ _ _ _ W.drew
  go_wp2
  refine bodyPost_end (v := .tuple #[]) (by simp [results, Try.results106, go_sem]) rfl ⟨rfl, ((HRW.out.set hL (.complex .f64 fd 0)).keep rfl), HBW.out.os, HBW.out.tape, HBW.out.output, by have := HBW.out.size; simpa [World.setCell] using this, fun x hx hne => ?_⟩
  exact (Below.heap_setCell W _ _ _ (by show x ≠ Rk; exact hne)).trans (HBW.out.block x hx)
end Go.Proofs.Ytoeeceemoggffaa

namespace Go.Proofs.Ytoeeceemoggffaa
open Go.RowKit Go.Lib
set_option maxHeartbeats 800000
set_option linter.unusedVariables false

/-- the rests: the first k projections' bins are there -/
structure Rst (U : Nat → Nat) (t6 rr K k n : Nat) (ds : List (Int × Int)) (Rb cp : Nat → Nat) (V : Nat → Nat → Int) (w : World) : Prop where
  c6 : w.cell? ⟨t6, 0, none⟩ = some (sl rr K K)
  row : ∀ j, j < K → w.cell? ⟨rr, j, none⟩ = some (if j < k then sl (Rb j) (bnD n ds j) (cp j) else .slice none 0 0)
  frr : ∀ j, w.frozen? ⟨rr, j, none⟩ = false
  val : ∀ j, j < k → RowF w (Rb j) (bnD n ds j) (fun i => .complex .f64 (fint (V j i)) 0)
  u6 : U t6 = 2
  ur : U rr = 4
  uR : ∀ j, j < k → U (Rb j) = 6 + j
theorem Rst.keep {U : Nat → Nat} {t6 rr K k n : Nat} {ds : List (Int × Int)} {Rb cp : Nat → Nat} {V : Nat → Nat → Int} {w w' : World} (h : Rst U t6 rr K k n ds Rb cp V w) (e : ∀ x, U x ≠ 0 → w'.heap[x]? = w.heap[x]?) : Rst U t6 rr K k n ds Rb cp V w' :=
  ⟨(World.cell?_of_block (a := ⟨t6, 0, none⟩) (e t6 (by rw [h.u6]; decide))).trans h.c6, fun j hj => (World.cell?_of_block (a := ⟨rr, j, none⟩) (e rr (by rw [h.ur]; decide))).trans (h.row j hj),
    fun j => (World.frozen?_of_block (a := ⟨rr, j, none⟩) (e rr (by rw [h.ur]; decide))).trans (h.frr j), fun j hj => (h.val j hj).keep (e _ (by rw [h.uR j hj]; omega)), h.u6, h.ur, h.uR⟩
/-- the rest of one line has turned -/
theorem Rst.take {U : Nat → Nat} {t6 rr K n : Nat} {ds : List (Int × Int)} {Rb cp : Nat → Nat} {V V' : Nat → Nat → Int} {w w' : World} {k : Nat} {f : Nat → Value} (h : Rst U t6 rr K K n ds Rb cp V w) (hk : k < K) (hf : FreeR (fun x => x = Rb k) w w') (hr : RowF w' (Rb k) (bnD n ds k) f)
    (hfv : ∀ i, i < bnD n ds k → f i = .complex .f64 (fint (V' k i)) 0) (hV : ∀ j i, j < K → j ≠ k → V' j i = V j i) (hlt : ∀ x, U x ≠ 0 → x < w.heap.size) : Rst U t6 rr K K n ds Rb cp V' w' := by
  have hu := h.uR k hk
  have e : ∀ x, U x ≠ 0 → x ≠ Rb k → w'.heap[x]? = w.heap[x]? := fun x hx hne => hf.block x (hlt x hx) hne
  have n6 : t6 ≠ Rb k := fun e => by have := h.u6; rw [e, hu] at this; omega
  have nr : rr ≠ Rb k := fun e => by have := h.ur; rw [e, hu] at this; omega
  refine ⟨(World.cell?_of_block (a := ⟨t6, 0, none⟩) (e t6 (by rw [h.u6]; decide) n6)).trans h.c6, fun j hj => (World.cell?_of_block (a := ⟨rr, j, none⟩) (e rr (by rw [h.ur]; decide) nr)).trans (h.row j hj),
    fun j => (World.frozen?_of_block (a := ⟨rr, j, none⟩) (e rr (by rw [h.ur]; decide) nr)).trans (h.frr j), fun j hj => ?_, h.u6, h.ur, h.uR⟩
  by_cases ej : j = k
  · subst ej
    exact hr.congr hfv
  · have hn : Rb j ≠ Rb k := fun e => by have := h.uR j hj; rw [e, hu] at this; omega
    exact ((h.val j hj).keep (e _ (by rw [h.uR j hj]; omega) hn)).congr fun i hi => by rw [hV j i hj ej]

/-- the grid -/
structure Grd (U : Nat → Nat) (t9 gb n M : Nat) (gr : Nat → Value) (w : World) : Prop where
  ca : w.cell? ⟨t9, 0, none⟩ = some (.int .i64 n)
  cb : w.cell? ⟨t9, 1, none⟩ = some (sl gb M M)
  row : RowF w gb M gr
  u9 : U t9 = 3
  ug : U gb = 5
theorem Grd.keep {U : Nat → Nat} {t9 gb n M : Nat} {gr : Nat → Value} {w w' : World} (h : Grd U t9 gb n M gr w) (e : ∀ x, U x ≠ 0 → w'.heap[x]? = w.heap[x]?) : Grd U t9 gb n M gr w' :=
  ⟨(World.cell?_of_block (a := ⟨t9, 0, none⟩) (e t9 (by rw [h.u9]; decide))).trans h.ca, (World.cell?_of_block (a := ⟨t9, 1, none⟩) (e t9 (by rw [h.u9]; decide))).trans h.cb, h.row.keep (e gb (by rw [h.ug]; decide)), h.u9, h.ug⟩
theorem Grd.set {U : Nat → Nat} {t9 gb n M : Nat} {gr : Nat → Value} {w : World} (h : Grd U t9 gb n M gr w) {c : Nat} (hc : c < M) (v : Value) : Grd U t9 gb n M (fun j => if j = c then v else gr j) (w.setCell ⟨gb, c, none⟩ v) := by
  have n9 : t9 ≠ gb := fun e => by have := h.u9; rw [e, h.ug] at this; omega
  have e9 : (w.setCell ⟨gb, c, none⟩ v).heap[t9]? = w.heap[t9]? := Below.heap_setCell _ _ _ _ n9
  exact ⟨(World.cell?_of_block (a := ⟨t9, 0, none⟩) e9).trans h.ca, (World.cell?_of_block (a := ⟨t9, 1, none⟩) e9).trans h.cb, h.row.set hc v, h.u9, h.ug⟩

/-- the blocks beside the board -/
def UOk (U T : Nat → Nat) (w0 w : World) : Prop := ∀ x, U x ≠ 0 → T x = 0 ∧ w0.heap.size ≤ x ∧ x < w.heap.size
theorem below_grown {wr a w9 : World} (ha : Below wr.heap.size wr a) (hg : a.grownBy w9 none) : Below wr.heap.size wr w9 := ha.grown hg ha.size (fun j hj => by cases hj)
theorem OpenR.free {w : World} {b o n M : Nat} {dv : Value} {ds : List (Int × Int)} {T : Nat → Nat} {sv cv gv rv : Value} {C G : Nat → Nat} {S : Nat → Bool} {l : List (Int × Int)} {wr : World}
    (h : OpenR w b o n M dv ds T sv cv gv rv C G S l wr) (a : Addr) (hT : T a.block = 0) (ha : w.heap.size ≤ a.block) (v : Value) : OpenR w b o n M dv ds T sv cv gv rv C G S l (wr.setCell a v) := ⟨h.brd.free a hT ha v, h.rdy, h.good, h.len, h.kept⟩

/-- one projection's bins are copied -/
theorem Rst.push {U T : Nat → Nat} {t6 rr K k n : Nat} {ds : List (Int × Int)} {Rb cp : Nat → Nat} {V : Nat → Nat → Int} {w0 wr a w9 : World} {gg cap : Nat} (h : Rst U t6 rr K k n ds Rb cp V wr) (hk : k < K) (hu : UOk U T w0 wr) (ha : Below wr.heap.size wr a) (hg : a.grownBy w9 none)
    (hown : w9.ownsRow 0 23 1 (sl gg (bnD n ds k) cap) (bnD n ds k) ((List.range (bnD n ds k)).map fun i => .complex .f64 (fint (V k i)) 0)) (hgg : gg = a.heap.size) (hT : ∀ x, T x ≠ 0 → x < wr.heap.size) (hw0 : w0.heap.size ≤ wr.heap.size) :
    Rst (fun x => if x = gg then 6 + k else U x) t6 rr K (k + 1) n ds (fun j => if j = k then gg else Rb j) (fun j => if j = k then cap else cp j) V (w9.setCell ⟨rr, k, none⟩ (sl gg (bnD n ds k) cap)) ∧ UOk (fun x => if x = gg then 6 + k else U x) T w0 (w9.setCell ⟨rr, k, none⟩ (sl gg (bnD n ds k) cap)) := by
  have hs := ha.size
  have hgl := (hown.lt gg rfl).2
  have hb := below_grown ha hg
  have hne : ∀ x, U x ≠ 0 → x ≠ gg := fun x hx e => by have := (hu x hx).2.2; omega
  have e9 : ∀ x, U x ≠ 0 → w9.heap[x]? = wr.heap[x]? := fun x hx => hb.block x (hu x hx).2.2
  have es : ∀ x, x ≠ rr → (w9.setCell ⟨rr, k, none⟩ (sl gg (bnD n ds k) cap)).heap[x]? = w9.heap[x]? := fun x hx => Below.heap_setCell _ _ _ _ hx
  have hur : U rr ≠ 0 := by rw [h.ur]; decide
  have hrg : rr ≠ gg := hne rr hur
  have n6 : t6 ≠ rr := fun e => by have := h.u6; rw [e, h.ur] at this; omega
  refine ⟨⟨?_, fun j hj => ?_, fun j => ?_, fun j hj => ?_, ?_, ?_, fun j hj => ?_⟩, fun x hx => ?_⟩
  · exact (World.cell?_of_block (a := ⟨t6, 0, none⟩) ((es t6 n6).trans (e9 t6 (by rw [h.u6]; decide)))).trans h.c6
  · by_cases e : j = k
    · subst e
      have h0 : w9.cell? ⟨rr, j, none⟩ = some (if j < j then sl (Rb j) (bnD n ds j) (cp j) else .slice none 0 0) := (World.cell?_of_block (a := ⟨rr, j, none⟩) (e9 rr hur)).trans (h.row j hj)
      rw [World.cell?_setCell_same _ _ _ h0]
      simp
    · rw [set_far _ _ _ _ _ (fun e2 => e e2.symm)]
      refine ((World.cell?_of_block (a := ⟨rr, j, none⟩) (e9 rr hur)).trans (h.row j hj)).trans ?_
      by_cases e2 : j < k
      · rw [if_pos e2, if_pos (by omega)]
        simp only [if_neg e]
      · rw [if_neg e2, if_neg (by omega)]
  · rw [World.frozen?_setCell]
    exact (World.frozen?_of_block (a := ⟨rr, j, none⟩) (e9 rr hur)).trans (h.frr j)
  · by_cases e : j = k
    · subst e
      simp only [↓reduceIte]
      have hr : RowF w9 gg (bnD n ds j) (fun i => .complex .f64 (fint (V j i)) 0) := ⟨fun i hi => row_cell hown (by rw [List.getElem?_map, List.getElem?_range hi]; rfl), fun i => World.ownsRow.frozenAt hown i⟩
      exact hr.keep (es gg (fun e => hrg e.symm))
    · have hj' : j < k := by omega
      simp only [if_neg e]
      have hn : Rb j ≠ rr := fun e => by have := h.uR j hj'; rw [e, h.ur] at this; omega
      exact (h.val j hj').keep ((es _ hn).trans (e9 _ (by rw [h.uR j hj']; omega)))
  · show (if t6 = gg then 6 + k else U t6) = 2
    rw [if_neg (hne t6 (by rw [h.u6]; decide))]
    exact h.u6
  · show (if rr = gg then 6 + k else U rr) = 4
    rw [if_neg hrg]
    exact h.ur
  · by_cases e : j = k
    · subst e
      simp only [↓reduceIte]
    · have hj' : j < k := by omega
      simp only [if_neg e]
      show (if Rb j = gg then 6 + k else U (Rb j)) = 6 + j
      rw [if_neg (hne _ (by rw [h.uR j hj']; omega))]
      exact h.uR j hj'
  · have hx' : (if x = gg then 6 + k else U x) ≠ 0 := hx
    have hsz : (w9.setCell ⟨rr, k, none⟩ (sl gg (bnD n ds k) cap)).heap.size = w9.heap.size := by simp [World.setCell]
    rw [hsz]
    by_cases e : x = gg
    · subst e
      refine ⟨?_, by omega, hgl⟩
      rcases Nat.eq_zero_or_pos (T x) with h0 | h0
      · exact h0
      · have := hT x (by omega); omega
    · rw [if_neg e] at hx'
      obtain ⟨h3, h4, h5⟩ := hu x hx'
      exact ⟨h3, h4, Nat.lt_of_lt_of_le h5 hb.size⟩
end Go.Proofs.Ytoeeceemoggffaa

namespace Go.Proofs.Ytoeeceemoggffaa
open Go.RowKit Go.Lib
set_option maxHeartbeats 800000
set_option maxRecDepth 100000
set_option linter.unusedVariables false

abbrev VS (n M : Nat) (ds : List (Int × Int)) (Gr : Nat → Int) (S : Nat → Bool) : Nat → Nat → Int := fun k i => gsm (lnD n ds k) S Gr M i
abbrev grS (Gr : Nat → Int) (S : Nat → Bool) : Nat → Value := fun c => if S c = true then .complex .f64 0 0 else .complex .f64 (fint (Gr c)) 0
def mixV (k : Nat) (V' V : Nat → Nat → Int) : Nat → Nat → Int := fun j i => if j < k then V' j i else V j i
theorem mixV_zero (V' V : Nat → Nat → Int) : mixV 0 V' V = V := by
  funext j i
  unfold mixV
  rw [if_neg (by omega)]

theorem Rst.as {U : Nat → Nat} {t6 rr K k n : Nat} {ds : List (Int × Int)} {Rb cp : Nat → Nat} {V V' : Nat → Nat → Int} {w : World} (h : Rst U t6 rr K k n ds Rb cp V w) (e : ∀ j i, j < k → V j i = V' j i) : Rst U t6 rr K k n ds Rb cp V' w :=
  { h with val := fun j hj => (h.val j hj).congr fun i _ => by rw [e j i hj] }
theorem Grd.keep2 {U : Nat → Nat} {t9 gb n M : Nat} {gr : Nat → Value} {w w' : World} (h : Grd U t9 gb n M gr w) (e9 : w'.heap[t9]? = w.heap[t9]?) (eb : w'.heap[gb]? = w.heap[gb]?) : Grd U t9 gb n M gr w' :=
  ⟨(World.cell?_of_block (a := ⟨t9, 0, none⟩) e9).trans h.ca, (World.cell?_of_block (a := ⟨t9, 1, none⟩) e9).trans h.cb, h.row.keep eb, h.u9, h.ug⟩

/-- what the closure keeps while a cell is shut -/
structure SJ (U : Nat → Nat) (t6 rr t9 gb tv n M : Nat) (ds : List (Int × Int)) (Rb cp : Nat → Nat) (V' V : Nat → Nat → Int) (gr : Nat → Value) (g : Int) (k : Nat) (a : World) : Prop where
  rst : Rst U t6 rr ds.length ds.length n ds Rb cp (mixV k V' V) a
  grd : Grd U t9 gb n M gr a
  vc : a.cell? ⟨tv, 0, none⟩ = some (.complex .f64 (fint g) 0)
  lt : ∀ x, U x ≠ 0 → x < a.heap.size
theorem SJ.keep {U : Nat → Nat} {t6 rr t9 gb tv n M : Nat} {ds : List (Int × Int)} {Rb cp : Nat → Nat} {V' V : Nat → Nat → Int} {gr : Nat → Value} {g : Int} {k : Nat} {a d : World}
    (h : SJ U t6 rr t9 gb tv n M ds Rb cp V' V gr g k a) (e : ∀ x, (U x ≠ 0 ∨ x = tv) → d.heap[x]? = a.heap[x]?) : SJ U t6 rr t9 gb tv n M ds Rb cp V' V gr g k d :=
  ⟨h.rst.keep fun x hx => e x (.inl hx), h.grd.keep fun x hx => e x (.inl hx), (World.cell?_of_block (a := ⟨tv, 0, none⟩) (e tv (.inr rfl))).trans h.vc, fun x hx => by
    have h1 := e x (.inl hx)
    rcases Nat.lt_or_ge x d.heap.size with h2 | h2
    · exact h2
    · rw [Array.getElem?_eq_none h2] at h1
      have h3 := Array.getElem?_eq_none_iff.1 h1.symm
      have := h.lt x hx
      omega⟩

theorem SJ.step {U : Nat → Nat} {t6 rr t9 gb tv n M : Nat} {ds : List (Int × Int)} {Rb cp : Nat → Nat} {S : Nat → Bool} {Gr : Nat → Int} {gr : Nat → Value} {x k : Nat} {a : World}
    (h : SJ U t6 rr t9 gb tv n M ds Rb cp (VS n M ds Gr (shutC S x)) (VS n M ds Gr S) gr (Gr x) k a) (hk : k < ds.length) (hx : x < M) (hS : S x = true) (hM : M = n * n) (hM4 : M ≤ 16) (ho : ∀ d ∈ ds, okD d = true) (hG : ∀ c, -8 ≤ Gr c ∧ Gr c ≤ 8) (hv : U tv = 0) :
    Calls Try.prog 106 (#[.agg #[.int .i64 k, .int .i64 (lnD n ds k x : Nat)]] ++ #[.pointer (some ⟨t6, 0, none⟩), .pointer (some ⟨tv, 0, none⟩)]) a fun e a' => e = .returned (.tuple #[]) ∧ SJ U t6 rr t9 gb tv n M ds Rb cp (VS n M ds Gr (shutC S x)) (VS n M ds Gr S) gr (Gr x) (k + 1) a' ∧ FreeR (fun y => U y ≠ 0 ∨ y = tv) a a' := by
  have hL : lnD n ds k x < bnD n ds k := lineN_lt (n := n) (p := (dirAt ds k).1) (q := (dirAt ds k).2) hM (ho _ (dirAt_mem hk)) hx
  have hrow := h.rst.row k hk
  rw [if_pos hk] at hrow
  have hval := h.rst.val k hk
  have hmk : ∀ i, mixV k (VS n M ds Gr (shutC S x)) (VS n M ds Gr S) k i = VS n M ds Gr S k i := fun i => by unfold mixV; rw [if_neg (by omega)]
  have hb : -128 ≤ VS n M ds Gr S k (lnD n ds k x) ∧ VS n M ds Gr S k (lnD n ds k x) ≤ 128 := by
    have hb0 := gsm_bound (ln := lnD n ds k) (S := S) hG M (lnD n ds k x)
    show -128 ≤ gsm _ _ _ _ _ ∧ gsm _ _ _ _ _ ≤ 128
    omega
  have hgx := hG x
  have hrow2 : RowF a (Rb k) (bnD n ds k) (fun i => .complex .f64 (fint (VS n M ds Gr S k i)) 0) := hval.congr fun i _ => by rw [hmk i]
  have hu := h.rst.uR k hk
  refine (Take_walk t6 rr tv (Rb k) ds.length k (bnD n ds k) (cp k) (lnD n ds k x) (VS n M ds Gr S k (lnD n ds k x)) (Gr x) _ a h.rst.c6 hrow h.vc hrow2 rfl hk hL hb (by omega)).mono ?_
  rintro e a' ⟨rfl, hr, hf⟩
  have n9 : t9 ≠ Rb k := fun e => by have := h.grd.u9; rw [e, hu] at this; omega
  have ng : gb ≠ Rb k := fun e => by have := h.grd.ug; rw [e, hu] at this; omega
  have nv : tv ≠ Rb k := fun e => by rw [e, hu] at hv; omega
  have hlt9 := h.lt t9 (by rw [h.grd.u9]; decide)
  have hltg := h.lt gb (by rw [h.grd.ug]; decide)
  refine ⟨rfl, ⟨?_, h.grd.keep2 (hf.block t9 hlt9 n9) (hf.block gb hltg ng), ?_, fun y hy => Nat.lt_of_lt_of_le (h.lt y hy) hf.size⟩, hf.os, hf.tape, hf.output, hf.size, fun y hy hny => hf.block y hy (fun e => hny (.inl (by rw [e, hu]; omega)))⟩
  · refine h.rst.take hk hf hr (fun i hi => ?_) (fun j i hj hne => ?_) h.lt
    · have e1 : mixV (k + 1) (VS n M ds Gr (shutC S x)) (VS n M ds Gr S) k i = gsm (lnD n ds k) S Gr M i - (if lnD n ds k x = i then Gr x else 0) := by
        unfold mixV
        rw [if_pos (by omega)]
        exact gsm_shut hS i hx
      rw [e1]
      by_cases e : i = lnD n ds k x
      · rw [if_pos e, if_pos e.symm, e]
      · rw [if_neg e, if_neg (fun e2 => e e2.symm), Int.sub_zero]
    · unfold mixV
      by_cases e : j < k
      · rw [if_pos e, if_pos (by omega)]
      · rw [if_neg e, if_neg (by omega)]
  · exact (World.cell?_of_block (a := ⟨tv, 0, none⟩) (hf.block tv (block_lt_of_cell h.vc) nv)).trans h.vc

theorem Rst.keepX {U : Nat → Nat} {t6 rr K k n g0 : Nat} {ds : List (Int × Int)} {Rb cp : Nat → Nat} {V : Nat → Nat → Int} {w w' : World} (h : Rst U t6 rr K k n ds Rb cp V w) (hg : U g0 = 5) (e : ∀ x, U x ≠ 0 → x ≠ g0 → w'.heap[x]? = w.heap[x]?) : Rst U t6 rr K k n ds Rb cp V w' := by
  have e6 := e t6 (by rw [h.u6]; decide) (fun e => by have := h.u6; rw [e, hg] at this; omega)
  have er := e rr (by rw [h.ur]; decide) (fun e => by have := h.ur; rw [e, hg] at this; omega)
  exact ⟨(World.cell?_of_block (a := ⟨t6, 0, none⟩) e6).trans h.c6, fun j hj => (World.cell?_of_block (a := ⟨rr, j, none⟩) er).trans (h.row j hj),
    fun j => (World.frozen?_of_block (a := ⟨rr, j, none⟩) er).trans (h.frr j), fun j hj => (h.val j hj).keep (e _ (by rw [h.uR j hj]; omega) (fun e => by have := h.uR j hj; rw [e, hg] at this; omega)), h.u6, h.ur, h.uR⟩
theorem gsm_none {ln : Nat → Nat} {S : Nat → Bool} {G : Nat → Int} {i : Nat} : ∀ {M : Nat}, (∀ c, c < M → S c = false) → gsm ln S G M i = 0
  | 0, _ => rfl
  | M + 1, h => by
    unfold gsm
    rw [gsm_none (fun c hc => h c (by omega)), h M (by omega)]
    rfl
theorem grS_shut (Gr : Nat → Int) (S : Nat → Bool) (x : Nat) (c : Nat) : (if c = x then Value.complex .f64 (fint (Gr x)) 0 else grS Gr S c) = grS Gr (shutC S x) c := by
  unfold grS shutC
  by_cases e : c = x
  · rw [if_pos e, if_pos e, e]
    rfl
  · rw [if_neg e, if_neg e]

/-- before a cell is shut: what the closure keeps -/
theorem SJ.start {U T : Nat → Nat} {t6 rr t9 gb n M x : Nat} {ds : List (Int × Int)} {Rb cp : Nat → Nat} {S : Nat → Bool} {Gr : Nat → Int} {w0 wr w7 : World} (h : Rst U t6 rr ds.length ds.length n ds Rb cp (VS n M ds Gr S) wr) (hg : Grd U t9 gb n M (grS Gr S) wr) (hu : UOk U T w0 wr) (hb : Below wr.heap.size wr w7) (hx : x < M)
    (hv : w7.cell? ⟨wr.heap.size, 0, none⟩ = some (.complex .f64 (fint (Gr x)) 0)) : SJ U t6 rr t9 gb wr.heap.size n M ds Rb cp (VS n M ds Gr (shutC S x)) (VS n M ds Gr S) (grS Gr (shutC S x)) (Gr x) 0 (w7.setCell ⟨gb, x, none⟩ (.complex .f64 (fint (Gr x)) 0)) := by
  have hgl := (hu gb (by rw [hg.ug]; decide)).2.2
  have e7 : ∀ y, U y ≠ 0 → w7.heap[y]? = wr.heap[y]? := fun y hy => hb.block y (hu y hy).2.2
  have es : ∀ y, y ≠ gb → (w7.setCell ⟨gb, x, none⟩ (.complex .f64 (fint (Gr x)) 0)).heap[y]? = w7.heap[y]? := fun y hy => Below.heap_setCell _ _ _ _ hy
  refine ⟨?_, ?_, ?_, fun y hy => ?_⟩
  · rw [mixV_zero]
    exact h.keepX hg.ug fun y hy hne => (es y hne).trans (e7 y hy)
  · have h1 := (hg.keep e7).set hx (.complex .f64 (fint (Gr x)) 0)
    exact { h1 with row := h1.row.congr fun c _ => grS_shut Gr S x c }
  · exact (World.cell?_of_block (a := ⟨wr.heap.size, 0, none⟩) (es _ (by show wr.heap.size ≠ gb; omega))).trans hv
  · have := (hu y hy).2.2
    have := hb.size
    simp [World.setCell]
    omega

theorem Solve1_call : ∀ args a, Sem.run Try.prog (callFunc 106 args) a = .ok (.enter 106 args) a := by
  intro args a
  rfl

/-- the grid is made -/
theorem Grd.start {U T : Nat → Nat} {t6 rr t9 gb n M : Nat} {ds : List (Int × Int)} {Rb cp : Nat → Nat} {V : Nat → Nat → Int} {w0 wr W : World} (h : Rst U t6 rr ds.length ds.length n ds Rb cp V wr) (hu : UOk U T w0 wr) (hT : ∀ x, T x ≠ 0 → x < wr.heap.size) (hw0 : w0.heap.size ≤ wr.heap.size) (hbl : Below wr.heap.size wr W)
    (h9 : wr.heap.size ≤ t9) (h9l : t9 < W.heap.size) (hg : wr.heap.size ≤ gb) (hgl : gb < W.heap.size) (hn : t9 ≠ gb) (ca : W.cell? ⟨t9, 0, none⟩ = some (.int .i64 n)) (cb : W.cell? ⟨t9, 1, none⟩ = some (sl gb M M)) (row : RowF W gb M (fun _ => .complex .f64 0 0)) :
    ∃ U', Rst U' t6 rr ds.length ds.length n ds Rb cp V W ∧ Grd U' t9 gb n M (fun _ => .complex .f64 0 0) W ∧ UOk U' T w0 W := by
  have hne : ∀ x, U x ≠ 0 → x < wr.heap.size := fun x hx => (hu x hx).2.2
  have hk := h.keep (w' := W) (fun x hx => hbl.block x (hne x hx))
  have hU : ∀ x, U x ≠ 0 → (if x = gb then 5 else if x = t9 then 3 else U x) = U x := fun x hx => by
    have := hne x hx
    rw [if_neg (by omega), if_neg (by omega)]
  refine ⟨fun x => if x = gb then 5 else if x = t9 then 3 else U x, ⟨hk.c6, hk.row, hk.frr, hk.val, ?_, ?_, fun j hj => ?_⟩, ⟨ca, cb, row, ?_, if_pos rfl⟩, fun x hx => ?_⟩
  · exact (hU t6 (by rw [h.u6]; decide)).trans h.u6
  · exact (hU rr (by rw [h.ur]; decide)).trans h.ur
  · exact (hU _ (by rw [h.uR j hj]; omega)).trans (h.uR j hj)
  · show (if t9 = gb then 5 else if t9 = t9 then 3 else _) = 3
    rw [if_neg hn, if_pos rfl]
  · have hx' : (if x = gb then 5 else if x = t9 then 3 else U x) ≠ 0 := hx
    have hT0 : ∀ y, wr.heap.size ≤ y → T y = 0 := fun y hy => by
      rcases Nat.eq_zero_or_pos (T y) with h0 | h0
      · exact h0
      · have := hT y (by omega); omega
    by_cases e1 : x = gb
    · exact ⟨hT0 x (by omega), by omega, by omega⟩
    · rw [if_neg e1] at hx'
      by_cases e2 : x = t9
      · exact ⟨hT0 x (by omega), by omega, by omega⟩
      · rw [if_neg e2] at hx'
        obtain ⟨h3, h4, h5⟩ := hu x hx'
        exact ⟨h3, h4, Nat.lt_of_lt_of_le h5 hbl.size⟩
end Go.Proofs.Ytoeeceemoggffaa
