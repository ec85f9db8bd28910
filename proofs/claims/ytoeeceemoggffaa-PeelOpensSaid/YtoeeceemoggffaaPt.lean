/- peel.Open: which cells stay open.
peel.Open: the walk.
peel.Left: how many cells stay open. -/
import Derived.Test.YtoeeceemoggffaaPw
import Derived.Test.YtoeeceemoggffaaOp
namespace Go.Proofs.Ytoeeceemoggffaa
open Go.RowKit Go.Lib
set_option maxHeartbeats 3200000
set_option maxRecDepth 100000

theorem twice_ok {ds : List (Int × Int)} (h : twice ds = 0) : (∀ d ∈ ds, okD d = true) ∧ ds.Nodup := by
  unfold twice at h
  obtain ⟨h1, _, h3⟩ := (twiceFrom_zero ds []).1 h
  exact ⟨h1, h3⟩

abbrev cfS (n M : Nat) (ds : List (Int × Int)) (S : Nat → Bool) : Nat → Nat → Nat := fun j i => cnt (lnD n ds j) S M i
abbrev gfS (n M : Nat) (ds : List (Int × Int)) (S : Nat → Bool) : Nat → Nat → Nat := fun j i => sms (lnD n ds j) S M i

theorem Brd.asB {w0 : World} {T : Nat → Nat} {b o n M : Nat} {dv : Value} {st bn : Nat → Nat} {sv cv gv rv : Value} {C G : Nat → Nat} {ks kc kg : Nat} {S : Nat → Bool} {cf gf cf1 gf1 : Nat → Nat → Nat} {l : List (Int × Int)} {w : World}
    (h : Brd w0 T b o n M dv st bn sv cv gv rv C G ks kc kg S cf gf l w) (e1 : ∀ j i, j < kc → cf j i = cf1 j i) (e2 : ∀ j i, j < kg → gf j i = gf1 j i) : Brd w0 T b o n M dv st bn sv cv gv rv C G ks kc kg S cf1 gf1 l w :=
  { h with
    cnt := fun j hj => (h.cnt j hj).congr fun i _ => by rw [e1 j i hj]
    sms := fun j hj => (h.sms j hj).congr fun i _ => by rw [e2 j i hj] }

/-- the board between two steps -/
structure OpenR (w : World) (b o n M : Nat) (dv : Value) (ds : List (Int × Int)) (T : Nat → Nat) (sv cv gv rv : Value) (C G : Nat → Nat) (S : Nat → Bool) (l : List (Int × Int)) (wr : World) : Prop where
  brd : Brd w T b o n M dv (stD n ds) (bnD n ds) sv cv gv rv C G ds.length ds.length ds.length S (cfS n M ds S) (gfS n M ds S) l wr
  rdy : Rdy ds.length (bnD n ds) (cfS n M ds S) l
  good : Good ds.length (bnD n ds) l
  len : l.length + 64 * opn S M ≤ 391232
  kept : Kept n ds S

theorem OpenR.start {w : World} {b o n M : Nat} {dv : Value} {ds : List (Int × Int)} {T : Nat → Nat} {sv cv gv rv : Value} {C G : Nat → Nat} {l : List (Int × Int)} {wr : World}
    (h : Brd w T b o n M dv (stD n ds) (bnD n ds) sv cv gv rv C G ds.length ds.length ds.length allC (cfB n M ds) (gfB n M ds) l wr) (h1 : Rdy ds.length (bnD n ds) (cfB n M ds) l) (h2 : Good ds.length (bnD n ds) l) (h3 : l.length ≤ 2017 * ds.length) (hds : ds.length ≤ 64) (hM : M ≤ 4096) :
    OpenR w b o n M dv ds T sv cv gv rv C G allC l wr :=
  ⟨h, h1, h2, by have := opn_le allC M; omega, Kept.all n ds⟩

/-- next keeps the board -/
theorem OpenR.next {w : World} {b o n M : Nat} {dv : Value} {ds : List (Int × Int)} {T T2 : Nat → Nat} {sv cv gv rv rv2 : Value} {C G : Nat → Nat} {S : Nat → Bool} {l l2 : List (Int × Int)} {wr w2 : World}
    (h : OpenR w b o n M dv ds T sv cv gv rv C G S l wr) (k : NextR w T b o n M dv (stD n ds) (bnD n ds) sv cv gv C G ds.length S (cfS n M ds S) (gfS n M ds S) l wr w2 rv2 l2 T2) : OpenR w b o n M dv ds T2 sv cv gv rv2 C G S l2 w2 :=
  ⟨k.brd, k.rdy h.rdy, fun x hx => h.good x (k.sub x hx), by have := k.len; have := h.len; omega, h.kept⟩

/-- shut keeps the board -/
theorem OpenR.shut {w : World} {b o n M : Nat} {dv : Value} {ds : List (Int × Int)} {T T2 : Nat → Nat} {sv cv gv rv rv2 : Value} {C G : Nat → Nat} {S : Nat → Bool} {l l2 : List (Int × Int)} {wr w2 : World} {x k i : Nat} {R : Nat → Prop} {J : Nat → World → Prop}
    (h : OpenR w b o n M dv ds T sv cv gv rv C G S l wr) (q : ShutR w T b o n M dv (stD n ds) (bnD n ds) sv cv gv C G ds.length (shutC S x) (cfS n M ds (shutC S x)) (cfS n M ds S) (gfS n M ds (shutC S x)) (gfS n M ds S) l R J ds.length wr w2 rv2 l2 T2) (ho : ∀ d ∈ ds, okD d = true)
    (hM : M = n * n) (hds : ds.length ≤ 64) (hx : x < M) (hS : S x = true) (hk : k < ds.length) (hi : lnD n ds k x = i) (h1 : ∀ c, c < M → S c = true → lnD n ds k c = i → c = x) : OpenR w b o n M dv ds T2 sv cv gv rv2 C G (shutC S x) l2 w2 := by
  have e1 : ∀ (f' f : Nat → Nat → Nat) j i, j < ds.length → mix ds.length f' f j i = f' j i := fun f' f j i hj => by unfold mix; rw [if_pos hj]
  refine ⟨q.brd.asB (fun j i hj => e1 _ _ j i hj) (fun j i hj => e1 _ _ j i hj), fun j i hj hi h => q.rdy j i hj hi (by rw [e1 _ _ j i hj]; exact h), q.good, ?_, h.kept.shut (dirAt_mem hk) (ho _ (dirAt_mem hk)) (by rw [← hM]; exact hx) hi (by rw [← hM]; exact h1)⟩
  have h3 := opn_shut hS hx
  have h4 := q.len
  have h5 := h.len
  omega

/-- no place is left: the core -/
theorem OpenR.core {w : World} {b o n M : Nat} {dv : Value} {ds : List (Int × Int)} {T : Nat → Nat} {sv cv gv rv : Value} {C G : Nat → Nat} {S : Nat → Bool} {wr : World}
    (h : OpenR w b o n M dv ds T sv cv gv rv C G S [] wr) (ho : ∀ d ∈ ds, okD d = true) (hM : M = n * n) : Core n ds S := by
  refine Core.of h.kept ho fun d hd i hi h1 => ?_
  obtain ⟨k, hk, e⟩ := List.getElem_of_mem hd
  have e2 : dirAt ds k = d := by
    have := dirAt_get hk
    rw [List.getElem?_eq_getElem hk, e] at this
    exact (Option.some.inj this).symm
  have := h.rdy k i hk (by show i < binsN n (dirAt ds k); rw [e2]; exact hi) (by show cnt (lineN n (dirAt ds k)) S M i = 1; rw [e2, hM]; exact h1)
  cases this

theorem Noop_walk (x y : Int) (w : World) : Calls Try.prog 81 #[.agg #[.int .i64 x, .int .i64 y]] w fun e w' => e = .returned (.tuple #[]) ∧ w' = w.alloc (.cells #[.int .i64 x, .int .i64 y] 113) := by
  go_enter Try.func81, Try.ntmps81
  go_wp2
  exact bodyPost_end (v := .tuple #[]) (by simp [results, Try.results81, go_sem]) rfl ⟨rfl, rfl⟩
theorem Noop_call : ∀ args a, Sem.run Try.prog (callFunc 81 args) a = .ok (.enter 81 args) a := by
  intro args a
  rfl
end Go.Proofs.Ytoeeceemoggffaa

namespace Go.Proofs.Ytoeeceemoggffaa
open Go.RowKit Go.Lib
set_option maxHeartbeats 3200000
set_option maxRecDepth 100000

def openAt (o M : Nat) (w : World) : Nat := opn (fun i => match w.cell? ⟨o, i, none⟩ with
  | some (.bool b) => b
  | _ => false) M
theorem openAt_of {o M : Nat} {w : World} {t : TypeId} {S : Nat → Bool} (h : w.rowIs o t M fun i => .bool (S i)) : openAt o M w = opn S M := by
  unfold openAt
  exact opn_congr fun c hc => by rw [h.cell hc]

/-- what stands at the head of a round of Open -/
structure LoopO (w : World) (b o n M : Nat) (dv : Value) (ds : List (Int × Int)) (T : Nat → Nat) (sv cv gv rv : Value) (C G : Nat → Nat) (S : Nat → Bool) (l : List (Int × Int)) (h9 : Nat) (v : Int) (f : Bool) (wr : World) : Prop where
  st : OpenR w b o n M dv ds T sv cv gv rv C G S l wr
  blk : ∃ x y : Int, wr.heap[h9]? = some (.cells #[.int .i64 x, .int .i64 y] 113 (0, 0))
  tag : T h9 = 0
  flag : (f = true ∧ ∃ j i : Nat, j < ds.length ∧ i < bnD n ds j ∧ cfS n M ds S j i = 1 ∧ v = (gfS n M ds S j i : Nat)) ∨ (f = false ∧ l = [])

theorem OpenR.beyond {w : World} {b o n M : Nat} {dv : Value} {ds : List (Int × Int)} {T : Nat → Nat} {sv cv gv rv : Value} {C G : Nat → Nat} {S : Nat → Bool} {l : List (Int × Int)} {wr w2 : World}
    (h : OpenR w b o n M dv ds T sv cv gv rv C G S l wr) (k : Below wr.heap.size wr w2) : OpenR w b o n M dv ds T sv cv gv rv C G S l w2 := ⟨h.brd.beyond k, h.rdy, h.good, h.len, h.kept⟩

theorem LoopO.mk' {w : World} {b o n M : Nat} {dv : Value} {ds : List (Int × Int)} {T T2 : Nat → Nat} {sv cv gv rv rv2 : Value} {C G : Nat → Nat} {S : Nat → Bool} {l l2 : List (Int × Int)} {wr w2 w3 : World} {v : Int} {f : Bool} {p q : Int} {h9 : Nat} {x y : Int}
    (h : OpenR w b o n M dv ds T sv cv gv rv C G S l wr) (k : NextR w T b o n M dv (stD n ds) (bnD n ds) sv cv gv C G ds.length S (cfS n M ds S) (gfS n M ds S) l wr w2 rv2 l2 T2)
    (hf : (∃ j i : Nat, ((j : Int), (i : Int)) ∈ l2 ∧ j < ds.length ∧ i < bnD n ds j ∧ cfS n M ds S j i = 1 ∧ Ending.returned (.tuple #[.agg #[.int .i64 p, .int .i64 q], .int .i64 v, .bool f]) = .returned (.tuple #[.agg #[.int .i64 j, .int .i64 i], .int .i64 (gfS n M ds S j i : Nat), .bool true])) ∨ (l2 = [] ∧ Ending.returned (.tuple #[.agg #[.int .i64 p, .int .i64 q], .int .i64 v, .bool f]) = .returned (.tuple #[.agg #[.int .i64 0, .int .i64 0], .int .i64 0, .bool false])))
    (hbw : Below w2.heap.size w2 w3) (hb : w3.heap[h9]? = some (.cells #[.int .i64 x, .int .i64 y] 113 (0, 0))) (ht : T2 h9 = 0) : LoopO w b o n M dv ds T2 sv cv gv rv2 C G S l2 h9 v f w3 := by
  refine ⟨(h.next k).beyond hbw, ⟨x, y, hb⟩, ht, ?_⟩
  rcases hf with ⟨j, i, _, h1, h2, h3, h4⟩ | ⟨h1, h4⟩
  · simp at h4
    exact .inl ⟨h4.2.2, j, i, h1, h2, h3, h4.2.1⟩
  · simp at h4
    exact .inr ⟨h4.2.2, h1⟩

theorem next_form {e : Ending} {ds : List (Int × Int)} {n M : Nat} {S : Nat → Bool} {l : List (Int × Int)}
    (h : (∃ j i : Nat, ((j : Int), (i : Int)) ∈ l ∧ j < ds.length ∧ i < bnD n ds j ∧ cfS n M ds S j i = 1 ∧ e = .returned (.tuple #[.agg #[.int .i64 j, .int .i64 i], .int .i64 (gfS n M ds S j i : Nat), .bool true])) ∨ (l = [] ∧ e = .returned (.tuple #[.agg #[.int .i64 0, .int .i64 0], .int .i64 0, .bool false]))) :
    ∃ (p q v : Int) (f : Bool), e = .returned (.tuple #[.agg #[.int .i64 p, .int .i64 q], .int .i64 v, .bool f]) := by
  rcases h with ⟨j, i, _, _, _, _, rfl⟩ | ⟨_, rfl⟩
  · exact ⟨_, _, _, _, rfl⟩
  · exact ⟨_, _, _, _, rfl⟩

theorem katz_in {n : Nat} {ds : List (Int × Int)} (h1 : 1 ≤ n) (h2 : n ≤ 64) : (katz n ds).2 = twice ds := by
  unfold katz
  rw [if_neg (by omega)]
  by_cases h : twice ds = 0
  · rw [if_pos h, h]
  · rw [if_neg h]

theorem Open_yes {A : Option Addr} {capd : Nat} {ds : List (Int × Int)} {w : World} (n : Nat) (hD : Dirs w A ds) (h1 : 1 ≤ n) (h2 : n ≤ 64) (hds : ds.length ≤ 64) (ht : twice ds = 0) :
    Calls Try.prog 43 #[.int .i64 n, .slice A ds.length capd] w fun e w' => ∃ o S, e = .returned (.tuple #[sl o (n * n) (n * n), .int .i64 0]) ∧ w.heap.size ≤ o ∧ w'.rowIs o 4 (n * n) (fun i => .bool (S i)) ∧ Core n ds S ∧ Below w.heap.size w w' := by
  obtain ⟨ho, _⟩ := twice_ok ht
  have K := Lib.hid (Katz_walk (n : Int) (by unfold I64; omega) A capd ds w hD)
  have k2 := katz_in (ds := ds) h1 h2
  rw [ht] at k2
  obtain ⟨kb, hkb⟩ : ∃ kb, kb = (katz (n : Int) ds).1 := ⟨_, rfl⟩
  rw [k2, ← hkb] at K
  obtain ⟨M, hM⟩ : ∃ M, M = n * n := ⟨_, rfl⟩
  rw [← hM]
  have hM4 : M ≤ 4096 := by rw [hM]; exact Nat.mul_le_mul h2 h2
  have HD := Lib.hid hD
  have HO := Lib.hid ho
  have HM := Lib.hid hM
  have HT := Lib.hid ht
  clear hD ho hM ht k2 hkb
  go_enter Try.func43, Try.ntmps43
  go_wp2_with fail
  refine (K.out).mono ?_; rintro e w1 ⟨rfl, hb1⟩
  have HB1 := Lib.hid hb1
  clear hb1 K
  go_wp2_with fail
  refine (newBoard_walk n M (HD.out.later HB1.out) HO.out HM.out h1 h2 hds).mono ?_; rintro e w2 ⟨b, o, T, sv, cv, gv, rv, C, G, l, rfl, hbr, hrd, hgd, hln⟩
  have HR := Lib.hid (OpenR.start hbr hrd hgd hln hds hM4)
  clear hbr hrd hgd hln
  go_wp2_with fail
  refine (next_walk HR.out.brd (by have := HR.out.len; omega) HR.out.good (fun j i => by have := cnt_le (lnD n ds j) allC M i; show cnt _ _ _ _ ≤ _; omega) (fun j i => by have := sms_le (lnD n ds j) allC M i; have := Nat.mul_le_mul hM4 hM4; show sms _ _ _ _ ≤ _; omega)).mono ?_; rintro e w3 ⟨rv3, l3, T3, hn3, hf3⟩
  obtain ⟨p, q, v, f, rfl⟩ := next_form hf3
  have HN3 := Lib.hid hn3
  have HF3 := Lib.hid hf3
  clear hn3 hf3
  go_wp2_with fail
  go_loopw [9, 10, 11] (fun s9 s10 s11 wr => ∃ (h9 : Nat) (v : Int) (f : Bool), s9 = .pointer (some ⟨h9, 0, none⟩) ∧ s10 = .int .i64 v ∧ s11 = .bool f ∧ ∃ T rv S l, Hid (LoopO w1 b o n M (.slice A ds.length capd) ds T sv cv gv rv C G S l h9 v f wr)) (fun _ _ _ wr => openAt o M wr)
  case atStart =>
    exact ⟨_, v, f, rfl, rfl, rfl, T3, rv3, allC, l3, Lib.hid (LoopO.mk' HR.out HN3.out HF3.out ((Below.refl _ _).alloc (Nat.le_refl _) _) (heap_alloc_new w3 _) (HN3.out.brd.new _ (Nat.le_refl _)))⟩
  case round =>
    clear HR HN3 HF3
    obtain ⟨h9, v, f, rfl, rfl, rfl, T, rv, S, l, HL⟩ := hrel
    cases f
    · have hst := HL.out.st
      have a3 := hst.brd.str.c3
      have hl0 : l = [] := by
        rcases HL.out.flag with ⟨h7, _⟩ | ⟨_, h7⟩
        · cases h7
        · exact h7
      subst hl0
      have HC := Lib.hid (hst.core HO.out HM.out)
      have HOp := Lib.hid hst.brd.opn
      have HBw := Lib.hid (HB1.out.trans (hst.brd.below.mono HB1.out.size))
      have HOl := Lib.hid (Nat.le_trans HB1.out.size (hst.brd.lt o (by rw [hst.brd.t_o]; decide)).1)
      clear hst
      go_wp2
      go_ret2
      exact ⟨o, S, rfl, HOl.out, HOp.out, HC.out, HBw.out⟩
    · have hst := HL.out.st
      obtain ⟨j, i, hj, hi, hc1, hv⟩ : ∃ j i : Nat, j < ds.length ∧ i < bnD n ds j ∧ cfS n M ds S j i = 1 ∧ v = (gfS n M ds S j i : Nat) := by
        rcases HL.out.flag with ⟨_, h7⟩ | ⟨h7, _⟩
        · exact h7
        · cases h7
      obtain ⟨x, hx, hS, hlx, hsx, hux⟩ := cnt_one hc1
      have hv2 : v = (x : Int) := by rw [hv]; show ((sms (lnD n ds j) S M i : Nat) : Int) = _; rw [hsx]
      subst hv2
      obtain ⟨y0, y1, hblk⟩ := HL.out.blk
      have hsw := shut_walk (cf' := cfS n M ds (shutC S x)) (gf' := gfS n M ds (shutC S x)) hst.brd (HD.out.later HB1.out) HO.out HM.out h1 h2 hds x hx (by have := hst.len; omega) hst.good hst.rdy (fun j i => by have := cnt_le (lnD n ds j) S M i; show cnt _ _ _ _ ≤ _; omega) (fun j i => by have := sms_le (lnD n ds j) S M i; have := Nat.mul_le_mul hM4 hM4; show sms _ _ _ _ ≤ _; omega)
        (fun j i _ => cnt_shut hS i hx) (fun j i _ => sms_shut hS i hx) 81 #[] Noop_call (fun _ => False) (fun _ _ => True) (fun _ h => h.elim) trivial (fun _ _ _ _ _ => trivial) (fun k a _ _ _ => by
          rw [Array.append_empty]
          refine (Noop_walk _ _ a).mono ?_
          rintro e w' ⟨rfl, rfl⟩
          exact ⟨rfl, trivial, rfl, rfl, rfl, by simp, fun x hx _ => Below.heap_alloc _ _ _ hx⟩)
      have HSW := Lib.hid hsw
      have HJ := Lib.hid hj
      have HLX := Lib.hid hlx
      have HUX := Lib.hid hux
      have HBk := Lib.hid hblk
      clear hsw hst hc1 hsx hlx hux hblk hi hv hj
      go_wp2_with fail
      refine (HSW.out).mono ?_; rintro e w4 ⟨rfl, rv4, l4, T4, hsh⟩
      have hO4 := HL.out.st.shut hsh HO.out HM.out hds hx hS HJ.out HLX.out HUX.out
      have hlt9 : h9 < wr.heap.size := by
        have := HBk.out
        rcases Nat.lt_or_ge h9 wr.heap.size with h7 | h7
        · exact h7
        · rw [Array.getElem?_eq_none h7] at this; cases this
      have hb4 := (hsh.frame h9 hlt9 HL.out.tag (fun h => h)).trans HBk.out
      have z0 : w4.cell? ⟨h9, 0, none⟩ = some (.int .i64 y0) := by simp [World.cell?, hb4]
      have z1 : w4.cell? ⟨h9, 1, none⟩ = some (.int .i64 y1) := by simp [World.cell?, hb4]
      have HO4 := Lib.hid hO4
      have HSO := Lib.hid hsh.brd.opn
      clear hO4 hsh hlt9 hb4 HSW
      go_wp2_with fail
      have HW := Lib.hid (HO4.out.beyond ((Below.refl w4.heap.size w4).alloc (Nat.le_refl _) (.cells #[.int .i64 y0, .int .i64 y1] 113)))
      refine (next_walk HW.out.brd (by have := HW.out.len; omega) HW.out.good (fun j i => by have := cnt_le (lnD n ds j) (shutC S x) M i; show cnt _ _ _ _ ≤ _; omega) (fun j i => by have := sms_le (lnD n ds j) (shutC S x) M i; have := Nat.mul_le_mul hM4 hM4; show sms _ _ _ _ ≤ _; omega)).mono ?_; rintro e w5 ⟨rv5, l5, T5, hn5, hf5⟩
      obtain ⟨p2, q2, v2, f2, rfl⟩ := next_form hf5
      have HN5 := Lib.hid hn5
      have HF5 := Lib.hid hf5
      clear hn5 hf5
      go_wp2
      go_roundw
      case measure =>
        rw [openAt_of HL.out.st.brd.opn, openAt_of HN5.out.brd.opn]
        have := opn_shut hS hx
        omega
      case rel =>
        have hsz : (w4.alloc (.cells #[.int .i64 y0, .int .i64 y1] 113)).heap.size = w4.heap.size + 1 := by simp
        have ht0 : T4 w4.heap.size = 0 := HO4.out.brd.new _ (Nat.le_refl _)
        exact ⟨_, v2, f2, rfl, rfl, rfl, T5, rv5, shutC S x, l5, Lib.hid (LoopO.mk' HW.out HN5.out HF5.out (Below.refl _ _) ((HN5.out.frame _ (by rw [hsz]; omega) ht0).trans (heap_alloc_new w4 _)) ((HN5.out.tags _ (by rw [hsz]; omega)).trans ht0))⟩

def openE (n : Int) (ds : List (Int × Int)) : Int := if n < 1 ∨ 64 < n then 1 else if 64 < ds.length then 2 else twice ds

theorem Open_no {A : Option Addr} {capd : Nat} {ds : List (Int × Int)} {w : World} (n : Int) (hn : I64 n) (hD : Dirs w A ds) (he : openE n ds ≠ 0) :
    Calls Try.prog 43 #[.int .i64 n, .slice A ds.length capd] w fun e w' => e = .returned (.tuple #[.slice none 0 0, .int .i64 (openE n ds)]) ∧ Below w.heap.size w w' := by
  unfold I64 at hn
  unfold openE at *
  have hlen := hD.len
  by_cases h1 : n < 1
  · rw [if_pos (.inl h1)]
    clear he hD
    go_enter Try.func43, Try.ntmps43
    go_wp2
    go_ret2
    exact ⟨rfl, Below.refl _ _⟩
  · by_cases h2 : 64 < n
    · rw [if_pos (.inr h2)]
      clear he hD
      go_enter Try.func43, Try.ntmps43
      go_wp2
      go_ret2
      exact ⟨rfl, Below.refl _ _⟩
    · rw [if_neg (by omega)] at he ⊢
      by_cases h3 : 64 < ds.length
      · rw [if_pos h3]
        have h3' : (64 : Int) < (ds.length : Int) := by omega
        clear he hD
        go_enter Try.func43, Try.ntmps43
        go_wp2
        go_ret2
        exact ⟨rfl, Below.refl _ _⟩
      · rw [if_neg h3] at he ⊢
        obtain ⟨m, rfl⟩ : ∃ m : Nat, n = (m : Int) := ⟨n.toNat, by omega⟩
        have K := Lib.hid (Katz_walk (m : Int) hn A capd ds w hD)
        have k2 := katz_in (n := m) (ds := ds) (by omega) (by omega)
        obtain ⟨kb, hkb⟩ : ∃ kb, kb = (katz (m : Int) ds).1 := ⟨_, rfl⟩
        rw [k2, ← hkb] at K
        obtain ⟨t, ht⟩ : ∃ t, t = twice ds := ⟨_, rfl⟩
        rw [← ht] at K he ⊢
        have he' : (t == 0) = false := by simpa using he
        have he'' : (t != 0) = true := by simpa using he
        clear hD k2 hkb ht
        go_enter Try.func43, Try.ntmps43
        go_wp2_with fail
        refine (K.out).mono ?_; rintro e w1 ⟨rfl, hb1⟩
        go_wp2
        go_ret2
        exact ⟨rfl, hb1⟩
end Go.Proofs.Ytoeeceemoggffaa

namespace Go.Proofs.Ytoeeceemoggffaa
open Go.RowKit Go.Lib
set_option maxHeartbeats 3200000
set_option maxRecDepth 100000

theorem Left_yes {A : Option Addr} {capd : Nat} {ds : List (Int × Int)} {w : World} (n : Nat) (hD : Dirs w A ds) (h1 : 1 ≤ n) (h2 : n ≤ 64) (hds : ds.length ≤ 64) (ht : twice ds = 0) :
    Calls Try.prog 45 #[.int .i64 n, .slice A ds.length capd] w fun e w' => ∃ S, e = .returned (.tuple #[.int .i64 (opn S (n * n) : Nat), .int .i64 0]) ∧ Core n ds S ∧ Below w.heap.size w w' := by
  have O := Lib.hid (Open_yes (capd := capd) n hD h1 h2 hds ht)
  obtain ⟨M, hM⟩ : ∃ M, M = n * n := ⟨_, rfl⟩
  rw [← hM] at O ⊢
  have hM4 : M ≤ 4096 := by rw [hM]; exact Nat.mul_le_mul h2 h2
  clear hD ht hM
  go_enter Try.func45, Try.ntmps45
  go_wp2_with fail
  refine (O.out).mono ?_; rintro e w1 ⟨o, S, rfl, hol, hrow, hcore, hb1⟩
  have HR := Lib.hid hrow
  have HC := Lib.hid hcore
  have HB := Lib.hid hb1
  clear hrow hcore hb1 O hol
  go_wp2_with fail
  go_loopw [8, 19] (fun s8 s19 wr => ∃ m : Nat, m ≤ M ∧ s19 = .int .i64 m ∧ s8 = .int .i64 (opn S m : Nat) ∧ wr = w1) (fun _ i _ => M - (intOf i).toNat)
  case atStart => exact ⟨0, Nat.zero_le _, rfl, rfl, rfl⟩
  case round =>
    obtain ⟨m, hm, rfl, rfl, rfl⟩ := hrel
    by_cases hm1 : m < M
    · have hm1' : (m : Int) < (M : Int) := by omega
      have oc := HR.out.cell hm1
      have ho1 := opn_le S m
      have e1 : opn S (m + 1) = opn S m + (if S m = true then 1 else 0) := rfl
      obtain ⟨k, hk⟩ : ∃ k, k = opn S m := ⟨_, rfl⟩
      rw [← hk] at ho1 e1 ⊢
      cases hS : S m
      · rw [hS] at oc e1
        simp only [Bool.false_eq_true, if_false] at e1
        have HE := Lib.hid e1
        clear e1 hk hS
        go_wp2
        go_roundw
        case measure => simp [intOf]; omega
        case rel => exact ⟨m + 1, by omega, by go_num, by rw [HE.out]; rfl, trivial⟩
      · rw [hS] at oc e1
        simp only [if_true] at e1
        have HE := Lib.hid e1
        clear e1 hk hS
        go_wp2
        go_roundw
        case measure => simp [intOf]; omega
        case rel => exact ⟨m + 1, by omega, by go_num, by rw [HE.out]; go_num, trivial⟩
    · obtain rfl : m = M := by omega
      have hm2 : decide ((m : Int) < (m : Int)) = false := by simp
      go_wp2
      go_ret2
      exact ⟨S, rfl, HC.out, HB.out⟩

theorem Left_no {A : Option Addr} {capd : Nat} {ds : List (Int × Int)} {w : World} (n : Int) (hn : I64 n) (hD : Dirs w A ds) (he : openE n ds ≠ 0) :
    Calls Try.prog 45 #[.int .i64 n, .slice A ds.length capd] w fun e w' => e = .returned (.tuple #[.int .i64 0, .int .i64 (openE n ds)]) ∧ Below w.heap.size w w' := by
  have O := Lib.hid (Open_no (capd := capd) n hn hD he)
  clear hD he
  go_enter Try.func45, Try.ntmps45
  go_wp2_with fail
  refine (O.out).mono ?_; rintro e w1 ⟨rfl, hb1⟩
  have HB := Lib.hid hb1
  clear hb1 O
  go_wp2_with fail
  go_loopw [8, 19] (fun s8 s19 wr => s8 = .int .i64 0 ∧ s19 = .int .i64 0 ∧ wr = w1) (fun _ _ _ => 0)
  case atStart => exact ⟨rfl, rfl, rfl⟩
  case round =>
    obtain ⟨rfl, rfl, rfl⟩ := hrel
    go_wp2
    go_ret2
    exact ⟨rfl, HB.out⟩

theorem openE_zero {n : Int} {ds : List (Int × Int)} : openE n ds = 0 ↔ 1 ≤ n ∧ n ≤ 64 ∧ ds.length ≤ 64 ∧ twice ds = 0 := by
  unfold openE
  by_cases h1 : n < 1 ∨ 64 < n
  · rw [if_pos h1]
    exact ⟨fun h => (by cases h), fun ⟨_, _, _, _⟩ => by omega⟩
  · rw [if_neg h1]
    by_cases h2 : 64 < ds.length
    · rw [if_pos h2]
      exact ⟨fun h => (by cases h), fun ⟨_, _, _, _⟩ => by omega⟩
    · rw [if_neg h2]
      exact ⟨fun h => ⟨by omega, by omega, by omega, h⟩, fun h => h.2.2.2⟩
end Go.Proofs.Ytoeeceemoggffaa
