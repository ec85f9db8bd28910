/- peel.Solve on small whole grids that the directions determine: the walk. -/
import Derived.Test.YtoeeceemoggffaaSt
import Derived.Deep.RegionHeld3
import Derived.Deep.RegionLaw
import Derived.Deep.DeepCutAuto
import Derived.Deep.AppendLies
import Derived.OwnWalk
namespace Go.Proofs.Ytoeeceemoggffaa
open Go.RowKit Go.Lib
set_option maxHeartbeats 3200000
set_option maxRecDepth 100000

theorem infoRests : (Try.prog.info? 37).map (fun i => (i.zero, i.size, i.bytes)) = some (some (.slice none 0 0), 1, 24) := by kernel_rfl
theorem infoCx : (Try.prog.info? 23).map (fun i => (i.zero, i.size, i.bytes)) = some (some (.complex .f64 0 0), 1, 16) := by kernel_rfl
theorem undRests : Try.prog.underlying 128 = some (.slice 37) := by kernel_rfl

/-- what stands at the head of a round of Solve -/
structure SolR (w0 : World) (b o n M : Nat) (dv : Value) (ds : List (Int × Int)) (U : Nat → Nat) (t6 rr t9 gb : Nat) (Rb cp : Nat → Nat) (Gr : Nat → Int) (T : Nat → Nat) (sv cv gv rv : Value) (C G : Nat → Nat) (S : Nat → Bool) (l : List (Int × Int)) (h11 kn : Nat) (p q v : Int) (f : Bool) (wr : World) : Prop where
  st : OpenR w0 b o n M dv ds T sv cv gv rv C G S l wr
  rst : Rst U t6 rr ds.length ds.length n ds Rb cp (VS n M ds Gr S) wr
  grd : Grd U t9 gb n M (grS Gr S) wr
  uok : UOk U T w0 wr
  kn : kn + opn S M = M
  blk : wr.heap[h11]? = some (.cells #[.int .i64 p, .int .i64 q] 113 (0, 0))
  tag : T h11 = 0
  utag : U h11 = 0
  base : w0.heap.size ≤ h11
  flag : (f = true ∧ ∃ j i : Nat, p = j ∧ q = i ∧ j < ds.length ∧ i < bnD n ds j ∧ cfS n M ds S j i = 1 ∧ v = (gfS n M ds S j i : Nat)) ∨ (f = false ∧ l = [])

theorem SolR.mk' {w0 : World} {b o n M : Nat} {dv : Value} {ds : List (Int × Int)} {U : Nat → Nat} {t6 rr t9 gb : Nat} {Rb cp : Nat → Nat} {Gr : Nat → Int} {T T2 : Nat → Nat} {sv cv gv rv2 : Value} {C G : Nat → Nat} {S : Nat → Bool} {l l2 : List (Int × Int)} {h11 kn : Nat} {p q v : Int} {f : Bool} {wa w2 wx : World}
    (hr : Rst U t6 rr ds.length ds.length n ds Rb cp (VS n M ds Gr S) wa) (hg : Grd U t9 gb n M (grS Gr S) wa) (hu : UOk U T w0 wa) (hk : kn + opn S M = M)
    (k : NextR w0 T b o n M dv (stD n ds) (bnD n ds) sv cv gv C G ds.length S (cfS n M ds S) (gfS n M ds S) l wa w2 rv2 l2 T2)
    (hf : (∃ j i : Nat, ((j : Int), (i : Int)) ∈ l2 ∧ j < ds.length ∧ i < bnD n ds j ∧ cfS n M ds S j i = 1 ∧ Ending.returned (.tuple #[.agg #[.int .i64 p, .int .i64 q], .int .i64 v, .bool f]) = .returned (.tuple #[.agg #[.int .i64 j, .int .i64 i], .int .i64 (gfS n M ds S j i : Nat), .bool true])) ∨ (l2 = [] ∧ Ending.returned (.tuple #[.agg #[.int .i64 p, .int .i64 q], .int .i64 v, .bool f]) = .returned (.tuple #[.agg #[.int .i64 0, .int .i64 0], .int .i64 0, .bool false])))
    (hO : OpenR w0 b o n M dv ds T2 sv cv gv rv2 C G S l2 wx) (hx : ∀ x, U x ≠ 0 → wx.heap[x]? = w2.heap[x]?) (hsz : w2.heap.size ≤ wx.heap.size) (hb : wx.heap[h11]? = some (.cells #[.int .i64 p, .int .i64 q] 113 (0, 0))) (ht : T2 h11 = 0) (hu1 : U h11 = 0) (hba : w0.heap.size ≤ h11) :
    SolR w0 b o n M dv ds U t6 rr t9 gb Rb cp Gr T2 sv cv gv rv2 C G S l2 h11 kn p q v f wx := by
  have hkeep : ∀ x, U x ≠ 0 → wx.heap[x]? = wa.heap[x]? := fun x hxu => (hx x hxu).trans (k.frame x (hu x hxu).2.2 (hu x hxu).1)
  refine ⟨hO, hr.keep hkeep, hg.keep hkeep, fun x hxu => ?_, hk, hb, ht, hu1, hba, ?_⟩
  · obtain ⟨a1, a2, a3⟩ := hu x hxu
    have := k.size
    exact ⟨(k.tags x a3).trans a1, a2, by omega⟩
  · rcases hf with ⟨j, i, _, h1, h2, h3, h4⟩ | ⟨h1, h4⟩
    · simp at h4
      exact .inl ⟨h4.2.2, j, i, h4.1.1, h4.1.2, h1, h2, h3, h4.2.1⟩
    · simp at h4
      exact .inr ⟨h4.2.2, h1⟩

theorem RowF.of {w : World} {b n : Nat} {t : TypeId} {f : Nat → Value} (h : w.rowIs b t n f) : RowF w b n f := ⟨fun _ hi => h.cell hi, fun i => h.frozen i⟩
theorem grid_a {U T : Nat → Nat} {t6 rr n M : Nat} {ds : List (Int × Int)} {Rb cp : Nat → Nat} {V : Nat → Nat → Int} {w0 wr : World} (h : Rst U t6 rr ds.length ds.length n ds Rb cp V wr) (hu : UOk U T w0 wr) (hT : ∀ x, T x ≠ 0 → x < wr.heap.size) (hw0 : w0.heap.size ≤ wr.heap.size) :
    ∃ U', Rst U' t6 rr ds.length ds.length n ds Rb cp V ((wr.alloc (.cells (madeCells #[.complex .f64 0 0] M) 23)).alloc (.cells #[.int .i64 n, sl wr.heap.size M M] 59)).drew ∧
      Grd U' (wr.heap.size + 1) wr.heap.size n M (fun _ => .complex .f64 0 0) ((wr.alloc (.cells (madeCells #[.complex .f64 0 0] M) 23)).alloc (.cells #[.int .i64 n, sl wr.heap.size M M] 59)).drew ∧ UOk U' T w0 ((wr.alloc (.cells (madeCells #[.complex .f64 0 0] M) 23)).alloc (.cells #[.int .i64 n, sl wr.heap.size M M] 59)).drew := by
  have c3 : ∀ j, ((wr.alloc (.cells (madeCells #[.complex .f64 0 0] M) 23)).alloc (.cells #[.int .i64 n, sl wr.heap.size M M] 59)).cell? ⟨wr.heap.size + 1, j, none⟩ = #[Value.int .i64 n, sl wr.heap.size M M][j]? := fun j => by
    have := new_cell (wr.alloc (.cells (madeCells #[.complex .f64 0 0] M) 23)) #[Value.int .i64 n, sl wr.heap.size M M] 59 j
    rw [new_size] at this
    exact this
  have hs : ((wr.alloc (.cells (madeCells #[.complex .f64 0 0] M) 23)).alloc (.cells #[.int .i64 n, sl wr.heap.size M M] 59)).heap.size = wr.heap.size + 1 + 1 := by rw [new_size, new_size]
  exact Grd.start h hu hT hw0 ((((Below.refl _ _).alloc (Nat.le_refl _) _).alloc (by simp) _).drew) (by omega) (by show _ < (World.alloc _ _).heap.size; omega) (Nat.le_refl _) (by show _ < (World.alloc _ _).heap.size; omega) (by omega) (c3 0) (c3 1)
    ((RowF.of ((World.rowIs_made wr (.complex .f64 0 0) M 23).alloc _)).keep rfl)
theorem grid_b {U T : Nat → Nat} {t6 rr n M : Nat} {ds : List (Int × Int)} {Rb cp : Nat → Nat} {V : Nat → Nat → Int} {w0 wr : World} (h : Rst U t6 rr ds.length ds.length n ds Rb cp V wr) (hu : UOk U T w0 wr) (hT : ∀ x, T x ≠ 0 → x < wr.heap.size) (hw0 : w0.heap.size ≤ wr.heap.size) :
    ∃ U', Rst U' t6 rr ds.length ds.length n ds Rb cp V ((wr.alloc (.cells #[.int .i64 n, sl (wr.heap.size + 1) M M] 59)).alloc (.cells (madeCells #[.complex .f64 0 0] M) 23)).drew ∧
      Grd U' wr.heap.size (wr.heap.size + 1) n M (fun _ => .complex .f64 0 0) ((wr.alloc (.cells #[.int .i64 n, sl (wr.heap.size + 1) M M] 59)).alloc (.cells (madeCells #[.complex .f64 0 0] M) 23)).drew ∧ UOk U' T w0 ((wr.alloc (.cells #[.int .i64 n, sl (wr.heap.size + 1) M M] 59)).alloc (.cells (madeCells #[.complex .f64 0 0] M) 23)).drew := by
  have c2 := fun o => (Below.refl (wr.alloc (.cells #[.int .i64 n, sl (wr.heap.size + 1) M M] 59)).heap.size _).alloc (Nat.le_refl _) o
  have c3 : ∀ j o, ((wr.alloc (.cells #[.int .i64 n, sl (wr.heap.size + 1) M M] 59)).alloc o).cell? ⟨wr.heap.size, j, none⟩ = #[Value.int .i64 n, sl (wr.heap.size + 1) M M][j]? := fun j o => ((c2 o).cell (by simp)).trans (new_cell wr _ _ j)
  have hs : ((wr.alloc (.cells #[.int .i64 n, sl (wr.heap.size + 1) M M] 59)).alloc (.cells (madeCells #[.complex .f64 0 0] M) 23)).heap.size = wr.heap.size + 1 + 1 := by rw [new_size, new_size]
  have hr := World.rowIs_made (wr.alloc (.cells #[.int .i64 n, sl (wr.heap.size + 1) M M] 59)) (.complex .f64 0 0) M 23
  rw [new_size] at hr
  exact Grd.start h hu hT hw0 ((((Below.refl _ _).alloc (Nat.le_refl _) _).alloc (by simp) _).drew) (Nat.le_refl _) (by show _ < (World.alloc _ _).heap.size; omega) (by omega) (by show _ < (World.alloc _ _).heap.size; omega) (by omega) (c3 0 _) (c3 1 _)
    ((RowF.of hr).keep rfl)

theorem keepBB {w w' : World} {p : Addr} {v : Value} (h : w.cell? p = some v) (hb : Below w.heap.size w w') : w'.cell? p = some v := (hb.cell (block_lt_of_cell h)).trans h
theorem keepHH {w0 w w' : World} (h : Hid (Below w0.heap.size w0 w)) (hb : Below w.heap.size w w') : Hid (Below w0.heap.size w0 w') := h.out.trans (hb.mono h.out.size)

theorem Solve_walk {n M pb capp : Nat} {ds : List (Int × Int)} {Bk : Nat → Nat} {Gr : Nat → Int} {w : World} (hM : M = n * n) (hS : Sn w pb n ds Bk (VS n M ds Gr allC)) (h1 : 1 ≤ n) (hn4 : n ≤ 4) (hds : ds.length ≤ 64) (ht : twice ds = 0) (hG : ∀ c, -8 ≤ Gr c ∧ Gr c ≤ 8)
    (hcore : ∀ S, Core n ds S → ∀ c, c < n * n → S c = false) :
    Calls Try.prog 77 #[.agg #[.int .i64 n, .slice (some ⟨pb, 0, none⟩) ds.length capp]] w fun e w' => ∃ gb, e = .returned (.tuple #[.agg #[.int .i64 n, sl gb M M], .int .i64 0]) ∧ (∀ c, c < M → w'.cell? ⟨gb, c, none⟩ = some (.complex .f64 (fint (Gr c)) 0)) ∧ Below w.heap.size w w' := by
  have h2 : n ≤ 64 := by omega
  have hM4 : M ≤ 16 := by rw [hM]; exact Nat.mul_le_mul hn4 hn4
  have hnn : (n : Int) * (n : Int) = (M : Int) := by rw [hM]; exact (Int.natCast_mul _ _).symm
  obtain ⟨ho, _⟩ := twice_ok ht
  have HS := Lib.hid hS
  have HO := Lib.hid ho
  have HM := Lib.hid hM
  have HG := Lib.hid hG
  have HT := Lib.hid ht
  have HCo := Lib.hid hcore
  have HCk := Lib.hid (fun w (hS : Sn w pb n ds Bk (VS n M ds Gr allC)) => SCheck_walk (capp := capp) hS h1 h2 hds ht)
  have HDs := Lib.hid (fun w (hS : Sn w pb n ds Bk (VS n M ds Gr allC)) => SDirs_walk (capp := capp) hS hds ho)
  clear hS ho hM hG ht hcore
  go_enter Try.func77, Try.ntmps77
  go_wp2_with fail
  refine (HCk.out _ (HS.out.later (((Below.refl _ _).alloc (Nat.le_refl _) _).alloc (by simp) _))).mono ?_; rintro e w1 ⟨rfl, hb1⟩
  have hb2 : Below w.heap.size w w1 := (((Below.refl w.heap.size w).alloc (Nat.le_refl _) _).alloc (by simp) _).trans (hb1.mono (by simp; omega))
  have b0 := (hb1.cell (p := ⟨w.heap.size, 0, none⟩) (by simp; omega)).trans ((((Below.refl _ _).alloc (Nat.le_refl _) _).cell (by simp)).trans (new_cell w _ _ 0))
  have b1 := (hb1.cell (p := ⟨w.heap.size, 1, none⟩) (by simp; omega)).trans ((((Below.refl _ _).alloc (Nat.le_refl _) _).cell (by simp)).trans (new_cell w _ _ 1))
  simp only [List.getElem?_toArray, List.getElem?_cons_zero, List.getElem?_cons_succ] at b0 b1
  have hbz : ∀ j, w1.cell? ⟨w.heap.size + 1, j, none⟩ = #[Value.int .i64 0, Value.slice none 0 0][j]? := fun j => by
    have e1 := (hb1.cell (p := ⟨w.heap.size + 1, j, none⟩) (by simp))
    have e2 := new_cell (w.alloc (.cells #[.int .i64 n, .slice (some ⟨pb, 0, none⟩) ds.length capp] 108)) #[Value.int .i64 0, Value.slice none 0 0] 59 j
    rw [new_size] at e2
    exact e1.trans e2
  have hbf : ∀ j, w1.frozen? ⟨w.heap.size + 1, j, none⟩ = false := fun j => by
    have e1 := (hb1.frozen (p := ⟨w.heap.size + 1, j, none⟩) (by simp))
    have e2 := new_free (w.alloc (.cells #[.int .i64 n, .slice (some ⟨pb, 0, none⟩) ds.length capp] 108)) #[Value.int .i64 0, Value.slice none 0 0] 59 j
    rw [new_size] at e2
    exact e1.trans e2
  have HZf := Lib.hid hbf
  have hs1 : w.heap.size + 1 < w1.heap.size := by have := hb1.size; simp at this; omega
  have HB1 := Lib.hid hb2
  have HZ := Lib.hid hbz
  have HB0 := Lib.hid b0
  have HBb := Lib.hid b1
  clear hb1 hb2 hbz hbf
  go_upto_region 4 with fail
  have HSn1 := Lib.hid (HS.out.later HB1.out)
  have hB0 : Hid (Below w1.heap.size w1 w1) := Lib.hid (Below.refl _ _)
  have hB0d : Hid (Below w1.heap.size w1 w1.drew) := Lib.hid (Below.refl _ _).drew
  go_region_held3 (fun w' => w'.cell? ⟨w.heap.size, 0, none⟩ = some (.int .i64 n) ∧ w'.cell? ⟨w.heap.size, 1, none⟩ = some (.slice (some ⟨pb, 0, none⟩) ds.length capp) ∧ Hid (Below w1.heap.size w1 w'))
    (first
      | (refine ⟨?_, ?_, ?_⟩ <;> first
           | assumption
           | (exact keepBB (by assumption) hb)
           | (exact keepHH (by assumption) hb))
      | (go_split_ands
         refine ⟨?_, ?_, ?_⟩ <;> first
           | assumption
           | (exact keepBB (by assumption) hb)
           | (exact keepHH (by assumption) hb))
      | (go_keep; done))
    ((first | (go_simp; go_at_call 104; refine (HDs.out _ (HSn1.out.later (Hid.out (by assumption)))).mono ?_; rintro e w' ⟨A, cap, rfl, hd, hb⟩; have HBd : Hid (Below w1.heap.size w1 w') := keepHH (by assumption) hb) | (go_simp; go_at_call 78; refine (newBoard_walk n M hd HO.out HM.out h1 h2 hds).mono ?_; rintro e w5 ⟨b, o, T, sv, cv, gv, rv, C, G, l, rfl, hbr, hrd, hgd, hln⟩; have hb := hbr.below)))
  rename_i hheld
  obtain ⟨p0, p1, hp2⟩ := hheld
  have HR := Lib.hid (OpenR.start hbr hrd hgd hln hds (by omega : M ≤ 4096))
  have HDd := Lib.hid hd
  have hsz := hp2.out.size
  clear hbr hrd hgd hln hb hd b0 b1 hB0 hB0d
  have hmkR := run_make_row' (P := Try.prog) 128 37 (.slice none 0 0) 24 undRests infoRests rfl .i64 .i64 ds.length (by omega) (by omega)
  have HU0 : Hid (∀ rows box, Rst (fun x => if x = w5.heap.size then 4 else if x = w5.heap.size + 1 then 2 else 0) (w5.heap.size + 1) w5.heap.size ds.length 0 n ds (fun _ => 0) (fun _ => 0) (VS n M ds Gr allC) ((w5.alloc (.cells (madeCells #[.slice none 0 0] ds.length) rows)).alloc (.cells #[sl w5.heap.size ds.length ds.length] box))) := Lib.hid (fun rows box => by
    have c1 : ∀ j, (w5.alloc (.cells (madeCells #[.slice none 0 0] ds.length) rows)).cell? ⟨w5.heap.size, j, none⟩ = (madeCells #[Value.slice none 0 0] ds.length)[j]? := fun j => new_cell w5 _ _ j
    have c2 := fun o => (Below.refl (w5.alloc (.cells (madeCells #[.slice none 0 0] ds.length) rows)).heap.size _).alloc (Nat.le_refl _) o
    refine ⟨?_, fun j hj => ?_, fun j => ?_, fun j hj => by omega, ?_, ?_, fun j hj => by omega⟩
    · have := new_cell (w5.alloc (.cells (madeCells #[.slice none 0 0] ds.length) rows)) #[sl w5.heap.size ds.length ds.length] box 0
      rw [new_size] at this
      exact this
    · rw [if_neg (by omega)]
      refine ((c2 _).cell (by simp)).trans ((c1 j).trans ?_)
      simp [madeCells, hj, Nat.mod_one]
    · exact ((c2 _).frozen (by simp)).trans (new_free w5 _ _ j)
    · show (if w5.heap.size + 1 = w5.heap.size then 4 else if w5.heap.size + 1 = w5.heap.size + 1 then 2 else 0) = 2
      rw [if_neg (by omega), if_pos rfl]
    · exact if_pos rfl)
  have q1 : ∀ x y, ((w5.alloc x).alloc y).cell? ⟨w.heap.size, 1, none⟩ = some (.slice (some ⟨pb, 0, none⟩) ds.length capp) := fun x y => ((((Below.refl _ _).alloc (Nat.le_refl _) x).alloc (by simp) y).cell (block_lt_of_cell p1)).trans p1
  go_wp2_with fail
  go_loopw [37] (fun i wr => ∃ k : Nat, k ≤ ds.length ∧ i = .int .i64 k ∧ ∃ U Rb cp, Hid (OpenR w' b o n M (.slice A ds.length cap) ds T sv cv gv rv C G allC l wr ∧ Rst U (w5.heap.size + 1) w5.heap.size ds.length k n ds Rb cp (VS n M ds Gr allC) wr ∧ UOk U T w' wr)) (fun i _ => ds.length - (intOf i).toNat)
  case atStart =>
    refine ⟨0, Nat.zero_le _, rfl, _, _, _, Lib.hid ⟨HR.out.beyond (((Below.refl _ _).alloc (Nat.le_refl _) _).alloc (by simp) _), HU0.out _ _, fun x hx => ?_⟩⟩
    have hn0 := HR.out.brd.new
    have hbs := HR.out.brd.below.size
    rw [new_size, new_size]
    by_cases e1 : x = w5.heap.size
    · exact ⟨hn0 x (by omega), by omega, by omega⟩
    · rw [if_neg e1] at hx
      by_cases e2 : x = w5.heap.size + 1
      · exact ⟨hn0 x (by omega), by omega, by omega⟩
      · rw [if_neg e2] at hx
        exact absurd rfl hx
  case round =>
    clear HU0 hmkR HR
    obtain ⟨k, hk, rfl, U, Rb, cp, HR⟩ := hrel
    obtain ⟨hst, hrs, huo⟩ := HR.out
    have hB1 : Hid (Below w1.heap.size w1 wr) := Lib.hid (HBd.out.trans (hst.brd.below.mono HBd.out.size))
    have HBw := Lib.hid (HB1.out.trans (hB1.out.mono HB1.out.size))
    have HSr := Lib.hid (HS.out.later HBw.out)
    by_cases hk1 : k < ds.length
    · have hk1' : (k : Int) < (ds.length : Int) := by omega
      have s0 := HSr.out.d0 k hk1
      have s1 := HSr.out.d1 k hk1
      have s2 := HSr.out.d2 k hk1
      generalize (dirAt ds k).1 = dp at s0
      generalize (dirAt ds k).2 = dq at s1
      have c6 := hrs.c6
      have cr := hrs.row k hk1
      rw [if_neg (Nat.lt_irrefl k)] at cr
      have fr := hrs.frr k
      clear hst hrs huo
      go_upto_region 9 with fail
      obtain ⟨W, hW⟩ : ∃ W, W = wr.alloc (.cells #[.int .i64 dp, .int .i64 dq, sl (Bk k) (bnD n ds k) (bnD n ds k)] 61) := ⟨_, rfl⟩
      rw [← hW]
      have bl : Below wr.heap.size wr W := by rw [hW]; exact (Below.refl _ _).alloc (Nat.le_refl _) _
      have y6 := (bl.cell (block_lt_of_cell c6)).trans c6
      have yr := (bl.cell (block_lt_of_cell cr)).trans cr
      have y8 : W.cell? ⟨wr.heap.size, 2, none⟩ = some (sl (Bk k) (bnD n ds k) (bnD n ds k)) := by rw [hW]; exact new_cell wr _ _ 2
      have yn : ∀ (j : Nat) (u : Value), ((List.range (bnD n ds k)).map fun i => Value.complex .f64 (fint (VS n M ds Gr allC k i)) 0)[j]? = some u → W.drew.cell? ((⟨Bk k, 0, none⟩ : Addr).add j) = some u := fun j u hj => by
        rw [Go.WideShapes.add_plain, Nat.zero_add]
        rw [List.getElem?_map] at hj
        obtain ⟨j', hj1, rfl⟩ := Option.map_eq_some_iff.1 hj
        obtain ⟨hlt, hj2⟩ := List.getElem?_eq_some_iff.1 hj1
        rw [List.getElem_range] at hj2
        subst hj2
        have hlt' : j < bnD n ds k := by simpa using hlt
        exact (HSr.out.later bl).bin k j hk1 hlt'
      have yo : ∀ u ∈ ((List.range (bnD n ds k)).map fun i => Value.complex .f64 (fint (VS n M ds Gr allC k i)) 0), u.oneCell' = true := fun u hu => by
        obtain ⟨j', _, rfl⟩ := List.mem_map.1 hu
        rfl
      have hbp : 0 < bnD n ds k := by show 0 < _ + 1; omega
      have hb2 : bnD n ds k ≤ 2017 := binsN_le (p := (dirAt ds k).1) (q := (dirAt ds k).2) (HO.out _ (dirAt_mem hk1)) h2
      have hsw : wr.heap.size ≤ W.heap.size := bl.size
      have HNl := Lib.hid yn
      have HOl := Lib.hid yo
      have HBl := Lib.hid bl
      obtain ⟨nw, hnw⟩ : ∃ nw, nw = ((List.range (bnD n ds k)).map fun i => Value.complex .f64 (fint (VS n M ds Gr allC k i)) 0) := ⟨_, rfl⟩
      have hnl : nw.length = bnD n ds k * 1 := by rw [hnw]; simp
      rw [← hnw] at HNl HOl
      have HNw := Lib.hid hnw
      obtain ⟨i0, hi, hz⟩ := Option.map_eq_some_iff.1 infoCx
      simp only [Prod.mk.injEq] at hz
      obtain ⟨hz0, hz1, hz2⟩ := hz
      have n1 : 0 + bnD n ds k ≤ maxLen := by unfold maxLen; omega
      have n2 : (0 + bnD n ds k) * 16 ≤ 140737488355328 := by omega
      clear hW bl yn yo hnw c6 cr s0 s1 s2
      go_region_law (refine step_append_lies _ (by rfl) _ _ _ (by rfl) 0 23 i0 _ 1 16 Try.underlying37 hi hz0 hz1 hz2 rfl (by omega) (.slice none 0 0) 0 [] (by simp [Act.eval]) (World.ownsRow_nil _ _ _ _) ⟨Bk k, 0, none⟩ (bnD n ds k) (bnD n ds k) nw (by simp [Act.eval]) hnl HNl.out HOl.out hbp n1 n2 (Nat.zero_le _) W.heap.size (by rfl) ?_; intro gg cap' w9 hown9 hgrow9 hat9 hlt9; have hbl9 := below_grown (HBl.out.drew) hgrow9; have v6 := (hbl9.cell (block_lt_of_cell HR.out.2.1.c6)).trans HR.out.2.1.c6; have vr := (hbl9.cell (block_lt_of_cell (HR.out.2.1.row k hk1))).trans (HR.out.2.1.row k hk1); have vf := (hbl9.frozen (p := ⟨w5.heap.size, k, none⟩) (block_lt_of_cell (HR.out.2.1.row k hk1))).trans (HR.out.2.1.frr k); rw [if_neg (Nat.lt_irrefl k)] at vr)
      all_goals (have hgg : gg = W.heap.size := hat9.elim (fun h => by cases h) id)
      all_goals rw [Nat.zero_add, List.nil_append, HNw.out] at hown9
      all_goals (obtain ⟨hrs2, huo2⟩ := HR.out.2.1.push hk1 HR.out.2.2 (HBl.out.drew) hgrow9 hown9 hgg (fun x hx => (HR.out.1.brd.lt x hx).2) HR.out.1.brd.below.size)
      all_goals (have hru := HR.out.2.2 w5.heap.size (by rw [HR.out.2.1.ur]; decide))
      all_goals (have HX := Lib.hid (And.intro ((HR.out.1.beyond hbl9).free ⟨w5.heap.size, k, none⟩ hru.1 hru.2.1 (sl gg (bnD n ds k) cap')) (And.intro hrs2 huo2)))
      all_goals clear hown9 hgrow9 hat9 hlt9 hbl9 v6 vr vf hrs2 huo2 hru hgg hi hz0 hz1 hz2 n1 n2 y6 yr y8
      all_goals go_wp2
      all_goals go_roundw
      all_goals first | (exact ⟨k + 1, by omega, by go_num, _, _, _, HX⟩) | (simp [intOf]; omega)
    · obtain rfl : k = ds.length := by omega
      have hk2 : decide ((ds.length : Int) < (ds.length : Int)) = false := by simp
      obtain ⟨hst, hrs, huo⟩ := HR.out
      have z0 := (hB1.out.cell (p := ⟨w.heap.size, 0, none⟩) (by show w.heap.size < w1.heap.size; omega)).trans HB0.out
      have hmkC := run_make_row' (P := Try.prog) 37 23 (.complex .f64 0 0) 16 Try.underlying37 infoCx rfl .i64 .i64 M (by omega) (by omega)
      have z0a : ∀ x, (wr.alloc x).cell? ⟨w.heap.size, 0, none⟩ = some (.int .i64 n) := fun x => (((Below.refl _ _).alloc (Nat.le_refl _) x).cell (block_lt_of_cell z0)).trans z0
      have z0b : ∀ x y, ((wr.alloc x).alloc y).cell? ⟨w.heap.size, 0, none⟩ = some (.int .i64 n) := fun x y => ((((Below.refl _ _).alloc (Nat.le_refl _) x).alloc (by simp) y).cell (block_lt_of_cell z0)).trans z0
      have hwM : IntKind.i64.wrap (M : Int) = (M : Int) := by rw [IntKind.wrap_i64]; omega
      have g0 : ∀ y, ((wr.alloc (.cells #[.int .i64 0, .slice none 0 0] 59)).alloc y).cell? ⟨wr.heap.size, 0, none⟩ = some (.int .i64 0) := fun y => (((Below.refl _ _).alloc (Nat.le_refl _) y).cell (by simp)).trans (new_cell wr _ _ 0)
      have g1 : ∀ y, ((wr.alloc (.cells #[.int .i64 0, .slice none 0 0] 59)).alloc y).cell? ⟨wr.heap.size, 1, none⟩ = some (.slice none 0 0) := fun y => (((Below.refl _ _).alloc (Nat.le_refl _) y).cell (by simp)).trans (new_cell wr _ _ 1)
      have g2 : ∀ y j, ((wr.alloc (.cells #[.int .i64 0, .slice none 0 0] 59)).alloc y).frozen? ⟨wr.heap.size, j, none⟩ = false := fun y j => (((Below.refl _ _).alloc (Nat.le_refl _) y).frozen (by simp)).trans (new_free wr _ _ j)
      have g3 := fun y => g2 y 0
      have g4 := fun y => g2 y 1
      clear hst hrs huo g2
      go_upto_region 11 with fail
      go_cut [9] (fun s9 wx => ∃ t9 gb U2, s9 = .pointer (some ⟨t9, 0, none⟩) ∧ Hid (OpenR w' b o n M (.slice A ds.length cap) ds T sv cv gv rv C G allC l wx ∧ Rst U2 (w5.heap.size + 1) w5.heap.size ds.length ds.length n ds Rb cp (VS n M ds Gr allC) wx ∧ Grd U2 t9 gb n M (fun _ => .complex .f64 0 0) wx ∧ UOk U2 T w' wx))
      case first =>
        have HTl := Lib.hid (fun x (hx : T x ≠ 0) => (HR.out.1.brd.lt x hx).2)
        go_region
        all_goals (go_wp2_with fail; go_meet)
        · first
            | (obtain ⟨U2, h3, h4, h5⟩ := grid_a (M := M) HR.out.2.1 HR.out.2.2 HTl.out HR.out.1.brd.below.size
               exact ⟨_, _, U2, rfl, Lib.hid ⟨HR.out.1.beyond ((((Below.refl _ _).alloc (Nat.le_refl _) _).alloc (by simp) _).drew), h3, h4, h5⟩⟩)
            | (obtain ⟨U2, h3, h4, h5⟩ := grid_b (M := M) HR.out.2.1 HR.out.2.2 HTl.out HR.out.1.brd.below.size
               exact ⟨_, _, U2, rfl, Lib.hid ⟨HR.out.1.beyond ((((Below.refl _ _).alloc (Nat.le_refl _) _).alloc (by simp) _).drew), h3, h4, h5⟩⟩)
        · first
            | (obtain ⟨U2, h3, h4, h5⟩ := grid_a (M := M) HR.out.2.1 HR.out.2.2 HTl.out HR.out.1.brd.below.size
               exact ⟨_, _, U2, rfl, Lib.hid ⟨HR.out.1.beyond ((((Below.refl _ _).alloc (Nat.le_refl _) _).alloc (by simp) _).drew), h3, h4, h5⟩⟩)
            | (obtain ⟨U2, h3, h4, h5⟩ := grid_b (M := M) HR.out.2.1 HR.out.2.2 HTl.out HR.out.1.brd.below.size
               exact ⟨_, _, U2, rfl, Lib.hid ⟨HR.out.1.beyond ((((Below.refl _ _).alloc (Nat.le_refl _) _).alloc (by simp) _).drew), h3, h4, h5⟩⟩)
      case rest =>
        obtain ⟨t9, gb, U2, rfl, HC⟩ := hcut
        clear z0 z0a z0b hmkC g0 g1 g3 g4 HR
        have hbM : ∀ f : Nat → Nat → Nat → Nat, True := fun _ => trivial
        go_wp2_with fail
        refine (next_walk HC.out.1.brd (by have := HC.out.1.len; omega) HC.out.1.good (fun j i => by have := cnt_le (lnD n ds j) allC M i; show cnt _ _ _ _ ≤ _; omega) (fun j i => by have := sms_le (lnD n ds j) allC M i; have := Nat.mul_le_mul hM4 hM4; show sms _ _ _ _ ≤ _; omega)).mono ?_; rintro e w6 ⟨rv6, l6, T6, hn6, hf6⟩
        obtain ⟨p6, q6, v6, f6, rfl⟩ := next_form hf6
        have HN6 := Lib.hid hn6
        have HF6 := Lib.hid hf6
        clear hn6 hf6
        go_wp2_with fail
        go_loopw [10, 11, 12, 13] (fun s10 s11 s12 s13 wr => ∃ (h11 kn : Nat) (v : Int) (f : Bool), s10 = .int .i64 kn ∧ s11 = .pointer (some ⟨h11, 0, none⟩) ∧ s12 = .int .i64 v ∧ s13 = .bool f ∧ ∃ T rv S l p q, Hid (SolR w' b o n M (.slice A ds.length cap) ds U2 (w5.heap.size + 1) w5.heap.size t9 gb Rb cp Gr T sv cv gv rv C G S l h11 kn p q v f wr)) (fun _ _ _ _ wr => openAt o M wr)
        case atStart =>
          have hg0 : Grd U2 t9 gb n M (grS Gr allC) wc := { HC.out.2.2.1 with row := HC.out.2.2.1.row.congr fun i _ => by simp [grS, allC] }
          have hU6 : U2 w6.heap.size = 0 := by
            rcases Nat.eq_zero_or_pos (U2 w6.heap.size) with h0 | h0
            · exact h0
            · have h7 := (HC.out.2.2.2 _ (by omega : U2 w6.heap.size ≠ 0)).2.2
              have h8 := HN6.out.size
              omega
          have h8 := HN6.out.size
          have h9 := HC.out.1.brd.below.size
          exact ⟨w6.heap.size, 0, v6, f6, rfl, rfl, rfl, rfl, T6, rv6, allC, l6, p6, q6, Lib.hid (SolR.mk' HC.out.2.1 hg0 HC.out.2.2.2 (by rw [Nat.zero_add]; exact opn_all M) HN6.out HF6.out ((HC.out.1.next HN6.out).beyond ((Below.refl _ _).alloc (Nat.le_refl _) _))
            (fun x hx => Below.heap_alloc _ _ _ (by have h7 := (HC.out.2.2.2 x hx).2.2; omega)) (by simp) (heap_alloc_new w6 _) (HN6.out.brd.new _ (Nat.le_refl _)) hU6 (by omega))⟩
        case round =>
          clear HC HN6 HF6 hbM
          obtain ⟨h11, kn, v, f, rfl, rfl, rfl, rfl, T, rv, S, l, p, q, HQ⟩ := hrel
          cases f
          · have hl0 : l = [] := by
              rcases HQ.out.flag with ⟨h7, _⟩ | ⟨_, h7⟩
              · cases h7
              · exact h7
            subst hl0
            have hSf := HCo.out S (HQ.out.st.core HO.out HM.out)
            rw [← HM.out] at hSf
            have hknM : kn = M := by have := HQ.out.kn; have := opn_zero hSf; omega
            subst hknM
            have hB1 : Below w1.heap.size w1 wr := HBd.out.trans (HQ.out.st.brd.below.mono HBd.out.size)
            have hBw : Below w.heap.size w wr := HB1.out.trans (hB1.mono HB1.out.size)
            have t20 : wr.cell? ⟨w.heap.size + 1, 0, none⟩ = some (.int .i64 0) := (hB1.cell (p := ⟨w.heap.size + 1, 0, none⟩) hs1).trans (HZ.out 0)
            have t21 : wr.cell? ⟨w.heap.size + 1, 1, none⟩ = some (.slice none 0 0) := (hB1.cell (p := ⟨w.heap.size + 1, 1, none⟩) hs1).trans (HZ.out 1)
            have tf0 := (hB1.frozen (p := ⟨w.heap.size + 1, 0, none⟩) hs1).trans (HZf.out 0)
            have tf1 := (hB1.frozen (p := ⟨w.heap.size + 1, 1, none⟩) hs1).trans (HZf.out 1)
            have c6 := HQ.out.rst.c6
            have ca := HQ.out.grd.ca
            have cb := HQ.out.grd.cb
            have HRow := Lib.hid (fun k (hk : k < ds.length) => (HQ.out.rst.row k hk).trans (by rw [if_pos hk]))
            have HVal : Hid (∀ k i, k < ds.length → i < bnD n ds k → wr.cell? ⟨Rb k, i, none⟩ = some (.complex .f64 0 0)) := Lib.hid (fun k i hk hi => by
              have h3 := (HQ.out.rst.val k hk).cell i hi
              have h4 : VS n kn ds Gr S k i = 0 := gsm_none hSf
              rw [h4, fint_zero] at h3
              exact h3)
            have HBw2 := Lib.hid hBw
            have HSf := Lib.hid hSf
            have hgb : w.heap.size + 1 < gb := by
              have h3 := (HQ.out.uok gb (by rw [HQ.out.grd.ug]; decide)).2.1
              have h4 := HBd.out.size
              omega
            have hkk : decide ((kn : Int) < (kn : Int)) = false := by simp
            have qz : (FloatKind.f64.format.order 0 0 == some Ordering.eq) = true := by decide +kernel
            clear hB1 hBw hSf
            go_wp2_with fail
            go_loopw [108] (fun i wx => ∃ k : Nat, k ≤ ds.length ∧ i = .int .i64 k ∧ wx = wr) (fun i _ => ds.length - (intOf i).toNat)
            case atStart => exact ⟨0, Nat.zero_le _, rfl, rfl⟩
            case round =>
              obtain ⟨k, hk, rfl, rfl⟩ := hrel
              by_cases hk1 : k < ds.length
              · have hk1' : (k : Int) < (ds.length : Int) := by omega
                have cr := HRow.out k hk1
                have hbd : bnD n ds k ≤ 2017 := binsN_le (p := (dirAt ds k).1) (q := (dirAt ds k).2) (HO.out _ (dirAt_mem hk1)) h2
                go_wp2_with fail
                go_loopw [114] (fun i wx => ∃ m : Nat, m ≤ bnD n ds k ∧ i = .int .i64 m ∧ wx = wr) (fun i _ => bnD n ds k - (intOf i).toNat)
                case atStart => exact ⟨0, Nat.zero_le _, rfl, rfl⟩
                case round =>
                  obtain ⟨m, hm, rfl, rfl⟩ := hrel
                  by_cases hm1 : m < bnD n ds k
                  · have hm1' : (m : Int) < (bnD n ds k : Int) := by omega
                    have cv1 := HVal.out k m hk1 hm1
                    go_wp2
                    go_roundw
                    case measure => simp [intOf]; omega
                    case rel => exact ⟨m + 1, by omega, by go_num, trivial⟩
                  · obtain rfl : m = bnD n ds k := by omega
                    have hm2 : decide ((bnD n ds k : Int) < (bnD n ds k : Int)) = false := by simp
                    go_wp2
                    go_roundw
                    case measure => simp [intOf]; omega
                    case rel => exact ⟨k + 1, by omega, by go_num, trivial⟩
              · obtain rfl : k = ds.length := by omega
                have hk2 : decide ((ds.length : Int) < (ds.length : Int)) = false := by simp
                go_wp2
                refine bodyPost_ret (v := .tuple #[.agg #[.int .i64 n, sl gb kn kn], .int .i64 0]) (by simp [results, Try.results77, go_sem, t20, t21]) rfl ⟨gb, rfl, fun c hc => ?_, (HBw2.out.setCell (by show w.heap.size ≤ w.heap.size + 1; omega) _).setCell (by show w.heap.size ≤ w.heap.size + 1; omega) _⟩
                have hne : gb ≠ w.heap.size + 1 := by omega
                refine (World.cell?_of_block (a := ⟨gb, c, none⟩) ((Below.heap_setCell _ _ _ _ (by show gb ≠ w.heap.size + 1; exact hne)).trans (Below.heap_setCell _ _ _ _ (by show gb ≠ w.heap.size + 1; exact hne)))).trans ((HQ.out.grd.row.cell c hc).trans ?_)
                unfold grS
                rw [HSf.out c hc]
                rfl
          · obtain ⟨j, i, hpj, hqi, hj, hi, hc1, hv⟩ : ∃ j i : Nat, p = j ∧ q = i ∧ j < ds.length ∧ i < bnD n ds j ∧ cfS n M ds S j i = 1 ∧ v = (gfS n M ds S j i : Nat) := by
              rcases HQ.out.flag with ⟨_, h7⟩ | ⟨h7, _⟩
              · exact h7
              · cases h7
            obtain ⟨x, hx, hSx, hlx, hsx, hux⟩ := cnt_one hc1
            have hv2 : v = (x : Int) := by rw [hv]; show ((sms (lnD n ds j) S M i : Nat) : Int) = _; rw [hsx]
            subst hv2 hpj hqi
            have hgx : VS n M ds Gr S j i = Gr x := gsm_one hc1 hx hSx hlx
            have hblk := HQ.out.blk
            have k0 : wr.cell? ⟨h11, 0, none⟩ = some (.int .i64 j) := by simp [World.cell?, hblk]
            have k1 : wr.cell? ⟨h11, 1, none⟩ = some (.int .i64 i) := by simp [World.cell?, hblk]
            have c6 := HQ.out.rst.c6
            have cr := HQ.out.rst.row j hj
            rw [if_pos hj] at cr
            have cv1 := (HQ.out.rst.val j hj).cell i hi
            have hcv : (Value.complex .f64 (fint (VS n M ds Gr S j i)) 0) = .complex .f64 (fint (Gr x)) 0 := by rw [hgx]
            rw [hcv] at cv1
            have cg := HQ.out.grd.cb
            have hj' : (j : Int) < (ds.length : Int) := by omega
            have hi' : (i : Int) < (bnD n ds j : Int) := by omega
            have hx' : (x : Int) < (M : Int) := by omega
            obtain ⟨g, hg⟩ : ∃ g, g = fint (Gr x) := ⟨_, rfl⟩
            rw [← hg] at cv1
            have HWh := Lib.hid (fun W => Whole_small (Gr x) 0 1048576 (by have := HG.out x; omega) (by decide) (by decide) W)
            rw [fint_zero, ← hg] at HWh
            have bl : ∀ ob, Below wr.heap.size wr (wr.alloc ob) := fun ob => (Below.refl _ _).alloc (Nat.le_refl _) ob
            have ca : ∀ {pp : Addr} {u : Value}, wr.cell? pp = some u → ∀ ob, (wr.alloc ob).cell? pp = some u := fun {_ _} e ob => ((bl ob).cell (block_lt_of_cell e)).trans e
            have k0a := ca k0
            have k1a := ca k1
            have c6a := ca c6
            have cra := ca cr
            have cva := ca cv1
            have HFacts := Lib.hid (And.intro hc1 (And.intro hlx (And.intro hux hblk)))
            have HGe := Lib.hid hg
            have HCg := Lib.hid cg
            clear hc1 hlx hux hsx hblk hgx hcv hv hg ca bl cg
            go_upto_region 16 with fail
            go_region
            obtain ⟨W, hW⟩ : ∃ W, W = (wr.alloc (.cells #[.complex .f64 g 0] 23)).drew := ⟨_, rfl⟩
            rw [← hW]
            have yv : W.cell? ⟨wr.heap.size, 0, none⟩ = some (.complex .f64 g 0) := by rw [hW]; exact new_cell wr _ _ 0
            have HBW : Hid (Below wr.heap.size wr W) := Lib.hid (by rw [hW]; exact ((Below.refl _ _).alloc (Nat.le_refl _) _).drew)
            have HWl : Hid (wr.heap.size < W.heap.size) := Lib.hid (by rw [hW]; show _ < (World.alloc _ _).heap.size; simp)
            clear hW k0a k1a c6a cra cva k0 k1 c6 cr cv1
            go_wp2_with fail
            refine (HWh.out _).mono ?_; rintro e w7 ⟨rfl, hb7⟩
            have hB7 := HBW.out.trans (hb7.mono HBW.out.size)
            have yv7 := (hb7.cell (p := ⟨wr.heap.size, 0, none⟩) HWl.out).trans yv
            have yg7 := (hB7.cell (block_lt_of_cell HCg.out)).trans HCg.out
            have yr7 := (hB7.cell (block_lt_of_cell (HQ.out.grd.row.cell x hx))).trans (HQ.out.grd.row.cell x hx)
            have yf7 := (hB7.frozen (p := ⟨gb, x, none⟩) (block_lt_of_cell (HQ.out.grd.row.cell x hx))).trans (HQ.out.grd.row.free x)
            have HB7 := Lib.hid hB7
            have HYv := Lib.hid yv7
            clear hb7 hB7 yv
            have hkM : kn ≤ M := by have := HQ.out.kn; omega
            go_wp2_with fail
            rw [HGe.out] at HYv ⊢
            have hlw : w'.heap.size ≤ wr.heap.size := HQ.out.st.brd.below.size
            have hgbu := HQ.out.uok gb (by rw [HQ.out.grd.ug]; decide)
            have hO8 := (HQ.out.st.beyond HB7.out).free ⟨gb, x, none⟩ hgbu.1 hgbu.2.1 (.complex .f64 (fint (Gr x)) 0)
            have hSJ := SJ.start HQ.out.rst HQ.out.grd HQ.out.uok HB7.out hx HYv.out
            have hTv : T wr.heap.size = 0 := HQ.out.st.brd.new _ (Nat.le_refl _)
            have hUv : U2 wr.heap.size = 0 := by
              rcases Nat.eq_zero_or_pos (U2 wr.heap.size) with h0 | h0
              · exact h0
              · have := (HQ.out.uok _ (by omega : U2 wr.heap.size ≠ 0)).2.2; omega
            obtain ⟨W8, hW8⟩ : ∃ W8, W8 = w7.setCell ⟨gb, x, none⟩ (.complex .f64 (fint (Gr x)) 0) := ⟨_, rfl⟩
            rw [← hW8] at hO8 hSJ ⊢
            have hs8 : wr.heap.size < W8.heap.size := by
              have := HB7.out.size
              have h7 := block_lt_of_cell HYv.out
              rw [hW8]
              simp only [World.setCell, Array.size_modify]
              exact h7
            have hfr8 : ∀ y, y < wr.heap.size → y ≠ gb → W8.heap[y]? = wr.heap[y]? := fun y hy hne => by
              rw [hW8]
              exact (Below.heap_setCell _ _ _ _ hne).trans (HB7.out.block y hy)
            have HO8 := Lib.hid hO8
            have HSJ := Lib.hid hSJ
            have HTv := Lib.hid hTv
            have HUv := Lib.hid hUv
            have HF8 := Lib.hid hfr8
            have HS8 := Lib.hid hs8
            clear hO8 hSJ hTv hUv hW8 hs8 hfr8 hlw hgbu
            refine (shut_walk (cf' := cfS n M ds (shutC S x)) (gf' := gfS n M ds (shutC S x)) HO8.out.brd HDd.out HO.out HM.out h1 h2 hds x hx (by have := HO8.out.len; omega) HO8.out.good HO8.out.rdy (fun j i => by have := cnt_le (lnD n ds j) S M i; show cnt _ _ _ _ ≤ _; omega) (fun j i => by have := sms_le (lnD n ds j) S M i; have := Nat.mul_le_mul hM4 hM4; show sms _ _ _ _ ≤ _; omega)
              (fun j i _ => cnt_shut hSx i hx) (fun j i _ => sms_shut hSx i hx) 106 #[.pointer (some ⟨w5.heap.size + 1, 0, none⟩), .pointer (some ⟨wr.heap.size, 0, none⟩)] Solve1_call (fun y => U2 y ≠ 0 ∨ y = wr.heap.size) (SJ U2 (w5.heap.size + 1) w5.heap.size t9 gb wr.heap.size n M ds Rb cp (VS n M ds Gr (shutC S x)) (VS n M ds Gr S) (grS Gr (shutC S x)) (Gr x))
              (fun y hy => by
                have h8 := HS8.out
                have h9 := HQ.out.st.brd.below.size
                rcases hy with hy | rfl
                · obtain ⟨a1, a2, a3⟩ := HQ.out.uok y hy
                  exact ⟨a2, a1, by omega⟩
                · exact ⟨h9, HTv.out, h8⟩) HSJ.out (fun k a d hj he => hj.keep he) (fun k a hk hj _ => hj.step hk hx hSx HM.out hM4 HO.out HG.out HUv.out)).mono ?_; rintro e w8 ⟨rfl, rv8, l8, T8, hsh⟩
            have hO9 := HO8.out.shut hsh HO.out HM.out hds hx hSx hj HFacts.out.2.1 HFacts.out.2.2.1
            have hlt11 : h11 < wr.heap.size := by
              have h3 := HFacts.out.2.2.2
              rcases Nat.lt_or_ge h11 wr.heap.size with h7 | h7
              · exact h7
              · rw [Array.getElem?_eq_none h7] at h3; cases h3
            have hgb11 : h11 ≠ gb := fun e => by have h3 := HQ.out.utag; rw [e, HQ.out.grd.ug] at h3; omega
            have hb8 : w8.heap[h11]? = some (.cells #[.int .i64 j, .int .i64 i] 113 (0, 0)) := ((hsh.frame h11 (by have := HS8.out; omega) HQ.out.tag (fun h3 => by
              rcases h3 with h3 | h3
              · exact h3 HQ.out.utag
              · omega)).trans (HF8.out h11 hlt11 hgb11)).trans HFacts.out.2.2.2
            have z0 : w8.cell? ⟨h11, 0, none⟩ = some (.int .i64 j) := by simp [World.cell?, hb8]
            have z1 : w8.cell? ⟨h11, 1, none⟩ = some (.int .i64 i) := by simp [World.cell?, hb8]
            have hR9 : Rst U2 (w5.heap.size + 1) w5.heap.size ds.length ds.length n ds Rb cp (VS n M ds Gr (shutC S x)) w8 := hsh.inv.rst.as (fun j i hj => by unfold mixV; rw [if_pos hj])
            have hG9 := hsh.inv.grd
            have hU9 : UOk U2 T8 w' w8 := fun y hy => by
              obtain ⟨a1, a2, a3⟩ := HQ.out.uok y hy
              have h8 := HS8.out
              exact ⟨(hsh.tags y (by omega)).trans a1, a2, hsh.inv.lt y hy⟩
            have hs9 : wr.heap.size < w8.heap.size := by have := hsh.size; have := HS8.out; omega
            have HO9 := Lib.hid hO9
            have HR9 := Lib.hid hR9
            have HG9 := Lib.hid hG9
            have HU9 := Lib.hid hU9
            have HS9 := Lib.hid hs9
            clear hO9 hsh hb8 hR9 hG9 hU9 hs9 hlt11 hgb11
            go_wp2_with fail
            have bl9 : Below w8.heap.size w8 (w8.alloc (.cells #[.int .i64 j, .int .i64 i] 113)) := (Below.refl _ _).alloc (Nat.le_refl _) _
            have HO10 := Lib.hid (HO9.out.beyond bl9)
            refine (next_walk HO10.out.brd (by have := HO10.out.len; omega) HO10.out.good (fun j i => by have := cnt_le (lnD n ds j) (shutC S x) M i; show cnt _ _ _ _ ≤ _; omega) (fun j i => by have := sms_le (lnD n ds j) (shutC S x) M i; have := Nat.mul_le_mul hM4 hM4; show sms _ _ _ _ ≤ _; omega)).mono ?_; rintro e w9 ⟨rv9, l9, T9, hn9, hf9⟩
            obtain ⟨p9, q9, v9, f9, rfl⟩ := next_form hf9
            have hsa : (w8.alloc (.cells #[.int .i64 j, .int .i64 i] 113)).heap.size = w8.heap.size + 1 := by simp
            have ht8 : T8 w8.heap.size = 0 := HO9.out.brd.new _ (Nat.le_refl _)
            have hb9 : w9.heap[w8.heap.size]? = some (.cells #[.int .i64 j, .int .i64 i] 113 (0, 0)) := (hn9.frame _ (by rw [hsa]; omega) ht8).trans (heap_alloc_new w8 _)
            have x0 : w9.cell? ⟨w8.heap.size, 0, none⟩ = some (.int .i64 j) := by simp [World.cell?, hb9]
            have x1 : w9.cell? ⟨w8.heap.size, 1, none⟩ = some (.int .i64 i) := by simp [World.cell?, hb9]
            have xf0 : w9.frozen? ⟨w8.heap.size, 0, none⟩ = false := by simp [World.frozen?, hb9]
            have xf1 : w9.frozen? ⟨w8.heap.size, 1, none⟩ = false := by simp [World.frozen?, hb9]
            have ht9 : T9 w8.heap.size = 0 := (hn9.tags _ (by rw [hsa]; omega)).trans ht8
            have hU8 : U2 w8.heap.size = 0 := by
              rcases Nat.eq_zero_or_pos (U2 w8.heap.size) with h0 | h0
              · exact h0
              · have := (HU9.out _ (by omega : U2 w8.heap.size ≠ 0)).2.2; omega
            have hlw8 : w'.heap.size ≤ w8.heap.size := HO9.out.brd.below.size
            have hblk10 : ((w9.setCell ⟨w8.heap.size, 0, none⟩ (.int .i64 p9)).setCell ⟨w8.heap.size, 1, none⟩ (.int .i64 q9)).heap[w8.heap.size]? = some (.cells #[.int .i64 p9, .int .i64 q9] 113 (0, 0)) := by
              simp [World.setCell, Array.getElem?_modify, hb9]
            have hSol := SolR.mk' (h11 := w8.heap.size) (kn := kn + 1) (wx := (w9.setCell ⟨w8.heap.size, 0, none⟩ (.int .i64 p9)).setCell ⟨w8.heap.size, 1, none⟩ (.int .i64 q9)) (HR9.out.keep fun y hy => bl9.block y (HU9.out y hy).2.2) (HG9.out.keep fun y hy => bl9.block y (HU9.out y hy).2.2) (fun y hy => ⟨(HU9.out y hy).1, (HU9.out y hy).2.1, by rw [hsa]; have := (HU9.out y hy).2.2; omega⟩)
              (by have := opn_shut hSx hx; have := HQ.out.kn; omega) hn9 hf9 (((HO10.out.next hn9).free ⟨w8.heap.size, 0, none⟩ ht9 hlw8 (.int .i64 p9)).free ⟨w8.heap.size, 1, none⟩ ht9 hlw8 (.int .i64 q9))
              (fun y hy => by
                have hne : y ≠ w8.heap.size := fun e => hy (by rw [e]; exact hU8)
                rw [Below.heap_setCell _ _ _ _ (by show y ≠ w8.heap.size; exact hne), Below.heap_setCell _ _ _ _ (by show y ≠ w8.heap.size; exact hne)]) (by simp [World.setCell]) hblk10 ht9 hU8 hlw8
            have HSol := Lib.hid hSol
            have HOr := Lib.hid hn9.brd.opn
            clear hn9 hf9 hb9 ht8 ht9 hU8 hlw8 hblk10 hSol bl9 hsa
            go_wp2
            go_roundw
            case measure =>
              rw [openAt_of HQ.out.st.brd.opn, openAt_of HSol.out.st.brd.opn]
              have := opn_shut hSx hx
              omega
            case rel => exact ⟨_, kn + 1, v9, f9, by go_num, rfl, rfl, rfl, T9, rv9, shutC S x, l9, p9, q9, HSol⟩
end Go.Proofs.Ytoeeceemoggffaa
