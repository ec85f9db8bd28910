/- start of the reference's layer 14: the board of a grid all of whose cells are open. -/
import Derived.Test.YtoeeceemoggffaaJc
namespace Go.Proofs.Ytoeeceemoggffaa
open Go.RowKit Go.Lib
set_option maxHeartbeats 3200000
set_option maxRecDepth 100000

abbrev yfS (n M : Nat) (ds : List (Int × Int)) (S : Nat → Bool) : Nat → Nat := fun j => ones (cfS n M ds S j) (bnD n ds j)

theorem Brf.begin (w : World) (n M : Nat) (dv : Value) (bn : Nat → Nat) (cf : Nat → Nat → Nat) (yf : Nat → Nat) :
    Brf w (fun x => if x = w.heap.size + 1 then 1 else if x = w.heap.size then 2 else 0) (w.heap.size + 1) w.heap.size n M dv bn (.slice none 0 0) (.slice none 0 0) (.slice none 0 0) (fun _ => 0) (fun _ => 0) 0 0 0 (fun i => decide (i < 0)) cf yf
      ((w.alloc (.cells (madeCells #[.bool false] M) 4)).alloc (.cells #[.int .i64 n, sl w.heap.size M M, .slice none 0 0, .slice none 0 0, .slice none 0 0, dv] 130)) := by
  have h1 : ∀ j, ((w.alloc (.cells (madeCells #[.bool false] M) 4)).alloc (.cells #[.int .i64 n, sl w.heap.size M M, .slice none 0 0, .slice none 0 0, .slice none 0 0, dv] 130)).cell? ⟨w.heap.size + 1, j, none⟩ = #[.int .i64 n, sl w.heap.size M M, .slice none 0 0, .slice none 0 0, .slice none 0 0, dv][j]? := fun j => by
    have := new_cell (w.alloc (.cells (madeCells #[.bool false] M) 4)) #[.int .i64 n, sl w.heap.size M M, .slice none 0 0, .slice none 0 0, .slice none 0 0, dv] 130 j
    rw [new_size] at this
    exact this
  refine ⟨((Below.refl _ _).alloc (Nat.le_refl _) _).alloc (by simp) _, fun x hx => ?_, ⟨h1 0, h1 1, h1 2, h1 3, h1 4, h1 5, fun j => ?_⟩, World.ownsRow_nil _ _ _ _, World.ownsRow_nil _ _ _ _, World.ownsRow_nil _ _ _ _, ?_,
    fun j hj => by omega, fun j hj => by omega, if_pos rfl, ?_, fun g e => (by cases e), fun g e => (by cases e), fun g e => (by cases e), fun j hj => by omega, fun j hj => by omega⟩
  · rw [new_size, new_size]
    by_cases e1 : x = w.heap.size + 1
    · omega
    · rw [if_neg e1] at hx
      by_cases e2 : x = w.heap.size
      · omega
      · rw [if_neg e2] at hx
        exact absurd rfl hx
  · have := new_free (w.alloc (.cells (madeCells #[.bool false] M) 4)) #[.int .i64 n, sl w.heap.size M M, .slice none 0 0, .slice none 0 0, .slice none 0 0, dv] 130 j
    rw [new_size] at this
    exact this
  · exact ((World.rowIs_made w _ M _).alloc _).congr fun i _ => by simp
  · show (if w.heap.size = w.heap.size + 1 then 1 else if w.heap.size = w.heap.size then 2 else 0) = 2
    rw [if_neg (by omega), if_pos rfl]

theorem start_walk {A : Option Addr} {capd : Nat} {ds : List (Int × Int)} {w : World} (n M : Nat) (hD : Dirs w A ds) (ho : ∀ d ∈ ds, okD d = true) (hM : M = n * n) (h1 : 1 ≤ n) (h2 : n ≤ 64) (hds : ds.length ≤ 64) :
    Calls Try.prog 83 #[.int .i64 n, .slice A ds.length capd] w fun e w' => ∃ b o T rv cv yv C G, e = .returned (.pointer (some ⟨b, 0, none⟩)) ∧
      Brf w T b o n M (.slice A ds.length capd) (bnD n ds) rv cv yv C G ds.length ds.length ds.length allC (cfS n M ds allC) (yfS n M ds allC) w' := by
  have HD := Lib.hid hD
  have HO := Lib.hid ho
  have HM := Lib.hid hM
  have hM4 : M ≤ 4096 := by rw [hM]; exact Nat.mul_le_mul h2 h2
  have hnn : (n : Int) * (n : Int) = (M : Int) := by rw [hM]; exact (Int.natCast_mul _ _).symm
  have hmkB := run_make_row' (P := Try.prog) 68 4 (.bool false) 1 und68 infoBool rfl .i64 .i64 M (by omega) (by omega)
  have HS := Lib.hid (Brf.begin w n M (.slice A ds.length capd) (bnD n ds) (cfS n M ds allC) (yfS n M ds allC))
  clear hD ho hM
  go_enter Try.func83, Try.ntmps83
  go_wp2_with fail
  go_loopw [6] (fun i wx => ∃ m : Nat, m ≤ M ∧ i = .int .i64 m ∧ Hid (Brf w (fun x => if x = w.heap.size + 1 then 1 else if x = w.heap.size then 2 else 0) (w.heap.size + 1) w.heap.size n M (.slice A ds.length capd) (bnD n ds) (.slice none 0 0) (.slice none 0 0) (.slice none 0 0) (fun _ => 0) (fun _ => 0) 0 0 0 (fun i => decide (i < m)) (cfS n M ds allC) (yfS n M ds allC) wx)) (fun i _ => M - (intOf i).toNat)
  case atStart => exact ⟨0, Nat.zero_le _, rfl, HS⟩
  case round =>
    clear HS hmkB
    obtain ⟨m, hm, rfl, HL⟩ := hrel
    have a1 := HL.out.str.c1
    by_cases hm1 : m < M
    · have hm1' : (m : Int) < (M : Int) := by omega
      have oc := HL.out.opn.cell hm1
      have of := HL.out.opn.frozen m
      go_wp2_with fail
      go_roundw
      case measure => simp [intOf]; omega
      case rel =>
        refine ⟨m + 1, by omega, by go_num, Lib.hid ((HL.out.setO m true).asS (fun i _ => ?_))⟩
        by_cases e : i = m
        · subst e; simp
        · simp only [if_neg e]
          by_cases e2 : i < m
          · rw [decide_eq_true e2, decide_eq_true (by omega)]
          · rw [decide_eq_false e2, decide_eq_false (by omega)]
    · obtain rfl : m = M := by omega
      have hm2 : decide ((m : Int) < (m : Int)) = false := by simp
      have HB := Lib.hid (HL.out.asS (S' := allC) (fun i hi => by rw [decide_eq_true hi]; rfl))
      clear HL
      go_wp2_with fail
      go_loopw [7] (fun i wr => ∃ k : Nat, k ≤ ds.length ∧ i = .int .i64 k ∧ ∃ T rv cv yv C G, Hid (Brf w T (w.heap.size + 1) w.heap.size n m (.slice A ds.length capd) (bnD n ds) rv cv yv C G k k k allC (cfS n m ds allC) (yfS n m ds allC) wr)) (fun i _ => ds.length - (intOf i).toNat)
      case atStart => exact ⟨0, Nat.zero_le _, rfl, _, _, _, _, _, _, HB⟩
      case round =>
        clear HB
        obtain ⟨k, hk, rfl, T, rv, cv, yv, C, G, HR⟩ := hrel
        by_cases hk1 : k < ds.length
        · have hk1' : (k : Int) < (ds.length : Int) := by omega
          have hok := HO.out _ (dirAt_mem hk1)
          have hDr := HD.out.later HR.out.below
          obtain ⟨p, q, db, off, hg, hp, hq, rfl, hlt, d0, d1⟩ := hDr.get hk1
          have hdk : dirAt ds k = (p, q) := Option.some.inj ((dirAt_get hk1).symm.trans hg)
          rw [hdk] at hok
          have B := Lib.hid (fun w => rBins_walk n p q w h1 h2 hok)
          obtain ⟨bk, hbk⟩ : ∃ bk, bk = bnD n ds k := ⟨_, rfl⟩
          have hbk' : binsN n (p, q) = bk := by rw [hbk]; show binsN n (p, q) = binsN n (dirAt ds k); rw [hdk]
          have hbk2 : bk ≤ 2017 := by rw [← hbk']; exact binsN_le hok h2
          rw [hbk'] at B
          have HBK := Lib.hid hbk
          have hmkI := run_make_row' (P := Try.prog) 118 3 (.int .i64 0) 8 und118 infoInt rfl .i64 .i64 bk (by omega) (by omega)
          clear hDr hok hg hp hq hlt hdk hbk hbk' a1
          go_wp2_with fail
          refine (B.out _).mono ?_; rintro e w1 ⟨rfl, hb1⟩
          have HB1 := Lib.hid (HR.out.beyond hb1)
          clear hb1 d0 d1
          go_wp2_with fail
          have HC0 : Hid (Brf w T (w.heap.size + 1) w.heap.size n m (.slice (some ⟨db, off, none⟩) ds.length capd) (bnD n ds) rv cv yv C G k k k allC (cfS n m ds allC) (yfS n m ds allC) (w1.alloc (.cells (madeCells #[.int .i64 0] bk) 3)) ∧ (w1.alloc (.cells (madeCells #[.int .i64 0] bk) 3)).rowIs w1.heap.size 3 bk (fun i => .int .i64 (cnt (lnD n ds k) allC 0 i : Nat))) :=
            Lib.hid ⟨HB1.out.alloc _, World.rowIs_made w1 (.int .i64 0) bk 3⟩
          have HTn := Lib.hid (HB1.out.new _ (Nat.le_refl _))
          have HLn := Lib.hid HB1.out.below.size
          obtain ⟨H, hH⟩ : ∃ H, H = w1.heap.size := ⟨_, rfl⟩
          rw [← hH] at HC0 HTn HLn ⊢
          clear hH HB1 HR hmkI
          go_loopw [11] (fun i wx => ∃ c : Nat, c ≤ m ∧ i = .int .i64 c ∧ Hid (Brf w T (w.heap.size + 1) w.heap.size n m (.slice (some ⟨db, off, none⟩) ds.length capd) (bnD n ds) rv cv yv C G k k k allC (cfS n m ds allC) (yfS n m ds allC) wx ∧ wx.rowIs H 3 bk (fun i => .int .i64 (cnt (lnD n ds k) allC c i : Nat)))) (fun i _ => m - (intOf i).toNat)
          case atStart => exact ⟨0, Nat.zero_le _, rfl, HC0⟩
          case round =>
            clear HC0
            obtain ⟨c, hc, rfl, HQ⟩ := hrel
            by_cases hc1 : c < m
            · have hc1' : (c : Int) < (m : Int) := by omega
              have HLw := Lib.hid (HQ.out.1.line HD.out HO.out HM.out h1 h2 k c hk1 hc1)
              have hLb : lnD n ds k c < bk := by rw [HBK.out]; exact lineN_lt (n := n) (p := (dirAt ds k).1) (q := (dirAt ds k).2) HM.out (HO.out _ (dirAt_mem hk1)) hc1
              obtain ⟨L, hL⟩ : ∃ L, L = lnD n ds k c := ⟨_, rfl⟩
              rw [← hL] at HLw hLb
              have HLe := Lib.hid hL
              have hLb' : (L : Int) < (bk : Int) := by omega
              clear hL
              go_wp2_with fail
              refine (HLw.out).mono ?_; rintro e w2 ⟨rfl, hb2⟩
              have hrow := HQ.out.2.of_block (hb2.block H HQ.out.2.lt)
              have x0 := hrow.cell hLb
              have x1 := hrow.frozen L
              have hu2 : cnt (lnD n ds k) allC c L ≤ c := cnt_le _ _ _ _
              obtain ⟨u, hu⟩ : ∃ u, u = cnt (lnD n ds k) allC c L := ⟨_, rfl⟩
              rw [← hu] at x0 hu2
              have HU := Lib.hid hu
              have HRow := Lib.hid hrow
              have HBr := Lib.hid (HQ.out.1.beyond hb2)
              clear hrow hu hb2
              go_wp2_with fail
              go_roundw
              case measure => simp [intOf]; omega
              case rel =>
                refine ⟨c + 1, by omega, by go_num, Lib.hid ⟨HBr.out.free _ HTn.out HLn.out _, ?_⟩⟩
                have h9 := (HRow.out.set L (.int .i64 ((u : Int) + 1))).congr (g := fun i => .int .i64 (cnt (lnD n ds k) allC (c + 1) i : Nat)) fun i _ => by
                  show _ = Value.int .i64 ((cnt (lnD n ds k) allC c i + (if allC c = true ∧ lnD n ds k c = i then 1 else 0) : Nat) : Int)
                  by_cases e : i = L
                  · subst e
                    rw [if_pos rfl, if_pos ⟨rfl, HLe.out.symm⟩, ← HU.out]
                    simp
                  · rw [if_neg e, if_neg (fun h => e (by rw [← h.2]; exact HLe.out.symm))]
                    simp
                exact h9
            · obtain rfl : c = m := by omega
              have hc2 : decide ((c : Int) < (c : Int)) = false := by simp
              generalize hW3 : wr = W3 at *
              clear hW3
              have hones : ∀ q, ones (cfS n c ds allC k) q ≤ q := fun q => ones_le _ q
              have hyk : yfS n c ds allC k = ones (cfS n c ds allC k) bk := by rw [HBK.out]
              obtain ⟨f, hfe⟩ : ∃ f, f = cfS n c ds allC k := ⟨_, rfl⟩
              rw [← hfe] at hones hyk
              have HBr := Lib.hid HQ.out.1
              have HRow : Hid (W3.rowIs H 3 bk (fun i => .int .i64 (f i : Nat))) := Lib.hid (by rw [hfe]; exact HQ.out.2)
              have HFe := Lib.hid hfe
              have HOn := Lib.hid hones
              have HYk := Lib.hid hyk
              have hf4 : Hid (∀ i, f i ≤ 4096) := Lib.hid (fun i => by rw [hfe]; have := cnt_le (lnD n ds k) allC c i; show cnt _ _ _ _ ≤ _; omega)
              clear HQ hones hyk hfe
              go_wp2_with fail
              go_loopw [12, 13] (fun y i wy => ∃ q : Nat, q ≤ bk ∧ i = .int .i64 q ∧ y = .int .i64 (ones f q : Nat) ∧ wy = W3) (fun _ i _ => bk - (intOf i).toNat)
              case atStart => exact ⟨0, Nat.zero_le _, rfl, rfl, rfl⟩
              case round =>
                obtain ⟨q, hq, rfl, rfl, rfl⟩ := hrel
                by_cases hq1 : q < bk
                · have hq1' : (q : Int) < (bk : Int) := by omega
                  have x0 := HRow.out.cell hq1
                  have hv4 := hf4.out q
                  have hon := HOn.out q
                  have hst : ones f (q + 1) = ones f q + (if f q = 1 then 1 else 0) := rfl
                  obtain ⟨v, hv⟩ : ∃ v, v = f q := ⟨_, rfl⟩
                  obtain ⟨y, hy⟩ : ∃ y, y = ones f q := ⟨_, rfl⟩
                  rw [← hv] at x0 hv4 hst
                  rw [← hy] at hon hst ⊢
                  by_cases h9 : v = 1
                  · have h9' : (v : Int) = 1 := by omega
                    rw [if_pos h9] at hst
                    have HSt := Lib.hid hst
                    clear hst hv hy
                    go_wp2
                    go_roundw
                    case measure => simp [intOf]; omega
                    case rel => exact ⟨q + 1, by omega, by go_num, by rw [HSt.out]; go_num, trivial⟩
                  · have h9' : ((v : Int) == 1) = false := by
                      have : (v : Int) ≠ 1 := by omega
                      simpa using this
                    rw [if_neg h9, Nat.add_zero] at hst
                    have HSt := Lib.hid hst
                    clear hst hv hy
                    go_wp2
                    go_roundw
                    case measure => simp [intOf]; omega
                    case rel => exact ⟨q + 1, by omega, by go_num, by rw [HSt.out]; simp, trivial⟩
                · obtain rfl : q = bk := by omega
                  have hq2 : decide ((q : Int) < (q : Int)) = false := by simp
                  have hyq := HOn.out q
                  obtain ⟨y, hy⟩ : ∃ y, y = ones f q := ⟨_, rfl⟩
                  rw [← hy] at hyq ⊢
                  have HYe : Hid (y = yfS n c ds allC k) := Lib.hid (by rw [HYk.out, hy])
                  have hHl := HRow.out.lt
                  have HRt := Lib.hid (HBr.out.retag (10 + 2 * k) HTn.out HLn.out hHl)
                  have s3 := HRt.out.str.c3
                  obtain ⟨i0, hi, hz⟩ := Option.map_eq_some_iff.1 infoInts
                  simp only [Prod.mk.injEq] at hz
                  obtain ⟨hz0, hz1, hz2⟩ := hz
                  have n1 : k + 1 ≤ maxLen := by unfold maxLen; omega
                  have n2 : (k + 1) * 24 ≤ 140737488355328 := by omega
                  clear hy HYk hf4 HBr hHl
                  go_wp2_with (at_builtin; refine wpList_append_lies _ (by rfl) (.tmp 84) (.tmp 86) _ (by rfl) 0 118 i0 _ 1 24 und119 hi hz0 hz1 hz2 rfl (by omega) cv k (rowsV C (bnD n ds) k) (by rfl) (HRt.out.own_c.alloc _) ⟨wr.heap.size, 0, none⟩ 1 1 [sl H q q] (by rfl) (by rfl) (one_new wr _ _) (by intro u hu; simp at hu; rcases hu with rfl; rfl) (by omega) n1 n2 (Nat.zero_le _) (wr.heap.size + 1) (by simp) ?c6)
                  case c6 =>
                    intro g7 cap7 w7 hown7 hgrow7 hat7 hlt7
                    have hbl := ((Below.refl wr.heap.size wr).alloc (Nat.le_refl _) (.cells #[sl H q q] 118))
                    have st7 := HRt.out.str_far hbl hgrow7 HRt.out.tc (by omega)
                    have t3 := st7.c3
                    have t3f := st7.fz 3
                    have hrq := HRow.out
                    rw [HBK.out] at hown7 hrq hgrow7 hbl
                    have hb7 := HRt.out.push_c hbl hrq (if_pos rfl) hgrow7 hown7 (by simpa using hat7)
                    rw [← HBK.out] at hgrow7 hbl
                    obtain ⟨T8, C8, HB7⟩ : ∃ T8 C8, Hid (Brf w T8 (w.heap.size + 1) w.heap.size n c (.slice (some ⟨db, off, none⟩) ds.length capd) (bnD n ds) rv (sl g7 (k + 1) cap7) yv C8 G k (k + 1) k allC (cfS n c ds allC) (yfS n c ds allC) (w7.setCell ⟨w.heap.size + 1, 3, none⟩ (sl g7 (k + 1) cap7))) := ⟨_, _, Lib.hid (hb7.as (cf1 := cfS n c ds allC) (yf1 := yfS n c ds allC) (fun j i hj _ => by
                      by_cases e : j = k
                      · rw [if_pos e, HFe.out, e]
                      · rw [if_neg e]) (fun _ _ => rfl))⟩
                    clear st7 hown7 hgrow7 hat7 hlt7 hbl hb7 s3 hi hz0 hz1 hz2 n1 n2 hrq
                    go_upto_region 22 with fail
                    obtain ⟨W8, hW8⟩ : ∃ W8, W8 = w7.setCell ⟨w.heap.size + 1, 3, none⟩ (sl g7 (k + 1) cap7) := ⟨_, rfl⟩
                    rw [← hW8] at HB7 ⊢
                    clear hW8 t3 t3f HRow HOn HFe HRt HTn HLn
                    have s4 := HB7.out.str.c4
                    obtain ⟨i0, hi, hz⟩ := Option.map_eq_some_iff.1 infoInt
                    simp only [Prod.mk.injEq] at hz
                    obtain ⟨hz0, hz1, hz2⟩ := hz
                    have n1 : k + 1 ≤ maxLen := by unfold maxLen; omega
                    have n2 : (k + 1) * 8 ≤ 140737488355328 := by omega
                    go_wp2_with (at_builtin; refine wpList_append_lies _ (by rfl) (.tmp 94) (.tmp 96) _ (by rfl) 0 3 i0 _ 1 8 und118 hi hz0 hz1 hz2 rfl (by omega) yv k (starts (yfS n c ds allC) k) (by rfl) (HB7.out.own_y.alloc _) ⟨W8.heap.size, 0, none⟩ 1 1 [.int .i64 y] (by rfl) (by rfl) (one_new W8 _ _) (by simp [Value.oneCell']) (by omega) n1 n2 (Nat.zero_le _) (W8.heap.size + 1) (by simp) ?c7)
                    case c7 =>
                      intro g8 cap8 w8 hown8 hgrow8 hat8 hlt8
                      have hbl := ((Below.refl W8.heap.size W8).alloc (Nat.le_refl _) (.cells #[.int .i64 y] 3))
                      have st8 := HB7.out.str_far hbl hgrow8 HB7.out.ty (by omega)
                      have t4 := st8.c4
                      have t4f := st8.fz 4
                      rw [HYe.out] at hown8 hgrow8 hbl
                      have hb8 := HB7.out.push_y hbl hgrow8 hown8 (by simpa using hat8)
                      obtain ⟨T9, HB8⟩ : ∃ T9, Hid (Brf w T9 (w.heap.size + 1) w.heap.size n c (.slice (some ⟨db, off, none⟩) ds.length capd) (bnD n ds) rv (sl g7 (k + 1) cap7) (sl g8 (k + 1) cap8) C8 G k (k + 1) (k + 1) allC (cfS n c ds allC) (yfS n c ds allC) (w8.setCell ⟨w.heap.size + 1, 4, none⟩ (sl g8 (k + 1) cap8))) := ⟨_, Lib.hid hb8⟩
                      clear st8 hown8 hgrow8 hat8 hlt8 hbl hb8 s4 hi hz0 hz1 hz2 n1 n2
                      go_upto_region 23 with fail
                      obtain ⟨W9, hW9⟩ : ∃ W9, W9 = w8.setCell ⟨w.heap.size + 1, 4, none⟩ (sl g8 (k + 1) cap8) := ⟨_, rfl⟩
                      rw [← hW9] at HB8 ⊢
                      clear hW9 t4 t4f HB7
                      have hmkC := run_make_row' (P := Try.prog) 37 23 (.complex .f64 0 0) 16 Try.underlying37 infoCx rfl .i64 .i64 q (by omega) (by omega)
                      obtain ⟨i0, hi, hz⟩ := Option.map_eq_some_iff.1 infoRests
                      simp only [Prod.mk.injEq] at hz
                      obtain ⟨hz0, hz1, hz2⟩ := hz
                      have n1 : k + 1 ≤ maxLen := by unfold maxLen; omega
                      have n2 : (k + 1) * 24 ≤ 140737488355328 := by omega
                      have f2 : W9.cell? ⟨w.heap.size + 1, 2, none⟩ = some rv := HB8.out.str.c2
                      have f2a : ∀ x, (W9.alloc x).cell? ⟨w.heap.size + 1, 2, none⟩ = some rv := fun x => (HB8.out.alloc x).str.c2
                      have f2b : ∀ x y, ((W9.alloc x).alloc y).cell? ⟨w.heap.size + 1, 2, none⟩ = some rv := fun x y => ((HB8.out.alloc x).alloc y).str.c2
                      have hb9 := (HB8.out.alloc (.cells (madeCells #[.complex .f64 0 0] q) 23)).retag (11 + 2 * k) (HB8.out.new _ (Nat.le_refl _)) HB8.out.below.size (by simp)
                      have HB9 := Lib.hid hb9
                      have HA := Lib.hid (fun x => (((Below.refl (W9.alloc (.cells (madeCells #[.complex .f64 0 0] q) 23)).heap.size (W9.alloc (.cells (madeCells #[.complex .f64 0 0] q) 23))).alloc (Nat.le_refl _) x).drew))
                      have HN := Lib.hid (fun x v => one_new (W9.alloc x) 37 v)
                      have HRm := Lib.hid (World.rowIs_made W9 (.complex .f64 0 0) q 23)
                      clear hb9
                      go_region_law (refine step_append_lies _ (by rfl) _ _ _ (by rfl) 0 37 i0 _ 1 24 undRests hi hz0 hz1 hz2 rfl (by omega) rv k (rowsV G (bnD n ds) k) (by simp [Act.eval]) ((HB8.out.own_r.alloc _).alloc _).drew ⟨W9.heap.size + 1, 0, none⟩ 1 1 [sl W9.heap.size q q] (by simp [Act.eval]) (by rfl) (by have h9 := HN.out (.cells (madeCells #[.complex .f64 0 0] q) 23) (sl W9.heap.size q q); rw [new_size] at h9; exact h9) (by intro u hu; simp at hu; rcases hu with rfl; rfl) (by decide) n1 n2 (Nat.zero_le _) (W9.heap.size + 1 + 1) (by simp) ?_; intro gg cap' w9 hown9 hgrow9 hat9 hlt9; have y2 := (HB9.out.str_far (HA.out _) hgrow9 HB9.out.tr (by omega)).c2; have y2f := (HB9.out.str_far (HA.out _) hgrow9 HB9.out.tr (by omega)).fz 2)
                      all_goals go_wp2_with fail
                      all_goals go_roundw
                      all_goals first
                        | (simp [intOf]; omega)
                        | (have hRm := HRm.out
                           have hA := HA.out (.cells #[sl W9.heap.size q q] 37)
                           have hB9 := HB9.out
                           rw [HBK.out] at hRm hown9 hgrow9 hA hB9
                           exact ⟨k + 1, by omega, by go_num, _, _, _, _, _, _, Lib.hid (hB9.push_r hA hRm (if_pos rfl) hgrow9 hown9 (by simpa using hat9))⟩)
        · obtain rfl : k = ds.length := by omega
          have hk2 : decide ((ds.length : Int) < (ds.length : Int)) = false := by simp
          go_wp2
          go_ret
          exact ⟨_, _, T, rv, cv, yv, C, G, rfl, HR.out⟩
end Go.Proofs.Ytoeeceemoggffaa
