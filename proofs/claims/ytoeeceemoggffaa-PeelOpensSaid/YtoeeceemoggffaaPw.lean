/- newBoard of package peel: the walk. -/
import Derived.Test.YtoeeceemoggffaaPb
import Derived.Deep.RegionLaw
import Derived.Deep.DeepCutAuto
import Derived.Deep.AppendLies
import Derived.OwnWalk
namespace Go.Proofs.Ytoeeceemoggffaa
open Go.RowKit Go.Lib
set_option maxHeartbeats 3200000
set_option maxRecDepth 100000

theorem newBoard_walk {A : Option Addr} {capd : Nat} {ds : List (Int × Int)} {w : World} (n M : Nat) (hD : Dirs w A ds) (ho : ∀ d ∈ ds, okD d = true) (hM : M = n * n) (h1 : 1 ≤ n) (h2 : n ≤ 64) (hds : ds.length ≤ 64) :
    Calls Try.prog 78 #[.int .i64 n, .slice A ds.length capd] w fun e w' => ∃ b o T sv cv gv rv C G l, e = .returned (.pointer (some ⟨b, 0, none⟩)) ∧
      Brd w T b o n M (.slice A ds.length capd) (stD n ds) (bnD n ds) sv cv gv rv C G ds.length ds.length ds.length allC (cfB n M ds) (gfB n M ds) l w' ∧ Rdy ds.length (bnD n ds) (cfB n M ds) l ∧ Good ds.length (bnD n ds) l ∧ l.length ≤ 2017 * ds.length := by
  have HD := Lib.hid hD
  have HO := Lib.hid ho
  have HM := Lib.hid hM
  have hM4 : M ≤ 4096 := by rw [hM]; exact Nat.mul_le_mul h2 h2
  have hnn : (n : Int) * (n : Int) = (M : Int) := by rw [hM]; exact (Int.natCast_mul _ _).symm
  have hmkB := run_make_row' (P := Try.prog) 68 4 (.bool false) 1 und68 infoBool rfl .i64 .i64 M (by omega) (by omega)
  have HS := Lib.hid (NewR.start w n M (.slice A ds.length capd) ds)
  clear hD ho hM
  go_enter Try.func78, Try.ntmps78
  go_wp2_with fail
  go_loopw [27] (fun i wr => ∃ k : Nat, k ≤ ds.length ∧ i = .int .i64 k ∧ ∃ T sv cv gv rv C G l, Hid (NewR w (w.heap.size + 1) w.heap.size n M (.slice A ds.length capd) ds k T sv cv gv rv C G l wr)) (fun i _ => ds.length - (intOf i).toNat)
  case atStart => exact ⟨0, Nat.zero_le _, rfl, _, _, _, _, _, _, _, _, HS⟩
  case round =>
    clear hmkB HS
    obtain ⟨k, hk, rfl, T, sv, cv, gv, rv, C, G, l, HR⟩ := hrel
    by_cases hk1 : k < ds.length
    · have hk1' : (k : Int) < (ds.length : Int) := by omega
      have hb := HR.out.brd
      have hDr := HD.out.later hb.below
      have hok := HO.out _ (dirAt_mem hk1)
      obtain ⟨p, q, db, off, hg, hp, hq, rfl, hlt, d0, d1⟩ := hDr.get hk1
      have hdk : dirAt ds k = (p, q) := Option.some.inj ((dirAt_get hk1).symm.trans hg)
      rw [hdk] at hok
      have B := Lib.hid (fun w => Bins_walk n p q w h1 h2 hok)
      have X := Lib.hid (fun w => Index0_walk n p q w h1 h2 hok)
      have HT := Lib.hid (Two.made wr 51 p q)
      obtain ⟨bk, hbk⟩ : ∃ bk, bk = bnD n ds k := ⟨_, rfl⟩
      obtain ⟨sk, hsk⟩ : ∃ sk, sk = stD n ds k := ⟨_, rfl⟩
      have hbk' : binsN n (p, q) = bk := by rw [hbk]; show binsN n (p, q) = binsN n (dirAt ds k); rw [hdk]
      have hsk' : startN n (p, q) = sk := by rw [hsk]; show startN n (p, q) = startN n (dirAt ds k); rw [hdk]
      have hbk2 : bk ≤ 2017 := by rw [← hbk']; exact binsN_le hok h2
      rw [hbk'] at B
      rw [hsk'] at X
      have HBK := Lib.hid hbk
      have HSK := Lib.hid hsk
      clear hb hDr hok hg hp hq hlt hdk hbk hsk hbk' hsk'
      go_wp2_with fail
      refine (B.out _).mono ?_; rintro e w1 ⟨rfl, hb1⟩
      obtain ⟨_, e0, e1, _, _⟩ := HT.out.later hb1 HT.out.lt
      have HB1 := Lib.hid (((Below.refl wr.heap.size wr).alloc (Nat.le_refl _) (.cells #[.int .i64 p, .int .i64 q] 51)).trans (hb1.mono (by simp)))
      clear hb1
      go_wp2_with fail
      refine (X.out _).mono ?_; rintro e w2 ⟨rfl, hb2⟩
      have HB2 := Lib.hid (HB1.out.trans (hb2.mono HB1.out.size))
      have Hb2 := Lib.hid (HR.out.brd.beyond HB2.out)
      clear hb2 e0 e1
      have s2 := Hb2.out.str.c2
      obtain ⟨i0, hi, hz⟩ := Option.map_eq_some_iff.1 infoInt
      simp only [Prod.mk.injEq] at hz
      obtain ⟨hz0, hz1, hz2⟩ := hz
      have n1 : k + 1 ≤ maxLen := by unfold maxLen; omega
      have n2 : (k + 1) * 8 ≤ 140737488355328 := by omega
      go_wp2_with (at_builtin; refine wpList_append_lies _ (by rfl) (.tmp 48) (.tmp 50) _ (by rfl) 0 3 i0 _ 1 8 und118 hi hz0 hz1 hz2 rfl (by omega) sv k (starts (stD n ds) k) (by rfl) (Hb2.out.own_s.alloc _) ⟨w2.heap.size, 0, none⟩ 1 1 [.int .i64 sk] (by rfl) (by rfl) (one_new w2 _ _) (by simp [Value.oneCell']) (by omega) n1 n2 (Nat.zero_le _) (w2.heap.size + 1) (by simp) ?c6)
      case c6 =>
        intro g7 cap7 w7 hown7 hgrow7 hat7 hlt7
        have hbl := ((Below.refl w2.heap.size w2).alloc (Nat.le_refl _) (.cells #[.int .i64 sk] 3))
        have st7 := Hb2.out.str_far hbl hgrow7 Hb2.out.ts (by omega)
        have t2 := st7.c2
        have t2f := st7.fz 2
        rw [HSK.out] at hown7
        obtain ⟨T7, ht7, hb7⟩ := Hb2.out.push_s hbl (by rw [HSK.out] at hgrow7; rw [HSK.out]; exact hgrow7) hown7 (by simpa using hat7)
        have HB7 := Lib.hid hb7
        clear st7 hown7 hgrow7 hat7 hlt7 hbl hb7 s2 ht7 hi hz0 hz1 hz2 n1 n2
        go_upto_region 8 with fail
        obtain ⟨W8, hW8⟩ : ∃ W8, W8 = w7.setCell ⟨w.heap.size + 1, 2, none⟩ (sl g7 (k + 1) cap7) := ⟨_, rfl⟩
        rw [← hW8] at HB7 ⊢
        clear hW8 t2 t2f
        have hmkI := run_make_row' (P := Try.prog) 118 3 (.int .i64 0) 8 und118 infoInt rfl .i64 .i64 bk (by omega) (by omega)
        obtain ⟨i0, hi, hz⟩ := Option.map_eq_some_iff.1 infoInts
        simp only [Prod.mk.injEq] at hz
        obtain ⟨hz0, hz1, hz2⟩ := hz
        have n1 : k + 1 ≤ maxLen := by unfold maxLen; omega
        have n2 : (k + 1) * 24 ≤ 140737488355328 := by omega
        go_cut [] (fun wx => ∃ T8 cv8 C8, Hid (Brd w T8 (w.heap.size + 1) w.heap.size n M (.slice (some ⟨db, off, none⟩) ds.length capd) (stD n ds) (bnD n ds) (sl g7 (k + 1) cap7) cv8 gv rv C8 G (k + 1) (k + 1) k (fun _ => false) (fun j i => if j = k then 0 else cfB n M ds j i) (gfB n M ds) l wx))
        case first =>
          have f4 : W8.cell? ⟨w.heap.size + 1, 4, none⟩ = some cv := HB7.out.str.c4
          have f4a : ∀ x, (W8.alloc x).cell? ⟨w.heap.size + 1, 4, none⟩ = some cv := fun x => (HB7.out.alloc x).str.c4
          have f4b : ∀ x y, ((W8.alloc x).alloc y).cell? ⟨w.heap.size + 1, 4, none⟩ = some cv := fun x y => ((HB7.out.alloc x).alloc y).str.c4
          have HA := Lib.hid (fun x y => ((((Below.refl W8.heap.size W8).alloc (Nat.le_refl _) x).alloc (by simp) y).drew))
          have HN := Lib.hid (fun x v => one_new (W8.alloc x) 118 v)
          go_region_law (refine step_append_lies _ (by rfl) _ _ _ (by rfl) 0 118 i0 _ 1 24 und119 hi hz0 hz1 hz2 rfl (by omega) cv k (rowsV C (bnD n ds) k) (by simp [Act.eval]) ((HB7.out.own_c.alloc _).alloc _).drew ⟨W8.heap.size + 1, 0, none⟩ 1 1 [sl W8.heap.size bk bk] (by simp [Act.eval]) (by rfl) (by have h9 := HN.out (.cells (madeCells #[.int .i64 0] bk) 3) (sl W8.heap.size bk bk); rw [new_size] at h9; exact h9) (by intro u hu; simp at hu; rcases hu with rfl; rfl) (by decide) n1 n2 (Nat.zero_le _) (W8.heap.size + 1 + 1) (by simp) ?_; intro gg cap' w9 hown9 hgrow9 hat9 hlt9; have y4 := (HB7.out.str_far (HA.out _ _) hgrow9 HB7.out.tc (by omega)).c4; have y4f := (HB7.out.str_far (HA.out _ _) hgrow9 HB7.out.tc (by omega)).fz 4)
          all_goals (go_wp2_with fail; go_meet)
          all_goals (have hH := ((World.rowIs_made W8 (.int .i64 0) bk 3).alloc (.cells #[sl W8.heap.size bk bk] 118)).drew)
          all_goals rw [HBK.out] at hH hown9 hgrow9
          all_goals (obtain ⟨T8, _, hb8⟩ := HB7.out.push_c (HA.out _ _) hH (Nat.le_refl _) hgrow9 hown9 (by simpa using hat9))
          all_goals exact ⟨T8, _, _, Lib.hid hb8⟩
        case rest =>
          obtain ⟨T8, cv8, C8, HB8⟩ := hcut
          go_upto_region 9 with fail
          go_cut [] (fun wx => ∃ T9 gv9 G9, Hid (Brd w T9 (w.heap.size + 1) w.heap.size n M (.slice (some ⟨db, off, none⟩) ds.length capd) (stD n ds) (bnD n ds) (sl g7 (k + 1) cap7) cv8 gv9 rv C8 G9 (k + 1) (k + 1) (k + 1) (fun _ => false) (fun j i => if j = k then 0 else cfB n M ds j i) (fun j i => if j = k then 0 else gfB n M ds j i) l wx))
          case first =>
            have f5 : wc.cell? ⟨w.heap.size + 1, 5, none⟩ = some gv := HB8.out.str.c5
            have f5a : ∀ x, (wc.alloc x).cell? ⟨w.heap.size + 1, 5, none⟩ = some gv := fun x => (HB8.out.alloc x).str.c5
            have f5b : ∀ x y, ((wc.alloc x).alloc y).cell? ⟨w.heap.size + 1, 5, none⟩ = some gv := fun x y => ((HB8.out.alloc x).alloc y).str.c5
            have HA := Lib.hid (fun x y => ((((Below.refl wc.heap.size wc).alloc (Nat.le_refl _) x).alloc (by simp) y).drew))
            have HN := Lib.hid (fun x v => one_new (wc.alloc x) 118 v)
            go_region_law (refine step_append_lies _ (by rfl) _ _ _ (by rfl) 0 118 i0 _ 1 24 und119 hi hz0 hz1 hz2 rfl (by omega) gv k (rowsV G (bnD n ds) k) (by simp [Act.eval]) ((HB8.out.own_g.alloc _).alloc _).drew ⟨wc.heap.size + 1, 0, none⟩ 1 1 [sl wc.heap.size bk bk] (by simp [Act.eval]) (by rfl) (by have h9 := HN.out (.cells (madeCells #[.int .i64 0] bk) 3) (sl wc.heap.size bk bk); rw [new_size] at h9; exact h9) (by intro u hu; simp at hu; rcases hu with rfl; rfl) (by decide) n1 n2 (Nat.zero_le _) (wc.heap.size + 1 + 1) (by simp) ?_; intro gg cap' w10 hown10 hgrow10 hat10 hlt10; have y5 := (HB8.out.str_far (HA.out _ _) hgrow10 HB8.out.tg (by omega)).c5; have y5f := (HB8.out.str_far (HA.out _ _) hgrow10 HB8.out.tg (by omega)).fz 5)
            all_goals (go_wp2_with fail; go_meet)
            all_goals (have hH := ((World.rowIs_made wc (.int .i64 0) bk 3).alloc (.cells #[sl wc.heap.size bk bk] 118)).drew)
            all_goals rw [HBK.out] at hH hown10 hgrow10
            all_goals (obtain ⟨T9, _, hb9⟩ := HB8.out.push_g (HA.out _ _) hH (Nat.le_refl _) hgrow10 hown10 (by simpa using hat10))
            all_goals exact ⟨T9, _, _, Lib.hid hb9⟩
          case rest =>
            obtain ⟨T9, gv9, G9, HB9⟩ := hcut
            have HA0 := Lib.hid (HB9.out.as (cfA_zero n M ds k) (gfA_zero n M ds k))
            have a3 := HA0.out.str.c3
            clear HB7 HB8 HB9 HB1 HB2 Hb2 HSK B X HT hmkI hi hz0 hz1 hz2
            go_wp2_with fail
            go_loopw [81] (fun i wx => ∃ m : Nat, m ≤ M ∧ i = .int .i64 m ∧ Hid (Brd w T9 (w.heap.size + 1) w.heap.size n M (.slice (some ⟨db, off, none⟩) ds.length capd) (stD n ds) (bnD n ds) (sl g7 (k + 1) cap7) cv8 gv9 rv C8 G9 (k + 1) (k + 1) (k + 1) (fun _ => false) (cfA n M ds k m) (gfA n M ds k m) l wx)) (fun i _ => M - (intOf i).toNat)
            case atStart => exact ⟨0, Nat.zero_le _, rfl, HA0⟩
            case round =>
              clear HA0
              obtain ⟨m, hm, rfl, HL⟩ := hrel
              by_cases hm1 : m < M
              · have hm1' : (m : Int) < (M : Int) := by omega
                have hb := HL.out
                have HLn := Lib.hid (hb.line HD.out HO.out HM.out h1 h2 k m hk1 (by omega) hm1)
                have hLb : lnD n ds k m < bnD n ds k := lineN_lt (n := n) (p := (dirAt ds k).1) (q := (dirAt ds k).2) HM.out (HO.out _ (dirAt_mem hk1)) hm1
                obtain ⟨L, hL⟩ : ∃ L, L = lnD n ds k m := ⟨_, rfl⟩
                rw [← hL] at HLn hLb
                have HLe := Lib.hid hL
                have hLb' : (L : Int) < (bnD n ds k : Int) := by omega
                have hkk : (k : Int) < (k : Int) + 1 := by omega
                obtain ⟨u, hu⟩ : ∃ u, u = cfA n M ds k m k L := ⟨_, rfl⟩
                obtain ⟨s, hs⟩ : ∃ s, s = gfA n M ds k m k L := ⟨_, rfl⟩
                have hu2 : u ≤ 4096 := by have := cfA_le n M ds k m L; omega
                have hs2 : s ≤ 4096 * 4096 := by have := gfA_le n M ds k m L; have := Nat.mul_le_mul (show m ≤ 4096 by omega) (show m ≤ 4096 by omega); omega
                have HU := Lib.hid hu
                have HSu := Lib.hid hs
                clear hb hL hu hs
                go_upto_region 14 with (go_at_call 108; refine (HLn.out).mono ?_; rintro e w1 ⟨rfl, hz⟩; have HZ := Lib.hid hz; clear hz)
                have hb1 := HL.out
                obtain ⟨cb, cc, rfl, _⟩ := row_form hb1.own_c (by omega)
                obtain ⟨gb, gc, rfl, _⟩ := row_form hb1.own_g (by omega)
                have hbW : Brd w T9 (w.heap.size + 1) w.heap.size n M (.slice (some ⟨db, off, none⟩) ds.length capd) (stD n ds) (bnD n ds) (sl g7 (k + 1) cap7) (sl cb (k + 1) cc) (sl gb (k + 1) gc) rv C8 G9 (k + 1) (k + 1) (k + 1) (fun _ => false) (cfA n M ds k m) (gfA n M ds k m) l w1 := by
                  obtain ⟨z, rfl⟩ := HZ.out
                  exact HL.out.drewN z
                have x4 := hbW.str.c4
                have xcb := row_cell hbW.own_c (rowsV_get (show k < k + 1 by omega))
                have xC := (hbW.cnt k (by omega)).cell hLb
                have xCf := (hbW.cnt k (by omega)).frozen L
                rw [← HU.out] at xC
                have HbW := Lib.hid hbW
                clear hb1 hbW
                go_upto_region 15 with fail
                have hbX := HbW.out.setC (show k < k + 1 by omega) L (u + 1)
                rw [Int.natCast_add, Int.natCast_one] at hbX
                obtain ⟨W, hW⟩ : ∃ W, W = w1.setCell ⟨C8 k, L, none⟩ (.int .i64 ((u : Int) + 1)) := ⟨_, rfl⟩
                rw [← hW] at hbX ⊢
                have y5 := hbX.str.c5
                have ygb := row_cell hbX.own_g (rowsV_get (show k < k + 1 by omega))
                have yG := (hbX.sms k (by omega)).cell hLb
                have yGf := (hbX.sms k (by omega)).frozen L
                rw [← HSu.out] at yG
                have HbX := Lib.hid hbX
                clear hbX hW x4 xcb xC xCf
                go_wp2_with fail
                go_roundw
                case measure => simp [intOf]; omega
                case rel =>
                  have hbY := HbX.out.setG (show k < k + 1 by omega) L (s + m)
                  rw [Int.natCast_add] at hbY
                  refine ⟨m + 1, by omega, by go_num, Lib.hid (hbY.as (fun j i => ?_) (fun j i => ?_))⟩
                  · have e1 := cfA_step n M ds k m L HLe.out j i
                    rw [← HU.out] at e1
                    exact e1
                  · have e1 := gfA_step n M ds k m L HLe.out j i
                    rw [← HSu.out] at e1
                    exact e1
              · obtain rfl : m = M := by omega
                have hm2 : decide ((m : Int) < (m : Int)) = false := by simp
                have HLB := Lib.hid (HL.out.as (cfA_all n m ds k) (gfA_all n m ds k))
                obtain ⟨cb, cc, rfl, _⟩ := row_form HLB.out.own_c (by omega)
                have x4 := HLB.out.str.c4
                have xcb := row_cell HLB.out.own_c (rowsV_get (show k < k + 1 by omega))
                have hkk : (k : Int) < (k : Int) + 1 := by omega
                have HQ0 : Hid (NewL w (w.heap.size + 1) w.heap.size n m (.slice (some ⟨db, off, none⟩) ds.length capd) ds k 0 T9 (sl g7 (k + 1) cap7) (sl cb (k + 1) cc) gv9 rv C8 G9 l wr) := Lib.hid ⟨HLB.out, fun j i h9 h10 => by
                    rcases h9 with h9 | h9
                    · exact HR.out.rdy j i h9.1 h9.2 h10
                    · omega, fun x hx => by
                    obtain ⟨j, i, e1, e2, e3⟩ := HR.out.good x hx
                    exact ⟨j, i, e1, by omega, e3⟩, HR.out.len⟩
                clear HL HLB
                have hbk3 : bnD n ds k ≤ 2017 := by have := HBK.out; omega
                go_wp2_with fail
                go_loopw [122] (fun i wx => ∃ q : Nat, q ≤ bnD n ds k ∧ i = .int .i64 q ∧ ∃ T rv l, Hid (NewL w (w.heap.size + 1) w.heap.size n m (.slice (some ⟨db, off, none⟩) ds.length capd) ds k q T (sl g7 (k + 1) cap7) (sl cb (k + 1) cc) gv9 rv C8 G9 l wx)) (fun i _ => bnD n ds k - (intOf i).toNat)
                case atStart => exact ⟨0, Nat.zero_le _, rfl, _, _, _, HQ0⟩
                case round =>
                  clear HQ0
                  obtain ⟨q2, hq2, rfl, T2, rv2, l2, HN⟩ := hrel
                  by_cases hq3 : q2 < bnD n ds k
                  · have hq3' : (q2 : Int) < (bnD n ds k : Int) := by omega
                    have hb := HN.out.brd
                    have xC := (hb.cnt k (by omega)).cell hq3
                    have hv4 : cfB n m ds k q2 ≤ 4096 := Nat.le_trans (cnt_le _ _ _ _) hM4
                    obtain ⟨v, hv⟩ : ∃ v, v = cfB n m ds k q2 := ⟨_, rfl⟩
                    rw [← hv] at xC hv4
                    by_cases h9 : v = 1
                    · have h9' : (v : Int) = 1 := by omega
                      have x6 := hb.str.c6
                      have hl2 := HN.out.len
                      obtain ⟨i0, hi, hz⟩ := Option.map_eq_some_iff.1 infoPlace
                      simp only [Prod.mk.injEq] at hz
                      obtain ⟨hz0, hz1, hz2⟩ := hz
                      have n1 : l2.length + 1 ≤ maxLen := by unfold maxLen; omega
                      have n2 : (l2.length + 1) * 16 ≤ 140737488355328 := by omega
                      clear hb hv
                      go_wp2_with (at_builtin; refine wpList_append_lies _ (by rfl) (.tmp 133) (.tmp 137) _ (by rfl) 0 113 i0 _ 2 16 und121 hi hz0 hz1 hz2 rfl (by omega) rv2 l2.length (flatD l2) (by rfl) (HN.out.brd.own_r.alloc _) ⟨wr.heap.size, 0, none⟩ 1 1 [.int .i64 k, .int .i64 q2] (by rfl) (by rfl) (news_new wr _ _ _) (by intro u hu; simp at hu; rcases hu with rfl | rfl <;> rfl) (by omega) n1 n2 (Nat.zero_le _) (wr.heap.size + 1) (by simp) ?c7)
                      case c7 =>
                        intro gg cap' w5 hown5 hgrow5 hat5 hlt5
                        have st := HN.out.brd.str_far ((Below.refl _ _).alloc (Nat.le_refl _) _) hgrow5 HN.out.brd.tr (by omega)
                        have t6 := st.c6
                        have t6f := st.fz 6
                        obtain ⟨T5, h5⟩ := HN.out.push hq3 hown5 hgrow5 (by simpa using hat5)
                        have H5 := Lib.hid h5
                        clear h5 st hown5 hgrow5 hat5 hlt5 hi hz0 hz1 hz2 n1 n2 x6
                        go_wp2_with fail
                        go_roundw
                        case measure => simp [intOf]; omega
                        case rel => exact ⟨q2 + 1, by omega, by go_num, T5, _, _, H5⟩
                    · have h9' : ((v : Int) == 1) = false := by
                        have : (v : Int) ≠ 1 := by omega
                        simpa using this
                      have H5 := Lib.hid (HN.out.skip (by rw [← hv]; exact h9))
                      clear hb hv
                      go_wp2_with fail
                      go_roundw
                      case measure => simp [intOf]; omega
                      case rel => exact ⟨q2 + 1, by omega, by go_num, T2, _, _, H5⟩
                  · obtain rfl : q2 = bnD n ds k := by omega
                    have hq4 : decide ((bnD n ds k : Int) < (bnD n ds k : Int)) = false := by simp
                    have H6 := Lib.hid (HN.out.done hbk3)
                    go_wp2_with fail
                    go_roundw
                    case measure => simp [intOf]; omega
                    case rel => exact ⟨k + 1, by omega, by go_num, T2, _, _, _, _, _, _, _, H6⟩
    · obtain rfl : k = ds.length := by omega
      have hk2 : decide ((ds.length : Int) < (ds.length : Int)) = false := by simp
      have a3 := HR.out.brd.str.c3
      have H0 : Hid (Brd w T (w.heap.size + 1) w.heap.size n M (.slice A ds.length capd) (stD n ds) (bnD n ds) sv cv gv rv C G ds.length ds.length ds.length (fun i => decide (i < 0)) (cfB n M ds) (gfB n M ds) l wr) := Lib.hid (HR.out.brd.asS (fun i _ => by simp))
      have HRr := Lib.hid HR.out.rdy
      have HRg := Lib.hid HR.out.good
      have HRl := Lib.hid HR.out.len
      clear HR
      go_wp2_with fail
      go_loopw [148] (fun i wx => ∃ m : Nat, m ≤ M ∧ i = .int .i64 m ∧ Hid (Brd w T (w.heap.size + 1) w.heap.size n M (.slice A ds.length capd) (stD n ds) (bnD n ds) sv cv gv rv C G ds.length ds.length ds.length (fun i => decide (i < m)) (cfB n M ds) (gfB n M ds) l wx)) (fun i _ => M - (intOf i).toNat)
      case atStart => exact ⟨0, Nat.zero_le _, rfl, H0⟩
      case round =>
        clear H0 a3
        obtain ⟨m, hm, rfl, HL⟩ := hrel
        have a3 := HL.out.str.c3
        by_cases hm1 : m < M
        · have hm1' : (m : Int) < (M : Int) := by omega
          have oc := HL.out.opn.cell hm1
          have of := HL.out.opn.frozen m
          go_wp2_with fail
          go_roundw
          case measure => simp [intOf]; omega
          case rel =>
            refine ⟨m + 1, by omega, by go_num, Lib.hid ((HL.out.setO m true).asS (fun i _ => ?_))⟩
            by_cases e : i = m
            · subst e; simp
            · simp only [if_neg e]
              by_cases e2 : i < m
              · rw [decide_eq_true e2, decide_eq_true (by omega)]
              · rw [decide_eq_false e2, decide_eq_false (by omega)]
        · obtain rfl : m = M := by omega
          have hm2 : decide ((m : Int) < (m : Int)) = false := by simp
          have HB := Lib.hid (HL.out.asS (S' := allC) (fun i hi => by rw [decide_eq_true hi]; rfl))
          clear HL
          go_wp2_with fail
          refine (HB.out.init (by have := HRl.out; omega)).mono ?_; rintro e w5 ⟨rfl, T5, rv5, l5, hb5, hp5⟩
          have HB5 := Lib.hid hb5
          have HP5 := Lib.hid hp5
          clear hb5 hp5
          go_wp2
          go_ret
          exact ⟨_, _, T5, sv, cv, gv, rv5, C, G, l5, rfl, HB5.out, fun j i h7 h8 h9 => HP5.out.mem_iff.2 (HRr.out j i h7 h8 h9), fun x hx => HRg.out x (HP5.out.mem_iff.1 hx), by rw [HP5.out.length_eq]; exact HRl.out⟩
end Go.Proofs.Ytoeeceemoggffaa
