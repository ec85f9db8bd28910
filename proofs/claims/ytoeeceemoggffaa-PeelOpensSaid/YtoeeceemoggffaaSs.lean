/- sino.Check on right projections with small whole bins.
sino.Check: the walk.
sino.Dirs: the directions of the projections. -/
import Derived.Test.YtoeeceemoggffaaPt
import Derived.Test.YtoeeceemoggffaaWh
import Derived.Maps.OwnOps
import Derived.Deep.AppendLies
namespace Go.Proofs.Ytoeeceemoggffaa
open Go.RowKit Go.Lib
set_option maxHeartbeats 3200000
set_option maxRecDepth 100000

/-- projections in memory: their directions, and bins that are small whole numbers -/
structure Sn (w : World) (pb n : Nat) (ds : List (Int × Int)) (Bk : Nat → Nat) (V : Nat → Nat → Int) : Prop where
  d0 : ∀ k, k < ds.length → w.cell? ⟨pb, k * 3, none⟩ = some (.int .i64 (dirAt ds k).1)
  d1 : ∀ k, k < ds.length → w.cell? ⟨pb, k * 3 + 1, none⟩ = some (.int .i64 (dirAt ds k).2)
  d2 : ∀ k, k < ds.length → w.cell? ⟨pb, k * 3 + 2, none⟩ = some (sl (Bk k) (bnD n ds k) (bnD n ds k))
  bin : ∀ k i, k < ds.length → i < bnD n ds k → w.cell? ⟨Bk k, i, none⟩ = some (.complex .f64 (fint (V k i)) 0)
  small : ∀ k i, -128 ≤ V k i ∧ V k i ≤ 128
theorem Sn.later {w w' : World} {pb n : Nat} {ds : List (Int × Int)} {Bk : Nat → Nat} {V : Nat → Nat → Int} (h : Sn w pb n ds Bk V) (hb : Below w.heap.size w w') : Sn w' pb n ds Bk V :=
  have c : ∀ {a v}, w.cell? a = some v → w'.cell? a = some v := fun {_ _} e => (hb.cell (block_lt_of_cell e)).trans e
  ⟨fun k hk => c (h.d0 k hk), fun k hk => c (h.d1 k hk), fun k hk => c (h.d2 k hk), fun k i hk hi => c (h.bin k i hk hi), h.small⟩

theorem fint_zero : fint 0 = 0 := rfl
theorem Chk1_walk (x : Int) (hx : -128 ≤ x ∧ x ≤ 128) (w : World) : Calls Try.prog 126 #[.complex .f64 (fint x) 0] w fun e w' => e = .returned (.bool false) ∧ Below w.heap.size w w' := by
  have H := Lib.hid (fun w => Whole_small x 0 4294967296 hx (by decide) (by decide) w)
  rw [fint_zero] at H
  obtain ⟨f, hf⟩ : ∃ f, f = fint x := ⟨_, rfl⟩
  rw [← hf] at H ⊢
  clear hf hx
  go_enter Try.func126, Try.ntmps126
  go_wp2_with fail
  refine (H.out _).mono ?_; rintro e w1 ⟨rfl, hb⟩
  go_wp2
  go_ret
  exact ⟨rfl, hb⟩

theorem Idx_walk (g m cap : Nat) (v : Nat → Int) (w : World) (hv : ∀ i, -128 ≤ v i ∧ v i ≤ 128) (hc : ∀ i, i < m → w.cell? ⟨g, i, none⟩ = some (.complex .f64 (fint (v i)) 0)) (hm : m ≤ 10000) :
    Calls Try.prog 144 #[sl g m cap, .func (.func 126) #[] #[]] w fun e w' => e = .returned (.int .i64 (-1)) ∧ Below w.heap.size w w' := by
  have HC := Lib.hid hc
  clear hc
  go_enter Try.func144, Try.ntmps144
  go_wp2_with fail
  go_loopw [8] (fun i wr => ∃ k : Nat, k ≤ m ∧ i = .int .i64 k ∧ Hid (Below w.heap.size w wr)) (fun i _ => m - (intOf i).toNat)
  case atStart => exact ⟨0, Nat.zero_le _, rfl, Lib.hid (Below.refl _ _)⟩
  case round =>
    obtain ⟨k, hk, rfl, HB⟩ := hrel
    by_cases hk1 : k < m
    · have hk1' : (k : Int) < (m : Int) := by omega
      have c0 := HC.out k hk1
      have c1 := (HB.out.cell (block_lt_of_cell c0)).trans c0
      have H := Lib.hid (fun w => Chk1_walk (v k) (hv k) w)
      obtain ⟨f, hf⟩ : ∃ f, f = fint (v k) := ⟨_, rfl⟩
      rw [← hf] at H c1
      clear hf c0
      go_wp2_with fail
      refine (H.out _).mono ?_; rintro e w1 ⟨rfl, hb⟩
      have HB1 := Lib.hid (HB.out.trans (hb.mono HB.out.size))
      clear hb
      go_wp2
      go_roundw
      case measure => simp [intOf]; omega
      case rel => exact ⟨k + 1, by omega, by go_num, HB1⟩
    · obtain rfl : k = m := by omega
      have hm2 : decide ((k : Int) < (k : Int)) = false := by simp
      go_wp2
      go_ret
      exact ⟨rfl, HB.out⟩

theorem Cont_walk (g m cap : Nat) (v : Nat → Int) (w : World) (hv : ∀ i, -128 ≤ v i ∧ v i ≤ 128) (hc : ∀ i, i < m → w.cell? ⟨g, i, none⟩ = some (.complex .f64 (fint (v i)) 0)) (hm : m ≤ 10000) :
    Calls Try.prog 125 #[sl g m cap, .func (.func 126) #[] #[]] w fun e w' => e = .returned (.bool false) ∧ Below w.heap.size w w' := by
  have H := Lib.hid (Idx_walk g m cap v w hv hc hm)
  clear hc hv
  go_enter Try.func125, Try.ntmps125
  go_wp2_with fail
  refine (H.out).mono ?_; rintro e w1 ⟨rfl, hb⟩
  go_wp2
  go_ret
  exact ⟨rfl, hb⟩
end Go.Proofs.Ytoeeceemoggffaa

namespace Go.Proofs.Ytoeeceemoggffaa
open Go.RowKit Go.Lib Go.Maps
set_option maxHeartbeats 3200000
set_option maxRecDepth 100000

theorem undSeen : Try.prog.underlying 168 = some (.map 51 3) := by kernel_rfl
theorem undIntK : Try.prog.underlying 3 = some (.int .i64) := by kernel_rfl
theorem zeroI (w : World) : (zeroValue 3).run Try.prog w = .ok (.int .i64 0) w := by kernel_rfl

/-- the map of the directions seen so far: an unseen one has no entry -/
structure Seen (w : World) (B k : Nat) (ds : List (Int × Int)) : Prop where
  ex : ∃ D : DataW Unit, w.ownsMap Try.prog 51 (plainElem Try.prog 3) B k D ∧ ∀ e : Int × Int, I64 e.1 ∧ I64 e.2 → e ∉ ds.take k → ∀ z, D.atKey (kd e) z = z

theorem SCheck_walk {n pb capp : Nat} {ds : List (Int × Int)} {Bk : Nat → Nat} {V : Nat → Nat → Int} {w : World} (hS : Sn w pb n ds Bk V) (h1 : 1 ≤ n) (h2 : n ≤ 64) (hds : ds.length ≤ 64) (ht : twice ds = 0) :
    Calls Try.prog 103 #[.agg #[.int .i64 n, .slice (some ⟨pb, 0, none⟩) ds.length capp]] w fun e w' => e = .returned (.int .i64 0) ∧ Below w.heap.size w w' := by
  have hmm := @run_makeMap Try.prog
  obtain ⟨ho, hnd⟩ := twice_ok ht
  have HO := Lib.hid ho
  have HN := Lib.hid hnd
  have HS := Lib.hid hS
  clear ho hnd hS ht
  go_enter Try.func103, Try.ntmps103
  go_wp2_with fail
  go_loopw [26] (fun i wr => ∃ k : Nat, k ≤ ds.length ∧ i = .int .i64 k ∧ Hid (Seen wr (w.heap.size + 1) k ds ∧ Below w.heap.size w wr ∧ wr.cell? ⟨w.heap.size, 0, none⟩ = some (.int .i64 n) ∧ wr.cell? ⟨w.heap.size, 1, none⟩ = some (.slice (some ⟨pb, 0, none⟩) ds.length capp) ∧ w.heap.size + 1 < wr.heap.size)) (fun i _ => ds.length - (intOf i).toNat)
  case atStart =>
    refine ⟨0, Nat.zero_le _, rfl, Lib.hid ⟨⟨⟨.map [], ?_, fun e _ _ z => rfl⟩⟩, ((Below.refl _ _).alloc (Nat.le_refl _) _).alloc (by simp) _, ?_, ?_, by simp⟩⟩
    · have := World.ownsMap_made (w.alloc (.cells #[.int .i64 n, .slice (some ⟨pb, 0, none⟩) ds.length capp] 108)) (P := Try.prog) (H := Unit) 51 (plainElem Try.prog 3)
      rw [new_size] at this
      exact this
    · exact (((Below.refl _ _).alloc (Nat.le_refl _) _).cell (by simp)).trans (new_cell w _ _ 0)
    · exact (((Below.refl _ _).alloc (Nat.le_refl _) _).cell (by simp)).trans (new_cell w _ _ 1)
  case round =>
    obtain ⟨k, hk, rfl, HR⟩ := hrel
    obtain ⟨_, _, b0, b1, hsz⟩ := HR.out
    by_cases hk1 : k < ds.length
    · have hk1' : (k : Int) < (ds.length : Int) := by omega
      have hs := HS.out.later HR.out.2.1
      have s0 := hs.d0 k hk1
      have s1 := hs.d1 k hk1
      have s2 := hs.d2 k hk1
      have HD := Lib.hid (dirAt_mem hk1)
      obtain ⟨p, hp⟩ : ∃ p, p = (dirAt ds k).1 := ⟨_, rfl⟩
      obtain ⟨q, hq⟩ : ∃ q, q = (dirAt ds k).2 := ⟨_, rfl⟩
      have hd : dirAt ds k = (p, q) := Prod.ext hp.symm hq.symm
      rw [← hp] at s0
      rw [← hq] at s1
      have hok := HO.out _ HD.out
      rw [hd] at hok
      have B := Lib.hid (fun w => Bins_walk n p q w h1 h2 hok)
      have hbb : binsN n (p, q) = bnD n ds k := by show _ = binsN n (dirAt ds k); rw [hd]
      have hb2 : bnD n ds k ≤ 2017 := by rw [← hbb]; exact binsN_le hok h2
      rw [hbb] at B
      have Hd := Lib.hid hd
      have HOk := Lib.hid hok
      have HHb := Lib.hid hs
      clear hs hp hq hd hok hbb
      have bl : ∀ ob, Below wr.heap.size wr (wr.alloc ob) := fun ob => (Below.refl _ _).alloc (Nat.le_refl _) ob
      have a0 : ∀ ob, (wr.alloc ob).cell? ⟨w.heap.size, 0, none⟩ = some (.int .i64 n) := fun ob => ((bl ob).cell (block_lt_of_cell b0)).trans b0
      have HBl := Lib.hid bl
      clear bl
      go_wp2_with fail
      refine (B.out _).mono ?_; rintro e w1 ⟨rfl, hb1⟩
      have hr1 : Below wr.heap.size wr w1 := (HBl.out _).trans (hb1.mono (by simp))
      have x0 := (hb1.cell (p := ⟨wr.heap.size, 0, none⟩) (by simp)).trans (new_cell wr _ _ 0)
      have x1 := (hb1.cell (p := ⟨wr.heap.size, 1, none⟩) (by simp)).trans (new_cell wr _ _ 1)
      have x2 := (hb1.cell (p := ⟨wr.heap.size, 2, none⟩) (by simp)).trans (new_cell wr _ _ 2)
      simp only [List.getElem?_toArray, List.getElem?_cons_zero, List.getElem?_cons_succ] at x0 x1 x2
      have hx1 : wr.heap.size < w1.heap.size := by have := hb1.size; simp at this; omega
      have HR1 := Lib.hid hr1
      clear hb1 hr1 a0
      obtain ⟨D, hD, hA⟩ := HR.out.1.ex
      have hm2 := ownsMap_below hD HR1.out (by omega)
      have HM2 := Lib.hid hm2
      obtain ⟨o0, o1, o2, _, _⟩ := (okD_iff p q).1 HOk.out
      have hi64 : I64 p ∧ I64 q := by unfold I64; omega
      have hkey := key_dir hi64.1 hi64.2
      have HKey := Lib.hid hkey
      have hkm : k < maxLen := by unfold maxLen; omega
      have HKm := Lib.hid hkm
      have hat : ∀ z, D.atKey (kd (p, q)) z = z := hA (p, q) hi64 (by
        rw [← Hd.out]
        intro hin
        obtain ⟨i, hi, e⟩ := List.getElem_of_mem hin
        have hi' : i < k := by simp at hi; omega
        rw [List.getElem_take] at e
        have e2 := dirAt_get hk1
        rw [List.getElem?_eq_getElem hk1] at e2
        have e3 : ds[i]'(by omega) = ds[k] := by rw [e]; exact (Option.some.inj e2).symm
        exact List.pairwise_iff_getElem.1 HN.out i k (by omega) hk1 hi' e3)
      have hval : plainElem (H := Unit) Try.prog 3 (.int .i64 ((k : Int) + 1)) = some (.lit (.int .i64 ((k : Int) + 1)), []) := plainElem_int undIntK (WalkArith.wf_i64 (by omega))
      have HV := Lib.hid hval
      have HA := Lib.hid hA
      have HAt := Lib.hid hat
      clear hD hm2 hkey hkm o0 o1 o2 hA hval hat hi64
      have hlk : Sem.run Try.prog (Instr.lookup 168 (.map (some (w.heap.size + 1))) (.agg #[.int .i64 p, .int .i64 q]) false) w1 = .ok (.int .i64 0) w1 := by
        obtain ⟨c, hrun, hc, _⟩ := HM2.out.lookup_int lawDir undSeen undIntK (zeroI w1) HKey.out
        rw [HAt.out] at hc
        obtain rfl : c = 0 := by simpa using hc.symm
        exact hrun
      go_wp2_with (at_mapUpdate; refine wpList_mapUpdate_own _ rfl (.tmp 47) (.tmp 49) (.tmp 51) 168 rfl 51 3 lawDir undSeen (plainElem Try.prog 3) (w.heap.size + 1) k D rfl HM2.out HKm.out (.agg #[.int .i64 p, .int .i64 q]) (.int .i64 ((k : Int) + 1)) (kd (p, q)) rfl rfl HKey.out (.lit (.int .i64 ((k : Int) + 1))) [] HV.out ?c6)
      case c6 =>
        intro w3 hown3 hgrow3
        have hne : ∀ x, some x ≠ some (w.heap.size + 1) ↔ x ≠ w.heap.size + 1 := fun x => by simp
        have y0 := hgrow3.cell x0 (by rw [hne]; show wr.heap.size ≠ _; omega)
        have y1 := hgrow3.cell x1 (by rw [hne]; show wr.heap.size ≠ _; omega)
        have y2 := hgrow3.cell x2 (by rw [hne]; show wr.heap.size ≠ _; omega)
        have hb3 : Below w.heap.size w w3 := (HR.out.2.1.trans (HR1.out.mono (by omega))).grown hgrow3 (by omega) (fun j hj => by cases hj; omega)
        have hx3 := hgrow3.size
        have c1b : w1.cell? ⟨w.heap.size, 0, none⟩ = some (.int .i64 n) := (HR1.out.cell (block_lt_of_cell b0)).trans b0
        have c1c : w1.cell? ⟨w.heap.size, 1, none⟩ = some (.slice (some ⟨pb, 0, none⟩) ds.length capp) := (HR1.out.cell (block_lt_of_cell b1)).trans b1
        have z0 := hgrow3.cell c1b (by rw [hne]; show w.heap.size ≠ _; omega)
        have z1 := hgrow3.cell c1c (by rw [hne]; show w.heap.size ≠ _; omega)
        have HB3 := Lib.hid hb3
        have HZ0 := Lib.hid z0
        have HZ1 := Lib.hid z1
        have HSeen : Hid (Seen w3 (w.heap.size + 1) (k + 1) ds) := Lib.hid ⟨⟨_, hown3, fun e he hin z => by
          have h7 : e ∉ ds.take k ∧ e ≠ (p, q) := by
            have h8 := mem_take_succ (d := e) (dirAt_get hk1)
            rw [Hd.out] at h8
            exact ⟨fun h9 => hin (h8.2 (.inl h9)), fun h9 => hin (h8.2 (.inr h9))⟩
          rw [atKey_put_other (fun h9 => h7.2 (kd_inj he (by obtain ⟨o0, o1, o2, _, _⟩ := (okD_iff p q).1 HOk.out; unfold I64; omega) h9))]
          exact HA.out e he h7.1 z⟩⟩
        have HS3 := Lib.hid (HS.out.later hb3)
        have HCt := Lib.hid (Cont_walk (Bk k) (bnD n ds k) (bnD n ds k) (V k) w3 (HS3.out.small k) (fun i hi => HS3.out.bin k i hk1 hi) (by omega))
        clear hown3 hgrow3 x0 x1 x2 hb3 hne c1b c1c z0 z1 b0 b1 s0 s1 s2 hlk
        go_wp2_with fail
        refine (HCt.out).mono ?_; rintro e w4 ⟨rfl, hb4⟩
        have HB4 := Lib.hid hb4
        clear hb4
        go_wp2
        go_roundw
        case measure => simp [intOf]; omega
        case rel =>
          have h5 := HB4.out.size
          obtain ⟨D', hD', hA'⟩ := HSeen.out.ex
          exact ⟨k + 1, by omega, by go_num, Lib.hid ⟨⟨⟨D', ownsMap_below hD' HB4.out (by omega), hA'⟩⟩, HB3.out.trans (HB4.out.mono (by omega)), (HB4.out.cell (block_lt_of_cell HZ0.out)).trans HZ0.out, (HB4.out.cell (block_lt_of_cell HZ1.out)).trans HZ1.out, by omega⟩⟩
    · obtain rfl : k = ds.length := by omega
      have hk2 : decide ((ds.length : Int) < (ds.length : Int)) = false := by simp
      go_wp2
      go_ret
      exact ⟨rfl, HR.out.2.1⟩
end Go.Proofs.Ytoeeceemoggffaa

namespace Go.Proofs.Ytoeeceemoggffaa
open Go.RowKit Go.Lib
set_option maxHeartbeats 3200000
set_option maxRecDepth 100000

theorem SDirs_walk {n pb capp : Nat} {ds : List (Int × Int)} {Bk : Nat → Nat} {V : Nat → Nat → Int} {w : World} (hS : Sn w pb n ds Bk V) (hds : ds.length ≤ 64) (ho : ∀ d ∈ ds, okD d = true) :
    Calls Try.prog 104 #[.agg #[.int .i64 n, .slice (some ⟨pb, 0, none⟩) ds.length capp]] w fun e w' => ∃ A cap, e = .returned (.slice A ds.length cap) ∧ Dirs w' A ds ∧ Below w.heap.size w w' := by
  have HS := Lib.hid hS
  have HO := Lib.hid ho
  clear hS ho
  go_enter Try.func104, Try.ntmps104
  go_wp2_with fail
  go_loopw [3, 9] (fun v i wr => ∃ k : Nat, k ≤ ds.length ∧ i = .int .i64 k ∧ Hid (wr.ownsRow w.heap.size 51 2 v k (flatD (ds.take k)) ∧ Below w.heap.size w wr)) (fun _ i _ => ds.length - (intOf i).toNat)
  case atStart => exact ⟨0, Nat.zero_le _, rfl, Lib.hid ⟨World.ownsRow_nil _ _ _ _, (Below.refl _ _).alloc (Nat.le_refl _) _⟩⟩
  case round =>
    obtain ⟨k, hk, rfl, HR⟩ := hrel
    by_cases hk1 : k < ds.length
    · have hk1' : (k : Int) < (ds.length : Int) := by omega
      have hs := HS.out.later HR.out.2
      have s0 := hs.d0 k hk1
      have s1 := hs.d1 k hk1
      have s2 := hs.d2 k hk1
      have HG := Lib.hid (dirAt_get hk1)
      obtain ⟨p, hp⟩ : ∃ p, p = (dirAt ds k).1 := ⟨_, rfl⟩
      obtain ⟨q, hq⟩ : ∃ q, q = (dirAt ds k).2 := ⟨_, rfl⟩
      rw [← hp] at s0
      rw [← hq] at s1
      have HP := Lib.hid hp
      have HQ := Lib.hid hq
      obtain ⟨i0, hi, hz⟩ := Option.map_eq_some_iff.1 infoDir
      simp only [Prod.mk.injEq] at hz
      obtain ⟨hz0, hz1, hz2⟩ := hz
      have n1 : k + 1 ≤ maxLen := by unfold maxLen; omega
      have n2 : (k + 1) * 16 ≤ 140737488355328 := by omega
      have HNn := Lib.hid (fun x => news_new (wr.alloc x) (.int .i64 p) (.int .i64 q) 51)
      clear hs hp hq
      go_wp2_with (at_builtin; refine wpList_append_lies _ (by rfl) (.tmp 13) (.tmp 16) _ (by rfl) w.heap.size 51 i0 _ 2 16 und42 hi hz0 hz1 hz2 rfl (by omega) u3 k (flatD (ds.take k)) (by rfl) ((HR.out.1.alloc _).alloc _) ⟨wr.heap.size + 1, 0, none⟩ 1 1 [.int .i64 p, .int .i64 q] (by rfl) (by rfl) (by have h9 := HNn.out (.cells #[.int .i64 p, .int .i64 q, sl (Bk k) (bnD n ds k) (bnD n ds k)] 61); rw [new_size] at h9; exact h9) (by intro u hu; simp at hu; rcases hu with rfl | rfl <;> rfl) (by omega) n1 n2 (by have := HR.out.2.size; simp; omega) (wr.heap.size + 1 + 1) (by simp) ?c6)
      case c6 =>
        intro g6 cap6 w6 hown6 hgrow6 hat6 hlt6
        have e7 : flatD (ds.take (k + 1)) = flatD (ds.take k) ++ [.int .i64 p, .int .i64 q] := by
          rw [List.take_add_one, HG.out, flatD_append, HP.out, HQ.out]
          rfl
        rw [← e7] at hown6
        have hlw := HR.out.2.size
        have hb6 : Below w.heap.size w w6 := ((HR.out.2.alloc hlw (.cells #[.int .i64 p, .int .i64 q, sl (Bk k) (bnD n ds k) (bnD n ds k)] 61)).alloc (by simp; omega) (.cells #[.int .i64 p, .int .i64 q] 51)).grown hgrow6 (by simp; omega) (fun j hj => (HR.out.1.lt j hj).1)
        have H6 := Lib.hid (And.intro hown6 hb6)
        clear hown6 hgrow6 hat6 hlt6 e7 hb6 s0 s1 s2 hi hz0 hz1 hz2
        go_wp2
        go_roundw
        case measure => simp [intOf]; omega
        case rel => exact ⟨k + 1, by omega, by go_num, H6⟩
    · obtain rfl : k = ds.length := by omega
      have hk2 : decide ((ds.length : Int) < (ds.length : Int)) = false := by simp
      have h8 := HR.out.1
      rw [List.take_length] at h8
      obtain ⟨_, A, cap, hv, _, hdirs, _⟩ := dirs_of_row h8 (fun d hd => by obtain ⟨o0, o1, o2, _, _⟩ := (okD_iff d.1 d.2).1 (HO.out d hd); unfold I64; omega) (by omega)
      subst hv
      have HDs := Lib.hid hdirs
      clear h8 hdirs
      go_wp2
      go_ret
      exact ⟨A, ⟨cap, rfl⟩, HDs.out, HR.out.2⟩
end Go.Proofs.Ytoeeceemoggffaa
