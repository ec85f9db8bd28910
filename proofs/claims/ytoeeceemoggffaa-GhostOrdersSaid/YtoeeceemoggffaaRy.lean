/- The reference's ghost of a list of directions, by its contract. -/
import Derived.Test.YtoeeceemoggffaaRm
namespace Go.Proofs.Ytoeeceemoggffaa
open Go.RowKit
set_option maxHeartbeats 3200000
set_option maxRecDepth 100000

/-- a real number as a value -/
abbrev c0 (b : Nat) : Value := .complex .f64 b 0

theorem Words.bound {xs : List Nat} {F : Nat → Nat → Int} {X N : Nat} (h : Words xs F X N) {n : Nat} (hn : n < N) : ∃ b, xs[n]? = some b ∧ (xs.map c0)[n]? = some (c0 b) ∧ Whole b (F (n % X) (n / X)) := by
  obtain ⟨b, hb, wb⟩ := h.get n hn
  exact ⟨b, hb, by rw [List.getElem?_map, hb]; rfl, wb⟩

theorem words_start (X N : Nat) : Words ((List.replicate N 0).set 0 4607182418800017408) (gh []) X N := by
  have h0 : Words (List.replicate N 0) (fun _ _ => 0) X N := Words.zeros X N (fun _ _ => rfl)
  refine h0.set (r := 4607182418800017408) (v := 1) ?_ ?_
  · have := whole_fint (a := 1) (by decide)
    rw [fint_one] at this
    exact this
  · intro n
    show g0 (n % X) (n / X) = _
    unfold g0
    by_cases hn : n = 0
    · subst hn
      rw [if_pos rfl, if_pos]
      simp
    · rw [if_neg hn, if_neg]
      rintro ⟨h1, h2⟩
      have := Nat.div_add_mod n X
      rw [h1, h2] at this
      simp at this
      omega

theorem gh_small (ds : List (Int × Int)) : ∀ k, k ≤ ds.length → k ≤ 8 → Small (gh (ds.take k)) (2 ^ k)
  | 0, _, _ => gh_nil_small
  | k + 1, hk, h8 => by
    have ih := gh_small ds k (by omega) (by omega)
    have hg : ds[k]? = some ds[k] := List.getElem?_eq_getElem (by omega)
    rw [gh_succ hg, Int.pow_succ, Int.mul_comm]
    exact gs_small ih (two_pow8 k (by omega)).1 _ _ _

theorem gh_boxed {ds : List (Int × Int)} (hok : ∀ d ∈ ds, okD d = true) : ∀ k, k ≤ ds.length → Boxed (gh (ds.take k)) (wN (ds.take k)) (hN (ds.take k))
  | 0, _ => gh_nil_boxed
  | k + 1, hk => by
    have ih := gh_boxed hok k (by omega)
    have hg : ds[k]? = some (ds[k].1, ds[k].2) := List.getElem?_eq_getElem (by omega)
    have ho := (okD_iff _ _).1 (hok _ (List.mem_of_getElem? hg))
    have hh0 : 1 ≤ mh (ds.take k) := mh_pos (fun d hd => hok d (List.mem_of_mem_take hd))
    rw [gh_succ hg, wN_succ hg, hN_succ hg ho.1 hh0]
    exact gs_boxed ih

theorem wN_take_le {ds : List (Int × Int)} (k : Nat) : wN (ds.take k) ≤ wN ds := by
  have := mw_take_le ds k
  unfold wN; omega
theorem hN_take_le {ds : List (Int × Int)} (hok : ∀ d ∈ ds, okD d = true) (k : Nat) : hN (ds.take k) ≤ hN ds := by
  have := mh_take_le hok k
  unfold hN; omega

theorem own_first {w0 w : World} {B : Nat} (e : TypeId) (z v : Value) (N : Nat) (hN : N ≤ maxLen) (hB : B ≤ w.heap.size) (hb : Below B w0 w) :
    Own B e w0 (w.alloc (.cells ((madeCells #[z] N).setIfInBounds 0 v) e)) (.slice (some ⟨w.heap.size, 0, none⟩) N N) ((List.replicate N z).set 0 v) := by
  have e1 : (madeCells #[z] N).setIfInBounds 0 v = ((List.replicate N z).set 0 v).toArray := by
    apply Array.toList_inj.1
    rw [Array.toList_setIfInBounds, toList_madeCells_one]
  have h := (Own.made w e ((List.replicate N z).set 0 v) (by simpa using hN)).lower hB hb
  rw [← e1] at h
  simpa using h

theorem step_room {ds : List (Int × Int)} (hok : ∀ d ∈ ds, okD d = true) {k : Nat} {p q : Int} (hg : ds[k]? = some (p, q)) {i X : Nat} (hv : gh (ds.take k) (i % X) (i / X) ≠ 0) :
    i % X + pmN (p, q) + ppN (p, q) < wN ds ∧ i / X + q.toNat < hN ds := by
  have hk : k < ds.length := by
    by_cases h : k < ds.length
    · exact h
    · rw [List.getElem?_eq_none (by omega)] at hg; cases hg
  have ho := (okD_iff _ _).1 (hok _ (List.mem_of_getElem? hg))
  have hh0 : 1 ≤ mh (ds.take k) := mh_pos (fun d hd => hok d (List.mem_of_mem_take hd))
  have h1 := wN_succ hg
  have h2 := hN_succ hg ho.1 hh0
  have h3 := wN_take_le (ds := ds) (k + 1)
  have h4 := hN_take_le hok (k + 1)
  have hin : i % X < wN (ds.take k) ∧ i / X < hN (ds.take k) := by
    by_cases h : i % X < wN (ds.take k) ∧ i / X < hN (ds.take k)
    · exact h
    · exact (hv (gh_boxed hok k (by omega) _ _ h)).elim
  omega

theorem rMake_yes (A : Option Addr) (cap : Nat) (ds : List (Int × Int)) (w : World) (hD : Dirs w A ds) (he : mkErr ds = 0) :
    Calls Try.prog 31 #[.slice A ds.length cap] w fun e w' => GivesGhost ds w e w' := by
  obtain ⟨h8, ht, hX, hY⟩ := mkErr_zero he
  have hok := twiceFrom_ok ds [] ht
  have hX1 := mw_pos ds
  have hY1 := mh_pos hok
  have HT := Lib.hid (fun w hD => rTwice_walk A cap ds w hD)
  rw [ht] at HT
  have HL := Lib.hid (fun w hD => rmeasures_walk A cap ds w hD hok)
  have HD := Lib.hid hD
  have HOk := Lib.hid hok
  obtain ⟨n, hn⟩ : ∃ n, n = ds.length := ⟨_, rfl⟩
  rw [← hn] at h8 HL HT ⊢
  have HN := Lib.hid hn
  have hx : (wN ds : Int) = mw ds := by unfold wN; omega
  have hy : (hN ds : Int) = mh ds := by unfold hN; omega
  obtain ⟨X, hX'⟩ : ∃ X, X = wN ds := ⟨_, rfl⟩
  obtain ⟨Y, hY'⟩ : ∃ Y, Y = hN ds := ⟨_, rfl⟩
  rw [← hX'] at hx
  rw [← hY'] at hy
  rw [← hx, ← hy] at HL
  have hX64 : X ≤ 64 := by omega
  have hY64 : Y ≤ 64 := by omega
  have hX0 : 0 < X := by omega
  have hY0 : 0 < Y := by omega
  have HX := Lib.hid hX'
  have HY := Lib.hid hY'
  obtain ⟨N, hNN⟩ : ∃ N, N = X * Y := ⟨_, rfl⟩
  have hmul : X * Y ≤ 4096 := Nat.mul_le_mul hX64 hY64
  have hN4 : N ≤ 4096 := by omega
  have hN0 : 0 < N := by rw [hNN]; exact Nat.mul_pos hX0 hY0
  have hXY : (X : Int) * (Y : Int) = (N : Int) := by rw [hNN]; exact (Int.natCast_mul _ _).symm
  have HNN := Lib.hid hNN
  have hmk := fun W => run_make_row' (P := Try.prog) 37 23 (.complex .f64 0 0) 16 Try.underlying37 infoC rfl .i64 .i64 N (by omega) (by omega) W
  have hz := (Three.made w 44 (.int .i64 0) (.int .i64 0) (.slice none 0 0))
  have HZ := Lib.hid hz
  have hDa := HD.out.later ((Below.refl w.heap.size w).alloc (Nat.le_refl _) (.cells #[.int .i64 0, .int .i64 0, .slice none 0 0] 44))
  have HDa := Lib.hid hDa
  clear hz hDa hD he hok ht hn hX' hY' hx hy hNN hmul hX hY hX1 hY1
  go_enter Try.func31, Try.ntmps31
  go_wp2_with fail
  refine (HT.out _ HDa.out).mono ?_; rintro e w1 ⟨rfl, hb⟩
  have hz := HZ.out.later hb (by simp)
  have HB := Lib.hid (((Below.refl w.heap.size w).alloc (Nat.le_refl _) (.cells #[.int .i64 0, .int .i64 0, .slice none 0 0] 44)).trans (hb.mono (by simp)))
  have HZ2 := Lib.hid hz
  clear hb hz
  go_wp2_with fail
  refine (HL.out _ (HD.out.later HB.out)).mono ?_; rintro e w2 ⟨rfl, hb⟩
  have hz := HZ2.out.later hb HZ2.out.lt
  have HZ3 := Lib.hid hz
  have HB2 := Lib.hid (HB.out.trans (hb.mono HB.out.size))
  clear hb hz
  have hO0 := Own.zeros w2 23 (.complex .f64 0 0) N (by unfold maxLen; omega)
  have HO0 := Lib.hid (hO0.lower HB2.out.size HB2.out)
  have q0 := hO0.cell (j := 0) (u := .complex .f64 0 0) (by rw [List.getElem?_replicate, if_pos hN0])
  have qf := hO0.free (by rw [List.length_replicate]) 0
  have hsz2 : w.heap.size < w2.heap.size := HZ3.out.lt
  clear hO0
  go_wp2
  go_loopw [7, 8] (fun l i wr => ∃ k gl : Nat, ∃ xs : List Nat, k ≤ n ∧ i = .int .i64 k ∧ l = .slice (some ⟨gl, 0, none⟩) N N ∧ w.heap.size < gl ∧ Words xs (gh (ds.take k)) X N ∧ Three w.heap.size (.int .i64 0) (.int .i64 0) (.slice none 0 0) wr ∧
    Own w.heap.size 23 w wr (.slice (some ⟨gl, 0, none⟩) N N) (xs.map c0)) (fun _ i _ => n - (intOf i).toNat)
  case atStart =>
    refine ⟨0, w2.heap.size, _, Nat.zero_le _, rfl, rfl, hsz2, words_start X N, ?_, ?_⟩
    · exact HZ3.out.alloc _
    · rw [List.map_set, List.map_replicate]
      exact own_first _ _ _ N (by unfold maxLen; omega) HB2.out.size HB2.out
  case round =>
    obtain ⟨k, gl, xs, hk, rfl, rfl, hgl, hws, hz, hown⟩ := hrel
    have HWs := Lib.hid hws
    have HZk := Lib.hid hz
    have HOk2 := Lib.hid hown
    clear hws hz hown q0 qf
    by_cases hlt : k < n
    · obtain ⟨p, q, b, off, hg, hp, hq, rfl, hbl, d0, d1⟩ := (HD.out.later HOk2.out.below).get (i := k) (by rw [← HN.out]; exact hlt)
      have HG := Lib.hid hg
      have HO := Lib.hid ((okD_iff p q).1 (HOk.out (p, q) (List.mem_of_getElem? hg)))
      have hszr := HOk2.out.lt.2
      obtain ⟨wa, hwa⟩ : ∃ wa, wa = wr.alloc (.cells #[.int .i64 p, .int .i64 q] 51) := ⟨_, rfl⟩
      have hsa : wa.heap.size = wr.heap.size + 1 := by rw [hwa]; simp
      have t2 : Two wr.heap.size p q wa := by rw [hwa]; exact Two.made _ _ _ _
      have HT2 := Lib.hid t2
      have hot := Own.zeros wa 23 (.complex .f64 0 0) N (by unfold maxLen; omega)
      have HOt := Lib.hid hot
      have HOl := Lib.hid (HOk2.out.later (by rw [hwa]; exact (Below.refl wr.heap.size wr).alloc (Nat.le_refl _) _) (Nat.le_refl _) : Own w.heap.size 23 w wa (.slice (some ⟨gl, 0, none⟩) N N) (xs.map c0))
      have HWa := Lib.hid hwa
      clear hg hp hq t2 hot hwa
      go_wp2
      rw [← HWa.out]
      obtain ⟨gt, hgt⟩ : ∃ gt, gt = wr.heap.size + 1 := ⟨_, rfl⟩
      obtain ⟨wt, hwt⟩ : ∃ wt, wt = wa.alloc (.cells (madeCells #[.complex .f64 0 0] N) 23) := ⟨_, rfl⟩
      have hot := HOt.out
      rw [hsa, ← hgt, ← hwt] at hot
      have hbt : Below gt wa wt := by rw [hwt]; exact (Below.refl _ _).alloc (by omega) _
      have HBt := Lib.hid hbt
      have HOt2 := Lib.hid hot
      have HT2t := Lib.hid (HT2.out.later hbt (by omega))
      have HOlt := Lib.hid (HOl.out.later hbt (by omega))
      rw [← hgt, ← hwt]
      have hglt : gl < gt := by omega
      have hdgt : wr.heap.size < gt := by omega
      have HGt := Lib.hid hgt
      clear hot hbt hwt hgt
      go_loopw [11] (fun s wz => ∃ y : Nat, ∃ ts : List Nat, y ≤ Y ∧ s = .int .i64 y ∧ Words ts (mid (gh (ds.take k)) X (pmN (p, q)) (ppN (p, q)) q.toNat (y * X) (y * X)) X N ∧ wt.grownBy wz (some gt) ∧ Own gt 23 wa wz (.slice (some ⟨gt, 0, none⟩) N N) (ts.map c0)) (fun s _ => Y - (intOf s).toNat)
      case atStart =>
        refine ⟨0, List.replicate N 0, Nat.zero_le _, rfl, ?_, World.grownBy.refl _ _, ?_⟩
        · rw [Nat.zero_mul]; exact Words.zeros X N (mid_zero _ _ _ _ _)
        · rw [List.map_replicate]; exact HOt2.out
      case round =>
        obtain ⟨y, ts, hy, rfl, hwt, hgr, hown⟩ := hrel
        have HWt := Lib.hid hwt
        have HGr := Lib.hid hgr
        have HOy := Lib.hid hown
        clear hwt hgr hown
        by_cases hly : y < Y
        · go_wp2
          go_loopw [12] (fun s wz => ∃ x : Nat, ∃ ts : List Nat, x ≤ X ∧ s = .int .i64 x ∧ Words ts (mid (gh (ds.take k)) X (pmN (p, q)) (ppN (p, q)) q.toNat (y * X + x) (y * X + x)) X N ∧ wt.grownBy wz (some gt) ∧ Own gt 23 wa wz (.slice (some ⟨gt, 0, none⟩) N N) (ts.map c0)) (fun s _ => X - (intOf s).toNat)
          case atStart => exact ⟨0, ts, Nat.zero_le _, rfl, HWt.out, HGr.out, HOy.out⟩
          case round =>
            obtain ⟨x, ts, hx, rfl, hwt, hgr, hown⟩ := hrel
            have HWx := Lib.hid hwt
            have HGx := Lib.hid hgr
            have HOx := Lib.hid hown
            clear hwt hgr hown
            by_cases hlx : x < X
            · obtain ⟨Sy, hSy⟩ : ∃ Sy, Sy = y * X := ⟨_, rfl⟩
              have hprod : (y : Int) * (X : Int) = (Sy : Int) := by rw [hSy]; exact (Int.natCast_mul _ _).symm
              have hsN : Sy + x < N := by
                rw [hSy, HNN.out]
                have : (y + 1) * X ≤ Y * X := Nat.mul_le_mul_right _ hly
                rw [Nat.add_mul, Nat.mul_comm Y X] at this
                omega
              rw [← hSy] at HWx
              obtain ⟨v, _, hvc, hvw⟩ := HWs.out.bound hsN
              have cl := HGx.out.cell (HOlt.out.cell hvc) (by simp <;> omega)
              have HV := Lib.hid hvw
              have HSy := Lib.hid hSy
              have q3 : (FloatKind.f64.format.order 0 0 == some Ordering.eq) = true := by decide +kernel
              have HGz := Lib.hid hvw.zero
              clear hSy hvc hvw
              by_cases hz0 : gh (ds.take k) ((Sy + x) % X) ((Sy + x) / X) = 0
              · have hq1 : (FloatKind.f64.format.order v 0 == some Ordering.eq) = true := by
                  have := feq_zero HV.out.lt
                  have h2 := HGz.out.2 hz0
                  rw [decide_eq_true h2] at this
                  exact this
                have HZ0 := Lib.hid hz0
                clear hz0
                go_wp2
                go_roundw
                case rel =>
                  refine ⟨x + 1, ts, by omega, by go_num, ?_, HGx.out, HOx.out⟩
                  rw [← HSy.out, ← Nat.add_assoc]
                  exact HWx.out.congr (fun a b => (mid_same _ hX0 HZ0.out a b).symm)
                case measure => simp [intOf]; omega
              · have hq1 : (FloatKind.f64.format.order v 0 == some Ordering.eq) = false := by
                  have := feq_zero HV.out.lt
                  have h2 : ¬ v % 2 ^ 63 = 0 := fun h => hz0 (HGz.out.1 h)
                  rw [decide_eq_false h2] at this
                  exact this
                have HZ0 := Lib.hid hz0
                clear hz0
                have td := HT2t.out.grown HGx.out (by omega)
                obtain ⟨_, d0, d1, _, _⟩ := td
                obtain ⟨o0, o1, o2, _, _⟩ := HO.out
                have hpm : (pmN (p, q) : Int) = max (-p) 0 := by unfold pmN; simp only; omega
                have hpp : (ppN (p, q) : Int) = max p 0 := by unfold ppN; simp only; omega
                have HPm := Lib.hid hpm
                have HPp := Lib.hid hpp
                clear hpm hpp
                go_upto_region 24 with fail
                go_cut [14] from 64 to 118 (fun s14 wx => s14 = .int .i64 ((Sy + x + pmN (p, q) : Nat) : Int) ∧ wr = wx)
                case first =>
                  go_wp2
                  all_goals (go_meet; refine ⟨congrArg (Value.int IntKind.i64) ?_, rfl⟩; have := HPm.out; omega)
                case rest =>
                  obtain ⟨rfl, rfl⟩ := hcut
                  obtain ⟨Z1, hZ1⟩ : ∃ Z1, Z1 = (y + q.toNat) * X := ⟨_, rfl⟩
                  have hprod2 : ((y : Int) + q) * (X : Int) = (Z1 : Int) := by
                    rw [hZ1, Int.natCast_mul, Int.natCast_add]
                    congr 2
                    omega
                  have hZ4 : Z1 ≤ 80 * 64 := by rw [hZ1]; exact Nat.mul_le_mul (by omega) hX64
                  have HZ1 := Lib.hid hZ1
                  clear hZ1
                  go_upto_region 25 with fail
                  go_cut [15] from 64 to 118 (fun s15 wx => s15 = .int .i64 ((Z1 + x + ppN (p, q) : Nat) : Int) ∧ wr = wx)
                  case first =>
                    go_wp2
                    all_goals (go_meet; refine ⟨congrArg (Value.int IntKind.i64) ?_, rfl⟩; have := HPp.out; omega)
                  case rest =>
                    obtain ⟨rfl, rfl⟩ := hcut
                    have hroom := step_room HOk.out HG.out HZ0.out
                    rw [← HX.out, ← HY.out] at hroom
                    have hmodx : (Sy + x) % X = x := by
                      rw [HSy.out, Nat.add_comm, Nat.add_mul_mod_self_right, Nat.mod_eq_of_lt hlx]
                    have hdivx : (Sy + x) / X = y := by
                      rw [HSy.out, Nat.add_comm, Nat.add_mul_div_right _ _ hX0, Nat.div_eq_of_lt hlx, Nat.zero_add]
                    rw [hmodx, hdivx] at hroom
                    have HMd := Lib.hid hmodx
                    have HDv := Lib.hid hdivx
                    have hA : Sy + x + pmN (p, q) < N := by
                      have : (y + 1) * X ≤ Y * X := Nat.mul_le_mul_right _ hly
                      rw [Nat.add_mul, Nat.mul_comm Y X, ← HNN.out, Nat.one_mul, ← HSy.out] at this
                      omega
                    have hB : Z1 + x + ppN (p, q) < N := by
                      have : (y + q.toNat + 1) * X ≤ Y * X := Nat.mul_le_mul_right _ hroom.2
                      rw [Nat.add_mul, Nat.mul_comm Y X, ← HNN.out, Nat.one_mul, ← HZ1.out] at this
                      omega
                    have hsm := gh_small ds k (by rw [← HN.out]; omega) (by omega)
                    have hpw := two_pow8 k (by omega)
                    have hmid1 := mid_small hsm hpw.1 X (pmN (p, q)) (ppN (p, q)) q.toNat (Sy + x) (Sy + x) ((Sy + x + pmN (p, q)) % X) ((Sy + x + pmN (p, q)) / X)
                    have hmid2 := mid_small hsm hpw.1 X (pmN (p, q)) (ppN (p, q)) q.toNat (Sy + x + 1) (Sy + x) ((Z1 + x + ppN (p, q)) % X) ((Z1 + x + ppN (p, q)) / X)
                    have hgv := hsm ((Sy + x) % X) ((Sy + x) / X)
                    obtain ⟨u, _, huc, huw⟩ := HWx.out.bound hA
                    have cu := HOx.out.cell huc
                    have fu := HOx.out.free (by rw [List.length_map, HWx.out.len]) (Sy + x + pmN (p, q))
                    obtain ⟨re, hre, wre⟩ := whole_add huw HV.out (by omega)
                    have him : fadd 0 0 = some 0 := by decide +kernel
                    have HC1 := Lib.hid (fun W => rAdd_walk u 0 v 0 re 0 W hre him)
                    have hst := big_first (gh (ds.take k)) (X := X) (pm := pmN (p, q)) (pp := ppN (p, q)) (q := q.toNat) (i := Sy + x) (j := Sy + x) (gh_boxed HOk.out k (by rw [← HN.out]; omega)) (by have := wN_succ HG.out; have := wN_take_le (ds := ds) (k + 1); have := HX.out; omega) hX0 HZ0.out
                    rw [hmodx, hdivx, ← HSy.out] at hst
                    have hw1 : Words (ts.set (Sy + x + pmN (p, q)) re) (mid (gh (ds.take k)) X (pmN (p, q)) (ppN (p, q)) q.toNat (Sy + x + 1) (Sy + x)) X N := by
                      refine HWx.out.set wre ?_
                      intro n
                      rw [hst n]
                      by_cases hn : n = Sy + x + pmN (p, q)
                      · rw [if_pos hn, if_pos hn, hn, hmodx, hdivx]
                      · rw [if_neg hn, if_neg hn]
                    have HW1 := Lib.hid hw1
                    have HSt := Lib.hid hst
                    have hA2 := hA
                    have hB2 := hB
                    have hGlt := HOx.out.lt
                    clear hst hw1 huc huw hre wre him hroom hmodx hdivx hsm hpw hmid1 hmid2 hgv
                    go_wp2_with fail
                    refine (HC1.out _).mono ?_; rintro e w' ⟨rfl, rfl⟩
                    have ho1 := HOx.out.stored (by rw [List.length_map, HWx.out.len]) (Sy + x + pmN (p, q)) (c0 re)
                    rw [← List.map_set] at ho1
                    have hg1 := grown_store HGx.out (Drawn.refl _) (Sy + x + pmN (p, q)) (c0 re)
                    have HO1 := Lib.hid ho1
                    have HG1 := Lib.hid hg1
                    obtain ⟨u2, _, huc, huw⟩ := HW1.out.bound hB
                    have cu2 := HO1.out.cell huc
                    have fu2 := HO1.out.free (by rw [List.length_map, HW1.out.len]) (Z1 + x + ppN (p, q))
                    have hsm := gh_small ds k (by rw [← HN.out]; omega) (by omega)
                    have hpw := two_pow8 k (by omega)
                    have hmid2 := mid_small hsm hpw.1 X (pmN (p, q)) (ppN (p, q)) q.toNat (Sy + x + 1) (Sy + x) ((Z1 + x + ppN (p, q)) % X) ((Z1 + x + ppN (p, q)) / X)
                    have hgv := hsm ((Sy + x) % X) ((Sy + x) / X)
                    obtain ⟨re2, hre, wre⟩ := whole_sub huw HV.out (by omega)
                    have him : fsub 0 0 = some 0 := by decide +kernel
                    have HC2 := Lib.hid (fun W => rSub_walk u2 0 v 0 re2 0 W hre him)
                    have hst := big_second (gh (ds.take k)) (X := X) (pm := pmN (p, q)) (pp := ppN (p, q)) (q := q.toNat) (i := Sy + x + 1) (j := Sy + x) (gh_boxed HOk.out k (by rw [← HN.out]; omega)) (by have := wN_succ HG.out; have := wN_take_le (ds := ds) (k + 1); have := HX.out; omega) hX0 HZ0.out
                    rw [HMd.out, HDv.out, ← HZ1.out] at hst
                    have hw2 : Words ((ts.set (Sy + x + pmN (p, q)) re).set (Z1 + x + ppN (p, q)) re2) (mid (gh (ds.take k)) X (pmN (p, q)) (ppN (p, q)) q.toNat (Sy + x + 1) (Sy + x + 1)) X N := by
                      refine HW1.out.set wre ?_
                      intro n
                      rw [hst n]
                      by_cases hn : n = Z1 + x + ppN (p, q)
                      · rw [if_pos hn, if_pos hn, hn, HMd.out, HDv.out]
                      · rw [if_neg hn, if_neg hn]
                    have HW2 := Lib.hid hw2
                    clear hst hw2 huc huw hre wre him hsm hpw hmid2 hgv ho1 hg1
                    go_wp2_with fail
                    refine (HC2.out _).mono ?_; rintro e w' ⟨rfl, rfl⟩
                    have ho2 := HO1.out.stored (by rw [List.length_map, HW1.out.len]) (Z1 + x + ppN (p, q)) (c0 re2)
                    rw [← List.map_set] at ho2
                    have hg2 := grown_store HG1.out (Drawn.refl _) (Z1 + x + ppN (p, q)) (c0 re2)
                    have HO2 := Lib.hid ho2
                    have HG2 := Lib.hid hg2
                    clear ho2 hg2
                    go_wp2
                    go_roundw
                    case rel =>
                      refine ⟨x + 1, _, by omega, by go_num, ?_, HG2.out, HO2.out⟩
                      rw [← HSy.out, ← Nat.add_assoc]
                      exact HW2.out
                    case measure => simp [intOf]; omega
            · obtain rfl : x = X := by omega
              go_wp2
              go_roundw
              case rel => exact ⟨y + 1, ts, by omega, by go_num, by rw [Nat.add_mul, Nat.one_mul]; exact HWx.out, HGx.out, HOx.out⟩
              case measure => simp [intOf]; omega
        · obtain rfl : y = Y := by omega
          go_wp2
          go_roundw
          case rel =>
            refine ⟨k + 1, gt, ts, by omega, by go_num, rfl, by omega, ?_, ?_, ?_⟩
            · rw [gh_succ HG.out]
              refine HWt.out.congr (fun a b => ?_)
              rw [Nat.mul_comm y X]
              exact mid_all ((gh_boxed HOk.out k (by rw [← HN.out]; omega)).mono (by rw [HX.out]; exact wN_take_le k) (by rw [HY.out]; exact hN_take_le HOk.out k)) a b
            · have h1 : Three w.heap.size (.int .i64 0) (.int .i64 0) (.slice none 0 0) wa := by rw [HWa.out]; exact HZk.out.alloc _
              exact (h1.later HBt.out (by omega)).grown HGr.out (by omega)
            · exact HOy.out.lower (by omega) (by rw [HWa.out]; exact HOk2.out.below.alloc (by omega) _)
          case measure => simp [intOf]; omega
    · obtain rfl : k = n := by omega
      have hgl2 := HOk2.out.lt
      go_wp2
      go_loopw [16] (fun i wz => ∃ j : Nat, ∃ zs : List Nat, j ≤ N ∧ i = .int .i64 j ∧ Words zs (gh ds) X N ∧ (∀ m, m < j → zs[m]? = some (fint (gh ds (m % X) (m / X)))) ∧ Three w.heap.size (.int .i64 0) (.int .i64 0) (.slice none 0 0) wz ∧
        Own w.heap.size 23 w wz (.slice (some ⟨gl, 0, none⟩) N N) (zs.map c0)) (fun i _ => N - (intOf i).toNat)
      case atStart =>
        refine ⟨0, xs, Nat.zero_le _, rfl, ?_, fun m h => (Nat.not_lt_zero _ h).elim, HZk.out, HOk2.out⟩
        have := HWs.out
        rw [HN.out, List.take_length] at this
        exact this
      case round =>
        obtain ⟨j, zs, hj, rfl, hws, hpl, hz, hown⟩ := hrel
        have HWz := Lib.hid hws
        have HPl := Lib.hid hpl
        have HZz := Lib.hid hz
        have HOz := Lib.hid hown
        clear hws hpl hz hown
        by_cases hlj : j < N
        · obtain ⟨v, hvx, hvc, hvw⟩ := HWz.out.bound hlj
          have cv0 := HOz.out.cell hvc
          have fv0 := HOz.out.free (by rw [List.length_map, HWz.out.len]) j
          have hsm := gh_small ds k (by rw [← HN.out]; omega) (by omega) (j % X) (j / X)
          rw [HN.out, List.take_length] at hsm
          rw [← HN.out] at hsm
          have hpw := two_pow8 k (by omega)
          have hb : (gh ds (j % X) (j / X)).natAbs < 2 ^ 53 := by omega
          have hp2 : plain2 (v, 0) = (fint (gh ds (j % X) (j / X)), 0) := by
            unfold plain2
            rw [hvw.plain hb, plain1_zero]
          have HC := Lib.hid (fun W => rPlain_walk v 0 W)
          rw [hp2] at HC
          have hw2 : Words (zs.set j (fint (gh ds (j % X) (j / X)))) (gh ds) X N := by
            refine HWz.out.set (whole_fint hb) (fun m => ?_)
            by_cases hm : m = j
            · rw [if_pos hm, hm]
            · rw [if_neg hm]
          have hpl2 : ∀ m, m < j + 1 → (zs.set j (fint (gh ds (j % X) (j / X))))[m]? = some (fint (gh ds (m % X) (m / X))) := by
            intro m hm
            rw [List.getElem?_set]
            by_cases e : j = m
            · subst e; rw [if_pos rfl, if_pos (by rw [HWz.out.len]; exact hlj)]
            · rw [if_neg e]; exact HPl.out m (by omega)
          have HW2 := Lib.hid hw2
          have HPl2 := Lib.hid hpl2
          obtain ⟨F, hF⟩ : ∃ F, F = fint (gh ds (j % X) (j / X)) := ⟨_, rfl⟩
          rw [← hF] at HC HW2 HPl2
          clear hvx hvc hvw hsm hpw hb hp2 hw2 hpl2 hF
          go_wp2_with fail
          refine (HC.out _).mono ?_; rintro e w' ⟨rfl, rfl⟩
          have ho2 := HOz.out.stored (by rw [List.length_map, HWz.out.len]) j (c0 F)
          rw [← List.map_set] at ho2
          have HO2 := Lib.hid ho2
          have hz2 : Three w.heap.size (.int .i64 0) (.int .i64 0) (.slice none 0 0) (wr.setCell ⟨gl, j, none⟩ (c0 F)) := HZz.out.grown (grown_store (World.grownBy.refl _ _) (Drawn.refl _) j (c0 F)) (by omega)
          have HZ2 := Lib.hid hz2
          clear ho2 hz2
          go_wp2
          go_roundw
          case rel => exact ⟨j + 1, _, by omega, by go_num, HW2.out, HPl2.out, HZ2.out, HO2.out⟩
          case measure => simp [intOf]; omega
        · obtain rfl : j = N := by omega
          obtain ⟨l6, e60, e61, e62, f60, f61, f62⟩ := HZz.out
          go_wp2
          have hz3 := HZz.out.set (.int .i64 X) (.int .i64 Y) (.slice (some ⟨gl, 0, none⟩) j j)
          refine bodyPost_ret (v := .tuple #[ghV X Y gl j j, .int .i64 0]) (by simp [results, Try.results31, go_sem, hz3.c0, hz3.c1, hz3.c2]) rfl ⟨gl, ?_, ?_⟩
          · rw [← HX.out, ← HY.out, ← HNN.out]
          · rw [← HX.out, ← HY.out, ← HNN.out]
            have e : zs.map c0 = (cellsG (gh ds) X j).map cv := by
              apply List.ext_getElem?
              intro m
              rw [List.getElem?_map, List.getElem?_map]
              by_cases hm : m < j
              · rw [HPl.out m hm, cellsG_get _ hm]; rfl
              · rw [List.getElem?_eq_none (by rw [HWz.out.len]; omega), List.getElem?_eq_none (by rw [cellsG_length]; omega)]; rfl
            rw [← e]
            exact ((HOz.out.other (by omega) (Nat.le_refl _) 0 _).other (by omega) (Nat.le_refl _) 1 _).other (by omega) (Nat.le_refl _) 2 _
end Go.Proofs.Ytoeeceemoggffaa
