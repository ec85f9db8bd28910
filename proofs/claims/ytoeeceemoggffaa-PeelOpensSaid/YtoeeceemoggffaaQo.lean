/- PeelOrders: the walk. -/
import Derived.Test.YtoeeceemoggffaaAf
namespace Go.Proofs.Ytoeeceemoggffaa
open Go.RowKit Go.Lib
set_option maxHeartbeats 1600000
set_option maxRecDepth 100000

theorem ord_drop {ds : List (Int × Int)} {m : Nat} {d : Int × Int} (h : ds[m]? = some d) : (ds.drop m).reverse = (ds.drop (m + 1)).reverse ++ [d] := by
  obtain ⟨hi, rfl⟩ := List.getElem?_eq_some_iff.1 h
  rw [List.drop_eq_getElem_cons hi, List.reverse_cons]
theorem ord_one (w : World) (p q : Int) (hp : I64 p) (hq : I64 q) : Dirs (w.alloc (.cells #[.int .i64 p, .int .i64 q] 51)) (some ⟨w.heap.size, 0, none⟩) [(p, q)] := by
  refine ⟨fun i d hi => ?_, fun d hd => ?_, by simp⟩
  · match i, hi with
    | 0, hi =>
      obtain rfl : (p, q) = d := by simpa using hi
      exact ⟨w.heap.size, 0, rfl, by simp, new_cell _ _ _ 0, new_cell _ _ _ 1⟩
  · obtain rfl : d = (p, q) := by simpa using hd
    exact ⟨hp, hq⟩
theorem twice_take {ds : List (Int × Int)} (h : twice ds = 0) (r : Nat) : twice (ds.take r) = 0 := by
  obtain ⟨ho, hn⟩ := twice_ok h
  exact (twiceFrom_zero _ []).2 ⟨fun d hd => ho d (List.mem_of_mem_take hd), fun d _ h => (by cases h), List.Pairwise.sublist (List.take_sublist r ds) hn⟩
theorem Dirs.take {w : World} {A : Option Addr} {ds : List (Int × Int)} (h : Dirs w A ds) (r : Nat) : Dirs w A (ds.take r) := by
  refine ⟨fun i d hd => ?_, fun d hd => h.i64 d (List.mem_of_mem_take hd), by have := h.len; rw [List.length_take]; omega⟩
  refine h.at_ i d ?_
  rw [List.getElem?_take] at hd
  split at hd
  · exact hd
  · cases hd
theorem drewN_two (w : World) (a b : Nat) : (w.drewN a).drewN b = w.drewN (a + b) := by
  unfold World.drewN
  simp only [World.mk.injEq, true_and, and_true]
  omega

/-- sameOpen on two equal lists -/
theorem Same_walk (o1 o2 M c1 c2 : Nat) (S1 S2 : Nat → Bool) (w : World) (h1 : w.rowIs o1 4 M fun i => .bool (S1 i)) (h2 : w.rowIs o2 4 M fun i => .bool (S2 i)) (he : ∀ c, c < M → S1 c = S2 c) (hM : M ≤ 100000) :
    Calls Try.prog 47 #[sl o1 M c1, sl o2 M c2] w fun e w' => e = .returned (.bool true) ∧ Below w.heap.size w w' := by
  have H1 := Lib.hid h1
  have H2 := Lib.hid h2
  have HE := Lib.hid he
  have hMM : ((M : Int) == (M : Int)) = true := by simp
  clear h1 h2 he
  go_enter Try.func47, Try.ntmps47
  go_wp2_with fail
  go_loopw [5] (fun i wr => ∃ m : Nat, m ≤ M ∧ i = .int .i64 m ∧ Hid (∃ z, wr = w.drewN z)) (fun i _ => M - (intOf i).toNat)
  case atStart => exact ⟨0, Nat.zero_le _, rfl, Lib.hid ⟨0, rfl⟩⟩
  case round =>
    obtain ⟨m, hm, rfl, HZ⟩ := hrel
    by_cases hm1 : m < M
    · have hm1' : (m : Int) < (M : Int) := by omega
      have x1 : wr.cell? ⟨o1, m, none⟩ = some (.bool (S1 m)) := by obtain ⟨z, rfl⟩ := HZ.out; exact H1.out.cell hm1
      have x2 : wr.cell? ⟨o2, m, none⟩ = some (.bool (S1 m)) := by obtain ⟨z, rfl⟩ := HZ.out; rw [HE.out m hm1]; exact H2.out.cell hm1
      generalize S1 m = sb at *
      go_wp2_with fail
      go_quiet (fail)
      cases sb
      · go_wp2
        go_roundw
        case measure => simp [intOf]; omega
        case rel => exact ⟨m + 1, by omega, by go_num, Lib.hid (by obtain ⟨z, rfl⟩ := HZ.out; exact ⟨z + nq, drewN_two _ _ _⟩)⟩
      · go_wp2
        go_roundw
        case measure => simp [intOf]; omega
        case rel => exact ⟨m + 1, by omega, by go_num, Lib.hid (by obtain ⟨z, rfl⟩ := HZ.out; exact ⟨z + nq, drewN_two _ _ _⟩)⟩
    · obtain rfl : m = M := by omega
      have hm2 : decide ((m : Int) < (m : Int)) = false := by simp
      go_wp2
      go_ret
      exact ⟨rfl, by obtain ⟨z, rfl⟩ := HZ.out; exact ⟨rfl, rfl, rfl, Nat.le_refl _, fun _ _ => rfl⟩⟩

theorem PeelOrders_walk (n : Int) (hn : I64 n) (A : Option Addr) (cap : Nat) (ds : List (Int × Int)) (k : Int) (_hk : I64 k) (w : World) (hD : Dirs w A ds) (_hcap : ds.length ≤ cap) :
    Calls Try.prog 13 #[.int .i64 n, .slice A ds.length cap, .int .i64 k] w fun e w' => e = .returned (.bool true) ∧ Below w.heap.size w w' := by
  have C0 := Lib.hid (alive14_walk w)
  have HD := Lib.hid hD
  by_cases he : openE n ds = 0
  · obtain ⟨h1, h2, h3, h4⟩ := openE_zero.1 he
    obtain ⟨m, rfl⟩ : ∃ m : Nat, n = (m : Int) := ⟨n.toNat, by omega⟩
    have C1 := Lib.hid (fun A cap es w hD h3 h4 => Open_yes (A := A) (capd := cap) (ds := es) (w := w) m hD (by omega) (by omega) h3 h4)
    have HI := Lib.hid hD.i64
    have HR4 := Lib.hid ((twice_reverse ds).2 h4)
    have H4 := Lib.hid h4
    have HIr : Hid (∀ d ∈ ds.reverse, I64 d.1 ∧ I64 d.2) := Lib.hid (fun d h => hD.i64 d (by simpa using h))
    have HLr : Hid (ds.reverse.length ≤ 17592186044416) := Lib.hid (by rw [List.length_reverse]; exact hD.len)
    obtain ⟨N, hN⟩ : ∃ N, N = ds.length := ⟨_, rfl⟩
    obtain ⟨M, hM⟩ : ∃ M, M = m * m := ⟨_, rfl⟩
    have hM4 : M ≤ 4096 := by rw [hM]; exact Nat.mul_le_mul (show m ≤ 64 by omega) (show m ≤ 64 by omega)
    rw [← hM] at C1
    have HNe := Lib.hid hN
    have HMe := Lib.hid hM
    have hN64 : N ≤ 64 := by omega
    rw [← hN]
    clear hD he h1 h2 h3 h4 hM hN
    go_enter Try.func13, Try.ntmps13
    go_wp2_with fail
    refine C0.out.mono ?_; rintro e w1 ⟨rfl, hb1⟩
    have HB1 := Lib.hid hb1
    have HC1 := Lib.hid (C1.out A cap ds w1 (HD.out.later hb1) (by have := HNe.out; omega) H4.out)
    rw [← HNe.out] at HC1
    clear hb1
    go_wp2_with fail
    refine HC1.out.mono ?_; rintro e w2 ⟨o1, S1, rfl, hol1, hr1, hc1, hb2⟩
    have HB2 := Lib.hid (HB1.out.trans (hb2.mono HB1.out.size))
    have HR1 := Lib.hid hr1
    have HS1 := Lib.hid hc1
    clear hb2 hr1 hc1 HC1 hol1
    go_wp2
    go_loopw [9, 10] (fun l i wr => ∃ (r : Nat) (x : Int) (v : Value), r ≤ N ∧ i = .int .i64 x ∧ x = (r : Int) - 1 ∧ l = v ∧ wr.ownsRow w2.heap.size 51 2 v (N - r) (flatD (ds.drop r).reverse) ∧ Below w2.heap.size w2 wr) (fun _ i _ => (intOf i + 1).toNat)
    case atStart =>
      refine ⟨N, _, _, Nat.le_refl _, rfl, rfl, rfl, ?_, Below.refl _ _⟩
      rw [HNe.out, List.drop_length, Nat.sub_self]
      exact World.ownsRow_nil _ _ _ _
    case round =>
      obtain ⟨r, x, v, hr, rfl, hx, rfl, ho, hb⟩ := hrel
      have HO := Lib.hid ho
      have HB := Lib.hid hb
      clear ho hb
      cases r with
      | succ q0 =>
        obtain rfl : x = (q0 : Int) := by omega
        obtain ⟨p, q, b, off, hg, hp, hq, rfl, hbl, c0, c1⟩ := (HD.out.later (HB2.out.trans (HB.out.mono HB2.out.size))).get (i := q0) (by rw [← HNe.out]; omega)
        have HG := Lib.hid hg
        have HP := Lib.hid hp
        have HQ := Lib.hid hq
        clear hg hp hq hx
        go_wp2_with (at_builtin; refine append_dirs (w0 := w2) w2.heap.size rfl (.tmp 35) (.tmp 40) rfl _ _ (ds.drop (q0 + 1)).reverse (some ⟨wr.heap.size, 0, none⟩) 1 [(p, q)] rfl rfl (fun h => by cases h) (HO.out.alloc _) (by have := HB.out.size; simp; omega) (HB.out.alloc HB.out.size _) (ord_one _ _ _ HP.out HQ.out) ?c5 ?c6)
        case c5 =>
          have := HNe.out
          simp
          omega
        case c6 =>
          intro v1 w3 ho hb3 hs3
          have HO3 := Lib.hid ho
          have HB3 := Lib.hid hb3
          clear ho hb3
          go_wp2
          go_roundw
          case rel =>
            refine ⟨q0, _, _, by omega, rfl, rfl, rfl, ?_, HB3.out⟩
            have := HO3.out
            rw [ord_drop HG.out, show N - q0 = N - (q0 + 1) + 1 from by omega]
            exact this
          case measure => simp [intOf] <;> omega
      | zero =>
        obtain rfl : x = -1 := by omega
        have ho := HO.out
        rw [Nat.sub_zero, List.drop_zero] at ho
        obtain ⟨hnn, A1, cap1, rfl, hcap1, hD1, _⟩ := dirs_of_row ho HIr.out HLr.out
        clear hnn
        have HD1 := Lib.hid hD1
        have HBw := Lib.hid (HB2.out.trans (HB.out.mono HB2.out.size))
        have HRa := Lib.hid (HR1.out.of_block (HB.out.block o1 HR1.out.lt))
        have HC2 := Lib.hid (C1.out A1 cap1 ds.reverse wr hD1 (by rw [List.length_reverse]; have := HNe.out; omega) HR4.out)
        rw [List.length_reverse, ← HNe.out] at HC2
        clear ho hD1 hx
        go_wp2_with fail
        refine HC2.out.mono ?_; rintro e w3 ⟨o2, S2, rfl, hol2, hr2, hc2, hb3⟩
        have HB3 := Lib.hid (HBw.out.trans (hb3.mono HBw.out.size))
        have HRb := Lib.hid (HRa.out.of_block (hb3.block o1 HRa.out.lt))
        have HR2 := Lib.hid hr2
        have HD2 := Lib.hid (HD1.out.later hb3)
        have heq : ∀ c, c < M → S1 c = S2 c := fun c hc => HS1.out.uniq hc2 (fun d => by simp) c (by rw [← HMe.out]; exact hc)
        have HSm := Lib.hid (Same_walk o1 o2 M M M S1 S2 w3 HRb.out hr2 heq (by omega))
        have HEq := Lib.hid heq
        clear hb3 hr2 hc2 HC2 hol2 heq
        go_wp2_with fail
        refine HSm.out.mono ?_; rintro e w4 ⟨rfl, hb4⟩
        have HB4 := Lib.hid (HB3.out.trans (hb4.mono HB3.out.size))
        have HRc := Lib.hid (HRb.out.of_block (hb4.block o1 HRb.out.lt))
        have HR2c := Lib.hid (HR2.out.of_block (hb4.block o2 HR2.out.lt))
        have HD3 := Lib.hid (HD2.out.later hb4)
        have HSm2 := Lib.hid (Same_walk o1 o2 M M M S1 S2 w4 HRc.out HR2c.out HEq.out (by omega))
        clear hb4 HSm
        by_cases hN0 : N = 0
        · have hN0' : ((N : Int) == 0) = true := by rw [hN0]; rfl
          go_wp2_with fail
          refine HSm2.out.mono ?_; rintro e w5 ⟨rfl, hb5⟩
          have HB5 := Lib.hid (HB4.out.trans (hb5.mono HB4.out.size))
          clear hb5
          go_wp2
          go_ret
          exact ⟨rfl, HB5.out⟩
        · have hN0' : ((N : Int) == 0) = false := by
            have : (N : Int) ≠ 0 := by omega
            simpa using this
          obtain ⟨ku, hku⟩ : ∃ ku, ku = IntKind.u64.wrap k := ⟨_, rfl⟩
          have hku0 : 0 ≤ ku := by rw [hku, IntKind.wrap_u64]; omega
          obtain ⟨r, hr, hrN⟩ : ∃ r : Nat, ku.tmod (N : Int) = (r : Int) ∧ r < N := ⟨(ku % (N : Int)).toNat, by rw [Int.tmod_eq_emod_of_nonneg hku0, Int.toNat_of_nonneg (Int.emod_nonneg _ (by omega))], by have := Int.emod_lt_of_pos ku (show (0 : Int) < N by omega); have := Int.emod_nonneg ku (show (N : Int) ≠ 0 by omega); omega⟩
          have hcv1 : ∀ W, (convert 3 74 (.int .i64 k)).run Try.prog W = .ok (.int .u64 ku) W := by
            intro W
            simp [go_sem, hku]
          have hcv2 : ∀ W, (convert 3 74 (.int .i64 (N : Int))).run Try.prog W = .ok (.int .u64 (N : Int)) W := by
            intro W
            have hw : IntKind.u64.wrap (N : Int) = (N : Int) := IntWalk.u64_in _ (by omega)
            simp [go_sem, hw]
          have hcv3 : ∀ W, (convert 74 3 (.int .u64 (r : Int))).run Try.prog W = .ok (.int .i64 (r : Int)) W := by
            intro W
            have hw : IntKind.i64.wrap (r : Int) = (r : Int) := IntWalk.i64_in _ (by omega)
            simp [go_sem, hw]
          have HC3 := Lib.hid (C1.out A1 cap1 (ds.reverse.take r) w4 (HD3.out.take r) (by rw [List.length_take]; omega) (twice_take HR4.out r))
          have hlt : (ds.reverse.take r).length = r := by rw [List.length_take, List.length_reverse]; have := HNe.out; omega
          rw [hlt] at HC3
          clear hku HSm2 hlt
          go_wp2_with fail
          refine HC3.out.mono ?_; rintro e w5 ⟨o3, S3, rfl, hol3, hr3, hc3, hb5⟩
          have HB5 := Lib.hid (HB4.out.trans (hb5.mono HB4.out.size))
          have HRd := Lib.hid (HRc.out.of_block (hb5.block o1 HRc.out.lt))
          have HR3 := Lib.hid hr3
          have HSub : Hid (∀ c, c < M → S1 c = true → S3 c = true) := Lib.hid (fun c hc hs => HS1.out.sub hc3 (fun d hd => by simpa using List.mem_of_mem_take hd) c (by rw [← HMe.out]; exact hc) hs)
          have hMM : ((M : Int) == (M : Int)) = true := by simp
          clear hb5 hr3 hc3 HC3 hol3 hcv1 hcv2 hcv3
          go_wp2_with fail
          go_loopw [14] (fun i wr => ∃ j : Nat, j ≤ M ∧ i = .int .i64 j ∧ wr = w5) (fun i _ => M - (intOf i).toNat)
          case atStart => exact ⟨0, Nat.zero_le _, rfl, rfl⟩
          case round =>
            obtain ⟨j, hj, rfl, rfl⟩ := hrel
            by_cases hj1 : j < M
            · have hj1' : (j : Int) < (M : Int) := by omega
              have x1 := HRd.out.cell hj1
              have x3 := HR3.out.cell hj1
              cases h1 : S1 j
              · rw [h1] at x1
                clear h1
                go_wp2
                go_roundw
                case measure => simp [intOf]; omega
                case rel => exact ⟨j + 1, by omega, by go_num, trivial⟩
              · rw [h1] at x1
                rw [HSub.out j hj1 h1] at x3
                clear h1
                go_wp2
                go_roundw
                case measure => simp [intOf]; omega
                case rel => exact ⟨j + 1, by omega, by go_num, trivial⟩
            · obtain rfl : j = M := by omega
              have hm2 : decide ((j : Int) < (j : Int)) = false := by simp
              go_wp2
              go_ret
              exact ⟨rfl, HB5.out⟩
  · have C1 := Lib.hid (fun w hD => Open_no (A := A) (capd := cap) (ds := ds) (w := w) n hn hD he)
    obtain ⟨t, ht⟩ : ∃ t, t = openE n ds := ⟨_, rfl⟩
    rw [← ht] at C1 he
    have he' : (t == 0) = false := by simpa using he
    have he2 : (t != 0) = true := by simpa using he
    clear hD he ht
    go_enter Try.func13, Try.ntmps13
    go_wp2_with fail
    refine C0.out.mono ?_; rintro e w1 ⟨rfl, hb1⟩
    have HB1 := Lib.hid hb1
    clear hb1
    go_wp2_with fail
    refine (C1.out _ (HD.out.later HB1.out)).mono ?_; rintro e w2 ⟨rfl, hb2⟩
    have HB2 := Lib.hid (HB1.out.trans (hb2.mono HB1.out.size))
    clear hb2
    go_wp2
    go_ret
    exact ⟨rfl, HB2.out⟩
end Go.Proofs.Ytoeeceemoggffaa
