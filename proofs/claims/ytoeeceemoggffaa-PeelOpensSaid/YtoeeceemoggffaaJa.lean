/- The reference's Start, Bins and Line of a direction, each by a contract of its own. -/
import Derived.Test.YtoeeceemoggffaaR6
import Derived.Test.YtoeeceemoggffaaSw
namespace Go.Proofs.Ytoeeceemoggffaa
open Go.RowKit Go.Lib
set_option maxHeartbeats 3200000
set_option maxRecDepth 100000

theorem rStart_walk (n : Nat) (p q : Int) (w : World) (h1 : 1 ≤ n) (h2 : n ≤ 64) (h : okD (p, q) = true) :
    Calls Try.prog 132 #[.int .i64 n, .agg #[.int .i64 p, .int .i64 q]] w fun e w' => e = .returned (.int .i64 (startN n (p, q))) ∧ Below w.heap.size w w' := by
  obtain ⟨o0, o1, o2, o3, o4⟩ := (okD_iff p q).1 h
  have hb : Below w.heap.size w (w.alloc (.cells #[.int .i64 p, .int .i64 q] 51)) := (Below.refl w.heap.size w).alloc (Nat.le_refl _) _
  by_cases hp0 : 0 < p
  · have hp0' : decide (p < 0) = false := by
      have : ¬ p < 0 := by omega
      simpa using this
    have hst : (startN n (p, q) : Int) = p * ((n : Int) - 1) := by
      unfold startN
      simp only
      rw [Int.natCast_mul, Int.mul_comm]
      congr 1 <;> omega
    have hle : startN n (p, q) ≤ 63 * 16 := Nat.mul_le_mul (by omega) (by simp only; omega)
    generalize startN n (p, q) = s at *
    have hst2 : p * ((n : Int) - 1) = (s : Int) := hst.symm
    clear hst o3 o4 h
    go_enter Try.func132, Try.ntmps132
    go_wp2
    go_ret
    exact ⟨rfl, hb⟩
  · have hst : startN n (p, q) = 0 := by
      unfold startN
      have : p.toNat = 0 := by omega
      simp only [this, Nat.mul_zero]
    rw [hst]
    by_cases hp1 : p < 0
    · clear hst o3 o4 h
      go_enter Try.func132, Try.ntmps132
      go_wp2
      go_ret
      exact ⟨rfl, hb⟩
    · obtain rfl : p = 0 := by omega
      clear hst o3 o4 h
      go_enter Try.func132, Try.ntmps132
      go_wp2
      go_ret
      exact ⟨by simp, hb⟩

theorem rBins_bad (n : Int) (p q : Int) (w : World) (_hn : I64 n) (hb : ¬ (1 ≤ n ∧ n ≤ 64)) :
    Calls Try.prog 82 #[.int .i64 n, .agg #[.int .i64 p, .int .i64 q]] w fun e w' => e = .returned (.tuple #[.int .i64 0, .int .i64 1]) ∧ Below w.heap.size w w' := by
  have hbl : Below w.heap.size w (w.alloc (.cells #[.int .i64 p, .int .i64 q] 51)) := (Below.refl w.heap.size w).alloc (Nat.le_refl _) _
  by_cases h1 : n < 1
  · go_enter Try.func82, Try.ntmps82
    go_wp2
    go_ret2
    exact ⟨rfl, hbl⟩
  · have h1' : decide (n < 1) = false := by simpa using h1
    have h2 : 64 < n := by omega
    clear hb h1
    go_enter Try.func82, Try.ntmps82
    go_wp2
    go_ret2
    exact ⟨rfl, hbl⟩

theorem rBins_walk (n : Nat) (p q : Int) (w : World) (h1 : 1 ≤ n) (h2 : n ≤ 64) (h : okD (p, q) = true) :
    Calls Try.prog 82 #[.int .i64 n, .agg #[.int .i64 p, .int .i64 q]] w fun e w' => e = .returned (.tuple #[.int .i64 (binsN n (p, q)), .int .i64 0]) ∧ Below w.heap.size w w' := by
  obtain ⟨o0, o1, o2, o3, o4⟩ := (okD_iff p q).1 h
  have hp : I64 p := by unfold I64; omega
  have hq : I64 q := by unfold I64; omega
  have C := Lib.hid (fun w => rCheck_walk p q w hp hq)
  have he : errD (p, q) = 0 := by unfold errD; rw [if_pos h]
  rw [he] at C
  have HT := Lib.hid (Two.made w 51 p q)
  have HB := Lib.hid ((Below.refl w.heap.size w).alloc (Nat.le_refl _) (.cells #[.int .i64 p, .int .i64 q] 51))
  have hm : (n - 1) * (p.natAbs + q.toNat) ≤ 63 * 32 := Nat.mul_le_mul (by omega) (by omega)
  obtain ⟨m, hm'⟩ : ∃ m, m = (n - 1) * (p.natAbs + q.toNat) := ⟨_, rfl⟩
  have hbn : binsN n (p, q) = m + 1 := by unfold binsN; rw [hm']
  rw [hbn]
  have hprod : ((n : Int) - 1) * ((p.natAbs : Int) + q) = (m : Int) := by
    rw [hm', Int.natCast_mul]
    congr 1 <;> omega
  rw [← hm'] at hm
  obtain ⟨pb1, pb2⟩ : -16 ≤ p ∧ p ≤ 16 := by omega
  have hm63 : m ≤ 2016 := hm
  have n1 : ¬ ((n : Int) < 1) := by omega
  have n2 : ¬ ((64 : Int) < (n : Int)) := by omega
  by_cases hs : p < -p
  · have hab : (p.natAbs : Int) = -p := by omega
    rw [hab] at hprod
    clear o2 o3 o4 hp hq he h hm' hbn hab
    go_enter Try.func82, Try.ntmps82
    go_wp2_with fail
    refine (C.out _).mono ?_; rintro e w1 ⟨rfl, hb⟩
    obtain ⟨_, d0, d1, _, _⟩ := HT.out.later hb HT.out.lt
    have HB1 := Lib.hid (HB.out.trans (hb.mono HB.out.size))
    clear hb
    go_wp2
    go_ret2
    exact ⟨by congr 1, HB1.out⟩
  · have hab : (p.natAbs : Int) = p := by omega
    rw [hab] at hprod
    have hs2 : -p ≤ p := by omega
    clear o2 o3 o4 hp hq he h hm' hbn hab hs
    go_enter Try.func82, Try.ntmps82
    go_wp2_with fail
    refine (C.out _).mono ?_; rintro e w1 ⟨rfl, hb⟩
    obtain ⟨_, d0, d1, _, _⟩ := HT.out.later hb HT.out.lt
    have HB1 := Lib.hid (HB.out.trans (hb.mono HB.out.size))
    clear hb
    go_wp2
    go_ret2
    exact ⟨by congr 1, HB1.out⟩

/-- the cells of a line among the first m, as pairs -/
def onL (n : Nat) (d : Int × Int) (i m : Nat) : List (Int × Int) := ((List.range m).filter fun c => decide (lineN n d c = i)).map fun c => (((c % n : Nat) : Int), ((c / n : Nat) : Int))
theorem onL_succ (n : Nat) (d : Int × Int) (i m : Nat) : onL n d i (m + 1) = onL n d i m ++ (if lineN n d m = i then [(((m % n : Nat) : Int), ((m / n : Nat) : Int))] else []) := by
  unfold onL
  rw [List.range_succ, List.filter_append, List.map_append]
  congr 1
  by_cases e : lineN n d m = i <;> simp [e]
theorem onL_len (n : Nat) (d : Int × Int) (i m : Nat) : (onL n d i m).length ≤ m := by
  unfold onL
  rw [List.length_map]
  have := List.length_filter_le (fun c => decide (lineN n d c = i)) (List.range m)
  rw [List.length_range] at this
  exact this
theorem und154 : Try.prog.underlying 154 = some (.slice 158) := by kernel_rfl
theorem infoCell : (Try.prog.info? 158).map (fun i => (i.zero, i.size, i.bytes)) = some (some (.agg #[.int .i64 0, .int .i64 0]), 2, 16) := by kernel_rfl

theorem rLine_walk (n M : Nat) (p q : Int) (i : Nat) (w : World) (hM : M = n * n) (h1 : 1 ≤ n) (h2 : n ≤ 64) (h : okD (p, q) = true) (hi : i < binsN n (p, q)) :
    Calls Try.prog 113 #[.int .i64 n, .agg #[.int .i64 p, .int .i64 q], .int .i64 i] w fun e w' => ∃ v, e = .returned (.tuple #[v, .int .i64 0]) ∧ w'.ownsRow (w.heap.size + 1) 158 2 v (onL n (p, q) i M).length (flatD (onL n (p, q) i M)) ∧ Below w.heap.size w w' := by
  obtain ⟨o0, o1, o2, o3, o4⟩ := (okD_iff p q).1 h
  obtain ⟨pb1, pb2⟩ : -16 ≤ p ∧ p ≤ 16 := by omega
  have HOk := Lib.hid h
  have HM := Lib.hid hM
  have hM4 : M ≤ 4096 := by rw [hM]; exact Nat.mul_le_mul h2 h2
  have B := Lib.hid (fun w => rBins_walk n p q w h1 h2 h)
  have S := Lib.hid (fun w => rStart_walk n p q w h1 h2 h)
  have hbn : binsN n (p, q) ≤ 2017 := binsN_le h h2
  have hst : startN n (p, q) ≤ 63 * 16 := Nat.mul_le_mul (by omega) (by simp only; omega)
  obtain ⟨bn, hbe⟩ : ∃ bn, bn = binsN n (p, q) := ⟨_, rfl⟩
  obtain ⟨st, hse⟩ : ∃ st, st = startN n (p, q) := ⟨_, rfl⟩
  rw [← hbe] at B hi hbn
  rw [← hse] at S hst
  have HSe := Lib.hid hse
  have hi3 : decide (bn ≤ i) = false := decide_eq_false (by omega)
  have hi4 : decide ((i : Int) < 0) = false := decide_eq_false (by omega)
  have hst' : st ≤ 1008 := hst
  have HT := Lib.hid (Two.made w 51 p q)
  have HB := Lib.hid ((Below.refl w.heap.size w).alloc (Nat.le_refl _) (.cells #[.int .i64 p, .int .i64 q] 51))
  clear h hM hbe hse o2 o3 o4 hst
  go_enter Try.func113, Try.ntmps113
  go_wp2_with fail
  refine (B.out _).mono ?_; rintro e w1 ⟨rfl, hb⟩
  have HT1 := Lib.hid (HT.out.later hb HT.out.lt)
  have HB1 := Lib.hid (HB.out.trans (hb.mono HB.out.size))
  have hw1 : w.heap.size < w1.heap.size := by have := hb.size; simp at this; omega
  clear hb
  go_wp2_with fail
  go_loopw [10, 11] (fun v y wr => ∃ k : Nat, k ≤ n ∧ y = .int .i64 k ∧ Hid (wr.ownsRow (w.heap.size + 1) 158 2 v (onL n (p, q) i (k * n)).length (flatD (onL n (p, q) i (k * n))) ∧ Below w.heap.size w wr ∧ Two w.heap.size p q wr)) (fun _ y _ => n - (intOf y).toNat)
  case atStart => exact ⟨0, Nat.zero_le _, rfl, Lib.hid ⟨by rw [Nat.zero_mul]; exact World.ownsRow_nil _ _ _ _, HB1.out, HT1.out⟩⟩
  case round =>
    clear HT HB HT1 HB1
    obtain ⟨y, hy, rfl, HR⟩ := hrel
    by_cases hy1 : y < n
    · have hy1' : (y : Int) < (n : Int) := by omega
      go_wp2_with fail
      go_loopw [10, 12] (fun v j wx => ∃ x : Nat, x ≤ n ∧ j = .int .i64 x ∧ Hid (wx.ownsRow (w.heap.size + 1) 158 2 v (onL n (p, q) i (y * n + x)).length (flatD (onL n (p, q) i (y * n + x))) ∧ Below w.heap.size w wx ∧ Two w.heap.size p q wx)) (fun _ j _ => n - (intOf j).toNat)
      case atStart => exact ⟨0, Nat.zero_le _, rfl, HR⟩
      case round =>
        clear HR
        obtain ⟨x, hx, rfl, HQ⟩ := hrel
        by_cases hx1 : x < n
        · have hx1' : (x : Int) < (n : Int) := by omega
          have hcm : (y * n + x) % n = x := by rw [Nat.mul_add_mod_self_right]; exact Nat.mod_eq_of_lt hx1
          have hcd : (y * n + x) / n = y := by rw [Nat.add_comm, Nat.add_mul_div_right _ _ (by omega), Nat.div_eq_of_lt hx1, Nat.zero_add]
          have hcM : y * n + x < M := by
            have := Nat.mul_le_mul_right n (show y + 1 ≤ n by omega)
            rw [Nat.add_mul] at this
            rw [HM.out]
            omega
          have hL0 := lineN_cast (n := n) (p := p) (q := q) HM.out HOk.out hcM
          have hsucc := onL_succ n (p, q) i (y * n + x)
          unfold lineZ at hL0
          simp only at hL0
          rw [hcm, hcd] at hL0 hsucc
          rw [← HSe.out] at hL0
          obtain ⟨L, hLe⟩ : ∃ L, L = lineN n (p, q) (y * n + x) := ⟨_, rfl⟩
          rw [← hLe] at hL0 hsucc
          have b1 := mul_bound (x := x) (show -16 ≤ q by omega) o1 (by omega)
          have b2 := mul_bound (x := y) pb1 pb2 (by omega)
          obtain ⟨u, hu⟩ : ∃ u, q * (x : Int) = u := ⟨_, rfl⟩
          obtain ⟨v, hv⟩ : ∃ v, p * (y : Int) = v := ⟨_, rfl⟩
          rw [hu] at b1 hL0
          rw [hv] at b2 hL0
          obtain ⟨bu1, bu2⟩ := b1
          obtain ⟨bv1, bv2⟩ := b2
          have hval : IntKind.i64.wrap (u - v + (st : Int)) = (L : Int) := by rw [IntWalk.i64_in _ (by omega)]; omega
          have hwu : IntKind.i64.wrap u = u := IntWalk.i64_in _ (by omega)
          have hwv : IntKind.i64.wrap v = v := IntWalk.i64_in _ (by omega)
          have hwd : IntKind.i64.wrap (u - v) = u - v := IntWalk.i64_in _ (by omega)
          have HSu := Lib.hid hsucc
          have hlen := onL_len n (p, q) i (y * n + x)
          have hr0 := HQ.out.2.2.c0
          have hr1 := HQ.out.2.2.c1
          have hB0 : Hid (Below wr.heap.size wr wr) := Lib.hid (Below.refl _ _)
          have hB0d : Hid (Below wr.heap.size wr wr.drew) := Lib.hid (Below.refl _ _).drew
          clear hL0 hLe hsucc hcm hcd
          go_wp2_with fail
          go_region_held3 (fun w' => w'.cell? ⟨w.heap.size, 0, none⟩ = some (.int .i64 p) ∧ w'.cell? ⟨w.heap.size, 1, none⟩ = some (.int .i64 q) ∧ Hid (Below wr.heap.size wr w'))
            (first
              | (refine ⟨?_, ?_, ?_⟩ <;> first
                   | assumption
                   | (exact keepBB (by assumption) hb)
                   | (exact keepHH (by assumption) hb))
              | (go_split_ands
                 refine ⟨?_, ?_, ?_⟩ <;> first
                   | assumption
                   | (exact keepBB (by assumption) hb)
                   | (exact keepHH (by assumption) hb))
              | (go_keep; done))
            ((go_simp; go_at_call 132; refine (S.out _).mono ?_; rintro e w' ⟨rfl, hb⟩))
          rename_i hheld
          obtain ⟨_, _, hbb⟩ := hheld
          have hbB : Below wr.heap.size wr w' := hbb.out
          have HO1 := Lib.hid (own_keep HQ.out.1 fun g e => hbB.block g (HQ.out.1.lt g e).2)
          have HB1 := Lib.hid (HQ.out.2.1.trans (hbB.mono HQ.out.2.1.size))
          have HT1 := Lib.hid (HQ.out.2.2.later hbB HQ.out.2.2.lt)
          have hw1 : w.heap.size < w'.heap.size := HT1.out.lt
          clear hbb hbB hr0 hr1 hB0 hB0d hb HQ
          by_cases e : L = i
          · subst e
            rw [if_pos rfl] at HSu
            obtain ⟨i0, hi, hz⟩ := Option.map_eq_some_iff.1 infoCell
            simp only [Prod.mk.injEq] at hz
            obtain ⟨hz0, hz1, hz2⟩ := hz
            have n1 : (onL n (p, q) L (y * n + x)).length + 1 ≤ maxLen := by unfold maxLen; omega
            have n2 : ((onL n (p, q) L (y * n + x)).length + 1) * 16 ≤ 140737488355328 := by omega
            go_wp2_with (at_builtin; refine wpList_append_lies _ (by rfl) (.tmp 54) (.tmp 58) _ (by rfl) (w.heap.size + 1) 158 i0 _ 2 16 und154 hi hz0 hz1 hz2 rfl (by omega) u10 (onL n (p, q) L (y * n + x)).length (flatD (onL n (p, q) L (y * n + x))) (by rfl) (HO1.out.alloc _) ⟨w'.heap.size, 0, none⟩ 1 1 [.int .i64 x, .int .i64 y] (by rfl) (by rfl) (news_new w' _ _ _) (by intro u hu; simp at hu; rcases hu with rfl | rfl <;> rfl) (by omega) n1 n2 (by simp; omega) (w'.heap.size + 1) (by simp) ?c7)
            case c7 =>
              intro gg cap' w5 hown5 hgrow5 hat5 hlt5
              have hb5 : Below (w.heap.size + 1) w' w5 := ((Below.refl _ _).alloc (by omega) _).grown hgrow5 (by simp; omega) (fun k hk => (HO1.out.lt k hk).1)
              have HB5 := Lib.hid (HB1.out.trans (hb5.mono (Nat.le_succ _)))
              have HT5 := Lib.hid (HT1.out.later hb5 (Nat.lt_succ_self _))
              have HO5 := Lib.hid hown5
              clear hb5 hown5 hgrow5 hat5 hlt5 hi hz0 hz1 hz2 n1 n2
              go_wp2
              go_roundw
              case measure => simp [intOf]; omega
              case rel =>
                refine ⟨x + 1, by omega, by go_num, Lib.hid ⟨?_, HB5.out, HT5.out⟩⟩
                have e1 := HSu.out
                rw [← Nat.add_assoc, e1, List.length_append, flatD_append]
                exact HO5.out
          · have e' : ((L : Int) == (i : Int)) = false := by
              have : (L : Int) ≠ (i : Int) := by omega
              simpa using this
            rw [if_neg e, List.append_nil] at HSu
            go_wp2
            go_roundw
            case measure => simp [intOf]; omega
            case rel =>
              refine ⟨x + 1, by omega, by go_num, Lib.hid ⟨?_, HB1.out, HT1.out⟩⟩
              have e1 := HSu.out
              rw [← Nat.add_assoc, e1]
              exact HO1.out
        · obtain rfl : x = n := by omega
          have hx2 : decide ((x : Int) < (x : Int)) = false := by simp
          go_wp2
          go_roundw
          case measure => simp [intOf]; omega
          case rel =>
            refine ⟨y + 1, by omega, by go_num, Lib.hid ?_⟩
            have e1 : (y + 1) * x = y * x + x := by rw [Nat.add_mul, Nat.one_mul]
            rw [e1]
            exact HQ.out
    · obtain rfl : y = n := by omega
      have hy2 : decide ((y : Int) < (y : Int)) = false := by simp
      go_wp2
      go_ret2
      rw [HM.out]
      exact ⟨_, rfl, HR.out.1, HR.out.2.1⟩
end Go.Proofs.Ytoeeceemoggffaa
