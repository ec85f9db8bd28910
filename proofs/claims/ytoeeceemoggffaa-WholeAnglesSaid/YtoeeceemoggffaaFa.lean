/- dir.All: the walk (the library's sort by a premise). -/
import Derived.Test.YtoeeceemoggffaaFo
import Derived.Test.YtoeeceemoggffaaQo
namespace Go.Proofs.Ytoeeceemoggffaa
open Go.RowKit Go.Lib
set_option maxHeartbeats 1600000
set_option maxRecDepth 100000

theorem All_walk (HSo : Sorts) (k : Nat) (w : World) (h1 : 1 ≤ k) (h2 : k ≤ 5) :
    Calls Try.prog 49 #[.int .i64 k] w fun e w' => ∃ A cap l', e = .returned (.tuple #[.slice A (allA k).length cap, .int .i64 0]) ∧ l'.Perm (allA k) ∧ Dirs w' A l' ∧ Below w.heap.size w w' := by
  have H0 : Hid (∀ o, (w.alloc (.cells #[.int .i64 1, .int .i64 0] o)).heap.size = w.heap.size + 1) := Lib.hid (fun o => by simp)
  have HL0 : Hid ((w.alloc (.cells #[.int .i64 1, .int .i64 0] 51)).ownsRow w.heap.size 51 2 (sl w.heap.size 1 1) (listA k 0).length (flatD (listA k 0))) := Lib.hid (World.ownsRow_lit w #[.int .i64 1, .int .i64 0] 1 (Nat.le_refl _) (by decide) rfl)
  have hk16 : (k : Int) ≤ 16 := by omega
  go_enter Try.func49, Try.ntmps49
  go_wp2_with fail
  go_loopw [4, 18] (fun v i wr => ∃ q : Nat, q ≤ k + 1 ∧ i = .int .i64 q ∧ Hid (wr.ownsRow w.heap.size 51 2 v (listA k q).length (flatD (listA k q)) ∧ Below w.heap.size w wr)) (fun _ i _ => k + 1 - (intOf i).toNat)
  case atStart => exact ⟨0, Nat.zero_le _, rfl, Lib.hid ⟨HL0.out, (Below.refl _ _).alloc (Nat.le_refl _) _⟩⟩
  case round =>
    clear H0 HL0
    obtain ⟨q, hq, rfl, HR⟩ := hrel
    by_cases hq1 : q < k + 1
    · have hq1' : (q : Int) < (k : Int) + 1 := by omega
      go_wp2_with fail
      go_loopw [4, 6] (fun v i wr => ∃ j : Nat, j ≤ 2 * k + 1 ∧ i = .int .i64 ((j : Int) - k) ∧ Hid (wr.ownsRow w.heap.size 51 2 v (listA k q ++ (if q = 0 then [] else rowA k q j)).length (flatD (listA k q ++ (if q = 0 then [] else rowA k q j))) ∧ Below w.heap.size w wr)) (fun _ i _ => (k + 1 - intOf i).toNat)
      case atStart => exact ⟨0, Nat.zero_le _, by go_num, Lib.hid ⟨by simpa [rowA] using HR.out.1, HR.out.2⟩⟩
      case round =>
        obtain ⟨j, hj, rfl, HQ⟩ := hrel
        by_cases hc : 0 < q ∧ j < 2 * k + 1
        · obtain ⟨hq0, hj1⟩ := hc
          have hj2 : (j : Int) - k ≤ k := by omega
          have hq0' : (0 : Int) < (q : Int) := by omega
          obtain ⟨p, hp⟩ : ∃ p : Int, p = (j : Int) - k := ⟨_, rfl⟩
          have hpb : -5 ≤ p ∧ p ≤ 5 := by omega
          obtain ⟨hp1, hp2⟩ := hpb
          have hpk : p ≤ (k : Int) := by omega
          have HP := Lib.hid hp
          have hqb : q ≤ 5 := by omega
          rw [← hp]
          have hI : I64 p ∧ I64 (q : Int) := by unfold I64; omega
          have HI := Lib.hid hI
          rw [if_neg (show ¬ q = 0 by omega)] at HQ
          have hln : (listA k q ++ rowA k q j).length ≤ 1000 := by
            have h3 := rowA_len k q j
            have h4 : (listA k q).length ≤ 1 + q * (2 * k + 1) := by
              have key : ∀ r, r ≤ q → (listA k r).length ≤ 1 + r * (2 * k + 1) := by
                intro r
                induction r with
                | zero => intro _; simp [listA]
                | succ r ih =>
                  intro hr
                  rw [listA_succ, List.length_append]
                  have h5 := ih (by omega)
                  have h6 : (if r = 0 then [] else rowA k r (2 * k + 1)).length ≤ 2 * k + 1 := by
                    split
                    · simp
                    · exact rowA_len _ _ _
                  rw [Nat.add_mul]
                  omega
              exact key q (Nat.le_refl _)
            have h7 : q * (2 * k + 1) ≤ 5 * 11 := Nat.mul_le_mul hqb (by omega)
            rw [List.length_append]
            omega
          by_cases hok : okD (p, (q : Int)) = true
          · have C := Lib.hid (fun w => Check_fwd p q w hok)
            have hrow : rowA k q (j + 1) = rowA k q j ++ [(p, (q : Int))] := by rw [rowA_succ, ← hp, if_pos hok]
            have HRow := Lib.hid hrow
            clear hp hI hok hrow
            go_wp2_with fail
            refine (C.out _).mono ?_; rintro e w1 ⟨rfl, hf⟩
            have x0 := (hf.below.cell (p := ⟨wr.heap.size, 0, none⟩) (by simp)).trans (new_cell wr _ _ 0)
            have x1 := (hf.below.cell (p := ⟨wr.heap.size, 1, none⟩) (by simp)).trans (new_cell wr _ _ 1)
            simp only [List.getElem?_toArray, List.getElem?_cons_zero, List.getElem?_cons_succ] at x0 x1
            have hB1 : Below wr.heap.size wr w1 := ((Below.refl _ _).alloc (Nat.le_refl _) _).trans (hf.below.mono (by simp))
            have HO1 : Hid (w1.ownsRow w.heap.size 51 2 u4 (listA k q ++ rowA k q j).length (flatD (listA k q ++ rowA k q j))) := Lib.hid (own_keep HQ.out.1 fun g e => hB1.block g (HQ.out.1.lt g e).2)
            have HBw := Lib.hid (HQ.out.2.trans (hB1.mono HQ.out.2.size))
            clear hf hB1
            go_wp2_with (at_builtin; refine append_dirs (w0 := w) w.heap.size rfl (.tmp 38) (.tmp 40) rfl _ _ (listA k q ++ rowA k q j) (some ⟨w1.heap.size, 0, none⟩) 1 [(p, (q : Int))] rfl rfl (fun h => by cases h) (HO1.out.alloc _) (by have := HBw.out.size; simp; omega) (HBw.out.alloc HBw.out.size _) (ord_one _ _ _ HI.out.1 HI.out.2) ?c5 ?c6)
            case c5 =>
              simp only [List.length_cons, List.length_nil]
              omega
            case c6 =>
              intro v1 w2 ho hb2 hs2
              have HO2 := Lib.hid ho
              have HB2 := Lib.hid hb2
              clear ho hb2
              go_wp2
              go_roundw
              case measure => simp [intOf] <;> omega
              case rel =>
                refine ⟨j + 1, by omega, by rw [HP.out]; go_num, Lib.hid ⟨?_, HB2.out⟩⟩
                rw [if_neg (show ¬ q = 0 by omega), HRow.out, ← List.append_assoc]
                have h9 := HO2.out
                have hle : ((listA k q ++ rowA k q j) ++ [(p, (q : Int))]).length = (listA k q ++ rowA k q j).length + 1 := by rw [List.length_append]; rfl
                rw [hle, List.length_append, List.append_assoc]
                exact h9
          · have C := Lib.hid (fun w => Check_walk p q w hI.1 hI.2)
            have he60 : errD (p, (q : Int)) = 60 := errD_no hok
            rw [he60] at C
            have hrow : rowA k q (j + 1) = rowA k q j := by rw [rowA_succ, ← hp, if_neg hok]
            have HRow := Lib.hid hrow
            clear hp hI hok hrow he60
            go_wp2_with fail
            refine (C.out _).mono ?_; rintro e w1 ⟨rfl, hf⟩
            have hB1 : Below wr.heap.size wr w1 := ((Below.refl _ _).alloc (Nat.le_refl _) _).trans (hf.mono (by simp))
            have HO1 : Hid (w1.ownsRow w.heap.size 51 2 u4 (listA k q ++ rowA k q j).length (flatD (listA k q ++ rowA k q j))) := Lib.hid (own_keep HQ.out.1 fun g e => hB1.block g (HQ.out.1.lt g e).2)
            have HBw := Lib.hid (HQ.out.2.trans (hB1.mono HQ.out.2.size))
            clear hf hB1
            go_wp2
            go_roundw
            case measure => simp [intOf] <;> omega
            case rel =>
              refine ⟨j + 1, by omega, by rw [HP.out]; go_num, Lib.hid ⟨?_, HBw.out⟩⟩
              rw [if_neg (show ¬ q = 0 by omega), HRow.out]
              exact HO1.out
        · have hfin : listA k q ++ (if q = 0 then [] else rowA k q j) = listA k (q + 1) := by
            rw [listA_succ]
            by_cases h0 : q = 0
            · rw [if_pos h0, if_pos h0]
            · have : j = 2 * k + 1 := by omega
              rw [if_neg h0, if_neg h0, this]
          rw [hfin] at HQ
          have HFin := Lib.hid hfin
          clear hfin
          by_cases hjk : (j : Int) - k ≤ k
          · have hq0 : q = 0 := by omega
            subst hq0
            go_wp2
            go_roundw
            case measure => simp [intOf] <;> omega
            case rel => exact ⟨0 + 1, by omega, by go_num, HQ⟩
          · have hjk' : decide ((j : Int) - k ≤ k) = false := decide_eq_false hjk
            go_wp2
            go_roundw
            case measure => simp [intOf] <;> omega
            case rel => exact ⟨q + 1, by omega, by go_num, HQ⟩
    · obtain rfl : q = k + 1 := by omega
      have hq2 : decide (((k + 1 : Nat) : Int) < ((k : Int) + 1)) = false := by simp
      obtain ⟨g, cap, rfl, hbg, hgl⟩ := World.ownsRow.form HR.out.1 (by simp [listA])
      have HS := Lib.hid (HSo w.heap.size g cap (listA k (k + 1)) wr listA_ok (by simp [listA]) (Nat.le_trans (all_facts k (by omega) h1).1 (by decide)) HR.out.1)
      go_wp2_with fail
      refine (HS.out).mono ?_; rintro e w1 ⟨rfl, l', hp, ho, hb⟩
      have hok : ∀ d ∈ l', okD d = true := fun d hd => listA_ok d (hp.mem_iff.1 hd)
      have hdirs := dirs_of_row (by rw [← hp.length_eq] at ho; exact ho) (fun d hd => by obtain ⟨o0, o1, o2, _, _⟩ := (okD_iff d.1 d.2).1 (hok d hd); unfold I64; omega) (by rw [hp.length_eq]; exact Nat.le_trans (all_facts k (by omega) h1).1 (by decide))
      obtain ⟨_, A, cap2, hv, _, hD, _⟩ := hdirs
      rw [hp.length_eq] at hv
      have HP := Lib.hid hp
      have HD := Lib.hid hD
      have HB := Lib.hid (HR.out.2.trans hb)
      have HV := Lib.hid hv
      clear hp ho hb hok hD hv
      go_wp2
      go_ret2
      exact ⟨_, _, l', rfl, HP.out, by
        have h9 := Value.slice.inj HV.out
        rw [h9.1]
        exact HD.out, HB.out⟩
end Go.Proofs.Ytoeeceemoggffaa
