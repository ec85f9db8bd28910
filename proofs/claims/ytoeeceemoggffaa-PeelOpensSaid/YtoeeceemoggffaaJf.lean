/- Open and Left of the reference's layer 14. -/
import Derived.Test.YtoeeceemoggffaaJe
namespace Go.Proofs.Ytoeeceemoggffaa
open Go.RowKit Go.Lib
set_option maxHeartbeats 3200000
set_option maxRecDepth 100000

theorem rCore_of {n M : Nat} {ds : List (Int × Int)} {S : Nat → Bool} (hk : Kept n ds S) (ho : ∀ d ∈ ds, okD d = true) (hM : M = n * n) (h : ∀ j i, j < ds.length → i < bnD n ds j → cfS n M ds S j i ≠ 1) : Core n ds S := by
  refine Core.of hk ho fun d hd i hi h1 => ?_
  obtain ⟨k, hk, e⟩ := List.getElem_of_mem hd
  have e2 : dirAt ds k = d := by
    have := dirAt_get hk
    rw [List.getElem?_eq_getElem hk, e] at this
    exact (Option.some.inj this).symm
  exact h k i hk (by show i < binsN n (dirAt ds k); rw [e2]; exact hi) (by show cnt (lineN n (dirAt ds k)) S M i = 1; rw [e2, hM]; exact h1)

theorem rOpen_yes {A : Option Addr} {capd : Nat} {ds : List (Int × Int)} {w : World} (n : Nat) (hD : Dirs w A ds) (h1 : 1 ≤ n) (h2 : n ≤ 64) (hds : ds.length ≤ 64) (ht : twice ds = 0) :
    Calls Try.prog 44 #[.int .i64 n, .slice A ds.length capd] w fun e w' => ∃ o S, e = .returned (.tuple #[sl o (n * n) (n * n), .int .i64 0]) ∧ w.heap.size ≤ o ∧ w'.rowIs o 4 (n * n) (fun i => .bool (S i)) ∧ Core n ds S ∧ Below w.heap.size w w' := by
  obtain ⟨ho, _⟩ := twice_ok ht
  have B := Lib.hid (fun w => rBins_walk n 1 0 w h1 h2 (by decide))
  have T2 := Lib.hid (fun w hD => rTwice_walk A capd ds w hD)
  rw [ht] at T2
  obtain ⟨M, hM⟩ : ∃ M, M = n * n := ⟨_, rfl⟩
  rw [← hM]
  have hM4 : M ≤ 4096 := by rw [hM]; exact Nat.mul_le_mul h2 h2
  have HD := Lib.hid hD
  have HO := Lib.hid ho
  have HM := Lib.hid hM
  generalize binsN n (1, 0) = bn0 at B
  clear hD ho hM ht
  go_enter Try.func44, Try.ntmps44
  go_wp2_with fail
  refine (B.out _).mono ?_; rintro e w1 ⟨rfl, hb1⟩
  have HB1 := Lib.hid hb1
  clear hb1 B
  go_wp2_with fail
  refine (T2.out _ (HD.out.later HB1.out)).mono ?_; rintro e w2 ⟨rfl, hb2⟩
  have HB2 := Lib.hid (HB1.out.trans (hb2.mono HB1.out.size))
  clear hb2 T2
  go_wp2_with fail
  refine (start_walk n M (HD.out.later HB2.out) HO.out HM.out h1 h2 hds).mono ?_; rintro e w3 ⟨b, o, T, rv, cv, yv, C, G, rfl, hbr⟩
  have HR := Lib.hid hbr
  have HD2 := Lib.hid (HD.out.later HB2.out)
  clear hbr HB1
  go_wp2_with fail
  go_loopw [9, 10, 11] (fun _ _ _ wr => ∃ S, Hid (Brf w2 T b o n M (.slice A ds.length capd) (bnD n ds) rv cv yv C G ds.length ds.length ds.length S (cfS n M ds S) (yfS n M ds S) wr ∧ Kept n ds S)) (fun _ _ _ wr => openAt o M wr)
  case atStart => exact ⟨allC, Lib.hid ⟨HR.out, Kept.all n ds⟩⟩
  case round =>
    clear HR
    obtain ⟨S, HL⟩ := hrel
    have HF := Lib.hid (first_walk HL.out.1 hds (fun j => by
      by_cases hj : j < ds.length
      · have := binsN_le (p := (dirAt ds j).1) (q := (dirAt ds j).2) (HO.out _ (dirAt_mem hj)) h2
        show binsN n (dirAt ds j) ≤ 5000
        exact Nat.le_trans this (by omega)
      · have e : dirAt ds j = (0, 0) := by unfold dirAt; rw [List.getD_eq_getElem?_getD, List.getElem?_eq_none (by omega)]; rfl
        show binsN n (dirAt ds j) ≤ 5000
        rw [e]
        unfold binsN
        simp) (fun j i => by have := cnt_le (lnD n ds j) S M i; show cnt _ _ _ _ ≤ _; omega) (fun j _ => rfl))
    go_wp2_with fail
    refine (HF.out).mono ?_; rintro e w4 ⟨rfl, hcase⟩
    clear HF
    rcases hcase with ⟨j, i, hj, hi, hc1, rfl⟩ | ⟨hno, rfl⟩
    · obtain ⟨x, hx, hS, hlx, _, hux⟩ := cnt_one hc1
      have HC := Lib.hid (cell_walk HL.out.1 HD2.out HO.out HM.out h1 h2 j i x hj hi hx hS hlx hux)
      have HK : Hid (Kept n ds (shutC S x)) := Lib.hid (HL.out.2.shut (dirAt_mem hj) (HO.out _ (dirAt_mem hj)) (by rw [← HM.out]; exact hx) hlx (by rw [← HM.out]; exact hux))
      clear hc1 hlx hux hi hj
      go_wp2_with fail
      refine (HC.out).mono ?_; rintro e w5 ⟨rfl, hb5⟩
      have HCl := Lib.hid (close_walk (HL.out.1.beyond hb5) HD2.out HO.out HM.out h1 h2 hds x hx hS)
      have HOp := Lib.hid HL.out.1.opn
      clear hb5 HC
      go_wp2_with fail
      refine (HCl.out).mono ?_; rintro e w6 ⟨rfl, hb6⟩
      have HB6 := Lib.hid hb6
      clear hb6 HCl
      go_wp2
      go_roundw
      case measure =>
        rw [openAt_of HOp.out, openAt_of HB6.out.opn]
        have := opn_shut hS hx
        omega
      case rel => exact ⟨shutC S x, Lib.hid ⟨HB6.out, HK.out⟩⟩
    · have a1 := HL.out.1.str.c1
      have HC := Lib.hid (rCore_of HL.out.2 HO.out HM.out hno)
      have HOp := Lib.hid HL.out.1.opn
      have HBw := Lib.hid (HB2.out.trans (HL.out.1.below.mono HB2.out.size))
      have HOl := Lib.hid (Nat.le_trans HB2.out.size (HL.out.1.lt o (by rw [HL.out.1.t_o]; decide)).1)
      clear hno
      go_wp2
      go_ret2
      exact ⟨o, S, rfl, HOl.out, HOp.out, HC.out, HBw.out⟩

theorem rOpen_no {A : Option Addr} {capd : Nat} {ds : List (Int × Int)} {w : World} (n : Int) (hn : I64 n) (hD : Dirs w A ds) (he : openE n ds ≠ 0) :
    Calls Try.prog 44 #[.int .i64 n, .slice A ds.length capd] w fun e w' => e = .returned (.tuple #[.slice none 0 0, .int .i64 (openE n ds)]) ∧ Below w.heap.size w w' := by
  unfold openE at *
  have hlen := hD.len
  by_cases h1 : n < 1 ∨ 64 < n
  · rw [if_pos h1]
    have B := Lib.hid (fun w => rBins_bad n 1 0 w hn (by omega))
    clear he hD
    go_enter Try.func44, Try.ntmps44
    go_wp2_with fail
    refine (B.out _).mono ?_; rintro e w1 ⟨rfl, hb1⟩
    go_wp2
    go_ret2
    exact ⟨rfl, hb1⟩
  · rw [if_neg h1] at he ⊢
    obtain ⟨m, rfl⟩ : ∃ m : Nat, n = (m : Int) := ⟨n.toNat, by omega⟩
    have B := Lib.hid (fun w => rBins_walk m 1 0 w (by omega) (by omega) (by decide))
    generalize binsN m (1, 0) = bn0 at B
    by_cases h3 : 64 < ds.length
    · rw [if_pos h3]
      have h3' : (64 : Int) < (ds.length : Int) := by omega
      clear he hD h1
      go_enter Try.func44, Try.ntmps44
      go_wp2_with fail
      refine (B.out _).mono ?_; rintro e w1 ⟨rfl, hb1⟩
      go_wp2
      go_ret2
      exact ⟨rfl, hb1⟩
    · rw [if_neg h3] at he ⊢
      have T2 := Lib.hid (fun w hD => rTwice_walk A capd ds w hD)
      have HD := Lib.hid hD
      have h3' : ¬ ((64 : Int) < (ds.length : Int)) := by omega
      obtain ⟨t, ht⟩ : ∃ t, t = twice ds := ⟨_, rfl⟩
      rw [← ht] at T2 he ⊢
      have he' : (t == 0) = false := by simpa using he
      have he'' : (t != 0) = true := by simpa using he
      clear hD ht h1
      go_enter Try.func44, Try.ntmps44
      go_wp2_with fail
      refine (B.out _).mono ?_; rintro e w1 ⟨rfl, hb1⟩
      have HB1 := Lib.hid hb1
      clear hb1
      go_wp2_with fail
      refine (T2.out _ (HD.out.later HB1.out)).mono ?_; rintro e w2 ⟨rfl, hb2⟩
      have HB2 := Lib.hid (HB1.out.trans (hb2.mono HB1.out.size))
      clear hb2
      go_wp2
      go_ret2
      exact ⟨rfl, HB2.out⟩

theorem rLeft_yes {A : Option Addr} {capd : Nat} {ds : List (Int × Int)} {w : World} (n : Nat) (hD : Dirs w A ds) (h1 : 1 ≤ n) (h2 : n ≤ 64) (hds : ds.length ≤ 64) (ht : twice ds = 0) :
    Calls Try.prog 46 #[.int .i64 n, .slice A ds.length capd] w fun e w' => ∃ S, e = .returned (.tuple #[.int .i64 (opn S (n * n) : Nat), .int .i64 0]) ∧ Core n ds S ∧ Below w.heap.size w w' := by
  have O := Lib.hid (rOpen_yes (capd := capd) n hD h1 h2 hds ht)
  obtain ⟨M, hM⟩ : ∃ M, M = n * n := ⟨_, rfl⟩
  rw [← hM] at O ⊢
  have hM4 : M ≤ 4096 := by rw [hM]; exact Nat.mul_le_mul h2 h2
  clear hD ht hM
  go_enter Try.func46, Try.ntmps46
  go_wp2_with fail
  refine (O.out).mono ?_; rintro e w1 ⟨o, S, rfl, hol, hrow, hcore, hb1⟩
  have HR := Lib.hid hrow
  have HC := Lib.hid hcore
  have HB := Lib.hid hb1
  clear hrow hcore hb1 O hol
  go_wp2_with fail
  go_loopw [8, 9] (fun s8 s19 wr => ∃ m : Nat, m ≤ M ∧ s19 = .int .i64 m ∧ s8 = .int .i64 (opn S m : Nat) ∧ wr = w1) (fun _ i _ => M - (intOf i).toNat)
  case atStart => exact ⟨0, Nat.zero_le _, rfl, rfl, rfl⟩
  case round =>
    obtain ⟨m, hm, rfl, rfl, rfl⟩ := hrel
    by_cases hm1 : m < M
    · have hm1' : (m : Int) < (M : Int) := by omega
      have oc := HR.out.cell hm1
      have ho1 := opn_le S m
      have e1 : opn S (m + 1) = opn S m + (if S m = true then 1 else 0) := rfl
      obtain ⟨k, hk⟩ : ∃ k, k = opn S m := ⟨_, rfl⟩
      rw [← hk] at ho1 e1 ⊢
      cases hS : S m
      · rw [hS] at oc e1
        simp only [Bool.false_eq_true, if_false] at e1
        have HE := Lib.hid e1
        clear e1 hk hS
        go_wp2
        go_roundw
        case measure => simp [intOf]; omega
        case rel => exact ⟨m + 1, by omega, by go_num, by rw [HE.out]; rfl, trivial⟩
      · rw [hS] at oc e1
        simp only [if_true] at e1
        have HE := Lib.hid e1
        clear e1 hk hS
        go_wp2
        go_roundw
        case measure => simp [intOf]; omega
        case rel => exact ⟨m + 1, by omega, by go_num, by rw [HE.out]; go_num, trivial⟩
    · obtain rfl : m = M := by omega
      have hm2 : decide ((m : Int) < (m : Int)) = false := by simp
      go_wp2
      go_ret2
      exact ⟨S, rfl, HC.out, HB.out⟩

theorem rLeft_no {A : Option Addr} {capd : Nat} {ds : List (Int × Int)} {w : World} (n : Int) (hn : I64 n) (hD : Dirs w A ds) (he : openE n ds ≠ 0) :
    Calls Try.prog 46 #[.int .i64 n, .slice A ds.length capd] w fun e w' => e = .returned (.tuple #[.int .i64 0, .int .i64 (openE n ds)]) ∧ Below w.heap.size w w' := by
  have O := Lib.hid (rOpen_no (capd := capd) n hn hD he)
  clear hD he
  go_enter Try.func46, Try.ntmps46
  go_wp2_with fail
  refine (O.out).mono ?_; rintro e w1 ⟨rfl, hb1⟩
  have HB := Lib.hid hb1
  clear hb1 O
  go_wp2_with fail
  go_loopw [8, 9] (fun s8 s19 wr => s8 = .int .i64 0 ∧ s19 = .int .i64 0 ∧ wr = w1) (fun _ _ _ => 0)
  case atStart => exact ⟨rfl, rfl, rfl⟩
  case round =>
    obtain ⟨rfl, rfl, rfl⟩ := hrel
    go_wp2
    go_ret2
    exact ⟨rfl, HB.out⟩
end Go.Proofs.Ytoeeceemoggffaa
