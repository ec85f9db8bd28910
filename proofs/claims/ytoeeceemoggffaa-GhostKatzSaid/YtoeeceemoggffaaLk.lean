/- GhostKatz: the walk. -/
import Derived.Test.YtoeeceemoggffaaA13
namespace Go.Proofs.Ytoeeceemoggffaa
open Go.RowKit
set_option maxHeartbeats 1600000
set_option maxRecDepth 100000

theorem GhostKatz_walk (n : Int) (hn : I64 n) (A : Option Addr) (cap : Nat) (ds : List (Int × Int)) (w : World) (hD : Dirs w A ds) (hcap : ds.length ≤ cap) :
    Calls Try.prog 8 #[.int .i64 n, .slice A ds.length cap] w fun e w' => e = .returned (.bool true) ∧ Below w.heap.size w w' := by
  have C0 := Lib.hid (alive13_walk w)
  have C1 := Lib.hid (fun w hD => Fits_walk n hn A cap ds w hD hcap)
  have C2 := Lib.hid (fun w hD => Katz_walk n hn A cap ds w hD)
  have C3 := Lib.hid (fun w hD => Make_yes A cap ds w hD hcap)
  have C4 := Lib.hid (fun w hD => Make_no A cap ds w hD hcap)
  have HD := Lib.hid hD
  have hX0 := mw_pos ds
  generalize ds.length = N at *
  clear hD hcap
  by_cases hout : n < 1 ∨ 64 < n
  · rw [fits_out hout] at C1
    rw [katz_out hout] at C2
    clear hout C3 C4 hX0
    go_enter Try.func8, Try.ntmps8
    go_wp2_with fail
    refine C0.out.mono ?_; rintro e w1 ⟨rfl, hb1⟩
    have HB1 := Lib.hid hb1
    clear hb1
    go_wp2_with fail
    refine (C1.out _ (HD.out.later HB1.out)).mono ?_; rintro e w2 ⟨rfl, hb2⟩
    have HB2 := Lib.hid (HB1.out.trans (hb2.mono HB1.out.size))
    clear hb2
    go_wp2_with fail
    refine (C2.out _ (HD.out.later HB2.out)).mono ?_; rintro e w3 ⟨rfl, hb3⟩
    have HB3 := Lib.hid (HB2.out.trans (hb3.mono HB2.out.size))
    clear hb3
    go_wp2
    go_ret
    exact ⟨rfl, HB3.out⟩
  by_cases ht : twice ds = 0
  · rw [fits_yes hout ht] at C1
    rw [katz_yes hout ht] at C2
    have hw : (wN ds : Int) = mw ds := by unfold wN; omega
    have hY0 := mh_pos (twiceFrom_ok ds [] ht)
    have hh : (hN ds : Int) = mh ds := by unfold hN; omega
    unfold GivesGhost at C3
    rw [← hw, ← hh] at C1 C2
    clear hw hh hX0 hY0 ht
    by_cases he : mkErr ds = 0
    · have C5 := Lib.hid (fun w hD => C3.out w hD he)
      clear C4 C3
      generalize wN ds = XN at *
      generalize hN ds = YN at *
      generalize XN * YN = MN at *
      clear hout he
      by_cases hx : (XN : Int) ≤ n
      · by_cases hy : (YN : Int) ≤ n
        · have f1 : decide ((XN : Int) ≤ n) = true := decide_eq_true hx
          have f2 : decide (n < (XN : Int)) = false := decide_eq_false (by omega)
          have f3 : decide ((YN : Int) ≤ n) = true := decide_eq_true hy
          have f4 : decide (n < (YN : Int)) = false := decide_eq_false (by omega)
          rw [f1, f3] at C1
          rw [f2, f4] at C2
          rw [Bool.and_true] at C1
          rw [Bool.or_false] at C2
          go_enter Try.func8, Try.ntmps8
          go_wp2_with fail
          refine C0.out.mono ?_; rintro e w1 ⟨rfl, hb1⟩
          have HB1 := Lib.hid hb1
          clear hb1
          go_wp2_with fail
          refine (C1.out _ (HD.out.later HB1.out)).mono ?_; rintro e w2 ⟨rfl, hb2⟩
          have HB2 := Lib.hid (HB1.out.trans (hb2.mono HB1.out.size))
          clear hb2
          go_wp2_with fail
          refine (C2.out _ (HD.out.later HB2.out)).mono ?_; rintro e w3 ⟨rfl, hb3⟩
          have HB3 := Lib.hid (HB2.out.trans (hb3.mono HB2.out.size))
          clear hb3
          go_wp2_with fail
          refine (C5.out _ (HD.out.later HB3.out)).mono ?_; rintro e w4 ⟨g, rfl, ho⟩
          have HB4 := Lib.hid (HB3.out.trans (ho.below.mono HB3.out.size))
          clear ho
          go_wp2
          go_ret
          exact ⟨rfl, HB4.out.alloc HB4.out.size _⟩
        · have f1 : decide ((XN : Int) ≤ n) = true := decide_eq_true hx
          have f2 : decide (n < (XN : Int)) = false := decide_eq_false (by omega)
          have f3 : decide ((YN : Int) ≤ n) = false := decide_eq_false hy
          have f4 : decide (n < (YN : Int)) = true := decide_eq_true (by omega)
          rw [f1, f3] at C1
          rw [f2, f4] at C2
          rw [Bool.and_false] at C1
          rw [Bool.or_true] at C2
          go_enter Try.func8, Try.ntmps8
          go_wp2_with fail
          refine C0.out.mono ?_; rintro e w1 ⟨rfl, hb1⟩
          have HB1 := Lib.hid hb1
          clear hb1
          go_wp2_with fail
          refine (C1.out _ (HD.out.later HB1.out)).mono ?_; rintro e w2 ⟨rfl, hb2⟩
          have HB2 := Lib.hid (HB1.out.trans (hb2.mono HB1.out.size))
          clear hb2
          go_wp2_with fail
          refine (C2.out _ (HD.out.later HB2.out)).mono ?_; rintro e w3 ⟨rfl, hb3⟩
          have HB3 := Lib.hid (HB2.out.trans (hb3.mono HB2.out.size))
          clear hb3
          go_wp2_with fail
          refine (C5.out _ (HD.out.later HB3.out)).mono ?_; rintro e w4 ⟨g, rfl, ho⟩
          have HB4 := Lib.hid (HB3.out.trans (ho.below.mono HB3.out.size))
          clear ho
          go_wp2
          go_ret
          exact ⟨rfl, HB4.out.alloc HB4.out.size _⟩
      · have f1 : decide ((XN : Int) ≤ n) = false := decide_eq_false hx
        have f2 : decide (n < (XN : Int)) = true := decide_eq_true (by omega)
        rw [f1, Bool.false_and] at C1
        rw [f2, Bool.true_or] at C2
        go_enter Try.func8, Try.ntmps8
        go_wp2_with fail
        refine C0.out.mono ?_; rintro e w1 ⟨rfl, hb1⟩
        have HB1 := Lib.hid hb1
        clear hb1
        go_wp2_with fail
        refine (C1.out _ (HD.out.later HB1.out)).mono ?_; rintro e w2 ⟨rfl, hb2⟩
        have HB2 := Lib.hid (HB1.out.trans (hb2.mono HB1.out.size))
        clear hb2
        go_wp2_with fail
        refine (C2.out _ (HD.out.later HB2.out)).mono ?_; rintro e w3 ⟨rfl, hb3⟩
        have HB3 := Lib.hid (HB2.out.trans (hb3.mono HB2.out.size))
        clear hb3
        go_wp2_with fail
        refine (C5.out _ (HD.out.later HB3.out)).mono ?_; rintro e w4 ⟨g, rfl, ho⟩
        have HB4 := Lib.hid (HB3.out.trans (ho.below.mono HB3.out.size))
        clear ho
        go_wp2
        go_ret
        exact ⟨rfl, HB4.out.alloc HB4.out.size _⟩
    · have C5 := Lib.hid (fun w hD => C4.out w hD he)
      clear C4 C3
      have he1 : (mkErr ds != 0) = true := by simpa using he
      generalize mkErr ds = E at *
      generalize wN ds = XN at *
      generalize hN ds = YN at *
      clear hout he
      by_cases hx : (XN : Int) ≤ n
      · by_cases hy : (YN : Int) ≤ n
        · have f1 : decide ((XN : Int) ≤ n) = true := decide_eq_true hx
          have f2 : decide (n < (XN : Int)) = false := decide_eq_false (by omega)
          have f3 : decide ((YN : Int) ≤ n) = true := decide_eq_true hy
          have f4 : decide (n < (YN : Int)) = false := decide_eq_false (by omega)
          rw [f1, f3] at C1
          rw [f2, f4] at C2
          rw [Bool.and_true] at C1
          rw [Bool.or_false] at C2
          go_enter Try.func8, Try.ntmps8
          go_wp2_with fail
          refine C0.out.mono ?_; rintro e w1 ⟨rfl, hb1⟩
          have HB1 := Lib.hid hb1
          clear hb1
          go_wp2_with fail
          refine (C1.out _ (HD.out.later HB1.out)).mono ?_; rintro e w2 ⟨rfl, hb2⟩
          have HB2 := Lib.hid (HB1.out.trans (hb2.mono HB1.out.size))
          clear hb2
          go_wp2_with fail
          refine (C2.out _ (HD.out.later HB2.out)).mono ?_; rintro e w3 ⟨rfl, hb3⟩
          have HB3 := Lib.hid (HB2.out.trans (hb3.mono HB2.out.size))
          clear hb3
          go_wp2_with fail
          refine (C5.out _ (HD.out.later HB3.out)).mono ?_; rintro e w4 ⟨rfl, hb4⟩
          have HB4 := Lib.hid (HB3.out.trans (hb4.mono HB3.out.size))
          clear hb4
          go_wp2
          go_ret
          exact ⟨rfl, HB4.out.alloc HB4.out.size _⟩
        · have f1 : decide ((XN : Int) ≤ n) = true := decide_eq_true hx
          have f2 : decide (n < (XN : Int)) = false := decide_eq_false (by omega)
          have f3 : decide ((YN : Int) ≤ n) = false := decide_eq_false hy
          have f4 : decide (n < (YN : Int)) = true := decide_eq_true (by omega)
          rw [f1, f3] at C1
          rw [f2, f4] at C2
          rw [Bool.and_false] at C1
          rw [Bool.or_true] at C2
          go_enter Try.func8, Try.ntmps8
          go_wp2_with fail
          refine C0.out.mono ?_; rintro e w1 ⟨rfl, hb1⟩
          have HB1 := Lib.hid hb1
          clear hb1
          go_wp2_with fail
          refine (C1.out _ (HD.out.later HB1.out)).mono ?_; rintro e w2 ⟨rfl, hb2⟩
          have HB2 := Lib.hid (HB1.out.trans (hb2.mono HB1.out.size))
          clear hb2
          go_wp2_with fail
          refine (C2.out _ (HD.out.later HB2.out)).mono ?_; rintro e w3 ⟨rfl, hb3⟩
          have HB3 := Lib.hid (HB2.out.trans (hb3.mono HB2.out.size))
          clear hb3
          go_wp2_with fail
          refine (C5.out _ (HD.out.later HB3.out)).mono ?_; rintro e w4 ⟨rfl, hb4⟩
          have HB4 := Lib.hid (HB3.out.trans (hb4.mono HB3.out.size))
          clear hb4
          go_wp2
          go_ret
          exact ⟨rfl, HB4.out.alloc HB4.out.size _⟩
      · have f1 : decide ((XN : Int) ≤ n) = false := decide_eq_false hx
        have f2 : decide (n < (XN : Int)) = true := decide_eq_true (by omega)
        rw [f1, Bool.false_and] at C1
        rw [f2, Bool.true_or] at C2
        go_enter Try.func8, Try.ntmps8
        go_wp2_with fail
        refine C0.out.mono ?_; rintro e w1 ⟨rfl, hb1⟩
        have HB1 := Lib.hid hb1
        clear hb1
        go_wp2_with fail
        refine (C1.out _ (HD.out.later HB1.out)).mono ?_; rintro e w2 ⟨rfl, hb2⟩
        have HB2 := Lib.hid (HB1.out.trans (hb2.mono HB1.out.size))
        clear hb2
        go_wp2_with fail
        refine (C2.out _ (HD.out.later HB2.out)).mono ?_; rintro e w3 ⟨rfl, hb3⟩
        have HB3 := Lib.hid (HB2.out.trans (hb3.mono HB2.out.size))
        clear hb3
        go_wp2_with fail
        refine (C5.out _ (HD.out.later HB3.out)).mono ?_; rintro e w4 ⟨rfl, hb4⟩
        have HB4 := Lib.hid (HB3.out.trans (hb4.mono HB3.out.size))
        clear hb4
        go_wp2
        go_ret
        exact ⟨rfl, HB4.out.alloc HB4.out.size _⟩
  · rw [fits_no hout ht] at C1
    rw [katz_no hout rfl ht] at C2
    clear hout C3 C4 hX0
    generalize twice ds = T at *
    have t1 : (T != 0) = true := by simpa using ht
    have t2 : (T == T) = true := by simp
    clear ht
    go_enter Try.func8, Try.ntmps8
    go_wp2_with fail
    refine C0.out.mono ?_; rintro e w1 ⟨rfl, hb1⟩
    have HB1 := Lib.hid hb1
    clear hb1
    go_wp2_with fail
    refine (C1.out _ (HD.out.later HB1.out)).mono ?_; rintro e w2 ⟨rfl, hb2⟩
    have HB2 := Lib.hid (HB1.out.trans (hb2.mono HB1.out.size))
    clear hb2
    go_wp2_with fail
    refine (C2.out _ (HD.out.later HB2.out)).mono ?_; rintro e w3 ⟨rfl, hb3⟩
    have HB3 := Lib.hid (HB2.out.trans (hb3.mono HB2.out.size))
    clear hb3
    go_wp2
    go_ret
    exact ⟨rfl, HB3.out⟩
end Go.Proofs.Ytoeeceemoggffaa
