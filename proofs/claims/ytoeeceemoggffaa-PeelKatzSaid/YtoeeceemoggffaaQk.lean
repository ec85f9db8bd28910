/- PeelKatz: the walk. -/
import Derived.Test.YtoeeceemoggffaaAf
namespace Go.Proofs.Ytoeeceemoggffaa
open Go.RowKit Go.Lib
set_option maxHeartbeats 1600000
set_option maxRecDepth 100000

theorem PeelKatz_walk (n : Int) (hn : I64 n) (A : Option Addr) (cap : Nat) (ds : List (Int × Int)) (w : World) (hD : Dirs w A ds) (_hcap : ds.length ≤ cap) :
    Calls Try.prog 12 #[.int .i64 n, .slice A ds.length cap] w fun e w' => e = .returned (.bool true) ∧ Below w.heap.size w w' := by
  have C0 := Lib.hid (alive14_walk w)
  have C2 := Lib.hid (fun w hD => Katz_walk n hn A cap ds w hD)
  have HD := Lib.hid hD
  by_cases he : openE n ds = 0
  · obtain ⟨h1, h2, h3, h4⟩ := openE_zero.1 he
    obtain ⟨m, rfl⟩ : ∃ m : Nat, n = (m : Int) := ⟨n.toNat, by omega⟩
    have C1 := Lib.hid (fun w hD => Left_yes (A := A) (capd := cap) (ds := ds) (w := w) m hD (by omega) (by omega) h3 h4)
    obtain ⟨ho, hnd⟩ := twice_ok h4
    have HO := Lib.hid ho
    have HN := Lib.hid hnd
    have hk : katz (m : Int) ds = (decide ((m : Int) < mw ds) || decide ((m : Int) < mh ds), 0) := by
      unfold katz
      rw [if_neg (by omega), if_pos h4]
    rw [hk] at C2
    have hm0 : 0 < m := by omega
    clear hD he h1 h2 h4 ho hnd hk
    go_enter Try.func12, Try.ntmps12
    go_wp2_with fail
    refine C0.out.mono ?_; rintro e w1 ⟨rfl, hb1⟩
    have HB1 := Lib.hid hb1
    clear hb1
    go_wp2_with fail
    refine (C1.out _ (HD.out.later HB1.out)).mono ?_; rintro e w2 ⟨S, rfl, hc, hb2⟩
    have HB2 := Lib.hid (HB1.out.trans (hb2.mono HB1.out.size))
    have HC := Lib.hid hc
    clear hb2 hc
    go_wp2_with fail
    refine (C2.out _ (HD.out.later HB2.out)).mono ?_; rintro e w3 ⟨rfl, hb3⟩
    have HB3 := Lib.hid (HB2.out.trans (hb3.mono HB2.out.size))
    clear hb3
    by_cases hq : (m : Int) < mw ds ∨ (m : Int) < mh ds
    · have h0 : opn S (m * m) = 0 := opn_zero (core_katz HC.out.stuck hm0 HN.out HO.out hq)
      rw [h0]
      have hq' : (decide ((m : Int) < mw ds) || decide ((m : Int) < mh ds)) = true := by simpa using hq
      clear hq h0
      generalize (decide ((m : Int) < mw ds) || decide ((m : Int) < mh ds)) = kb at *
      subst hq'
      go_wp2
      go_ret
      exact ⟨rfl, HB3.out⟩
    · have hq' : (decide ((m : Int) < mw ds) || decide ((m : Int) < mh ds)) = false := by
        rw [decide_eq_false (fun h => hq (.inl h)), decide_eq_false (fun h => hq (.inr h))]
        rfl
      clear hq
      generalize (decide ((m : Int) < mw ds) || decide ((m : Int) < mh ds)) = kb at *
      subst hq'
      generalize opn S (m * m) = ops at *
      go_wp2
      go_ret
      exact ⟨rfl, HB3.out⟩
  · have C1 := Lib.hid (fun w hD => Left_no (A := A) (capd := cap) (ds := ds) (w := w) n hn hD he)
    obtain ⟨t, ht⟩ : ∃ t, t = openE n ds := ⟨_, rfl⟩
    rw [← ht] at C1 he
    obtain ⟨kb, hkb⟩ : ∃ kb, kb = (katz n ds).1 := ⟨_, rfl⟩
    obtain ⟨ke, hke⟩ : ∃ ke, ke = (katz n ds).2 := ⟨_, rfl⟩
    rw [← hkb, ← hke] at C2
    have he' : (t == 0) = false := by simpa using he
    have he2 : (t != 0) = true := by simpa using he
    clear hD he hkb hke ht
    go_enter Try.func12, Try.ntmps12
    go_wp2_with fail
    refine C0.out.mono ?_; rintro e w1 ⟨rfl, hb1⟩
    have HB1 := Lib.hid hb1
    clear hb1
    go_wp2_with fail
    refine (C1.out _ (HD.out.later HB1.out)).mono ?_; rintro e w2 ⟨rfl, hb2⟩
    have HB2 := Lib.hid (HB1.out.trans (hb2.mono HB1.out.size))
    clear hb2
    go_wp2_with fail
    refine (C2.out _ (HD.out.later HB2.out)).mono ?_; rintro e w3 ⟨rfl, hb3⟩
    have HB3 := Lib.hid (HB2.out.trans (hb3.mono HB2.out.size))
    clear hb3
    go_wp2
    go_ret
    exact ⟨rfl, HB3.out⟩
end Go.Proofs.Ytoeeceemoggffaa
