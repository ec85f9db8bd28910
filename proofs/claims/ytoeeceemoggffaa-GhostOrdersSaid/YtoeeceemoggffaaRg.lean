/- The reference's measures, Fits and Same of layer 13, by their contracts. -/
import Derived.Test.YtoeeceemoggffaaGm
import Derived.Test.YtoeeceemoggffaaSl
namespace Go.Proofs.Ytoeeceemoggffaa
open Go.RowKit
set_option maxHeartbeats 1600000
set_option maxRecDepth 100000

theorem rmeasures_walk (A : Option Addr) (cap : Nat) (ds : List (Int × Int)) (w : World) (hD : Dirs w A ds) (hok : ∀ d ∈ ds, okD d = true) :
    Calls Try.prog 66 #[.slice A ds.length cap] w fun e w' => e = .returned (.tuple #[.int .i64 (mw ds), .int .i64 (mh ds)]) ∧ Below w.heap.size w w' := by
  have hlen := hD.len
  obtain ⟨n, hn⟩ : ∃ n, n = ds.length := ⟨_, rfl⟩
  rw [← hn] at hlen ⊢
  have HN := Lib.hid hn
  have HD := Lib.hid hD
  have HOk := Lib.hid hok
  clear hn hD hok
  go_enter Try.func66, Try.ntmps66
  go_wp2
  go_loopw [4, 5, 6] (fun a b i wr => ∃ k : Nat, ∃ x y : Int, k ≤ n ∧ i = .int .i64 k ∧ a = .int .i64 x ∧ b = .int .i64 y ∧ x = mw (ds.take k) ∧ y = mh (ds.take k) ∧ 0 ≤ x ∧ x ≤ 1 + 16 * (k : Int) ∧ 0 ≤ y ∧ y ≤ 1 + 16 * (k : Int) ∧ Below w.heap.size w wr) (fun _ _ i _ => n - (intOf i).toNat)
  case atStart => exact ⟨0, 1, 1, Nat.zero_le _, rfl, rfl, rfl, rfl, rfl, by decide, by decide, by decide, by decide, Below.refl _ _⟩
  case round =>
    obtain ⟨k, x, y, hk, rfl, rfl, rfl, hx, hy, hx0, hx1, hy0, hy1, hb⟩ := hrel
    have HB := Lib.hid hb
    have HX := Lib.hid hx
    have HY := Lib.hid hy
    clear hb hx hy
    by_cases hlt : k < n
    · obtain ⟨p, q, b, off, hg, hp, hq, rfl, hbl, c0, c1⟩ := (HD.out.later HB.out).get (i := k) (by rw [← HN.out]; exact hlt)
      have HG := Lib.hid hg
      have HO := Lib.hid ((okD_iff p q).1 (HOk.out (p, q) (List.mem_of_getElem? hg)))
      obtain ⟨o0, o1, o2, _, _⟩ := HO.out
      clear hg hp hq
      by_cases hp0 : p < -p
      · have e1 : x + -p = x + (p.natAbs : Int) := by omega
        have HE := Lib.hid e1
        clear e1
        go_wp2
        go_region
        go_wp2
        go_roundw
        case rel =>
          refine ⟨k + 1, _, _, by omega, by go_num, rfl, rfl, ?_, ?_, ?_, ?_, ?_, ?_, HB.out.drew⟩
          · rw [mw_succ HG.out, ← HX.out]; simp only; omega
          · rw [mh_succ HG.out, ← HY.out]
          · omega
          · omega
          · omega
          · omega
        case measure => simp [intOf]; omega
      · have e1 : x + p = x + (p.natAbs : Int) := by omega
        have HE := Lib.hid e1
        clear e1
        go_wp2
        go_region
        go_wp2
        go_roundw
        case rel =>
          refine ⟨k + 1, _, _, by omega, by go_num, rfl, rfl, ?_, ?_, ?_, ?_, ?_, ?_, HB.out.drew⟩
          · rw [mw_succ HG.out, ← HX.out]; simp only; omega
          · rw [mh_succ HG.out, ← HY.out]
          · omega
          · omega
          · omega
          · omega
        case measure => simp [intOf]; omega
    · obtain rfl : k = n := by omega
      go_wp2
      go_ret2
      refine ⟨?_, HB.out⟩
      rw [HX.out, HY.out, HN.out, List.take_length]
      rfl

theorem rFits_walk (n : Int) (hn64 : I64 n) (A : Option Addr) (cap : Nat) (ds : List (Int × Int)) (w : World) (hD : Dirs w A ds) :
    Calls Try.prog 33 #[.int .i64 n, .slice A ds.length cap] w fun e w' => e = .returned (.tuple #[.bool (fits n ds).1, .int .i64 (fits n ds).2]) ∧ Below w.heap.size w w' := by
  have HT := Lib.hid (rTwice_walk A cap ds w hD)
  have HL := Lib.hid (fun w hD hok => rmeasures_walk A cap ds w hD hok)
  have HD := Lib.hid hD
  clear hD
  generalize ds.length = N at *
  unfold I64 at hn64
  by_cases hout : n < 1 ∨ 64 < n
  · rw [fits_out hout]
    by_cases h1 : n < 1
    · clear hout
      go_enter Try.func33, Try.ntmps33
      go_wp2
      go_ret2
      exact ⟨rfl, Below.refl _ _⟩
    · have h2 : 64 < n := by omega
      clear hout
      go_enter Try.func33, Try.ntmps33
      go_wp2
      go_ret2
      exact ⟨rfl, Below.refl _ _⟩
  have n1 : 1 ≤ n := by omega
  have n2 : n ≤ 64 := by omega
  by_cases ht : twice ds = 0
  · rw [fits_yes hout ht]
    rw [ht] at HT
    have hok := twiceFrom_ok ds [] ht
    have HL2 := Lib.hid (fun w hD => HL.out w hD hok)
    clear hout hn64 ht HL hok
    generalize mw ds = X at *
    generalize mh ds = Y at *
    by_cases g1 : X ≤ n
    · by_cases g2 : Y ≤ n
      · have e1 : (decide (X ≤ n) && decide (Y ≤ n)) = true := by simp [g1, g2]
        rw [e1]
        go_enter Try.func33, Try.ntmps33
        go_wp2_with fail
        refine HT.out.mono ?_; rintro e w1 ⟨rfl, hb⟩
        have HB := Lib.hid hb
        clear hb
        go_wp2_with fail
        refine (HL2.out _ (HD.out.later HB.out)).mono ?_; rintro e w2 ⟨rfl, hb⟩
        have HB2 := Lib.hid (HB.out.trans (hb.mono HB.out.size))
        clear hb
        go_wp2
        go_ret2
        exact ⟨rfl, HB2.out⟩
      · have g4 : decide (Y ≤ n) = false := decide_eq_false g2
        have e1 : (decide (X ≤ n) && decide (Y ≤ n)) = false := by simp [g4]
        rw [e1]
        go_enter Try.func33, Try.ntmps33
        go_wp2_with fail
        refine HT.out.mono ?_; rintro e w1 ⟨rfl, hb⟩
        have HB := Lib.hid hb
        clear hb
        go_wp2_with fail
        refine (HL2.out _ (HD.out.later HB.out)).mono ?_; rintro e w2 ⟨rfl, hb⟩
        have HB2 := Lib.hid (HB.out.trans (hb.mono HB.out.size))
        clear hb
        go_wp2
        go_ret2
        exact ⟨rfl, HB2.out⟩
    · have g4 : decide (X ≤ n) = false := decide_eq_false g1
      have e1 : (decide (X ≤ n) && decide (Y ≤ n)) = false := by simp [g4]
      rw [e1]
      go_enter Try.func33, Try.ntmps33
      go_wp2_with fail
      refine HT.out.mono ?_; rintro e w1 ⟨rfl, hb⟩
      have HB := Lib.hid hb
      clear hb
      go_wp2_with fail
      refine (HL2.out _ (HD.out.later HB.out)).mono ?_; rintro e w2 ⟨rfl, hb⟩
      have HB2 := Lib.hid (HB.out.trans (hb.mono HB.out.size))
      clear hb
      go_wp2
      go_ret2
      exact ⟨rfl, HB2.out⟩
  · rw [fits_no hout ht]
    clear hout hn64 HL
    generalize twice ds = T at *
    have hT : (T != 0) = true := by simpa using ht
    go_enter Try.func33, Try.ntmps33
    go_wp2_with fail
    refine HT.out.mono ?_; rintro e w1 ⟨rfl, hb⟩
    have HB := Lib.hid hb
    clear hb
    go_wp2
    go_ret2
    exact ⟨rfl, HB.out⟩

/-- two ghosts with the same cells -/
theorem rSame13_refl (X Y N g1 g2 c1 c2 : Nat) (xs : List (Nat × Nat)) (w : World) (hL : N = xs.length) (hr1 : RowC w g1 xs) (hr2 : RowC w g2 xs) (hm : N ≤ 1000000) (h1 : g1 < w.heap.size) (h2 : g2 < w.heap.size) :
    Calls Try.prog 34 #[ghV X Y g1 N c1, ghV X Y g2 N c2] w fun e w' => e = .returned (.bool true) ∧ Below w.heap.size w w' := by
  have hb0 : Below w.heap.size w ((w.alloc (.cells #[.int .i64 X, .int .i64 Y, .slice (some ⟨g1, 0, none⟩) N c1] 44)).alloc (.cells #[.int .i64 X, .int .i64 Y, .slice (some ⟨g2, 0, none⟩) N c2] 44)) :=
    ((Below.refl _ _).alloc (Nat.le_refl _) _).alloc (by simp) _
  have HS := Lib.hid (rSameList_refl xs N g1 g2 c1 c2 _ hL (fun j a h => cells_below hb0 h1 (hr1 j a h)) (fun j a h => cells_below hb0 h2 (hr2 j a h)) hm)
  have HB0 := Lib.hid hb0
  clear hL hr1 hr2 hb0
  have q1 : ((X : Int) == (X : Int)) = true := by simp
  have q2 : ((Y : Int) == (Y : Int)) = true := by simp
  go_enter Try.func34, Try.ntmps34
  go_wp2_with fail
  refine HS.out.mono ?_; rintro e w1 ⟨rfl, hb⟩
  have HB := Lib.hid (HB0.out.trans (hb.mono (by simp <;> omega)))
  clear hb
  go_wp2
  go_ret
  exact ⟨rfl, HB.out⟩
end Go.Proofs.Ytoeeceemoggffaa
