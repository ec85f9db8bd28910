/- WholeAngles: the walk. -/
import Derived.Test.YtoeeceemoggffaaFs
import Derived.Test.YtoeeceemoggffaaFa
namespace Go.Proofs.Ytoeeceemoggffaa
open Go.RowKit Go.Lib
set_option maxHeartbeats 1600000
set_option maxRecDepth 100000

theorem mw_perm {l l' : List (Int × Int)} (h : l'.Perm l) : mw l' = mw l := by
  unfold mw
  rw [perm_sum (h.map _)]
theorem twice_perm {k : Nat} {l' : List (Int × Int)} (h : l'.Perm (allA k)) (hn : (allA k).Nodup) : twice l' = 0 :=
  (twiceFrom_zero _ []).2 ⟨fun d hd => listA_ok d (h.mem_iff.1 hd), fun d _ hc => (by cases hc), h.nodup_iff.2 hn⟩

/-- what the law says of both counts -/
theorem angles {m k : Nat} {l1 l2 : List (Int × Int)} {S1 S2 : Nat → Bool} (hk : 1 ≤ k) (hk4 : k ≤ 4) (hm : 1 ≤ m) (h1 : l1.Perm (allA k)) (h2 : l2.Perm (allA (k + 1))) (c1 : Core m l1 S1) (c2 : Core m l2 S2) :
    opn S2 (m * m) ≤ opn S1 (m * m) ∧ opn S1 (m * m) ≤ m * m ∧ (k < m ∨ opn S1 (m * m) = 0) := by
  refine ⟨opn_mono fun c hc hS => c2.sub c1 (fun d hd => h2.mem_iff.2 (all_sub k (by omega) hk d (h1.mem_iff.1 hd))) c hc hS, opn_le _ _, ?_⟩
  rcases Nat.lt_or_ge k m with h | h
  · exact .inl h
  · right
    obtain ⟨_, hn, hw⟩ := all_facts k (by omega) hk
    exact opn_zero (core_katz c1.stuck (by omega) (h1.nodup_iff.2 hn) (fun d hd => listA_ok d (h1.mem_iff.1 hd)) (.inl (by rw [mw_perm h1]; omega)))

theorem WholeAngles_walk (n : Int) (_hn : I64 n) (k : Int) (_hk : I64 k) (w : World) :
    Calls Try.prog 14 #[.int .i64 n, .int .i64 k] w fun e w' => e = .returned (.bool true) ∧ Below w.heap.size w w' := by
  have C0 := Lib.hid (aliveTop_walk w)
  have a7 : bits .and .i64 n 7 = n % 8 := and_mask (k := n) (t := 3) (by decide)
  have a3 : bits .and .i64 k 3 = k % 4 := and_mask (k := k) (t := 2) (by decide)
  obtain ⟨a, ha, ha8⟩ : ∃ a : Nat, n % 8 = (a : Int) ∧ a ≤ 7 := ⟨(n % 8).toNat, by omega, by omega⟩
  obtain ⟨b, hb, hb4⟩ : ∃ b : Nat, k % 4 = (b : Int) ∧ b ≤ 3 := ⟨(k % 4).toNat, by omega, by omega⟩
  rw [ha] at a7
  rw [hb] at a3
  obtain ⟨m, hm⟩ : ∃ m, m = 1 + a := ⟨_, rfl⟩
  obtain ⟨kk, hkk⟩ : ∃ kk, kk = 1 + b := ⟨_, rfl⟩
  have e1 : (1 : Int) + (a : Int) = (m : Int) := by omega
  have e2 : (1 : Int) + (b : Int) = (kk : Int) := by omega
  have e3 : (kk : Int) + 1 = ((kk + 1 : Nat) : Int) := by omega
  obtain ⟨k1, hk1⟩ : ∃ k1, k1 = kk + 1 := ⟨_, rfl⟩
  rw [← hk1] at e3
  have hm1 : 1 ≤ m := by omega
  have hm8 : m ≤ 8 := by omega
  have hkk1 : 1 ≤ kk := by omega
  have hkk4 : kk ≤ 4 := by omega
  have A1 := Lib.hid (fun w => All_walk sorts kk w hkk1 (by omega))
  have A2 := Lib.hid (fun w => All_walk sorts k1 w (by omega) (by omega))
  have HK1 := Lib.hid hk1
  obtain ⟨N1, hN1⟩ : ∃ N1, N1 = (allA kk).length := ⟨_, rfl⟩
  obtain ⟨N2, hN2⟩ : ∃ N2, N2 = (allA k1).length := ⟨_, rfl⟩
  have f1 := all_facts kk (by omega) hkk1
  have f2 := all_facts k1 (by omega) (by omega)
  rw [← hN1] at A1 f1
  rw [← hN2] at A2 f2
  have l1 : (N1 : Int) ≤ 64 := by have := f1.1; omega
  have l2 : (N2 : Int) ≤ 64 := by have := f2.1; omega
  have HF1 := Lib.hid f1.2.1
  have HF2 := Lib.hid f2.2.1
  have HN1 := Lib.hid hN1
  have HN2 := Lib.hid hN2
  clear ha hb hm hkk hk1 hN1 hN2 f1 f2
  go_enter Try.func14, Try.ntmps14
  go_wp2_with fail
  refine C0.out.mono ?_; rintro e w1 ⟨rfl, hb1⟩
  have HB1 := Lib.hid hb1
  clear hb1
  go_wp2_with fail
  refine (A1.out _).mono ?_; rintro e w2 ⟨D1, c1, L1, rfl, hp1, hd1, hb2⟩
  have HB2 := Lib.hid (HB1.out.trans (hb2.mono HB1.out.size))
  have HP1 := Lib.hid hp1
  have HD1 := Lib.hid hd1
  clear hp1 hd1 hb2
  go_wp2_with fail
  refine (A2.out _).mono ?_; rintro e w3 ⟨D2, c2, L2, rfl, hp2, hd2, hb3⟩
  have HB3 := Lib.hid (HB2.out.trans (hb3.mono HB2.out.size))
  have HP2 := Lib.hid hp2
  have HD2 := Lib.hid hd2
  have hln1 : L1.length = N1 := HP1.out.length_eq.trans HN1.out.symm
  have hln2 : L2.length = N2 := hp2.length_eq.trans HN2.out.symm
  have X1 := Lib.hid (fun w (hD : Dirs w D1 L1) => Left_yes (capd := c1) m hD hm1 (by omega) (by omega) (twice_perm HP1.out HF1.out))
  have X2 := Lib.hid (fun w (hD : Dirs w D2 L2) => Left_yes (capd := c2) m hD hm1 (by omega) (by omega) (twice_perm HP2.out HF2.out))
  rw [hln1] at X1
  rw [hln2] at X2
  have HD1' := Lib.hid (HD1.out.later hb3)
  clear hp2 hd2 hb3 hln1 hln2
  go_wp2_with fail
  refine (X1.out _ HD1'.out).mono ?_; rintro e w4 ⟨S1, rfl, hc1, hb4⟩
  have HB4 := Lib.hid (HB3.out.trans (hb4.mono HB3.out.size))
  have HC1 := Lib.hid hc1
  have HD2' := Lib.hid (HD2.out.later hb4)
  clear hc1 hb4
  go_wp2_with fail
  refine (X2.out _ HD2'.out).mono ?_; rintro e w5 ⟨S2, rfl, hc2, hb5⟩
  have HB5 := Lib.hid (HB4.out.trans (hb5.mono HB4.out.size))
  have hang := angles hkk1 hkk4 hm1 HP1.out (by rw [← HK1.out]; exact HP2.out) HC1.out hc2
  have hnn : (m : Int) * (m : Int) = ((m * m : Nat) : Int) := (Int.natCast_mul _ _).symm
  have hM : m * m ≤ 64 := Nat.mul_le_mul hm8 hm8
  generalize opn S1 (m * m) = x at *
  generalize opn S2 (m * m) = y at *
  generalize m * m = M at *
  obtain ⟨g1, g2, g3⟩ := hang
  have g1' : (y : Int) ≤ (x : Int) := by omega
  have g2' : (x : Int) ≤ (M : Int) := by omega
  have g0' : (0 : Int) ≤ (x : Int) := by omega
  clear hc2 hb5
  by_cases hmk : kk < m
  · have hmk' : (kk : Int) < (m : Int) := by omega
    go_wp2
    go_ret
    exact ⟨rfl, HB5.out⟩
  · have hmk' : decide ((kk : Int) < (m : Int)) = false := decide_eq_false (by omega)
    obtain rfl : x = 0 := by omega
    go_wp2
    go_ret
    exact ⟨rfl, HB5.out⟩
end Go.Proofs.Ytoeeceemoggffaa
