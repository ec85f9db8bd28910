/- dir.Bins and dir.Index of a right direction, by their contracts. -/
import Derived.Test.YtoeeceemoggffaaDc
import Derived.Test.YtoeeceemoggffaaGl
namespace Go.Proofs.Ytoeeceemoggffaa
open Go.RowKit
set_option maxHeartbeats 1600000
set_option maxRecDepth 100000

/-- how many bins -/
def binsN (n : Nat) (d : Int × Int) : Nat := (n - 1) * (d.1.natAbs + d.2.toNat) + 1
/-- where the lines begin -/
def startN (n : Nat) (d : Int × Int) : Nat := (n - 1) * d.1.toNat

theorem binsN_le {n : Nat} {p q : Int} (h : okD (p, q) = true) (hn : n ≤ 64) : binsN n (p, q) ≤ 2017 := by
  obtain ⟨h0, h1, h2, _⟩ := (okD_iff p q).1 h
  have : (n - 1) * (p.natAbs + q.toNat) ≤ 63 * 32 := Nat.mul_le_mul (by omega) (by omega)
  unfold binsN
  simp only
  omega

theorem Bins_walk (n : Nat) (p q : Int) (w : World) (h1 : 1 ≤ n) (h2 : n ≤ 64) (h : okD (p, q) = true) :
    Calls Try.prog 72 #[.int .i64 n, .agg #[.int .i64 p, .int .i64 q]] w fun e w' => e = .returned (.tuple #[.int .i64 (binsN n (p, q)), .int .i64 0]) ∧ Below w.heap.size w w' := by
  obtain ⟨o0, o1, o2, o3, o4⟩ := (okD_iff p q).1 h
  have hp : I64 p := by unfold I64; omega
  have hq : I64 q := by unfold I64; omega
  have C := Lib.hid (fun w => Check_walk p q w hp hq)
  have he : errD (p, q) = 0 := by unfold errD; rw [if_pos h]
  rw [he] at C
  have A := Lib.hid (fun w => abs_walk p w hp)
  have hT := Two.made w 51 p q
  have HT := Lib.hid hT
  have HB := Lib.hid ((Below.refl w.heap.size w).alloc (Nat.le_refl _) (.cells #[.int .i64 p, .int .i64 q] 51))
  have hm : (n - 1) * (p.natAbs + q.toNat) ≤ 63 * 32 := Nat.mul_le_mul (by omega) (by omega)
  obtain ⟨m, hm'⟩ : ∃ m, m = (n - 1) * (p.natAbs + q.toNat) := ⟨_, rfl⟩
  have hbn : binsN n (p, q) = m + 1 := by unfold binsN; rw [hm']
  rw [hbn]
  have hprod : ((n : Int) - 1) * ((p.natAbs : Int) + q) = (m : Int) := by
    rw [hm', Int.natCast_mul]
    congr 1 <;> omega
  have hconv : ∀ W, (convert 74 3 (.int .u64 (p.natAbs : Int))).run Try.prog W = .ok (.int .i64 (p.natAbs : Int)) W := by
    intro W
    have hw : IntKind.i64.wrap (p.natAbs : Int) = (p.natAbs : Int) := IntWalk.i64_in _ (by omega)
    simp [go_sem, hw]
  have hpn : (p.natAbs : Int) ≤ 16 := by omega
  rw [← hm'] at hm
  generalize hab : (p.natAbs : Int) = ab at *
  have hab0 : 0 ≤ ab := by omega
  clear o2 o3 o4 hp hq he h hT hm' hbn hab
  go_enter Try.func72, Try.ntmps72
  go_wp2_with fail
  refine (C.out _).mono ?_; rintro e w1 ⟨rfl, hb⟩
  obtain ⟨_, d0, d1, _, _⟩ := HT.out.later hb HT.out.lt
  have HB1 := Lib.hid (HB.out.trans (hb.mono HB.out.size))
  clear hb
  go_wp2
  go_quiet ((go_at_call 69; exact quiet_same (A.out _)))
  go_wp2
  go_ret2
  exact ⟨by congr 1, HB1.out.trans (Drawn.below ⟨_, rfl⟩ _)⟩

theorem index0_walk (n : Nat) (p q : Int) (w : World) (h1 : 1 ≤ n) (h2 : n ≤ 64) (h : okD (p, q) = true) :
    Calls Try.prog 123 #[.int .i64 n, .agg #[.int .i64 p, .int .i64 q], .int .i64 0, .int .i64 0] w fun e w' => e = .returned (.int .i64 (startN n (p, q))) ∧ Below w.heap.size w w' := by
  obtain ⟨o0, o1, o2, o3, o4⟩ := (okD_iff p q).1 h
  have hb : Below w.heap.size w (w.alloc (.cells #[.int .i64 p, .int .i64 q] 51)) := (Below.refl w.heap.size w).alloc (Nat.le_refl _) _
  by_cases hp0 : 0 < p
  · have hst : (startN n (p, q) : Int) = p * ((n : Int) - 1) := by
      unfold startN
      simp only
      rw [Int.natCast_mul, Int.mul_comm]
      congr 1 <;> omega
    have hle : startN n (p, q) ≤ 63 * 16 := Nat.mul_le_mul (by omega) (by simp only; omega)
    generalize startN n (p, q) = s at *
    have hst2 : p * ((n : Int) - 1) = (s : Int) := hst.symm
    clear hst o3 o4 h
    go_enter Try.func123, Try.ntmps123
    go_wp2
    go_ret
    exact ⟨rfl, hb⟩
  · have hst : startN n (p, q) = 0 := by
      unfold startN
      have : p.toNat = 0 := by omega
      simp only [this, Nat.mul_zero]
    rw [hst]
    clear hst o3 o4 h
    go_enter Try.func123, Try.ntmps123
    go_wp2
    go_ret
    exact ⟨rfl, hb⟩

theorem Index0_walk (n : Nat) (p q : Int) (w : World) (h1 : 1 ≤ n) (h2 : n ≤ 64) (h : okD (p, q) = true) :
    Calls Try.prog 101 #[.int .i64 n, .agg #[.int .i64 p, .int .i64 q], .int .i64 0, .int .i64 0] w fun e w' => e = .returned (.tuple #[.int .i64 (startN n (p, q)), .int .i64 0]) ∧ Below w.heap.size w w' := by
  have B := Lib.hid (fun w => Bins_walk n p q w h1 h2 h)
  have X := Lib.hid (fun w => index0_walk n p q w h1 h2 h)
  have HT := Lib.hid (Two.made w 51 p q)
  have HB := Lib.hid ((Below.refl w.heap.size w).alloc (Nat.le_refl _) (.cells #[.int .i64 p, .int .i64 q] 51))
  generalize binsN n (p, q) = b at *
  generalize startN n (p, q) = s at *
  clear h
  go_enter Try.func101, Try.ntmps101
  go_wp2_with fail
  refine (B.out _).mono ?_; rintro e w1 ⟨rfl, hb⟩
  obtain ⟨_, d0, d1, _, _⟩ := HT.out.later hb HT.out.lt
  have HB1 := Lib.hid (HB.out.trans (hb.mono HB.out.size))
  clear hb
  go_wp2_with fail
  refine (X.out _).mono ?_; rintro e w2 ⟨rfl, hb⟩
  have HB2 := Lib.hid (HB1.out.trans (hb.mono HB1.out.size))
  clear hb
  go_wp2
  go_ret2
  exact ⟨rfl, HB2.out⟩
end Go.Proofs.Ytoeeceemoggffaa
