/- ray.Dot by its contract, and the plain law of adjointness. -/
import Derived.Test.YtoeeceemoggffaaLp
import Derived.Test.YtoeeceemoggffaaGd
import Derived.BigQuiet
namespace Go.Proofs.Ytoeeceemoggffaa
open Go.RowKit
set_option maxHeartbeats 1600000
set_option maxRecDepth 100000

/-- a sum over the first k numbers -/
def rsum (f : Nat → Int) : Nat → Int
  | 0 => 0
  | k + 1 => rsum f k + f k
theorem rsum_bound {f : Nat → Int} {c : Int} {N : Nat} (h : ∀ i, i < N → -c ≤ f i ∧ f i ≤ c) : ∀ k, k ≤ N → -(c * k) ≤ rsum f k ∧ rsum f k ≤ c * k
  | 0, _ => by simp [rsum]
  | k + 1, hk => by
    have ih := rsum_bound h k (by omega)
    have := h k (by omega)
    unfold rsum
    rw [Int.natCast_add, Int.mul_add]
    omega
theorem rsum_congr {f g : Nat → Int} : ∀ k, (∀ i, i < k → f i = g i) → rsum f k = rsum g k
  | 0, _ => rfl
  | k + 1, h => by unfold rsum; rw [rsum_congr k (fun i hi => h i (by omega)), h k (by omega)]
theorem rsum_add (f g : Nat → Int) : ∀ k, rsum (fun i => f i + g i) k = rsum f k + rsum g k
  | 0 => rfl
  | k + 1 => by unfold rsum; rw [rsum_add f g k]; omega
theorem rsum_one (j0 : Nat) (v : Int) : ∀ k, rsum (fun j => if j0 = j then v else 0) k = if j0 < k then v else 0
  | 0 => by simp [rsum]
  | k + 1 => by
    unfold rsum
    rw [rsum_one j0 v k]
    by_cases h1 : j0 < k
    · rw [if_pos h1, if_neg (by omega), if_pos (by omega)]; omega
    · by_cases h2 : j0 = k
      · rw [if_neg h1, if_pos h2, if_pos (by omega)]; omega
      · rw [if_neg h1, if_neg h2, if_neg (by omega)]; rfl
theorem sumL_range_succ (ln : Nat → Nat) (A : Nat → Int) (k j : Nat) : sumL ln A (List.range (k + 1)) j = sumL ln A (List.range k) j + (if ln k = j then A k else 0) := by
  rw [List.range_succ, sumL_snoc]

/-- sums over lines against numbers of lines are sums over cells -/
theorem adjoint (ln : Nat → Nat) (A V : Nat → Int) (b : Nat) : ∀ k, (∀ i, i < k → ln i < b) → rsum (fun j => sumL ln A (List.range k) j * V j) b = rsum (fun i => A i * V (ln i)) k
  | 0, _ => by
    rw [rsum_congr (g := fun _ => 0) b (fun j _ => by simp [sumL])]
    have : ∀ b, rsum (fun _ => 0) b = 0 := by intro b; induction b with
      | zero => rfl
      | succ b ih => unfold rsum; rw [ih]; rfl
    rw [this]; rfl
  | k + 1, h => by
    have ih := adjoint ln A V b k (fun i hi => h i (by omega))
    have e : rsum (fun j => sumL ln A (List.range (k + 1)) j * V j) b = rsum (fun j => sumL ln A (List.range k) j * V j + (if ln k = j then A k * V (ln k) else 0)) b := by
      refine rsum_congr b (fun j _ => ?_)
      rw [sumL_range_succ, Int.add_mul]
      congr 1
      by_cases hj : ln k = j
      · rw [if_pos hj, if_pos hj, hj]
      · rw [if_neg hj, if_neg hj, Int.zero_mul]
    rw [e, rsum_add, ih, rsum_one, if_pos (h k (by omega))]
    rfl

theorem whole_cmul {p q u v : Nat} {a b c d : Int} (hp : Whole p a) (hq : Whole q b) (hu : Whole u c) (hv : Whole v d) {m : Nat} (h1 : (a * c).natAbs ≤ m) (h2 : (b * d).natAbs ≤ m) (h3 : (a * d).natAbs ≤ m) (h4 : (b * c).natAbs ≤ m) (hm : m < 2 ^ 51) :
    ∃ r, cmul (p, q) (u, v) = some r ∧ Whole r.1 (a * c - b * d) ∧ Whole r.2 (a * d + b * c) := by
  obtain ⟨x1, e1, w1⟩ := whole_mul hp hu (by omega)
  obtain ⟨x2, e2, w2⟩ := whole_mul hq hv (by omega)
  obtain ⟨x3, e3, w3⟩ := whole_sub w1 w2 (by omega)
  obtain ⟨x4, e4, w4⟩ := whole_mul hp hv (by omega)
  obtain ⟨x5, e5, w5⟩ := whole_mul hq hu (by omega)
  obtain ⟨x6, e6, w6⟩ := whole_add w4 w5 (by omega)
  refine ⟨(x3, x6), ?_, w3, w6⟩
  unfold cmul
  simp only [e1, e2, e3, e4, e5, e6, Option.bind_some]

/-- the two parts of a sum of products with conjugates -/
def dotR (A1 A2 B1 B2 : Nat → Int) : Nat → Int := fun i => A1 i * B1 i + A2 i * B2 i
def dotI (A1 A2 B1 B2 : Nat → Int) : Nat → Int := fun i => A2 i * B1 i - A1 i * B2 i

theorem mul_bound {a b : Int} {x y : Nat} (ha : a.natAbs ≤ x) (hb : b.natAbs ≤ y) : (a * b).natAbs ≤ x * y := by
  rw [Int.natAbs_mul]; exact Nat.mul_le_mul ha hb

/-- what Dot gives -/
def GivesDot (A1 A2 B1 B2 : Nat → Int) (N : Nat) (w : World) (e : Ending) (w' : World) : Prop :=
  ∃ re im, e = .returned (.tuple #[.complex .f64 re im, .int .i64 0]) ∧ Whole re (rsum (dotR A1 A2 B1 B2) N) ∧ Whole im (rsum (dotI A1 A2 B1 B2) N) ∧ Drawn w w'

/-- words of whole numbers in memory -/
def Cells (w : World) (g N : Nat) (A1 A2 : Nat → Int) : Prop := ∀ i, i < N → ∃ p q, w.cell? ⟨g, i, none⟩ = some (.complex .f64 p q) ∧ Whole p (A1 i) ∧ Whole q (A2 i)

theorem Dot_walk (N ga ca gb cb : Nat) (A1 A2 B1 B2 : Nat → Int) (w : World) (hN : N ≤ 4096) (ha : Cells w ga N A1 A2) (hb : Cells w gb N B1 B2)
    (hA : ∀ i, i < N → (A1 i).natAbs ≤ 1048576 ∧ (A2 i).natAbs ≤ 1048576) (hB : ∀ i, i < N → (B1 i).natAbs ≤ 256 ∧ (B2 i).natAbs ≤ 256) :
    Calls Try.prog 41 #[.slice (some ⟨ga, 0, none⟩) N ca, .slice (some ⟨gb, 0, none⟩) N cb] w fun e w' => GivesDot A1 A2 B1 B2 N w e w' := by
  have HA := Lib.hid ha
  have HB := Lib.hid hb
  have HBa := Lib.hid hA
  have HBb := Lib.hid hB
  have hne : ((N : Int) != (N : Int)) = false := by simp
  have hbR : ∀ i, i < N → -536870912 ≤ dotR A1 A2 B1 B2 i ∧ dotR A1 A2 B1 B2 i ≤ 536870912 := by
    intro i hi
    have h1 := mul_bound (hA i hi).1 (hB i hi).1
    have h2 := mul_bound (hA i hi).2 (hB i hi).2
    unfold dotR
    omega
  have hbI : ∀ i, i < N → -536870912 ≤ dotI A1 A2 B1 B2 i ∧ dotI A1 A2 B1 B2 i ≤ 536870912 := by
    intro i hi
    have h1 := mul_bound (hA i hi).2 (hB i hi).1
    have h2 := mul_bound (hA i hi).1 (hB i hi).2
    unfold dotI
    omega
  have HR := Lib.hid hbR
  have HI := Lib.hid hbI
  clear ha hb hA hB hbR hbI
  go_enter Try.func41, Try.ntmps41
  go_wp2
  go_loopw [6, 15] (fun s i wr => ∃ k re im : Nat, k ≤ N ∧ i = .int .i64 k ∧ s = .complex .f64 re im ∧ Whole re (rsum (dotR A1 A2 B1 B2) k) ∧ Whole im (rsum (dotI A1 A2 B1 B2) k) ∧ Drawn w wr) (fun _ i _ => N - (intOf i).toNat)
  case atStart => exact ⟨0, 0, 0, Nat.zero_le _, rfl, rfl, whole_fint (a := 0) (by decide), whole_fint (a := 0) (by decide), Drawn.refl _⟩
  case round =>
    obtain ⟨k, re, im, hk, rfl, rfl, hre, him, hd⟩ := hrel
    have HRe := Lib.hid hre
    have HIm := Lib.hid him
    have HD := Lib.hid hd
    clear hre him hd
    by_cases hlt : k < N
    · obtain ⟨p, q, hc1, wp, wq⟩ := HA.out k hlt
      obtain ⟨u, v, hc2, wu, wv⟩ := HB.out k hlt
      have d1 := (HD.out.cell _).trans hc1
      have d2 := (HD.out.cell _).trans hc2
      have h1 := mul_bound (HBa.out k hlt).1 (HBb.out k hlt).1
      have h2 := mul_bound (HBa.out k hlt).2 (HBb.out k hlt).2
      have h3 := mul_bound (HBa.out k hlt).1 (HBb.out k hlt).2
      have h4 := mul_bound (HBa.out k hlt).2 (HBb.out k hlt).1
      obtain ⟨r, hr, wr1, wr2⟩ := whole_cmul (m := 268435456) wp wq wu (whole_neg wv) (by omega) (by rw [Int.mul_neg, Int.natAbs_neg]; omega) (by rw [Int.mul_neg, Int.natAbs_neg]; omega) (by omega) (by decide)
      have e1 : A1 k * B1 k - A2 k * -B2 k = dotR A1 A2 B1 B2 k := by unfold dotR; rw [Int.mul_neg]; omega
      have e2 : A1 k * -B2 k + A2 k * B1 k = dotI A1 A2 B1 B2 k := by unfold dotI; rw [Int.mul_neg]; omega
      rw [e1] at wr1
      rw [e2] at wr2
      have s1 := rsum_bound HR.out k (by omega)
      have s2 := rsum_bound HI.out k (by omega)
      have t1 := HR.out k hlt
      have t2 := HI.out k hlt
      obtain ⟨x1, f1, g1⟩ := whole_add HRe.out wr1 (by omega)
      obtain ⟨x2, f2, g2⟩ := whole_add HIm.out wr2 (by omega)
      have G1 := Lib.hid g1
      have G2 := Lib.hid g2
      have C1 := Lib.hid (fun W => Conj_walk u v W wv.lt)
      have C2 := Lib.hid (fun W => Mul_walk p q u (fneg v) r W hr)
      have C3 := Lib.hid (fun W => Add_walk re im r.1 r.2 x1 x2 W f1 f2)
      clear hc1 hc2 wp wq wu wv h1 h2 h3 h4 hr wr1 wr2 e1 e2 s1 s2 t1 t2 f1 f2 g1 g2
      go_wp2
      go_quiet ((first | (go_at_call 76; exact quiet_same (C1.out _)) | (go_at_call 75; exact quiet_same (C2.out _)) | (go_at_call 74; exact quiet_same (C3.out _))))
      go_wp2
      go_roundw
      case rel => exact ⟨k + 1, x1, x2, by omega, by go_num, rfl, G1.out, G2.out, HD.out.more _⟩
      case measure => simp [intOf]; omega
    · obtain rfl : k = N := by omega
      go_wp2
      go_ret2
      exact ⟨_, _, rfl, HRe.out, HIm.out, HD.out⟩
end Go.Proofs.Ytoeeceemoggffaa
