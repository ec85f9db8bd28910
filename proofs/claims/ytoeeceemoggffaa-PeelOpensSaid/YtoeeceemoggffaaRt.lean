/- What the functions of package root come to, those that read and make lists. -/
import Derived.Test.YtoeeceemoggffaaRs
namespace Go.Proofs.Ytoeeceemoggffaa
open Go.RowKit
set_option maxHeartbeats 400000

/-- row g holds these complex numbers from its head on -/
def RowC (w : World) (g : Nat) (xs : List (Nat × Nat)) : Prop := ∀ j a, xs[j]? = some a → w.cell? ⟨g, j, none⟩ = some (cv a)

theorem RowC.at {w : World} {g : Nat} {xs : List (Nat × Nat)} (h : RowC w g xs) {j : Nat} (hj : j < xs.length) : w.cell? ⟨g, j, none⟩ = some (cv (xs.getD j (0, 0))) :=
  h j _ (by rw [List.getD_eq_getElem?_getD, List.getElem?_eq_getElem hj]; rfl)

theorem quarter_walk (N k L g cap : Nat) (xs : List (Nat × Nat)) (w : World) (h4 : 4 ≤ N) (hN : N ≤ 4096) (hk : k < N / 4) (hl : xs.length = L) (hL : L = N / 8 + 1) (hr : RowC w g xs) :
    Calls Try.prog 89 #[.int .i64 (N : Int), .int .i64 (k : Int), .slice (some ⟨g, 0, none⟩) L cap] w fun e w' => e = .returned (cv (quarterL N k xs)) ∧ w = w' := by
  by_cases h : k ≤ N / 8
  · have e : quarterL N k xs = xs.getD k (0, 0) := by unfold quarterL; rw [if_pos h]
    have hc := hr.at (show k < xs.length by omega)
    rw [e]
    generalize xs.getD k (0, 0) = a at *
    obtain ⟨p, q⟩ := a
    have h1 : (k : Int) ≤ (N : Int) / 8 := by omega
    have h2 : k < L := by omega
    clear e hl hL hr
    go_enter Try.func89, Try.ntmps89
    go_wp2
    go_ret
    exact ⟨rfl, rfl⟩
  · have e : quarterL N k xs = ((xs.getD (N / 4 - k) (0, 0)).2, (xs.getD (N / 4 - k) (0, 0)).1) := by unfold quarterL; rw [if_neg h]
    have hc := hr.at (show N / 4 - k < xs.length by omega)
    rw [e]
    generalize xs.getD (N / 4 - k) (0, 0) = a at *
    obtain ⟨p, q⟩ := a
    have h1 : ¬ ((k : Int) ≤ (N : Int) / 8) := by omega
    have h2 : 0 ≤ (N : Int) / 4 - (k : Int) ∧ (N : Int) / 4 - (k : Int) < (L : Int) := by omega
    clear e hl hL hr
    go_enter Try.func89, Try.ntmps89
    go_wp2
    go_ret
    exact ⟨rfl, rfl⟩

/-- both parts are words of 64 bits -/
def Wd (a : Nat × Nat) : Prop := a.1 < 18446744073709551616 ∧ a.2 < 18446744073709551616
theorem Wd_zero : Wd (0, 0) := ⟨by decide, by decide⟩
theorem plain1_lt {x : Nat} (h : x < 18446744073709551616) : plain1 x < 18446744073709551616 := by
  unfold plain1; split
  · decide
  · exact h
theorem Wd.plain {a : Nat × Nat} (h : Wd a) : Wd (plain2 a) := ⟨plain1_lt h.1, plain1_lt h.2⟩
theorem Wd.turn {a : Nat × Nat} (h : Wd a) : Wd (turn1 a) := ⟨fneg_lt h.2, h.1⟩
theorem Wd.turns {a : Nat × Nat} (h : Wd a) : ∀ j, Wd (turns j a)
  | 0 => h
  | j + 1 => (h.turns j).turn.plain
theorem Wd_getD {xs : List (Nat × Nat)} (h : ∀ a ∈ xs, Wd a) (i : Nat) : Wd (xs.getD i (0, 0)) := by
  rw [List.getD_eq_getElem?_getD]
  cases e : xs[i]? with
  | none => exact Wd_zero
  | some a => exact h a (List.mem_of_getElem? e)
theorem Wd_quarter {xs : List (Nat × Nat)} (h : ∀ a ∈ xs, Wd a) (n k : Nat) : Wd (quarterL n k xs) := by
  unfold quarterL; split
  · exact Wd_getD h _
  · exact ⟨(Wd_getD h _).2, (Wd_getD h _).1⟩

theorem wrap64_cast {n : Nat} (h : n < 9223372036854775808) : wrap64 (n : Int) = (n : Int) := by unfold wrap64; omega

theorem at_small (N k L cap g : Nat) (xs : List (Nat × Nat)) (w : World) (h4 : N < 4) (hk : k < N) :
    Calls Try.prog 51 #[.int .i64 (N : Int), .int .i64 (k : Int), .slice (some ⟨g, 0, none⟩) L cap] w fun e w' => e = .returned (cv (atL N k xs)) ∧ w = w' := by
  have e : atL N k xs = (floatOfInt .f64 (1 - 2 * (k : Int)), 0) := by unfold atL; rw [if_pos h4]
  have h1 : (N : Int) < 4 := by omega
  have h2 : (k : Int) < 4 := by omega
  rw [e]
  clear e
  go_enter Try.func51, Try.ntmps51
  go_wp2
  go_ret
  exact ⟨rfl, rfl⟩

theorem at_walk (N k L g cap : Nat) (xs : List (Nat × Nat)) (w : World) (h4 : 4 ≤ N) (hN : N ≤ 4096) (hk : k < N) (hl : xs.length = L) (hL : L = N / 8 + 1) (hr : RowC w g xs) (hw : ∀ a ∈ xs, Wd a) :
    Calls Try.prog 51 #[.int .i64 (N : Int), .int .i64 (k : Int), .slice (some ⟨g, 0, none⟩) L cap] w fun e w' => e = .returned (cv (atL N k xs)) ∧ w = w' := by
  have e : atL N k xs = turns (k / (N / 4)) (quarterL N (k % (N / 4)) xs) := by unfold atL; rw [if_neg (by omega)]
  have hq : 0 < N / 4 := by omega
  have c1 := quarter_walk N (k % (N / 4)) L g cap xs w h4 hN (Nat.mod_lt _ hq) hl hL hr
  have hW := Wd_quarter hw N (k % (N / 4))
  rw [e]
  generalize quarterL N (k % (N / 4)) xs = a0 at *
  have C1 := Lib.hid c1
  have h1 : ¬ (N : Int) < 4 := by omega
  have h2 : (N : Int) / 4 ≠ 0 := by omega
  have hcap : k / (N / 4) ≤ k := Nat.div_le_self _ _
  have hwr : wrap64 ((k : Int) / ((N : Int) / 4)) = ((k / (N / 4) : Nat) : Int) := by
    rw [← wrap64_cast (show k / (N / 4) < 9223372036854775808 by omega)]; simp
  clear e hl hL hr hw c1
  generalize k / (N / 4) = M at *
  go_enter Try.func51, Try.ntmps51
  go_wp2_with fail
  rw [show (k : Int) % ((N : Int) / 4) = ((k % (N / 4) : Nat) : Int) by simp]
  refine C1.out.mono ?_; rintro e w' ⟨rfl, rfl⟩
  go_wp2
  rw [hwr]
  go_loop [7, 26] (fun v i => ∃ j : Nat, j ≤ M ∧ i = .int .i64 j ∧ v = cv (turns j a0)) (fun _ i => M - (intOf i).toNat)
  case atStart => exact ⟨0, Nat.zero_le _, rfl, rfl⟩
  case round =>
    obtain ⟨j, hj, rfl, rfl⟩ := hrel
    by_cases hlt : j < M
    · go_wp2_with fail
      refine (Turn1_walk _ _ _ (hW.turns j).2).mono ?_; rintro e w' ⟨rfl, rfl⟩
      go_wp2_with fail
      refine (Plain_walk _ _ _).mono ?_; rintro e w' ⟨rfl, rfl⟩
      go_wp2
      go_round
      case rel => exact ⟨j + 1, by omega, by go_num, rfl⟩
      case measure => simp [intOf]; omega
    · obtain rfl : j = M := by omega
      go_wp2
      go_ret
      exact ⟨rfl, rfl⟩
end Go.Proofs.Ytoeeceemoggffaa
