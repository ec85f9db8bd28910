/- dir.All: the directions of at most k steps: the plain law, and that dir.Cmp's order is one. -/
import Derived.Test.YtoeeceemoggffaaFw
namespace Go.Proofs.Ytoeeceemoggffaa
open Go.Sort Go.RowKit

/-- the directions in their one form -/
abbrev OkDir : Type := { d : Int × Int // okD d = true }
def cmpO (x y : OkDir) : Int := cmpD x.1 y.1
theorem cmpD_neg (x y : Int × Int) : decide (cmpD x y < 0) = decide (0 < crs x y) := by
  unfold cmpD
  by_cases h : 0 < crs x y
  · rw [if_pos h, decide_eq_true h]
    decide
  · rw [if_neg h, decide_eq_false h]
    split <;> decide
theorem crs_self (x : Int × Int) : crs x x = 0 := by unfold crs; rw [Int.mul_comm]; omega

/-- 'not ahead of' goes on -/
theorem upper_ntrans {d e f : Pt} (hd : okD d = true) (he : okD e = true) (hf : okD f = true) (h1 : crs d e ≤ 0) (h2 : crs e f ≤ 0) : crs d f ≤ 0 := by
  obtain ⟨ud, _⟩ := ok_upper hd
  obtain ⟨ue, _⟩ := ok_upper he
  obtain ⟨uf, _⟩ := ok_upper hf
  by_cases e1 : d = e
  · rw [e1]; exact h2
  · by_cases e2 : e = f
    · rw [← e2]; exact h1
    · by_cases e3 : d = f
      · rw [e3, crs_self]
        exact Int.le_refl _
      · have n1 := ok_crs hd he e1
        have n2 := ok_crs he hf e2
        have k1 : 0 < crs e d := by rw [crs_neg]; omega
        have k2 : 0 < crs f e := by rw [crs_neg]; omega
        have := upper_trans uf ue ud k2 k1
        rw [crs_neg] at this
        omega
theorem swoO : SWO (fun x y : OkDir => decide (cmpO x y < 0)) where
  irrefl x := by
    show decide (cmpD x.1 x.1 < 0) = false
    rw [cmpD_neg, crs_self]
    rfl
  trans x y z h1 h2 := by
    have g1 : decide (cmpD x.1 y.1 < 0) = true := h1
    have g2 : decide (cmpD y.1 z.1 < 0) = true := h2
    rw [cmpD_neg, decide_eq_true_eq] at g1 g2
    show decide (cmpD x.1 z.1 < 0) = true
    rw [cmpD_neg, decide_eq_true_eq]
    exact upper_trans (ok_upper x.2).1 (ok_upper y.2).1 (ok_upper z.2).1 g1 g2
  ntrans x y z h1 h2 := by
    have g1 : decide (cmpD x.1 y.1 < 0) = false := h1
    have g2 : decide (cmpD y.1 z.1 < 0) = false := h2
    rw [cmpD_neg, decide_eq_false_iff_not] at g1 g2
    show decide (cmpD x.1 z.1 < 0) = false
    rw [cmpD_neg, decide_eq_false_iff_not]
    have := upper_ntrans x.2 y.2 z.2 (by omega) (by omega)
    omega

/-- the pairs in the order of the two loops: the first j of the row q -/
def rowA (k q : Nat) (j : Nat) : List (Int × Int) := ((List.range j).map fun i : Nat => (((i : Int) - k, (q : Int)) : Int × Int)).filter okD
/-- what All has gathered before row q -/
def listA (k q : Nat) : List (Int × Int) := (1, 0) :: ((List.range q).map fun r => if r = 0 then [] else rowA k r (2 * k + 1)).flatten
theorem rowA_succ (k q j : Nat) : rowA k q (j + 1) = if okD ((j : Int) - k, (q : Int)) = true then rowA k q j ++ [((j : Int) - k, (q : Int))] else rowA k q j := by
  unfold rowA
  rw [List.range_succ, List.map_append, List.filter_append]
  by_cases h : okD ((j : Int) - k, (q : Int)) = true
  · rw [if_pos h]
    simp [h]
  · rw [if_neg h]
    simp [h]
theorem listA_succ (k q : Nat) : listA k (q + 1) = listA k q ++ (if q = 0 then [] else rowA k q (2 * k + 1)) := by
  unfold listA
  rw [List.range_succ, List.map_append, List.flatten_append]
  simp
theorem rowA_ok {k q j : Nat} : ∀ d ∈ rowA k q j, okD d = true := fun _ hd => (List.mem_filter.1 hd).2
theorem listA_ok {k q : Nat} : ∀ d ∈ listA k q, okD d = true := by
  intro d hd
  rcases List.mem_cons.1 hd with rfl | hd
  · decide
  · obtain ⟨l, hl, hd⟩ := List.mem_flatten.1 hd
    obtain ⟨r, _, rfl⟩ := List.mem_map.1 hl
    split at hd
    · cases hd
    · exact rowA_ok d hd
theorem rowA_len (k q j : Nat) : (rowA k q j).length ≤ j := by
  unfold rowA
  refine Nat.le_trans (List.length_filter_le _ _) ?_
  simp
/-- the whole list, for the sides that the law meets -/
abbrev allA (k : Nat) : List (Int × Int) := listA k (k + 1)
theorem all_facts : ∀ k, k < 6 → 1 ≤ k → (allA k).length ≤ 64 ∧ (allA k).Nodup ∧ (k : Int) < mw (allA k) := by decide +kernel
theorem all_sub : ∀ k, k < 5 → 1 ≤ k → ∀ d ∈ allA k, d ∈ allA (k + 1) := by decide +kernel
/-- what is wanted of the library's sort: the directions are put in another order -/
def Sorts : Prop := ∀ (B g cap : Nat) (l : List (Int × Int)) (w : World), (∀ d ∈ l, okD d = true) → 0 < l.length → l.length ≤ 10000 → w.ownsRow B 51 2 (sl g l.length cap) l.length (flatD l) →
  Calls Try.prog 87 #[sl g l.length cap, .func (.func 88) #[] #[]] w fun e w' => e = .returned (.tuple #[]) ∧ ∃ l', l'.Perm l ∧ w'.ownsRow B 51 2 (sl g l.length cap) l.length (flatD l') ∧ Below B w w'

end Go.Proofs.Ytoeeceemoggffaa
