/- The order of the directions changes nothing in their ghost: the plain law. -/
import Derived.Test.YtoeeceemoggffaaGm
namespace Go.Proofs.Ytoeeceemoggffaa

theorem gs_comm (G : Nat → Nat → Int) (a b q c d r : Nat) : gs (gs G a b q) c d r = gs (gs G c d r) a b q := by
  funext x y
  unfold gs
  have e1 : x - c - a = x - a - c := by omega
  have e2 : x - c - b = x - b - c := by omega
  have e3 : x - d - a = x - a - d := by omega
  have e4 : x - d - b = x - b - d := by omega
  have e5 : y - r - q = y - q - r := by omega
  rw [e1, e2, e3, e4, e5]
  have s1 : (c ≤ x ∧ a ≤ x - c) ↔ (a ≤ x ∧ c ≤ x - a) := by omega
  have s2 : (c ≤ x ∧ b ≤ x - c ∧ q ≤ y) ↔ ((b ≤ x ∧ q ≤ y) ∧ c ≤ x - b) := by omega
  have s3 : ((d ≤ x ∧ r ≤ y) ∧ a ≤ x - d) ↔ (a ≤ x ∧ d ≤ x - a ∧ r ≤ y) := by omega
  have s4 : ((d ≤ x ∧ r ≤ y) ∧ b ≤ x - d ∧ q ≤ y - r) ↔ ((b ≤ x ∧ q ≤ y) ∧ d ≤ x - b ∧ r ≤ y - q) := by omega
  have ite_sub : ∀ (P Q R : Prop) [Decidable P] [Decidable Q] [Decidable R] (u v : Int), (if P then (if Q then u else 0) - (if R then v else 0) else 0) = (if P ∧ Q then u else 0) - (if P ∧ R then v else 0) := by
    intro P Q R _ _ _ u v
    by_cases hP : P
    · simp [hP]
    · simp [hP]
  rw [ite_sub, ite_sub, ite_sub, ite_sub]
  generalize G (x - a - c) y = g1
  generalize G (x - b - c) (y - q) = g2
  generalize G (x - a - d) (y - r) = g3
  generalize G (x - b - d) (y - q - r) = g4
  simp only [s1, s2, s3, s4]
  omega

theorem gh_reverse (ds : List (Int × Int)) : gh ds.reverse = gh ds := by
  unfold gh
  exact List.Perm.foldl_eq' (List.reverse_perm ds) (fun _ _ _ _ z => gs_comm z _ _ _ _ _ _) g0

theorem sum_rev (l : List Int) : l.reverse.sum = l.sum := by
  induction l with
  | nil => rfl
  | cons a r ih => rw [List.reverse_cons, List.sum_append, ih]; simp; omega

theorem mw_reverse (ds : List (Int × Int)) : mw ds.reverse = mw ds := by
  unfold mw
  rw [List.map_reverse, sum_rev]
theorem mh_reverse (ds : List (Int × Int)) : mh ds.reverse = mh ds := by
  unfold mh
  rw [List.map_reverse, sum_rev]

theorem twiceFrom_zero : ∀ (l seen : List (Int × Int)), twiceFrom seen l = 0 ↔ (∀ d ∈ l, okD d = true) ∧ (∀ d ∈ l, d ∉ seen) ∧ l.Nodup
  | [], seen => by simp [twiceFrom]
  | d :: r, seen => by
    have ih := twiceFrom_zero r (seen ++ [d])
    unfold twiceFrom
    by_cases hok : okD d = true
    · rw [if_pos hok]
      by_cases hm : d ∈ seen
      · rw [if_pos hm]
        constructor
        · intro h; cases h
        · rintro ⟨_, h, _⟩; exact (h d (by simp) hm).elim
      · rw [if_neg hm, ih]
        constructor
        · rintro ⟨h1, h2, h3⟩
          refine ⟨fun e he => ?_, fun e he => ?_, ?_⟩
          · rcases List.mem_cons.1 he with rfl | he
            · exact hok
            · exact h1 e he
          · rcases List.mem_cons.1 he with rfl | he
            · exact hm
            · exact fun h => h2 e he (by simp [h])
          · exact List.nodup_cons.2 ⟨fun h => h2 d h (by simp), h3⟩
        · rintro ⟨h1, h2, h3⟩
          obtain ⟨h4, h5⟩ := List.nodup_cons.1 h3
          refine ⟨fun e he => h1 e (by simp [he]), fun e he h => ?_, h5⟩
          rcases List.mem_append.1 h with h | h
          · exact h2 e (by simp [he]) h
          · obtain rfl : e = d := by simpa using h
            exact h4 he
    · rw [if_neg hok]
      constructor
      · intro h; cases h
      · rintro ⟨h, _⟩; exact (hok (h d (by simp))).elim

theorem twice_reverse (ds : List (Int × Int)) : twice ds.reverse = 0 ↔ twice ds = 0 := by
  unfold twice
  rw [twiceFrom_zero, twiceFrom_zero]
  have h : ds.reverse.Nodup ↔ ds.Nodup := by
    unfold List.Nodup
    rw [List.pairwise_reverse]
    constructor <;> exact fun h => h.imp fun k e => k e.symm
  rw [h]
  simp

theorem mkErr_iff (ds : List (Int × Int)) : mkErr ds = 0 ↔ ds.length ≤ 8 ∧ twice ds = 0 ∧ mw ds ≤ 64 ∧ mh ds ≤ 64 := by
  refine ⟨mkErr_zero, fun ⟨h1, h2, h3, h4⟩ => ?_⟩
  unfold mkErr
  rw [if_neg (by omega), if_neg (by rw [h2]; simp), if_neg (by omega)]

theorem mkErr_reverse (ds : List (Int × Int)) : mkErr ds.reverse = 0 ↔ mkErr ds = 0 := by
  rw [mkErr_iff, mkErr_iff, twice_reverse, mw_reverse, mh_reverse, List.length_reverse]
theorem wN_reverse (ds : List (Int × Int)) : wN ds.reverse = wN ds := by unfold wN; rw [mw_reverse]
theorem hN_reverse (ds : List (Int × Int)) : hN ds.reverse = hN ds := by unfold hN; rw [mh_reverse]
end Go.Proofs.Ytoeeceemoggffaa
