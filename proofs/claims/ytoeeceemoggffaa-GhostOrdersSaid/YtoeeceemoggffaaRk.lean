/- The reference's doubling on the whole grid: the plain law. -/
import Derived.Test.YtoeeceemoggffaaGg
namespace Go.Proofs.Ytoeeceemoggffaa

theorem part_same (G : Nat → Nat → Int) {X i : Nat} (hX : 0 < X) (h : G (i % X) (i / X) = 0) (x y : Nat) : part G X (i + 1) x y = part G X i x y := by
  rw [part_succ G hX]
  by_cases h1 : x = i % X ∧ y = i / X
  · rw [if_pos h1, h1.1, h1.2, h]; omega
  · rw [if_neg h1]; omega

theorem mid_same (G : Nat → Nat → Int) {X pm pp q i : Nat} (hX : 0 < X) (h : G (i % X) (i / X) = 0) (x y : Nat) : mid G X pm pp q (i + 1) (i + 1) x y = mid G X pm pp q i i x y := by
  unfold mid
  rw [part_same G hX h, part_same G hX h]

theorem step_big (G : Nat → Nat → Int) {X W H pp q i n : Nat} (hbox : Boxed G W H) (hX : W + pp ≤ X) (hX0 : 0 < X) (hv : G (i % X) (i / X) ≠ 0) :
    (if pp ≤ n % X ∧ q ≤ n / X then part G X (i + 1) (n % X - pp) (n / X - q) else 0) = (if pp ≤ n % X ∧ q ≤ n / X then part G X i (n % X - pp) (n / X - q) else 0) + (if n = (i / X + q) * X + i % X + pp then G (i % X) (i / X) else 0) := by
  have hin : i % X < W ∧ i / X < H := by
    by_cases h : i % X < W ∧ i / X < H
    · exact h
    · exact (hv (hbox _ _ h)).elim
  have h := cell_iff (X := X) (n := n) (a := i % X + pp) (b := i / X + q) (by omega)
  have e : (i / X + q) * X + (i % X + pp) = (i / X + q) * X + i % X + pp := by omega
  rw [e] at h
  rw [part_succ G hX0]
  generalize (i / X + q) * X + i % X + pp = at0 at *
  generalize i / X = dv at *
  generalize i % X = md at *
  generalize n / X = nd at *
  generalize n % X = nm at *
  by_cases hp : pp ≤ nm ∧ q ≤ nd
  · rw [if_pos hp, if_pos hp]
    by_cases hn : n = at0
    · obtain ⟨h1, h2⟩ := h.2 hn
      have e1 : nm - pp = md := by omega
      have e2 : nd - q = dv := by omega
      rw [if_pos hn, if_pos ⟨e1, e2⟩, e1, e2]
    · rw [if_neg hn, if_neg (fun h3 => hn (h.1 ⟨by omega, by omega⟩))]
  · rw [if_neg hp, if_neg hp, if_neg (fun hn => by obtain ⟨h1, h2⟩ := h.2 hn; exact hp ⟨by omega, by omega⟩)]
    rfl

theorem big_first (G : Nat → Nat → Int) {X W H pm pp q i j : Nat} (hbox : Boxed G W H) (hX : W + pm ≤ X) (hX0 : 0 < X) (hv : G (i % X) (i / X) ≠ 0) (n : Nat) :
    mid G X pm pp q (i + 1) j (n % X) (n / X) = if n = i / X * X + i % X + pm then mid G X pm pp q i j (n % X) (n / X) + G (i % X) (i / X) else mid G X pm pp q i j (n % X) (n / X) := by
  have h := step_big G (X := X) (pp := pm) (q := 0) (i := i) (n := n) hbox hX hX0 hv
  simp only [Nat.zero_le, and_true, Nat.sub_zero, Nat.add_zero] at h
  unfold mid
  rw [h]
  generalize (if pm ≤ n % X then part G X i (n % X - pm) (n / X) else 0) = A
  generalize (if pp ≤ n % X ∧ q ≤ n / X then part G X j (n % X - pp) (n / X - q) else 0) = B
  split <;> omega

theorem big_second (G : Nat → Nat → Int) {X W H pm pp q i j : Nat} (hbox : Boxed G W H) (hX : W + pp ≤ X) (hX0 : 0 < X) (hv : G (j % X) (j / X) ≠ 0) (n : Nat) :
    mid G X pm pp q i (j + 1) (n % X) (n / X) = if n = (j / X + q) * X + j % X + pp then mid G X pm pp q i j (n % X) (n / X) - G (j % X) (j / X) else mid G X pm pp q i j (n % X) (n / X) := by
  have h := step_big G (X := X) (pp := pp) (q := q) (i := j) (n := n) hbox hX hX0 hv
  unfold mid
  rw [h]
  generalize (if pm ≤ n % X then part G X i (n % X - pm) (n / X) else 0) = A
  generalize (if pp ≤ n % X ∧ q ≤ n / X then part G X j (n % X - pp) (n / X - q) else 0) = B
  split <;> omega

theorem Boxed.mono {G : Nat → Nat → Int} {W H X Y : Nat} (h : Boxed G W H) (hX : W ≤ X) (hY : H ≤ Y) : Boxed G X Y := fun x y k => h x y (fun l => k ⟨by omega, by omega⟩)

/-- words that are the whole numbers of a grid, row by row -/
structure Words (xs : List Nat) (F : Nat → Nat → Int) (X N : Nat) : Prop where
  len : xs.length = N
  get : ∀ n, n < N → ∃ b, xs[n]? = some b ∧ Whole b (F (n % X) (n / X))

theorem Words.set {xs : List Nat} {F F' : Nat → Nat → Int} {X N i r : Nat} {v : Int} (h : Words xs F X N) (hr : Whole r v) (hF : ∀ n, F' (n % X) (n / X) = if n = i then v else F (n % X) (n / X)) : Words (xs.set i r) F' X N := by
  refine ⟨by rw [List.length_set]; exact h.len, fun n hn => ?_⟩
  obtain ⟨b, hb, wb⟩ := h.get n hn
  rw [hF n, List.getElem?_set]
  by_cases e : i = n
  · subst e
    rw [if_pos rfl, if_pos (by rw [h.len]; exact hn), if_pos rfl]
    exact ⟨r, rfl, hr⟩
  · rw [if_neg e, if_neg (fun k => e k.symm)]
    exact ⟨b, hb, wb⟩

theorem Words.congr {xs : List Nat} {F F' : Nat → Nat → Int} {X N : Nat} (h : Words xs F X N) (hF : ∀ x y, F x y = F' x y) : Words xs F' X N :=
  ⟨h.len, fun n hn => by obtain ⟨b, hb, wb⟩ := h.get n hn; exact ⟨b, hb, by rw [← hF]; exact wb⟩⟩

theorem Words.zeros {F : Nat → Nat → Int} (X N : Nat) (hF : ∀ x y, F x y = 0) : Words (List.replicate N 0) F X N :=
  ⟨by simp, fun n hn => ⟨0, by rw [List.getElem?_replicate, if_pos hn], by rw [hF]; exact whole_fint (a := 0) (by decide)⟩⟩
end Go.Proofs.Ytoeeceemoggffaa
