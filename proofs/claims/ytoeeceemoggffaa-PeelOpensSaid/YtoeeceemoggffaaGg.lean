/- Two copies laid over one another, the second one negative: the plain law, in whole numbers. -/
import Derived.Test.YtoeeceemoggffaaFe
namespace Go.Proofs.Ytoeeceemoggffaa

/-- two copies, moved by (pm, 0) and by (pp, q), the second one negative -/
def gs (G : Nat → Nat → Int) (pm pp q : Nat) : Nat → Nat → Int := fun x y => (if pm ≤ x then G (x - pm) y else 0) - (if pp ≤ x ∧ q ≤ y then G (x - pp) (y - q) else 0)
/-- of the first i cells of a grid of width W -/
def part (G : Nat → Nat → Int) (W i : Nat) : Nat → Nat → Int := fun x y => if x < W ∧ y * W + x < i then G x y else 0
/-- the first copy of i cells, the second one of j -/
def mid (G : Nat → Nat → Int) (W pm pp q i j : Nat) : Nat → Nat → Int := fun x y => (if pm ≤ x then part G W i (x - pm) y else 0) - (if pp ≤ x ∧ q ≤ y then part G W j (x - pp) (y - q) else 0)

theorem part_zero (G : Nat → Nat → Int) (W x y : Nat) : part G W 0 x y = 0 := by
  unfold part; rw [if_neg (by omega)]
theorem mid_zero (G : Nat → Nat → Int) (W pm pp q x y : Nat) : mid G W pm pp q 0 0 x y = 0 := by
  unfold mid; rw [part_zero, part_zero]; split <;> split <;> rfl

theorem at_iff {W i x y : Nat} (hW : 0 < W) : (x < W ∧ y * W + x = i) ↔ (x = i % W ∧ y = i / W) := by
  constructor
  · rintro ⟨h1, rfl⟩
    rw [Nat.add_comm, Nat.add_mul_mod_self_right, Nat.mod_eq_of_lt h1, Nat.add_mul_div_right _ _ hW, Nat.div_eq_of_lt h1]
    simp
  · rintro ⟨rfl, rfl⟩
    refine ⟨Nat.mod_lt _ hW, ?_⟩
    rw [Nat.mul_comm]; exact Nat.div_add_mod i W

theorem part_succ (G : Nat → Nat → Int) {W i : Nat} (hW : 0 < W) (x y : Nat) : part G W (i + 1) x y = part G W i x y + (if x = i % W ∧ y = i / W then G x y else 0) := by
  have h := at_iff (W := W) (i := i) (x := x) (y := y) hW
  unfold part
  by_cases h1 : x < W
  · by_cases h2 : y * W + x < i
    · rw [if_pos ⟨h1, by omega⟩, if_pos ⟨h1, h2⟩, if_neg (fun h3 => by have := (h.2 h3).2; omega)]; omega
    · by_cases h3 : y * W + x = i
      · rw [if_pos ⟨h1, by omega⟩, if_neg (fun h => h2 h.2), if_pos (h.1 ⟨h1, h3⟩)]; omega
      · rw [if_neg (by omega), if_neg (by omega), if_neg (fun h4 => h3 (h.2 h4).2)]; omega
  · rw [if_neg (by omega), if_neg (by omega), if_neg (fun h4 => h1 (h.2 h4).1)]; omega

/-- where a cell lies in a grid of width X -/
theorem cell_iff {X n a b : Nat} (ha : a < X) : (n % X = a ∧ n / X = b) ↔ n = b * X + a := by
  have h := at_iff (W := X) (i := n) (x := a) (y := b) (by omega)
  constructor
  · rintro ⟨h1, h2⟩; exact (h.2 ⟨h1.symm, h2.symm⟩).2.symm
  · intro h1; obtain ⟨h2, h3⟩ := h.1 ⟨ha, h1.symm⟩; exact ⟨h2.symm, h3.symm⟩

theorem step_at (G : Nat → Nat → Int) {W X pp q i n : Nat} (hW : 0 < W) (hX : W + pp ≤ X) :
    (if pp ≤ n % X ∧ q ≤ n / X then part G W (i + 1) (n % X - pp) (n / X - q) else 0) = (if pp ≤ n % X ∧ q ≤ n / X then part G W i (n % X - pp) (n / X - q) else 0) + (if n = q * X + pp + i / W * X + i % W then G (i % W) (i / W) else 0) := by
  have hl : i % W < W := Nat.mod_lt _ hW
  have h := cell_iff (X := X) (n := n) (a := i % W + pp) (b := i / W + q) (by omega)
  have e : (i / W + q) * X + (i % W + pp) = q * X + pp + i / W * X + i % W := by rw [Nat.add_mul]; omega
  rw [e] at h
  rw [part_succ G hW]
  generalize q * X + pp + i / W * X + i % W = at0 at *
  generalize i / W = dv at *
  generalize i % W = md at *
  generalize n / X = nd at *
  generalize n % X = nm at *
  by_cases hp : pp ≤ nm ∧ q ≤ nd
  · rw [if_pos hp, if_pos hp]
    by_cases hn : n = at0
    · obtain ⟨h1, h2⟩ := h.2 hn
      have e1 : nm - pp = md := by omega
      have e2 : nd - q = dv := by omega
      rw [if_pos hn, if_pos ⟨e1, e2⟩, e1, e2]
    · rw [if_neg hn, if_neg (fun h3 => hn (h.1 ⟨by omega, by omega⟩))]
  · rw [if_neg hp, if_neg hp, if_neg (fun hn => by obtain ⟨h1, h2⟩ := h.2 hn; exact hp ⟨by omega, by omega⟩)]
    rfl

theorem mid_first (G : Nat → Nat → Int) {W X pm pp q i j : Nat} (hW : 0 < W) (hX : W + pm ≤ X) (n : Nat) :
    mid G W pm pp q (i + 1) j (n % X) (n / X) = if n = pm + i / W * X + i % W then mid G W pm pp q i j (n % X) (n / X) + G (i % W) (i / W) else mid G W pm pp q i j (n % X) (n / X) := by
  have h := step_at G (W := W) (X := X) (pp := pm) (q := 0) (i := i) (n := n) hW hX
  simp only [Nat.zero_le, and_true, Nat.sub_zero, Nat.zero_mul, Nat.zero_add] at h
  unfold mid
  rw [h]
  generalize (if pm ≤ n % X then part G W i (n % X - pm) (n / X) else 0) = A
  generalize (if pp ≤ n % X ∧ q ≤ n / X then part G W j (n % X - pp) (n / X - q) else 0) = B
  split <;> omega

theorem mid_second (G : Nat → Nat → Int) {W X pm pp q i j : Nat} (hW : 0 < W) (hX : W + pp ≤ X) (n : Nat) :
    mid G W pm pp q i (j + 1) (n % X) (n / X) = if n = q * X + pp + j / W * X + j % W then mid G W pm pp q i j (n % X) (n / X) - G (j % W) (j / W) else mid G W pm pp q i j (n % X) (n / X) := by
  have h := step_at G (W := W) (X := X) (pp := pp) (q := q) (i := j) (n := n) hW hX
  unfold mid
  rw [h]
  generalize (if pm ≤ n % X then part G W i (n % X - pm) (n / X) else 0) = A
  generalize (if pp ≤ n % X ∧ q ≤ n / X then part G W j (n % X - pp) (n / X - q) else 0) = B
  split <;> omega

/-- nothing outside of the box -/
def Boxed (G : Nat → Nat → Int) (W H : Nat) : Prop := ∀ x y, ¬ (x < W ∧ y < H) → G x y = 0
def Small (G : Nat → Nat → Int) (B : Int) : Prop := ∀ x y, -B ≤ G x y ∧ G x y ≤ B

theorem part_all {G : Nat → Nat → Int} {W H : Nat} (h : Boxed G W H) (x y : Nat) : part G W (W * H) x y = G x y := by
  unfold part
  by_cases h1 : x < W ∧ y * W + x < W * H
  · rw [if_pos h1]
  · rw [if_neg h1, h x y]
    rintro ⟨h2, h3⟩
    refine h1 ⟨h2, ?_⟩
    have : (y + 1) * W ≤ W * H := by rw [Nat.mul_comm W H]; exact Nat.mul_le_mul_right _ h3
    rw [Nat.add_mul] at this
    omega

theorem mid_all {G : Nat → Nat → Int} {W H pm pp q : Nat} (h : Boxed G W H) (x y : Nat) : mid G W pm pp q (W * H) (W * H) x y = gs G pm pp q x y := by
  unfold mid gs; rw [part_all h, part_all h]

theorem part_small {G : Nat → Nat → Int} {B : Int} (h : Small G B) (hB : 0 ≤ B) (W i x y : Nat) : -B ≤ part G W i x y ∧ part G W i x y ≤ B := by
  unfold part; split
  · exact h x y
  · omega
theorem mid_small {G : Nat → Nat → Int} {B : Int} (h : Small G B) (hB : 0 ≤ B) (W pm pp q i j : Nat) : Small (mid G W pm pp q i j) (2 * B) := by
  intro x y
  unfold mid
  have h1 := part_small h hB W i (x - pm) y
  have h2 := part_small h hB W j (x - pp) (y - q)
  split <;> split <;> omega

theorem gs_small {G : Nat → Nat → Int} {B : Int} (h : Small G B) (hB : 0 ≤ B) (pm pp q : Nat) : Small (gs G pm pp q) (2 * B) := by
  intro x y
  unfold gs
  have h1 := h (x - pm) y
  have h2 := h (x - pp) (y - q)
  split <;> split <;> omega

theorem gs_boxed {G : Nat → Nat → Int} {W H pm pp q : Nat} (h : Boxed G W H) : Boxed (gs G pm pp q) (W + (pm + pp)) (H + q) := by
  intro x y hxy
  unfold gs
  have h1 : (if pm ≤ x then G (x - pm) y else 0) = 0 := by
    split
    · exact h _ _ (fun k => hxy ⟨by omega, by omega⟩)
    · rfl
  have h2 : (if pp ≤ x ∧ q ≤ y then G (x - pp) (y - q) else 0) = 0 := by
    split
    · exact h _ _ (fun k => hxy ⟨by omega, by omega⟩)
    · rfl
  rw [h1, h2]; rfl

/-- the cells of a grid, row by row -/
def cellsG (F : Nat → Nat → Int) (X N : Nat) : List (Nat × Nat) := (List.range N).map fun n => (fint (F (n % X) (n / X)), 0)
theorem cellsG_length (F : Nat → Nat → Int) (X N : Nat) : (cellsG F X N).length = N := by simp [cellsG]
theorem cellsG_get (F : Nat → Nat → Int) {X N n : Nat} (h : n < N) : (cellsG F X N)[n]? = some (fint (F (n % X) (n / X)), 0) := by
  rw [cellsG, List.getElem?_map, List.getElem?_eq_getElem (by simpa using h)]; simp
theorem cellsG_set {F F' : Nat → Nat → Int} {X N i : Nat} {v : Int} (h : ∀ n, F' (n % X) (n / X) = if n = i then v else F (n % X) (n / X)) : (cellsG F X N).set i (fint v, 0) = cellsG F' X N := by
  apply List.ext_getElem
  · simp [cellsG]
  · intro n h1 h2
    rw [List.getElem_set]
    simp only [cellsG, List.getElem_map, List.getElem_range]
    rw [h n]
    by_cases hn : i = n
    · subst hn; simp
    · rw [if_neg hn, if_neg (fun e => hn e.symm)]
theorem cellsG_zero {F : Nat → Nat → Int} (X N : Nat) (h : ∀ x y, F x y = 0) : cellsG F X N = List.replicate N (0, 0) := by
  apply List.ext_getElem
  · simp [cellsG]
  · intro n h1 h2
    simp [cellsG, h, fint]
theorem cellsG_congr {F F' : Nat → Nat → Int} (X N : Nat) (h : ∀ x y, F x y = F' x y) : cellsG F X N = cellsG F' X N := by
  have : F = F' := funext fun x => funext fun y => h x y
  rw [this]
end Go.Proofs.Ytoeeceemoggffaa
