/- The roots of one as the stated steps make them, on words of float64 alone: no program in sight. -/
import Derived.Test.YtoeeceemoggffaaFl
namespace Go.Proofs.Ytoeeceemoggffaa

abbrev wHalf : Nat := 4602678819172646912
abbrev wOne : Nat := 4607182418800017408
abbrev wTwo : Nat := 4611686018427387904

/-- the step of order 2^(k+3) -/
def stepN : Nat → Option (Nat × Nat)
  | 0 => (fsqrt wHalf).bind fun c => some (c, c)
  | k + 1 => (stepN k).bind fun h => (fadd wOne h.1).bind fun a => (fmul wHalf a).bind fun b => (fsqrt b).bind fun c => (fmul wTwo c).bind fun d => (fdiv h.2 d).bind fun s => some (c, s)

theorem stepN_zero {c : Nat × Nat} (h : stepN 0 = some c) : fsqrt wHalf = some c.1 ∧ c.2 = c.1 := by
  unfold stepN at h
  obtain ⟨x, h1, h⟩ := bind_some h
  cases h
  exact ⟨h1, rfl⟩

theorem stepN_succ {k : Nat} {c : Nat × Nat} (h : stepN (k + 1) = some c) : ∃ p a b d, stepN k = some p ∧ fadd wOne p.1 = some a ∧ fmul wHalf a = some b ∧ fsqrt b = some c.1 ∧ fmul wTwo c.1 = some d ∧ fdiv p.2 d = some c.2 := by
  unfold stepN at h
  obtain ⟨p, h0, h⟩ := bind_some h
  obtain ⟨a, h1, h⟩ := bind_some h
  obtain ⟨b, h2, h⟩ := bind_some h
  obtain ⟨x, h3, h⟩ := bind_some h
  obtain ⟨d, h4, h⟩ := bind_some h
  obtain ⟨s, h5, h⟩ := bind_some h
  cases h
  exact ⟨p, a, b, d, h0, h1, h2, h3, h4, h5⟩

/-- between each two of a list the product of the first of them by s -/
def inter (s : Nat × Nat) : List (Nat × Nat) → Option (List (Nat × Nat))
  | [] => some []
  | [a] => some [a]
  | a :: b :: l => (cmul a s).bind fun m => (inter s (b :: l)).bind fun r => some (a :: plain2 m :: r)

theorem inter_get (s : Nat × Nat) : ∀ (l L : List (Nat × Nat)), inter s l = some L →
    L.length = 2 * l.length - 1 ∧ (∀ i (h : i < l.length), L[2 * i]? = some l[i]) ∧ ∀ i (h : i + 1 < l.length), ∃ m, cmul l[i] s = some m ∧ L[2 * i + 1]? = some (plain2 m)
  | [], L, h => by cases h; exact ⟨rfl, fun i h => by simp at h, fun i h => by simp at h⟩
  | [a], L, h => by
    cases h
    refine ⟨rfl, fun i h => ?_, fun i h => by simp at h⟩
    obtain rfl : i = 0 := by simp at h; omega
    rfl
  | a :: b :: l, L, h => by
    unfold inter at h
    obtain ⟨m, h1, h⟩ := bind_some h
    obtain ⟨r, h2, h⟩ := bind_some h
    cases h
    obtain ⟨e1, e2, e3⟩ := inter_get s (b :: l) r h2
    refine ⟨by simp only [List.length_cons] at e1 ⊢; omega, fun i hi => ?_, fun i hi => ?_⟩
    · cases i with
      | zero => rfl
      | succ i =>
        have := e2 i (by simp at hi ⊢; omega)
        simpa [show 2 * (i + 1) = 2 * i + 1 + 1 by omega] using this
    · cases i with
      | zero => exact ⟨m, h1, rfl⟩
      | succ i =>
        obtain ⟨m', e, e'⟩ := e3 i (by simp at hi ⊢; omega)
        refine ⟨m', by simpa using e, ?_⟩
        simpa [show 2 * (i + 1) + 1 = 2 * i + 1 + 1 + 1 by omega] using e'

/-- the roots of order 2^t from 1 to the eighth of a turn -/
def E : Nat → Option (List (Nat × Nat))
  | 0 => some [(wOne, 0)]
  | 1 => some [(wOne, 0)]
  | 2 => some [(wOne, 0)]
  | 3 => (stepN 0).bind fun s => (cmul (wOne, 0) s).bind fun m => some [(wOne, 0), plain2 m]
  | k + 4 => (E (k + 3)).bind fun h => (stepN (k + 1)).bind fun s => inter s h

theorem E_succ {k : Nat} {L : List (Nat × Nat)} (h : E (k + 4) = some L) : ∃ H s, E (k + 3) = some H ∧ stepN (k + 1) = some s ∧ inter s H = some L := by
  unfold E at h
  obtain ⟨H, h1, h⟩ := bind_some h
  obtain ⟨s, h2, h⟩ := bind_some h
  exact ⟨H, s, h1, h2, h⟩

theorem E_three {L : List (Nat × Nat)} (h : E 3 = some L) : ∃ s m, stepN 0 = some s ∧ cmul (wOne, 0) s = some m ∧ L = [(wOne, 0), plain2 m] := by
  unfold E at h
  obtain ⟨s, h1, h⟩ := bind_some h
  obtain ⟨m, h2, h⟩ := bind_some h
  cases h
  exact ⟨s, m, h1, h2, rfl⟩

theorem E_some12 : (E 12).isSome = true := by decide +kernel

theorem E_some : ∀ t, t ≤ 12 → ∃ L, E t = some L := by
  have down : ∀ t, (E (t + 1)).isSome = true → (E t).isSome = true := by
    intro t h
    by_cases h3 : t < 3
    · have : t = 0 ∨ t = 1 ∨ t = 2 := by omega
      rcases this with rfl | rfl | rfl <;> simp only [E, Option.isSome_some]
    · obtain ⟨u, rfl⟩ : ∃ u, t = u + 3 := ⟨t - 3, by omega⟩
      obtain ⟨L, hL⟩ := Option.isSome_iff_exists.1 h
      obtain ⟨H, _, h1, _⟩ := E_succ hL
      exact Option.isSome_iff_exists.2 ⟨H, h1⟩
  have all : ∀ d t, t + d = 12 → (E t).isSome = true := fun d => by
    induction d with
    | zero => intro t h; obtain rfl : t = 12 := by omega
              exact E_some12
    | succ d ih => intro t h; exact down t (ih (t + 1) (by omega))
  intro t ht
  exact Option.isSome_iff_exists.1 (all (12 - t) t (by omega))

theorem E_len : ∀ t L, E (t + 3) = some L → L.length = 2 ^ t + 1 := by
  intro t
  induction t with
  | zero => intro L h; obtain ⟨s, m, _, _, rfl⟩ := E_three h; rfl
  | succ t ih =>
    intro L h
    obtain ⟨H, s, h1, _, h3⟩ := E_succ h
    have := ih H h1
    have := (inter_get s H L h3).1
    have := Nat.pow_succ 2 t
    omega

theorem E_len' (t : Nat) (L : List (Nat × Nat)) (h : E t = some L) : L.length = 2 ^ t / 8 + 1 := by
  match t, h with
  | 0, h => cases h; rfl
  | 1, h => cases h; rfl
  | 2, h => cases h; rfl
  | t + 3, h => rw [E_len t L h, Nat.pow_add]; omega

/-- the list of order 2^t -/
def EL (t : Nat) : List (Nat × Nat) := (E t).getD []

theorem E_EL {t : Nat} (ht : t ≤ 12) : E t = some (EL t) := by
  obtain ⟨L, h⟩ := E_some t ht
  rw [h]; unfold EL; rw [h]; rfl

/-- a root below the quarter of a turn, by the list of the first eighth -/
def quarterL (n k : Nat) (xs : List (Nat × Nat)) : Nat × Nat :=
  if k ≤ n / 8 then xs.getD k (0, 0) else ((xs.getD (n / 4 - k) (0, 0)).2, (xs.getD (n / 4 - k) (0, 0)).1)

def turn1 (a : Nat × Nat) : Nat × Nat := (fneg a.2, a.1)

def turns : Nat → Nat × Nat → Nat × Nat
  | 0, a => a
  | j + 1, a => plain2 (turn1 (turns j a))

def atL (n k : Nat) (xs : List (Nat × Nat)) : Nat × Nat :=
  if n < 4 then (floatOfInt .f64 (1 - 2 * k), 0) else turns (k / (n / 4)) (quarterL n (k % (n / 4)) xs)

/-- the k-th root of one of order 2^t -/
def R (t k : Nat) : Nat × Nat := atL (2 ^ t) k (EL t)

theorem two_pow_ge {t : Nat} (h : 2 ≤ t) : 2 ^ t = 4 * 2 ^ (t - 2) := by
  obtain ⟨u, rfl⟩ : ∃ u, t = u + 2 := ⟨t - 2, by omega⟩
  rw [Nat.pow_add]; simp; omega

theorem R_low {t k : Nat} (ht : 2 ≤ t) (hk : k < 2 ^ t / 4) : R t k = quarterL (2 ^ t) k (EL t) := by
  have h4 := two_pow_ge ht
  have hp : 0 < 2 ^ (t - 2) := Nat.two_pow_pos _
  unfold R atL
  rw [if_neg (by omega), Nat.div_eq_of_lt hk, Nat.mod_eq_of_lt hk]
  rfl

theorem R_turn {t k : Nat} (ht : 2 ≤ t) (hk : 2 ^ t / 4 ≤ k) : R t k = plain2 (turn1 (R t (k - 2 ^ t / 4))) := by
  have h4 := two_pow_ge ht
  have hp : 0 < 2 ^ (t - 2) := Nat.two_pow_pos _
  unfold R atL
  rw [if_neg (by omega), if_neg (by omega)]
  have e : k / (2 ^ t / 4) = (k - 2 ^ t / 4) / (2 ^ t / 4) + 1 := by
    rw [Nat.div_eq k, if_pos ⟨by omega, hk⟩]
  rw [e, ← Nat.mod_eq_sub_mod hk]
  rfl

theorem getD_some {l : List (Nat × Nat)} {i : Nat} {a d : Nat × Nat} (h : l[i]? = some a) : l.getD i d = a := by
  rw [List.getD_eq_getElem?_getD, h]; rfl

theorem EL_zero {t : Nat} (ht : t ≤ 12) : (EL t)[0]? = some (wOne, 0) := by
  have key : ∀ t L, E t = some L → L[0]? = some (wOne, 0) := by
    intro t
    induction t with
    | zero => intro L h; cases h; rfl
    | succ t ih =>
      match t, ih with
      | 0, _ => intro L h; cases h; rfl
      | 1, _ => intro L h; cases h; rfl
      | 2, _ => intro L h; obtain ⟨s, m, _, _, rfl⟩ := E_three h; rfl
      | t + 3, ih =>
        intro L h
        obtain ⟨H, s, h1, _, h3⟩ := E_succ h
        have g := (inter_get s H L h3).2.1 0 (by rw [E_len t H h1]; have := Nat.two_pow_pos t; omega)
        have e := ih H h1
        rw [g, ← e, List.getElem?_eq_getElem]
  exact key t _ (E_EL ht)

theorem R_zero {t : Nat} (ht : t ≤ 12) : R t 0 = (wOne, 0) := by
  by_cases h : 2 ≤ t
  · have h4 := two_pow_ge h
    have hp : 0 < 2 ^ (t - 2) := Nat.two_pow_pos _
    rw [R_low h (by omega)]
    unfold quarterL
    rw [if_pos (by omega)]
    exact getD_some (EL_zero ht)
  · have : t = 0 ∨ t = 1 := by omega
    rcases this with rfl | rfl <;> decide +kernel

theorem R_one_one : R 1 1 = (13830554455654793216, 0) := by decide +kernel

theorem R_swap {t k : Nat} (ht : 3 ≤ t) (hk : k < 2 ^ t / 4) (h8 : 2 ^ t / 8 < k) : R t k = ((R t (2 ^ t / 4 - k)).2, (R t (2 ^ t / 4 - k)).1) := by
  rw [R_low (by omega) hk, R_low (by omega) (by omega)]
  unfold quarterL
  rw [if_neg (by omega), if_pos]
  have h8' : 2 ^ t = 8 * 2 ^ (t - 3) := by
    obtain ⟨u, rfl⟩ : ∃ u, t = u + 3 := ⟨t - 3, by omega⟩
    rw [Nat.pow_add]; simp; omega
  omega

theorem pow3 {t : Nat} (ht : 3 ≤ t) : 2 ^ t = 8 * 2 ^ (t - 3) := by
  obtain ⟨u, rfl⟩ : ∃ u, t = u + 3 := ⟨t - 3, by omega⟩
  rw [Nat.pow_add]; simp; omega

theorem EL_even {t i : Nat} (h12 : t + 4 ≤ 12) (hi : i ≤ 2 ^ t) : (EL (t + 4))[2 * i]? = (EL (t + 3))[i]? := by
  obtain ⟨H, s, h1, _, h3⟩ := E_succ (E_EL h12)
  have e : EL (t + 3) = H := by have := E_EL (show t + 3 ≤ 12 by omega); rw [h1] at this; exact (Option.some.inj this).symm
  have g := (inter_get s H _ h3).2.1 i (by rw [E_len t H h1]; omega)
  rw [g, e, List.getElem?_eq_getElem]

theorem EL_odd {t i : Nat} (h12 : t + 4 ≤ 12) (hi : i < 2 ^ t) : ∃ s m a, stepN (t + 1) = some s ∧ (EL (t + 3))[i]? = some a ∧ cmul a s = some m ∧ (EL (t + 4))[2 * i + 1]? = some (plain2 m) := by
  obtain ⟨H, s, h1, h2, h3⟩ := E_succ (E_EL h12)
  have e : EL (t + 3) = H := by have := E_EL (show t + 3 ≤ 12 by omega); rw [h1] at this; exact (Option.some.inj this).symm
  obtain ⟨m, g1, g2⟩ := (inter_get s H _ h3).2.2 i (by rw [E_len t H h1]; omega)
  exact ⟨s, m, _, h2, by rw [e, List.getElem?_eq_getElem], g1, g2⟩

/-- within the first eighth -/
theorem R_first {t k : Nat} (ht : 3 ≤ t) (hk : k ≤ 2 ^ t / 8) : R t k = (EL t).getD k (0, 0) := by
  have := pow3 ht
  have hp : 0 < 2 ^ (t - 3) := Nat.two_pow_pos _
  rw [R_low (by omega) (by omega)]
  unfold quarterL
  rw [if_pos hk]

theorem R_even {t k : Nat} (ht : 3 ≤ t) (h12 : t ≤ 12) (hk : 2 * k ≤ 2 ^ t / 8) : R t (2 * k) = R (t - 1) k := by
  by_cases h3 : t = 3
  · subst h3
    have : k = 0 := by have : 2 ^ 3 / 8 = 1 := rfl; omega
    subst this
    rw [R_zero h12, R_zero (by decide)]
  · obtain ⟨u, rfl⟩ : ∃ u, t = u + 4 := ⟨t - 4, by omega⟩
    have e : 2 ^ (u + 4) = 16 * 2 ^ u := by rw [Nat.pow_add]; simp; omega
    have e' : 2 ^ (u + 3) = 8 * 2 ^ u := by rw [Nat.pow_add]; simp; omega
    rw [R_first ht hk, show u + 4 - 1 = u + 3 from rfl, R_first (by omega) (by omega)]
    rw [List.getD_eq_getElem?_getD, EL_even h12 (by omega), List.getD_eq_getElem?_getD]

theorem R_odd {t k : Nat} (ht : 3 ≤ t) (h12 : t ≤ 12) (hk : 2 * k + 1 ≤ 2 ^ t / 8) : ∃ s m, stepN (t - 3) = some s ∧ cmul (R t (2 * k)) s = some m ∧ R t (2 * k + 1) = plain2 m := by
  by_cases h3 : t = 3
  · subst h3
    have : k = 0 := by have : 2 ^ 3 / 8 = 1 := rfl; omega
    subst this
    obtain ⟨s, m, h1, h2, h3⟩ := E_three (E_EL h12)
    refine ⟨s, m, h1, by rw [R_zero h12]; exact h2, ?_⟩
    rw [R_first (by decide) (by decide), h3]
    rfl
  · obtain ⟨u, rfl⟩ : ∃ u, t = u + 4 := ⟨t - 4, by omega⟩
    have e : 2 ^ (u + 4) = 16 * 2 ^ u := by rw [Nat.pow_add]; simp; omega
    obtain ⟨s, m, a, h1, h2, h3, h4⟩ := EL_odd (t := u) (i := k) h12 (by omega)
    refine ⟨s, m, h1, ?_, ?_⟩
    · rw [R_first ht (by omega), List.getD_eq_getElem?_getD, EL_even h12 (by omega), h2]; exact h3
    · rw [R_first ht hk]; exact getD_some h4
end Go.Proofs.Ytoeeceemoggffaa
