/- Which direction stands in its one form: the plain law, and dir.Check by its contract. -/
import Derived.Test.YtoeeceemoggffaaDr
namespace Go.Proofs.Ytoeeceemoggffaa
open Go.RowKit
set_option maxHeartbeats 400000

/-- a direction in its one form -/
def okD (d : Int × Int) : Bool := decide (0 ≤ d.2) && decide (d.2 ≤ 16) && decide (d.1.natAbs ≤ 16) && decide (Nat.gcd d.1.natAbs d.2.natAbs = 1) && (decide (d.2 ≠ 0) || decide (d.1 = 1))

theorem okD_iff (p q : Int) : okD (p, q) = true ↔ 0 ≤ q ∧ q ≤ 16 ∧ p.natAbs ≤ 16 ∧ Nat.gcd p.natAbs q.natAbs = 1 ∧ (q = 0 → p = 1) := by
  unfold okD
  simp only [Bool.and_eq_true, Bool.or_eq_true, decide_eq_true_eq]
  constructor
  · rintro ⟨⟨⟨⟨h1, h2⟩, h3⟩, h4⟩, h5⟩
    exact ⟨h1, h2, h3, h4, fun h => by rcases h5 with h5 | h5; exact absurd h h5; exact h5⟩
  · rintro ⟨h1, h2, h3, h4, h5⟩
    refine ⟨⟨⟨⟨h1, h2⟩, h3⟩, h4⟩, ?_⟩
    by_cases h : q = 0
    · exact .inr (h5 h)
    · exact .inl h

theorem nrm_ok {p q : Int} (h : okD (p, q) = true) : nrm p q = ((p, q), 0) := by
  obtain ⟨h1, h2, h3, h4, h5⟩ := (okD_iff p q).1 h
  unfold nrm nrmG
  rw [h4, if_neg (by decide), Nat.div_one, Nat.div_one, if_neg (by omega)]
  by_cases s : (p < 0 ∧ 0 < q) ∨ (0 < p ∧ q < 0)
  · rw [if_pos s]
    have : -((p.natAbs : Nat) : Int) = p := by omega
    have : ((q.natAbs : Nat) : Int) = q := by omega
    simp [*]
  · rw [if_neg s]
    have hp : 0 ≤ p := by
      by_cases hq : q = 0
      · have := h5 hq; omega
      · omega
    have e1 : ((p.natAbs : Nat) : Int) = p := by omega
    have e2 : ((q.natAbs : Nat) : Int) = q := by omega
    rw [e1, e2]

theorem div_self_eq {a g : Nat} (hg : 0 < g) (h : a / g = a) : a = 0 ∨ g = 1 := by
  by_cases h1 : g = 1
  · exact .inr h1
  · by_cases h0 : a = 0
    · exact .inl h0
    · have := Nat.div_lt_self (Nat.pos_of_ne_zero h0) (show 1 < g by omega)
      omega

theorem ok_nrm {p q : Int} (h : nrm p q = ((p, q), 0)) : okD (p, q) = true := by
  rw [okD_iff]
  unfold nrm nrmG at h
  by_cases g0 : Nat.gcd p.natAbs q.natAbs = 0
  · rw [if_pos g0] at h
    have := congrArg Prod.snd h
    simp at this
  · rw [if_neg g0] at h
    have hg : 0 < Nat.gcd p.natAbs q.natAbs := by omega
    have hd1 := Nat.gcd_dvd_left p.natAbs q.natAbs
    have hd2 := Nat.gcd_dvd_right p.natAbs q.natAbs
    have hz : p.natAbs = 0 → q.natAbs = 0 → False := fun a b => g0 (by rw [a, b]; rfl)
    have hz2 : q.natAbs = 0 → Nat.gcd p.natAbs q.natAbs = p.natAbs := fun a => by rw [a, Nat.gcd_zero_right]
    have hz3 : p.natAbs = 0 → Nat.gcd p.natAbs q.natAbs = q.natAbs := fun a => by rw [a, Nat.gcd_zero_left]
    generalize hG : Nat.gcd p.natAbs q.natAbs = g at *
    by_cases hb : 16 < p.natAbs / g ∨ 16 < q.natAbs / g
    · rw [if_pos hb] at h
      have := congrArg Prod.snd h
      simp at this
    · rw [if_neg hb] at h
      have key : p.natAbs / g = p.natAbs → q.natAbs / g = q.natAbs → 0 ≤ q → (q = 0 → 0 ≤ p) → 0 ≤ q ∧ q ≤ 16 ∧ p.natAbs ≤ 16 ∧ g = 1 ∧ (q = 0 → p = 1) := by
        intro k1 k2 k3 k4
        have g1 : g = 1 := by
          rcases div_self_eq hg k1 with a | a
          · rcases div_self_eq hg k2 with b | b
            · exact (hz a b).elim
            · exact b
          · exact a
        refine ⟨k3, by omega, by omega, g1, fun hq => ?_⟩
        have := hz2 (by omega)
        have := k4 hq
        omega
      by_cases s : (p < 0 ∧ 0 < q) ∨ (0 < p ∧ q < 0)
      · rw [if_pos s] at h
        have h1 := congrArg (fun x : (Int × Int) × Int => x.1.1) h
        have h2 := congrArg (fun x : (Int × Int) × Int => x.1.2) h
        simp only at h1 h2
        refine key ?_ ?_ ?_ ?_
        · generalize p.natAbs / g = a at *; omega
        · generalize q.natAbs / g = a at *; omega
        · generalize q.natAbs / g = a at *; omega
        · intro hq; omega
      · rw [if_neg s] at h
        have h1 := congrArg (fun x : (Int × Int) × Int => x.1.1) h
        have h2 := congrArg (fun x : (Int × Int) × Int => x.1.2) h
        simp only at h1 h2
        refine key ?_ ?_ ?_ ?_
        · generalize p.natAbs / g = a at *; omega
        · generalize q.natAbs / g = a at *; omega
        · generalize q.natAbs / g = a at *; omega
        · intro hq; generalize p.natAbs / g = a at *; omega

theorem nrm_err (p q : Int) : (nrm p q).2 = 0 ∨ (nrm p q).2 = 1 ∨ (nrm p q).2 = 60 := by
  unfold nrm nrmG
  split
  · exact .inr (.inl rfl)
  · split
    · exact .inr (.inr rfl)
    · split <;> exact .inl rfl

/-- an error's number of a direction -/
def errD (d : Int × Int) : Int := if okD d then 0 else 60

def GivesInt (r : Int) (w : World) (e : Ending) (w' : World) : Prop := e = .returned (.int .i64 r) ∧ Below w.heap.size w w'

theorem Check_walk (p q : Int) (w : World) (hp : I64 p) (hq : I64 q) :
    Calls Try.prog 68 #[dirV (p, q)] w fun e w' => GivesInt (errD (p, q)) w e w' := by
  have c1 := fun w => Normal_walk p q w hp hq
  have hok : okD (p, q) = true ↔ nrm p q = ((p, q), 0) := ⟨nrm_ok, ok_nrm⟩
  have her := nrm_err p q
  obtain ⟨x, y, e, hn⟩ : ∃ x y e, nrm p q = ((x, y), e) := ⟨_, _, _, rfl⟩
  rw [hn] at c1 hok her
  have C1 := Lib.hid c1
  unfold errD
  clear c1 hn hp hq
  have walk : ∀ r : Int, (e = 0 → x = p → y = q → r = 0) → ((e ≠ 0 ∨ x ≠ p ∨ y ≠ q) → r = 60) → Calls Try.prog 68 #[.agg #[.int .i64 p, .int .i64 q]] w fun e w' => GivesInt r w e w' := by
    intro r r0 r1
    by_cases e0 : e = 0
    · subst e0
      by_cases hx : x = p
      · by_cases hy : y = q
        · subst hx hy
          have b1 : (x == x) = true := by simp
          have b2 : (y == y) = true := by simp
          rw [r0 rfl rfl rfl]
          clear r0 r1 hok her
          go_enter Try.func68, Try.ntmps68
          go_wp2_with fail
          refine (C1.out _).mono ?_; rintro e w1 ⟨rfl, hb⟩
          have g0 := (hb.cell (p := ⟨w.heap.size, 0, none⟩) (by simp)).trans (new_cell _ _ _ 0)
          have g1 := (hb.cell (p := ⟨w.heap.size, 1, none⟩) (by simp)).trans (new_cell _ _ _ 1)
          have hlt : w.heap.size < w1.heap.size := by have := hb.size; simp at this; omega
          have HB := Lib.hid (((Below.refl w.heap.size w).alloc (Nat.le_refl _) _).trans (hb.mono (by simp)))
          clear hb
          go_wp2
          go_ret
          exact ⟨rfl, HB.out.alloc (Nat.le_of_lt hlt) _⟩
        · subst hx
          have b1 : (x == x) = true := by simp
          have b2 : (y == q) = false := by simpa using hy
          rw [r1 (.inr (.inr hy))]
          clear r0 r1 hok her
          go_enter Try.func68, Try.ntmps68
          go_wp2_with fail
          refine (C1.out _).mono ?_; rintro e w1 ⟨rfl, hb⟩
          have g0 := (hb.cell (p := ⟨w.heap.size, 0, none⟩) (by simp)).trans (new_cell _ _ _ 0)
          have g1 := (hb.cell (p := ⟨w.heap.size, 1, none⟩) (by simp)).trans (new_cell _ _ _ 1)
          have hlt : w.heap.size < w1.heap.size := by have := hb.size; simp at this; omega
          have HB := Lib.hid (((Below.refl w.heap.size w).alloc (Nat.le_refl _) _).trans (hb.mono (by simp)))
          clear hb
          go_wp2
          go_ret
          exact ⟨rfl, HB.out.alloc (Nat.le_of_lt hlt) _⟩
      · have b1 : (x == p) = false := by simpa using hx
        rw [r1 (.inr (.inl hx))]
        clear r0 r1 hok her
        go_enter Try.func68, Try.ntmps68
        go_wp2_with fail
        refine (C1.out _).mono ?_; rintro e w1 ⟨rfl, hb⟩
        have g0 := (hb.cell (p := ⟨w.heap.size, 0, none⟩) (by simp)).trans (new_cell _ _ _ 0)
        have g1 := (hb.cell (p := ⟨w.heap.size, 1, none⟩) (by simp)).trans (new_cell _ _ _ 1)
        have hlt : w.heap.size < w1.heap.size := by have := hb.size; simp at this; omega
        have HB := Lib.hid (((Below.refl w.heap.size w).alloc (Nat.le_refl _) _).trans (hb.mono (by simp)))
        clear hb
        go_wp2
        go_ret
        exact ⟨rfl, HB.out.alloc (Nat.le_of_lt hlt) _⟩
    · have e1 : (e != 0) = true := by simpa using e0
      rw [r1 (.inl e0)]
      clear r0 r1 hok her
      go_enter Try.func68, Try.ntmps68
      go_wp2_with fail
      refine (C1.out _).mono ?_; rintro e w1 ⟨rfl, hb⟩
      have g0 := (hb.cell (p := ⟨w.heap.size, 0, none⟩) (by simp)).trans (new_cell _ _ _ 0)
      have g1 := (hb.cell (p := ⟨w.heap.size, 1, none⟩) (by simp)).trans (new_cell _ _ _ 1)
      have hlt : w.heap.size < w1.heap.size := by have := hb.size; simp at this; omega
      have HB := Lib.hid (((Below.refl w.heap.size w).alloc (Nat.le_refl _) _).trans (hb.mono (by simp)))
      clear hb
      go_wp2
      go_ret
      exact ⟨rfl, HB.out.alloc (Nat.le_of_lt hlt) _⟩
  refine walk _ (fun a b c => ?_) (fun h => ?_)
  · subst a b c; rw [if_pos (hok.2 rfl)]
  · rw [if_neg]
    intro hk
    have := hok.1 hk
    simp only [Prod.mk.injEq] at this
    omega
end Go.Proofs.Ytoeeceemoggffaa
