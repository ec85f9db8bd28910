/- The list of the first eighth: root.eighth, a function that calls itself and appends. -/
import Derived.Test.YtoeeceemoggffaaRt
import Derived.Test.YtoeeceemoggffaaLw
namespace Go.Proofs.Ytoeeceemoggffaa
open Go.RowKit
set_option maxHeartbeats 400000

theorem infoC : (Try.prog.info? 23).map (fun i => (i.zero, i.size, i.bytes)) = some (some (.complex .f64 0 0), 1, 16) := by kernel_rfl

/-- a list of complex numbers in new memory -/
def GivesC (xs : List (Nat × Nat)) (w : World) (e : Ending) (w' : World) : Prop := ∃ v, e = .returned v ∧ Own w.heap.size 23 w w' v (xs.map cv)

theorem take_two {L : List (Nat × Nat)} {i : Nat} {a : Nat × Nat} (h : L[2 * i]? = some a) : L.take (2 * i + 1) = L.take (2 * i) ++ [a] := by
  rw [List.take_add_one, h]; rfl

theorem eighth_small (n : Int) (w : World) (h8 : n < 8) :
    Calls Try.prog 52 #[.int .i64 n] w fun e w' => GivesC [(wOne, 0)] w e w' := by
  have h16 : n < 16 := by omega
  go_enter Try.func52, Try.ntmps52
  go_wp2
  go_ret
  exact ⟨_, rfl, Own.made w _ [cv (wOne, 0)] (by decide)⟩

theorem eighth_three (w : World) (s m : Nat × Nat) (h1 : stepN 0 = some s) (h2 : cmul (wOne, 0) s = some m) :
    Calls Try.prog 52 #[.int .i64 8] w fun e w' => GivesC [(wOne, 0), plain2 m] w e w' := by
  go_enter Try.func52, Try.ntmps52
  go_wp2_with fail
  refine (step_walk w 0 s (by decide) h1).mono ?_; rintro e w' ⟨rfl, rfl⟩
  go_wp2_with fail
  refine (Mul_walk _ _ _ _ _ _ h2).mono ?_; rintro e w' ⟨rfl, rfl⟩
  go_wp2_with fail
  refine (Plain_walk _ _ _).mono ?_; rintro e w' ⟨rfl, rfl⟩
  go_wp2
  go_ret
  exact ⟨_, rfl, Own.made w _ [cv (wOne, 0), cv (plain2 m)] (by unfold maxLen; simp)⟩

theorem eighth_round (k : Nat) (H L : List (Nat × Nat)) (s : Nat × Nat) (hk : k ≤ 8) (h1 : E (k + 3) = some H) (h2 : stepN (k + 1) = some s) (h3 : inter s H = some L) (w : World)
    (ih : ∀ w, Calls Try.prog 52 #[.int .i64 ((2 ^ (k + 3) : Nat) : Int)] w fun e w' => GivesC H w e w') :
    Calls Try.prog 52 #[.int .i64 ((2 ^ (k + 4) : Nat) : Int)] w fun e w' => GivesC L w e w' := by
  have hS := fun w => step_walk w (k + 1) s (by omega) h2
  rw [show k + 1 + 3 = k + 4 from rfl] at hS
  obtain ⟨g1, g2', g3'⟩ := inter_get s H L h3
  have hlen := E_len k H h1
  have e1 : ((2 ^ (k + 4) : Nat) : Int) = 2 * ((2 ^ (k + 3) : Nat) : Int) := by rw [show k + 4 = (k + 3) + 1 from rfl, Nat.pow_succ]; omega
  rw [e1] at hS ⊢
  have b1 : 8 ≤ ((2 ^ (k + 3) : Nat) : Int) := by
    have : 2 ^ 3 ≤ 2 ^ (k + 3) := Nat.pow_le_pow_right (by decide) (by omega)
    omega
  have b2 : ((2 ^ (k + 3) : Nat) : Int) ≤ 4096 := by
    have : 2 ^ (k + 3) ≤ 2 ^ 12 := Nat.pow_le_pow_right (by decide) (by omega)
    omega
  have b3 : H.length ≤ 4097 := by
    have : 2 ^ k ≤ 2 ^ 12 := Nat.pow_le_pow_right (by decide) (by omega)
    omega
  have b4 : 1 ≤ H.length := by have := Nat.two_pow_pos k; omega
  have hget : ∀ i, i < H.length → ∃ a, H[i]? = some a := fun i hi => ⟨_, List.getElem?_eq_getElem hi⟩
  have g2 : ∀ i a, H[i]? = some a → L[2 * i]? = some a := fun i a h => by
    obtain ⟨hi, rfl⟩ := List.getElem?_eq_some_iff.1 h
    exact g2' i hi
  have g3 : ∀ i a, H[i]? = some a → i + 1 < H.length → ∃ m, cmul a s = some m ∧ L[2 * i + 1]? = some (plain2 m) := fun i a h hi => by
    obtain ⟨_, rfl⟩ := List.getElem?_eq_some_iff.1 h
    exact g3' i hi
  have hmap : ∀ i a, H[i]? = some a → (H.map cv)[i]? = some (cv a) := fun i a h => by rw [List.getElem?_map, h]; rfl
  obtain ⟨n, hn⟩ : ∃ n, n = H.length := ⟨_, rfl⟩
  rw [← hn] at b3 b4 hget g3 g1
  have HN := Lib.hid hn
  generalize ((2 ^ (k + 3) : Nat) : Int) = N at *
  have IH := Lib.hid (ih w)
  have HS := Lib.hid hS
  have hb : decide (2 * N < 16) = false := by simp; omega
  have G1 := Lib.hid g1
  have G2 := Lib.hid g2
  have G3 := Lib.hid g3
  have HG := Lib.hid hget
  have HM := Lib.hid hmap
  clear ih h1 h2 h3 e1 hS hlen g2' g3' hn g1 g2 g3 hget hmap
  obtain ⟨p, q⟩ := s
  go_enter Try.func52, Try.ntmps52
  go_wp2_with fail
  refine IH.out.mono ?_
  rintro e w1 ⟨v, rfl, hO⟩
  obtain ⟨g, cap, hv, hg0, hg1, hcell⟩ := hO.form (by rw [List.length_map, ← HN.out]; omega)
  rw [List.length_map, ← HN.out] at hv
  subst hv
  have HC := Lib.hid hcell
  have HO1 := Lib.hid hO
  clear hcell hO
  go_wp2_with fail
  refine (HS.out w1).mono ?_; rintro e w' ⟨rfl, rfl⟩
  go_wp2
  go_loopw [5, 24] (fun v i wr => ∃ j : Nat, j ≤ n ∧ i = .int .i64 j ∧ Own w1.heap.size 23 w1 wr v ((L.take (2 * j)).map cv)) (fun _ i _ => n - (intOf i).toNat)
  case atStart => exact ⟨0, Nat.zero_le _, rfl, Own.nil _ _⟩
  case round =>
    obtain ⟨j, hj, rfl, hown⟩ := hrel
    by_cases hlt : j < n
    · obtain ⟨a, ha⟩ := HG.out j hlt
      have ha2 := G2.out j a ha
      have hc := cells_below hown.below hg1 (HC.out j _ (HM.out j a ha))
      have hl : ((L.take (2 * j)).map cv).length ≤ 9000 := by rw [List.length_map, List.length_take]; omega
      have hl1 : ((L.take (2 * j)).map cv).length + 1 ≤ maxLen := by unfold maxLen; omega
      have hl2 : (((L.take (2 * j)).map cv).length + 1) * 16 ≤ 140737488355328 := by omega
      have hw1 : (L.take (2 * j)).map cv ++ [cv a] = (L.take (2 * j + 1)).map cv := by rw [take_two ha2, List.map_append]; rfl
      obtain ⟨x, y⟩ := a
      by_cases hl' : j + 1 < n
      · obtain ⟨m, hm1, hm2⟩ := G3.out j _ ha hl'
        have hin : (j : Int) < (n : Int) - 1 := by omega
        have hl3 : ((L.take (2 * j)).map cv ++ [cv (x, y)]).length + 1 ≤ maxLen := len_le (len_snoc hl) (by decide)
        have hl4 : (((L.take (2 * j)).map cv ++ [cv (x, y)]).length + 1) * 16 ≤ 140737488355328 := by have := len_snoc (y := cv (x, y)) hl; omega
        have hw2 : (L.take (2 * j)).map cv ++ [cv (x, y)] ++ [cv (plain2 m)] = (L.take (2 * (j + 1))).map cv := by
          rw [hw1, show 2 * (j + 1) = 2 * j + 1 + 1 by omega, List.take_add_one (i := 2 * j + 1), hm2, List.map_append]; rfl
        have HW2 := Lib.hid hw2
        clear ha ha2 hw1 hw2 hm2
        go_wp2_with (first
          | (at_builtin; refine append_one w1.heap.size rfl (.tmp 29) (.tmp 31) 37 23 (.complex .f64 0 0) 16 rfl Try.underlying37 infoC rfl _ _ _ rfl rfl rfl hown hl1 hl2 ?_; intro v1 w2 hown1 hs1)
          | (go_at_call 75; refine (Mul_walk _ _ _ _ _ _ hm1).mono ?_; rintro e w' ⟨rfl, rfl⟩)
          | (go_at_call 90; refine (Plain_walk _ _ _).mono ?_; rintro e w' ⟨rfl, rfl⟩)
          | (at_builtin; refine append_one w1.heap.size rfl (.tmp 38) (.tmp 43) 37 23 (.complex .f64 0 0) 16 rfl Try.underlying37 infoC rfl _ _ _ rfl rfl rfl hown1 hl3 hl4 ?_; intro v2 w3 hown2 hs2))
        go_roundw
        case rel => exact ⟨j + 1, by omega, by go_num, by rw [← HW2.out]; exact hown2⟩
        case measure => simp [intOf]; omega
      · have hend : ¬ ((j : Int) < (n : Int) - 1) := by omega
        have hk2 : (L.take (2 * j + 1)) = L.take (2 * (j + 1)) := by rw [List.take_of_length_le (by have := G1.out; omega), List.take_of_length_le (by have := G1.out; omega)]
        rw [hk2] at hw1
        have HW1 := Lib.hid hw1
        clear ha ha2 hk2 hw1
        go_wp2_with (at_builtin; refine append_one w1.heap.size rfl (.tmp 29) (.tmp 31) 37 23 (.complex .f64 0 0) 16 rfl Try.underlying37 infoC rfl _ _ _ rfl rfl rfl hown hl1 hl2 ?_; intro v1 w2 hown1 hs1)
        go_roundw
        case rel => exact ⟨j + 1, by omega, by go_num, by rw [← HW1.out]; exact hown1⟩
        case measure => simp [intOf]; omega
    · obtain rfl : j = n := by omega
      go_wp2
      go_ret
      refine ⟨_, rfl, ?_⟩
      rw [List.take_of_length_le (by have := G1.out; omega)] at hown
      exact hown.lower (Nat.le_of_lt (by have := HO1.out.base; omega)) HO1.out.below

theorem eighth_walk : ∀ (t : Nat) (w : World), t ≤ 12 →
    Calls Try.prog 52 #[.int .i64 ((2 ^ t : Nat) : Int)] w fun e w' => GivesC (EL t) w e w' := by
  have key : ∀ (t : Nat) (L : List (Nat × Nat)), t ≤ 12 → E t = some L → ∀ w, Calls Try.prog 52 #[.int .i64 ((2 ^ t : Nat) : Int)] w fun e w' => GivesC L w e w' := by
    intro t
    induction t with
    | zero => intro L _ h w; cases h; exact eighth_small _ w (by decide)
    | succ t ih =>
      intro L ht h w
      by_cases h3 : t + 1 < 3
      · have : t = 0 ∨ t = 1 := by omega
        rcases this with rfl | rfl <;> (cases h; exact eighth_small _ w (by decide))
      · by_cases h4 : t = 2
        · subst h4
          obtain ⟨s, m, h1, h2, rfl⟩ := E_three h
          exact eighth_three w s m h1 h2
        · obtain ⟨k, rfl⟩ : ∃ k, t = k + 3 := ⟨t - 3, by omega⟩
          obtain ⟨H, s, h1, h2, h3⟩ := E_succ h
          exact eighth_round k H L s (by omega) h1 h2 h3 w (ih H (by omega) h1)
  intro t w ht
  exact key t _ ht (E_EL ht) w
end Go.Proofs.Ytoeeceemoggffaa
