/- root.Root and root.Table by their contracts. -/
import Derived.Test.YtoeeceemoggffaaRe
namespace Go.Proofs.Ytoeeceemoggffaa
open Go.RowKit
set_option maxHeartbeats 400000

theorem fbits_lt {op : BinOp} {x y r : Nat} (h : floatBits op .f64 x y = some r) : r < 18446744073709551616 := by
  have := floatBits_wf h
  simpa [Lit.wf] using this

theorem cmul_Wd {a b m : Nat × Nat} (h : cmul a b = some m) : Wd m := by
  obtain ⟨_, _, _, _, _, _, h3, _, _, h6⟩ := cmul_some h
  exact ⟨fbits_lt h3, fbits_lt h6⟩

theorem inter_Wd (s : Nat × Nat) : ∀ (l L : List (Nat × Nat)), inter s l = some L → (∀ a ∈ l, Wd a) → ∀ a ∈ L, Wd a
  | [], L, h, _ => by cases h; intro a ha; simp at ha
  | [b], L, h, hw => by cases h; exact hw
  | b :: c :: l, L, h, hw => by
    unfold inter at h
    obtain ⟨m, h1, h⟩ := bind_some h
    obtain ⟨r, h2, h⟩ := bind_some h
    cases h
    intro a ha
    rcases List.mem_cons.1 ha with rfl | ha
    · exact hw _ List.mem_cons_self
    rcases List.mem_cons.1 ha with rfl | ha
    · exact (cmul_Wd h1).plain
    · exact inter_Wd s (c :: l) r h2 (fun a ha => hw a (List.mem_cons_of_mem _ ha)) a ha

theorem one_Wd : Wd (wOne, 0) := ⟨by decide, by decide⟩

theorem E_Wd : ∀ t L, E t = some L → ∀ a ∈ L, Wd a := by
  intro t
  induction t with
  | zero => intro L h a ha; cases h; obtain rfl : a = _ := by simpa using ha
            exact one_Wd
  | succ t ih =>
    match t, ih with
    | 0, _ => intro L h a ha; cases h; obtain rfl : a = _ := by simpa using ha
              exact one_Wd
    | 1, _ => intro L h a ha; cases h; obtain rfl : a = _ := by simpa using ha
              exact one_Wd
    | 2, _ =>
      intro L h a ha
      obtain ⟨s, m, _, h2, rfl⟩ := E_three h
      rcases List.mem_cons.1 ha with rfl | ha
      · exact one_Wd
      · obtain rfl : a = _ := by simpa using ha
        exact (cmul_Wd h2).plain
    | t + 3, ih =>
      intro L h
      obtain ⟨H, s, h1, _, h3⟩ := E_succ h
      exact inter_Wd s H L h3 (ih H h1)

theorem EL_Wd {t : Nat} (ht : t ≤ 12) : ∀ a ∈ EL t, Wd a := E_Wd t _ (E_EL ht)

theorem EL_len {t : Nat} (ht : t ≤ 12) : (EL t).length = 2 ^ t / 8 + 1 := E_len' t _ (E_EL ht)

theorem pow_le12 {t : Nat} (ht : t ≤ 12) : 2 ^ t ≤ 4096 := Nat.pow_le_pow_right (by decide) ht

theorem floatOfInt_lt (n : Int) : floatOfInt .f64 n < 18446744073709551616 := by
  have := floatOfInt_wf .f64 n
  simpa [Lit.wf] using this

theorem R_Wd {t : Nat} (ht : t ≤ 12) (k : Nat) : Wd (R t k) := by
  unfold R atL
  split
  · exact ⟨floatOfInt_lt _, show 0 < 18446744073709551616 by decide⟩
  · exact (Wd_quarter (EL_Wd ht) _ _).turns _

/-- the k-th root of order 2^t out of a list that lies in memory -/
theorem at_any (t k : Nat) (cap g : Nat) (w : World) (ht : t ≤ 12) (hk : k < 2 ^ t) (hr : RowC w g (EL t)) :
    Calls Try.prog 51 #[.int .i64 ((2 ^ t : Nat) : Int), .int .i64 (k : Int), .slice (some ⟨g, 0, none⟩) (EL t).length cap] w fun e w' => e = .returned (cv (R t k)) ∧ w = w' := by
  by_cases h4 : 2 ^ t < 4
  · exact at_small _ _ _ _ _ _ _ h4 hk
  · exact at_walk (2 ^ t) k _ g cap (EL t) w (by omega) (pow_le12 ht) hk rfl (EL_len ht) hr (EL_Wd ht)

/-- k & (2^t - 1) of any int -/
theorem and_mask {k : Int} {t : Nat} (ht : t ≤ 62) : bits .and .i64 k (((2 ^ t : Nat) : Int) - 1) = k % ((2 ^ t : Nat) : Int) := by
  have hp := Nat.two_pow_pos t
  have hp2 : 2 ^ t ≤ 2 ^ 62 := Nat.pow_le_pow_right (by decide) ht
  have e1 : ((2 ^ t : Nat) : Int) - 1 = ((2 ^ t - 1 : Nat) : Int) := by omega
  show IntKind.i64.wrap ((BitVec.ofInt 64 k &&& BitVec.ofInt 64 (((2 ^ t : Nat) : Int) - 1)).toNat : Int) = _
  rw [e1, BitVec.toNat_and, bv_of_nat (show 2 ^ t - 1 < 18446744073709551616 by omega), Nat.and_two_pow_sub_one_eq_mod]
  have e2 : (((BitVec.ofInt 64 k).toNat % 2 ^ t : Nat) : Int) = k % ((2 ^ t : Nat) : Int) := by
    rw [BitVec.toNat_ofInt]
    have hd : ((2 ^ t : Nat) : Int) ∣ ((2 ^ 64 : Nat) : Int) := by
      rw [Int.natCast_dvd_natCast]
      exact Nat.pow_dvd_pow 2 (by omega)
    rw [Int.natCast_emod, Int.toNat_of_nonneg (Int.emod_nonneg _ (by decide)), Int.emod_emod_of_dvd _ hd]
  rw [e2]
  have h0 : 0 ≤ k % ((2 ^ t : Nat) : Int) := Int.emod_nonneg _ (by omega)
  have h1 : k % ((2 ^ t : Nat) : Int) < ((2 ^ t : Nat) : Int) := Int.emod_lt_of_pos _ (by omega)
  have h2 : k % ((2 ^ t : Nat) : Int) < 4611686018427387904 := by omega
  generalize k % ((2 ^ t : Nat) : Int) = m at *
  clear h1 e1 e2 hp hp2
  simp only [IntKind.wrap, IntKind.bits, IntKind.signed]
  simp
  omega

/-- what Root gives -/
def GivesRoot (r : Nat × Nat) (err : Int) (w : World) (e : Ending) (w' : World) : Prop := e = .returned (.tuple #[cv r, .int .i64 err]) ∧ Below w.heap.size w w'

theorem Root_no (n k : Int) (w : World) (h : lenB n = false) :
    Calls Try.prog 16 #[.int .i64 n, .int .i64 k] w fun e w' => GivesRoot (0, 0) 30 w e w' := by
  go_enter Try.func16, Try.ntmps16
  go_wp2_with fail
  refine (right_walk _ _).mono ?_; rintro e w' ⟨rfl, rfl⟩
  rw [h]
  go_wp2
  go_ret2
  exact ⟨rfl, Below.refl _ _⟩

theorem Root_yes (t : Nat) (k : Int) (w : World) (ht : t ≤ 12) :
    Calls Try.prog 16 #[.int .i64 ((2 ^ t : Nat) : Int), .int .i64 k] w fun e w' => GivesRoot (R t (k % ((2 ^ t : Nat) : Int)).toNat) 0 w e w' := by
  have h : lenB ((2 ^ t : Nat) : Int) = true := lenB_iff.2 ⟨t, ht, rfl⟩
  have hm := and_mask (k := k) (t := t) (by omega)
  have hp := Nat.two_pow_pos t
  have h0 : 0 ≤ k % ((2 ^ t : Nat) : Int) := Int.emod_nonneg _ (by omega)
  have h1 : k % ((2 ^ t : Nat) : Int) < ((2 ^ t : Nat) : Int) := Int.emod_lt_of_pos _ (by omega)
  obtain ⟨j, hj⟩ := Int.eq_ofNat_of_zero_le h0
  rw [hj] at h1 hm ⊢
  have hle := pow_le12 ht
  have hA := fun g cap w => at_any t j cap g w ht (by omega)
  have hE := eighth_walk t w ht
  have hR := right_walk ((2 ^ t : Nat) : Int) w
  rw [h] at hR
  have hl := EL_len ht
  simp only [Int.toNat_natCast]
  have b1 : 1 ≤ ((2 ^ t : Nat) : Int) := by omega
  have b2 : ((2 ^ t : Nat) : Int) ≤ 4096 := by omega
  generalize ((2 ^ t : Nat) : Int) = N at *
  have HA := Lib.hid hA
  have HE := Lib.hid hE
  have HR := Lib.hid hR
  have HL := Lib.hid hl
  clear hA hE hR h hj h0 hl
  go_enter Try.func16, Try.ntmps16
  go_wp2_with fail
  refine HR.out.mono ?_; rintro e w' ⟨rfl, rfl⟩
  go_wp2_with fail
  refine HE.out.mono ?_; rintro e w1 ⟨v, rfl, hO⟩
  obtain ⟨g, cap, rfl, hg0, hg1, hcell⟩ := hO.form (by rw [List.length_map, HL.out]; omega)
  rw [List.length_map]
  have hr : RowC w1 g (EL t) := fun j a h => hcell j _ (by rw [List.getElem?_map, h]; rfl)
  have hB := hO.below
  have HRo := Lib.hid hr
  clear hcell hO hr
  go_wp2_with fail
  refine (HA.out _ _ _ HRo.out).mono ?_; rintro e w' ⟨rfl, rfl⟩
  go_wp2
  go_ret2
  exact ⟨rfl, hB⟩
end Go.Proofs.Ytoeeceemoggffaa
