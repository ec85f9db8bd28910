/- The table's numbers multiply nearly: plain arithmetic over the table. -/
import Derived.Test.YtoeeceemoggffaaZt
namespace Go.Proofs.Ytoeeceemoggffaa

theorem zturn_mul (a b : Z2) : zmul (zturn a) b = zturn (zmul a b) := by
  obtain ⟨x, y⟩ := a
  obtain ⟨u, v⟩ := b
  simp only [zmul, zturn, Int.neg_mul, Prod.mk.injEq]
  constructor <;> omega
theorem zmul_comm (a b : Z2) : zmul a b = zmul b a := by
  obtain ⟨x, y⟩ := a
  obtain ⟨u, v⟩ := b
  refine Prod.ext ?_ ?_
  · show x * u - y * v = u * x - v * y
    rw [Int.mul_comm x u, Int.mul_comm y v]
  · show x * v + y * u = u * y + v * x
    rw [Int.mul_comm x v, Int.mul_comm y u, Int.add_comm]
theorem zmul_turn (a b : Z2) : zmul a (zturn b) = zturn (zmul a b) := by
  rw [zmul_comm, zturn_mul, zmul_comm]
theorem zturn_sub (a b : Z2) : zsub (zturn a) (zturn b) = zturn (zsub a b) := by
  refine Prod.ext ?_ ?_
  · show -a.2 - -b.2 = -(a.2 - b.2); omega
  · rfl
theorem zturn_scale (k : Int) (a : Z2) : zscale k (zturn a) = zturn (zscale k a) := by
  simp only [zscale, zturn, Int.mul_neg]
theorem zn_turn (a : Z2) : zn (zturn a) = zn a := by
  simp only [zn, zturn, Int.natAbs_neg]; omega
theorem zturns_add (i j : Nat) (a : Z2) : zturns (i + j) a = zturns i (zturns j a) := by
  induction i with
  | zero => rw [Nat.zero_add]; rfl
  | succ i ih => rw [Nat.succ_add]; show zturn _ = zturn _; rw [ih]
theorem zturns_mul (j : Nat) (a b : Z2) : zmul (zturns j a) b = zturns j (zmul a b) := by
  induction j with
  | zero => rfl
  | succ j ih => show zmul (zturn _) b = zturn _; rw [zturn_mul, ih]
theorem zturns_mul' (j : Nat) (a b : Z2) : zmul a (zturns j b) = zturns j (zmul a b) := by
  rw [zmul_comm, zturns_mul, zmul_comm]
theorem zturns_sub (j : Nat) (a b : Z2) : zsub (zturns j a) (zturns j b) = zturns j (zsub a b) := by
  induction j with
  | zero => rfl
  | succ j ih => show zsub (zturn _) (zturn _) = zturn _; rw [zturn_sub, ih]
theorem zturns_scale (j : Nat) (k : Int) (a : Z2) : zscale k (zturns j a) = zturns j (zscale k a) := by
  induction j with
  | zero => rfl
  | succ j ih => show zscale k (zturn _) = zturn _; rw [zturn_scale, ih]
theorem zn_turns (j : Nat) (a : Z2) : zn (zturns j a) = zn a := by
  induction j with
  | zero => rfl
  | succ j ih => show zn (zturn _) = _; rw [zn_turn, ih]

theorem Zf_low {J : Nat} (h : J < 1024) : Zf J = zq.getD J (0, 0) := by
  unfold Zf; rw [Nat.div_eq_of_lt h, Nat.mod_eq_of_lt h]; rfl
theorem Zf_turns (J q : Nat) : Zf (J + 1024 * q) = zturns q (Zf J) := by
  unfold Zf
  rw [Nat.add_mul_div_left _ _ (by decide), Nat.add_mul_mod_self_left, Nat.add_comm (J / 1024), zturns_add]
theorem Zf_split (J : Nat) : Zf J = zturns (J / 1024) (Zf (J % 1024)) := by
  have h := Zf_turns (J % 1024) (J / 1024)
  rw [Nat.mod_add_div] at h; exact h
theorem zturns_four (a : Z2) : zturns 4 a = a := by
  obtain ⟨x, y⟩ := a
  show zturn (zturn (zturn (zturn (x, y)))) = _
  simp [zturn]
theorem Zf_round (J : Nat) : Zf (J + 4096) = Zf J := by
  have := Zf_turns J 4
  rw [show 1024 * 4 = 4096 from rfl] at this
  rw [this, zturns_four]
theorem Zf_mod (J : Nat) : Zf (J % 4096) = Zf J := by
  have key : ∀ q r, Zf (r + 4096 * q) = Zf r := fun q r => by
    induction q with
    | zero => rfl
    | succ q ih => rw [Nat.mul_succ, ← Nat.add_assoc, Zf_round, ih]
  have := key (J / 4096) (J % 4096)
  rw [Nat.mod_add_div] at this
  exact this.symm

theorem zh_get {J : Nat} (h : J < 2048) : zh[J]? = some (Zf J) := by
  unfold zh
  by_cases hl : J < 1024
  · rw [List.getElem?_append_left (by rw [zq_length]; exact hl), Zf_low hl, List.getD_eq_getElem?_getD, List.getElem?_eq_getElem (by rw [zq_length]; exact hl)]; rfl
  · obtain ⟨i, rfl⟩ : ∃ i, J = i + 1024 * 1 := ⟨J - 1024, by omega⟩
    have hi : i < 1024 := by omega
    rw [List.getElem?_append_right (by rw [zq_length]; omega), zq_length, Nat.add_sub_cancel, List.getElem?_map, Zf_turns, Zf_low hi, List.getD_eq_getElem?_getD, List.getElem?_eq_getElem (by rw [zq_length]; exact hi)]
    rfl

/-- how far a product lies from the number at the sum of the places -/
def zdiff (J K : Nat) : Z2 := zsub (zmul (Zf J) (Zf K)) (zscale zW (Zf (J + K)))

theorem zdiff_low {m : Nat} (h : zcheck m = true) (hm : 2 ^ m < 1024) {J : Nat} (hJ : J < 1024) : zn (zdiff J (2 ^ m)) ≤ 1361129467683753853853498429727072845824 := by
  unfold zcheck at h
  rw [List.all_eq_true] at h
  have g1 : zq[J]? = some (Zf J) := by
    rw [Zf_low hJ, List.getD_eq_getElem?_getD, List.getElem?_eq_getElem (by rw [zq_length]; exact hJ)]; rfl
  have g2 : (zh.drop (2 ^ m))[J]? = some (Zf (J + 2 ^ m)) := by
    rw [List.getElem?_drop, Nat.add_comm]; exact zh_get (by omega)
  have := h (Zf J, Zf (J + 2 ^ m)) (by
    apply List.mem_of_getElem? (i := J)
    rw [List.getElem?_zip_eq_some]
    exact ⟨g1, g2⟩)
  rw [decide_eq_true_eq] at this
  unfold zdiff
  rw [Zf_low (J := 2 ^ m) hm]
  exact this

theorem zdiff_turn (J K q : Nat) : zn (zdiff (J + 1024 * q) K) = zn (zdiff J K) := by
  unfold zdiff
  rw [show J + 1024 * q + K = (J + K) + 1024 * q by omega, Zf_turns, Zf_turns, zturns_mul, zturns_scale, zturns_sub, zn_turns]
theorem zdiff_turn' (J K q : Nat) : zn (zdiff J (K + 1024 * q)) = zn (zdiff J K) := by
  unfold zdiff
  rw [show J + (K + 1024 * q) = (J + K) + 1024 * q by omega, Zf_turns, Zf_turns, zturns_mul', zturns_scale, zturns_sub, zn_turns]

theorem zdiff_pow {m : Nat} (hm : m < 10) (J : Nat) : zn (zdiff J (2 ^ m)) ≤ 1361129467683753853853498429727072845824 := by
  have h := zdiff_turn (J % 1024) (2 ^ m) (J / 1024)
  rw [Nat.mod_add_div] at h
  rw [h]
  have hJ : J % 1024 < 1024 := Nat.mod_lt _ (by decide)
  have : m = 0 ∨ m = 1 ∨ m = 2 ∨ m = 3 ∨ m = 4 ∨ m = 5 ∨ m = 6 ∨ m = 7 ∨ m = 8 ∨ m = 9 := by omega
  rcases this with rfl | rfl | rfl | rfl | rfl | rfl | rfl | rfl | rfl | rfl
  · exact zdiff_low zcheck0 (by decide) hJ
  · exact zdiff_low zcheck1 (by decide) hJ
  · exact zdiff_low zcheck2 (by decide) hJ
  · exact zdiff_low zcheck3 (by decide) hJ
  · exact zdiff_low zcheck4 (by decide) hJ
  · exact zdiff_low zcheck5 (by decide) hJ
  · exact zdiff_low zcheck6 (by decide) hJ
  · exact zdiff_low zcheck7 (by decide) hJ
  · exact zdiff_low zcheck8 (by decide) hJ
  · exact zdiff_low zcheck9 (by decide) hJ

theorem zn_mul (a b : Z2) : zn (zmul a b) ≤ zn a * zn b := by
  obtain ⟨x, y⟩ := a
  obtain ⟨u, v⟩ := b
  simp only [zn, zmul]
  have h1 : (x * u - y * v).natAbs ≤ x.natAbs * u.natAbs + y.natAbs * v.natAbs := by
    rw [← Int.natAbs_mul, ← Int.natAbs_mul]; omega
  have h2 : (x * v + y * u).natAbs ≤ x.natAbs * v.natAbs + y.natAbs * u.natAbs := by
    rw [← Int.natAbs_mul, ← Int.natAbs_mul]; omega
  have e : (x.natAbs + y.natAbs) * (u.natAbs + v.natAbs) = x.natAbs * u.natAbs + y.natAbs * v.natAbs + (x.natAbs * v.natAbs + y.natAbs * u.natAbs) := by
    rw [Nat.add_mul, Nat.mul_add, Nat.mul_add]; omega
  omega

theorem zn_tri (a b c : Z2) : zn (zsub (zadd a b) c) ≤ zn a + zn b + zn c := by
  simp only [zn, zsub, zadd]; omega

theorem zq_bound {k : Nat} (hk : k < 1024) : (Zf k).1.natAbs ≤ zW.toNat ∧ (Zf k).2.natAbs ≤ zW.toNat ∧ ((Zf k).1 * (Zf k).1 + (Zf k).2 * (Zf k).2 - zW * zW).natAbs ≤ 1361129467683753853853498429727072845824 := by
  have h := zunit
  rw [List.all_eq_true] at h
  have g1 : zq[k]? = some (Zf k) := by
    rw [Zf_low hk, List.getD_eq_getElem?_getD, List.getElem?_eq_getElem (by rw [zq_length]; exact hk)]; rfl
  have := h (Zf k) (List.mem_of_getElem? g1)
  simp only [Bool.and_eq_true, decide_eq_true_eq] at this
  exact ⟨this.1.2, this.2, this.1.1⟩

theorem Zf_bound (J : Nat) : (Zf J).1.natAbs ≤ zW.toNat ∧ (Zf J).2.natAbs ≤ zW.toNat ∧ ((Zf J).1 * (Zf J).1 + (Zf J).2 * (Zf J).2 - zW * zW).natAbs ≤ 1361129467683753853853498429727072845824 := by
  have key : ∀ (q : Nat) (a : Z2), (a.1.natAbs ≤ zW.toNat ∧ a.2.natAbs ≤ zW.toNat ∧ (a.1 * a.1 + a.2 * a.2 - zW * zW).natAbs ≤ 1361129467683753853853498429727072845824) →
      ((zturns q a).1.natAbs ≤ zW.toNat ∧ (zturns q a).2.natAbs ≤ zW.toNat ∧ ((zturns q a).1 * (zturns q a).1 + (zturns q a).2 * (zturns q a).2 - zW * zW).natAbs ≤ 1361129467683753853853498429727072845824) := by
    intro q a h
    induction q with
    | zero => exact h
    | succ q ih =>
      obtain ⟨h1, h2, h3⟩ := ih
      show (zturn _).1.natAbs ≤ _ ∧ (zturn _).2.natAbs ≤ _ ∧ ((zturn _).1 * (zturn _).1 + (zturn _).2 * (zturn _).2 - _).natAbs ≤ _
      generalize zturns q a = b at *
      simp only [zturn, Int.natAbs_neg, Int.neg_mul_neg]
      exact ⟨h2, h1, by rw [Int.add_comm (b.2 * b.2)]; exact h3⟩
  rw [Zf_split]
  exact key _ _ (zq_bound (Nat.mod_lt _ (by decide)))

theorem zn_Zf (J : Nat) : zn (Zf J) ≤ 2 * zW.toNat := by
  obtain ⟨h1, h2, _⟩ := Zf_bound J
  unfold zn; omega

theorem zmul_assoc (a b c : Z2) : zmul (zmul a b) c = zmul a (zmul b c) := by
  obtain ⟨x, y⟩ := a
  obtain ⟨u, v⟩ := b
  obtain ⟨p, q⟩ := c
  simp only [zmul, Prod.mk.injEq, Int.sub_mul, Int.add_mul, Int.mul_sub, Int.mul_add, Int.mul_assoc]
  constructor <;> omega
theorem zmul_add (a b c : Z2) : zmul a (zadd b c) = zadd (zmul a b) (zmul a c) := by
  simp only [zmul, zadd, Prod.mk.injEq, Int.mul_add]
  constructor <;> omega
theorem zmul_sub (a b c : Z2) : zmul a (zsub b c) = zsub (zmul a b) (zmul a c) := by
  simp only [zmul, zsub, Prod.mk.injEq, Int.mul_sub]
  constructor <;> omega
theorem zmul_scale (k : Int) (a b : Z2) : zmul a (zscale k b) = zscale k (zmul a b) := by
  simp only [zmul, zscale, Int.mul_sub, Int.mul_add, Int.mul_left_comm]
theorem zscale_sub (k : Int) (a b : Z2) : zscale k (zsub a b) = zsub (zscale k a) (zscale k b) := by
  simp only [zscale, zsub, Int.mul_sub]
theorem zn_scale (k : Int) (a : Z2) : zn (zscale k a) = k.natAbs * zn a := by
  simp only [zn, zscale, Int.natAbs_mul, Nat.mul_add]

/-- one digit more -/
theorem zdiff_step (J k p : Nat) : zscale zW (zdiff J (k + p)) = zsub (zadd (zscale zW (zdiff (J + k) p)) (zmul (Zf p) (zdiff J k))) (zmul (Zf J) (zdiff k p)) := by
  unfold zdiff
  rw [zscale_sub, zscale_sub, zmul_sub, zmul_sub, zmul_scale, zmul_scale, ← zmul_assoc (Zf J) (Zf k) (Zf p), zmul_comm (zmul (Zf J) (Zf k)) (Zf p), zmul_comm (Zf (J + k)) (Zf p), ← Nat.add_assoc]
  generalize zmul (Zf p) (Zf (J + k)) = A
  generalize zmul (Zf p) (zmul (Zf J) (Zf k)) = B
  generalize zmul (Zf J) (Zf (k + p)) = C
  generalize Zf (J + k + p) = D
  simp only [zscale, zsub, zadd, Prod.mk.injEq]
  constructor <;> omega

theorem zW_nat : zW.natAbs = zW.toNat := by decide

theorem zdiff_all : ∀ m, m ≤ 10 → ∀ (J K : Nat), K < 2 ^ m → zn (zdiff J K) ≤ (12 * (2 ^ m - 1)) * zW.toNat := by
  intro m
  induction m with
  | zero =>
    intro _ J K hK
    obtain rfl : K = 0 := by omega
    have e : zdiff J 0 = (0, 0) := by
      unfold zdiff
      rw [Nat.add_zero, Zf_low (J := 0) (by decide), zq_zero]
      simp only [zmul, zscale, zsub, Int.mul_zero, Int.sub_zero, Int.zero_add, Int.mul_comm _ zW, Int.sub_self]
    rw [e]; decide
  | succ m ih =>
    intro hm J K hK
    have h2 : 2 ^ (m + 1) = 2 * 2 ^ m := by rw [Nat.pow_succ]; omega
    have hp : 0 < 2 ^ m := Nat.two_pow_pos _
    by_cases hlt : K < 2 ^ m
    · refine Nat.le_trans (ih (by omega) J K hlt) (Nat.mul_le_mul_right _ (by omega))
    · obtain ⟨k, rfl⟩ : ∃ k, K = k + 2 ^ m := ⟨K - 2 ^ m, by omega⟩
      have hk : k < 2 ^ m := by omega
      have i1 := ih (by omega) J k hk
      have p1 := zdiff_pow (m := m) (by omega) (J + k)
      have p2 := zdiff_pow (m := m) (by omega) k
      have st := congrArg zn (zdiff_step J k (2 ^ m))
      rw [zn_scale, zW_nat] at st
      have tri := zn_tri (zscale zW (zdiff (J + k) (2 ^ m))) (zmul (Zf (2 ^ m)) (zdiff J k)) (zmul (Zf J) (zdiff k (2 ^ m)))
      rw [← st, zn_scale, zW_nat] at tri
      have n1 := Nat.le_trans (zn_mul (Zf (2 ^ m)) (zdiff J k)) (Nat.mul_le_mul (zn_Zf (2 ^ m)) i1)
      have n2 := Nat.le_trans (zn_mul (Zf J) (zdiff k (2 ^ m))) (Nat.mul_le_mul (zn_Zf J) p2)
      have hW : 1361129467683753853853498429727072845824 = 4 * zW.toNat := by decide
      rw [hW] at p1 n2
      have hWp : 0 < zW.toNat := by decide
      generalize zW.toNat = W at *
      rw [h2]
      generalize 2 ^ m = g at *
      generalize zn (zdiff J (k + g)) = A at *
      generalize zn (zdiff (J + k) g) = B at *
      generalize zn (zmul (Zf g) (zdiff J k)) = C at *
      generalize zn (zmul (Zf J) (zdiff k g)) = D at *
      -- W A ≤ W B + C + D
      have b1 : W * B ≤ W * (4 * W) := Nat.mul_le_mul_left _ p1
      have hfin : W * A ≤ W * ((12 * (2 * g - 1)) * W) := by
        have e : W * ((12 * (2 * g - 1)) * W) = W * (4 * W) + 2 * W * (12 * (g - 1) * W) + 2 * W * (4 * W) := by
          have : 12 * (2 * g - 1) = 4 + 2 * (12 * (g - 1)) + 8 := by omega
          rw [this, Nat.add_mul, Nat.add_mul, Nat.mul_add, Nat.mul_add]
          congr 1
          · congr 1
            rw [Nat.mul_assoc 2 (12 * (g - 1)) W, Nat.mul_left_comm W 2, Nat.mul_assoc 2 W]
          · rw [show (8 : Nat) = 2 * 4 from rfl, Nat.mul_assoc 2 4 W, Nat.mul_left_comm W 2, Nat.mul_assoc 2 W]
        rw [e]
        omega
      exact Nat.le_of_mul_le_mul_left hfin hWp

/-- the product of two of the table's numbers lies near to the one at the sum of the places -/
theorem zdiff_near (J K : Nat) : zn (zdiff J K) ≤ 12288 * zW.toNat := by
  have h := zdiff_turn' J (K % 1024) (K / 1024)
  rw [Nat.mod_add_div] at h
  rw [h]
  exact Nat.le_trans (zdiff_all 10 (by decide) J (K % 1024) (Nat.mod_lt _ (by decide))) (Nat.mul_le_mul_right _ (by decide))
end Go.Proofs.Ytoeeceemoggffaa
