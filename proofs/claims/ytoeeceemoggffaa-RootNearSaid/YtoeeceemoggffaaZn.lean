/- The roots lie near to the table's numbers; words' values under signs; order by values. Plain arithmetic. -/
import Derived.Test.YtoeeceemoggffaaZc
namespace Go.Proofs.Ytoeeceemoggffaa
open Ieee

theorem sign_bit (x : Nat) : (x / 2 ^ 63 % 2 == 1) = x.testBit 63 := by
  rw [Nat.testBit_eq_decide_div_mod_eq]
  by_cases h : x / 2 ^ 63 % 2 = 1 <;> simp [h]

theorem sv_fneg (x : Nat) : sv (fneg x) = -sv x := by
  have h63 : (fneg x).testBit 63 = !x.testBit 63 := by
    unfold fneg
    rw [Nat.testBit_xor]
    have : (9223372036854775808 : Nat).testBit 63 = true := by decide
    rw [this]; simp
  have hm : fneg x % 2 ^ 63 = x % 2 ^ 63 := fneg_mod x
  unfold sv
  rw [sign_bit, sign_bit, h63, hm]
  cases x.testBit 63 <;> simp

theorem Fin_fneg {x : Nat} (h : Fin x) : Fin (fneg x) := by
  unfold Fin at *
  have hm : fneg x % 2 ^ 63 = x % 2 ^ 63 := fneg_mod x
  rw [hm]; exact h

theorem sv_nought {x : Nat} (h : x % 2 ^ 63 = 0) : sv x = 0 := by
  unfold sv
  rw [h]
  have : mg 0 = 0 := by decide
  rw [this]; simp

theorem sv_plain {x : Nat} (hx : x < 18446744073709551616) : sv (plain1 x) = sv x := by
  unfold plain1
  split
  · rename_i h
    rw [feq_zero hx, decide_eq_true_eq] at h
    rw [sv_nought h]; exact sv_nought (by decide)
  · rfl

theorem Fin_plain {x : Nat} (h : Fin x) : Fin (plain1 x) := by
  unfold plain1; split
  · unfold Fin; decide
  · exact h

theorem near_first (S : Nat) (h : S = 1074) {k : Nat} (hk : k ≤ 512) : Near S ((EL 12).getD k (0, 0)) (zl.getD k (0, 0)) := by
  obtain ⟨L, hL⟩ : ∃ L, L = EL 12 := ⟨_, rfl⟩
  have hc := near_check S h L hL
  have l1 : L.length = 513 := by have := EL_len (t := 12) (by decide); rw [← hL] at this; exact this
  rw [← hL]
  rw [List.all_eq_true] at hc
  have g1 : L[k]? = some (L.getD k (0, 0)) := by rw [List.getD_eq_getElem?_getD, List.getElem?_eq_getElem (by omega)]; rfl
  have g2 : zl[k]? = some (zl.getD k (0, 0)) := by rw [List.getD_eq_getElem?_getD, List.getElem?_eq_getElem (by rw [zl_length]; omega)]; rfl
  have := hc (L.getD k (0, 0), zl.getD k (0, 0)) (by
    apply List.mem_of_getElem? (i := k)
    rw [List.getElem?_zip_eq_some]
    exact ⟨g1, g2⟩)
  unfold nearB at this
  simp only [Bool.and_eq_true, decide_eq_true_eq] at this
  exact ⟨this.1.1.1, this.1.1.2, this.1.2, this.2⟩

theorem Near.swap {S : Nat} {a : Nat × Nat} {z : Z2} (h : Near S a z) : Near S (swap1 a) (zswap z) := ⟨h.fin2, h.fin1, h.near2, h.near1⟩

theorem Near.tn {S : Nat} {a : Nat × Nat} {z : Z2} (h : Near S a z) (hw : Wd a) : Near S (tn a) (zturn z) := by
  refine ⟨Fin_plain (Fin_fneg h.fin2), Fin_plain h.fin1, ?_, ?_⟩
  · show (sv (plain1 (fneg a.2)) - -z.2 * _).natAbs ≤ _
    rw [sv_plain (fneg_lt hw.2), sv_fneg, Int.neg_mul, ← Int.natAbs_neg]
    have := h.near2
    rw [show -(-sv a.2 - -(z.2 * ((2 ^ (S - 128) : Nat) : Int))) = sv a.2 - z.2 * ((2 ^ (S - 128) : Nat) : Int) by omega]
    exact this
  · show (sv (plain1 a.1) - z.1 * _).natAbs ≤ _
    rw [sv_plain hw.1]
    exact h.near1

theorem near_quarter (S : Nat) (h : S = 1074) {k : Nat} (hk : k < 1024) : Near S (quarterL 4096 k (EL 12)) (zq.getD k (0, 0)) := by
  unfold quarterL
  by_cases h5 : k ≤ 4096 / 8
  · rw [if_pos h5]
    have e : zq.getD k (0, 0) = zl.getD k (0, 0) := by
      unfold zq
      rw [List.getD_eq_getElem?_getD, List.getElem?_append_left (by rw [zl_length]; omega), List.getD_eq_getElem?_getD]
    rw [e]
    exact near_first S h (by omega)
  · rw [if_neg h5]
    have hl : ((zl.drop 1).dropLast).length = 511 := by rw [List.length_dropLast, List.length_drop, zl_length]
    have e : zq.getD k (0, 0) = zswap (zl.getD (1024 - k) (0, 0)) := by
      unfold zq
      rw [List.getD_eq_getElem?_getD, List.getElem?_append_right (by rw [zl_length]; omega), zl_length, List.getElem?_map, List.getElem?_reverse (by rw [hl]; omega), hl, List.getElem?_dropLast, List.length_drop, zl_length, if_pos (by omega), List.getElem?_drop, List.getD_eq_getElem?_getD, show 1 + (511 - 1 - (k - 513)) = 1024 - k by omega]
      rw [List.getElem?_eq_getElem (by rw [zl_length]; omega)]
      rfl
    rw [e]
    exact (near_first S h (by omega)).swap

theorem near_R (S : Nat) (h : S = 1074) (J : Nat) : Near S (R 12 J) (Zf J) := by
  have key : ∀ q a z, Wd a → Near S a z → Near S (turns q a) (zturns q z) := fun q a z hw hn => by
    induction q with
    | zero => exact hn
    | succ q ih => exact ih.tn (hw.turns q)
  have e : R 12 J = turns (J / 1024) (quarterL 4096 (J % 1024) (EL 12)) := by
    unfold R atL
    rw [if_neg (by decide)]
  rw [e]
  unfold Zf
  exact key _ _ _ (Wd_quarter (EL_Wd (by decide)) _ _) (near_quarter S h (Nat.mod_lt _ (by decide)))

/-- order is the order of values -/
theorem order_sv {x y : Nat} (hx : Fin x) (hy : Fin y) : double.order x y = some (compare (sv x) (sv y)) := by
  obtain ⟨s, m, i, rx, hi, ex⟩ := read_fin hx
  obtain ⟨t, n, j, ry, hj, ey⟩ := read_fin hy
  show Datum.order (double.read x) (double.read y) = _
  rw [rx, ry, ex, ey]
  obtain ⟨b, hb⟩ : ∃ b, b = min i j := ⟨_, rfl⟩
  have e1 : (i + 1074).toNat = (i - b).toNat + (b + 1074).toNat := by omega
  have e2 : (j + 1074).toNat = (j - b).toNat + (b + 1074).toNat := by omega
  rw [e1, e2, signed_up, signed_up]
  show some (compare (signed s m (i - min i j).toNat) (signed t n (j - min i j).toNat)) = _
  rw [← hb]
  have hp : (0 : Int) < ((2 ^ (b + 1074).toNat : Nat) : Int) := by have := Nat.two_pow_pos (b + 1074).toNat; omega
  generalize ((2 ^ (b + 1074).toNat : Nat) : Int) = g at *
  generalize signed s m (i - b).toNat = A
  generalize signed t n (j - b).toNat = B
  congr 1
  rcases Int.lt_trichotomy A B with h | h | h
  · rw [(Int.compare_eq_lt).2 h, (Int.compare_eq_lt).2 (Int.mul_lt_mul_of_pos_right h hp)]
  · subst h; rw [(Int.compare_eq_eq).2 rfl, (Int.compare_eq_eq).2 rfl]
  · rw [(Int.compare_eq_gt).2 h, (Int.compare_eq_gt).2 (Int.mul_lt_mul_of_pos_right h hp)]
end Go.Proofs.Ytoeeceemoggffaa
