/- close of the reference's layer 14: a cell is shut. -/
import Derived.Test.YtoeeceemoggffaaJd
import Derived.Test.YtoeeceemoggffaaR1
namespace Go.Proofs.Ytoeeceemoggffaa
open Go.RowKit Go.Lib
set_option maxHeartbeats 3200000
set_option maxRecDepth 100000

def mixY (k : Nat) (f' f : Nat → Nat) : Nat → Nat := fun j => if j < k then f' j else f j

theorem close_walk {w0 : World} {T : Nat → Nat} {b o n M : Nat} {A : Option Addr} {capd : Nat} {ds : List (Int × Int)} {rv cv yv : Value} {C G : Nat → Nat} {S : Nat → Bool} {w : World}
    (h : Brf w0 T b o n M (.slice A ds.length capd) (bnD n ds) rv cv yv C G ds.length ds.length ds.length S (cfS n M ds S) (yfS n M ds S) w) (hD : Dirs w0 A ds) (ho : ∀ d ∈ ds, okD d = true) (hM : M = n * n) (h1 : 1 ≤ n) (h2 : n ≤ 64) (hds : ds.length ≤ 64) (x : Nat) (hx : x < M) (hS : S x = true) :
    Calls Try.prog 85 #[.pointer (some ⟨b, 0, none⟩), .int .i64 x, .complex .f64 0 0] w fun e w' => e = .returned (.tuple #[]) ∧
      Brf w0 T b o n M (.slice A ds.length capd) (bnD n ds) rv cv yv C G ds.length ds.length ds.length (shutC S x) (cfS n M ds (shutC S x)) (yfS n M ds (shutC S x)) w' := by
  have hM4 : M ≤ 4096 := by rw [hM]; exact Nat.mul_le_mul h2 h2
  have HD := Lib.hid hD
  have HO := Lib.hid ho
  have HM := Lib.hid hM
  have HSx := Lib.hid hS
  have c1 := h.str.c1
  have oc := h.opn.cell hx
  have of := h.opn.frozen x
  have hx' : (x : Int) < (M : Int) := by omega
  have HS0 : Hid (Brf w0 T b o n M (.slice A ds.length capd) (bnD n ds) rv cv yv C G ds.length ds.length ds.length (shutC S x) (mix 0 (cfS n M ds (shutC S x)) (cfS n M ds S)) (mixY 0 (yfS n M ds (shutC S x)) (yfS n M ds S)) (w.setCell ⟨o, x, none⟩ (.bool false))) := Lib.hid ((h.setO x false).as (fun j i _ _ => by rw [mix_zero]) (fun j _ => by unfold mixY; rw [if_neg (by omega)]))
  have c5 := HS0.out.str.c5
  clear h hD ho hM hS
  go_enter Try.func85, Try.ntmps85
  go_wp2
  go_loopw [6, 7] (fun i _ wr => ∃ k : Nat, k ≤ ds.length ∧ i = .int .i64 k ∧ Hid (Brf w0 T b o n M (.slice A ds.length capd) (bnD n ds) rv cv yv C G ds.length ds.length ds.length (shutC S x) (mix k (cfS n M ds (shutC S x)) (cfS n M ds S)) (mixY k (yfS n M ds (shutC S x)) (yfS n M ds S)) wr)) (fun i _ _ => ds.length - (intOf i).toNat)
  case atStart => exact ⟨0, Nat.zero_le _, rfl, HS0⟩
  case round =>
    clear HS0 c1 oc of c5
    obtain ⟨k, hk, rfl, HQ⟩ := hrel
    have c5 := HQ.out.str.c5
    by_cases hk1 : k < ds.length
    · have hk1' : (k : Int) < (ds.length : Int) := by omega
      have HL := Lib.hid (HQ.out.line HD.out HO.out HM.out h1 h2 k x hk1 hx)
      have hLb : lnD n ds k x < bnD n ds k := lineN_lt (n := n) (p := (dirAt ds k).1) (q := (dirAt ds k).2) HM.out (HO.out _ (dirAt_mem hk1)) hx
      have hb17 : bnD n ds k ≤ 2017 := binsN_le (p := (dirAt ds k).1) (q := (dirAt ds k).2) (HO.out _ (dirAt_mem hk1)) h2
      obtain ⟨L, hL⟩ : ∃ L, L = lnD n ds k x := ⟨_, rfl⟩
      rw [← hL] at HL hLb
      have HLe := Lib.hid hL
      have hcs : ∀ i, cfS n M ds (shutC S x) k i + (if lnD n ds k x = i then 1 else 0) = cfS n M ds S k i := fun i => cnt_shut HSx.out i hx
      obtain ⟨u, hu⟩ : ∃ u, u = cfS n M ds (shutC S x) k L := ⟨_, rfl⟩
      have hu1 : cfS n M ds S k L = u + 1 := by
        have := hcs L
        rw [if_pos hL.symm] at this
        rw [hu, this]
      have hu4 : u ≤ 4096 := by rw [hu]; have := cnt_le (lnD n ds k) (shutC S x) M L; show cnt _ _ _ _ ≤ _; omega
      have hy := ones_step (f := cfS n M ds S k) (g := cfS n M ds (shutC S x) k) hu1 hu.symm (fun i hi => by
        have := hcs i
        rw [if_neg (fun e => hi (by rw [hL, e]))] at this
        omega) hLb
      have hyl := ones_le (cfS n M ds S k) (bnD n ds k)
      obtain ⟨y0, hy0⟩ : ∃ y0, y0 = yfS n M ds S k := ⟨_, rfl⟩
      obtain ⟨y', hy'⟩ : ∃ y', y' = yfS n M ds (shutC S x) k := ⟨_, rfl⟩
      change yfS n M ds (shutC S x) k + _ = yfS n M ds S k + _ at hy
      change yfS n M ds S k ≤ _ at hyl
      rw [← hy0, ← hy'] at hy
      rw [← hy0] at hyl
      obtain ⟨bk, hbk⟩ : ∃ bk, bk = bnD n ds k := ⟨_, rfl⟩
      rw [← hbk] at hLb hb17 hyl
      have hLb' : (L : Int) < (bk : Int) := by omega
      have HU := Lib.hid hu
      have HU1 := Lib.hid hu1
      have HY0 := Lib.hid hy0
      have HY' := Lib.hid hy'
      have HBK := Lib.hid hbk
      have HCs := Lib.hid hcs
      obtain ⟨cb, cc, rfl, _⟩ := row_form HQ.out.own_c (by omega)
      obtain ⟨yb, yc, rfl, _⟩ := row_form HQ.out.own_y (by omega)
      obtain ⟨rb, rc, rfl, _⟩ := row_form HQ.out.own_r (by omega)
      clear hu hu1 hy0 hy' hbk hcs hL
      go_upto_region 5 with (go_at_call 112; refine (HL.out).mono ?_; rintro e w1 ⟨rfl, hb1⟩; have HB1 := Lib.hid (HQ.out.beyond hb1); clear hb1)
      have x3 := HB1.out.str.c3
      have x4 := HB1.out.str.c4
      have xcb := row_cell HB1.out.own_c (rowsV_get hk1)
      rw [← HBK.out] at xcb
      have xC := (HB1.out.cnt k hk1).cell (show L < bnD n ds k by rw [← HBK.out]; exact hLb)
      have e1 : mix k (cfS n M ds (shutC S x)) (cfS n M ds S) k L = u + 1 := by unfold mix; rw [if_neg (by omega)]; exact HU1.out
      rw [e1, Int.natCast_add, Int.natCast_one] at xC
      have xyb := row_cell HB1.out.own_y (starts_get hk1)
      have e2 : mixY k (yfS n M ds (shutC S x)) (yfS n M ds S) k = y0 := by unfold mixY; rw [if_neg (by omega)]; exact HY0.out.symm
      rw [e2] at xyb
      have xyf := HB1.out.own_y.frozenAt k
      clear e1 e2 c5
      have hwu : IntKind.i64.wrap (u : Int) = (u : Int) := IntWalk.i64_in _ (by omega)
      have HmC : Hid (∀ j i, j < ds.length → i < bnD n ds j → (if j = k ∧ i = L then u else mix k (cfS n M ds (shutC S x)) (cfS n M ds S) j i) = mix (k + 1) (cfS n M ds (shutC S x)) (cfS n M ds S) j i) := Lib.hid (fun j i _ _ => by
        by_cases e : j = k
        · subst e
          unfold mix
          rw [if_neg (show ¬ j < j by omega), if_pos (show j < j + 1 by omega)]
          by_cases e3 : i = L
          · rw [if_pos ⟨rfl, e3⟩, e3]; exact HU.out
          · rw [if_neg (fun h => e3 h.2)]
            have := HCs.out i
            rw [if_neg (fun h => e3 (by rw [HLe.out, h]))] at this
            omega
        · rw [if_neg (fun h => e h.1)]
          unfold mix
          by_cases e4 : j < k
          · rw [if_pos e4, if_pos (by omega)]
          · rw [if_neg e4, if_neg (by omega)])
      have HmY : Hid (∀ j, j < ds.length → (if j = k then y' else mixY k (yfS n M ds (shutC S x)) (yfS n M ds S) j) = mixY (k + 1) (yfS n M ds (shutC S x)) (yfS n M ds S) j) := Lib.hid (fun j _ => by
        unfold mixY
        by_cases e : j = k
        · subst e
          rw [if_pos rfl, if_pos (show j < j + 1 by omega)]; exact HY'.out
        · rw [if_neg e]
          by_cases e4 : j < k
          · rw [if_pos e4, if_pos (by omega)]
          · rw [if_neg e4, if_neg (by omega)])
      have hcase : u = 0 ∨ u = 1 ∨ 2 ≤ u := by omega
      rcases hcase with hc | hc | hc
      case' inl =>
        subst hc
        obtain ⟨z, rfl⟩ : ∃ z, y0 = z + 1 := ⟨y0 - 1, by simp at hy; omega⟩
        obtain rfl : y' = z := by simp at hy; omega
        rw [Int.natCast_add, Int.natCast_one] at xyb
        go_upto_region 7 with fail
        have hb2 := HB1.out.setY k y'
        obtain ⟨W2, hW2⟩ : ∃ W2, W2 = w1.setCell ⟨yb, k, none⟩ (.int .i64 (y' : Nat)) := ⟨_, rfl⟩
        rw [← hW2] at hb2 ⊢
        have z3 := hb2.str.c3
        have zcb := row_cell hb2.own_c (rowsV_get hk1)
        rw [← HBK.out] at zcb
        have zC := (hb2.cnt k hk1).cell (show L < bnD n ds k by rw [← HBK.out]; exact hLb)
        have zCf := (hb2.cnt k hk1).frozen L
        have e1 : mix k (cfS n M ds (shutC S x)) (cfS n M ds S) k L = 0 + 1 := by unfold mix; rw [if_neg (by omega)]; exact HU1.out
        rw [e1] at zC
        have Hb2 := Lib.hid (hb2.as (cf1 := mix k (cfS n M ds (shutC S x)) (cfS n M ds S)) (fun _ _ _ _ => rfl) HmY.out)
        clear hb2 hW2 e1 x3 x4 xcb xC xyb xyf
        go_upto_region 8 with fail
        have hb3 := Hb2.out.setC hk1 L 0
        obtain ⟨W, hW⟩ : ∃ W, W = W2.setCell ⟨C k, L, none⟩ (.int .i64 0) := ⟨_, rfl⟩
        rw [← hW]
        rw [show W2.setCell ⟨C k, L, none⟩ (.int .i64 ((0 : Nat) : Int)) = W from hW.symm] at hb3
        have w3 := hb3.str.c3
        have wcb := row_cell hb3.own_c (rowsV_get hk1)
        rw [← HBK.out] at wcb
        have wC := (hb3.cnt k hk1).cell (show L < bnD n ds k by rw [← HBK.out]; exact hLb)
        simp only [and_self, if_true, Int.natCast_zero] at wC
        have HW := Lib.hid (hb3.as HmC.out (fun _ _ => rfl))
        clear hb3 hW Hb2 z3 zcb zC zCf HB1 HQ
        go_upto_region 10 with fail
      case' inr.inl =>
        subst hc
        obtain rfl : y' = y0 + 1 := by simp at hy; omega
        have xCf := (HB1.out.cnt k hk1).frozen L
        go_upto_region 8 with fail
        have hb2 := HB1.out.setC hk1 L 1
        obtain ⟨W2, hW2⟩ : ∃ W2, W2 = w1.setCell ⟨C k, L, none⟩ (.int .i64 1) := ⟨_, rfl⟩
        rw [← hW2]
        rw [show w1.setCell ⟨C k, L, none⟩ (.int .i64 ((1 : Nat) : Int)) = W2 from hW2.symm] at hb2
        have w3 := hb2.str.c3
        have wcb := row_cell hb2.own_c (rowsV_get hk1)
        rw [← HBK.out] at wcb
        have wC := (hb2.cnt k hk1).cell (show L < bnD n ds k by rw [← HBK.out]; exact hLb)
        simp only [and_self, if_true, Int.natCast_one] at wC
        have w4 := hb2.str.c4
        have wyb := row_cell hb2.own_y (starts_get hk1)
        have e2 : mixY k (yfS n M ds (shutC S x)) (yfS n M ds S) k = y0 := by unfold mixY; rw [if_neg (by omega)]; exact HY0.out.symm
        rw [e2] at wyb
        have wyf := hb2.own_y.frozenAt k
        have Hb2 := Lib.hid (hb2.as HmC.out (fun _ _ => rfl))
        clear hb2 hW2 e2 x3 x4 xcb xC xyb xyf xCf
        go_upto_region 10 with fail
        have hb3 := Hb2.out.setY k (y0 + 1)
        rw [Int.natCast_add, Int.natCast_one] at hb3
        obtain ⟨W, hW⟩ : ∃ W, W = W2.setCell ⟨yb, k, none⟩ (.int .i64 ((y0 : Int) + 1)) := ⟨_, rfl⟩
        rw [← hW] at hb3 ⊢
        have HW := Lib.hid (hb3.as (cf1 := mix (k + 1) (cfS n M ds (shutC S x)) (cfS n M ds S)) (fun _ _ _ _ => rfl) HmY.out)
        clear hb3 hW Hb2 w3 wcb wC w4 wyb wyf HB1 HQ
      case' inr.inr =>
        have hu0 : u ≠ 0 := by omega
        have hu1 : u ≠ 1 := by omega
        have hv0 : ((u : Int) + 1 == 1) = false := by
          have : (u : Int) + 1 ≠ 1 := by omega
          simpa using this
        have hv1 : ((u : Int) == 1) = false := by
          have : (u : Int) ≠ 1 := by omega
          simpa using this
        rw [if_neg hu0, if_neg hu1] at hy
        obtain rfl : y' = y0 := hy
        have xCf := (HB1.out.cnt k hk1).frozen L
        go_upto_region 8 with fail
        have hb2 := HB1.out.setC hk1 L u
        obtain ⟨W, hW⟩ : ∃ W, W = w1.setCell ⟨C k, L, none⟩ (.int .i64 u) := ⟨_, rfl⟩
        rw [← hW] at hb2 ⊢
        have w3 := hb2.str.c3
        have wcb := row_cell hb2.own_c (rowsV_get hk1)
        rw [← HBK.out] at wcb
        have wC := (hb2.cnt k hk1).cell (show L < bnD n ds k by rw [← HBK.out]; exact hLb)
        simp only [and_self, if_true] at wC
        have e2 : mixY k (yfS n M ds (shutC S x)) (yfS n M ds S) k = y' := by unfold mixY; rw [if_neg (by omega)]; exact HY0.out.symm
        have HW := Lib.hid (hb2.as (yf1 := mixY (k + 1) (yfS n M ds (shutC S x)) (yfS n M ds S)) HmC.out (fun j hj => by
          have := HmY.out j hj
          rw [← this]
          by_cases e : j = k
          · rw [if_pos e, e]; exact e2
          · rw [if_neg e]))
        clear hb2 hW x3 x4 xcb xC xyb xyf xCf HB1 HQ e2
        go_upto_region 10 with fail
        clear w3 wcb wC
      all_goals (have y2 := HW.out.str.c2)
      all_goals (have yrb := row_cell HW.out.own_r (rowsV_get hk1))
      all_goals rw [← HBK.out] at yrb
      all_goals (have yR := (HW.out.rst k hk1).cell (show L < bnD n ds k by rw [← HBK.out]; exact hLb))
      all_goals (have yRf := (HW.out.rst k hk1).frozen L)
      all_goals (have HC1 := Lib.hid (fun W => still_of (rSub_walk 0 0 0 0 0 0 W (by decide +kernel) (by decide +kernel))))
      all_goals (have HC2 := Lib.hid (fun W => still_of (rPlain_walk 0 0 W)))
      all_goals rw [show cv (plain2 (0, 0)) = .complex .f64 0 0 from by unfold plain2; simp only [plain1_zero]] at HC2
      all_goals go_still_tail 22, (by kernel_rfl)
      all_goals still_call (HC1.out _)
      all_goals still_call (HC2.out _)
      all_goals still_step
      all_goals refine wpStill_nil ?_
      all_goals (change wpList _ _ _ _ _ W.drew)
      all_goals go_wp2_with fail
      all_goals go_roundw
      all_goals first
        | (simp [intOf]; omega)
        | exact ⟨k + 1, by omega, by go_num, Lib.hid (HW.out.drew.setR hk1 L)⟩
    · obtain rfl : k = ds.length := by omega
      have hk2 : decide ((ds.length : Int) < (ds.length : Int)) = false := by simp
      go_wp2
      exact bodyPost_end (v := .tuple #[]) (by simp [results, Try.results85, go_sem]) rfl ⟨rfl, HQ.out.as (fun j i hj _ => by unfold mix; rw [if_pos hj]) (fun j hj => by unfold mixY; rw [if_pos hj])⟩
end Go.Proofs.Ytoeeceemoggffaa
