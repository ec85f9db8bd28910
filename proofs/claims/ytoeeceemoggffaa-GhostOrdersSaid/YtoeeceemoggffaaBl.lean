/- ghost.Blind of the ghost of (-1, 1): it is not seen. -/
import Derived.Test.YtoeeceemoggffaaGb
namespace Go.Proofs.Ytoeeceemoggffaa
open Go.RowKit Go.Maps
set_option maxHeartbeats 3200000
set_option maxRecDepth 100000

/-- what a complex number reads as, in a map -/
def zc (c : Nat × Nat) : DataW Unit := .agg [.lit (.float .f64 c.1), .lit (.float .f64 c.2)]
def cElem : Value → Option (DataW Unit × List MemPlace)
  | .complex .f64 a b => some (zc (a, b), [])
  | _ => none
theorem zc_inj {c d : Nat × Nat} (h : zc c = zc d) : c = d := by
  simp only [zc, DataW.agg.injEq, List.cons.injEq, DataW.lit.injEq, Lit.float.injEq, true_and, and_true] at h
  exact Prod.ext h.1 h.2
theorem cElem_inv {v : Value} {z : DataW Unit × List MemPlace} (h : cElem v = some z) : ∃ c, v = cv c ∧ z = (zc c, []) := by
  unfold cElem at h
  split at h
  · cases h; exact ⟨_, rfl, rfl⟩
  · cases h

theorem undSum : Try.prog.underlying 139 = some (.map 3 23) := by kernel_rfl
theorem lawInt : Keyed Try.prog 3 := int_keyed undInt
theorem zeroC (w : World) : (zeroValue 23).run Try.prog w = .ok (.complex .f64 0 0) w := by kernel_rfl

theorem look_c {w : World} {b n : Nat} {D : DataW Unit} {key : Value} {kl : Lit} {s : Nat × Nat} (h : w.ownsMap Try.prog 3 cElem b n D) (hkey : keyOf Try.prog 3 key = some kl) (hD : D.atKey kl (zc (0, 0)) = zc s) :
    ∃ v, (Instr.lookup 139 (.map (some b)) key false).run Try.prog w = .ok v w ∧ v = cv s := by
  obtain ⟨v, ps, hrun, hR⟩ := h.lookup lawInt undSum (zeroC w) (zd := zc (0, 0)) (zp := []) rfl hkey
  refine ⟨v, hrun, ?_⟩
  obtain ⟨c, rfl, hz⟩ := cElem_inv hR
  rw [hD] at hz
  rw [zc_inj (Prod.mk.inj hz).1]

def DD : Nat → DataW Unit
  | 0 => .map []
  | 1 => (DataW.map []).put (.int .i64 0) (zc (0, 0))
  | 2 => ((DataW.map []).put (.int .i64 0) (zc (0, 0))).put (.int .i64 1) (zc (4607182418800017408, 0))
  | 3 => (((DataW.map []).put (.int .i64 0) (zc (0, 0))).put (.int .i64 1) (zc (4607182418800017408, 0))).put (.int .i64 1) (zc (0, 0))
  | _ => ((((DataW.map []).put (.int .i64 0) (zc (0, 0))).put (.int .i64 1) (zc (4607182418800017408, 0))).put (.int .i64 1) (zc (0, 0))).put (.int .i64 2) (zc (0, 0))

theorem all4 (kl : Lit) : (DD 4).atKey kl (zc (0, 0)) = zc (0, 0) := by
  show (((((DataW.map []).put (.int .i64 0) (zc (0, 0))).put (.int .i64 1) (zc (4607182418800017408, 0))).put (.int .i64 1) (zc (0, 0))).put (.int .i64 2) (zc (0, 0))).atKey kl (zc (0, 0)) = _
  by_cases h2 : kl = .int .i64 2
  · subst h2; rfl
  · rw [atKey_put_other h2]
    by_cases h1 : kl = .int .i64 1
    · subst h1; rfl
    · rw [atKey_put_other h1, atKey_put_other h1]
      by_cases h0 : kl = .int .i64 0
      · subst h0; rfl
      · rw [atKey_put_other h0]; rfl

theorem Blind_at (g cap : Nat) (w : World) (hg : g < w.heap.size) (hc0 : w.cell? ⟨g, 0, none⟩ = some (.complex .f64 0 0)) (hc1 : w.cell? ⟨g, 1, none⟩ = some (.complex .f64 4607182418800017408 0))
    (hc2 : w.cell? ⟨g, 2, none⟩ = some (.complex .f64 13830554455654793216 0)) (hc3 : w.cell? ⟨g, 3, none⟩ = some (.complex .f64 0 0)) :
    Calls Try.prog 62 #[ghV 2 2 g 4 cap, .agg #[.int .i64 (-1), .int .i64 1]] w fun e w' => e = .returned (.tuple #[.bool true, .int .i64 0]) ∧ Below w.heap.size w w' := by
  have hmm := @run_makeMap Try.prog
  have hcs : ∀ w1, Below w.heap.size w w1 → ∀ j, j < 2 * 2 → ∃ b, okW b ∧ w1.cell? ⟨g, j, none⟩ = some (.complex .f64 b 0) := by
    intro w1 hb j hj
    match j, hj with
    | 0, _ => exact ⟨0, .inl rfl, (hb.cell (p := ⟨g, 0, none⟩) hg).trans hc0⟩
    | 1, _ => exact ⟨_, .inr (.inl rfl), (hb.cell (p := ⟨g, 1, none⟩) hg).trans hc1⟩
    | 2, _ => exact ⟨_, .inr (.inr rfl), (hb.cell (p := ⟨g, 2, none⟩) hg).trans hc2⟩
    | 3, _ => exact ⟨0, .inl rfl, (hb.cell (p := ⟨g, 3, none⟩) hg).trans hc3⟩
  have HCs := Lib.hid hcs
  have H0 := Lib.hid hc0
  have H1 := Lib.hid hc1
  have H2 := Lib.hid hc2
  have H3 := Lib.hid hc3
  clear hcs hc0 hc1 hc2 hc3
  have hb0 : Below w.heap.size w ((w.alloc (.cells #[.int .i64 2, .int .i64 2, .slice (some ⟨g, 0, none⟩) 4 cap] 44)).alloc (.cells #[.int .i64 (-1), .int .i64 1] 51)) :=
    ((Below.refl _ _).alloc (Nat.le_refl _) _).alloc (by simp) _
  have HB0 := Lib.hid hb0
  clear hb0
  go_enter Try.func62, Try.ntmps62
  go_wp2_with fail
  refine (gCheck_ok g cap 2 2 _ (by decide) (by decide) (by simp; omega) (HCs.out _ HB0.out)).mono ?_; rintro e w1 ⟨rfl, hb1⟩
  have hl1 := hb1.size
  simp at hl1
  have g0 := (hb1.cell (p := ⟨w.heap.size, 0, none⟩) (by simp <;> omega)).trans (show _ = some (Value.int IntKind.i64 2) by simp [go_sem])
  have g2 := (hb1.cell (p := ⟨w.heap.size, 2, none⟩) (by simp <;> omega)).trans (show _ = some (Value.slice (some ⟨g, 0, none⟩) 4 cap) by simp [go_sem])
  have d0 := (hb1.cell (p := ⟨w.heap.size + 1, 0, none⟩) (by simp <;> omega)).trans (show _ = some (Value.int IntKind.i64 (-1)) by simp [go_sem])
  have d1 := (hb1.cell (p := ⟨w.heap.size + 1, 1, none⟩) (by simp <;> omega)).trans (show _ = some (Value.int IntKind.i64 1) by simp [go_sem])
  have HB1 := Lib.hid (HB0.out.trans (hb1.mono (by simp <;> omega)))
  clear hb1
  go_wp2_with fail
  refine (Check_walk (-1) 1 _ (by unfold I64; decide) (by unfold I64; decide)).mono ?_; rintro e w2 ⟨rfl, hb2⟩
  have hok : errD (-1, 1) = 0 := by decide
  rw [hok]
  have hl2 := hb2.size
  have G0 := Lib.hid ((hb2.cell (p := ⟨w.heap.size, 0, none⟩) (by simp <;> omega)).trans g0)
  have g2' := (hb2.cell (p := ⟨w.heap.size, 2, none⟩) (by simp <;> omega)).trans g2
  have D0 := Lib.hid ((hb2.cell (p := ⟨w.heap.size + 1, 0, none⟩) (by simp <;> omega)).trans d0)
  have D1 := Lib.hid ((hb2.cell (p := ⟨w.heap.size + 1, 1, none⟩) (by simp <;> omega)).trans d1)
  have HB2 := Lib.hid (HB1.out.trans (hb2.mono (by omega)))
  have g2m := (((Below.refl w2.heap.size w2).alloc (Nat.le_refl _) (.map #[] 0)).cell (p := ⟨w.heap.size, 2, none⟩) (by simp <;> omega)).trans g2'
  clear g0 g2 d0 d1 hb2 hok g2'
  go_wp2
  clear g2m
  go_loopw [29] (fun i wr => ∃ k : Nat, k ≤ 4 ∧ i = .int .i64 k ∧ wr.ownsMap Try.prog 3 cElem w2.heap.size k (DD k) ∧ Below w2.heap.size w2 wr) (fun i _ => 4 - (intOf i).toNat)
  case atStart => exact ⟨0, by omega, rfl, World.ownsMap_made _ _ _ _, (Below.refl _ _).alloc (Nat.le_refl _) _⟩
  case round =>
    obtain ⟨k, hk, rfl, hown, hb⟩ := hrel
    have HM := Lib.hid hown
    have HB := Lib.hid hb
    have g0 := (hb.cell (p := ⟨w.heap.size, 0, none⟩) (by simp <;> omega)).trans G0.out
    have d0 := (hb.cell (p := ⟨w.heap.size + 1, 0, none⟩) (by simp <;> omega)).trans D0.out
    have d1 := (hb.cell (p := ⟨w.heap.size + 1, 1, none⟩) (by simp <;> omega)).trans D1.out
    have hc0 := ((HB2.out.trans (hb.mono (by omega))).cell (p := ⟨g, 0, none⟩) hg).trans H0.out
    have hc1 := ((HB2.out.trans (hb.mono (by omega))).cell (p := ⟨g, 1, none⟩) hg).trans H1.out
    have hc2 := ((HB2.out.trans (hb.mono (by omega))).cell (p := ⟨g, 2, none⟩) hg).trans H2.out
    have hc3 := ((HB2.out.trans (hb.mono (by omega))).cell (p := ⟨g, 3, none⟩) hg).trans H3.out
    clear hown hb
    match k, hk with
    | 0, _ =>
      have c := hc0
      have HK := Lib.hid (keyOf_int_mk (P := Try.prog) (k := 3) undInt (q := .i64) (a := 0) (by decide))
      have HA := Lib.hid (fun W => Add_walk 0 0 0 0 0 0 W (by decide +kernel) (by decide +kernel))
      have hD : (DD 0).atKey (.int .i64 0) (zc (0, 0)) = zc (0, 0) := by rfl
      have HDk := Lib.hid hD
      clear hD hc0 hc1 hc2 hc3
      go_wp2
      go_quiet (fail)
      have hom := ownsMap_below HM.out (below_drewN (Below.refl (w2.heap.size + 1) wr) nq) (Nat.lt_succ_self _)
      obtain ⟨v, hrun, hR⟩ := look_c hom HK.out (s := (0, 0)) HDk.out
      subst hR
      have HOm := Lib.hid hom
      have HBz := Lib.hid (below_drewN HB.out nq)
      clear hom
      generalize wr.drewN nq = wz at *
      go_wp2_with fail
      refine (HA.out _).mono ?_; rintro e w3 ⟨rfl, rfl⟩
      go_wp2_with (first
        | (at_mapUpdate; refine wpList_mapUpdate_own _ rfl _ _ _ 139 rfl 3 23 lawInt undSum cElem w2.heap.size 0 _ rfl HOm.out (by decide) _ _ _ rfl rfl HK.out _ [] rfl ?_; intro w3 hown3 hgrow3)
        | go_in)
      have hb3 := HBz.out.grown hgrow3 HBz.out.size (fun j hj => by cases hj; exact Nat.le_refl _)
      have hs3 := hgrow3.size
      go_roundw
      case rel => exact ⟨0 + 1, by omega, by go_num, hown3, hb3⟩
      case measure => simp [intOf]
    | 1, _ =>
      have c := hc1
      have HK := Lib.hid (keyOf_int_mk (P := Try.prog) (k := 3) undInt (q := .i64) (a := 1) (by decide))
      have HA := Lib.hid (fun W => Add_walk 0 0 4607182418800017408 0 4607182418800017408 0 W (by decide +kernel) (by decide +kernel))
      have hD : (DD 1).atKey (.int .i64 1) (zc (0, 0)) = zc (0, 0) := by rfl
      have HDk := Lib.hid hD
      clear hD hc0 hc1 hc2 hc3
      go_wp2
      go_quiet (fail)
      have hom := ownsMap_below HM.out (below_drewN (Below.refl (w2.heap.size + 1) wr) nq) (Nat.lt_succ_self _)
      obtain ⟨v, hrun, hR⟩ := look_c hom HK.out (s := (0, 0)) HDk.out
      subst hR
      have HOm := Lib.hid hom
      have HBz := Lib.hid (below_drewN HB.out nq)
      clear hom
      generalize wr.drewN nq = wz at *
      go_wp2_with fail
      refine (HA.out _).mono ?_; rintro e w3 ⟨rfl, rfl⟩
      go_wp2_with (first
        | (at_mapUpdate; refine wpList_mapUpdate_own _ rfl _ _ _ 139 rfl 3 23 lawInt undSum cElem w2.heap.size 1 _ rfl HOm.out (by decide) _ _ _ rfl rfl HK.out _ [] rfl ?_; intro w3 hown3 hgrow3)
        | go_in)
      have hb3 := HBz.out.grown hgrow3 HBz.out.size (fun j hj => by cases hj; exact Nat.le_refl _)
      have hs3 := hgrow3.size
      go_roundw
      case rel => exact ⟨1 + 1, by omega, by go_num, hown3, hb3⟩
      case measure => simp [intOf]
    | 2, _ =>
      have c := hc2
      have HK := Lib.hid (keyOf_int_mk (P := Try.prog) (k := 3) undInt (q := .i64) (a := 1) (by decide))
      have HA := Lib.hid (fun W => Add_walk 4607182418800017408 0 13830554455654793216 0 0 0 W (by decide +kernel) (by decide +kernel))
      have hD : (DD 2).atKey (.int .i64 1) (zc (0, 0)) = zc (4607182418800017408, 0) := by rfl
      have HDk := Lib.hid hD
      clear hD hc0 hc1 hc2 hc3
      go_wp2
      go_quiet (fail)
      have hom := ownsMap_below HM.out (below_drewN (Below.refl (w2.heap.size + 1) wr) nq) (Nat.lt_succ_self _)
      obtain ⟨v, hrun, hR⟩ := look_c hom HK.out (s := (4607182418800017408, 0)) HDk.out
      subst hR
      have HOm := Lib.hid hom
      have HBz := Lib.hid (below_drewN HB.out nq)
      clear hom
      generalize wr.drewN nq = wz at *
      go_wp2_with fail
      refine (HA.out _).mono ?_; rintro e w3 ⟨rfl, rfl⟩
      go_wp2_with (first
        | (at_mapUpdate; refine wpList_mapUpdate_own _ rfl _ _ _ 139 rfl 3 23 lawInt undSum cElem w2.heap.size 2 _ rfl HOm.out (by decide) _ _ _ rfl rfl HK.out _ [] rfl ?_; intro w3 hown3 hgrow3)
        | go_in)
      have hb3 := HBz.out.grown hgrow3 HBz.out.size (fun j hj => by cases hj; exact Nat.le_refl _)
      have hs3 := hgrow3.size
      go_roundw
      case rel => exact ⟨2 + 1, by omega, by go_num, hown3, hb3⟩
      case measure => simp [intOf]
    | 3, _ =>
      have c := hc3
      have HK := Lib.hid (keyOf_int_mk (P := Try.prog) (k := 3) undInt (q := .i64) (a := 2) (by decide))
      have HA := Lib.hid (fun W => Add_walk 0 0 0 0 0 0 W (by decide +kernel) (by decide +kernel))
      have hD : (DD 3).atKey (.int .i64 2) (zc (0, 0)) = zc (0, 0) := by rfl
      have HDk := Lib.hid hD
      clear hD hc0 hc1 hc2 hc3
      go_wp2
      go_quiet (fail)
      have hom := ownsMap_below HM.out (below_drewN (Below.refl (w2.heap.size + 1) wr) nq) (Nat.lt_succ_self _)
      obtain ⟨v, hrun, hR⟩ := look_c hom HK.out (s := (0, 0)) HDk.out
      subst hR
      have HOm := Lib.hid hom
      have HBz := Lib.hid (below_drewN HB.out nq)
      clear hom
      generalize wr.drewN nq = wz at *
      go_wp2_with fail
      refine (HA.out _).mono ?_; rintro e w3 ⟨rfl, rfl⟩
      go_wp2_with (first
        | (at_mapUpdate; refine wpList_mapUpdate_own _ rfl _ _ _ 139 rfl 3 23 lawInt undSum cElem w2.heap.size 3 _ rfl HOm.out (by decide) _ _ _ rfl rfl HK.out _ [] rfl ?_; intro w3 hown3 hgrow3)
        | go_in)
      have hb3 := HBz.out.grown hgrow3 HBz.out.size (fun j hj => by cases hj; exact Nat.le_refl _)
      have hs3 := hgrow3.size
      go_roundw
      case rel => exact ⟨3 + 1, by omega, by go_num, hown3, hb3⟩
      case measure => simp [intOf]
    | 4, _ =>
      clear hc0 hc1 hc2 hc3 g0 d0 d1
      have hown := HM.out
      have hszr : w2.heap.size < wr.heap.size := hown.lt
      obtain ⟨R0, hR0⟩ : ∃ R0, R0 = wr.heap.size := ⟨_, rfl⟩
      go_wp2_with (first
        | (at_range; refine wpList_range_own _ rfl _ 139 rfl 3 23 lawInt undSum _ w2.heap.size 4 (DD 4) rfl hown ?_; intro w0 hrg0 hg0 hs0)
        | go_in)
      go_frame
      rw [← hR0] at hrg0 hs0 hszr ⊢
      rw [show ((4 : Nat) : Int) = 4 from rfl]
      have HB4 := Lib.hid (HB.out.grown hg0 HB.out.size (fun j hj => by cases hj))
      clear hR0 hg0 hown
      go_loopw [12] (fun b wz => b = .bool true ∧ ∃ (left : Lit → Bool) (cnt : Nat), wz.ranges Try.prog 3 cElem w2.heap.size R0 4 (DD 4) left cnt ∧ Below w2.heap.size w2 wz) (fun _ wz => wz.rangeLeft w2.heap.size R0)
      case atStart => exact ⟨rfl, _, _, hrg0, HB4.out⟩
      case round =>
        obtain ⟨rfl, left, cnt, hrg, hbw⟩ := hrel
        have HBw := Lib.hid hbw
        have hszw := hbw.size
        clear hbw
        go_wp2_with (first
          | (at_next; refine wpList_next_ranges (α := Int) (β := Nat × Nat) _ rfl _ rfl 3 lawInt cElem (Value.int .i64) cv (fun key kl h => by obtain ⟨x, e, _⟩ := Maps.keyOf_int_inv undInt h; exact ⟨x, e⟩) (fun v y h => by obtain ⟨c, e, _⟩ := cElem_inv h; exact ⟨c, e⟩) w2.heap.size R0 4 (DD 4) _ _ rfl hrg ?_ ?_)
          | go_in)
        · intro _ _
          go_wp2
          go_ret2
          exact ⟨rfl, HB2.out.trans (HBw.out.mono (by omega))⟩
        · intro x c1 c2 kl y1 y2 w3 cnt3 hkey hlk hv hat hrg3 hlt3 hgr3 hs3 hen
          have hc : (c1, c2) = ((0, 0) : Nat × Nat) := by
            have h1 : (DD 4).atKey kl (zc (0, 0)) = y1 := hat (zc (0, 0))
            rw [all4] at h1
            have h2 : cElem (cv (c1, c2)) = some (y1, y2) := hv
            simp only [cElem, Option.some.injEq, Prod.mk.injEq] at h2
            rw [← h2.1] at h1
            exact (zc_inj h1).symm
          have e1 : c1 = 0 := congrArg Prod.fst hc
          have e2 : c2 = 0 := congrArg Prod.snd hc
          subst e1 e2
          clear hc
          have hb3 := HBw.out.grown hgr3 hszw (fun j hj => by cases hj; omega)
          have HB3 := Lib.hid hb3
          have HR3 := Lib.hid hrg3
          have HR := Lib.hid hrg
          clear hkey hlk hv hat hb3 hrg hrg3 hgr3
          go_wp2
          go_roundw
          case rel => exact ⟨rfl, _, _, HR3.out, HB3.out⟩
          case measure => rw [HR3.out.left_eq, HR.out.left_eq]; exact hlt3
end Go.Proofs.Ytoeeceemoggffaa
