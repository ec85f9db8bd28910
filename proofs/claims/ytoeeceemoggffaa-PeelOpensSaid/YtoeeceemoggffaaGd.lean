/- ghost.doubled by its contract. -/
import Derived.Test.YtoeeceemoggffaaKz
import Derived.Test.YtoeeceemoggffaaGg
import Derived.Test.YtoeeceemoggffaaTb
import Derived.Deep.DeepCutAuto
import Derived.BigRegion
import Derived.StillTailTactics
namespace Go.Proofs.Ytoeeceemoggffaa
open Go.RowKit
set_option maxHeartbeats 3200000
set_option maxRecDepth 100000

/-- a ghost as a value -/
abbrev ghV (X Y g N cap : Nat) : Value := .agg #[.int .i64 X, .int .i64 Y, .slice (some ⟨g, 0, none⟩) N cap]

theorem pair_at0 (a b : Int) (W : World) : (Instr.index 141 (.agg #[.int .i64 a, .int .i64 b]) (.int .i64 0)).run Try.prog W = .ok (.int .i64 a) W := by kernel_rfl
theorem pair_at1 (a b : Int) (W : World) : (Instr.index 141 (.agg #[.int .i64 a, .int .i64 b]) (.int .i64 1)).run Try.prog W = .ok (.int .i64 b) W := by kernel_rfl

theorem still_of {P : Program} {f : FuncId} {args : Array Value} {w : World} {v : Value} (h : Calls P f args w fun e w' => e = .returned v ∧ w = w') : Calls P f args w fun e w'' => e = .returned v ∧ w'' = w :=
  h.mono fun _ _ h => ⟨h.1, h.2.symm⟩

theorem wrap_place {pm X W i : Nat} (h1 : pm ≤ 2000) (h2 : X ≤ 64) (h3 : i ≤ 4096) : wrap64 (wrap64 ((pm : Int) + wrap64 (wrap64 ((i : Int) / (W : Int)) * (X : Int))) + (i : Int) % (W : Int)) = ((pm + i / W * X + i % W : Nat) : Int) := by
  have e1 : ((i : Int) / (W : Int)) = ((i / W : Nat) : Int) := (Int.natCast_ediv i W).symm
  have e2 : ((i : Int) % (W : Int)) = ((i % W : Nat) : Int) := (Int.natCast_emod i W).symm
  have b1 : i / W ≤ 4096 := Nat.le_trans (Nat.div_le_self _ _) h3
  have b2 : i % W ≤ 4096 := Nat.le_trans (Nat.mod_le _ _) h3
  have b3 : i / W * X ≤ 4096 * 64 := Nat.mul_le_mul b1 h2
  rw [e1, e2]
  have e3 : (((i / W : Nat) : Int) * (X : Int)) = ((i / W * X : Nat) : Int) := (Int.natCast_mul _ _).symm
  have B1 : -9223372036854775808 ≤ ((i / W : Nat) : Int) ∧ ((i / W : Nat) : Int) ≤ 9223372036854775807 := by generalize i / W = z at *; omega
  rw [IntWalk.wrap64_in _ B1, e3]
  clear B1 e1 e2 e3
  generalize i / W * X = a at *
  generalize i % W = c at *
  have B2 : -9223372036854775808 ≤ (a : Int) ∧ (a : Int) ≤ 9223372036854775807 := by omega
  have B3 : -9223372036854775808 ≤ (pm : Int) + (a : Int) ∧ (pm : Int) + (a : Int) ≤ 9223372036854775807 := by omega
  have B4 : -9223372036854775808 ≤ (pm : Int) + (a : Int) + (c : Int) ∧ (pm : Int) + (a : Int) + (c : Int) ≤ 9223372036854775807 := by omega
  rw [IntWalk.wrap64_in _ B2, IntWalk.wrap64_in _ B3, IntWalk.wrap64_in _ B4]
  rw [Int.natCast_add, Int.natCast_add]

theorem place_lt {q0 X Y W H pp i : Nat} (h1 : W + pp ≤ X) (h2 : H + q0 ≤ Y) (hW : 0 < W) (hi : i < W * H) : q0 * X + pp + i / W * X + i % W < X * Y := by
  have hl : i % W < W := Nat.mod_lt _ hW
  have hd : i / W < H := Nat.div_lt_of_lt_mul hi
  have h3 : (i / W + q0 + 1) * X ≤ Y * X := Nat.mul_le_mul_right _ (by omega)
  rw [Nat.add_mul, Nat.add_mul, Nat.mul_comm Y X] at h3
  omega

theorem plain1_zero : plain1 0 = 0 := by decide +kernel

theorem grown_store {a w wz : World} {g : Nat} (h : a.grownBy w (some g)) (hd : Drawn w wz) (j : Nat) (u : Value) : a.grownBy (wz.setCell ⟨g, j, none⟩ u) (some g) := by
  have hb := hd.below w.heap.size
  refine ⟨hb.os.trans h.os, hb.tape.trans h.tape, hb.output.trans h.output, ?_, fun k hk hne => ?_⟩
  · simp only [World.setCell, Array.size_modify]
    exact Nat.le_trans h.size hb.size
  · rw [Below.heap_setCell _ _ _ _ (by simpa using hne)]
    exact (hb.block k (Nat.lt_of_lt_of_le hk h.size)).trans (h.block k hk hne)

/-- three values lie at b, and may be written -/
structure Three (b : Nat) (x y z : Value) (w : World) : Prop where
  lt : b < w.heap.size
  c0 : w.cell? ⟨b, 0, none⟩ = some x
  c1 : w.cell? ⟨b, 1, none⟩ = some y
  c2 : w.cell? ⟨b, 2, none⟩ = some z
  f0 : w.frozen? ⟨b, 0, none⟩ = false
  f1 : w.frozen? ⟨b, 1, none⟩ = false
  f2 : w.frozen? ⟨b, 2, none⟩ = false

theorem Three.later {b B : Nat} {x y z : Value} {w w' : World} (h : Three b x y z w) (hb : Below B w w') (hB : b < B) : Three b x y z w' :=
  ⟨Nat.lt_of_lt_of_le h.lt hb.size, (hb.cell (p := ⟨b, 0, none⟩) hB).trans h.c0, (hb.cell (p := ⟨b, 1, none⟩) hB).trans h.c1, (hb.cell (p := ⟨b, 2, none⟩) hB).trans h.c2, (hb.frozen (p := ⟨b, 0, none⟩) hB).trans h.f0, (hb.frozen (p := ⟨b, 1, none⟩) hB).trans h.f1, (hb.frozen (p := ⟨b, 2, none⟩) hB).trans h.f2⟩

theorem Three.made (w : World) (e : TypeId) (x y z : Value) : Three w.heap.size x y z (w.alloc (.cells #[x, y, z] e)) :=
  ⟨by simp, new_cell _ _ _ 0, new_cell _ _ _ 1, new_cell _ _ _ 2, new_free _ _ _ 0, new_free _ _ _ 1, new_free _ _ _ 2⟩

theorem Three.set {b : Nat} {x y z : Value} {w : World} (h : Three b x y z w) (u v t : Value) : Three b u v t (((w.setCell ⟨b, 0, none⟩ u).setCell ⟨b, 1, none⟩ v).setCell ⟨b, 2, none⟩ t) := by
  obtain ⟨h1, h2, h3, h4, h5, h6, h7⟩ := h
  refine ⟨by simpa [World.setCell] using h1, ?_, ?_, ?_, ?_, ?_, ?_⟩ <;> simp [go_sem, h2, h3, h4, h5, h6, h7]

theorem Three.grown {b k : Nat} {x y z : Value} {w w' : World} (h : Three b x y z w) (hg : w.grownBy w' (some k)) (hne : b ≠ k) : Three b x y z w' := by
  have e : w'.heap[b]? = w.heap[b]? := hg.block b h.lt (by simpa using hne)
  exact ⟨Nat.lt_of_lt_of_le h.lt hg.size, (World.cell?_of_block (a := ⟨b, 0, none⟩) e).trans h.c0, (World.cell?_of_block (a := ⟨b, 1, none⟩) e).trans h.c1, (World.cell?_of_block (a := ⟨b, 2, none⟩) e).trans h.c2,
    (World.frozen?_of_block (a := ⟨b, 0, none⟩) e).trans h.f0, (World.frozen?_of_block (a := ⟨b, 1, none⟩) e).trans h.f1, (World.frozen?_of_block (a := ⟨b, 2, none⟩) e).trans h.f2⟩

theorem Own.other {B : Nat} {e : TypeId} {w0 w : World} {g n cap : Nat} {xs : List Value} (h : Own B e w0 w (.slice (some ⟨g, 0, none⟩) n cap) xs) {k : Nat} (hk : g ≠ k) (hB : B ≤ k) (j : Nat) (u : Value) : Own B e w0 (w.setCell ⟨k, j, none⟩ u) (.slice (some ⟨g, 0, none⟩) n cap) xs := by
  refine ⟨⟨h.own.1, ?_⟩, h.below.setCell hB u, by have := h.base; simpa [World.setCell] using this⟩
  rcases h.own.2 with hn | ⟨g', cap', cur, he, hb, hg, rest⟩
  · exact .inl hn
  · refine .inr ⟨g', cap', cur, he, hb, ?_, rest⟩
    have hgg : g = g' := by
      simp only [Value.slice.injEq, Option.some.injEq, Addr.mk.injEq] at he
      exact he.1.1
    rw [Below.heap_setCell _ _ _ _ (by rw [← hgg]; exact hk)]
    exact hg

/-- a row of zeros and a ghost that leads to it, in new memory -/
structure Fresh (w1 wx : World) (g h X Y N : Nat) : Prop where
  ne : g ≠ h
  lo : w1.heap.size ≤ h
  hi : h < wx.heap.size
  own : Own w1.heap.size 23 w1 wx (.slice (some ⟨g, 0, none⟩) N N) (List.replicate N (.complex .f64 0 0))
  c0 : wx.cell? ⟨h, 0, none⟩ = some (.int .i64 X)
  c1 : wx.cell? ⟨h, 1, none⟩ = some (.int .i64 Y)
  c2 : wx.cell? ⟨h, 2, none⟩ = some (.slice (some ⟨g, 0, none⟩) N N)

theorem fresh_a (w1 : World) (X Y N : Nat) (hN : N ≤ maxLen) (t : TypeId) :
    Fresh w1 ((w1.alloc (.cells (madeCells #[.complex .f64 0 0] N) 23)).alloc (.cells #[.int .i64 X, .int .i64 Y, .slice (some ⟨w1.heap.size, 0, none⟩) N N] t)).drew w1.heap.size (w1.heap.size + 1) X Y N := by
  obtain ⟨W, hW⟩ : ∃ W, W = w1.alloc (.cells (madeCells #[.complex .f64 0 0] N) 23) := ⟨_, rfl⟩
  have hs : W.heap.size = w1.heap.size + 1 := by rw [hW]; simp
  have ho : Own w1.heap.size 23 w1 W (.slice (some ⟨w1.heap.size, 0, none⟩) N N) (List.replicate N (.complex .f64 0 0)) := by rw [hW]; exact Own.zeros _ _ _ _ hN
  rw [← hW]
  have hn := fun j => new_cell W #[.int .i64 X, .int .i64 Y, .slice (some ⟨w1.heap.size, 0, none⟩) N N] t j
  rw [hs] at hn
  exact ⟨by omega, by omega, by show w1.heap.size + 1 < (W.alloc _).heap.size; rw [new_size]; omega, (ho.later ((Below.refl (w1.heap.size + 1) W).alloc (by omega) _) (by omega)).drew, hn 0, hn 1, hn 2⟩

theorem fresh_b (w1 : World) (X Y N : Nat) (hN : N ≤ maxLen) (t : TypeId) :
    Fresh w1 ((w1.alloc (.cells #[.int .i64 X, .int .i64 Y, .slice (some ⟨w1.heap.size + 1, 0, none⟩) N N] t)).alloc (.cells (madeCells #[.complex .f64 0 0] N) 23)).drew (w1.heap.size + 1) w1.heap.size X Y N := by
  have hn := fun j => new_cell w1 #[.int .i64 X, .int .i64 Y, .slice (some ⟨w1.heap.size + 1, 0, none⟩) N N] t j
  obtain ⟨W, hW⟩ : ∃ W, W = w1.alloc (.cells #[.int .i64 X, .int .i64 Y, .slice (some ⟨w1.heap.size + 1, 0, none⟩) N N] t) := ⟨_, rfl⟩
  have hs : W.heap.size = w1.heap.size + 1 := by rw [hW]; simp
  have hb : Below w1.heap.size w1 W := by rw [hW]; exact (Below.refl _ _).alloc (Nat.le_refl _) _
  rw [← hW] at hn ⊢
  have ho := Own.zeros W 23 (.complex .f64 0 0) N hN
  rw [hs] at ho
  have hb2 : Below (w1.heap.size + 1) W (W.alloc (.cells (madeCells #[.complex .f64 0 0] N) 23)) := (Below.refl _ _).alloc (by omega) _
  exact ⟨by omega, by omega, by show w1.heap.size < (W.alloc _).heap.size; rw [new_size]; omega, (ho.lower (by omega) hb).drew, cells_below hb2 (by omega) (hn 0), cells_below hb2 (by omega) (hn 1), cells_below hb2 (by omega) (hn 2)⟩

theorem doubled_walk (b cap W H pm pp q0 : Nat) (p q : Int) (G : Nat → Nat → Int) (B : Int) (w : World) (hp : -16 ≤ p ∧ p ≤ 16) (hq : 0 ≤ q ∧ q ≤ 16) (hW : 1 ≤ W ∧ W ≤ 64) (hH : 1 ≤ H ∧ H ≤ 64) (hW2 : W + p.natAbs ≤ 64) (hH2 : (H : Int) + q ≤ 64)
    (hpm : (pm : Int) = max (-p) 0) (hpp : (pp : Int) = max p 0) (hq0 : (q0 : Int) = q) (hB : 0 ≤ B ∧ B ≤ 1000000000000) (hG : Small G B) (hbox : Boxed G W H)
    (hb : b < w.heap.size) (hc : ∀ j, j < W * H → w.cell? ⟨b, j, none⟩ = some (cv (fint (G (j % W) (j / W)), 0))) :
    Calls Try.prog 64 #[ghV W H b (W * H) cap, .agg #[.int .i64 p, .int .i64 q]] w fun e w' => ∃ g, e = .returned (ghV (W + (pm + pp)) (H + q0) g ((W + (pm + pp)) * (H + q0)) ((W + (pm + pp)) * (H + q0))) ∧
      Own w.heap.size 23 w w' (.slice (some ⟨g, 0, none⟩) ((W + (pm + pp)) * (H + q0)) ((W + (pm + pp)) * (H + q0))) ((cellsG (gs G pm pp q0) (W + (pm + pp)) ((W + (pm + pp)) * (H + q0))).map cv) := by
  obtain ⟨X, hX⟩ : ∃ X : Nat, X = W + (pm + pp) := ⟨_, rfl⟩
  obtain ⟨Y, hY⟩ : ∃ Y : Nat, Y = H + q0 := ⟨_, rfl⟩
  have hmul : X * Y ≤ 4096 := Nat.mul_le_mul (show X ≤ 64 by omega) (show Y ≤ 64 by omega)
  have hmul2 : W * H ≤ 4096 := Nat.mul_le_mul (show W ≤ 64 by omega) (show H ≤ 64 by omega)
  obtain ⟨N, hN⟩ : ∃ N, N = X * Y := ⟨_, rfl⟩
  obtain ⟨M, hM⟩ : ∃ M, M = W * H := ⟨_, rfl⟩
  rw [← hX, ← hY, ← hN]
  rw [← hM] at hmul2 hc ⊢
  have hXY : (X : Int) * (Y : Int) = (N : Int) := by rw [hN]; exact (Int.natCast_mul _ _).symm
  have hmk := fun W => run_make_row' (P := Try.prog) 37 23 (.complex .f64 0 0) 16 Try.underlying37 infoC rfl .i64 .i64 N (by omega) (by omega) W
  have HX := Lib.hid hX
  have HY := Lib.hid hY
  have HN := Lib.hid hN
  have HM := Lib.hid hM
  have HPm := Lib.hid hpm
  have HPp := Lib.hid hpp
  have HQ0 := Lib.hid hq0
  have HC := Lib.hid hc
  have hX64 : X ≤ 64 := by omega
  have hY64 : Y ≤ 64 := by omega
  have hN4 : N ≤ 4096 := by omega
  have hNw : IntKind.i64.wrap (N : Int) = N := IntWalk.i64_in _ (by omega)
  clear hX hY hN hM hmul hpm hpp hq0 hc
  go_enter Try.func64, Try.ntmps64
  go_wp2_with fail
  refine (grow_walk (w.heap.size + 1 + 1 + 1) W H p q _ (by omega) (by omega) (by omega) (by omega) ?_).mono ?_
  · have := Two.made (((w.alloc (.cells #[.int .i64 W, .int .i64 H, .slice (some ⟨b, 0, none⟩) M cap] 44)).alloc (.cells #[.int .i64 p, .int .i64 q] 51)).alloc (.cells #[.int .i64 0, .int .i64 0, .slice none 0 0] 44)) 88 W H
    rwa [new_size, new_size, new_size] at this
  rintro e w1 ⟨rfl, h2, hb1⟩
  have e1 : (W : Int) + p.natAbs = X := by have := HX.out; have := HPm.out; have := HPp.out; omega
  have e2 : (H : Int) + q = Y := by have := HY.out; have := HQ0.out; omega
  rw [e1, e2] at h2
  have g0 := (hb1.cell (p := ⟨w.heap.size, 0, none⟩) (by simp <;> omega)).trans (show _ = some (Value.int IntKind.i64 W) by simp [go_sem])
  have g2 := (hb1.cell (p := ⟨w.heap.size, 2, none⟩) (by simp <;> omega)).trans (show _ = some (Value.slice (some ⟨b, 0, none⟩) M cap) by simp [go_sem])
  have d0 := (hb1.cell (p := ⟨w.heap.size + 1, 0, none⟩) (by simp <;> omega)).trans (show _ = some (Value.int IntKind.i64 p) by simp [go_sem])
  have d1 := (hb1.cell (p := ⟨w.heap.size + 1, 1, none⟩) (by simp <;> omega)).trans (show _ = some (Value.int IntKind.i64 q) by simp [go_sem])
  have t4 : Three (w.heap.size + 1 + 1) (.int .i64 0) (.int .i64 0) (.slice none 0 0) w1 := by
    have := Three.made ((w.alloc (.cells #[.int .i64 W, .int .i64 H, .slice (some ⟨b, 0, none⟩) M cap] 44)).alloc (.cells #[.int .i64 p, .int .i64 q] 51)) 44 (.int .i64 0) (.int .i64 0) (.slice none 0 0)
    rw [new_size, new_size] at this
    exact (this.later ((Below.refl (w.heap.size + 1 + 1 + 1) _).alloc (by simp) _) (by omega)).later hb1 (by omega)
  have T4 := Lib.hid t4
  have G0 := Lib.hid g0
  have G2 := Lib.hid g2
  have D0 := Lib.hid d0
  have D1 := Lib.hid d1
  clear g0 g2 d0 d1 t4
  clear e1 e2
  have H2 := Lib.hid h2
  have HB1 := Lib.hid hb1
  have hw1 := h2.lt
  clear hb1
  go_upto_region 3 with fail
  go_cut [6] (fun s6 wx => ∃ g h : Nat, s6 = .pointer (some ⟨h, 0, none⟩) ∧ Fresh w1 wx g h X Y N)
  case first =>
    have a0 := fun o => (h2.alloc o).c0
    have a1 := fun o => (h2.alloc o).c1
    have b0 := fun o o' => ((h2.alloc o).alloc o').c0
    have b1 := fun o o' => ((h2.alloc o).alloc o').c1
    obtain ⟨l2, c0, c1, f0, f1⟩ := h2
    have hlen : N ≤ maxLen := by unfold maxLen; omega
    go_region
    · go_wp2_with fail
      go_meet
      exact ⟨_, _, rfl, fresh_a w1 X Y N hlen _⟩
    · go_wp2_with fail
      go_meet
      exact ⟨_, _, rfl, fresh_b w1 X Y N hlen _⟩
  case rest =>
    obtain ⟨g, h, rfl, hf⟩ := hcut
    have HF := Lib.hid hf
    have hhi := hf.hi
    clear hf
    have d0 := (HF.out.own.below.cell (p := ⟨w.heap.size + 1, 0, none⟩) (by simp <;> omega)).trans D0.out
    have d1 := (HF.out.own.below.cell (p := ⟨w.heap.size + 1, 1, none⟩) (by simp <;> omega)).trans D1.out
    have m0 := (HF.out.own.below.cell (p := ⟨w.heap.size + 1 + 1 + 1, 0, none⟩) (by simp <;> omega)).trans H2.out.c0
    obtain ⟨P1, hP1⟩ : ∃ P1, P1 = q0 * X + pp := ⟨_, rfl⟩
    have hP2 : q * (X : Int) = ((q0 * X : Nat) : Int) := by rw [← HQ0.out]; exact (Int.natCast_mul _ _).symm
    have hP3 : q0 * X ≤ 16 * 64 := Nat.mul_le_mul (by have := HQ0.out; omega) hX64
    obtain ⟨Z, hZ⟩ : ∃ Z, Z = q0 * X := ⟨_, rfl⟩
    rw [← hZ] at hP1 hP2 hP3
    have HP1 := Lib.hid hP1
    have HZ := Lib.hid hZ
    clear hP1 hZ
    have hpm16 : pm ≤ 16 := by have := HPm.out; omega
    have hpp16 : pp ≤ 16 := by have := HPp.out; omega
    go_upto_region 4 with fail
    go_cut [7] (fun s7 wx => ∃ K : Nat, s7 = .pointer (some ⟨K, 0, none⟩) ∧ wc.heap.size ≤ K ∧ K < wx.heap.size ∧ Below wc.heap.size wc wx ∧ wx.cell? ⟨K, 0, none⟩ = some (.int .i64 pm) ∧ wx.cell? ⟨K, 1, none⟩ = some (.int .i64 P1))
    case first =>
      by_cases hp0 : 0 < p
      · have k1 : (pm : Int) = 0 := by have := HPm.out; omega
        have k2 : (pp : Int) = p := by have := HPp.out; omega
        have k3 : (P1 : Int) = Z + p := by have := HP1.out; omega
        have K1 := Lib.hid k1
        have K3 := Lib.hid k3
        clear k1 k2 k3
        go_wp2
        go_meet
        exact ⟨_, rfl, Nat.le_refl _, by simp, (Below.refl _ _).alloc (Nat.le_refl _) _, by rw [K1.out]; exact new_cell _ _ _ 0, by rw [K3.out]; exact new_cell _ _ _ 1⟩
      · by_cases hp1 : p < 0
        · have k1 : (pm : Int) = -p := by have := HPm.out; omega
          have k2 : (pp : Int) = 0 := by have := HPp.out; omega
          have k3 : (P1 : Int) = Z := by have := HP1.out; omega
          have K1 := Lib.hid k1
          have K3 := Lib.hid k3
          clear k1 k2 k3 hp0
          go_wp2
          go_meet
          exact ⟨_, rfl, Nat.le_refl _, by simp, (Below.refl _ _).alloc (Nat.le_refl _) _, by rw [K1.out]; exact new_cell _ _ _ 0, by rw [K3.out]; exact new_cell _ _ _ 1⟩
        · obtain rfl : p = 0 := by omega
          have k1 : (pm : Int) = 0 := by have := HPm.out; omega
          have k2 : (pp : Int) = 0 := by have := HPp.out; omega
          have k3 : (P1 : Int) = Z := by have := HP1.out; omega
          have K1 := Lib.hid k1
          have K3 := Lib.hid k3
          clear k1 k2 k3 hp0 hp1
          go_wp2
          go_meet
          exact ⟨_, rfl, Nat.le_refl _, by simp, (Below.refl _ _).alloc (Nat.le_refl _) _, by rw [K1.out]; exact new_cell _ _ _ 0, by rw [K3.out]; exact new_cell _ _ _ 1⟩
    case rest =>
      obtain ⟨K, rfl, hK0, hK1, hbel, k0, k1⟩ := hcut
      have hgl := HF.out.own.lt
      have hgh := HF.out.ne
      have hhl := HF.out.lo
      have hHlt : (H : Int) ≤ 64 := by omega
      have c20 := (hbel.cell (p := ⟨w.heap.size, 0, none⟩) (by simp <;> omega)).trans ((HF.out.own.below.cell (p := ⟨w.heap.size, 0, none⟩) (by simp <;> omega)).trans G0.out)
      have c22 := (hbel.cell (p := ⟨w.heap.size, 2, none⟩) (by simp <;> omega)).trans ((HF.out.own.below.cell (p := ⟨w.heap.size, 2, none⟩) (by simp <;> omega)).trans G2.out)
      have c50 := (hbel.cell (p := ⟨w.heap.size + 1 + 1 + 1, 0, none⟩) (by simp <;> omega)).trans m0
      have c62 := (hbel.cell (p := ⟨h, 2, none⟩) (by simp <;> omega)).trans HF.out.c2
      have c60 := (hbel.cell (p := ⟨h, 0, none⟩) (by simp <;> omega)).trans HF.out.c0
      have c61 := (hbel.cell (p := ⟨h, 1, none⟩) (by simp <;> omega)).trans HF.out.c1
      have hsrc : ∀ j, j < M → wc.cell? ⟨b, j, none⟩ = some (cv (fint (G (j % W) (j / W)), 0)) := fun j hj =>
        (hbel.cell (p := ⟨b, j, none⟩) (by simp <;> omega)).trans ((HF.out.own.below.cell (p := ⟨b, j, none⟩) (by simp <;> omega)).trans ((HB1.out.cell (p := ⟨b, j, none⟩) (by simp <;> omega)).trans ((((((Below.refl w.heap.size w).alloc (Nat.le_refl _) _).alloc (by simp) _).alloc (by simp <;> omega) _).alloc (by simp <;> omega) _).cell (p := ⟨b, j, none⟩) hb |>.trans (HC.out j hj))))
      have t4 := (T4.out.later HF.out.own.below (by omega)).later hbel (by omega)
      have T4c := Lib.hid t4
      have hown := HF.out.own.later hbel (Nat.le_refl _)
      have hgK : g < K := by omega
      have hgw : g < wc.heap.size := by omega
      have C20 := Lib.hid c20
      have C22 := Lib.hid c22
      have C50 := Lib.hid c50
      have C60 := Lib.hid c60
      have C61 := Lib.hid c61
      have C62 := Lib.hid c62
      have KK0 := Lib.hid k0
      have KK1 := Lib.hid k1
      have HS := Lib.hid hsrc
      have HO := Lib.hid hown
      clear c20 c50 c60 c61 c62 k0 k1 hsrc hown d0 d1 m0 hbel t4
      go_wp2
      clear c22
      go_loopw [48] (fun s wr => ∃ i : Nat, i ≤ M ∧ s = .int .i64 i ∧ wc.grownBy wr (some g) ∧ Own w1.heap.size 23 w1 wr (.slice (some ⟨g, 0, none⟩) N N) ((cellsG (mid G W pm pp q0 i i) X N).map cv)) (fun s _ => M - (intOf s).toNat)
      case atStart =>
        refine ⟨0, Nat.zero_le _, rfl, World.grownBy.refl _ _, ?_⟩
        rw [cellsG_zero X N (mid_zero G W pm pp q0), List.map_replicate]
        exact HO.out
      case round =>
        obtain ⟨i, hi, rfl, hgr, hown⟩ := hrel
        have HGr := Lib.hid hgr
        have HOw := Lib.hid hown
        clear hgr hown
        by_cases hlt : i < M
        · have s0 := HGr.out.cell (HS.out i hlt) (by simp <;> omega)
          have k0 := HGr.out.cell KK0.out (by simp <;> omega)
          have k1 := HGr.out.cell KK1.out (by simp <;> omega)
          go_wp2
          go_loopw [54] (fun s wz => ∃ k : Nat, k ≤ 2 ∧ s = .int .i64 k ∧ wc.grownBy wz (some g) ∧ Own w1.heap.size 23 w1 wz (.slice (some ⟨g, 0, none⟩) N N) ((cellsG (mid G W pm pp q0 (if 1 ≤ k then i + 1 else i) (if 2 ≤ k then i + 1 else i)) X N).map cv)) (fun s _ => 2 - (intOf s).toNat)
          case atStart => exact ⟨0, by omega, rfl, HGr.out, HOw.out⟩
          case round =>
            obtain ⟨k, hk, rfl, hgr, hown⟩ := hrel
            have HGz := Lib.hid hgr
            have HOz := Lib.hid hown
            have c20 := HGz.out.cell C20.out (by simp <;> omega)
            have c50 := HGz.out.cell C50.out (by simp <;> omega)
            have c62 := HGz.out.cell C62.out (by simp <;> omega)
            clear hgr hown s0 k0 k1
            match k, hk with
            | 0, _ =>
              have hix := pair_at0
              have iw : (W : Int) ≠ 0 := by omega
              have hpl16 : pm ≤ 2000 := by omega
              go_wp2
              go_quiet (fail)
              go_wp2
              rw [wrap_place hpl16 hX64 (by omega)]
              obtain ⟨wz, hwz⟩ : ∃ wz, wz = wr.drewN nq := ⟨_, rfl⟩
              rw [← hwz]
              have hd : Drawn wr wz := ⟨nq, hwz⟩
              have HDr := Lib.hid hd
              have hat : pm + i / W * X + i % W < N := by
                have := place_lt (q0 := 0) (pp := pm) (H := H) (X := X) (Y := Y) (W := W) (by have := HX.out; omega) (by have := HY.out; omega) (by omega) (by rw [← HM.out]; exact hlt)
                rw [← HN.out] at this
                simp only [Nat.zero_mul, Nat.zero_add] at this; exact this
              obtain ⟨at0, hat0⟩ : ∃ a, a = pm + i / W * X + i % W := ⟨_, rfl⟩
              rw [← hat0] at hat ⊢
              have HAt := Lib.hid hat0
              have hm0 := mid_small hG hB.1 W pm pp q0 i i (at0 % X) (at0 / X)
              have hv0 := hG (i % W) (i / W)
              obtain ⟨m, hm⟩ : ∃ m, m = mid G W pm pp q0 i i (at0 % X) (at0 / X) := ⟨_, rfl⟩
              obtain ⟨v, hv⟩ : ∃ v, v = G (i % W) (i / W) := ⟨_, rfl⟩
              rw [← hm] at hm0
              rw [← hv] at hv0
              have cz := HOz.out.cell (j := at0) (u := cv (fint m, 0)) (by rw [List.getElem?_map, cellsG_get _ hat, hm]; rfl)
              have cd := (hd.cell _).trans cz
              have fd := (hd.frozen _).trans (HOz.out.free (by rw [List.length_map, cellsG_length]) at0)
              have cd62 := (hd.cell _).trans c62
              rw [← hv]
              obtain ⟨re, hre, wre⟩ : ∃ r, fadd (fint m) (fint v) = some r ∧ Whole r (m + v) := whole_add (whole_fint (by omega)) (whole_fint (by omega)) (by omega)
              have him : fadd 0 0 = some 0 := by decide +kernel
              have hpl : plain2 (re, 0) = (fint (m + v), 0) := by
                unfold plain2
                rw [wre.plain (by omega), plain1_zero]
              have HC1 := Lib.hid (fun W => still_of (Turn0_walk (fint v) 0 W))
              have HC2 := Lib.hid (fun W => still_of (Add_walk (fint m) 0 (fint v) 0 re 0 W hre him))
              have HC3 := Lib.hid (fun W => still_of (Plain_walk re 0 W))
              rw [hpl] at HC3
              have HM0 := Lib.hid hm
              have HV0 := Lib.hid hv
              clear hwz hd hat0 c62 c50 c20 hm hv cz hre wre him hpl
              go_still_tail 15, (by kernel_rfl)
              still_call (HC1.out _)
              still_call (HC2.out _)
              still_call (HC3.out _)
              still_step
              refine wpStill_nil ?_
              change wpList _ _ _ _ _ wz.drew
              go_wp2
              rw [HV0.out]
              go_roundw
              case rel =>
                refine ⟨0 + 1, by omega, by go_num, ?_, ?_⟩
                · exact grown_store HGz.out (HDr.out.more 1) at0 _
                · have ho := ((HOz.out.later (HDr.out.below wr.heap.size) (Nat.le_refl _)).stored (by rw [List.length_map, cellsG_length]) at0 (cv (fint (m + v), 0))).drew
                  rw [← List.map_set] at ho
                  have hst := mid_first G (pm := pm) (pp := pp) (q := q0) (i := i) (j := i) (W := W) (X := X) (by omega) (by have := HX.out; omega)
                  rw [cellsG_set (F' := mid G W pm pp q0 (i + 1) i) (by
                    intro n
                    rw [hst n, ← HAt.out]
                    by_cases hn : n = at0
                    · rw [if_pos hn, if_pos hn, hn, HM0.out, HV0.out] <;> first | rfl | omega
                    · rw [if_neg hn, if_neg hn]; rfl)] at ho
                  rw [HV0.out] at ho
                  exact ho
              case measure => simp [intOf]; first | done | omega
            | 1, _ =>
              have hix := pair_at1
              have iw : (W : Int) ≠ 0 := by omega
              have hpl16 : P1 ≤ 2000 := by have := HP1.out; omega
              go_wp2
              go_quiet (fail)
              go_wp2
              rw [wrap_place hpl16 hX64 (by omega)]
              obtain ⟨wz, hwz⟩ : ∃ wz, wz = wr.drewN nq := ⟨_, rfl⟩
              rw [← hwz]
              have hd : Drawn wr wz := ⟨nq, hwz⟩
              have HDr := Lib.hid hd
              have hat : P1 + i / W * X + i % W < N := by
                have := place_lt (q0 := q0) (pp := pp) (H := H) (X := X) (Y := Y) (W := W) (by have := HX.out; omega) (by have := HY.out; omega) (by omega) (by rw [← HM.out]; exact hlt)
                rw [← HN.out] at this
                rw [← HZ.out, ← HP1.out] at this; exact this
              obtain ⟨at0, hat0⟩ : ∃ a, a = P1 + i / W * X + i % W := ⟨_, rfl⟩
              rw [← hat0] at hat ⊢
              have HAt := Lib.hid hat0
              have hm0 := mid_small hG hB.1 W pm pp q0 (i + 1) i (at0 % X) (at0 / X)
              have hv0 := hG (i % W) (i / W)
              obtain ⟨m, hm⟩ : ∃ m, m = mid G W pm pp q0 (i + 1) i (at0 % X) (at0 / X) := ⟨_, rfl⟩
              obtain ⟨v, hv⟩ : ∃ v, v = G (i % W) (i / W) := ⟨_, rfl⟩
              rw [← hm] at hm0
              rw [← hv] at hv0
              have cz := HOz.out.cell (j := at0) (u := cv (fint m, 0)) (by rw [List.getElem?_map, cellsG_get _ hat, hm]; rfl)
              have cd := (hd.cell _).trans cz
              have fd := (hd.frozen _).trans (HOz.out.free (by rw [List.length_map, cellsG_length]) at0)
              have cd62 := (hd.cell _).trans c62
              rw [← hv]
              obtain ⟨re, hre, wre⟩ : ∃ r, fadd (fint m) (fneg (fint v)) = some r ∧ Whole r (m + -v) := whole_add (whole_fint (by omega)) (whole_neg (whole_fint (by omega))) (by omega)
              have him : fadd 0 (fneg 0) = some 0 := by decide +kernel
              have hpl : plain2 (re, 0) = (fint (m + -v), 0) := by
                unfold plain2
                rw [wre.plain (by omega), plain1_zero]
              have HC1 := Lib.hid (fun W => still_of (Turn2_walk (fint v) 0 W (whole_fint (by omega)).lt (by decide)))
              have HC2 := Lib.hid (fun W => still_of (Add_walk (fint m) 0 (fneg (fint v)) (fneg 0) re 0 W hre him))
              have HC3 := Lib.hid (fun W => still_of (Plain_walk re 0 W))
              rw [hpl] at HC3
              have HM0 := Lib.hid hm
              have HV0 := Lib.hid hv
              clear hwz hd hat0 c62 c50 c20 hm hv cz hre wre him hpl
              go_still_tail 15, (by kernel_rfl)
              still_call (HC1.out _)
              still_call (HC2.out _)
              still_call (HC3.out _)
              still_step
              refine wpStill_nil ?_
              change wpList _ _ _ _ _ wz.drew
              go_wp2
              rw [HV0.out]
              go_roundw
              case rel =>
                refine ⟨1 + 1, by omega, by go_num, ?_, ?_⟩
                · exact grown_store HGz.out (HDr.out.more 1) at0 _
                · have ho := ((HOz.out.later (HDr.out.below wr.heap.size) (Nat.le_refl _)).stored (by rw [List.length_map, cellsG_length]) at0 (cv (fint (m + -v), 0))).drew
                  rw [← List.map_set] at ho
                  have hst := mid_second G (pm := pm) (pp := pp) (q := q0) (i := i + 1) (j := i) (W := W) (X := X) (by omega) (by have := HX.out; omega)
                  rw [← HZ.out, ← HP1.out] at hst
                  rw [cellsG_set (F' := mid G W pm pp q0 (i + 1) (i + 1)) (by
                    intro n
                    rw [hst n, ← HAt.out]
                    by_cases hn : n = at0
                    · rw [if_pos hn, if_pos hn, hn, HM0.out, HV0.out] <;> first | rfl | omega
                    · rw [if_neg hn, if_neg hn]; rfl)] at ho
                  rw [HV0.out] at ho
                  exact ho
              case measure => simp [intOf]; first | done | omega
            | 2, _ =>
              go_wp2
              go_roundw
              case rel => exact ⟨i + 1, by omega, by go_num, HGz.out, HOz.out⟩
              case measure => simp [intOf]; omega
        · obtain rfl : i = M := by omega
          have c60 := HGr.out.cell C60.out (by simp <;> omega)
          have c61 := HGr.out.cell C61.out (by simp <;> omega)
          have c62 := HGr.out.cell C62.out (by simp <;> omega)
          have t4 := T4c.out.grown HGr.out (by omega)
          have T4r := Lib.hid t4
          obtain ⟨l4, e0, e1, e2, f0, f1, f2⟩ := t4
          go_wp2
          have hz := T4r.out.set (.int .i64 X) (.int .i64 Y) (.slice (some ⟨g, 0, none⟩) N N)
          refine bodyPost_ret (v := ghV X Y g N N) (by simp [results, Try.results64, go_sem, hz.c0, hz.c1, hz.c2]) rfl ⟨g, rfl, ?_⟩
          have ho := HOw.out
          rw [HM.out, cellsG_congr X N (fun x y => mid_all (pm := pm) (pp := pp) (q := q0) hbox x y)] at ho
          have hbw : Below w.heap.size w w1 := (((((Below.refl w.heap.size w).alloc (Nat.le_refl _) _).alloc (by simp) _).alloc (by simp <;> omega) _).alloc (by simp <;> omega) _).trans (HB1.out.mono (by omega))
          exact (((ho.lower (by omega) hbw).other (by omega) (by omega) 0 _).other (by omega) (by omega) 1 _).other (by omega) (by omega) 2 _
end Go.Proofs.Ytoeeceemoggffaa
