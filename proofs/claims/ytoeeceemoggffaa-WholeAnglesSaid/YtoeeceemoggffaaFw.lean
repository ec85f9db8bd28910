/- dir.Cmp on right directions, for the library's sort: the world behind the call is the one before it, with draws and new blocks. -/
import Derived.Test.YtoeeceemoggffaaAg
import Derived.Sort.Grow
import Derived.Sort.Statements
namespace Go.Proofs.Ytoeeceemoggffaa
open Go.RowKit Go.Lib
set_option maxHeartbeats 1600000
set_option maxRecDepth 100000

/-- old blocks are as they were, no fewer draws -/
structure Fwd (w w' : World) : Prop where
  below : Below w.heap.size w w'
  drawn : w.drawn ≤ w'.drawn
theorem Fwd.refl (w : World) : Fwd w w := ⟨Below.refl _ _, Nat.le_refl _⟩
theorem Fwd.trans {a b c : World} (h : Fwd a b) (k : Fwd b c) : Fwd a c := ⟨h.below.trans (k.below.mono h.below.size), Nat.le_trans h.drawn k.drawn⟩
theorem Fwd.alloc {a b : World} (h : Fwd a b) (o : Obj) : Fwd a (b.alloc o) := ⟨h.below.alloc h.below.size o, h.drawn⟩
theorem Fwd.set {a b : World} (h : Fwd a b) {p : Addr} (hp : a.heap.size ≤ p.block) (v : Value) : Fwd a (b.setCell p v) := ⟨h.below.setCell hp v, h.drawn⟩
theorem Fwd.drewN {a b : World} (h : Fwd a b) (n : Nat) : Fwd a (b.drewN n) := ⟨below_drewN h.below n, Nat.le_trans h.drawn (Nat.le_add_right _ _)⟩
theorem Fwd.of {w w' : World} (h : Drawn w w') : Fwd w w' := by
  obtain ⟨n, rfl⟩ := h
  exact (Fwd.refl w).drewN n
theorem Fwd.grow {w w' : World} (h : Fwd w w') : ∃ q os, w' = Go.Sort.grow (w.drewN q) os := by
  refine ⟨w'.drawn - w.drawn, w'.heap.extract w.heap.size w'.heap.size, ?_⟩
  have hh : w'.heap = w.heap ++ w'.heap.extract w.heap.size w'.heap.size := by
    apply Array.ext_getElem?
    intro i
    rw [Array.getElem?_append]
    by_cases hi : i < w.heap.size
    · rw [if_pos hi]
      exact h.below.block i hi
    · rw [if_neg hi, Array.getElem?_extract]
      have hs := h.below.size
      by_cases h2 : i < w'.heap.size
      · rw [if_pos (by omega)]
        congr 1
        omega
      · rw [if_neg (by omega), Array.getElem?_eq_none (by omega)]
  have hd : w'.drawn = w.drawn + (w'.drawn - w.drawn) := by have := h.drawn; omega
  cases w' with
  | mk hp tp dr os out =>
    have h1 := h.below.os
    have h2 := h.below.tape
    have h3 := h.below.output
    simp only at h1 h2 h3 hh hd
    unfold Go.Sort.grow World.drewN
    rw [h1, h2, h3]
    simp only [World.mk.injEq, and_true, true_and]
    exact ⟨hh, hd⟩

theorem Normal_fwd (p q : Int) (w : World) (hok : okD (p, q) = true) :
    Calls Try.prog 98 #[.int .i64 p, .int .i64 q] w fun e w' => e = .returned (.tuple #[dirV (p, q), .int .i64 0]) ∧ Fwd w w' := by
  obtain ⟨o1, o2, o3, o4, o5⟩ := (okD_iff p q).1 hok
  have C1 := Lib.hid (fun w => abs_walk p w (by unfold I64; omega))
  have C2 := Lib.hid (fun w => abs_walk q w (by unfold I64; omega))
  have C3 := Lib.hid (fun w => divisor_walk p.natAbs q.natAbs w (by omega) (by omega))
  rw [o4] at C3
  have hbel : ∀ w1, Drawn (w.alloc (Obj.cells #[Value.int IntKind.i64 0, Value.int IntKind.i64 0] 51)) w1 → Fwd w w1 := fun w1 h => ((Fwd.refl w).alloc _).trans (Fwd.of h)
  obtain ⟨a, ha⟩ : ∃ a, a = p.natAbs := ⟨_, rfl⟩
  obtain ⟨b, hb⟩ : ∃ b, b = q.natAbs := ⟨_, rfl⟩
  rw [← ha] at C1 C3
  rw [← hb] at C2 C3
  have la : (a : Int) ≤ 16 := by omega
  have lb : (b : Int) ≤ 16 := by omega
  have w1a : IntKind.u64.wrap (a : Int) = (a : Int) := by rw [wrapU]; omega
  have w1b : IntKind.u64.wrap (b : Int) = (b : Int) := by rw [wrapU]; omega
  have hqb : q = (b : Int) := by omega
  by_cases s3 : p < 0
  · have s1 : 0 < q := by
      by_cases h0 : q = 0
      · have := o5 h0; omega
      · omega
    have hpa : p = -(a : Int) := by omega
    have HPA := Lib.hid hpa
    have HQB := Lib.hid hqb
    have hres : dirV (p, q) = dirV (-(a : Int), (b : Int)) := by rw [← hpa, ← hqb]
    rw [hres]
    clear ha hb hpa hqb o5 hok hres o4
    go_enter Try.func98, Try.ntmps98
    go_wp2_with fail
    refine (C1.out _).mono ?_; rintro e w' ⟨rfl, rfl⟩
    go_wp2_with fail
    refine (C2.out _).mono ?_; rintro e w' ⟨rfl, rfl⟩
    go_wp2_with fail
    refine (C3.out _).mono ?_; rintro e w1 ⟨rfl, hd⟩
    have f0 := (hd.cell ⟨w.heap.size, 0, none⟩).trans (new_cell _ _ _ 0)
    have f1 := (hd.cell ⟨w.heap.size, 1, none⟩).trans (new_cell _ _ _ 1)
    have z0 := (hd.frozen ⟨w.heap.size, 0, none⟩).trans (new_free _ _ _ 0)
    have z1 := (hd.frozen ⟨w.heap.size, 1, none⟩).trans (new_free _ _ _ 1)
    have HB := Lib.hid (hbel w1 hd)
    clear hd hbel
    go_wp2
    go_quiet ((first | (go_at_call_of 69 (Value.int IntKind.i64 p); exact quiet_same (C1.out _)) | (go_at_call_of 69 (Value.int IntKind.i64 q); exact quiet_same (C2.out _))))
    go_wp2
    exact bodyPost_ret (v := .tuple #[dirV (-(a : Int), (b : Int)), .int .i64 0]) (by simp [results, Try.results98, go_sem, f0, f1, dirV]) rfl ⟨rfl, ((HB.out.drewN _).set (Nat.le_refl _) _).set (Nat.le_refl _) _⟩
  · have hpa : p = (a : Int) := by omega
    have s4 : decide (q < 0) = false := by simp; omega
    have s6 : decide (p < 0) = false := by simp; omega
    have hres : dirV (p, q) = dirV ((a : Int), (b : Int)) := by rw [← hpa, ← hqb]
    rw [hres]
    have HPA := Lib.hid hpa
    have HQB := Lib.hid hqb
    by_cases s5 : 0 < p
    · clear ha hb hpa hqb o5 hok hres o4 s3
      go_enter Try.func98, Try.ntmps98
      go_wp2_with fail
      refine (C1.out _).mono ?_; rintro e w' ⟨rfl, rfl⟩
      go_wp2_with fail
      refine (C2.out _).mono ?_; rintro e w' ⟨rfl, rfl⟩
      go_wp2_with fail
      refine (C3.out _).mono ?_; rintro e w1 ⟨rfl, hd⟩
      have f0 := (hd.cell ⟨w.heap.size, 0, none⟩).trans (new_cell _ _ _ 0)
      have f1 := (hd.cell ⟨w.heap.size, 1, none⟩).trans (new_cell _ _ _ 1)
      have z0 := (hd.frozen ⟨w.heap.size, 0, none⟩).trans (new_free _ _ _ 0)
      have z1 := (hd.frozen ⟨w.heap.size, 1, none⟩).trans (new_free _ _ _ 1)
      have HB := Lib.hid (hbel w1 hd)
      clear hd hbel
      go_wp2
      go_quiet ((first | (go_at_call_of 69 (Value.int IntKind.i64 p); exact quiet_same (C1.out _)) | (go_at_call_of 69 (Value.int IntKind.i64 q); exact quiet_same (C2.out _))))
      go_wp2
      exact bodyPost_ret (v := .tuple #[dirV ((a : Int), (b : Int)), .int .i64 0]) (by simp [results, Try.results98, go_sem, f0, f1, dirV]) rfl ⟨rfl, ((HB.out.drewN _).set (Nat.le_refl _) _).set (Nat.le_refl _) _⟩
    · have s7 : decide (0 < p) = false := by simp; omega
      clear ha hb hpa hqb o5 hok hres o4 s3
      go_enter Try.func98, Try.ntmps98
      go_wp2_with fail
      refine (C1.out _).mono ?_; rintro e w' ⟨rfl, rfl⟩
      go_wp2_with fail
      refine (C2.out _).mono ?_; rintro e w' ⟨rfl, rfl⟩
      go_wp2_with fail
      refine (C3.out _).mono ?_; rintro e w1 ⟨rfl, hd⟩
      have f0 := (hd.cell ⟨w.heap.size, 0, none⟩).trans (new_cell _ _ _ 0)
      have f1 := (hd.cell ⟨w.heap.size, 1, none⟩).trans (new_cell _ _ _ 1)
      have z0 := (hd.frozen ⟨w.heap.size, 0, none⟩).trans (new_free _ _ _ 0)
      have z1 := (hd.frozen ⟨w.heap.size, 1, none⟩).trans (new_free _ _ _ 1)
      have HB := Lib.hid (hbel w1 hd)
      clear hd hbel
      go_wp2
      go_quiet ((first | (go_at_call_of 69 (Value.int IntKind.i64 p); exact quiet_same (C1.out _)) | (go_at_call_of 69 (Value.int IntKind.i64 q); exact quiet_same (C2.out _))))
      go_wp2
      exact bodyPost_ret (v := .tuple #[dirV ((a : Int), (b : Int)), .int .i64 0]) (by simp [results, Try.results98, go_sem, f0, f1, dirV]) rfl ⟨rfl, ((HB.out.drewN _).set (Nat.le_refl _) _).set (Nat.le_refl _) _⟩

theorem Check_fwd (p q : Int) (w : World) (hok : okD (p, q) = true) :
    Calls Try.prog 68 #[.agg #[.int .i64 p, .int .i64 q]] w fun e w' => e = .returned (.int .i64 0) ∧ Fwd w w' := by
  have C1 := Lib.hid (fun w => Normal_fwd p q w hok)
  have b1 : (p == p) = true := by simp
  have b2 : (q == q) = true := by simp
  clear hok
  go_enter Try.func68, Try.ntmps68
  go_wp2_with fail
  refine (C1.out _).mono ?_; rintro e w1 ⟨rfl, hf⟩
  have hb := hf.below
  have g0 := (hb.cell (p := ⟨w.heap.size, 0, none⟩) (by simp)).trans (new_cell _ _ _ 0)
  have g1 := (hb.cell (p := ⟨w.heap.size, 1, none⟩) (by simp)).trans (new_cell _ _ _ 1)
  have hlt : w.heap.size < w1.heap.size := by have := hb.size; simp at this; omega
  have HF := Lib.hid (((Fwd.refl w).alloc _).trans hf)
  clear hb hf
  go_wp2
  go_ret
  exact ⟨rfl, HF.out.alloc _⟩

/-- what Cmp answers -/
def cmpD (x y : Int × Int) : Int := if 0 < crs x y then -1 else if crs x y < 0 then 1 else 0

theorem Cmp_walk (x y : Int × Int) (w : World) (hx : okD x = true) (hy : okD y = true) :
    Calls Try.prog 88 #[.agg #[.int .i64 x.1, .int .i64 x.2], .agg #[.int .i64 y.1, .int .i64 y.2]] w fun e w' => e = .returned (.int .i64 (cmpD x y)) ∧ Fwd w w' := by
  obtain ⟨a, b⟩ := x
  obtain ⟨c, d⟩ := y
  obtain ⟨o1, o2, o3, _, _⟩ := (okD_iff a b).1 hx
  obtain ⟨u1, u2, u3, _, _⟩ := (okD_iff c d).1 hy
  have C1 := Lib.hid (fun w => Check_fwd a b w hx)
  have C2 := Lib.hid (fun w => Check_fwd c d w hy)
  have m1 : -256 ≤ a * d ∧ a * d ≤ 256 := by
    obtain ⟨D, rfl⟩ : ∃ D : Nat, d = (D : Int) := ⟨d.toNat, by omega⟩
    have h1 := Int.mul_le_mul_of_nonneg_right (show a ≤ 16 by omega) (show (0 : Int) ≤ (D : Int) by omega)
    have h2 := Int.mul_le_mul_of_nonneg_right (show -16 ≤ a by omega) (show (0 : Int) ≤ (D : Int) by omega)
    omega
  have m2 : -256 ≤ b * c ∧ b * c ≤ 256 := by
    obtain ⟨B, rfl⟩ : ∃ B : Nat, b = (B : Int) := ⟨b.toNat, by omega⟩
    rw [Int.mul_comm]
    have h1 := Int.mul_le_mul_of_nonneg_right (show c ≤ 16 by omega) (show (0 : Int) ≤ (B : Int) by omega)
    have h2 := Int.mul_le_mul_of_nonneg_right (show -16 ≤ c by omega) (show (0 : Int) ≤ (B : Int) by omega)
    omega
  unfold cmpD crs
  simp only
  obtain ⟨u, hu⟩ : ∃ u, a * d = u := ⟨_, rfl⟩
  obtain ⟨v, hv⟩ : ∃ v, b * c = v := ⟨_, rfl⟩
  rw [hu] at m1 ⊢
  rw [hv] at m2 ⊢
  obtain ⟨k1, k2⟩ := m1
  obtain ⟨k3, k4⟩ := m2
  clear hx hy o1 o2 o3 u1 u2 u3
  have hb0 : ∀ j, ((w.alloc (.cells #[.int .i64 a, .int .i64 b] 51)).alloc (.cells #[.int .i64 c, .int .i64 d] 51)).cell? ⟨w.heap.size, j, none⟩ = #[Value.int .i64 a, .int .i64 b][j]? := fun j => (((Below.refl _ _).alloc (Nat.le_refl _) _).cell (by simp)).trans (new_cell w _ _ j)
  have hb1 : ∀ j, ((w.alloc (.cells #[.int .i64 a, .int .i64 b] 51)).alloc (.cells #[.int .i64 c, .int .i64 d] 51)).cell? ⟨w.heap.size + 1, j, none⟩ = #[Value.int .i64 c, .int .i64 d][j]? := fun j => by
    have := new_cell (w.alloc (.cells #[.int .i64 a, .int .i64 b] 51)) #[Value.int .i64 c, .int .i64 d] 51 j
    rw [new_size] at this
    exact this
  obtain ⟨r, hr⟩ : ∃ r : Int, r = if 0 < u - v then -1 else if u - v < 0 then 1 else 0 := ⟨_, rfl⟩
  rw [← hr]
  have HRs := Lib.hid hr
  clear hr
  have HF0 := Lib.hid (((Fwd.refl w).alloc (.cells #[.int .i64 a, .int .i64 b] 51)).alloc (.cells #[.int .i64 c, .int .i64 d] 51))
  have HB0 := Lib.hid hb0
  have HB1 := Lib.hid hb1
  clear hb0 hb1
  go_enter Try.func88, Try.ntmps88
  go_wp2_with fail
  refine (C1.out _).mono ?_; rintro e w1 ⟨rfl, hf1⟩
  have x0 := (hf1.below.cell (p := ⟨w.heap.size, 0, none⟩) (by simp <;> omega)).trans (HB0.out 0)
  have x1 := (hf1.below.cell (p := ⟨w.heap.size, 1, none⟩) (by simp <;> omega)).trans (HB0.out 1)
  have y0 := (hf1.below.cell (p := ⟨w.heap.size + 1, 0, none⟩) (by simp <;> omega)).trans (HB1.out 0)
  have y1 := (hf1.below.cell (p := ⟨w.heap.size + 1, 1, none⟩) (by simp <;> omega)).trans (HB1.out 1)
  simp only [List.getElem?_toArray, List.getElem?_cons_zero, List.getElem?_cons_succ] at x0 x1 y0 y1
  have HF1 := Lib.hid (HF0.out.trans hf1)
  clear hf1
  go_wp2_with fail
  refine (C2.out _).mono ?_; rintro e w2 ⟨rfl, hf2⟩
  have x0' := (hf2.below.cell (block_lt_of_cell x0)).trans x0
  have x1' := (hf2.below.cell (block_lt_of_cell x1)).trans x1
  have y0' := (hf2.below.cell (block_lt_of_cell y0)).trans y0
  have y1' := (hf2.below.cell (block_lt_of_cell y1)).trans y1
  have HF2 := Lib.hid (HF1.out.trans hf2)
  clear hf2 x0 x1 y0 y1
  by_cases c1 : 0 < u - v
  · have hr := HRs.out
    rw [if_pos c1] at hr
    subst hr
    go_wp2
    go_ret
    exact ⟨rfl, HF2.out⟩
  · have hr := HRs.out
    rw [if_neg c1] at hr
    have c1' : decide (0 < u - v) = false := decide_eq_false c1
    by_cases c2 : u - v < 0
    · rw [if_pos c2] at hr
      subst hr
      go_wp2
      go_ret
      exact ⟨rfl, HF2.out⟩
    · rw [if_neg c2] at hr
      subst hr
      have c2' : decide (u - v < 0) = false := decide_eq_false c2
      go_wp2
      go_ret
      exact ⟨rfl, HF2.out⟩
end Go.Proofs.Ytoeeceemoggffaa
