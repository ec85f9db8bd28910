/- The walk of the law CxRing: it returns true at all numbers (the door seat). -/
import Derived.Test.YtoeeceemoggffaaDoorDl
import Derived.Deep.DeepCutAuto
import Derived.BigRegion
import Derived.Deep.RegionHeld3
namespace Go.Proofs.YtoeeceemoggffaaDoor
open Go.RowKit Go.Lib
set_option maxHeartbeats 3200000
set_option maxRecDepth 100000

theorem Plain_to (p q a b : Nat) (h : plain2 (p, q) = (a, b)) (w : World) : Calls Tryd.prog 9 #[.complex .f64 p q] w fun e w' => e = .returned (.complex .f64 a b) ∧ w = w' := by
  have := Plain_walk p q w
  rw [h] at this
  exact this

theorem alloc3 (w : World) (o1 o2 o3 : Obj) : (((w.alloc o1).alloc o2).alloc o3).heap[w.heap.size]? = some o1 ∧ (((w.alloc o1).alloc o2).alloc o3).heap[w.heap.size + 1]? = some o2 ∧
    (((w.alloc o1).alloc o2).alloc o3).heap[w.heap.size + 1 + 1]? = some o3 ∧ (((w.alloc o1).alloc o2).alloc o3).heap.size = w.heap.size + 1 + 1 + 1 ∧ Below w.heap.size w (((w.alloc o1).alloc o2).alloc o3) := by
  have b : ∀ (w : World) o, Below w.heap.size w (w.alloc o) := fun w o => (Below.refl _ _).alloc (Nat.le_refl _) _
  have n2 := heap_alloc_new (w.alloc o1) o2
  have n3 := heap_alloc_new ((w.alloc o1).alloc o2) o3
  rw [show (w.alloc o1).heap.size = w.heap.size + 1 from by simp] at n2
  rw [show ((w.alloc o1).alloc o2).heap.size = w.heap.size + 1 + 1 from by simp] at n3
  refine ⟨((b ((w.alloc o1).alloc o2) o3).block _ (by simp; omega)).trans (((b (w.alloc o1) o2).block _ (by simp)).trans (heap_alloc_new w o1)), ((b ((w.alloc o1).alloc o2) o3).block _ (by simp)).trans n2, n3, by simp, ?_⟩
  exact (((Below.refl _ _).alloc (Nat.le_refl _) _).alloc (by simp) _).alloc (by simp; omega) _
theorem keepB {w w' : World} {p : Addr} {v : Value} (hb : Below w.heap.size w w') (h : w.cell? p = some v) : w'.cell? p = some v := (hb.cell (block_lt_of_cell h)).trans h
theorem keepA {a w w' : World} (hb : Below w.heap.size w w') (h : Below a.heap.size a w) : Below a.heap.size a w' := h.trans (hb.mono h.size)

theorem keepH {a w w' : World} (hb : Below w.heap.size w w') (h : Hid (Below a.heap.size a w)) : Hid (Below a.heap.size a w') := Lib.hid (keepA hb h.out)

theorem ring_core (f : Int → Nat) (a0 a1 b0 b1 c0 c1 : Int) (s d m t l l' r r' v : Nat × Nat) (pm qm ps qs pd qd : Int) (R : RingW (f a0, f a1) (f b0, f b1) (f c0, f c1) s d m t l l' r r' v pm qm ps qs pd qd)
    (N : ∀ a b w, Calls Tryd.prog 5 #[.agg #[.int .i32 a, .int .i32 b]] w fun e w' => e = .returned (.complex .f64 (f a) (f b)) ∧ Below w.heap.size w w') (w : World) :
    Calls Tryd.prog 3 #[.agg #[.int .i32 a0, .int .i32 a1], .agg #[.int .i32 b0, .int .i32 b1], .agg #[.int .i32 c0, .int .i32 c1]] w fun e w' => e = .returned (.bool true) ∧ Below w.heap.size w w' := by
  obtain ⟨s0, s1⟩ := s
  obtain ⟨d0, d1⟩ := d
  obtain ⟨m0, m1⟩ := m
  obtain ⟨t0, t1⟩ := t
  obtain ⟨l0, l1⟩ := l
  obtain ⟨k0, k1⟩ := l'
  obtain ⟨r0, r1⟩ := r
  obtain ⟨q0, q1⟩ := r'
  obtain ⟨v0, v1⟩ := v
  obtain ⟨s1', s2', d1', d2', m1', t1', t2', l1', l2', k1', k2', r1', v1', q1', q2', ⟨es0, es1⟩, ⟨ed0, ed1⟩, ⟨em0, em1⟩, ⟨el0, el1⟩, ⟨er0, er1⟩, fm, fs, fd, ⟨bm0, bm1⟩, ⟨bs0, bs1⟩, ⟨bd0, bd1⟩⟩ := R
  obtain ⟨x0, hx0⟩ : ∃ x0, f a0 = x0 := ⟨_, rfl⟩
  obtain ⟨x1, hx1⟩ : ∃ x1, f a1 = x1 := ⟨_, rfl⟩
  obtain ⟨y0, hy0⟩ : ∃ y0, f b0 = y0 := ⟨_, rfl⟩
  obtain ⟨y1, hy1⟩ : ∃ y1, f b1 = y1 := ⟨_, rfl⟩
  obtain ⟨z0, hz0⟩ : ∃ z0, f c0 = z0 := ⟨_, rfl⟩
  obtain ⟨z1, hz1⟩ : ∃ z1, f c1 = z1 := ⟨_, rfl⟩
  have HX := Lib.hid (And.intro hx0 (And.intro hx1 (And.intro hy0 (And.intro hy1 (And.intro hz0 hz1)))))
  simp only [hx0, hx1, hy0, hy1, hz0, hz1] at s1' s2' d1' d2' m1' t1' t2' l1' l2' k1' k2' r1' v1' q1' q2' es0 es1 ed0 ed1 em0 em1 el0 el1 er0 er1
  clear hx0 hx1 hy0 hy1 hz0 hz1
  have HN := Lib.hid N
  have CA := Lib.hid alive_walk
  have Cs := Lib.hid (fun w => Add_walk x0 x1 y0 y1 s0 s1 w s1' s2')
  have Cd := Lib.hid (fun w => Sub_walk x0 x1 y0 y1 d0 d1 w d1' d2')
  have Cm := Lib.hid (fun w => Mul_walk x0 x1 y0 y1 (m0, m1) w m1')
  have Ct := Lib.hid (fun w => Add_walk y0 y1 z0 z1 t0 t1 w t1' t2')
  have Cl := Lib.hid (fun w => Add_walk s0 s1 z0 z1 l0 l1 w l1' l2')
  have Ck := Lib.hid (fun w => Add_walk x0 x1 t0 t1 k0 k1 w k1' k2')
  have Cr := Lib.hid (fun w => Mul_walk x0 x1 t0 t1 (r0, r1) w r1')
  have Cv := Lib.hid (fun w => Mul_walk x0 x1 z0 z1 (v0, v1) w v1')
  have Cq := Lib.hid (fun w => Add_walk m0 m1 v0 v1 q0 q1 w q1' q2')
  have Pm := Lib.hid (fun w => Plain_to m0 m1 _ _ fm w)
  have Ps := Lib.hid (fun w => Plain_to s0 s1 _ _ fs w)
  have Pd := Lib.hid (fun w => Plain_to d0 d1 _ _ fd w)
  have E53 : (2 : Nat) ^ 53 = 9007199254740992 := by decide
  have Wm := Lib.hid (fun w => Whole_int pm qm 4503599627370496 (by rw [E53]; omega) (by rw [E53]; omega) (by omega) (by omega) w)
  have Ws := Lib.hid (fun w => Whole_int ps qs 67108864 (by rw [E53]; omega) (by rw [E53]; omega) (by omega) (by omega) w)
  have Wd := Lib.hid (fun w => Whole_int pd qd 67108864 (by rw [E53]; omega) (by rw [E53]; omega) (by omega) (by omega) w)
  have n1 : ∀ t w, (binOp .add t (.complex .f64 x0 x1) (.complex .f64 y0 y1)).run Tryd.prog w = .ok (.complex .f64 s0 s1) w := fun t w => run_complex_sum w .add (.inl rfl) t .f64 x0 x1 y0 y1 s0 s1 (by unfold fadd at s1' s2'; simp [cSumBits, s1', s2'])
  have n2 : ∀ t w, (binOp .sub t (.complex .f64 x0 x1) (.complex .f64 y0 y1)).run Tryd.prog w = .ok (.complex .f64 d0 d1) w := fun t w => run_complex_sum w .sub (.inr rfl) t .f64 x0 x1 y0 y1 d0 d1 (by unfold fsub at d1' d2'; simp [cSumBits, d1', d2'])
  have n3 : ∀ t w, (binOp .mul t (.complex .f64 x0 x1) (.complex .f64 y0 y1)).run Tryd.prog w = .ok (.complex .f64 m0 m1) w := fun t w => run_complex_mul w t x0 x1 y0 y1 m0 m1 m1'
  clear N s1' s2' d1' d2' m1' t1' t2' l1' l2' k1' k2' r1' v1' q1' q2' fm fs fd bm0 bm1 bs0 bs1 bd0 bd1 E53
  generalize fint pm = Fpm at *
  generalize fint qm = Fqm at *
  generalize fint ps = Fps at *
  generalize fint qs = Fqs at *
  generalize fint pd = Fpd at *
  generalize fint qd = Fqd at *
  go_enter Tryd.func3, Tryd.ntmps3
  go_wp2_with fail
  refine (CA.out _).mono ?_; rintro e w1 ⟨rfl, hb1⟩
  obtain ⟨g1, g2, g3, g4, g5⟩ := alloc3 w (.cells #[Value.int .i32 a0, Value.int .i32 a1] 22) (.cells #[Value.int .i32 b0, Value.int .i32 b1] 22) (.cells #[Value.int .i32 c0, Value.int .i32 c1] 22)
  have hA : Below w.heap.size w w1 := keepA hb1 g5
  have hAd : Hid (Below w.heap.size w w1.drew) := Lib.hid hA.drew
  have ha0 := keepB (p := ⟨w.heap.size, 0, none⟩) hb1 (cell_of_row _ _ 0 _ _ (0, 0) g1)
  have ha1 := keepB (p := ⟨w.heap.size, 1, none⟩) hb1 (cell_of_row _ _ 1 _ _ (0, 0) g1)
  have hc0 := keepB (p := ⟨w.heap.size + 1, 0, none⟩) hb1 (cell_of_row _ _ 0 _ _ (0, 0) g2)
  have hc1 := keepB (p := ⟨w.heap.size + 1, 1, none⟩) hb1 (cell_of_row _ _ 1 _ _ (0, 0) g2)
  have hd0 := keepB (p := ⟨w.heap.size + 1 + 1, 0, none⟩) hb1 (cell_of_row _ _ 0 _ _ (0, 0) g3)
  have hd1 := keepB (p := ⟨w.heap.size + 1 + 1, 1, none⟩) hb1 (cell_of_row _ _ 1 _ _ (0, 0) g3)
  clear g1 g2 g3 g4 g5 hb1
  go_upto_region 3 with fail
  go_region_held3 (fun w' => w'.cell? ⟨w.heap.size, 0, none⟩ = some (.int .i32 a0) ∧ w'.cell? ⟨w.heap.size, 1, none⟩ = some (.int .i32 a1) ∧ w'.cell? ⟨w.heap.size + 1, 0, none⟩ = some (.int .i32 b0) ∧ w'.cell? ⟨w.heap.size + 1, 1, none⟩ = some (.int .i32 b1) ∧ w'.cell? ⟨w.heap.size + 1 + 1, 0, none⟩ = some (.int .i32 c0) ∧ w'.cell? ⟨w.heap.size + 1 + 1, 1, none⟩ = some (.int .i32 c1) ∧ Hid (Below w.heap.size w w'))
    (first
      | (refine ⟨?_, ?_, ?_, ?_, ?_, ?_, ?_⟩ <;> first
           | assumption
           | (exact keepB hb (by assumption))
           | (exact keepH hb (by assumption)))
      | (go_split_ands
         refine ⟨?_, ?_, ?_, ?_, ?_, ?_, ?_⟩ <;> first
           | assumption
           | (exact keepB hb (by assumption))
           | (exact keepH hb (by assumption)))
      | (go_keep; done))
    ((go_simp; go_at_call 5; refine (HN.out _ _ _).mono ?_; rintro e w' ⟨rfl, hb⟩))
  obtain ⟨hx0, hx1, hy0, hy1, hz0, hz1⟩ := HX.out
  rw [hx0, hx1, hy0, hy1, hz0, hz1]
  clear hx0 hx1 hy0 hy1 hz0 hz1 HX HN CA
  rename_i hheld
  have HZ : Hid (Below w.heap.size w w') := hheld.2.2.2.2.2.2
  clear hheld
  go_wp2_with fail
  refine (Cs.out _).mono ?_; rintro e wz ⟨rfl, rfl⟩
  go_wp2_with fail
  refine (Cd.out _).mono ?_; rintro e wz ⟨rfl, rfl⟩
  go_wp2_with fail
  refine (Cm.out _).mono ?_; rintro e wz ⟨rfl, rfl⟩
  go_wp2_with fail
  refine (Cs.out _).mono ?_; rintro e wz ⟨rfl, rfl⟩
  go_wp2_with fail
  refine (Cl.out _).mono ?_; rintro e wz ⟨rfl, rfl⟩
  go_wp2_with fail
  refine (Ct.out _).mono ?_; rintro e wz ⟨rfl, rfl⟩
  go_wp2_with fail
  refine (Ck.out _).mono ?_; rintro e wz ⟨rfl, rfl⟩
  go_wp2_with fail
  refine (Ct.out _).mono ?_; rintro e wz ⟨rfl, rfl⟩
  go_wp2_with fail
  refine (Cr.out _).mono ?_; rintro e wz ⟨rfl, rfl⟩
  go_wp2_with fail
  refine (Cm.out _).mono ?_; rintro e wz ⟨rfl, rfl⟩
  go_wp2_with fail
  refine (Cv.out _).mono ?_; rintro e wz ⟨rfl, rfl⟩
  go_wp2_with fail
  refine (Cq.out _).mono ?_; rintro e wz ⟨rfl, rfl⟩
  go_wp2_with fail
  refine (Cm.out _).mono ?_; rintro e wz ⟨rfl, rfl⟩
  go_wp2_with fail
  refine (Pm.out _).mono ?_; rintro e wz ⟨rfl, rfl⟩
  go_wp2_with fail
  refine (Wm.out _).mono ?_; rintro e w2 ⟨rfl, hb2⟩
  have HZ2 := keepH hb2 HZ
  go_wp2_with fail
  refine (Cs.out _).mono ?_; rintro e wz ⟨rfl, rfl⟩
  go_wp2_with fail
  refine (Ps.out _).mono ?_; rintro e wz ⟨rfl, rfl⟩
  go_wp2_with fail
  refine (Ws.out _).mono ?_; rintro e w3 ⟨rfl, hb3⟩
  have HZ3 := keepH hb3 HZ2
  go_wp2_with fail
  refine (Cd.out _).mono ?_; rintro e wz ⟨rfl, rfl⟩
  go_wp2_with fail
  refine (Pd.out _).mono ?_; rintro e wz ⟨rfl, rfl⟩
  go_wp2_with fail
  refine (Wd.out _).mono ?_; rintro e w4 ⟨rfl, hb4⟩
  have HZ4 := keepH hb4 HZ3
  go_wp2
  go_ret
  exact ⟨rfl, HZ4.out⟩

theorem law_walk (a0 a1 b0 b1 c0 c1 : Int) (ha0 : -2147483648 ≤ a0 ∧ a0 ≤ 2147483647) (ha1 : -2147483648 ≤ a1 ∧ a1 ≤ 2147483647) (hb0 : -2147483648 ≤ b0 ∧ b0 ≤ 2147483647) (hb1 : -2147483648 ≤ b1 ∧ b1 ≤ 2147483647) (hc0 : -2147483648 ≤ c0 ∧ c0 ≤ 2147483647) (hc1 : -2147483648 ≤ c1 ∧ c1 ≤ 2147483647) (w : World) :
    Calls Tryd.prog 3 #[.agg #[.int .i32 a0, .int .i32 a1], .agg #[.int .i32 b0, .int .i32 b1], .agg #[.int .i32 c0, .int .i32 c1]] w fun e w' => e = .returned (.bool true) ∧ Below w.heap.size w w' := by
  have bd : ∀ {x : Int}, -2147483648 ≤ x ∧ x ≤ 2147483647 → Bd 16777216 (x / 128) := fun {x} h => by unfold Bd; omega
  obtain ⟨s, d, m, t, l, l', r, r', v, pm, qm, ps, qs, pd, qd, R⟩ := ring_words (a0 / 128) (a1 / 128) (b0 / 128) (b1 / 128) (c0 / 128) (c1 / 128) (bd ha0) (bd ha1) (bd hb0) (bd hb1) (bd hc0) (bd hc1)
  exact ring_core (fun a => fint (a / 128)) a0 a1 b0 b1 c0 c1 s d m t l l' r r' v pm qm ps qs pd qd R (fun a b w => number_any a b w) w
end Go.Proofs.YtoeeceemoggffaaDoor
