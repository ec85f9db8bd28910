/- The walk of the law CxRing: it returns true at all numbers (the door seat). -/
import Derived.Test.YtoeeceemoggffaaDoorDa
import Derived.Deep.RegionHeld3
namespace Go.Proofs.YtoeeceemoggffaaDoor
open Go.RowKit
set_option maxHeartbeats 3200000
set_option maxRecDepth 100000

/-! the ring on words -/
structure CW (p : Nat × Nat) (a b : Int) : Prop where
  re : Whole p.1 a
  im : Whole p.2 b
def B53 (a : Int) : Prop := a.natAbs < 2 ^ 53

theorem cw_add {p q : Nat × Nat} {a b c d : Int} (h : CW p a b) (k : CW q c d) (h1 : B53 (a + c)) (h2 : B53 (b + d)) : ∃ r : Nat × Nat, fadd p.1 q.1 = some r.1 ∧ fadd p.2 q.2 = some r.2 ∧ CW r (a + c) (b + d) := by
  obtain ⟨r, e1, w1⟩ := whole_add h.re k.re h1
  obtain ⟨s, e2, w2⟩ := whole_add h.im k.im h2
  exact ⟨(r, s), e1, e2, w1, w2⟩
theorem cw_sub {p q : Nat × Nat} {a b c d : Int} (h : CW p a b) (k : CW q c d) (h1 : B53 (a - c)) (h2 : B53 (b - d)) : ∃ r : Nat × Nat, fsub p.1 q.1 = some r.1 ∧ fsub p.2 q.2 = some r.2 ∧ CW r (a - c) (b - d) := by
  obtain ⟨r, e1, w1⟩ := whole_sub h.re k.re h1
  obtain ⟨s, e2, w2⟩ := whole_sub h.im k.im h2
  exact ⟨(r, s), e1, e2, w1, w2⟩
def Bd (k : Int) (a : Int) : Prop := -k ≤ a ∧ a ≤ k
theorem Bd.big {k n : Int} {x y : Int} (hx : Bd k x) (hy : Bd n y) (h : 0 ≤ k) : Bd (k * n) (x * y) := by
  unfold Bd at *
  have h1 : x.natAbs ≤ k.natAbs := by omega
  have h2 : y.natAbs ≤ n.natAbs := by omega
  have h3 := Nat.mul_le_mul h1 h2
  rw [← Int.natAbs_mul, ← Int.natAbs_mul] at h3
  have h0 : 0 ≤ k * n := Int.mul_nonneg h (by omega)
  generalize x * y = z at *
  generalize k * n = u at *
  omega
theorem Bd.b53 {k a : Int} (h : Bd k a) (hk : k ≤ 9007199254740991) : B53 a := by
  unfold Bd at h
  have e : (2 : Nat) ^ 53 = 9007199254740992 := by decide
  unfold B53
  rw [e]
  omega
theorem Bd.add {k n a b : Int} (h : Bd k a) (g : Bd n b) : Bd (k + n) (a + b) := by unfold Bd at *; omega
theorem Bd.sub {k n a b : Int} (h : Bd k a) (g : Bd n b) : Bd (k + n) (a - b) := by unfold Bd at *; omega
theorem Bd.nat {k a : Int} (h : Bd k a) (n : Nat) (hk : k ≤ n) : a.natAbs ≤ n := by unfold Bd at h; omega
theorem cw_mul {p q : Nat × Nat} {a b c d k n : Int} (h : CW p a b) (g : CW q c d) (ha : Bd k a) (hb : Bd k b) (hc : Bd n c) (hd : Bd n d) (h0 : 0 ≤ k) (hk : k * n + k * n ≤ 9007199254740991) (hm : k * n ≤ 9007199254740991) :
    ∃ r : Nat × Nat, cmul p q = some r ∧ CW r (a * c - b * d) (a * d + b * c) := by
  have m1 := ha.big hc h0
  have m2 := hb.big hd h0
  have m3 := ha.big hd h0
  have m4 := hb.big hc h0
  obtain ⟨r1, e1, w1⟩ := whole_mul h.re g.re (m1.b53 hm)
  obtain ⟨r2, e2, w2⟩ := whole_mul h.im g.im (m2.b53 hm)
  obtain ⟨r3, e3, w3⟩ := whole_mul h.re g.im (m3.b53 hm)
  obtain ⟨r4, e4, w4⟩ := whole_mul h.im g.re (m4.b53 hm)
  obtain ⟨r5, e5, w5⟩ := whole_sub w1 w2 ((m1.sub m2).b53 hk)
  obtain ⟨r6, e6, w6⟩ := whole_add w3 w4 ((m3.add m4).b53 hk)
  exact ⟨(r5, r6), by unfold cmul; rw [e1]; simp only [Option.bind_some]; rw [e2]; simp only [Option.bind_some]; rw [e5]; simp only [Option.bind_some]; rw [e3]; simp only [Option.bind_some]; rw [e4]; simp only [Option.bind_some]; rw [e6]; rfl, w5, w6⟩
theorem cw_plain {p : Nat × Nat} {a b : Int} (h : CW p a b) (h1 : B53 a) (h2 : B53 b) : plain2 p = (fint a, fint b) := by
  unfold plain2
  rw [h.re.plain h1, h.im.plain h2]
def Eq2 (p q : Nat × Nat) : Prop := (FloatKind.f64.format.order p.1 q.1 == some Ordering.eq) = true ∧ (FloatKind.f64.format.order p.2 q.2 == some Ordering.eq) = true
theorem cw_eq {p q : Nat × Nat} {a b : Int} (h : CW p a b) (k : CW q a b) : Eq2 p q := ⟨feq_whole h.re k.re, feq_whole h.im k.im⟩

/-- what the law asks of the words -/
structure RingW (x y z s d m t l l' r r' v : Nat × Nat) (pm qm ps qs pd qd : Int) : Prop where
  s1 : fadd x.1 y.1 = some s.1
  s2 : fadd x.2 y.2 = some s.2
  d1 : fsub x.1 y.1 = some d.1
  d2 : fsub x.2 y.2 = some d.2
  m1 : cmul x y = some m
  t1 : fadd y.1 z.1 = some t.1
  t2 : fadd y.2 z.2 = some t.2
  l1 : fadd s.1 z.1 = some l.1
  l2 : fadd s.2 z.2 = some l.2
  k1 : fadd x.1 t.1 = some l'.1
  k2 : fadd x.2 t.2 = some l'.2
  r1 : cmul x t = some r
  v1 : cmul x z = some v
  q1 : fadd m.1 v.1 = some r'.1
  q2 : fadd m.2 v.2 = some r'.2
  es : Eq2 s s
  ed : Eq2 d d
  em : Eq2 m m
  el : Eq2 l l'
  er : Eq2 r r'
  fm : plain2 m = (fint pm, fint qm)
  fs : plain2 s = (fint ps, fint qs)
  fd : plain2 d = (fint pd, fint qd)
  bm : pm.natAbs ≤ 4503599627370496 ∧ qm.natAbs ≤ 4503599627370496
  bs : ps.natAbs ≤ 67108864 ∧ qs.natAbs ≤ 67108864
  bd : pd.natAbs ≤ 67108864 ∧ qd.natAbs ≤ 67108864

theorem ring_words (A B C D E F : Int) (hA : Bd 16777216 A) (hB : Bd 16777216 B) (hC : Bd 16777216 C) (hD : Bd 16777216 D) (hE : Bd 16777216 E) (hF : Bd 16777216 F) :
    ∃ s d m t l l' r r' v pm qm ps qs pd qd, RingW (fint A, fint B) (fint C, fint D) (fint E, fint F) s d m t l l' r r' v pm qm ps qs pd qd := by
  have wx : CW (fint A, fint B) A B := ⟨whole_fint (hA.b53 (by decide)), whole_fint (hB.b53 (by decide))⟩
  have wy : CW (fint C, fint D) C D := ⟨whole_fint (hC.b53 (by decide)), whole_fint (hD.b53 (by decide))⟩
  have wz : CW (fint E, fint F) E F := ⟨whole_fint (hE.b53 (by decide)), whole_fint (hF.b53 (by decide))⟩
  have a1 := hA.add hC
  have a2 := hB.add hD
  have a3 := hA.sub hC
  have a4 := hB.sub hD
  have a5 := hC.add hE
  have a6 := hD.add hF
  have M0 : (0 : Int) ≤ 16777216 := by decide
  have b1 := (hA.big hC M0).sub (hB.big hD M0)
  have b2 := (hA.big hD M0).add (hB.big hC M0)
  have b3 := (hA.big hE M0).sub (hB.big hF M0)
  have b4 := (hA.big hF M0).add (hB.big hE M0)
  obtain ⟨s, s1, s2, ws⟩ := cw_add wx wy (a1.b53 (by decide)) (a2.b53 (by decide))
  obtain ⟨d, d1, d2, wd⟩ := cw_sub wx wy (a3.b53 (by decide)) (a4.b53 (by decide))
  obtain ⟨m, m1, wm⟩ := cw_mul wx wy hA hB hC hD M0 (by decide) (by decide)
  obtain ⟨t, t1, t2, wt⟩ := cw_add wy wz (a5.b53 (by decide)) (a6.b53 (by decide))
  obtain ⟨l, l1, l2, wl⟩ := cw_add ws wz ((a1.add hE).b53 (by decide)) ((a2.add hF).b53 (by decide))
  obtain ⟨l', k1, k2, wk⟩ := cw_add wx wt ((hA.add a5).b53 (by decide)) ((hB.add a6).b53 (by decide))
  obtain ⟨r, r1, wr⟩ := cw_mul wx wt hA hB a5 a6 M0 (by decide) (by decide)
  obtain ⟨v, v1, wv⟩ := cw_mul wx wz hA hB hE hF M0 (by decide) (by decide)
  obtain ⟨r', q1, q2, wq⟩ := cw_add wm wv ((b1.add b3).b53 (by decide)) ((b2.add b4).b53 (by decide))
  have f1 : A + C + E = A + (C + E) := Int.add_assoc _ _ _
  have f2 : B + D + F = B + (D + F) := Int.add_assoc _ _ _
  rw [f1, f2] at wl
  have g1 : A * C - B * D + (A * E - B * F) = A * (C + E) - B * (D + F) := by rw [Int.mul_add, Int.mul_add]; omega
  have g2 : A * D + B * C + (A * F + B * E) = A * (D + F) + B * (C + E) := by rw [Int.mul_add, Int.mul_add]; omega
  rw [g1, g2] at wq
  exact ⟨s, d, m, t, l, l', r, r', v, _, _, _, _, _, _, ⟨s1, s2, d1, d2, m1, t1, t2, l1, l2, k1, k2, r1, v1, q1, q2,
    cw_eq ws ws, cw_eq wd wd, cw_eq wm wm, cw_eq wl wk, cw_eq wr wq,
    cw_plain wm (b1.b53 (by decide)) (b2.b53 (by decide)), cw_plain ws (a1.b53 (by decide)) (a2.b53 (by decide)), cw_plain wd (a3.b53 (by decide)) (a4.b53 (by decide)),
    ⟨b1.nat _ (by decide), b2.nat _ (by decide)⟩, ⟨a1.nat _ (by decide), a2.nat _ (by decide)⟩, ⟨a3.nat _ (by decide), a4.nat _ (by decide)⟩⟩⟩
end Go.Proofs.YtoeeceemoggffaaDoor
