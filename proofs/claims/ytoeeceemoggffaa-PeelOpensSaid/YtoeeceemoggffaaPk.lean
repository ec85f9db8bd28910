/- The law of peeling, with no program in sight: the open cells that no step can shut, and that none are left under Katz's condition. -/
import Derived.Test.YtoeeceemoggffaaLp
import Derived.Test.YtoeeceemoggffaaKz
namespace Go.Proofs.Ytoeeceemoggffaa
set_option linter.unusedSimpArgs false

/-! sets of points of which no line of the given directions holds just one: their extent -/
abbrev Pt := Int × Int
def lin (d c : Pt) : Int := d.2 * c.1 - d.1 * c.2
def crs (d e : Pt) : Int := d.1 * e.2 - d.2 * e.1
def Upper (d : Pt) : Prop := 0 < d.2 ∨ (d.2 = 0 ∧ 0 < d.1)
def Held (l T : List Pt) : Prop := ∀ d ∈ l, ∀ c ∈ T, ∃ c' ∈ T, c' ≠ c ∧ lin d c' = lin d c

theorem max_of (f : Pt → Int) : ∀ (T : List Pt), T ≠ [] → ∃ v ∈ T, ∀ c ∈ T, f c ≤ f v
  | [], h => absurd rfl h
  | [a], _ => ⟨a, by simp, by simp⟩
  | a :: b :: r, _ => by
    obtain ⟨v, hv, hm⟩ := max_of f (b :: r) (by simp)
    by_cases h : f a ≤ f v
    · refine ⟨v, List.mem_cons_of_mem _ hv, fun c hc => ?_⟩
      rcases List.mem_cons.1 hc with rfl | hc
      · exact h
      · exact hm c hc
    · refine ⟨a, by simp, fun c hc => ?_⟩
      rcases List.mem_cons.1 hc with rfl | hc
      · exact Int.le_refl _
      · have := hm c hc
        omega

theorem crs_turn (d e w : Pt) : crs d e * w.2 = lin e w * d.2 - lin d w * e.2 := by
  unfold crs lin
  simp only [Int.mul_sub, Int.sub_mul, Int.mul_assoc, Int.mul_comm, Int.mul_left_comm]
  omega

theorem crs_neg (d e : Pt) : crs e d = -crs d e := by
  unfold crs
  rw [Int.mul_comm e.1, Int.mul_comm e.2]
  omega

theorem upper_trans {d e f : Pt} (hd : Upper d) (he : Upper e) (hf : Upper f) (h1 : 0 < crs d e) (h2 : 0 < crs e f) : 0 < crs d f := by
  have key : crs d f * e.2 = crs d e * f.2 + crs e f * d.2 := by
    unfold crs
    simp only [Int.mul_sub, Int.sub_mul, Int.mul_assoc, Int.mul_comm, Int.mul_left_comm]
    omega
  unfold Upper at *
  have e2 : 0 < e.2 := by
    rcases he with he | ⟨he, he1⟩
    · exact he
    · exfalso
      have h3 : crs d e = -(d.2 * e.1) := by unfold crs; rw [he]; omega
      have h4 : 0 ≤ d.2 * e.1 := Int.mul_nonneg (by omega) (by omega)
      omega
  have f2 : 0 < f.2 := by
    rcases hf with hf | ⟨hf, hf1⟩
    · exact hf
    · exfalso
      have h3 : crs e f = -(e.2 * f.1) := by unfold crs; rw [hf]; omega
      have h4 : 0 ≤ e.2 * f.1 := Int.mul_nonneg (by omega) (by omega)
      omega
  have p1 : 0 < crs d e * f.2 := Int.mul_pos h1 f2
  have p2 : 0 ≤ crs e f * d.2 := Int.mul_nonneg (by omega) (by omega)
  have p3 : 0 < crs d f * e.2 := by omega
  rcases Int.lt_or_le 0 (crs d f) with h | h
  · exact h
  · exfalso
    have := Int.mul_nonneg (show 0 ≤ -crs d f by omega) (show 0 ≤ e.2 by omega)
    rw [Int.neg_mul] at this
    omega

/-- a direction put into a sorted list -/
theorem put_in (d : Pt) (hd : Upper d) : ∀ (l : List Pt), (∀ e ∈ l, Upper e) → (∀ e ∈ l, crs d e ≠ 0) → l.Pairwise (fun a b => 0 < crs a b) →
    ∃ l' : List Pt, l'.Perm (d :: l) ∧ l'.Pairwise (fun a b => 0 < crs a b)
  | [], _, _, _ => ⟨[d], List.Perm.refl _, by simp⟩
  | e :: r, hu, hc, hp => by
    obtain ⟨h1, h2⟩ := List.pairwise_cons.1 hp
    have he := hu e (by simp)
    by_cases h : 0 < crs d e
    · refine ⟨d :: e :: r, List.Perm.refl _, List.pairwise_cons.2 ⟨fun a ha => ?_, hp⟩⟩
      rcases List.mem_cons.1 ha with rfl | ha
      · exact h
      · exact upper_trans hd he (hu a (List.mem_cons_of_mem _ ha)) h (h1 a ha)
    · have h0 := hc e (by simp)
      obtain ⟨l', q1, q2⟩ := put_in d hd r (fun a ha => hu a (List.mem_cons_of_mem _ ha)) (fun a ha => hc a (List.mem_cons_of_mem _ ha)) h2
      refine ⟨e :: l', ((q1.cons e).trans (List.Perm.swap d e r)), List.pairwise_cons.2 ⟨fun a ha => ?_, q2⟩⟩
      rcases List.mem_cons.1 (q1.mem_iff.1 ha) with rfl | ha
      · rw [crs_neg]
        omega
      · exact h1 a ha

theorem sorted_of : ∀ (l : List Pt), (∀ e ∈ l, Upper e) → l.Pairwise (fun a b => crs a b ≠ 0) → ∃ l' : List Pt, l'.Perm l ∧ l'.Pairwise (fun a b => 0 < crs a b)
  | [], _, _ => ⟨[], List.Perm.refl _, by simp⟩
  | d :: r, hu, hp => by
    obtain ⟨h1, h2⟩ := List.pairwise_cons.1 hp
    obtain ⟨l', q1, q2⟩ := sorted_of r (fun a ha => hu a (List.mem_cons_of_mem _ ha)) h2
    obtain ⟨l'', q3, q4⟩ := put_in d (hu d (by simp)) l' (fun a ha => hu a (List.mem_cons_of_mem _ (q1.mem_iff.1 ha))) (fun a ha => h1 a (q1.mem_iff.1 ha)) q2
    exact ⟨l'', q3.trans (q1.cons d), q4⟩

/-- two points of the outermost line, the one at least a step above the other -/
theorem edge (d : Pt) (hu : Upper d) (hg : Nat.gcd d.1.natAbs d.2.natAbs = 1) (T : List Pt) (hT : T ≠ []) (hs : ∀ c ∈ T, ∃ c' ∈ T, c' ≠ c ∧ lin d c' = lin d c) :
    ∃ v ∈ T, ∃ u ∈ T, (∀ c ∈ T, lin d c ≤ lin d v) ∧ lin d u = lin d v ∧ v.2 + d.2 ≤ u.2 := by
  obtain ⟨a, ha, hm⟩ := max_of (lin d) T hT
  obtain ⟨b, hb, hne, hl⟩ := hs a ha
  have gap : a.2 + d.2 ≤ b.2 ∨ b.2 + d.2 ≤ a.2 := by
    have e1 : d.2 * (b.1 - a.1) = d.1 * (b.2 - a.2) := by
      unfold lin at hl
      simp only [Int.mul_sub]
      omega
    have hdvd : d.2 ∣ (b.2 - a.2) := by
      have h2 : d.2 ∣ d.1 * (b.2 - a.2) := ⟨b.1 - a.1, e1.symm⟩
      have h3 : d.2.natAbs ∣ d.1.natAbs * (b.2 - a.2).natAbs := by
        rw [← Int.natAbs_mul]
        exact Int.natAbs_dvd_natAbs.2 h2
      have h4 : Nat.Coprime d.2.natAbs d.1.natAbs := by
        unfold Nat.Coprime
        rw [Nat.gcd_comm]
        exact hg
      exact Int.natAbs_dvd_natAbs.1 (h4.dvd_of_dvd_mul_left h3)
    by_cases h0 : b.2 - a.2 = 0
    · have h5 : d.2 = 0 := by
        rw [h0, Int.mul_zero] at e1
        rcases Int.mul_eq_zero.1 e1 with h | h
        · exact h
        · exact absurd (Prod.ext (by omega) (by omega)) hne
      omega
    · obtain ⟨t, ht⟩ := hdvd
      have hd : 0 ≤ d.2 := by unfold Upper at hu; omega
      rcases Int.lt_or_le 0 t with h | h
      · have : d.2 * 1 ≤ d.2 * t := Int.mul_le_mul_of_nonneg_left (by omega) hd
        omega
      · have h6 : t ≠ 0 := by
          intro h7
          rw [h7, Int.mul_zero] at ht
          exact h0 ht
        have : d.2 * t ≤ d.2 * (-1) := Int.mul_le_mul_of_nonneg_left (by omega) hd
        omega
  rcases gap with g | g
  · exact ⟨a, ha, b, hb, hm, hl, g⟩
  · exact ⟨b, hb, a, ha, fun c hc => by rw [hl]; exact hm c hc, hl.symm, g⟩

theorem chain (T : List Pt) (hT : T ≠ []) : ∀ (l : List Pt) (d : Pt), (∀ e ∈ d :: l, Upper e) → (∀ e ∈ d :: l, Nat.gcd e.1.natAbs e.2.natAbs = 1) → (d :: l).Pairwise (fun a b => 0 < crs a b) → Held (d :: l) T →
    ∃ v ∈ T, ∃ u ∈ T, (∀ c ∈ T, lin d c ≤ lin d v) ∧ v.2 + ((d :: l).map (·.2)).sum ≤ u.2
  | [], d, hu, hg, _, hs => by
    obtain ⟨v, hv, u, hu', hm, _, h⟩ := edge d (hu d (by simp)) (hg d (by simp)) T hT (hs d (by simp))
    exact ⟨v, hv, u, hu', hm, by simpa using h⟩
  | e :: r, d, hu, hg, hp, hs => by
    obtain ⟨h1, h2⟩ := List.pairwise_cons.1 hp
    obtain ⟨v', hv', u', hu', hm', h'⟩ := chain T hT r e (fun a ha => hu a (List.mem_cons_of_mem _ ha)) (fun a ha => hg a (List.mem_cons_of_mem _ ha)) h2 (fun a ha => hs a (List.mem_cons_of_mem _ ha))
    obtain ⟨v, hv, u, huT, hm, hl, h⟩ := edge d (hu d (by simp)) (hg d (by simp)) T hT (hs d (by simp))
    refine ⟨v, hv, u', hu', hm, ?_⟩
    have hD := h1 e (by simp)
    have hud := hu d (by simp)
    have hue := hu e (by simp)
    have hw : 0 ≤ v'.2 - u.2 := by
      have t := crs_turn d e (v'.1 - u.1, v'.2 - u.2)
      have l1 : lin e (v'.1 - u.1, v'.2 - u.2) = lin e v' - lin e u := by unfold lin; simp only [Int.mul_sub]; omega
      have l2 : lin d (v'.1 - u.1, v'.2 - u.2) = lin d v' - lin d u := by unfold lin; simp only [Int.mul_sub]; omega
      rw [l1, l2] at t
      have g1 := hm' u huT
      have g2 := hm v' hv'
      have d0 : 0 ≤ d.2 := by unfold Upper at hud; omega
      have e0 : 0 ≤ e.2 := by unfold Upper at hue; omega
      have k1 := Int.mul_nonneg (show 0 ≤ lin e v' - lin e u by omega) d0
      have k2 := Int.mul_nonneg (show 0 ≤ -(lin d v' - lin d u) by omega) e0
      rw [Int.neg_mul] at k2
      simp only at t
      have k3 : 0 ≤ crs d e * (v'.2 - u.2) := by omega
      rcases Int.lt_or_le (v'.2 - u.2) 0 with hneg | hpos
      · exfalso
        have := Int.mul_pos hD (show 0 < -(v'.2 - u.2) by omega)
        rw [Int.mul_neg] at this
        omega
      · exact hpos
    simp only [List.map_cons, List.sum_cons] at h' ⊢
    omega

theorem perm_sum {l l' : List Int} (h : l.Perm l') : l.sum = l'.sum := by
  induction h with
  | nil => rfl
  | cons x _ ih => simp only [List.sum_cons, ih]
  | swap x y l => simp only [List.sum_cons]; omega
  | trans _ _ h1 h2 => exact h1.trans h2

theorem extent (l : List Pt) (hu : ∀ e ∈ l, Upper e) (hg : ∀ e ∈ l, Nat.gcd e.1.natAbs e.2.natAbs = 1) (hc : l.Pairwise (fun a b => crs a b ≠ 0)) (T : List Pt) (hT : T ≠ []) (hs : Held l T) :
    ∃ v ∈ T, ∃ u ∈ T, v.2 + (l.map (·.2)).sum ≤ u.2 := by
  obtain ⟨l', q1, q2⟩ := sorted_of l hu hc
  have hsum : (l'.map (·.2)).sum = (l.map (·.2)).sum := perm_sum (q1.map _)
  cases l' with
  | nil =>
    cases T with
    | nil => exact absurd rfl hT
    | cons a r =>
      refine ⟨a, by simp, a, by simp, ?_⟩
      rw [← hsum]
      simp
  | cons d r =>
    obtain ⟨v, hv, u, hu', _, h⟩ := chain T hT r d (fun e he => hu e (q1.mem_iff.1 he)) (fun e he => hg e (q1.mem_iff.1 he)) q2 (fun e he => hs e (q1.mem_iff.1 he))
    exact ⟨v, hv, u, hu', by rw [← hsum]; exact h⟩

/-! the open cells that stay -/
def StuckN (n : Nat) (ds : List Pt) (S : Nat → Bool) : Prop := ∀ d ∈ ds, ∀ c, c < n * n → S c = true → ∃ c', c' < n * n ∧ c' ≠ c ∧ S c' = true ∧ lineZ n d c' = lineZ n d c
structure Core (n : Nat) (ds : List Pt) (S : Nat → Bool) : Prop where
  stuck : StuckN n ds S
  great : ∀ T, StuckN n ds T → ∀ c, c < n * n → T c = true → S c = true
theorem StuckN.sub {n : Nat} {ds es : List Pt} {S : Nat → Bool} (h : StuckN n ds S) (hs : ∀ d ∈ es, d ∈ ds) : StuckN n es S := fun d hd => h d (hs d hd)
theorem Core.sub {n : Nat} {ds es : List Pt} {S T : Nat → Bool} (h : Core n ds S) (k : Core n es T) (hs : ∀ d ∈ es, d ∈ ds) : ∀ c, c < n * n → S c = true → T c = true :=
  k.great S (h.stuck.sub hs)
theorem Core.uniq {n : Nat} {ds es : List Pt} {S T : Nat → Bool} (h : Core n ds S) (k : Core n es T) (hs : ∀ d, d ∈ es ↔ d ∈ ds) : ∀ c, c < n * n → S c = T c := fun c hc => by
  have h1 := h.sub k (fun d hd => (hs d).1 hd) c hc
  have h2 := k.sub h (fun d hd => (hs d).2 hd) c hc
  cases hS : S c with
  | true => exact (h1 hS).symm
  | false =>
    cases hT : T c with
    | true => rw [h2 hT] at hS; cases hS
    | false => rfl

def rotD (d : Pt) : Pt := if 0 < d.1 then (-d.2, d.1) else (d.2, -d.1)
def rotP (c : Pt) : Pt := (-c.2, c.1)
theorem lin_rot (d a b : Pt) (h : lin d a = lin d b) : lin (rotD d) (rotP a) = lin (rotD d) (rotP b) := by
  unfold lin at h
  unfold rotD
  split
  · unfold lin rotP
    simp only [Int.mul_neg, Int.neg_mul]
    omega
  · unfold lin rotP
    simp only [Int.mul_neg, Int.neg_mul]
    omega
theorem crs_rot (d e : Pt) (h : crs d e ≠ 0) : crs (rotD d) (rotD e) ≠ 0 := by
  unfold crs at *
  unfold rotD
  have c1 := Int.mul_comm d.1 e.2
  have c2 := Int.mul_comm d.2 e.1
  split <;> split <;> simp only [Int.mul_neg, Int.neg_mul] <;> omega

theorem ok_upper {d : Pt} (h : okD d = true) : Upper d ∧ Nat.gcd d.1.natAbs d.2.natAbs = 1 := by
  obtain ⟨h1, h2, h3, h4, h5⟩ := (okD_iff d.1 d.2).1 h
  refine ⟨?_, h4⟩
  unfold Upper
  by_cases h0 : d.2 = 0
  · exact .inr ⟨h0, by rw [h5 h0]; decide⟩
  · exact .inl (by omega)
theorem ok_rot {d : Pt} (h : okD d = true) : Upper (rotD d) ∧ Nat.gcd (rotD d).1.natAbs (rotD d).2.natAbs = 1 ∧ (rotD d).2 = (d.1.natAbs : Int) := by
  obtain ⟨h1, h2, h3, h4, h5⟩ := (okD_iff d.1 d.2).1 h
  unfold rotD
  split
  · refine ⟨.inl ?_, ?_, ?_⟩
    · assumption
    · rw [Int.natAbs_neg, Nat.gcd_comm]; exact h4
    · show d.1 = _; omega
  · refine ⟨?_, ?_, ?_⟩
    · unfold Upper
      by_cases h0 : d.1 = 0
      · refine .inr ⟨by show -d.1 = 0; omega, ?_⟩
        show 0 < d.2
        rcases Int.lt_or_le 0 d.2 with h6 | h6
        · exact h6
        · exfalso
          have h7 := h5 (by omega)
          omega
      · exact .inl (by show 0 < -d.1; omega)
    · rw [Int.natAbs_neg, Nat.gcd_comm]; exact h4
    · show -d.1 = _; omega
theorem ok_crs {d e : Pt} (hd : okD d = true) (he : okD e = true) (hne : d ≠ e) : crs d e ≠ 0 := by
  obtain ⟨a1, a2, a3, a4, a5⟩ := (okD_iff d.1 d.2).1 hd
  obtain ⟨b1, b2, b3, b4, b5⟩ := (okD_iff e.1 e.2).1 he
  intro h
  have h1 : d.1 * e.2 = d.2 * e.1 := by unfold crs at h; omega
  have h2 : d.1.natAbs * e.2.natAbs = d.2.natAbs * e.1.natAbs := by rw [← Int.natAbs_mul, ← Int.natAbs_mul, h1]
  have g1 : d.2.natAbs ∣ e.2.natAbs := by
    have : Nat.Coprime d.2.natAbs d.1.natAbs := by unfold Nat.Coprime; rw [Nat.gcd_comm]; exact a4
    exact this.dvd_of_dvd_mul_left ⟨e.1.natAbs, h2⟩
  have g2 : e.2.natAbs ∣ d.2.natAbs := by
    have : Nat.Coprime e.2.natAbs e.1.natAbs := by unfold Nat.Coprime; rw [Nat.gcd_comm]; exact b4
    exact this.dvd_of_dvd_mul_right ⟨d.1.natAbs, by rw [← h2, Nat.mul_comm]⟩
  have g3 : d.2.natAbs = e.2.natAbs := Nat.dvd_antisymm g1 g2
  have g4 : d.2 = e.2 := by omega
  by_cases h0 : d.2 = 0
  · exact hne (Prod.ext (by rw [a5 h0, b5 (by omega)]) g4)
  · rw [g4, Int.mul_comm] at h1
    have : d.1 = e.1 := Int.eq_of_mul_eq_mul_left (by omega) h1
    exact hne (Prod.ext this g4)
theorem pairs_of : ∀ {ds : List Pt}, ds.Nodup → (∀ d ∈ ds, okD d = true) → ds.Pairwise (fun a b => crs a b ≠ 0)
  | [], _, _ => List.Pairwise.nil
  | d :: r, hn, ho => by
    obtain ⟨h1, h2⟩ := List.nodup_cons.1 hn
    exact List.pairwise_cons.2 ⟨fun a ha => ok_crs (ho d (by simp)) (ho a (List.mem_cons_of_mem _ ha)) (fun e => h1 (e ▸ ha)), pairs_of h2 (fun a ha => ho a (List.mem_cons_of_mem _ ha))⟩

/-- under Katz's condition no cell stays open -/
theorem core_katz {n : Nat} {ds : List Pt} {S : Nat → Bool} (h : StuckN n ds S) (hn : 0 < n) (hd : ds.Nodup) (ho : ∀ d ∈ ds, okD d = true) (hk : (n : Int) < mw ds ∨ (n : Int) < mh ds) : ∀ c, c < n * n → S c = false := by
  intro c0 hc0
  cases hS : S c0 with
  | false => rfl
  | true =>
    exfalso
    obtain ⟨pt, hpt⟩ : ∃ pt : Nat → Pt, pt = fun i => (((i % n : Nat) : Int), ((i / n : Nat) : Int)) := ⟨_, rfl⟩
    obtain ⟨Cs, hCs⟩ : ∃ Cs : List Nat, Cs = (List.range (n * n)).filter S := ⟨_, rfl⟩
    have mem : ∀ c, c ∈ Cs ↔ c < n * n ∧ S c = true := fun c => by rw [hCs, List.mem_filter, List.mem_range]
    have inj : ∀ a b, pt a = pt b → a = b := fun a b he => by
      rw [hpt] at he
      have h1 := (Prod.mk.inj he).1
      have h2 := (Prod.mk.inj he).2
      have e1 := Nat.div_add_mod a n
      have e2 := Nat.div_add_mod b n
      have h1' : a % n = b % n := by omega
      have h2' : a / n = b / n := by omega
      rw [← e1, ← e2, h1', h2']
    have hl : ∀ d a b, lineZ n d a = lineZ n d b → lin d (pt a) = lin d (pt b) := fun d a b he => by
      unfold lineZ at he
      rw [hpt]
      unfold lin
      show d.2 * ((a % n : Nat) : Int) - d.1 * ((a / n : Nat) : Int) = d.2 * ((b % n : Nat) : Int) - d.1 * ((b / n : Nat) : Int)
      omega
    have hc0m : c0 ∈ Cs := (mem c0).2 ⟨hc0, hS⟩
    have bound : ∀ a, a ∈ Cs → 0 ≤ (pt a).1 ∧ (pt a).1 ≤ n - 1 ∧ 0 ≤ (pt a).2 ∧ (pt a).2 ≤ n - 1 := fun a ha => by
      obtain ⟨h1, _⟩ := (mem a).1 ha
      have h2 : a % n < n := Nat.mod_lt _ hn
      have h3 : a / n < n := Nat.div_lt_of_lt_mul h1
      rw [hpt]
      show 0 ≤ ((a % n : Nat) : Int) ∧ ((a % n : Nat) : Int) ≤ n - 1 ∧ 0 ≤ ((a / n : Nat) : Int) ∧ ((a / n : Nat) : Int) ≤ n - 1
      clear h1
      generalize a % n = x at *
      generalize a / n = y at *
      omega
    have hpw := pairs_of hd ho
    have y1 := extent ds (fun d hd' => (ok_upper (ho d hd')).1) (fun d hd' => (ok_upper (ho d hd')).2) hpw (Cs.map pt) (by
        intro he
        rw [List.map_eq_nil_iff] at he
        rw [he] at hc0m
        cases hc0m) (fun d hd' c hc => by
      obtain ⟨a, ha, rfl⟩ := List.mem_map.1 hc
      obtain ⟨b, hb1, hb2, hb3, hb4⟩ := h d hd' a ((mem a).1 ha).1 ((mem a).1 ha).2
      exact ⟨pt b, List.mem_map_of_mem ((mem b).2 ⟨hb1, hb3⟩), fun he => hb2 (inj _ _ he), hl d b a hb4⟩)
    have x1 := extent (ds.map rotD) (fun d hd' => by obtain ⟨e, he, rfl⟩ := List.mem_map.1 hd'; exact (ok_rot (ho e he)).1) (fun d hd' => by obtain ⟨e, he, rfl⟩ := List.mem_map.1 hd'; exact (ok_rot (ho e he)).2.1)
      (List.pairwise_map.2 (hpw.imp fun {a b} hab => crs_rot a b hab)) (Cs.map fun a => rotP (pt a)) (by
        intro he
        rw [List.map_eq_nil_iff] at he
        rw [he] at hc0m
        cases hc0m) (fun d hd' c hc => by
      obtain ⟨e, he, rfl⟩ := List.mem_map.1 hd'
      obtain ⟨a, ha, rfl⟩ := List.mem_map.1 hc
      obtain ⟨b, hb1, hb2, hb3, hb4⟩ := h e he a ((mem a).1 ha).1 ((mem a).1 ha).2
      refine ⟨rotP (pt b), List.mem_map_of_mem (f := fun a => rotP (pt a)) ((mem b).2 ⟨hb1, hb3⟩), fun h9 => hb2 (inj _ _ ?_), lin_rot e _ _ (hl e b a hb4)⟩
      unfold rotP at h9
      have g1 := (Prod.mk.inj h9).1
      have g2 := (Prod.mk.inj h9).2
      exact Prod.ext g2 (by omega))
    obtain ⟨v, hv, u, hu, hy⟩ := y1
    obtain ⟨v', hv', u', hu', hx⟩ := x1
    obtain ⟨a, ha, rfl⟩ := List.mem_map.1 hv
    obtain ⟨b, hb, rfl⟩ := List.mem_map.1 hu
    obtain ⟨a', ha', rfl⟩ := List.mem_map.1 hv'
    obtain ⟨b', hb', rfl⟩ := List.mem_map.1 hu'
    have B1 := bound a ha
    have B2 := bound b hb
    have B3 := bound a' ha'
    have B4 := bound b' hb'
    have hsum : ((ds.map rotD).map (·.2)).sum = (ds.map fun d => (d.1.natAbs : Int)).sum := by
      rw [List.map_map]
      congr 1
      exact List.map_congr_left fun d hd' => (ok_rot (ho d hd')).2.2
    rw [hsum] at hx
    unfold rotP at hx
    unfold mw mh at hk
    simp only at hx hy
    have hx' : (pt a').1 + (ds.map fun d => (d.1.natAbs : Int)).sum ≤ (pt b').1 := hx
    have hy' : (pt a).2 + (ds.map fun d => d.2).sum ≤ (pt b).2 := hy
    generalize (ds.map fun d => (d.1.natAbs : Int)).sum = X at *
    generalize (ds.map fun d => d.2).sum = Y at *
    omega
end Go.Proofs.Ytoeeceemoggffaa
