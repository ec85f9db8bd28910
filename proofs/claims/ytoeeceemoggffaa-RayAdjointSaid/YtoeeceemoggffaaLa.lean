/- RayAdjoint: the walk. -/
import Derived.Test.YtoeeceemoggffaaA09
import Derived.Test.YtoeeceemoggffaaDt
namespace Go.Proofs.Ytoeeceemoggffaa
open Go.RowKit
set_option maxHeartbeats 3200000
set_option maxRecDepth 100000

theorem rsum_sub (f g : Nat → Int) : ∀ k, rsum (fun i => f i - g i) k = rsum f k - rsum g k
  | 0 => rfl
  | k + 1 => by unfold rsum; rw [rsum_sub f g k]; omega

/-- the plain law, for both parts -/
theorem adjR (ln : Nat → Nat) (A B V U : Nat → Int) (b M : Nat) (h : ∀ i, i < M → ln i < b) :
    rsum (dotR (sumL ln A (List.range M)) (sumL ln B (List.range M)) V U) b = rsum (dotR A B (fun i => V (ln i)) (fun i => U (ln i))) M := by
  have e1 := adjoint ln A V b M h
  have e2 := adjoint ln B U b M h
  show rsum (fun i => _ + _) b = rsum (fun i => _ + _) M
  rw [rsum_add, rsum_add, e1, e2]
theorem adjI (ln : Nat → Nat) (A B V U : Nat → Int) (b M : Nat) (h : ∀ i, i < M → ln i < b) :
    rsum (dotI (sumL ln A (List.range M)) (sumL ln B (List.range M)) V U) b = rsum (dotI A B (fun i => V (ln i)) (fun i => U (ln i))) M := by
  have e1 := adjoint ln B V b M h
  have e2 := adjoint ln A U b M h
  show rsum (fun i => _ - _) b = rsum (fun i => _ - _) M
  rw [rsum_sub, rsum_sub, e1, e2]

theorem natAbs_le {a : Int} {c : Nat} (h : -(c : Int) ≤ a ∧ a ≤ (c : Int)) : a.natAbs ≤ c := by omega

theorem smallL_get {Z : Nat → Int} {len N i : Nat} (h : i < N) : (smallL Z len N)[i]? = some (fint (smallA Z len i), fint (smallB Z len i)) := by
  rw [smallL, List.getElem?_map, List.getElem?_eq_getElem (by simpa using h)]; simp
theorem Cells.below {w w' : World} {B g N : Nat} {X Y : Nat → Int} (h : Cells w g N X Y) (hb : Below B w w') (hg : g < B) : Cells w' g N X Y :=
  fun i hi => by obtain ⟨x, y, c, wx, wy⟩ := h i hi; exact ⟨x, y, cells_below hb hg c, wx, wy⟩
theorem Cells.drawn {w w' : World} {g N : Nat} {X Y : Nat → Int} (h : Cells w g N X Y) (hd : Drawn w w') : Cells w' g N X Y :=
  fun i hi => by obtain ⟨x, y, c, wx, wy⟩ := h i hi; exact ⟨x, y, (hd.cell _).trans c, wx, wy⟩
theorem cells_of_own {B : Nat} {w0 w : World} {g n cap : Nat} {xs : List (Nat × Nat)} {X Y : Nat → Int} {N : Nat} (h : Own B 23 w0 w (.slice (some ⟨g, 0, none⟩) n cap) (xs.map cv)) (hx : ∀ i, i < N → xs[i]? = some (fint (X i), fint (Y i)))
    (hX : ∀ i, i < N → (X i).natAbs ≤ 1048576) (hY : ∀ i, i < N → (Y i).natAbs ≤ 1048576) : Cells w g N X Y :=
  fun i hi => ⟨_, _, h.cell (u := cv (fint (X i), fint (Y i))) (by rw [List.getElem?_map, hx i hi]; rfl), whole_fint (by have := hX i hi; omega), whole_fint (by have := hY i hi; omega)⟩

theorem RayAdjoint_walk (A1 : Option Addr) (len1 cap1 : Nat) (Z1 : Nat → Int) (A2 : Option Addr) (len2 cap2 : Nat) (Z2 : Nat → Int) (p q : Int) (w : World)
    (hb1 : Bytes w A1 len1 Z1) (hb2 : Bytes w A2 len2 Z2) (hp : I64 p) (hq : I64 q) :
    Calls Try.prog 10 #[.slice A1 len1 cap1, .slice A2 len2 cap2, .agg #[.int .i64 p, .int .i64 q]] w fun e w' => e = .returned (.bool true) ∧ Below w.heap.size w w' := by
  have C0 := Lib.hid (fun w => alive09_walk w)
  have B1 := Lib.hid hb1
  have B2 := Lib.hid hb2
  have hl1 := hb1.len
  have T0 := Lib.hid (Two.made w 51 p q)
  have HB0 := Lib.hid ((Below.refl w.heap.size w).alloc (Nat.le_refl _) (.cells #[.int .i64 p, .int .i64 q] 51))
  have rA := smallA_rng hb1.rng
  have rB := smallB_rng hb1.rng
  have RA := Lib.hid rA
  have RB := Lib.hid rB
  have RV := Lib.hid (smallA_rng hb2.rng)
  have RU := Lib.hid (smallB_rng hb2.rng)
  have HP := Lib.hid hp
  have HQ := Lib.hid hq
  have hln2 := hb2.len
  clear hb1 hb2 rA rB hp hq
  go_enter Try.func10, Try.ntmps10
  go_wp2_with fail
  refine (C0.out _).mono ?_; rintro e w1 ⟨rfl, hb⟩
  have T1 := Lib.hid (T0.out.later hb T0.out.lt)
  have HB1 := Lib.hid (HB0.out.trans (hb.mono HB0.out.size))
  clear hb
  go_wp2
  go_loop [7] (fun s => ∃ n : Nat, 1 ≤ n ∧ n ≤ 20 ∧ s = .int .i64 n) (fun s => 20 - (intOf s).toNat)
  case atStart => exact ⟨1, by decide, by decide, rfl⟩
  case round =>
    obtain ⟨n, n1, n2, rfl⟩ := hrel
    obtain ⟨m, hm⟩ : ∃ m, m = 2 * n * n := ⟨_, rfl⟩
    have hm8 : m ≤ 40 * 20 := by rw [hm]; exact Nat.mul_le_mul (by omega) n2
    have hprod : 2 * (n : Int) * (n : Int) = (m : Int) := by rw [hm, Int.natCast_mul, Int.natCast_mul]; rfl
    clear hm
    by_cases hgo : m ≤ len1 ∧ n < 20
    · obtain ⟨g1, g2⟩ := hgo
      go_wp2
      go_round
      case rel => exact ⟨n + 1, by omega, by omega, by go_num⟩
      case measure => simp [intOf]; omega
    · obtain ⟨M, hM⟩ : ∃ M, M = n * n := ⟨_, rfl⟩
      have hM4 : M ≤ 400 := by rw [hM]; exact Nat.mul_le_mul n2 n2
      have hnn : (n : Int) * (n : Int) = (M : Int) := by rw [hM]; exact (Int.natCast_mul _ _).symm
      have HM := Lib.hid hM
      have SM := Lib.hid (fun w hb => small_walk A1 len1 cap1 M Z1 w (by omega) hb)
      have hgo' : ¬ m ≤ len1 ∨ (m ≤ len1 ∧ ¬ n < 20) := by omega
      clear hM hgo
      rcases hgo' with hg | ⟨hg, hg2⟩
      all_goals
        go_wp2_with fail
        refine (SM.out _ (B1.out.later HB1.out)).mono ?_; rintro e w2 ⟨gc, rfl, ho1⟩
        have HB2 := Lib.hid (HB1.out.trans (ho1.below.mono HB1.out.size))
        have hz2 := ho1.below.size
        have hgc := ho1.lt
        have hba := (Below.refl w2.heap.size w2).alloc (Nat.le_refl _) (.cells #[.int .i64 n, .slice (some ⟨gc, 0, none⟩) M M] 59)
        obtain ⟨W2, hW2⟩ : ∃ W2, W2 = w2.alloc (.cells #[.int .i64 n, .slice (some ⟨gc, 0, none⟩) M M] 59) := ⟨_, rfl⟩
        have hs2 : W2.heap.size = w2.heap.size + 1 := by rw [hW2, new_size]
        have TG := PairV.made w2 59 (.int .i64 n) (.slice (some ⟨gc, 0, none⟩) M M)
        rw [← hW2] at hba TG
        have HBa := Lib.hid (HB2.out.trans (hba.mono HB2.out.size))
        have T2 := Lib.hid ((T1.out.later ho1.below T1.out.lt).later hba (by have := T1.out.lt; omega))
        have O1 := Lib.hid (ho1.later hba (Nat.le_refl _))
        have HTG := Lib.hid TG
        clear ho1 hba
        go_upto_region 7 with fail
        rw [← hW2]
        have HW2 := Lib.hid hW2
        clear hW2
        have hcell : ∀ i, i < M → W2.cell? ⟨gc, i, none⟩ = some (cv (fint (smallA Z1 len1 i), fint (smallB Z1 len1 i))) := fun i hi => O1.out.cell (by rw [List.getElem?_map, smallL_get hi]; rfl)
        have HCell := Lib.hid hcell
        obtain ⟨_, d0, d1, _, _⟩ := T2.out
        obtain ⟨_, a0, a1, _, _⟩ := TG
        clear hcell
        by_cases hok : okD (p, q) = true
        · have CP := Lib.hid (Project_yes n M gc M p q (smallA Z1 len1) (smallB Z1 len1) W2 HM.out n1 (by omega) hok RA.out RB.out (by omega) HCell.out)
          obtain ⟨b, hb⟩ : ∃ b, b = binsN n (p, q) := ⟨_, rfl⟩
          have hb4 : b ≤ 2017 := by rw [hb]; exact binsN_le hok (by omega)
          rw [← hb] at CP
          have HBn := Lib.hid hb
          have CSp := Lib.hid (fun gb w hg hc => Spread_walk n M gb b b p q (fun j => (fint (smallA Z2 len2 j), fint (smallB Z2 len2 j))) w HM.out n1 (by omega) hok HBn.out hg hc)
          have hln : ∀ i, i < M → lineN n (p, q) i < b := fun i hi => by rw [HBn.out]; exact lineN_lt HM.out hok hi
          have HLn := Lib.hid hln
          have hsA : ∀ j, (sumL (lineN n (p, q)) (smallA Z1 len1) (List.range M) j).natAbs ≤ 1048576 := fun j => by
            have := sumL_bound (ln := lineN n (p, q)) (c := 128) (by decide) RA.out j (List.range M)
            rw [List.length_range] at this
            omega
          have hsB : ∀ j, (sumL (lineN n (p, q)) (smallB Z1 len1) (List.range M) j).natAbs ≤ 1048576 := fun j => by
            have := sumL_bound (ln := lineN n (p, q)) (c := 128) (by decide) RB.out j (List.range M)
            rw [List.length_range] at this
            omega
          have HSA := Lib.hid hsA
          have HSB := Lib.hid hsB
          have SB := Lib.hid (fun w hb => small_walk A2 len2 cap2 b Z2 w (by omega) hb)
          have hbne : ((b : Int) != (b : Int)) = false := by simp
          clear hok hb hln hsA hsB
          go_wp2_with fail
          refine CP.out.mono ?_; rintro e w3 ⟨gp, rfl, ho3⟩
          have hz3 := ho3.below.size
          have hgp := ho3.lt
          have hba := (Below.refl w3.heap.size w3).alloc (Nat.le_refl _) (.cells #[.int .i64 p, .int .i64 q, .slice (some ⟨gp, 0, none⟩) b b] 61)
          obtain ⟨W3, hW3⟩ : ∃ W3, W3 = w3.alloc (.cells #[.int .i64 p, .int .i64 q, .slice (some ⟨gp, 0, none⟩) b b] 61) := ⟨_, rfl⟩
          have hs3 : W3.heap.size = w3.heap.size + 1 := by rw [hW3, new_size]
          have TP := Three.made w3 61 (.int .i64 p) (.int .i64 q) (.slice (some ⟨gp, 0, none⟩) b b)
          rw [← hW3] at hba TP
          have HB3 := Lib.hid ((HBa.out.trans (ho3.below.mono HBa.out.size)).trans (hba.mono (by have := HBa.out.size; omega)))
          have hcp : Cells W3 gp b (sumL (lineN n (p, q)) (smallA Z1 len1) (List.range M)) (sumL (lineN n (p, q)) (smallB Z1 len1) (List.range M)) :=
            cells_of_own (ho3.later hba (Nat.le_refl _)) (fun i hi => binsC_get _ _ _ _ hi) (fun i _ => HSA.out i) (fun i _ => HSB.out i)
          have hcg : Cells W3 gc M (smallA Z1 len1) (smallB Z1 len1) :=
            cells_of_own ((O1.out.later ho3.below (Nat.le_refl _)).later hba (Nat.le_refl _)) (fun i hi => smallL_get hi) (fun i _ => by have := RA.out i; omega) (fun i _ => by have := RB.out i; omega)
          have T3 := Lib.hid ((T2.out.later ho3.below T2.out.lt).later hba (by have := T2.out.lt; omega))
          have TG3 := Lib.hid ((HTG.out.later ho3.below HTG.out.lt).later hba (by have := HTG.out.lt; omega))
          have CP3 := Lib.hid hcp
          have CG3 := Lib.hid hcg
          have TP3 := Lib.hid TP
          clear ho3 hba hcp hcg d0 d1 a0 a1
          go_upto_region 8 with fail
          rw [← hW3]
          have HW3 := Lib.hid hW3
          clear hW3
          obtain ⟨_, p0, p1, p2, _, _, _⟩ := TP
          go_wp2_with fail
          refine (SB.out _ (B2.out.later HB3.out)).mono ?_; rintro e w4 ⟨gl, rfl, ho4⟩
          have hz4 := ho4.below.size
          have hgl := ho4.lt
          have HB4 := Lib.hid (HB3.out.trans (ho4.below.mono HB3.out.size))
          have hcl : Cells w4 gl b (smallA Z2 len2) (smallB Z2 len2) := cells_of_own ho4 (fun i hi => smallL_get hi) (fun i _ => by have := RV.out i; omega) (fun i _ => by have := RU.out i; omega)
          have hclw : ∀ j, j < b → w4.cell? ⟨gl, j, none⟩ = some (cv ((fun j => (fint (smallA Z2 len2 j), fint (smallB Z2 len2 j))) j)) := fun j hj => ho4.cell (by rw [List.getElem?_map, smallL_get hj]; rfl)
          have CL4 := Lib.hid hcl
          have CLw := Lib.hid hclw
          have CP4 := Lib.hid (CP3.out.below ho4.below (by omega))
          have CG4 := Lib.hid (CG3.out.below ho4.below (by omega))
          have T4 := Lib.hid (T3.out.later ho4.below T3.out.lt)
          have TG4 := Lib.hid (TG3.out.later ho4.below TG3.out.lt)
          have TP4 := Lib.hid (TP3.out.later ho4.below TP3.out.lt)
          clear ho4 hcl hclw p0 p1 p2
          obtain ⟨_, d0, d1, _, _⟩ := T4.out
          go_wp2_with fail
          refine (CSp.out gl _ (by omega) CLw.out).mono ?_; rintro e w5 ⟨gf, rfl, ho5⟩
          have hz5 := ho5.below.size
          have hgf := ho5.lt
          have hba := (Below.refl w5.heap.size w5).alloc (Nat.le_refl _) (.cells #[.int .i64 n, .slice (some ⟨gf, 0, none⟩) M M] 59)
          obtain ⟨W5, hW5⟩ : ∃ W5, W5 = w5.alloc (.cells #[.int .i64 n, .slice (some ⟨gf, 0, none⟩) M M] 59) := ⟨_, rfl⟩
          have hs5 : W5.heap.size = w5.heap.size + 1 := by rw [hW5, new_size]
          have TF := PairV.made w5 59 (.int .i64 n) (.slice (some ⟨gf, 0, none⟩) M M)
          rw [← hW5] at hba TF
          have HB5 := Lib.hid ((HB4.out.trans (ho5.below.mono HB4.out.size)).trans (hba.mono (by have := HB4.out.size; omega)))
          have hcf : Cells W5 gf M (fun i => smallA Z2 len2 (lineN n (p, q) i)) (fun i => smallB Z2 len2 (lineN n (p, q) i)) :=
            cells_of_own (ho5.later hba (Nat.le_refl _)) (fun i hi => by rw [List.getElem?_map, List.getElem?_eq_getElem (by simpa using hi)]; simp) (fun i _ => by have := RV.out (lineN n (p, q) i); omega) (fun i _ => by have := RU.out (lineN n (p, q) i); omega)
          have CF5 := Lib.hid hcf
          have CP5 := Lib.hid ((CP4.out.below ho5.below (by omega)).below hba (by omega))
          have CG5 := Lib.hid ((CG4.out.below ho5.below (by omega)).below hba (by omega))
          have CL5 := Lib.hid ((CL4.out.below ho5.below (by omega)).below hba (by omega))
          have TG5 := Lib.hid ((TG4.out.later ho5.below TG4.out.lt).later hba (by have := TG4.out.lt; omega))
          have TP5 := (TP4.out.later ho5.below TP4.out.lt).later hba (by have := TP4.out.lt; omega)
          have HTF := Lib.hid TF
          clear ho5 hba hcf d0 d1 TF
          obtain ⟨_, p0, p1, p2, _, _, _⟩ := TP5
          have D1 := Lib.hid (Dot_walk b gp b gl b _ _ _ _ W5 (by omega) CP5.out CL5.out (fun i _ => ⟨HSA.out i, HSB.out i⟩) (fun i _ => ⟨by have := RV.out i; omega, by have := RU.out i; omega⟩))
          have D2 := Lib.hid (fun w hg hf => Dot_walk M gc M gf M (smallA Z1 len1) (smallB Z1 len1) (fun i => smallA Z2 len2 (lineN n (p, q) i)) (fun i => smallB Z2 len2 (lineN n (p, q) i)) w (by omega) hg hf (fun i _ => ⟨by have := RA.out i; omega, by have := RB.out i; omega⟩) (fun i _ => ⟨by have := RV.out (lineN n (p, q) i); omega, by have := RU.out (lineN n (p, q) i); omega⟩))
          go_upto_region 12 with fail
          rw [← hW5]
          have HW5 := Lib.hid hW5
          clear hW5
          go_wp2_with fail
          refine D1.out.mono ?_; rintro e w6 ⟨re1, im1, rfl, wr1, wi1, hd6⟩
          obtain ⟨_, a0, a1, _, _⟩ := TG5.out.later (hd6.below (w2.heap.size + 1)) (by omega)
          obtain ⟨_, f0, f1, _, _⟩ := HTF.out.later (hd6.below (w5.heap.size + 1)) (by omega)
          have CG6 := Lib.hid (CG5.out.drawn hd6)
          have CF6 := Lib.hid (CF5.out.drawn hd6)
          have HB6 := Lib.hid (HB5.out.trans (hd6.below _))
          have WR1 := Lib.hid wr1
          have WI1 := Lib.hid wi1
          clear hd6 wr1 wi1 p0 p1 p2
          go_wp2_with fail
          refine (D2.out _ CG6.out CF6.out).mono ?_; rintro e w7 ⟨re2, im2, rfl, wr2, wi2, hd7⟩
          have HB7 := Lib.hid (HB6.out.trans (hd7.below _))
          have wr1 := WR1.out
          have wi1 := WI1.out
          rw [adjR _ _ _ _ _ _ _ HLn.out] at wr1
          rw [adjI _ _ _ _ _ _ _ HLn.out] at wi1
          have qr := feq_whole wr1 wr2
          have qi := feq_whole wi1 wi2
          clear wr1 wi1 wr2 wi2 hd7 a0 a1 f0 f1
          go_wp2
          go_ret
          exact ⟨rfl, HB7.out⟩
        · have CP := Lib.hid (Project_no n M gc M p q (smallA Z1 len1) (smallB Z1 len1) W2 HM.out n1 (by omega) (by simpa using hok) HP.out HQ.out RA.out RB.out (by omega) HCell.out)
          clear hok
          go_wp2_with fail
          refine CP.out.mono ?_; rintro e w3 ⟨rfl, hb3⟩
          have HB3 := Lib.hid (HBa.out.trans (hb3.mono HBa.out.size))
          clear hb3
          go_wp2
          go_ret
          exact ⟨rfl, HB3.out.alloc HB3.out.size _⟩
end Go.Proofs.Ytoeeceemoggffaa
