/- GhostMakes: the walk. -/
import Derived.Test.YtoeeceemoggffaaRy
import Derived.Test.YtoeeceemoggffaaA13
import Derived.Test.YtoeeceemoggffaaAp
namespace Go.Proofs.Ytoeeceemoggffaa
open Go.RowKit
set_option maxHeartbeats 1600000
set_option maxRecDepth 100000

theorem rSame13_nil (w : World) :
    Calls Try.prog 34 #[gh0, gh0] w fun e w' => e = .returned (.bool true) ∧ Below w.heap.size w w' := by
  have HS := Lib.hid (fun w => rSameList_empty none none 0 0 w)
  go_enter Try.func34, Try.ntmps34
  go_wp2_with fail
  refine (HS.out _).mono ?_; rintro e w1 ⟨rfl, hb⟩
  have HB := Lib.hid ((((Below.refl w.heap.size w).alloc (Nat.le_refl _) (.cells #[.int .i64 0, .int .i64 0, .slice none 0 0] 44)).alloc (by simp) (.cells #[.int .i64 0, .int .i64 0, .slice none 0 0] 44)).trans (hb.mono (by simp <;> omega)))
  clear hb
  go_wp2
  go_ret
  exact ⟨rfl, HB.out⟩

theorem GhostMakes_walk (A : Option Addr) (cap : Nat) (ds : List (Int × Int)) (n : Int) (hn : I64 n) (w : World) (hD : Dirs w A ds) (hcap : ds.length ≤ cap) (hnil : A = none → cap = 0) (h16 : ds.length * 16 ≤ 140737488355328) :
    Calls Try.prog 7 #[.slice A ds.length cap, .int .i64 n] w fun e w' => e = .returned (.bool true) ∧ Below w.heap.size w w' := by
  have C0 := Lib.hid (alive13_walk w)
  have HD := Lib.hid hD
  have HN := Lib.hid hnil
  have HI := Lib.hid hD.i64
  have HLn := Lib.hid hD.len
  have H16 := Lib.hid h16
  have F1 := Lib.hid (fun A cap w hD hcap => Fits_walk n hn A cap ds w hD hcap)
  have F2 := Lib.hid (fun A cap w hD => rFits_walk n hn A cap ds w hD)
  have hlen := hD.len
  obtain ⟨N, hNl⟩ : ∃ N, N = ds.length := ⟨_, rfl⟩
  have M1 := Lib.hid (fun A cap w hD hcap => Make_no A cap ds w hD hcap)
  have M2 := Lib.hid (fun A cap w hD => rMake_no A cap ds w hD)
  have Y1 := Lib.hid (fun A cap w hD hcap => Make_yes A cap ds w hD hcap)
  have Y2 := Lib.hid (fun A cap w hD => rMake_yes A cap ds w hD)
  have hz := mkErr_zero (ds := ds)
  have hwm : mkErr ds = 0 → wN ds * hN ds ≤ 1000000 := by
    intro h
    obtain ⟨_, ht, hX, hY⟩ := mkErr_zero h
    have : wN ds * hN ds ≤ 64 * 64 := Nat.mul_le_mul (by unfold wN; omega) (by unfold Go.Proofs.Ytoeeceemoggffaa.hN; omega)
    omega
  rw [← hNl] at F1 F2 M1 M2 Y1 Y2 hcap hlen ⊢
  have HNe := Lib.hid hNl
  clear hnil h16 hD hNl hz
  generalize hfb : (fits n ds).1 = fb at F1 F2
  generalize hfe : (fits n ds).2 = fe at F1 F2
  generalize hme : mkErr ds = me at M1 M2 Y1 Y2
  have q1 : (fe != fe) = false := by simp
  have q2 : (fb != fb) = false := by simp
  have q3 : (me != me) = false := by simp
  clear hfb hfe
  by_cases he : me = 0
  · subst he
    clear M1 M2
    go_enter Try.func7, Try.ntmps7
    go_wp2_with fail
    refine C0.out.mono ?_; rintro e w1 ⟨rfl, hb1⟩
    have HB1 := Lib.hid hb1
    clear hb1
    go_wp2_with (at_builtin; refine append_dirs (w0 := w) w.heap.size rfl (.tmp 17) (.tmp 18) rfl _ 0 [] A cap ds rfl (by rw [← HNe.out]; rfl) HN.out ?c1 ?c2 ?c3 ?c4 ?c5 ?c6)
    case c1 => exact World.ownsRow_made w1 #[] 0 HB1.out.size (Nat.zero_le _) rfl
    case c2 => have := HB1.out.size; simp; omega
    case c3 => exact HB1.out.alloc HB1.out.size _
    case c4 => exact HD.out.later (HB1.out.alloc HB1.out.size _)
    case c5 => have := H16.out; omega
    case c6 =>
      intro v1 w2 ho hb2 hs2
      obtain ⟨_, A1, cap1, rfl, hcap1, hD1, _⟩ := dirs_of_row ho HI.out HLn.out
      rw [← HNe.out] at hcap1 ⊢
      have HD1 := Lib.hid hD1
      have HB2 := Lib.hid hb2
      clear ho hb2 hD1 hs2
      go_wp2_with fail
      refine (Y1.out _ _ _ HD1.out hcap1 (by trivial)).mono ?_; rintro e w3 ⟨g1, rfl, ho3⟩
      have hb3 := ho3.below
      have HO3 := Lib.hid (ho3.later ((Below.refl w3.heap.size w3).alloc (Nat.le_refl _) (.cells #[.int .i64 (wN ds), .int .i64 (hN ds), .slice (some ⟨g1, 0, none⟩) (wN ds * hN ds) (wN ds * hN ds)] 44)) (Nat.le_refl _))
      clear ho3
      have HD3 := Lib.hid ((HD1.out.later hb3).later ((Below.refl _ _).alloc (Nat.le_refl _) (.cells #[.int .i64 (wN ds), .int .i64 (hN ds), .slice (some ⟨g1, 0, none⟩) (wN ds * hN ds) (wN ds * hN ds)] 44)))
      have HB3 := Lib.hid (HB2.out.trans (hb3.mono HB2.out.size))
      have T3 := Lib.hid (Three.made w3 44 (.int .i64 (wN ds)) (.int .i64 (hN ds)) (.slice (some ⟨g1, 0, none⟩) (wN ds * hN ds) (wN ds * hN ds)))
      have HB3a := Lib.hid (HB3.out.alloc HB3.out.size (.cells #[.int .i64 (wN ds), .int .i64 (hN ds), .slice (some ⟨g1, 0, none⟩) (wN ds * hN ds) (wN ds * hN ds)] 44))
      clear hb3
      go_wp2_with fail
      refine (Y2.out _ _ _ (HD.out.later HB3a.out) (by trivial)).mono ?_; rintro e w4 ⟨g2, rfl, ho4⟩
      have hb4 := ho4.below
      have HO4 := Lib.hid (ho4.later ((Below.refl w4.heap.size w4).alloc (Nat.le_refl _) (.cells #[.int .i64 (wN ds), .int .i64 (hN ds), .slice (some ⟨g2, 0, none⟩) (wN ds * hN ds) (wN ds * hN ds)] 44)) (Nat.le_refl _))
      clear ho4
      have HD4 := Lib.hid ((HD3.out.later hb4).later ((Below.refl _ _).alloc (Nat.le_refl _) (.cells #[.int .i64 (wN ds), .int .i64 (hN ds), .slice (some ⟨g2, 0, none⟩) (wN ds * hN ds) (wN ds * hN ds)] 44)))
      have HB4 := Lib.hid (HB3a.out.trans (hb4.mono HB3a.out.size))
      have T3' := T3.out.later hb4 (by simp)
      have T34 := Lib.hid (T3'.alloc (.cells #[.int .i64 (wN ds), .int .i64 (hN ds), .slice (some ⟨g2, 0, none⟩) (wN ds * hN ds) (wN ds * hN ds)] 44))
      have T4 := Lib.hid (Three.made w4 44 (.int .i64 (wN ds)) (.int .i64 (hN ds)) (.slice (some ⟨g2, 0, none⟩) (wN ds * hN ds) (wN ds * hN ds)))
      have HB4a := Lib.hid (HB4.out.alloc HB4.out.size (.cells #[.int .i64 (wN ds), .int .i64 (hN ds), .slice (some ⟨g2, 0, none⟩) (wN ds * hN ds) (wN ds * hN ds)] 44))
      have HO34 := Lib.hid ((HO3.out.later hb4 (Nat.le_refl _)).later ((Below.refl w4.heap.size w4).alloc (Nat.le_refl _) (.cells #[.int .i64 (wN ds), .int .i64 (hN ds), .slice (some ⟨g2, 0, none⟩) (wN ds * hN ds) (wN ds * hN ds)] 44)) (Nat.le_refl _))
      clear hb4 T3' HO3
      go_wp2_with fail
      refine (F1.out _ _ _ HD4.out hcap1).mono ?_; rintro e w5 ⟨rfl, hb5⟩
      have HD5 := Lib.hid (HD4.out.later hb5)
      have HB5 := Lib.hid (HB4a.out.trans (hb5.mono HB4a.out.size))
      have T35 := Lib.hid (T34.out.later hb5 T34.out.lt)
      have T45 := Lib.hid (T4.out.later hb5 T4.out.lt)
      have HO35 := Lib.hid (HO34.out.later hb5 (Nat.le_refl _))
      have HO45 := Lib.hid (HO4.out.later hb5 (Nat.le_refl _))
      clear hb5 HO34 HO4
      go_wp2_with fail
      refine (F2.out _ _ _ (HD.out.later HB5.out)).mono ?_; rintro e w6 ⟨rfl, hb6⟩
      have HD6 := Lib.hid (HD5.out.later hb6)
      have HB6 := Lib.hid (HB5.out.trans (hb6.mono HB5.out.size))
      obtain ⟨_, t0, t1, t2, _, _, _⟩ := T35.out.later hb6 T35.out.lt
      obtain ⟨_, u0, u1, u2, _, _, _⟩ := T45.out.later hb6 T45.out.lt
      have h3 := HO35.out.later hb6 (Nat.le_refl _)
      have h4 := HO45.out.later hb6 (Nat.le_refl _)
      have HSm := Lib.hid (rSame13_refl (wN ds) (hN ds) (wN ds * hN ds) g1 g2 (wN ds * hN ds) (wN ds * hN ds) (cellsG (gh ds) (wN ds) (wN ds * hN ds)) w6 (by rw [cellsG_length]) (fun j a h => h3.cell (by rw [List.getElem?_map, h]; rfl)) (fun j a h => h4.cell (by rw [List.getElem?_map, h]; rfl)) (hwm hme) h3.lt.2 h4.lt.2)
      clear h3 h4 HO35 HO45
      clear hb6
      go_wp2_with fail
      refine (HSm.out).mono ?_; rintro e w7 ⟨rfl, hb7⟩
      have HD7 := Lib.hid (HD6.out.later hb7)
      have HB7 := Lib.hid (HB6.out.trans (hb7.mono HB6.out.size))
      clear hb7 t0 t1 t2 u0 u1 u2
      go_wp2
      go_loopw [14] (fun i wr => ∃ k : Nat, k ≤ N ∧ i = .int .i64 k ∧ Drawn w7 wr) (fun i _ => N - (intOf i).toNat)
      case atStart => exact ⟨0, Nat.zero_le _, rfl, Drawn.refl _⟩
      case round =>
        obtain ⟨k, hk, rfl, hdr⟩ := hrel
        have HDr := Lib.hid hdr
        clear hdr
        by_cases hlt : k < N
        · obtain ⟨p, q, b, off, hg, hp, hq, rfl, hbl, c0, c1⟩ := (HD.out.later (HB7.out.trans (HDr.out.below _))).get (i := k) (by rw [← HNe.out]; exact hlt)
          obtain ⟨p', q', b', off', hg', _, _, rfl, hbl', d0, d1⟩ := (HD7.out.later (HDr.out.below _)).get (i := k) (by rw [← HNe.out]; exact hlt)
          rw [hg] at hg'
          cases hg'
          clear hg hp hq
          go_wp2
          go_region
          go_wp2
          go_roundw
          case rel => exact ⟨k + 1, by omega, by go_num, HDr.out.more 1⟩
          case measure => simp [intOf]; omega
        · obtain rfl : k = N := by omega
          go_wp2
          go_ret
          exact ⟨rfl, HB7.out.trans (HDr.out.below _)⟩
  · clear Y1 Y2 hwm hme
    go_enter Try.func7, Try.ntmps7
    go_wp2_with fail
    refine C0.out.mono ?_; rintro e w1 ⟨rfl, hb1⟩
    have HB1 := Lib.hid hb1
    clear hb1
    go_wp2_with (at_builtin; refine append_dirs (w0 := w) w.heap.size rfl (.tmp 17) (.tmp 18) rfl _ 0 [] A cap ds rfl (by rw [← HNe.out]; rfl) HN.out ?c1 ?c2 ?c3 ?c4 ?c5 ?c6)
    case c1 => exact World.ownsRow_made w1 #[] 0 HB1.out.size (Nat.zero_le _) rfl
    case c2 => have := HB1.out.size; simp; omega
    case c3 => exact HB1.out.alloc HB1.out.size _
    case c4 => exact HD.out.later (HB1.out.alloc HB1.out.size _)
    case c5 => have := H16.out; omega
    case c6 =>
      intro v1 w2 ho hb2 hs2
      obtain ⟨_, A1, cap1, rfl, hcap1, hD1, _⟩ := dirs_of_row ho HI.out HLn.out
      rw [← HNe.out] at hcap1 ⊢
      have HD1 := Lib.hid hD1
      have HB2 := Lib.hid hb2
      clear ho hb2 hD1 hs2
      go_wp2_with fail
      refine (M1.out _ _ _ HD1.out hcap1 he).mono ?_; rintro e w3 ⟨rfl, hb3⟩
      have HD3 := Lib.hid ((HD1.out.later hb3).later ((Below.refl _ _).alloc (Nat.le_refl _) (.cells #[.int .i64 0, .int .i64 0, .slice none 0 0] 44)))
      have HB3 := Lib.hid (HB2.out.trans (hb3.mono HB2.out.size))
      have T3 := Lib.hid (Three.made w3 44 (.int .i64 0) (.int .i64 0) (.slice none 0 0))
      have HB3a := Lib.hid (HB3.out.alloc HB3.out.size (.cells #[.int .i64 0, .int .i64 0, .slice none 0 0] 44))
      clear hb3
      go_wp2_with fail
      refine (M2.out _ _ _ (HD.out.later HB3a.out) he).mono ?_; rintro e w4 ⟨rfl, hb4⟩
      have HD4 := Lib.hid ((HD3.out.later hb4).later ((Below.refl _ _).alloc (Nat.le_refl _) (.cells #[.int .i64 0, .int .i64 0, .slice none 0 0] 44)))
      have HB4 := Lib.hid (HB3a.out.trans (hb4.mono HB3a.out.size))
      have T3' := T3.out.later hb4 (by simp)
      have T34 := Lib.hid (T3'.alloc (.cells #[.int .i64 0, .int .i64 0, .slice none 0 0] 44))
      have T4 := Lib.hid (Three.made w4 44 (.int .i64 0) (.int .i64 0) (.slice none 0 0))
      have HB4a := Lib.hid (HB4.out.alloc HB4.out.size (.cells #[.int .i64 0, .int .i64 0, .slice none 0 0] 44))
      clear hb4 T3'
      go_wp2_with fail
      refine (F1.out _ _ _ HD4.out hcap1).mono ?_; rintro e w5 ⟨rfl, hb5⟩
      have HD5 := Lib.hid (HD4.out.later hb5)
      have HB5 := Lib.hid (HB4a.out.trans (hb5.mono HB4a.out.size))
      have T35 := Lib.hid (T34.out.later hb5 T34.out.lt)
      have T45 := Lib.hid (T4.out.later hb5 T4.out.lt)
      clear hb5
      go_wp2_with fail
      refine (F2.out _ _ _ (HD.out.later HB5.out)).mono ?_; rintro e w6 ⟨rfl, hb6⟩
      have HD6 := Lib.hid (HD5.out.later hb6)
      have HB6 := Lib.hid (HB5.out.trans (hb6.mono HB5.out.size))
      obtain ⟨_, t0, t1, t2, _, _, _⟩ := T35.out.later hb6 T35.out.lt
      obtain ⟨_, u0, u1, u2, _, _, _⟩ := T45.out.later hb6 T45.out.lt
      clear hb6
      go_wp2_with fail
      refine (rSame13_nil _).mono ?_; rintro e w7 ⟨rfl, hb7⟩
      have HD7 := Lib.hid (HD6.out.later hb7)
      have HB7 := Lib.hid (HB6.out.trans (hb7.mono HB6.out.size))
      clear hb7 t0 t1 t2 u0 u1 u2
      go_wp2
      go_loopw [14] (fun i wr => ∃ k : Nat, k ≤ N ∧ i = .int .i64 k ∧ Drawn w7 wr) (fun i _ => N - (intOf i).toNat)
      case atStart => exact ⟨0, Nat.zero_le _, rfl, Drawn.refl _⟩
      case round =>
        obtain ⟨k, hk, rfl, hdr⟩ := hrel
        have HDr := Lib.hid hdr
        clear hdr
        by_cases hlt : k < N
        · obtain ⟨p, q, b, off, hg, hp, hq, rfl, hbl, c0, c1⟩ := (HD.out.later (HB7.out.trans (HDr.out.below _))).get (i := k) (by rw [← HNe.out]; exact hlt)
          obtain ⟨p', q', b', off', hg', _, _, rfl, hbl', d0, d1⟩ := (HD7.out.later (HDr.out.below _)).get (i := k) (by rw [← HNe.out]; exact hlt)
          rw [hg] at hg'
          cases hg'
          clear hg hp hq
          go_wp2
          go_region
          go_wp2
          go_roundw
          case rel => exact ⟨k + 1, by omega, by go_num, HDr.out.more 1⟩
          case measure => simp [intOf]; omega
        · obtain rfl : k = N := by omega
          go_wp2
          go_ret
          exact ⟨rfl, HB7.out.trans (HDr.out.below _)⟩
end Go.Proofs.Ytoeeceemoggffaa
