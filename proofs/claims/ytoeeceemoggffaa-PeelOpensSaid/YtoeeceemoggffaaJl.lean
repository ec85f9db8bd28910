/- PeelOpens: the walk. -/
import Derived.Test.YtoeeceemoggffaaJf
import Derived.Test.YtoeeceemoggffaaAp
namespace Go.Proofs.Ytoeeceemoggffaa
open Go.RowKit Go.Lib
set_option maxHeartbeats 1600000
set_option maxRecDepth 100000

theorem Same_nil (w : World) : Calls Try.prog 47 #[.slice none 0 0, .slice none 0 0] w fun e w' => e = .returned (.bool true) ∧ Below w.heap.size w w' := by
  go_enter Try.func47, Try.ntmps47
  go_wp2_with fail
  go_loopw [5] (fun i wr => i = .int .i64 0 ∧ wr = w) (fun _ _ => 0)
  case atStart => exact ⟨rfl, rfl⟩
  case round =>
    obtain ⟨rfl, rfl⟩ := hrel
    go_wp2
    go_ret
    exact ⟨rfl, Below.refl _ _⟩

theorem PeelOpens_walk (n : Int) (hn : I64 n) (A : Option Addr) (cap : Nat) (ds : List (Int × Int)) (w : World) (hD : Dirs w A ds) (_hcap : ds.length ≤ cap) (hnil : A = none → cap = 0) (h16 : ds.length * 16 ≤ 140737488355328) :
    Calls Try.prog 11 #[.int .i64 n, .slice A ds.length cap] w fun e w' => e = .returned (.bool true) ∧ Below w.heap.size w w' := by
  have C0 := Lib.hid (alive14_walk w)
  have HD := Lib.hid hD
  have HN := Lib.hid hnil
  have HI := Lib.hid hD.i64
  have HLn := Lib.hid hD.len
  have H16 := Lib.hid h16
  obtain ⟨N, hNl⟩ : ∃ N, N = ds.length := ⟨_, rfl⟩
  by_cases he : openE n ds = 0
  · obtain ⟨h1, h2, h3, h4⟩ := openE_zero.1 he
    obtain ⟨m, rfl⟩ : ∃ m : Nat, n = (m : Int) := ⟨n.toNat, by omega⟩
    have C1 := Lib.hid (fun A cap w hD => Open_yes (A := A) (capd := cap) (ds := ds) (w := w) m hD (by omega) (by omega) h3 h4)
    have C2 := Lib.hid (fun A cap w hD => rOpen_yes (A := A) (capd := cap) (ds := ds) (w := w) m hD (by omega) (by omega) h3 h4)
    have C3 := Lib.hid (fun A cap w hD => Left_yes (A := A) (capd := cap) (ds := ds) (w := w) m hD (by omega) (by omega) h3 h4)
    have C4 := Lib.hid (fun A cap w hD => rLeft_yes (A := A) (capd := cap) (ds := ds) (w := w) m hD (by omega) (by omega) h3 h4)
    obtain ⟨M, hM⟩ : ∃ M, M = m * m := ⟨_, rfl⟩
    have hM4 : M ≤ 4096 := by rw [hM]; exact Nat.mul_le_mul (show m ≤ 64 by omega) (show m ≤ 64 by omega)
    have hN64 : N ≤ 64 := by omega
    rw [← hM] at C1 C2 C3 C4
    rw [← hNl] at C1 C2 C3 C4 ⊢
    have HNe := Lib.hid hNl
    have HMe := Lib.hid hM
    have HU : Hid (∀ S T, Core m ds S → Core m ds T → ∀ c, c < M → S c = T c) := Lib.hid (fun S T hS hT c hc => hS.uniq hT (fun d => Iff.rfl) c (by rw [← hM]; exact hc))
    clear hD he h1 h2 h3 h4 hM hNl hnil h16
    go_enter Try.func11, Try.ntmps11
    go_wp2_with fail
    refine C0.out.mono ?_; rintro e w1 ⟨rfl, hb1⟩
    have HB1 := Lib.hid hb1
    clear hb1
    go_wp2_with (at_builtin; refine append_dirs (w0 := w) w.heap.size rfl (.tmp 20) (.tmp 21) rfl _ 0 [] A cap ds rfl (by rw [← HNe.out]; rfl) HN.out ?c1 ?c2 ?c3 ?c4 ?c5 ?c6)
    case c1 => exact World.ownsRow_made w1 #[] 0 HB1.out.size (Nat.zero_le _) rfl
    case c2 => have := HB1.out.size; simp; omega
    case c3 => exact HB1.out.alloc HB1.out.size _
    case c4 => exact HD.out.later (HB1.out.alloc HB1.out.size _)
    case c5 => have := H16.out; omega
    case c6 =>
      intro v1 w2 ho hb2 hs2
      obtain ⟨_, A1, cap1, rfl, hcap1, hD1, _⟩ := dirs_of_row ho HI.out HLn.out
      rw [← HNe.out] at hcap1 ⊢
      have HC1 := Lib.hid (C1.out A1 cap1 w2 hD1)
      have HB2 := Lib.hid hb2
      clear ho hb2 hs2 hD1
      go_wp2_with fail
      refine HC1.out.mono ?_; rintro e w3 ⟨o1, S1, rfl, hol1, hr1, hc1, hb3⟩
      have HB3 := Lib.hid (HB2.out.trans (hb3.mono HB2.out.size))
      have ho1 : w.heap.size ≤ o1 := Nat.le_trans HB2.out.size hol1
      have HR1 := Lib.hid hr1
      have HS1 := Lib.hid hc1
      have HC2 := Lib.hid (C2.out A cap w3 (HD.out.later HB3.out))
      clear hb3 hr1 hc1 HC1 hol1
      go_wp2_with fail
      refine HC2.out.mono ?_; rintro e w4 ⟨o2, S2, rfl, hol2, hr2, hc2, hb4⟩
      have HB4 := Lib.hid (HB3.out.trans (hb4.mono HB3.out.size))
      have ho12 : o1 ≠ o2 := by have := HR1.out.lt; omega
      have HR14 := Lib.hid (HR1.out.of_block (hb4.block o1 HR1.out.lt))
      have HR2 := Lib.hid hr2
      have HS2 := Lib.hid hc2
      clear hb4 hr2 hc2 HC2 hol2 HR1
      go_wp2_with (at_builtin; refine append_dirs (w0 := w4) w4.heap.size rfl (.tmp 34) (.tmp 35) rfl _ 0 [] A cap ds rfl (by rw [← HNe.out]; rfl) HN.out ?d1 ?d2 ?d3 ?d4 ?d5 ?d6)
      case d1 => exact World.ownsRow_made w4 #[] 0 (Nat.le_refl _) (Nat.zero_le _) rfl
      case d2 => simp
      case d3 => exact (Below.refl _ _).alloc (Nat.le_refl _) _
      case d4 => exact HD.out.later (HB4.out.alloc HB4.out.size _)
      case d5 => have := H16.out; omega
      case d6 =>
        intro v5 w5 ho hb5 hs5
        obtain ⟨_, A5, cap5, rfl, hcap5, hD5, _⟩ := dirs_of_row ho HI.out HLn.out
        rw [← HNe.out] at hcap5 ⊢
        have HC3 := Lib.hid (C3.out A5 cap5 w5 hD5)
        have HB5 := Lib.hid (HB4.out.trans (hb5.mono HB4.out.size))
        have HR15 := Lib.hid (HR14.out.of_block (hb5.block o1 HR14.out.lt))
        have HR25 := Lib.hid (HR2.out.of_block (hb5.block o2 HR2.out.lt))
        clear ho hb5 hs5 hD5 HR14 HR2
        go_wp2_with fail
        refine HC3.out.mono ?_; rintro e w6 ⟨S3, rfl, hc3, hb6⟩
        have HB6 := Lib.hid (HB5.out.trans (hb6.mono HB5.out.size))
        have HR16 := Lib.hid (HR15.out.of_block (hb6.block o1 HR15.out.lt))
        have HR26 := Lib.hid (HR25.out.of_block (hb6.block o2 HR25.out.lt))
        have HS3 := Lib.hid hc3
        have HC4 := Lib.hid (C4.out A cap w6 (HD.out.later HB6.out))
        clear hb6 hc3 HC3 HR15 HR25
        go_wp2_with fail
        refine HC4.out.mono ?_; rintro e w7 ⟨S4, rfl, hc4, hb7⟩
        have HB7 := Lib.hid (HB6.out.trans (hb7.mono HB6.out.size))
        have HR17 := Lib.hid (HR16.out.of_block (hb7.block o1 HR16.out.lt))
        have HR27 := Lib.hid (HR26.out.of_block (hb7.block o2 HR26.out.lt))
        have h34 : opn S3 M = opn S4 M := opn_congr (HU.out S3 S4 HS3.out hc4)
        rw [← h34]
        obtain ⟨K, hK⟩ : ∃ K, K = opn S3 M := ⟨_, rfl⟩
        rw [← hK]
        have hKK : ((K : Int) != (K : Int)) = false := by simp
        have HSm := Lib.hid (Same_walk o1 o2 M M M S1 S2 w7 HR17.out HR27.out (HU.out S1 S2 HS1.out HS2.out) (by omega))
        clear hb7 hc4 HC4 HR16 HR26 h34 hK
        go_wp2_with fail
        refine HSm.out.mono ?_; rintro e w8 ⟨rfl, hb8⟩
        have HB8 := Lib.hid (HB7.out.trans (hb8.mono HB7.out.size))
        have HR18 := Lib.hid (HR17.out.of_block (hb8.block o1 HR17.out.lt))
        have HR28 := Lib.hid (HR27.out.of_block (hb8.block o2 HR27.out.lt))
        clear hb8 HSm HR17 HR27
        go_wp2_with fail
        go_loopw [13] (fun i wr => ∃ j : Nat, j ≤ M ∧ i = .int .i64 j ∧ Hid (wr.rowIs o1 4 M (fun x => .bool (if x < j then !S1 x else S1 x))) ∧ Hid (wr.rowIs o2 4 M fun x => .bool (S2 x)) ∧ Hid (Below w.heap.size w wr)) (fun i _ => M - (intOf i).toNat)
        case atStart => exact ⟨0, Nat.zero_le _, rfl, Lib.hid (HR18.out.congr fun i _ => by simp), HR28, HB8⟩
        case round =>
          obtain ⟨j, hj, rfl, HRa, HRb, HBr⟩ := hrel
          by_cases hj1 : j < M
          · have hj1' : (j : Int) < (M : Int) := by omega
            have x1 := HRa.out.cell hj1
            have x2 := HRa.out.frozen j
            rw [if_neg (Nat.lt_irrefl j)] at x1
            obtain ⟨sb, hsb⟩ : ∃ sb, sb = S1 j := ⟨_, rfl⟩
            rw [← hsb] at x1
            have HSb := Lib.hid hsb
            have ho1 : w.heap.size ≤ o1 := ho1
            clear hsb
            go_wp2_with fail
            go_wp2
            go_roundw
            case measure => simp [intOf]; omega
            case rel =>
              refine ⟨j + 1, by omega, by go_num, Lib.hid ?_, Lib.hid ?_, Lib.hid ?_⟩
              · refine (HRa.out.set j (.bool (!sb))).congr fun i _ => ?_
                by_cases e : i = j
                · subst e
                  rw [if_pos rfl, if_pos (Nat.lt_succ_self _), HSb.out]
                · rw [if_neg e]
                  by_cases e2 : i < j
                  · rw [if_pos e2, if_pos (by omega)]
                  · rw [if_neg e2, if_neg (by omega)]
              · exact HRb.out.setOther (Ne.symm ho12) _
              · exact HBr.out.setCell ho1 _
          · obtain rfl : j = M := by omega
            have hm2 : decide ((j : Int) < (j : Int)) = false := by simp
            have HC5 := Lib.hid (C1.out A cap wr (HD.out.later HBr.out))
            go_wp2_with fail
            refine HC5.out.mono ?_; rintro e w9 ⟨o5, S5, rfl, hol5, hr5, hc5, hb9⟩
            have HB9 := Lib.hid (HBr.out.trans (hb9.mono HBr.out.size))
            have HSm := Lib.hid (Same_walk o5 o2 j j j S5 S2 w9 hr5 (HRb.out.of_block (hb9.block o2 HRb.out.lt)) (HU.out S5 S2 hc5 HS2.out) (by omega))
            clear hb9 hc5 HC5 hr5
            go_wp2_with fail
            refine HSm.out.mono ?_; rintro e w10 ⟨rfl, hb10⟩
            have HB10 := Lib.hid (HB9.out.trans (hb10.mono HB9.out.size))
            clear hb10 HSm
            go_wp2
            go_ret
            exact ⟨rfl, HB10.out⟩
  · have C1 := Lib.hid (fun A cap w hD => Open_no (A := A) (capd := cap) (ds := ds) (w := w) n hn hD he)
    have C2 := Lib.hid (fun A cap w hD => rOpen_no (A := A) (capd := cap) (ds := ds) (w := w) n hn hD he)
    have C3 := Lib.hid (fun A cap w hD => Left_no (A := A) (capd := cap) (ds := ds) (w := w) n hn hD he)
    have C4 := Lib.hid (fun A cap w hD => rLeft_no (A := A) (capd := cap) (ds := ds) (w := w) n hn hD he)
    obtain ⟨t, ht⟩ : ∃ t, t = openE n ds := ⟨_, rfl⟩
    rw [← ht] at C1 C2 C3 C4
    rw [← hNl] at C1 C2 C3 C4 ⊢
    have hKK : (t != t) = false := by simp
    have HNe := Lib.hid hNl
    clear hD he hNl hnil h16 ht
    go_enter Try.func11, Try.ntmps11
    go_wp2_with fail
    refine C0.out.mono ?_; rintro e w1 ⟨rfl, hb1⟩
    have HB1 := Lib.hid hb1
    clear hb1
    go_wp2_with (at_builtin; refine append_dirs (w0 := w) w.heap.size rfl (.tmp 20) (.tmp 21) rfl _ 0 [] A cap ds rfl (by rw [← HNe.out]; rfl) HN.out ?c1 ?c2 ?c3 ?c4 ?c5 ?c6)
    case c1 => exact World.ownsRow_made w1 #[] 0 HB1.out.size (Nat.zero_le _) rfl
    case c2 => have := HB1.out.size; simp; omega
    case c3 => exact HB1.out.alloc HB1.out.size _
    case c4 => exact HD.out.later (HB1.out.alloc HB1.out.size _)
    case c5 => have := H16.out; omega
    case c6 =>
      intro v1 w2 ho hb2 hs2
      obtain ⟨_, A1, cap1, rfl, hcap1, hD1, _⟩ := dirs_of_row ho HI.out HLn.out
      rw [← HNe.out] at hcap1 ⊢
      have HC1 := Lib.hid (C1.out A1 cap1 w2 hD1)
      have HB2 := Lib.hid hb2
      clear ho hb2 hs2 hD1
      go_wp2_with fail
      refine HC1.out.mono ?_; rintro e w3 ⟨rfl, hb3⟩
      have HB3 := Lib.hid (HB2.out.trans (hb3.mono HB2.out.size))
      have HC2 := Lib.hid (C2.out A cap w3 (HD.out.later HB3.out))
      clear hb3 HC1
      go_wp2_with fail
      refine HC2.out.mono ?_; rintro e w4 ⟨rfl, hb4⟩
      have HB4 := Lib.hid (HB3.out.trans (hb4.mono HB3.out.size))
      clear hb4 HC2
      go_wp2_with (at_builtin; refine append_dirs (w0 := w4) w4.heap.size rfl (.tmp 34) (.tmp 35) rfl _ 0 [] A cap ds rfl (by rw [← HNe.out]; rfl) HN.out ?d1 ?d2 ?d3 ?d4 ?d5 ?d6)
      case d1 => exact World.ownsRow_made w4 #[] 0 (Nat.le_refl _) (Nat.zero_le _) rfl
      case d2 => simp
      case d3 => exact (Below.refl _ _).alloc (Nat.le_refl _) _
      case d4 => exact HD.out.later (HB4.out.alloc HB4.out.size _)
      case d5 => have := H16.out; omega
      case d6 =>
        intro v5 w5 ho hb5 hs5
        obtain ⟨_, A5, cap5, rfl, hcap5, hD5, _⟩ := dirs_of_row ho HI.out HLn.out
        rw [← HNe.out] at hcap5 ⊢
        have HC3 := Lib.hid (C3.out A5 cap5 w5 hD5)
        have HB5 := Lib.hid (HB4.out.trans (hb5.mono HB4.out.size))
        clear ho hb5 hs5 hD5
        go_wp2_with fail
        refine HC3.out.mono ?_; rintro e w6 ⟨rfl, hb6⟩
        have HB6 := Lib.hid (HB5.out.trans (hb6.mono HB5.out.size))
        have HC4 := Lib.hid (C4.out A cap w6 (HD.out.later HB6.out))
        clear hb6 HC3
        go_wp2_with fail
        refine HC4.out.mono ?_; rintro e w7 ⟨rfl, hb7⟩
        have HB7 := Lib.hid (HB6.out.trans (hb7.mono HB6.out.size))
        have HSm := Lib.hid (Same_nil w7)
        clear hb7 HC4
        go_wp2_with fail
        refine HSm.out.mono ?_; rintro e w8 ⟨rfl, hb8⟩
        have HB8 := Lib.hid (HB7.out.trans (hb8.mono HB7.out.size))
        clear hb8 HSm
        go_wp2_with fail
        go_loopw [13] (fun i wr => i = .int .i64 0 ∧ wr = w8) (fun _ _ => 0)
        case atStart => exact ⟨rfl, rfl⟩
        case round =>
          obtain ⟨rfl, rfl⟩ := hrel
          have HC5 := Lib.hid (C1.out A cap wr (HD.out.later HB8.out))
          go_wp2_with fail
          refine HC5.out.mono ?_; rintro e w9 ⟨rfl, hb9⟩
          have HB9 := Lib.hid (HB8.out.trans (hb9.mono HB8.out.size))
          have HSm := Lib.hid (Same_nil w9)
          clear hb9 HC5
          go_wp2_with fail
          refine HSm.out.mono ?_; rintro e w10 ⟨rfl, hb10⟩
          have HB10 := Lib.hid (HB9.out.trans (hb10.mono HB9.out.size))
          clear hb10 HSm
          go_wp2
          go_ret
          exact ⟨rfl, HB10.out⟩
end Go.Proofs.Ytoeeceemoggffaa
