/- dir.Katz and ghost.Fits by their contracts. -/
import Derived.Test.YtoeeceemoggffaaGl
import Derived.Test.YtoeeceemoggffaaMk
import Derived.Deep.RegionWith
namespace Go.Proofs.Ytoeeceemoggffaa
open Go.RowKit Go.Maps
set_option maxHeartbeats 400000

theorem ownsMap_below {H : Type} {P : Program} {k : TypeId} {R : Value → Option (DataW H × List MemPlace)} {b n B : Nat} {D : DataW H} {w w' : World} (h : w.ownsMap P k R b n D) (hb : Below B w w') (hlt : b < B) : w'.ownsMap P k R b n D := by
  obtain ⟨es, clock, he, r⟩ := h
  exact ⟨es, clock, (hb.block b hlt).trans he, r⟩

theorem Two.grown {b k : Nat} {x y : Int} {w w' : World} (h : Two b x y w) (hg : w.grownBy w' (some k)) (hne : b ≠ k) : Two b x y w' := by
  have e : w'.heap[b]? = w.heap[b]? := hg.block b h.lt (by simpa using hne)
  exact ⟨Nat.lt_of_lt_of_le h.lt hg.size, (World.cell?_of_block (a := ⟨b, 0, none⟩) e).trans h.c0, (World.cell?_of_block (a := ⟨b, 1, none⟩) e).trans h.c1, (World.frozen?_of_block (a := ⟨b, 0, none⟩) e).trans h.f0, (World.frozen?_of_block (a := ⟨b, 1, none⟩) e).trans h.f1⟩

/-- what Katz and Fits answer -/
def katz (n : Int) (ds : List (Int × Int)) : Bool × Int := if n < 1 ∨ 64 < n then (false, 1) else if twice ds = 0 then (decide (n < mw ds) || decide (n < mh ds), 0) else (false, twice ds)
def fits (n : Int) (ds : List (Int × Int)) : Bool × Int := if n < 1 ∨ 64 < n then (false, 1) else if twice ds = 0 then (decide (mw ds ≤ n) && decide (mh ds ≤ n), 0) else (false, twice ds)

theorem katz_out {n : Int} (h : n < 1 ∨ 64 < n) (ds : List (Int × Int)) : katz n ds = (false, 1) := by unfold katz; rw [if_pos h]
theorem katz_no {n : Int} (h : ¬ (n < 1 ∨ 64 < n)) {ds : List (Int × Int)} {e : Int} (h2 : twice ds = e) (he : e ≠ 0) : katz n ds = (false, e) := by unfold katz; rw [if_neg h, h2, if_neg he]
theorem katz_yes {n : Int} (h : ¬ (n < 1 ∨ 64 < n)) {ds : List (Int × Int)} (h2 : twice ds = 0) : katz n ds = (decide (n < mw ds) || decide (n < mh ds), 0) := by unfold katz; rw [if_neg h, if_pos h2]

theorem Katz_walk (n : Int) (hn64 : I64 n) (A : Option Addr) (cap : Nat) (ds : List (Int × Int)) (w : World) (hD : Dirs w A ds) :
    Calls Try.prog 35 #[.int .i64 n, .slice A ds.length cap] w fun e w' => e = .returned (.tuple #[.bool (katz n ds).1, .int .i64 (katz n ds).2]) ∧ Below w.heap.size w w' := by
  have hmm := @run_makeMap Try.prog
  have hlen := hD.len
  obtain ⟨N, hN⟩ : ∃ N, N = ds.length := ⟨_, rfl⟩
  rw [← hN] at hlen ⊢
  have HN := Lib.hid hN
  have HD := Lib.hid hD
  have ht0 : twice ds = twiceFrom (ds.take 0) (ds.drop 0) := rfl
  have HT := Lib.hid ht0
  have HI : Hid (∀ d ∈ ds, I64 d.1 ∧ I64 d.2) := Lib.hid hD.i64
  clear hN hD ht0
  unfold I64 at hn64
  by_cases hout : n < 1 ∨ 64 < n
  · rw [katz_out hout]
    by_cases h1 : n < 1
    · clear hout
      go_enter Try.func35, Try.ntmps35
      go_wp2
      go_ret2
      exact ⟨rfl, Below.refl _ _⟩
    · have h2 : 64 < n := by omega
      clear hout
      go_enter Try.func35, Try.ntmps35
      go_wp2
      go_ret2
      exact ⟨rfl, Below.refl _ _⟩
  have HO := Lib.hid hout
  have n1 : 1 ≤ n := by omega
  have n2 : n ≤ 64 := by omega
  clear hout hn64
  go_enter Try.func35, Try.ntmps35
  go_wp2
  go_loopw [4, 5, 6, 7, 23] (fun b r p q i wr => b = .bool false ∧ r = .int .i64 0 ∧ ∃ k : Nat, ∃ x y : Int, k ≤ N ∧ i = .int .i64 k ∧ p = .int .i64 x ∧ q = .int .i64 y ∧ twice ds = twiceFrom (ds.take k) (ds.drop k) ∧ x + 1 = mw (ds.take k) ∧ y + 1 = mh (ds.take k) ∧ 0 ≤ x ∧ x ≤ 16 * (k : Int) ∧ 0 ≤ y ∧ y ≤ 16 * (k : Int) ∧ wr.ownsMap Try.prog 51 unitElem w.heap.size k (setD (ds.take k)) ∧ w.heap.size < wr.heap.size ∧ Below w.heap.size w wr) (fun _ _ _ _ i _ => N - (intOf i).toNat)
  case atStart =>
    refine ⟨rfl, rfl, 0, 0, 0, Nat.zero_le _, rfl, rfl, rfl, HT.out, rfl, rfl, by decide, by decide, by decide, by decide, ?_, ?_, ?_⟩
    · exact World.ownsMap_made _ _ _ _
    · simp
    · exact (Below.refl w.heap.size w).alloc (Nat.le_refl _) _
  case round =>
    obtain ⟨rfl, rfl, k, x, y, hk, rfl, rfl, rfl, ht, hx, hy, hx0, hx1, hy0, hy1, hm, hlw, hb⟩ := hrel
    have HK := Lib.hid ht
    have HB := Lib.hid hb
    have HM := Lib.hid hm
    have HX := Lib.hid hx
    have HY := Lib.hid hy
    clear ht hb hm hx hy
    by_cases hlt : k < N
    · obtain ⟨p, q, b, off, hg, hp, hq, rfl, hbl, c0, c1⟩ := (HD.out.later HB.out).get (i := k) (by rw [← HN.out]; exact hlt)
      have HG := Lib.hid hg
      have HC := Lib.hid (fun w => Check_walk p q w hp hq)
      have HP := Lib.hid hp
      have HQ := Lib.hid hq
      clear hg hp hq
      by_cases hok : okD (p, q) = true
      · have her : errD (p, q) = 0 := errD_yes hok
        have hta := twice_at HG.out
        rw [if_pos hok] at hta
        have HA := Lib.hid hta
        have HOk := Lib.hid hok
        rw [her] at HC
        clear her hok hta
        have hh := has_setD (ds := ds.take k) (d := (p, q)) ⟨HP.out, HQ.out⟩ (fun e he => HI.out e (List.mem_of_mem_take he))
        have HH := Lib.hid hh
        have hkey := key_dir HP.out HQ.out
        have HKey := Lib.hid hkey
        have hkm : k < maxLen := by unfold maxLen; omega
        have HKm := Lib.hid hkm
        clear hh hkey hkm
        go_wp2_with fail
        refine (HC.out _).mono ?_; rintro e w1 ⟨rfl, hb1⟩
        have h6 : Two wr.heap.size p q w1 := (Two.made wr _ p q).later hb1 (by simp)
        have hr2 : Below wr.heap.size wr w1 := ((Below.refl wr.heap.size wr).alloc (Nat.le_refl _) _).trans (hb1.mono (by simp))
        have hm2 := ownsMap_below HM.out hr2 hlw
        have H6 := Lib.hid h6
        have HR2 := Lib.hid hr2
        have HM2 := Lib.hid hm2
        obtain ⟨hl6, c06, c16, _, _⟩ := h6
        clear hb1 hr2 hm2
        by_cases hmem : (p, q) ∈ ds.take k
        · have hhas : Maps.has (setD (ds.take k)) (kd (p, q)) = true := by rw [HH.out]; exact decide_eq_true hmem
          have HMem := Lib.hid hmem
          clear hmem
          go_wp2_with (first
            | (at_lookup; refine wpList_lookup_own_unit _ rfl _ _ 95 rfl 51 97 lawDir undSet (zeroUnit _) w.heap.size k _ rfl HM2.out _ _ rfl HKey.out ?_)
            | go_in)
          go_ret2
          rw [katz_no (e := 3) HO.out (by rw [HK.out, HA.out, if_pos HMem.out]) (by decide)]
          exact ⟨rfl, (HB.out.trans (HR2.out.mono (by omega))).alloc (by omega) _⟩
        · have hhas : Maps.has (setD (ds.take k)) (kd (p, q)) = false := by rw [HH.out]; exact decide_eq_false hmem
          have HMem := Lib.hid hmem
          clear hmem
          go_wp2_with (first
            | (at_lookup; refine wpList_lookup_own_unit _ rfl _ _ 95 rfl 51 97 lawDir undSet (zeroUnit _) w.heap.size k _ rfl HM2.out _ _ rfl HKey.out ?_)
            | (at_mapUpdate; refine wpList_mapUpdate_own _ rfl _ _ _ 95 rfl 51 97 lawDir undSet unitElem w.heap.size k _ rfl (HM2.out.alloc _) HKm.out _ _ _ rfl rfl HKey.out _ [] unitElem_mk ?_; intro w3 hown3 hgrow3)
            | go_in)
          have hg := hgrow3.size
          rw [new_size] at hg
          have h63 := (H6.out.alloc (.cells #[] 97)).grown hgrow3 (by omega)
          have hb3 : Below w.heap.size w w3 := ((HB.out.trans (HR2.out.mono (by omega))).alloc (by omega) (.cells #[] 97)).grown hgrow3 (by rw [new_size]; omega) (fun j hj => by cases hj; exact Nat.le_refl _)
          have HB3 := Lib.hid hb3
          have HM3 := Lib.hid hown3
          have HC1 := Lib.hid (fun w => abs_walk p w HP.out)
          obtain ⟨hl63, c063, c163, _, _⟩ := h63
          obtain ⟨o0, o1, o2, _, _⟩ := (okD_iff p q).1 HOk.out
          have hw1 : IntKind.i64.wrap (p.natAbs : Int) = (p.natAbs : Int) := IntWalk.i64_in _ (by omega)
          have hw2 : IntKind.i64.wrap (x + (p.natAbs : Int)) = x + (p.natAbs : Int) := IntWalk.i64_in _ (by omega)
          have hw3 : IntKind.i64.wrap (y + q) = y + q := IntWalk.i64_in _ (by omega)
          clear o0 o1 o2 hown3 hgrow3 hb3 c0 c1 c06 c16 hg hhas
          go_wp2
          go_quiet ((go_at_call 69; exact quiet_same (HC1.out _)))
          go_wp2
          go_roundw
          case rel =>
            obtain ⟨o0, o1, o2, _, _⟩ := (okD_iff p q).1 HOk.out
            refine ⟨rfl, rfl, k + 1, _, _, by omega, by go_num, rfl, rfl, ?_, ?_, ?_, ?_, ?_, ?_, ?_, ?_, ?_, ?_⟩
            · rw [HK.out, HA.out, if_neg HMem.out]
            · rw [mw_succ HG.out, ← HX.out]; simp only; omega
            · rw [mh_succ HG.out, ← HY.out]; simp only; omega
            · omega
            · omega
            · omega
            · omega
            · rw [List.take_add_one, HG.out]
              exact ownsMap_below ((setD_snoc _ _) ▸ HM3.out) (below_drewN (Below.refl (w.heap.size + 1) _) _) (Nat.lt_succ_self _)
            · simp; omega
            · exact below_drewN HB3.out _
          case measure => simp [intOf]; omega
      · have her : errD (p, q) = 60 := errD_no hok
        have hta := twice_at HG.out
        rw [if_neg hok] at hta
        have HA := Lib.hid (HK.out.trans hta)
        rw [her] at HC
        clear her hok hta
        go_wp2_with fail
        refine (HC.out _).mono ?_; rintro e w1 ⟨rfl, hb1⟩
        have hr2 : Below wr.heap.size wr w1 := ((Below.refl wr.heap.size wr).alloc (Nat.le_refl _) _).trans (hb1.mono (by simp))
        have HR2 := Lib.hid hr2
        clear hb1 hr2
        go_wp2
        go_ret2
        rw [katz_no HO.out HA.out (by decide)]
        exact ⟨rfl, HB.out.trans (HR2.out.mono (by omega))⟩
    · obtain rfl : k = N := by omega
      have hall : twice ds = 0 := by rw [HK.out, HN.out, twice_all]
      rw [HN.out, List.take_length] at HX HY
      have hy' := HY.out
      have hx' := HX.out
      obtain ⟨X, hX⟩ : ∃ X, X = mw ds := ⟨_, rfl⟩
      obtain ⟨Y, hY⟩ : ∃ Y, Y = mh ds := ⟨_, rfl⟩
      rw [← hX] at hx'
      rw [← hY] at hy'
      have HXX := Lib.hid hX
      have HYY := Lib.hid hY
      have HAll := Lib.hid hall
      clear hX hY hall
      by_cases g1 : n ≤ x
      · go_wp2
        go_ret2
        rw [katz_yes HO.out HAll.out, ← HXX.out, ← HYY.out]
        refine ⟨?_, HB.out⟩
        have : decide (n < X) = true := decide_eq_true (by omega)
        simp [this]
      · go_wp2
        go_ret2
        rw [katz_yes HO.out HAll.out, ← HXX.out, ← HYY.out]
        refine ⟨?_, HB.out⟩
        have : decide (n < X) = false := decide_eq_false (by omega)
        simp [this]
        omega

theorem fits_out {n : Int} (h : n < 1 ∨ 64 < n) (ds : List (Int × Int)) : fits n ds = (false, 1) := by unfold fits; rw [if_pos h]
theorem fits_no {n : Int} (h : ¬ (n < 1 ∨ 64 < n)) {ds : List (Int × Int)} (he : twice ds ≠ 0) : fits n ds = (false, twice ds) := by unfold fits; rw [if_neg h, if_neg he]
theorem fits_yes {n : Int} (h : ¬ (n < 1 ∨ 64 < n)) {ds : List (Int × Int)} (h2 : twice ds = 0) : fits n ds = (decide (mw ds ≤ n) && decide (mh ds ≤ n), 0) := by unfold fits; rw [if_neg h, if_pos h2]

theorem Fits_walk (n : Int) (hn64 : I64 n) (A : Option Addr) (cap : Nat) (ds : List (Int × Int)) (w : World) (hD : Dirs w A ds) (hcap : ds.length ≤ cap) :
    Calls Try.prog 32 #[.int .i64 n, .slice A ds.length cap] w fun e w' => e = .returned (.tuple #[.bool (fits n ds).1, .int .i64 (fits n ds).2]) ∧ Below w.heap.size w w' := by
  have HL := Lib.hid (listed_walk A cap ds w hD hcap)
  clear hD hcap
  generalize ds.length = N at *
  unfold I64 at hn64
  by_cases hout : n < 1 ∨ 64 < n
  · rw [fits_out hout]
    by_cases h1 : n < 1
    · clear hout
      go_enter Try.func32, Try.ntmps32
      go_wp2
      go_ret2
      exact ⟨rfl, Below.refl _ _⟩
    · have h2 : 64 < n := by omega
      clear hout
      go_enter Try.func32, Try.ntmps32
      go_wp2
      go_ret2
      exact ⟨rfl, Below.refl _ _⟩
  have n1 : 1 ≤ n := by omega
  have n2 : n ≤ 64 := by omega
  by_cases ht : twice ds = 0
  · rw [fits_yes hout ht]
    rw [lst_yes ht] at HL
    clear hout hn64 ht
    generalize mw ds = X at *
    generalize mh ds = Y at *
    by_cases g1 : X ≤ n
    · by_cases g2 : Y ≤ n
      · have e1 : (decide (X ≤ n) && decide (Y ≤ n)) = true := by simp [g1, g2]
        rw [e1]
        go_enter Try.func32, Try.ntmps32
        go_wp2_with fail
        refine HL.out.mono ?_; rintro e w1 ⟨rfl, hb⟩
        have HB := Lib.hid hb
        clear hb
        go_wp2
        go_ret2
        exact ⟨rfl, HB.out.alloc HB.out.size _⟩
      · have g4 : decide (Y ≤ n) = false := decide_eq_false g2
        have e1 : (decide (X ≤ n) && decide (Y ≤ n)) = false := by simp [g4]
        rw [e1]
        go_enter Try.func32, Try.ntmps32
        go_wp2_with fail
        refine HL.out.mono ?_; rintro e w1 ⟨rfl, hb⟩
        have HB := Lib.hid hb
        clear hb
        go_wp2
        go_ret2
        exact ⟨rfl, HB.out.alloc HB.out.size _⟩
    · have e1 : (decide (X ≤ n) && decide (Y ≤ n)) = false := by simp [g1]
      rw [e1]
      go_enter Try.func32, Try.ntmps32
      go_wp2_with fail
      refine HL.out.mono ?_; rintro e w1 ⟨rfl, hb⟩
      have HB := Lib.hid hb
      clear hb
      go_wp2
      go_ret2
      exact ⟨rfl, HB.out.alloc HB.out.size _⟩
  · rw [fits_no hout ht]
    rw [lst_no rfl ht] at HL
    clear hout hn64
    generalize twice ds = T at *
    have hT : (T == 0) = false := by simpa using ht
    go_enter Try.func32, Try.ntmps32
    go_wp2_with fail
    refine HL.out.mono ?_; rintro e w1 ⟨rfl, hb⟩
    have HB := Lib.hid hb
    clear hb
    go_wp2
    go_ret2
    exact ⟨rfl, HB.out.alloc HB.out.size _⟩
end Go.Proofs.Ytoeeceemoggffaa
