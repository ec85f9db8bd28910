/- The measures of a ghost: grow, listed and Fits by their contracts. -/
import Derived.Test.YtoeeceemoggffaaTw
namespace Go.Proofs.Ytoeeceemoggffaa
open Go.RowKit
set_option maxHeartbeats 400000

/-- two whole numbers lie at b, and may be written -/
structure Two (b : Nat) (x y : Int) (w : World) : Prop where
  lt : b < w.heap.size
  c0 : w.cell? ⟨b, 0, none⟩ = some (.int .i64 x)
  c1 : w.cell? ⟨b, 1, none⟩ = some (.int .i64 y)
  f0 : w.frozen? ⟨b, 0, none⟩ = false
  f1 : w.frozen? ⟨b, 1, none⟩ = false

theorem Two.later {b B : Nat} {x y : Int} {w w' : World} (h : Two b x y w) (hb : Below B w w') (hB : b < B) : Two b x y w' :=
  ⟨Nat.lt_of_lt_of_le h.lt hb.size, (hb.cell (p := ⟨b, 0, none⟩) hB).trans h.c0, (hb.cell (p := ⟨b, 1, none⟩) hB).trans h.c1, (hb.frozen (p := ⟨b, 0, none⟩) hB).trans h.f0, (hb.frozen (p := ⟨b, 1, none⟩) hB).trans h.f1⟩

theorem Two.made (w : World) (e : TypeId) (x y : Int) : Two w.heap.size x y (w.alloc (.cells #[.int .i64 x, .int .i64 y] e)) :=
  ⟨by simp, new_cell _ _ _ 0, new_cell _ _ _ 1, new_free _ _ _ 0, new_free _ _ _ 1⟩

theorem Two.set {b : Nat} {x y : Int} {w : World} (h : Two b x y w) (u v : Int) : Two b u v ((w.setCell ⟨b, 0, none⟩ (.int .i64 u)).setCell ⟨b, 1, none⟩ (.int .i64 v)) := by
  obtain ⟨h1, h2, h3, h4, h5⟩ := h
  refine ⟨by simpa [World.setCell] using h1, ?_, ?_, ?_, ?_⟩ <;> simp [go_sem, h2, h3, h4, h5]

theorem Two.alloc {b : Nat} {x y : Int} {w : World} (h : Two b x y w) (o : Obj) : Two b x y (w.alloc o) :=
  h.later ((Below.refl (b + 1) w).alloc h.lt o) (Nat.lt_succ_self b)

theorem grow_walk (b : Nat) (x y p q : Int) (w : World) (hp : -16 ≤ p ∧ p ≤ 16) (hq : -16 ≤ q ∧ q ≤ 16) (hx : 0 ≤ x ∧ x ≤ 2000000000000000) (hy : 0 ≤ y ∧ y ≤ 2000000000000000) (h2 : Two b x y w) :
    Calls Try.prog 96 #[.pointer (some ⟨b, 0, none⟩), .agg #[.int .i64 p, .int .i64 q]] w fun e w' => e = .returned (.tuple #[]) ∧ Two b (x + (p.natAbs : Int)) (y + q) w' ∧ Below b w w' := by
  have H2 := Lib.hid h2
  obtain ⟨hlt, c0, c1, f0, f1⟩ := h2
  obtain ⟨m, hm⟩ : ∃ m : Int, m = if p < -p then -p else p := ⟨_, rfl⟩
  have e1 : x + (p.natAbs : Int) = x + m := by rw [hm]; split <;> omega
  have hm1 : 0 ≤ m ∧ m ≤ 16 := by rw [hm]; split <;> omega
  have hw : IntKind.i64.wrap (x + m) = x + m := IntWalk.i64_in _ (by omega)
  have HE := Lib.hid e1
  clear e1
  by_cases hp0 : p < -p
  · rw [if_pos hp0] at hm
    subst hm
    go_enter Try.func96, Try.ntmps96
    go_wp2
    go_region
    go_wp2
    go_region
    go_wp2
    rw [HE.out]
    refine bodyPost_end (v := .tuple #[]) (by simp [results, Try.results96, go_sem]) rfl ⟨rfl, ?_, ?_⟩
    · exact (H2.out.set _ _).later (B := b + 1) ((((Below.refl (b + 1) _).alloc (H2.out.set _ _).lt _).drew).drew) (Nat.lt_succ_self b)
    · exact ((((((Below.refl b w).setCell (Nat.le_refl _) _).setCell (Nat.le_refl _) _).alloc (Nat.le_of_lt (H2.out.set _ _).lt) _).drew).drew)
  · rw [if_neg hp0] at hm
    subst hm
    go_enter Try.func96, Try.ntmps96
    go_wp2
    go_region
    go_wp2
    go_region
    go_wp2
    rw [HE.out]
    refine bodyPost_end (v := .tuple #[]) (by simp [results, Try.results96, go_sem]) rfl ⟨rfl, ?_, ?_⟩
    · exact (H2.out.set _ _).later (B := b + 1) ((((Below.refl (b + 1) _).alloc (H2.out.set _ _).lt _).drew).drew) (Nat.lt_succ_self b)
    · exact ((((((Below.refl b w).setCell (Nat.le_refl _) _).setCell (Nat.le_refl _) _).alloc (Nat.le_of_lt (H2.out.set _ _).lt) _).drew).drew)

/-- how wide and how high the ghost of a list of directions is -/
def mw (ds : List (Int × Int)) : Int := (ds.map fun d => (d.1.natAbs : Int)).sum + 1
def mh (ds : List (Int × Int)) : Int := (ds.map fun d => d.2).sum + 1
theorem mw_succ {ds : List (Int × Int)} {k : Nat} {d : Int × Int} (h : ds[k]? = some d) : mw (ds.take (k + 1)) = mw (ds.take k) + (d.1.natAbs : Int) := by
  unfold mw
  rw [List.take_add_one, h, List.map_append, List.sum_append]
  simp
  omega
theorem mh_succ {ds : List (Int × Int)} {k : Nat} {d : Int × Int} (h : ds[k]? = some d) : mh (ds.take (k + 1)) = mh (ds.take k) + d.2 := by
  unfold mh
  rw [List.take_add_one, h, List.map_append, List.sum_append]
  simp
  omega

/-- what listed answers -/
def lst (ds : List (Int × Int)) : (Int × Int) × Int := if twice ds = 0 then ((mw ds, mh ds), 0) else ((0, 0), twice ds)

theorem lst_no {ds : List (Int × Int)} {e : Int} (h : twice ds = e) (he : e ≠ 0) : lst ds = ((0, 0), e) := by
  unfold lst; rw [h, if_neg he]
theorem lst_yes {ds : List (Int × Int)} (h : twice ds = 0) : lst ds = ((mw ds, mh ds), 0) := by
  unfold lst; rw [if_pos h]

theorem listed_walk (A : Option Addr) (cap : Nat) (ds : List (Int × Int)) (w : World) (hD : Dirs w A ds) (hcap : ds.length ≤ cap) :
    Calls Try.prog 63 #[.slice A ds.length cap] w fun e w' => e = .returned (.tuple #[dirV (lst ds).1, .int .i64 (lst ds).2]) ∧ Below w.heap.size w w' := by
  have hlen := hD.len
  obtain ⟨n, hn⟩ : ∃ n, n = ds.length := ⟨_, rfl⟩
  rw [← hn] at hlen hcap ⊢
  have HN := Lib.hid hn
  have HD := Lib.hid hD
  have ht0 : twice ds = twiceFrom (ds.take 0) (ds.drop 0) := rfl
  have HT := Lib.hid ht0
  clear hn hD ht0
  go_enter Try.func63, Try.ntmps63
  go_wp2
  go_loopw [3, 13] (fun r i wr => r = .int .i64 0 ∧ ∃ k : Nat, ∃ x y : Int, k ≤ n ∧ i = .int .i64 k ∧ twice ds = twiceFrom (ds.take k) (ds.drop k) ∧ x = mw (ds.take k) ∧ y = mh (ds.take k) ∧ 0 ≤ x ∧ x ≤ 1 + 16 * (k : Int) ∧ 0 ≤ y ∧ y ≤ 1 + 16 * (k : Int) ∧ Two (w.heap.size + 1) x y wr ∧ Two w.heap.size 0 0 wr ∧ Below w.heap.size w wr) (fun _ i _ => n - (intOf i).toNat)
  case atStart =>
    refine ⟨rfl, 0, 1, 1, Nat.zero_le _, rfl, HT.out, rfl, rfl, by decide, by decide, by decide, by decide, ?_, ?_, ?_⟩
    · have := Two.made (w.alloc (.cells #[.int .i64 0, .int .i64 0] 88)) 88 1 1
      rwa [new_size] at this
    · exact (Two.made w _ 0 0).later ((Below.refl (w.heap.size + 1) _).alloc (by simp) _) (Nat.lt_succ_self _)
    · exact ((Below.refl w.heap.size w).alloc (Nat.le_refl _) _).alloc (by simp) _
  case round =>
    obtain ⟨rfl, k, x, y, hk, rfl, ht, hx, hy, hx0, hx1, hy0, hy1, hm, hr, hb⟩ := hrel
    have hlk : w.heap.size + 1 < wr.heap.size := hm.lt
    have HK := Lib.hid ht
    have HB := Lib.hid hb
    have HM := Lib.hid hm
    have HR := Lib.hid hr
    have HX := Lib.hid hx
    have HY := Lib.hid hy
    clear ht hb hm hr hx hy
    by_cases hlt : k < n
    · obtain ⟨p, q, b, off, hg, hp, hq, rfl, hbl, c0, c1⟩ := (HD.out.later HB.out).get (i := k) (by rw [← HN.out]; exact hlt)
      have HG := Lib.hid hg
      have HC := Lib.hid (fun w => Check_walk p q w hp hq)
      have HP := Lib.hid hp
      clear hg hp hq
      by_cases hok : okD (p, q) = true
      · have her : errD (p, q) = 0 := errD_yes hok
        have hta := twice_at HG.out
        rw [if_pos hok] at hta
        have HA := Lib.hid hta
        have HO := Lib.hid hok
        rw [her] at HC
        clear her hok hta
        go_wp2_with fail
        refine (HC.out _).mono ?_; rintro e w1 ⟨rfl, hb1⟩
        have h6 : Two wr.heap.size p q w1 := (Two.made wr _ p q).later hb1 (by simp)
        have hr2 : Below wr.heap.size wr w1 := ((Below.refl wr.heap.size wr).alloc (Nat.le_refl _) _).trans (hb1.mono (by simp))
        have H6 := Lib.hid h6
        have HR2 := Lib.hid hr2
        have hl1 : wr.heap.size < w1.heap.size := h6.lt
        clear hb1 h6 hr2
        go_wp2
        go_loopw [3, 28] (fun r i wz => r = .int .i64 0 ∧ ∃ j : Nat, j ≤ k ∧ i = .int .i64 j ∧ ¬ (p, q) ∈ ds.take j ∧ Two wr.heap.size p q wz ∧ Below wr.heap.size wr wz) (fun _ i _ => k - (intOf i).toNat)
        case atStart => exact ⟨rfl, 0, Nat.zero_le _, rfl, by simp, H6.out, HR2.out⟩
        case round =>
          obtain ⟨rfl, j, hj, rfl, hnot, h62, hb2⟩ := hrel
          have HNo := Lib.hid hnot
          have HB2 := Lib.hid hb2
          have H62 := Lib.hid h62
          obtain ⟨hl6, c02, c12, _, _⟩ := h62
          clear hnot hb2
          by_cases hj2 : j < k
          · obtain ⟨⟨p', q'⟩, hg'⟩ : ∃ d, ds[j]? = some d := ⟨_, List.getElem?_eq_getElem (by rw [← HN.out]; omega)⟩
            have hd := (HD.out.later HB.out).later HB2.out
            obtain ⟨c0', c1'⟩ := hd.pair hg'
            have HG' := Lib.hid hg'
            clear hg' hd c0 c1
            have i1 : (0 : Int) ≤ (j : Int) := by omega
            have i2 : (j : Int) < (n : Int) := by omega
            have i3 : (0 : Int) ≤ (k : Int) := by omega
            have i4 : (k : Int) < (n : Int) := by omega
            have i5 : (j : Int) < (k : Int) := by omega
            by_cases heq : (p', q') = (p, q)
            · have h1 : p' = p := congrArg Prod.fst heq
              have h2 : q' = q := congrArg Prod.snd heq
              subst h1 h2
              have he := fun W => eqDir_yes (p', q') W
              have hin : (p', q') ∈ ds.take k := List.mem_of_getElem? (i := j) (by rw [List.getElem?_take, if_pos hj2]; exact HG'.out)
              have HI := Lib.hid hin
              have hz := HR.out.later HB2.out (by omega)
              have HZ := Lib.hid hz
              obtain ⟨hl2, e0, e1, k0, k1⟩ := hz
              clear heq hin
              go_wp2
              have hz := (HZ.out.set 0 0).alloc (.cells #[.int .i64 p', .int .i64 q'] 51)
              refine bodyPost_ret (v := .tuple #[dirV (0, 0), .int .i64 3]) (by simp [results, Try.results63, go_sem, dirV, hz.c0, hz.c1]) rfl ⟨?_, ?_⟩
              · rw [lst_no (e := 3) (by rw [HK.out, HA.out, if_pos HI.out]) (by decide)]
              · exact (((HB.out.trans (HB2.out.mono (by omega))).setCell (Nat.le_refl _) _).setCell (Nat.le_refl _) _).alloc (Nat.le_of_lt (HZ.out.set 0 0).lt) _
            · have he := fun W => eqDir_no heq W
              have HE := Lib.hid heq
              clear heq
              go_wp2
              go_roundw
              case rel =>
                refine ⟨rfl, j + 1, by omega, by go_num, ?_, ?_, ?_⟩
                · rw [mem_take_succ HG'.out]
                  exact fun h => h.elim HNo.out (fun h => HE.out h.symm)
                · exact H62.out.alloc _
                · exact HB2.out.alloc (Nat.le_of_lt hl6) _
              case measure => simp [intOf]; omega
          · obtain rfl : j = k := by omega
            have hta := HA.out
            rw [if_neg HNo.out] at hta
            have HA' := Lib.hid (HK.out.trans hta)
            obtain ⟨o0, o1, o2, o3, o4⟩ := (okD_iff p q).1 HO.out
            have HW := Lib.hid (fun W h2 => grow_walk (w.heap.size + 1) x y p q W (by omega) (by omega) (by omega) (by omega) h2)
            clear hta c0 c1 o0 o1 o2 o3 o4
            go_wp2_with fail
            refine (HW.out _ (HM.out.later HB2.out hlk)).mono ?_; rintro e w2 ⟨rfl, hm2, hb3⟩
            have HM2 := Lib.hid hm2
            have HB3 := Lib.hid hb3
            have HR3 := Lib.hid ((HR.out.later HB2.out (by omega)).later hb3 (by omega))
            clear hm2 hb3
            go_wp2
            go_roundw
            case rel =>
              obtain ⟨o0, o1, o2, o3, o4⟩ := (okD_iff p q).1 HO.out
              refine ⟨rfl, j + 1, _, _, by omega, by go_num, HA'.out, ?_, ?_, ?_, ?_, ?_, ?_, HM2.out, HR3.out, ?_⟩
              · rw [mw_succ HG.out, HX.out]
              · rw [mh_succ HG.out, HY.out]
              · omega
              · omega
              · omega
              · omega
              · exact HB.out.trans ((HB2.out.mono (by omega)).trans (HB3.out.mono (by omega)))
            case measure => simp [intOf]; omega
      · have her : errD (p, q) = 60 := errD_no hok
        have hta := twice_at HG.out
        rw [if_neg hok] at hta
        have HA := Lib.hid (HK.out.trans hta)
        rw [her] at HC
        clear her hok hta
        go_wp2_with fail
        refine (HC.out _).mono ?_; rintro e w1 ⟨rfl, hb1⟩
        have hr2 : Below wr.heap.size wr w1 := ((Below.refl wr.heap.size wr).alloc (Nat.le_refl _) _).trans (hb1.mono (by simp))
        have HR2 := Lib.hid hr2
        have hz := HR.out.later hr2 (by omega)
        have HZ := Lib.hid hz
        obtain ⟨hl2, e0, e1, k0, k1⟩ := hz
        clear hb1 hr2
        go_wp2
        have hz := HZ.out.set 0 0
        refine bodyPost_ret (v := .tuple #[dirV (0, 0), .int .i64 60]) (by simp [results, Try.results63, go_sem, dirV, hz.c0, hz.c1]) rfl ⟨?_, ?_⟩
        · rw [lst_no HA.out (by decide)]
        · exact (((HB.out.trans (HR2.out.mono (by omega))).setCell (Nat.le_refl _) _).setCell (Nat.le_refl _) _)
    · obtain rfl : k = n := by omega
      obtain ⟨hl2, e0, e1, k0, k1⟩ := HR.out
      obtain ⟨hl3, m0, m1, _, _⟩ := HM.out
      go_wp2
      have hz := HR.out.set x y
      refine bodyPost_ret (v := .tuple #[dirV (x, y), .int .i64 0]) (by simp [results, Try.results63, go_sem, dirV, hz.c0, hz.c1]) rfl ⟨?_, ?_⟩
      · have hall : twice ds = 0 := by rw [HK.out, HN.out, twice_all]
        rw [lst_yes hall, HX.out, HY.out, HN.out, List.take_length]
      · exact ((HB.out.setCell (Nat.le_refl _) _).setCell (Nat.le_refl _) _)
end Go.Proofs.Ytoeeceemoggffaa
