/- Lists of directions: what stands in memory, the first error, the measures; the reference's Twice and measures by their contracts. -/
import Derived.Test.YtoeeceemoggffaaR6
namespace Go.Proofs.Ytoeeceemoggffaa
open Go.RowKit
set_option maxHeartbeats 400000

theorem eqDir_yes (d : Int × Int) (W : World) : (binOp .eql 51 (.agg #[.int .i64 d.1, .int .i64 d.2]) (.agg #[.int .i64 d.1, .int .i64 d.2])).run Try.prog W = .ok (.bool true) W := by
  simp [go_sem]
theorem eqDir_no {d e : Int × Int} (h : d ≠ e) (W : World) : (binOp .eql 51 (.agg #[.int .i64 d.1, .int .i64 d.2]) (.agg #[.int .i64 e.1, .int .i64 e.2])).run Try.prog W = .ok (.bool false) W := by
  obtain ⟨p, q⟩ := d
  obtain ⟨u, v⟩ := e
  by_cases h1 : p = u
  · have h2 : ¬ q = v := fun h2 => h (by rw [h1, h2])
    simp [go_sem, h1, h2]
  · simp [go_sem, h1]

/-- a list of directions lies at A -/
structure Dirs (w : World) (A : Option Addr) (ds : List (Int × Int)) : Prop where
  at_ : ∀ i d, ds[i]? = some d → ∃ b off, A = some ⟨b, off, none⟩ ∧ b < w.heap.size ∧ w.cell? ⟨b, off + i * 2, none⟩ = some (.int .i64 d.1) ∧ w.cell? ⟨b, off + i * 2 + 1, none⟩ = some (.int .i64 d.2)
  i64 : ∀ d ∈ ds, I64 d.1 ∧ I64 d.2
  len : ds.length ≤ 17592186044416

theorem Dirs.later {w w' : World} {A : Option Addr} {ds : List (Int × Int)} (h : Dirs w A ds) (hb : Below w.heap.size w w') : Dirs w' A ds := by
  refine ⟨fun i d hd => ?_, h.i64, h.len⟩
  obtain ⟨b, off, e, hlt, c0, c1⟩ := h.at_ i d hd
  exact ⟨b, off, e, Nat.lt_of_lt_of_le hlt hb.size, (hb.cell (p := ⟨b, _, none⟩) hlt).trans c0, (hb.cell (p := ⟨b, _, none⟩) hlt).trans c1⟩

theorem Dirs.get {w : World} {A : Option Addr} {ds : List (Int × Int)} (h : Dirs w A ds) {i : Nat} (hi : i < ds.length) :
    ∃ p q b off, ds[i]? = some (p, q) ∧ I64 p ∧ I64 q ∧ A = some ⟨b, off, none⟩ ∧ b < w.heap.size ∧ w.cell? ⟨b, off + i * 2, none⟩ = some (.int .i64 p) ∧ w.cell? ⟨b, off + i * 2 + 1, none⟩ = some (.int .i64 q) := by
  have hg : ds[i]? = some ds[i] := List.getElem?_eq_getElem hi
  obtain ⟨b, off, e, hlt, c0, c1⟩ := h.at_ i _ hg
  obtain ⟨z0, z1⟩ := h.i64 _ (List.getElem_mem hi)
  exact ⟨_, _, b, off, hg, z0, z1, e, hlt, c0, c1⟩

theorem Dirs.pair {w : World} {b off : Nat} {ds : List (Int × Int)} (h : Dirs w (some ⟨b, off, none⟩) ds) {i : Nat} {d : Int × Int} (hi : ds[i]? = some d) :
    w.cell? ⟨b, off + i * 2, none⟩ = some (.int .i64 d.1) ∧ w.cell? ⟨b, off + i * 2 + 1, none⟩ = some (.int .i64 d.2) := by
  obtain ⟨b', off', e, _, c0, c1⟩ := h.at_ i d hi
  simp only [Option.some.injEq, Addr.mk.injEq, and_true] at e
  obtain ⟨rfl, rfl⟩ := e
  exact ⟨c0, c1⟩

/-- the first error of a list of directions, those that stand before it all being right and told once -/
def twiceFrom : List (Int × Int) → List (Int × Int) → Int
  | _, [] => 0
  | seen, d :: r => if okD d = true then (if d ∈ seen then 3 else twiceFrom (seen ++ [d]) r) else 60
def twice (ds : List (Int × Int)) : Int := twiceFrom [] ds

theorem twice_at {ds : List (Int × Int)} {i : Nat} {d : Int × Int} (h : ds[i]? = some d) :
    twiceFrom (ds.take i) (ds.drop i) = if okD d = true then (if d ∈ ds.take i then 3 else twiceFrom (ds.take (i + 1)) (ds.drop (i + 1))) else 60 := by
  obtain ⟨hi, rfl⟩ := List.getElem?_eq_some_iff.1 h
  rw [List.drop_eq_getElem_cons hi, List.take_add_one, h]
  rfl

theorem twice_all (ds : List (Int × Int)) : twiceFrom (ds.take ds.length) (ds.drop ds.length) = 0 := by
  rw [List.drop_length]; rfl

theorem errD_yes {d : Int × Int} (h : okD d = true) : errD d = 0 := by unfold errD; rw [if_pos h]
theorem errD_no {d : Int × Int} (h : ¬ okD d = true) : errD d = 60 := by unfold errD; rw [if_neg h]

theorem pair_beq (a b : Int × Int) : ((a.1 == b.1) && (a.2 == b.2)) = decide (a = b) := by
  obtain ⟨x, y⟩ := a
  obtain ⟨u, v⟩ := b
  by_cases h1 : x = u <;> by_cases h2 : y = v <;> simp [h1, h2]

theorem mem_take_succ {ds : List (Int × Int)} {k : Nat} {e d : Int × Int} (h : ds[k]? = some e) : d ∈ ds.take (k + 1) ↔ d ∈ ds.take k ∨ d = e := by
  rw [List.take_add_one, h, List.mem_append]
  simp

theorem rTwice_walk (A : Option Addr) (cap : Nat) (ds : List (Int × Int)) (w : World) (hD : Dirs w A ds) :
    Calls Try.prog 65 #[.slice A ds.length cap] w fun e w' => GivesInt (twice ds) w e w' := by
  have hlen := hD.len
  obtain ⟨n, hn⟩ : ∃ n, n = ds.length := ⟨_, rfl⟩
  rw [← hn] at hlen ⊢
  have HN := Lib.hid hn
  have HD := Lib.hid hD
  have ht0 : twice ds = twiceFrom (ds.take 0) (ds.drop 0) := rfl
  have HT := Lib.hid ht0
  clear hn hD ht0
  go_enter Try.func65, Try.ntmps65
  go_wp2
  go_loopw [2, 3] (fun r i wr => r = .int .i64 0 ∧ ∃ k : Nat, k ≤ n ∧ i = .int .i64 k ∧ twice ds = twiceFrom (ds.take k) (ds.drop k) ∧ Below w.heap.size w wr) (fun _ i _ => n - (intOf i).toNat)
  case atStart => exact ⟨rfl, 0, Nat.zero_le _, rfl, HT.out, Below.refl _ _⟩
  case round =>
    obtain ⟨rfl, k, hk, rfl, ht, hb⟩ := hrel
    have HK := Lib.hid ht
    have HB := Lib.hid hb
    clear ht hb
    by_cases hlt : k < n
    · obtain ⟨p, q, b, off, hg, hp, hq, rfl, hbl, c0, c1⟩ := (HD.out.later HB.out).get (i := k) (by rw [← HN.out]; exact hlt)
      have HG := Lib.hid hg
      have HC := Lib.hid (fun w => rCheck_walk p q w hp hq)
      have HP := Lib.hid hp
      clear hg hp hq
      by_cases hok : okD (p, q) = true
      · have her : errD (p, q) = 0 := errD_yes hok
        have hta := twice_at HG.out
        rw [if_pos hok] at hta
        have HA := Lib.hid hta
        rw [her] at HC
        clear her hok hta
        go_wp2_with fail
        refine (HC.out _).mono ?_; rintro e w1 ⟨rfl, hb1⟩
        have HB1 := Lib.hid (HB.out.trans (hb1.mono HB.out.size))
        clear hb1 HB
        go_wp2
        go_loopw [2, 5] (fun r i wr => r = .int .i64 0 ∧ ∃ j : Nat, j ≤ k ∧ i = .int .i64 j ∧ ¬ (p, q) ∈ ds.take j ∧ Below w.heap.size w wr) (fun _ i _ => k - (intOf i).toNat)
        case atStart => exact ⟨rfl, 0, Nat.zero_le _, rfl, by simp, HB1.out⟩
        case round =>
          obtain ⟨rfl, j, hj, rfl, hnot, hb2⟩ := hrel
          have HNo := Lib.hid hnot
          have HB2 := Lib.hid hb2
          clear hnot hb2
          by_cases hj2 : j < k
          · obtain ⟨⟨p', q'⟩, hg'⟩ : ∃ d, ds[j]? = some d := ⟨_, List.getElem?_eq_getElem (by rw [← HN.out]; omega)⟩
            have hd := HD.out.later HB2.out
            obtain ⟨c0', c1'⟩ := hd.pair hg'
            obtain ⟨c02, c12⟩ := hd.pair HG.out
            have HG' := Lib.hid hg'
            clear hg' hd c0 c1
            have i1 : (0 : Int) ≤ (j : Int) := by omega
            have i2 : (j : Int) < (n : Int) := by omega
            have i3 : (0 : Int) ≤ (k : Int) := by omega
            have i4 : (k : Int) < (n : Int) := by omega
            have i5 : (j : Int) < (k : Int) := by omega
            by_cases heq : (p', q') = (p, q)
            · have h1 : p' = p := congrArg Prod.fst heq
              have h2 : q' = q := congrArg Prod.snd heq
              subst h1 h2
              have he := fun W => eqDir_yes (p', q') W
              have hin : (p', q') ∈ ds.take k := List.mem_of_getElem? (i := j) (by rw [List.getElem?_take, if_pos hj2]; exact HG'.out)
              have HI := Lib.hid hin
              clear heq hin
              go_wp2
              go_quiet (fail)
              go_wp2
              go_ret
              refine ⟨?_, below_drewN HB2.out _⟩
              rw [HK.out, HA.out, if_pos HI.out]
              rfl
            · have he := fun W => eqDir_no heq W
              have HE := Lib.hid heq
              clear heq
              go_wp2
              go_quiet (fail)
              go_wp2
              go_roundw
              case rel =>
                refine ⟨rfl, j + 1, by omega, by go_num, ?_, below_drewN HB2.out _⟩
                rw [mem_take_succ HG'.out]
                exact fun h => h.elim HNo.out (fun h => HE.out h.symm)
              case measure => simp [intOf]; omega
          · obtain rfl : j = k := by omega
            have hta := HA.out
            rw [if_neg HNo.out] at hta
            have HA' := Lib.hid (HK.out.trans hta)
            clear hta c0 c1
            go_wp2
            go_roundw
            case rel => exact ⟨rfl, j + 1, by omega, by go_num, HA'.out, HB2.out⟩
            case measure => simp [intOf]; omega
      · have her : errD (p, q) = 60 := errD_no hok
        have hta := twice_at HG.out
        rw [if_neg hok] at hta
        have HA := Lib.hid (HK.out.trans hta)
        rw [her] at HC
        clear her hok hta
        go_wp2_with fail
        refine (HC.out _).mono ?_; rintro e w1 ⟨rfl, hb1⟩
        have HB1 := Lib.hid (HB.out.trans (hb1.mono HB.out.size))
        clear hb1 HB
        go_wp2
        go_ret
        exact ⟨by rw [HA.out]; rfl, HB1.out⟩
    · obtain rfl : k = n := by omega
      go_wp2
      go_ret
      refine ⟨?_, HB.out⟩
      rw [HK.out, HN.out, twice_all]
      rfl
end Go.Proofs.Ytoeeceemoggffaa
