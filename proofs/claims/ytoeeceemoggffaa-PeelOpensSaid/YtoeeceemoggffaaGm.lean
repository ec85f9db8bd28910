/- ghost.Make by its contract: the ghost of a list of directions, as a function of the place. -/
import Derived.Test.YtoeeceemoggffaaGd
namespace Go.Proofs.Ytoeeceemoggffaa
open Go.RowKit
set_option maxHeartbeats 1600000
set_option maxRecDepth 100000

def pmN (d : Int × Int) : Nat := (max (-d.1) 0).toNat
def ppN (d : Int × Int) : Nat := (max d.1 0).toNat
/-- one cell, which holds 1 -/
def g0 : Nat → Nat → Int := fun x y => if x = 0 ∧ y = 0 then 1 else 0
/-- the ghost of a list of directions -/
def gh (ds : List (Int × Int)) : Nat → Nat → Int := ds.foldl (fun G d => gs G (pmN d) (ppN d) d.2.toNat) g0
def wN (ds : List (Int × Int)) : Nat := (mw ds).toNat
def hN (ds : List (Int × Int)) : Nat := (mh ds).toNat

theorem gh_succ {ds : List (Int × Int)} {k : Nat} {d : Int × Int} (h : ds[k]? = some d) : gh (ds.take (k + 1)) = gs (gh (ds.take k)) (pmN d) (ppN d) d.2.toNat := by
  unfold gh
  rw [List.take_add_one, h, List.foldl_append]
  rfl

theorem twiceFrom_ok : ∀ (l seen : List (Int × Int)), twiceFrom seen l = 0 → ∀ d ∈ l, okD d = true
  | [], _, _, _, h => by cases h
  | d :: r, seen, h, e, he => by
    unfold twiceFrom at h
    by_cases hok : okD d = true
    · rw [if_pos hok] at h
      by_cases hm : d ∈ seen
      · rw [if_pos hm] at h; cases h
      · rw [if_neg hm] at h
        rcases List.mem_cons.1 he with rfl | he
        · exact hok
        · exact twiceFrom_ok r _ h e he
    · rw [if_neg hok] at h; cases h

theorem mw_split (ds : List (Int × Int)) (k : Nat) : mw ds = mw (ds.take k) + ((ds.drop k).map fun d => (d.1.natAbs : Int)).sum := by
  unfold mw
  conv => lhs; rw [← List.take_append_drop k ds, List.map_append, List.sum_append]
  omega
theorem mh_split (ds : List (Int × Int)) (k : Nat) : mh ds = mh (ds.take k) + ((ds.drop k).map fun d => d.2).sum := by
  unfold mh
  conv => lhs; rw [← List.take_append_drop k ds, List.map_append, List.sum_append]
  omega
theorem sum_nonneg {l : List Int} (h : ∀ x ∈ l, 0 ≤ x) : 0 ≤ l.sum := by
  induction l with
  | nil => simp
  | cons a r ih =>
    rw [List.sum_cons]
    have := h a (by simp)
    have := ih (fun x hx => h x (by simp [hx]))
    omega
theorem mw_take_le (ds : List (Int × Int)) (k : Nat) : mw (ds.take k) ≤ mw ds := by
  have := mw_split ds k
  have h2 : 0 ≤ ((ds.drop k).map fun d => (d.1.natAbs : Int)).sum := sum_nonneg (by intro x hx; obtain ⟨d, _, rfl⟩ := List.mem_map.1 hx; exact Int.natCast_nonneg _)
  omega
theorem mh_take_le {ds : List (Int × Int)} (h : ∀ d ∈ ds, okD d = true) (k : Nat) : mh (ds.take k) ≤ mh ds := by
  have := mh_split ds k
  have h2 : 0 ≤ ((ds.drop k).map fun d => d.2).sum := sum_nonneg (by intro x hx; obtain ⟨d, hd, rfl⟩ := List.mem_map.1 hx; exact ((okD_iff d.1 d.2).1 (h d (List.mem_of_mem_drop hd))).1)
  omega
theorem mw_pos (ds : List (Int × Int)) : 1 ≤ mw ds := by
  unfold mw
  have h2 : 0 ≤ (ds.map fun d => (d.1.natAbs : Int)).sum := sum_nonneg (by intro x hx; obtain ⟨d, _, rfl⟩ := List.mem_map.1 hx; exact Int.natCast_nonneg _)
  omega
theorem mh_pos {ds : List (Int × Int)} (h : ∀ d ∈ ds, okD d = true) : 1 ≤ mh ds := by
  unfold mh
  have h2 : 0 ≤ (ds.map fun d => d.2).sum := sum_nonneg (by intro x hx; obtain ⟨d, hd, rfl⟩ := List.mem_map.1 hx; exact ((okD_iff d.1 d.2).1 (h d hd)).1)
  omega

theorem two_pow8 : ∀ k, k ≤ 8 → (0 : Int) ≤ 2 ^ k ∧ (2 : Int) ^ k ≤ 256 := by decide

/-- an error's number of ghost.Make -/
def mkErr (ds : List (Int × Int)) : Int := if 8 < ds.length then 2 else if twice ds ≠ 0 then twice ds else if 64 < mw ds ∨ 64 < mh ds then 4 else 0

abbrev gh0 : Value := .agg #[.int .i64 0, .int .i64 0, .slice none 0 0]

theorem Three.alloc {b : Nat} {x y z : Value} {w : World} (h : Three b x y z w) (o : Obj) : Three b x y z (w.alloc o) :=
  h.later ((Below.refl (b + 1) w).alloc h.lt o) (Nat.lt_succ_self b)

theorem Make_no (A : Option Addr) (cap : Nat) (ds : List (Int × Int)) (w : World) (hD : Dirs w A ds) (hcap : ds.length ≤ cap) (he : mkErr ds ≠ 0) :
    Calls Try.prog 30 #[.slice A ds.length cap] w fun e w' => e = .returned (.tuple #[gh0, .int .i64 (mkErr ds)]) ∧ Below w.heap.size w w' := by
  have hlen := hD.len
  have HL := Lib.hid (fun w hD => listed_walk A cap ds w hD hcap)
  have HD := Lib.hid hD
  unfold mkErr at he ⊢
  clear hD hcap
  generalize ds.length = n at *
  by_cases h8 : 8 < n
  · rw [if_pos h8]
    clear he
    go_enter Try.func30, Try.ntmps30
    go_wp2
    have hz := (Three.made w 44 (.int .i64 0) (.int .i64 0) (.slice none 0 0))
    refine bodyPost_ret (v := .tuple #[gh0, .int .i64 2]) (by simp [results, Try.results30, go_sem, hz.c0, hz.c1, hz.c2]) rfl ⟨rfl, (Below.refl _ _).alloc (Nat.le_refl _) _⟩
  · rw [if_neg h8] at he ⊢
    have hz := (Three.made w 44 (.int .i64 0) (.int .i64 0) (.slice none 0 0))
    have HZ := Lib.hid hz
    have hDa := HD.out.later ((Below.refl w.heap.size w).alloc (Nat.le_refl _) (.cells #[.int .i64 0, .int .i64 0, .slice none 0 0] 44))
    have HDa := Lib.hid hDa
    clear hz hDa
    by_cases ht : twice ds ≠ 0
    · rw [if_pos ht]
      rw [lst_no rfl ht] at HL
      clear he
      generalize twice ds = T at *
      have hT : (T != 0) = true := by simpa using ht
      clear ht
      go_enter Try.func30, Try.ntmps30
      go_wp2_with fail
      refine (HL.out _ HDa.out).mono ?_; rintro e w1 ⟨rfl, hb⟩
      have hz := HZ.out.later hb (by simp)
      have HZ2 := Lib.hid hz
      have HB := Lib.hid (((Below.refl w.heap.size w).alloc (Nat.le_refl _) (.cells #[.int .i64 0, .int .i64 0, .slice none 0 0] 44)).trans (hb.mono (by simp)))
      have hl1 := hz.lt
      obtain ⟨l4, e0, e1, e2, f0, f1, f2⟩ := hz
      clear hb
      go_wp2
      have hz3 := (HZ2.out.set (.int .i64 0) (.int .i64 0) (.slice none 0 0)).alloc (.cells #[.int .i64 0, .int .i64 0] 88)
      refine bodyPost_ret (v := .tuple #[gh0, .int .i64 T]) (by simp [results, Try.results30, go_sem, hz3.c0, hz3.c1, hz3.c2]) rfl ⟨rfl, ?_⟩
      exact (((HB.out.setCell (Nat.le_refl _) _).setCell (Nat.le_refl _) _).setCell (Nat.le_refl _) _).alloc (Nat.le_of_lt (HZ2.out.set (.int .i64 0) (.int .i64 0) (.slice none 0 0)).lt) _
    · have ht0 : twice ds = 0 := by simpa using ht
      rw [if_neg ht] at he ⊢
      rw [lst_yes ht0] at HL
      clear ht ht0
      generalize mw ds = X at *
      generalize mh ds = Y at *
      by_cases hX : 64 < X
      · rw [if_pos (.inl hX)]
        clear he
        go_enter Try.func30, Try.ntmps30
        go_wp2_with fail
        refine (HL.out _ HDa.out).mono ?_; rintro e w1 ⟨rfl, hb⟩
        have hz := HZ.out.later hb (by simp)
        have HZ2 := Lib.hid hz
        have HB := Lib.hid (((Below.refl w.heap.size w).alloc (Nat.le_refl _) (.cells #[.int .i64 0, .int .i64 0, .slice none 0 0] 44)).trans (hb.mono (by simp)))
        have hl1 := hz.lt
        obtain ⟨l4, e0, e1, e2, f0, f1, f2⟩ := hz
        clear hb
        go_wp2
        have hz3 := (HZ2.out.set (.int .i64 0) (.int .i64 0) (.slice none 0 0)).alloc (.cells #[.int .i64 X, .int .i64 Y] 88)
        refine bodyPost_ret (v := .tuple #[gh0, .int .i64 4]) (by simp [results, Try.results30, go_sem, hz3.c0, hz3.c1, hz3.c2]) rfl ⟨rfl, ?_⟩
        exact (((HB.out.setCell (Nat.le_refl _) _).setCell (Nat.le_refl _) _).setCell (Nat.le_refl _) _).alloc (Nat.le_of_lt (HZ2.out.set (.int .i64 0) (.int .i64 0) (.slice none 0 0)).lt) _
      · by_cases hY : 64 < Y
        · rw [if_pos (.inr hY)]
          clear he
          go_enter Try.func30, Try.ntmps30
          go_wp2_with fail
          refine (HL.out _ HDa.out).mono ?_; rintro e w1 ⟨rfl, hb⟩
          have hz := HZ.out.later hb (by simp)
          have HZ2 := Lib.hid hz
          have HB := Lib.hid (((Below.refl w.heap.size w).alloc (Nat.le_refl _) (.cells #[.int .i64 0, .int .i64 0, .slice none 0 0] 44)).trans (hb.mono (by simp)))
          have hl1 := hz.lt
          obtain ⟨l4, e0, e1, e2, f0, f1, f2⟩ := hz
          clear hb
          go_wp2
          have hz3 := (HZ2.out.set (.int .i64 0) (.int .i64 0) (.slice none 0 0)).alloc (.cells #[.int .i64 X, .int .i64 Y] 88)
          refine bodyPost_ret (v := .tuple #[gh0, .int .i64 4]) (by simp [results, Try.results30, go_sem, hz3.c0, hz3.c1, hz3.c2]) rfl ⟨rfl, ?_⟩
          exact (((HB.out.setCell (Nat.le_refl _) _).setCell (Nat.le_refl _) _).setCell (Nat.le_refl _) _).alloc (Nat.le_of_lt (HZ2.out.set (.int .i64 0) (.int .i64 0) (.slice none 0 0)).lt) _
        · rw [if_neg (by omega)] at he
          exact (he rfl).elim

/-- the ghost of a list, in new memory -/
def GivesGhost (ds : List (Int × Int)) (w : World) (e : Ending) (w' : World) : Prop :=
  ∃ g, e = .returned (.tuple #[ghV (wN ds) (hN ds) g (wN ds * hN ds) (wN ds * hN ds), .int .i64 0]) ∧
    Own w.heap.size 23 w w' (.slice (some ⟨g, 0, none⟩) (wN ds * hN ds) (wN ds * hN ds)) ((cellsG (gh ds) (wN ds) (wN ds * hN ds)).map cv)

theorem mkErr_zero {ds : List (Int × Int)} (h : mkErr ds = 0) : ds.length ≤ 8 ∧ twice ds = 0 ∧ mw ds ≤ 64 ∧ mh ds ≤ 64 := by
  unfold mkErr at h
  by_cases h8 : 8 < ds.length
  · rw [if_pos h8] at h; cases h
  · rw [if_neg h8] at h
    by_cases ht : twice ds ≠ 0
    · rw [if_pos ht] at h; exact (ht h).elim
    · rw [if_neg ht] at h
      by_cases hx : 64 < mw ds ∨ 64 < mh ds
      · rw [if_pos hx] at h; cases h
      · exact ⟨by omega, by simpa using ht, by omega, by omega⟩

theorem Three.set' {b : Nat} {x y z : Value} {w : World} (h : Three b x y z w) {B : Nat} {e : TypeId} {w0 : World} {g n cap : Nat} {xs : List Value} (ho : Own B e w0 w (.slice (some ⟨g, 0, none⟩) n cap) xs) (hb : B ≤ b) (hg : g ≠ b) (u v t : Value) :
    Three b u v t (((w.setCell ⟨b, 0, none⟩ u).setCell ⟨b, 1, none⟩ v).setCell ⟨b, 2, none⟩ t) ∧ Own B e w0 (((w.setCell ⟨b, 0, none⟩ u).setCell ⟨b, 1, none⟩ v).setCell ⟨b, 2, none⟩ t) (.slice (some ⟨g, 0, none⟩) n cap) xs :=
  ⟨h.set u v t, ((ho.other hg hb 0 _).other hg hb 1 _).other hg hb 2 _⟩

theorem Three.beside {b k : Nat} {x y z : Value} {w : World} (h : Three b x y z w) (hne : b ≠ k) (u v t : Value) : Three b x y z (((w.setCell ⟨k, 0, none⟩ u).setCell ⟨k, 1, none⟩ v).setCell ⟨k, 2, none⟩ t) := by
  have e : (((w.setCell ⟨k, 0, none⟩ u).setCell ⟨k, 1, none⟩ v).setCell ⟨k, 2, none⟩ t).heap[b]? = w.heap[b]? := by
    rw [Below.heap_setCell _ _ _ _ hne, Below.heap_setCell _ _ _ _ hne, Below.heap_setCell _ _ _ _ hne]
  exact ⟨by simpa [World.setCell] using h.lt, (World.cell?_of_block (a := ⟨b, 0, none⟩) e).trans h.c0, (World.cell?_of_block (a := ⟨b, 1, none⟩) e).trans h.c1, (World.cell?_of_block (a := ⟨b, 2, none⟩) e).trans h.c2,
    (World.frozen?_of_block (a := ⟨b, 0, none⟩) e).trans h.f0, (World.frozen?_of_block (a := ⟨b, 1, none⟩) e).trans h.f1, (World.frozen?_of_block (a := ⟨b, 2, none⟩) e).trans h.f2⟩

theorem wN_succ {ds : List (Int × Int)} {k : Nat} {p q : Int} (h : ds[k]? = some (p, q)) : wN (ds.take (k + 1)) = wN (ds.take k) + (pmN (p, q) + ppN (p, q)) := by
  have h1 := mw_succ h
  have h2 := mw_pos (ds.take k)
  simp only at h1
  unfold wN pmN ppN
  simp only
  generalize mw (ds.take (k + 1)) = a at *
  generalize mw (ds.take k) = b at *
  omega
theorem hN_succ {ds : List (Int × Int)} {k : Nat} {p q : Int} (h : ds[k]? = some (p, q)) (hq : 0 ≤ q) (hh : 1 ≤ mh (ds.take k)) : hN (ds.take (k + 1)) = hN (ds.take k) + q.toNat := by
  have h1 := mh_succ h
  simp only at h1
  unfold hN
  generalize mh (ds.take (k + 1)) = a at *
  generalize mh (ds.take k) = b at *
  omega

theorem gh_nil_small : Small (gh []) 1 := by
  intro x y
  show -1 ≤ g0 x y ∧ g0 x y ≤ 1
  unfold g0; split <;> decide
theorem gh_nil_boxed : Boxed (gh []) 1 1 := by
  intro x y h
  show g0 x y = 0
  unfold g0; rw [if_neg (by omega)]
theorem fint_one : fint 1 = 4607182418800017408 := by decide +kernel
theorem cells_nil : (cellsG (gh []) 1 1).map cv = [.complex .f64 4607182418800017408 0] := by
  show [cv (fint (gh [] (0 % 1) (0 / 1)), 0)] = _
  have : gh [] (0 % 1) (0 / 1) = 1 := by decide
  rw [this, fint_one]

theorem Make_yes (A : Option Addr) (cap : Nat) (ds : List (Int × Int)) (w : World) (hD : Dirs w A ds) (hcap : ds.length ≤ cap) (he : mkErr ds = 0) :
    Calls Try.prog 30 #[.slice A ds.length cap] w fun e w' => GivesGhost ds w e w' := by
  obtain ⟨h8, ht, hX, hY⟩ := mkErr_zero he
  have hok := twiceFrom_ok ds [] ht
  have HL := Lib.hid (fun w hD => listed_walk A cap ds w hD hcap)
  rw [lst_yes ht] at HL
  have HD := Lib.hid hD
  have HOk := Lib.hid hok
  obtain ⟨n, hn⟩ : ∃ n, n = ds.length := ⟨_, rfl⟩
  rw [← hn] at h8 HL ⊢
  have HN := Lib.hid hn
  obtain ⟨X, hX'⟩ : ∃ X, X = mw ds := ⟨_, rfl⟩
  obtain ⟨Y, hY'⟩ : ∃ Y, Y = mh ds := ⟨_, rfl⟩
  rw [← hX', ← hY'] at HL
  rw [← hX'] at hX
  rw [← hY'] at hY
  have HX := Lib.hid hX'
  have HY := Lib.hid hY'
  have hz := (Three.made w 44 (.int .i64 0) (.int .i64 0) (.slice none 0 0))
  have HZ := Lib.hid hz
  have hDa := HD.out.later ((Below.refl w.heap.size w).alloc (Nat.le_refl _) (.cells #[.int .i64 0, .int .i64 0, .slice none 0 0] 44))
  have HDa := Lib.hid hDa
  clear hz hDa hD hcap he hok ht hn hX' hY'
  go_enter Try.func30, Try.ntmps30
  go_wp2_with fail
  refine (HL.out _ HDa.out).mono ?_; rintro e w1 ⟨rfl, hb⟩
  have hz := HZ.out.later hb (by simp)
  have HZ2 := Lib.hid hz
  have HB := Lib.hid (((Below.refl w.heap.size w).alloc (Nat.le_refl _) (.cells #[.int .i64 0, .int .i64 0, .slice none 0 0] 44)).trans (hb.mono (by simp)))
  have hl1 := hz.lt
  clear hb hz
  go_wp2
  go_loopw [35] (fun i wr => ∃ k Xk Yk g : Nat, k ≤ n ∧ i = .int .i64 k ∧ Xk = wN (ds.take k) ∧ Yk = hN (ds.take k) ∧ g ≠ w1.heap.size + 1 + 1 ∧ w.heap.size < g ∧ Small (gh (ds.take k)) (2 ^ k) ∧ Boxed (gh (ds.take k)) Xk Yk ∧
    Three (w1.heap.size + 1 + 1) (.int .i64 Xk) (.int .i64 Yk) (.slice (some ⟨g, 0, none⟩) (Xk * Yk) (Xk * Yk)) wr ∧ Three w.heap.size (.int .i64 0) (.int .i64 0) (.slice none 0 0) wr ∧
    Own w.heap.size 23 w wr (.slice (some ⟨g, 0, none⟩) (Xk * Yk) (Xk * Yk)) ((cellsG (gh (ds.take k)) Xk (Xk * Yk)).map cv)) (fun i _ => n - (intOf i).toNat)
  case atStart =>
    obtain ⟨W1, hW1⟩ : ∃ W, W = w1.alloc (.cells #[.int .i64 X, .int .i64 Y] 88) := ⟨_, rfl⟩
    have hs1 : W1.heap.size = w1.heap.size + 1 := by rw [hW1]; simp
    have hb1 : Below w.heap.size w W1 := by rw [hW1]; exact HB.out.alloc (by omega) _
    have hz1 : Three w.heap.size (.int .i64 0) (.int .i64 0) (.slice none 0 0) W1 := by rw [hW1]; exact HZ2.out.alloc _
    have ho := (Own.made W1 23 [.complex .f64 4607182418800017408 0] (by decide)).lower (by omega) hb1
    rw [hs1] at ho
    rw [← hW1]
    refine ⟨0, 1, 1, w1.heap.size + 1, Nat.zero_le _, rfl, rfl, rfl, by omega, by omega, gh_nil_small, gh_nil_boxed, ?_, ?_, ?_⟩
    · have := Three.made (W1.alloc (.cells #[.complex .f64 4607182418800017408 0] 23)) 44 (.int .i64 1) (.int .i64 1) (.slice (some ⟨w1.heap.size + 1, 0, none⟩) 1 1)
      rw [new_size, hs1] at this
      exact this
    · exact (hz1.alloc _).alloc _
    · have := ho.later ((Below.refl (w1.heap.size + 2) _).alloc (by rw [new_size, hs1]; omega) (.cells #[.int .i64 1, .int .i64 1, .slice (some ⟨w1.heap.size + 1, 0, none⟩) 1 1] 44)) (by rw [new_size, hs1]; omega)
      show Own _ _ _ _ _ ((cellsG (gh []) 1 1).map cv)
      rw [cells_nil]
      exact this
  case round =>
    obtain ⟨k, Xk, Yk, g, hk, rfl, hXk, hYk, hgk, hgw, hsm, hbx, h6, h2, hown⟩ := hrel
    have HXk := Lib.hid hXk
    have HYk := Lib.hid hYk
    have H6 := Lib.hid h6
    have H2 := Lib.hid h2
    have HO := Lib.hid hown
    have hl6 := h6.lt
    clear hXk hYk h6 h2 hown
    by_cases hlt : k < n
    · obtain ⟨p, q, b, off, hg, hp, hq, rfl, hbl, c0, c1⟩ := (HD.out.later HO.out.below).get (i := k) (by rw [← HN.out]; exact hlt)
      have HG := Lib.hid hg
      obtain ⟨o0, o1, o2, o3, o4⟩ := (okD_iff p q).1 (HOk.out (p, q) (List.mem_of_getElem? hg))
      have hw1 := wN_succ hg
      have hh0 : 1 ≤ mh (ds.take k) := mh_pos (fun d hd => HOk.out d (List.mem_of_mem_take hd))
      have hh1 := hN_succ hg o0 hh0
      have hle1 : wN (ds.take (k + 1)) ≤ 64 := by have := mw_take_le ds (k + 1); have := HX.out; unfold wN; omega
      have hle2 : hN (ds.take (k + 1)) ≤ 64 := by have := mh_take_le HOk.out (k + 1); have := HY.out; unfold hN; omega
      have hx1 : 1 ≤ Xk := by rw [HXk.out]; have := mw_pos (ds.take k); unfold wN; omega
      have hy1 : 1 ≤ Yk := by rw [HYk.out]; unfold hN; omega
      rw [← HXk.out] at hw1
      rw [← HYk.out] at hh1
      have hpw := two_pow8 k (by omega)
      have epm : (pmN (p, q) : Int) = max (-p) 0 := by unfold pmN; simp only; omega
      have epp : (ppN (p, q) : Int) = max p 0 := by unfold ppN; simp only; omega
      have hgs : g < wr.heap.size := HO.out.lt.2
      have HDb := Lib.hid (fun (wa : World) (hb : g < wa.heap.size) hc => doubled_walk g (Xk * Yk) Xk Yk (pmN (p, q)) (ppN (p, q)) q.toNat p q (gh (ds.take k)) (2 ^ k) wa (by omega) (by omega) (by omega) (by omega) (by omega) (by omega) epm epp (by omega) (by omega) hsm hbx hb hc)
      rw [← hw1, ← hh1, ← gh_succ hg] at HDb
      have HS := Lib.hid (gs_small hsm hpw.1 (pmN (p, q)) (ppN (p, q)) q.toNat)
      have HBx := Lib.hid (gs_boxed (pm := pmN (p, q)) (pp := ppN (p, q)) (q := q.toNat) hbx)
      have hca : ∀ j, j < Xk * Yk → (wr.alloc (.cells #[.int .i64 p, .int .i64 q] 51)).cell? ⟨g, j, none⟩ = some (cv (fint (gh (ds.take k) (j % Xk) (j / Xk)), 0)) := fun j hj =>
        (HO.out.later ((Below.refl wr.heap.size wr).alloc (Nat.le_refl _) _) (Nat.le_refl _)).cell (by rw [List.getElem?_map, cellsG_get _ hj]; rfl)
      have HCa := Lib.hid hca
      obtain ⟨l6, e60, e61, e62, f60, f61, f62⟩ := H6.out
      obtain ⟨X1, hX1⟩ : ∃ X1, X1 = wN (ds.take (k + 1)) := ⟨_, rfl⟩
      obtain ⟨Y1, hY1⟩ : ∃ Y1, Y1 = hN (ds.take (k + 1)) := ⟨_, rfl⟩
      rw [← hX1, ← hY1] at HDb
      have HX1 := Lib.hid hX1
      have HY1 := Lib.hid hY1
      have HW1 := Lib.hid hw1
      have HH1 := Lib.hid hh1
      have hgs2 : g < wr.heap.size + 1 := by omega
      clear hg hp hq o0 o1 o2 o3 o4 hw1 hh1 hh0 hle1 hle2 hx1 hy1 hpw epm epp hsm hbx hca hX1 hY1
      go_wp2_with fail
      refine (HDb.out _ (by simp <;> omega) HCa.out).mono ?_; rintro e w2 ⟨g', rfl, ho2⟩
      have hb2 := ho2.below
      have hgl := ho2.lt
      have h62 := (H6.out.alloc (.cells #[.int .i64 p, .int .i64 q] 51)).later hb2 (by simp <;> omega)
      have h22 := (H2.out.alloc (.cells #[.int .i64 p, .int .i64 q] 51)).later hb2 (by simp <;> omega)
      have H62 := Lib.hid h62
      have H22 := Lib.hid h22
      have hO2 := ho2.lower (B' := w.heap.size) (by simp <;> omega) (HO.out.below.alloc (by omega) _)
      have HO2 := Lib.hid hO2
      rw [new_size] at hgl
      clear hb2 h22 ho2 hO2 e60 e61 e62 f60 f61 f62 l6
      obtain ⟨l6, e60, e61, e62, f60, f61, f62⟩ := h62
      go_wp2
      go_roundw
      case rel =>
        obtain ⟨s1, s2⟩ := H62.out.set' HO2.out (by omega) (by omega) (.int .i64 X1) (.int .i64 Y1) (.slice (some ⟨g', 0, none⟩) (X1 * Y1) (X1 * Y1))
        refine ⟨k + 1, X1, Y1, g', by omega, by go_num, HX1.out, HY1.out, by omega, by omega, ?_, ?_, s1, H22.out.beside (by omega) _ _ _, s2⟩
        · have := HS.out
          rw [gh_succ HG.out, Int.pow_succ, Int.mul_comm]
          exact this
        · have := HBx.out
          rw [gh_succ HG.out, HX1.out, HY1.out, HW1.out, HH1.out]
          exact this
      case measure => simp [intOf]; omega
    · obtain rfl : k = n := by omega
      have h6 := H6.out
      have h2 := H2.out
      obtain ⟨l6, e60, e61, e62, f60, f61, f62⟩ := h6
      obtain ⟨l2, e20, e21, e22, f20, f21, f22⟩ := h2
      go_wp2
      obtain ⟨s1, s2⟩ := H2.out.set' HO.out (Nat.le_refl _) (by omega) (.int .i64 Xk) (.int .i64 Yk) (.slice (some ⟨g, 0, none⟩) (Xk * Yk) (Xk * Yk))
      refine bodyPost_ret (v := .tuple #[ghV Xk Yk g (Xk * Yk) (Xk * Yk), .int .i64 0]) (by simp [results, Try.results30, go_sem, s1.c0, s1.c1, s1.c2]) rfl ⟨g, ?_, ?_⟩
      · rw [HXk.out, HYk.out, HN.out, List.take_length]
      · rw [HXk.out, HYk.out, HN.out, List.take_length] at s2
        rw [HXk.out, HYk.out, HN.out, List.take_length]
        exact s2
end Go.Proofs.Ytoeeceemoggffaa
