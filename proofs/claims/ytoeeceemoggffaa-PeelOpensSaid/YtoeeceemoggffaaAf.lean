/- The fixed fact of layer 14. -/
import Derived.Test.YtoeeceemoggffaaSw
namespace Go.Proofs.Ytoeeceemoggffaa
open Go.RowKit Go.Lib
set_option maxHeartbeats 3200000
set_option maxRecDepth 100000

def gr14 (c : Nat) : Int := if c < 4 then (c : Int) + 1 else 0
theorem gr14_small (c : Nat) : -8 ≤ gr14 c ∧ gr14 c ≤ 8 := by unfold gr14; split <;> omega
def ds14 : List (Int × Int) := [(1, 0), (1, 1)]
def es14 : List (Int × Int) := [(1, 0), (0, 1)]
theorem sums14 : VS 2 4 ds14 gr14 allC 0 0 = 7 ∧ VS 2 4 ds14 gr14 allC 0 1 = 3 ∧ VS 2 4 ds14 gr14 allC 1 0 = 3 ∧ VS 2 4 ds14 gr14 allC 1 1 = 5 ∧ VS 2 4 ds14 gr14 allC 1 2 = 2 := by decide
theorem bins14 : bnD 2 ds14 0 = 2 ∧ bnD 2 ds14 1 = 3 := by decide
theorem words14 : fint 7 = 4619567317775286272 ∧ fint 3 = 4613937818241073152 ∧ fint 5 = 4617315517961601024 ∧ fint 2 = 4611686018427387904 := by decide +kernel

/-- along both directions no cell of the two by two grid stays open -/
theorem core14 (S : Nat → Bool) (h : Core 2 ds14 S) : ∀ c, c < 2 * 2 → S c = false := by
  have key : ∀ d ∈ ds14, ∀ c, c < 4 → (∀ c', c' < 4 → c' ≠ c → S c' = true → lineZ 2 d c' ≠ lineZ 2 d c) → S c = false := fun d hd c hc hno => by
    cases hS : S c with
    | false => rfl
    | true =>
      obtain ⟨c', h1, h2, h3, h4⟩ := h.stuck d hd c hc hS
      exact absurd h4 (hno c' h1 h2 h3)
  have s1 : S 1 = false := key (1, 1) (by decide) 1 (by decide) (fun c' h1 h2 _ => by
    match c', h1, h2 with
    | 0, _, _ => decide
    | 2, _, _ => decide
    | 3, _, _ => decide)
  have s2 : S 2 = false := key (1, 1) (by decide) 2 (by decide) (fun c' h1 h2 _ => by
    match c', h1, h2 with
    | 0, _, _ => decide
    | 1, _, _ => decide
    | 3, _, _ => decide)
  have s0 : S 0 = false := key (1, 0) (by decide) 0 (by decide) (fun c' h1 h2 h3 => by
    match c', h1, h2, h3 with
    | 1, _, _, h3 => rw [s1] at h3; cases h3
    | 2, _, _, _ => decide
    | 3, _, _, _ => decide)
  have s3 : S 3 = false := key (1, 0) (by decide) 3 (by decide) (fun c' h1 h2 h3 => by
    match c', h1, h2, h3 with
    | 0, _, _, _ => decide
    | 1, _, _, _ => decide
    | 2, _, _, h3 => rw [s2] at h3; cases h3
    | 3, _, h2, _ => exact absurd rfl h2)
  intro c hc
  match c, hc with
  | 0, _ => exact s0
  | 1, _ => exact s1
  | 2, _ => exact s2
  | 3, _ => exact s3

/-- along the two axes every cell stays open -/
theorem full14 (S : Nat → Bool) (h : Core 2 es14 S) : opn S 4 = 4 := by
  have hf : StuckN 2 es14 (fun _ => true) := by
    intro d hd c hc _
    rcases List.mem_cons.1 hd with rfl | hd
    · match c, hc with
      | 0, _ => exact ⟨1, by decide, by decide, rfl, by decide⟩
      | 1, _ => exact ⟨0, by decide, by decide, rfl, by decide⟩
      | 2, _ => exact ⟨3, by decide, by decide, rfl, by decide⟩
      | 3, _ => exact ⟨2, by decide, by decide, rfl, by decide⟩
    · obtain rfl : d = (0, 1) := by simpa using hd
      match c, hc with
      | 0, _ => exact ⟨2, by decide, by decide, rfl, by decide⟩
      | 1, _ => exact ⟨3, by decide, by decide, rfl, by decide⟩
      | 2, _ => exact ⟨0, by decide, by decide, rfl, by decide⟩
      | 3, _ => exact ⟨1, by decide, by decide, rfl, by decide⟩
  rw [opn_congr (T := fun _ => true) (fun c hc => h.great _ hf c hc rfl)]
  rfl

theorem sn14 (w : World) (hs : Nat) (c0 : ∀ j, w.cell? ⟨hs, j, none⟩ = #[Value.complex .f64 4619567317775286272 0, .complex .f64 4613937818241073152 0][j]?) (c1 : ∀ j, w.cell? ⟨hs + 1, j, none⟩ = #[Value.complex .f64 4613937818241073152 0, .complex .f64 4617315517961601024 0, .complex .f64 4611686018427387904 0][j]?)
    (c2 : ∀ j, w.cell? ⟨hs + 1 + 1, j, none⟩ = #[Value.int .i64 1, .int .i64 0, sl hs 2 2, .int .i64 1, .int .i64 1, sl (hs + 1) 3 3][j]?) : Sn w (hs + 1 + 1) 2 ds14 (fun k => hs + k) (VS 2 4 ds14 gr14 allC) := by
  obtain ⟨b0, b1⟩ := bins14
  obtain ⟨v0, v1, v2, v3, v4⟩ := sums14
  obtain ⟨f7, f3, f5, f2⟩ := words14
  refine ⟨fun k hk => ?_, fun k hk => ?_, fun k hk => ?_, fun k i hk hi => ?_, fun k i => ?_⟩
  · match k, hk with
    | 0, _ => exact c2 0
    | 1, _ => exact c2 3
  · match k, hk with
    | 0, _ => exact c2 1
    | 1, _ => exact c2 4
  · match k, hk with
    | 0, _ => rw [b0]; exact c2 2
    | 1, _ => rw [b1]; exact c2 5
  · match k, hk with
    | 0, _ =>
      rw [b0] at hi
      match i, hi with
      | 0, _ => rw [v0, f7]; exact c0 0
      | 1, _ => rw [v1, f3]; exact c0 1
    | 1, _ =>
      rw [b1] at hi
      match i, hi with
      | 0, _ => rw [v2, f3]; exact c1 0
      | 1, _ => rw [v3, f5]; exact c1 1
      | 2, _ => rw [v4, f2]; exact c1 2
  · have := gsm_bound (ln := lnD 2 ds14 k) (S := allC) gr14_small 4 i
    show -128 ≤ gsm _ _ _ _ _ ∧ gsm _ _ _ _ _ ≤ 128
    omega

theorem Solve_at {n M pb capp K : Nat} {N : Int} {ds : List (Int × Int)} {Bk : Nat → Nat} {Gr : Nat → Int} {w : World} (hN : N = (n : Int)) (hK : K = ds.length) (hM : M = n * n) (hS : Sn w pb n ds Bk (VS n M ds Gr allC)) (h1 : 1 ≤ n) (hn4 : n ≤ 4) (hds : ds.length ≤ 64) (ht : twice ds = 0) (hG : ∀ c, -8 ≤ Gr c ∧ Gr c ≤ 8)
    (hcore : ∀ S, Core n ds S → ∀ c, c < n * n → S c = false) :
    Calls Try.prog 77 #[.agg #[.int .i64 N, .slice (some ⟨pb, 0, none⟩) K capp]] w fun e w' => ∃ gb, e = .returned (.tuple #[.agg #[.int .i64 N, sl gb M M], .int .i64 0]) ∧ (∀ c, c < M → w'.cell? ⟨gb, c, none⟩ = some (.complex .f64 (fint (Gr c)) 0)) ∧ Below w.heap.size w w' := by
  subst hN hK
  exact Solve_walk hM hS h1 hn4 hds ht hG hcore
theorem Left_at {A : Option Addr} {capd K : Nat} {N L : Int} {ds : List (Int × Int)} {w : World} (n : Nat) (hN : N = (n : Int)) (hK : K = ds.length) (hD : Dirs w A ds) (h1 : 1 ≤ n) (h2 : n ≤ 64) (hds : ds.length ≤ 64) (ht : twice ds = 0) (hL : ∀ S, Core n ds S → ((opn S (n * n) : Nat) : Int) = L) :
    Calls Try.prog 45 #[.int .i64 N, .slice A K capd] w fun e w' => e = .returned (.tuple #[.int .i64 L, .int .i64 0]) ∧ Below w.heap.size w w' := by
  subst hN hK
  refine (Left_yes n hD h1 h2 hds ht).mono ?_
  rintro e w' ⟨S, rfl, hc, hb⟩
  rw [hL S hc]
  exact ⟨rfl, hb⟩

theorem alive14_walk (w : World) : Calls Try.prog 42 #[] w fun e w' => e = .returned (.bool true) ∧ Below w.heap.size w w' := by
  have HC : Hid (∀ (pb : Nat) (Bk : Nat → Nat) (w : World), Sn w pb 2 ds14 Bk (VS 2 4 ds14 gr14 allC) → Calls Try.prog 77 #[.agg #[.int .i64 2, .slice (some ⟨pb, 0, none⟩) 2 2]] w fun e w' => ∃ gb, e = .returned (.tuple #[.agg #[.int .i64 2, sl gb 4 4], .int .i64 0]) ∧ (∀ c, c < 4 → w'.cell? ⟨gb, c, none⟩ = some (.complex .f64 (fint (gr14 c)) 0)) ∧ Below w.heap.size w w') :=
    Lib.hid (fun pb Bk w hS => Solve_at (n := 2) rfl rfl rfl hS (by decide) (by decide) (by decide) (by decide) gr14_small core14)
  have HL : Hid (∀ (A : Option Addr) (w : World), Dirs w A es14 → Calls Try.prog 45 #[.int .i64 2, .slice A 2 2] w fun e w' => e = .returned (.tuple #[.int .i64 4, .int .i64 0]) ∧ Below w.heap.size w w') :=
    Lib.hid (fun A w hD => Left_at 2 rfl rfl hD (by decide) (by decide) (by decide) (by decide) (fun S hc => by rw [show 2 * 2 = 4 from rfl, full14 S hc]; rfl))
  obtain ⟨W, hW⟩ : ∃ W, W = (((w.alloc (.cells #[.complex .f64 4619567317775286272 0, .complex .f64 4613937818241073152 0] 23)).alloc (.cells #[.complex .f64 4613937818241073152 0, .complex .f64 4617315517961601024 0, .complex .f64 4611686018427387904 0] 23)).alloc (.cells #[.int .i64 1, .int .i64 0, sl w.heap.size 2 2, .int .i64 1, .int .i64 1, sl (w.heap.size + 1) 3 3] 61)).alloc (.cells #[.int .i64 2, .slice (some ⟨w.heap.size + 1 + 1, 0, none⟩) 2 2] 108) := ⟨_, rfl⟩
  have hbW : Below w.heap.size w W := by rw [hW]; exact ((((Below.refl _ _).alloc (Nat.le_refl _) _).alloc (by simp) _).alloc (by simp <;> omega) _).alloc (by simp <;> omega) _
  have hsn : Sn W (w.heap.size + 1 + 1) 2 ds14 (fun k => w.heap.size + k) (VS 2 4 ds14 gr14 allC) := by
    refine sn14 W w.heap.size (fun j => ?_) (fun j => ?_) (fun j => ?_)
    · rw [hW]
      exact (((((Below.refl _ _).alloc (Nat.le_refl _) _).alloc (by simp) _).alloc (by simp <;> omega) _).cell (by simp)).trans (new_cell w _ _ j)
    · rw [hW]
      have e := new_cell (w.alloc (.cells #[.complex .f64 4619567317775286272 0, .complex .f64 4613937818241073152 0] 23)) #[Value.complex .f64 4613937818241073152 0, .complex .f64 4617315517961601024 0, .complex .f64 4611686018427387904 0] 23 j
      rw [new_size] at e
      exact ((((Below.refl _ _).alloc (Nat.le_refl _) _).alloc (by simp) _).cell (by simp)).trans e
    · rw [hW]
      have e := new_cell ((w.alloc (.cells #[.complex .f64 4619567317775286272 0, .complex .f64 4613937818241073152 0] 23)).alloc (.cells #[.complex .f64 4613937818241073152 0, .complex .f64 4617315517961601024 0, .complex .f64 4611686018427387904 0] 23)) #[Value.int .i64 1, .int .i64 0, sl w.heap.size 2 2, .int .i64 1, .int .i64 1, sl (w.heap.size + 1) 3 3] 61 j
      rw [new_size, new_size] at e
      exact (((Below.refl _ _).alloc (Nat.le_refl _) _).cell (by simp)).trans e
  have HSn := Lib.hid hsn
  have HBW := Lib.hid hbW
  have HW := Lib.hid hW
  have q1 : (FloatKind.f64.format.order 4611686018427387904 4611686018427387904 == some Ordering.eq) = true := by decide +kernel
  have q2 : (FloatKind.f64.format.order 4613937818241073152 4613937818241073152 == some Ordering.eq) = true := by decide +kernel
  have q3 : (FloatKind.f64.format.order 0 0 == some Ordering.eq) = true := by decide +kernel
  clear hsn hbW hW
  go_enter Try.func42, Try.ntmps42
  go_wp2_with fail
  rw [← HW.out]
  refine (HC.out _ _ _ HSn.out).mono ?_; rintro e w1 ⟨gb, rfl, hg, hb1⟩
  obtain ⟨f7, f3, f5, f2⟩ := words14
  have g1 : w1.cell? ⟨gb, 1, none⟩ = some (.complex .f64 4611686018427387904 0) := by rw [hg 1 (by decide), ← f2]; rfl
  have g2 : w1.cell? ⟨gb, 2, none⟩ = some (.complex .f64 4613937818241073152 0) := by rw [hg 2 (by decide), ← f3]; rfl
  have HB1 := Lib.hid (HBW.out.trans (hb1.mono HBW.out.size))
  have HD : Hid (Dirs ((w1.alloc (.cells #[.int .i64 2, sl gb 4 4] 59)).alloc (.cells #[.int .i64 1, .int .i64 0, .int .i64 0, .int .i64 1] 51)) (some ⟨w1.heap.size + 1, 0, none⟩) es14) := Lib.hid (by
    have e : ∀ j, ((w1.alloc (.cells #[.int .i64 2, sl gb 4 4] 59)).alloc (.cells #[.int .i64 1, .int .i64 0, .int .i64 0, .int .i64 1] 51)).cell? ⟨w1.heap.size + 1, j, none⟩ = #[Value.int .i64 1, .int .i64 0, .int .i64 0, .int .i64 1][j]? := fun j => by
      have := new_cell (w1.alloc (.cells #[.int .i64 2, sl gb 4 4] 59)) #[Value.int .i64 1, .int .i64 0, .int .i64 0, .int .i64 1] 51 j
      rw [new_size] at this
      exact this
    refine ⟨fun i d hi => ?_, fun d hd => ?_, by decide⟩
    · match i, hi with
      | 0, hi =>
        obtain rfl : (1, 0) = d := by simpa [es14] using hi
        exact ⟨_, 0, rfl, by simp, e 0, e 1⟩
      | 1, hi =>
        obtain rfl : (0, 1) = d := by simpa [es14] using hi
        exact ⟨_, 0, rfl, by simp, e 2, e 3⟩
    · rcases List.mem_cons.1 hd with rfl | hd
      · unfold I64; decide
      · obtain rfl : d = (0, 1) := by simpa using hd
        unfold I64; decide)
  clear hg hb1 f7 f3 f5 f2
  go_wp2_with fail
  refine (HL.out _ _ HD.out).mono ?_; rintro e w2 ⟨rfl, hb2⟩
  have hbb : Below w1.heap.size w1 w2 := (((Below.refl _ _).alloc (Nat.le_refl _) _).alloc (by simp) _).trans (hb2.mono (by simp <;> omega))
  have x1 := (hbb.cell (block_lt_of_cell g1)).trans g1
  have x2 := (hbb.cell (block_lt_of_cell g2)).trans g2
  have y0 := (hb2.cell (p := ⟨w1.heap.size, 0, none⟩) (by simp <;> omega)).trans ((((Below.refl _ _).alloc (Nat.le_refl _) _).cell (by simp)).trans (new_cell w1 _ _ 0))
  have y1 := (hb2.cell (p := ⟨w1.heap.size, 1, none⟩) (by simp <;> omega)).trans ((((Below.refl _ _).alloc (Nat.le_refl _) _).cell (by simp)).trans (new_cell w1 _ _ 1))
  simp only [List.getElem?_toArray, List.getElem?_cons_zero, List.getElem?_cons_succ] at y0 y1
  have HB2 := Lib.hid (HB1.out.trans (hbb.mono HB1.out.size))
  clear hb2 hbb g1 g2
  go_wp2
  go_ret
  exact ⟨rfl, HB2.out⟩
end Go.Proofs.Ytoeeceemoggffaa
