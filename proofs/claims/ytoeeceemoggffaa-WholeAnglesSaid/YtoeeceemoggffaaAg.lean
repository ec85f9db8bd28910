/- The fixed fact of the theorems through layer 14. -/
import Derived.Test.YtoeeceemoggffaaAf
namespace Go.Proofs.Ytoeeceemoggffaa
open Go.RowKit Go.Lib
set_option maxHeartbeats 3200000
set_option maxRecDepth 100000

def gr1 (c : Nat) : Int := if c = 0 then 7 else 0
theorem gr1_small (c : Nat) : -8 ≤ gr1 c ∧ gr1 c ≤ 8 := by unfold gr1; split <;> omega
def ds1 : List (Int × Int) := [(1, 0)]
theorem core1 (S : Nat → Bool) (h : Core 1 ds1 S) : ∀ c, c < 1 * 1 → S c = false := by
  intro c hc
  cases hS : S c with
  | false => rfl
  | true =>
    obtain ⟨c', h1, h2, _⟩ := h.stuck (1, 0) (by decide) c hc hS
    omega
theorem sn1 (w : World) (hs : Nat) (c0 : ∀ j, w.cell? ⟨hs, j, none⟩ = #[Value.complex .f64 4619567317775286272 0][j]?) (c2 : ∀ j, w.cell? ⟨hs + 1, j, none⟩ = #[Value.int .i64 1, .int .i64 0, sl hs 1 1][j]?) : Sn w (hs + 1) 1 ds1 (fun k => hs + k) (VS 1 1 ds1 gr1 allC) := by
  have b0 : bnD 1 ds1 0 = 1 := by decide
  have v0 : VS 1 1 ds1 gr1 allC 0 0 = 7 := by decide
  refine ⟨fun k hk => ?_, fun k hk => ?_, fun k hk => ?_, fun k i hk hi => ?_, fun k i => ?_⟩
  · match k, hk with
    | 0, _ => exact c2 0
  · match k, hk with
    | 0, _ => exact c2 1
  · match k, hk with
    | 0, _ => rw [b0]; exact c2 2
  · match k, hk with
    | 0, _ =>
      rw [b0] at hi
      match i, hi with
      | 0, _ => rw [v0, words14.1]; exact c0 0
  · have := gsm_bound (ln := lnD 1 ds1 k) (S := allC) gr1_small 1 i
    show -128 ≤ gsm _ _ _ _ _ ∧ gsm _ _ _ _ _ ≤ 128
    omega

theorem aliveTop_walk (w : World) : Calls Try.prog 48 #[] w fun e w' => e = .returned (.bool true) ∧ Below w.heap.size w w' := by
  have HC : Hid (∀ (pb : Nat) (Bk : Nat → Nat) (w : World), Sn w pb 1 ds1 Bk (VS 1 1 ds1 gr1 allC) → Calls Try.prog 77 #[.agg #[.int .i64 1, .slice (some ⟨pb, 0, none⟩) 1 1]] w fun e w' => ∃ gb, e = .returned (.tuple #[.agg #[.int .i64 1, sl gb 1 1], .int .i64 0]) ∧ (∀ c, c < 1 → w'.cell? ⟨gb, c, none⟩ = some (.complex .f64 (fint (gr1 c)) 0)) ∧ Below w.heap.size w w') :=
    Lib.hid (fun pb Bk w hS => Solve_at (n := 1) rfl rfl rfl hS (by decide) (by decide) (by decide) (by decide) gr1_small core1)
  obtain ⟨W, hW⟩ : ∃ W, W = ((w.alloc (.cells #[.complex .f64 4619567317775286272 0] 23)).alloc (.cells #[.int .i64 1, .int .i64 0, sl w.heap.size 1 1] 61)).alloc (.cells #[.int .i64 1, .slice (some ⟨w.heap.size + 1, 0, none⟩) 1 1] 108) := ⟨_, rfl⟩
  have hbW : Below w.heap.size w W := by rw [hW]; exact (((Below.refl _ _).alloc (Nat.le_refl _) _).alloc (by simp <;> omega) _).alloc (by simp <;> omega) _
  have hsn : Sn W (w.heap.size + 1) 1 ds1 (fun k => w.heap.size + k) (VS 1 1 ds1 gr1 allC) := by
    refine sn1 W w.heap.size (fun j => ?_) (fun j => ?_)
    · rw [hW]
      exact ((((Below.refl _ _).alloc (Nat.le_refl _) _).alloc (by simp) _).cell (by simp)).trans (new_cell w _ _ j)
    · rw [hW]
      have e := new_cell (w.alloc (.cells #[.complex .f64 4619567317775286272 0] 23)) #[Value.int .i64 1, .int .i64 0, sl w.heap.size 1 1] 61 j
      rw [new_size] at e
      exact (((Below.refl _ _).alloc (Nat.le_refl _) _).cell (by simp)).trans e
  have HSn := Lib.hid hsn
  have HBW := Lib.hid hbW
  have HW := Lib.hid hW
  have q1 : (FloatKind.f64.format.order 4619567317775286272 4619567317775286272 == some Ordering.eq) = true := by decide +kernel
  have q3 : (FloatKind.f64.format.order 0 0 == some Ordering.eq) = true := by decide +kernel
  clear hsn hbW hW
  go_enter Try.func48, Try.ntmps48
  go_wp2_with fail
  rw [← HW.out]
  refine (HC.out _ _ _ HSn.out).mono ?_; rintro e w1 ⟨gb, rfl, hg, hb1⟩
  have g0 : w1.cell? ⟨gb, 0, none⟩ = some (.complex .f64 4619567317775286272 0) := by rw [hg 0 (by decide), ← words14.1]; rfl
  have HB1 := Lib.hid (HBW.out.trans (hb1.mono HBW.out.size))
  have x0 := ((Below.refl w1.heap.size w1).alloc (Nat.le_refl _) (.cells #[.int .i64 1, sl gb 1 1] 59)).cell (block_lt_of_cell g0) |>.trans g0
  clear hg hb1 g0
  go_wp2
  go_ret
  exact ⟨rfl, HB1.out.alloc HB1.out.size _⟩
end Go.Proofs.Ytoeeceemoggffaa
