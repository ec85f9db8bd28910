/- small whole numbers out of bytes, by their contract. -/
import Derived.Test.YtoeeceemoggffaaWh
namespace Go.Proofs.Ytoeeceemoggffaa
open Go.RowKit
set_option maxHeartbeats 1600000
set_option maxRecDepth 100000

/-- a byte read as a number with a sign -/
def s8 (z : Int) : Int := if z < 128 then z else z - 256
theorem s8_rng {z : Int} (h : 0 ≤ z ∧ z ≤ 255) : -128 ≤ s8 z ∧ s8 z ≤ 128 := by unfold s8; split <;> omega
theorem wrap8 {z : Int} (h : 0 ≤ z ∧ z ≤ 255) : IntKind.i8.wrap z = s8 z := by
  have : ∀ k : Nat, k < 256 → IntKind.i8.wrap (k : Int) = s8 (k : Int) := by decide +kernel
  have h2 := this z.toNat (by omega)
  rwa [show ((z.toNat : Nat) : Int) = z from by omega] at h2

def smallA (Z : Nat → Int) (len : Nat) (i : Nat) : Int := if 2 * i + 1 < len then s8 (Z (2 * i)) else 0
def smallB (Z : Nat → Int) (len : Nat) (i : Nat) : Int := if 2 * i + 1 < len then s8 (Z (2 * i + 1)) else 0
theorem smallA_rng {Z : Nat → Int} {len : Nat} (h : ∀ i, i < len → 0 ≤ Z i ∧ Z i ≤ 255) (i : Nat) : -128 ≤ smallA Z len i ∧ smallA Z len i ≤ 128 := by
  unfold smallA
  split
  · exact s8_rng (h _ (by omega))
  · decide
theorem smallB_rng {Z : Nat → Int} {len : Nat} (h : ∀ i, i < len → 0 ≤ Z i ∧ Z i ≤ 255) (i : Nat) : -128 ≤ smallB Z len i ∧ smallB Z len i ≤ 128 := by
  unfold smallB
  split
  · exact s8_rng (h _ (by omega))
  · decide

/-- bytes lie at A -/
structure Bytes (w : World) (A : Option Addr) (len : Nat) (Z : Nat → Int) : Prop where
  at_ : ∀ i, i < len → ∃ b off, A = some ⟨b, off, none⟩ ∧ b < w.heap.size ∧ w.cell? ⟨b, off + i, none⟩ = some (.int .u8 (Z i))
  rng : ∀ i, i < len → 0 ≤ Z i ∧ Z i ≤ 255
  len : len ≤ 140737488355328
theorem Bytes.later {w w' : World} {A : Option Addr} {len : Nat} {Z : Nat → Int} (h : Bytes w A len Z) (hb : Below w.heap.size w w') : Bytes w' A len Z := by
  refine ⟨fun i hi => ?_, h.rng, h.len⟩
  obtain ⟨b, off, e, hlt, c⟩ := h.at_ i hi
  exact ⟨b, off, e, Nat.lt_of_lt_of_le hlt hb.size, (hb.cell (p := ⟨b, _, none⟩) hlt).trans c⟩

/-- a row of small numbers in new memory -/
def smallL (Z : Nat → Int) (len N : Nat) : List (Nat × Nat) := (List.range N).map fun i => (fint (smallA Z len i), fint (smallB Z len i))
def GivesSmall (Z : Nat → Int) (len N : Nat) (w : World) (e : Ending) (w' : World) : Prop :=
  ∃ g, e = .returned (.slice (some ⟨g, 0, none⟩) N N) ∧ Own w.heap.size 23 w w' (.slice (some ⟨g, 0, none⟩) N N) ((smallL Z len N).map cv)

theorem conv8 (z : Int) (h : 0 ≤ z ∧ z ≤ 255) (W : World) : (convert 5 100 (.int .u8 z)).run Try.prog W = .ok (.int .i8 (s8 z)) W := by
  have hw := wrap8 h
  simp [go_sem, hw]
theorem convf (z : Int) (h : 0 ≤ z ∧ z ≤ 255) (W : World) : (convert 100 32 (.int .i8 (s8 z))).run Try.prog W = .ok (.float .f64 (fint (s8 z))) W := by
  have : ∀ k : Nat, k < 256 → floatOfInt .f64 (s8 (k : Int)) = fint (s8 (k : Int)) := by decide +kernel
  have h2 := this z.toNat (by omega)
  rw [show ((z.toNat : Nat) : Int) = z from by omega] at h2
  rw [run_convert_int_float W 100 32 .i8 .f64 (s8 z) (by kernel_rfl) undFl, h2]

theorem small_walk (A : Option Addr) (len cap N : Nat) (Z : Nat → Int) (w : World) (hN : N ≤ 4096) (hb : Bytes w A len Z) :
    Calls Try.prog 38 #[.slice A len cap, .int .i64 N] w fun e w' => GivesSmall Z len N w e w' := by
  have HB := Lib.hid hb
  have hlen := hb.len
  have hmk := fun W => run_make_row' (P := Try.prog) 37 23 (.complex .f64 0 0) 16 Try.underlying37 infoC rfl .i64 .i64 N (by omega) (by omega) W
  have ho0 := Lib.hid (Own.zeros w 23 (.complex .f64 0 0) N (by unfold maxLen; omega))
  clear hb
  go_enter Try.func38, Try.ntmps38
  go_wp2
  go_loopw [6] (fun s wr => ∃ k : Nat, k ≤ N ∧ s = .int .i64 k ∧ Own w.heap.size 23 w wr (.slice (some ⟨w.heap.size, 0, none⟩) N N) ((upTo (0, 0) (fun i => (fint (smallA Z len i), fint (smallB Z len i))) N k).map cv)) (fun s _ => N - (intOf s).toNat)
  case atStart =>
    refine ⟨0, Nat.zero_le _, rfl, ?_⟩
    rw [upTo_zero, List.map_replicate]
    exact ho0.out
  case round =>
    obtain ⟨k, hk, rfl, ho⟩ := hrel
    have HO := Lib.hid ho
    by_cases hlt : k < N ∧ 2 * k + 1 < len
    · obtain ⟨hl1, hl2⟩ := hlt
      have hl3 : 2 * (k : Int) + 1 < (len : Int) := by omega
      obtain ⟨b, off, rfl, hbl, c0⟩ := (HB.out.later ho.below).at_ (2 * k) (by omega)
      obtain ⟨b', off', e, _, c1⟩ := (HB.out.later ho.below).at_ (2 * k + 1) (by omega)
      simp only [Option.some.injEq, Addr.mk.injEq, and_true] at e
      obtain ⟨rfl, rfl⟩ := e
      have hr0 := HB.out.rng (2 * k) (by omega)
      have hr1 := HB.out.rng (2 * k + 1) (by omega)
      have v0 := conv8 _ hr0
      have v1 := conv8 _ hr1
      have f0 := convf _ hr0
      have f1 := convf _ hr1
      have hA : smallA Z len k = s8 (Z (2 * k)) := by unfold smallA; rw [if_pos hl2]
      have hBB : smallB Z len k = s8 (Z (2 * k + 1)) := by unfold smallB; rw [if_pos hl2]
      have HAa := Lib.hid hA
      have HBb := Lib.hid hBB
      have cc := ho.cell (j := k) (u := cv (if k < k then (fint (smallA Z len k), fint (smallB Z len k)) else (0, 0))) (by rw [List.getElem?_map, upTo_get _ _ hl1]; rfl)
      have fr := ho.free (by rw [List.length_map, upTo_length]) k
      rw [if_neg (Nat.lt_irrefl k)] at cc
      clear ho hA hBB hr0 hr1
      generalize Z (2 * k) = z0 at *
      generalize Z (2 * k + 1) = z1 at *
      go_wp2
      have w1 : IntKind.i64.wrap (2 * (k : Int)) = 2 * (k : Int) := IntWalk.i64_in _ (by omega)
      have w2 : IntKind.i64.wrap (2 * (k : Int) + 1) = 2 * (k : Int) + 1 := IntWalk.i64_in _ (by omega)
      have n0 : (0 : Int) ≤ 2 * (k : Int) := by omega
      have n1 : (0 : Int) ≤ 2 * (k : Int) + 1 := by omega
      have n2 : 2 * (k : Int) < (len : Int) := by omega
      have t1 : (2 * (k : Int)).toNat = 2 * k := by omega
      have t2 : (2 * (k : Int) + 1).toNat = 2 * k + 1 := by omega
      go_still_tail 19, (by kernel_rfl)
      change wpList _ _ _ _ _ wr.drew
      clear w1 w2 n0 n1 n2 t1 t2
      go_wp2
      go_roundw
      case rel =>
        refine ⟨k + 1, by omega, by go_num, ?_⟩
        have ho := ((HO.out.later ((Below.refl wr.heap.size wr).drew) (Nat.le_refl _)).stored (by rw [List.length_map, upTo_length]) k (cv (fint (s8 z0), fint (s8 z1))))
        rw [← List.map_set] at ho
        rw [← upTo_set]
        simp only [HAa.out, HBb.out]
        exact ho
      case measure => simp [intOf]; omega
    · have hfin : upTo (0, 0) (fun i => (fint (smallA Z len i), fint (smallB Z len i))) N k = smallL Z len N := by
        apply List.ext_getElem
        · simp [upTo, smallL]
        · intro i h1 h2
          simp only [upTo, smallL, List.getElem_map, List.getElem_range]
          have hi : i < N := by simpa [upTo] using h1
          by_cases hik : i < k
          · rw [if_pos hik]
          · rw [if_neg hik]
            have : ¬ 2 * i + 1 < len := by omega
            unfold smallA smallB
            rw [if_neg this, if_neg this]
            rfl
      have HF := Lib.hid hfin
      clear ho hfin
      have fin : ∀ w', (Own w.heap.size 23 w w' (.slice (some ⟨w.heap.size, 0, none⟩) N N) ((upTo (0, 0) (fun i => (fint (smallA Z len i), fint (smallB Z len i))) N k).map cv)) → GivesSmall Z len N w (.returned (.slice (some ⟨w.heap.size, 0, none⟩) N N)) w' := by
        intro w' h
        rw [HF.out] at h
        exact ⟨_, rfl, h⟩
      have HFin := Lib.hid fin
      clear fin
      by_cases h1 : k < N
      · have h2 : ¬ 2 * (k : Int) + 1 < (len : Int) := by omega
        clear hlt
        go_wp2
        go_ret
        exact HFin.out _ HO.out
      · clear hlt
        go_wp2
        go_ret
        exact HFin.out _ HO.out
end Go.Proofs.Ytoeeceemoggffaa
