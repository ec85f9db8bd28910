/- strconv.ParseUint at sixteen digits of base 16, by its contract (the door seat). -/
import Derived.Test.YtoeeceemoggffaaDoorDs
import Derived.Lib.Strings
import Derived.Lib.Walk
import Derived.Lib.ConvBytes
import Derived.Lib.AtoiAllMem
import Derived.Lib.AtoiErrMem
import Derived.Laws.Strings3
import Derived.BigCall
import Derived.BigGuard
namespace Go.Proofs.YtoeeceemoggffaaDoor
open Go.RowKit
set_option maxHeartbeats 3200000
set_option maxRecDepth 100000

/-- the k-th letter -/
def chr (s : ByteArray) (k : Nat) : Nat := (s.data.toList.getD k 0).toNat
/-- a digit of base 16, small letters -/
def okHex (c : Nat) : Prop := (48 ≤ c ∧ c ≤ 57) ∨ (97 ≤ c ∧ c ≤ 102)
def hexD (c : Nat) : Nat := if c ≤ 57 then c - 48 else c - 87
/-- the number that the first k letters tell -/
def hexV (s : ByteArray) : Nat → Nat
  | 0 => 0
  | k + 1 => hexV s k * 16 + hexD (chr s k)
theorem hexD_lt {c : Nat} (h : okHex c) : hexD c < 16 := by
  unfold okHex at h; unfold hexD; split <;> omega
theorem hexV_lt {s : ByteArray} (h : ∀ k, k < 16 → okHex (chr s k)) : ∀ k, k ≤ 16 → hexV s k < 16 ^ k
  | 0, _ => by show 0 < 1; decide
  | k + 1, hk => by
    have ih := hexV_lt h k (by omega)
    have := hexD_lt (h k (by omega))
    unfold hexV
    rw [Nat.pow_succ]
    omega

theorem lower_walk (c : Nat) (w : World) (hc : 97 ≤ c ∧ c ≤ 102) :
    Calls Tryd.prog 42 #[.int .u8 c] w fun e w' => e = .returned (.int .u8 c) ∧ w = w' := by
  have : ∀ k : Nat, k < 103 → 97 ≤ k → bits .or .u8 (k : Int) 32 = (k : Int) := by decide +kernel
  have hb := this c (by omega) hc.1
  clear this
  go_enter Tryd.func42, Tryd.ntmps42
  go_wp2
  go_ret
  exact ⟨rfl, rfl⟩

theorem bytesW_below (w : World) (e : TypeId) (s : ByteArray) : Below w.heap.size w (Lib.bytesWorld w e s) :=
  Lib.bytesWorld_below w e s

theorem iParseUint_walk (s : ByteArray) (w : World) (hs : s.size = 16) (h : ∀ k, k < 16 → okHex (chr s k)) :
    Calls Tryd.prog 33 #[.string s, .int .i64 16, .int .i64 64] w fun e w' => e = .returned (.tuple #[.int .u64 (hexV s 16), .nilIface]) ∧ w' = Lib.bytesWorld w 5 s := by
  have hemp : s.toList.isEmpty = false := by
    rw [← decide_eq_emptyBytes]
    exact decide_eq_false (fun h => by rw [h] at hs; cases hs)
  have hcv := Lib.run_convert_string_bytes (P := Tryd.prog) w 9 66 5 s (u := .string) Tryd.underlying9 Tryd.underlying66 Tryd.underlying5
  have hB : ∀ j, j < s.size → (Lib.bytesWorld w 5 s).cell? ⟨w.heap.size, j, none⟩ = some (.int .u8 (s.data.toList.getD j 0).toNat) := fun j hj => Lib.bytesWorld_cell w 5 s j hj
  obtain ⟨W1, hW1⟩ : ∃ W1, W1 = Lib.bytesWorld w 5 s := ⟨_, rfl⟩
  rw [← hW1] at hcv hB ⊢
  clear hW1
  have hB' : ∀ j, j < 16 → W1.cell? ⟨w.heap.size, j, none⟩ = some (.int .u8 (chr s j)) := fun j hj => hB j (by omega)
  have HB := Lib.hid hB'
  have HH := Lib.hid h
  have hmv : IntKind.u64.wrap (IntKind.u64.wrap 18446744073709551616 - 1) = 18446744073709551615 := by
    rw [IntKind.wrap_u64, IntKind.wrap_u64]
    decide
  clear hB hB' h
  go_enter Tryd.func33, Tryd.ntmps33
  go_wp2
  go_loop [12, 13, 101] (fun vu vn vi => ∃ (k : Nat) (a : Int), vu = .bool false ∧ vn = .int .u64 a ∧ vi = .int .i64 k ∧ k ≤ 16 ∧ Hid (a = (hexV s k : Int)))
    (fun _ _ vi => 16 - (intOf vi).toNat)
  case atStart => exact ⟨0, 0, rfl, rfl, rfl, by omega, rfl⟩
  case round =>
    obtain ⟨k, a, rfl, rfl, rfl, hk, hh⟩ := hrel
    by_cases hkn : k < 16
    · have hc := HB.out k hkn
      have hok := HH.out k hkn
      have hb1 : hexV s k < 16 ^ 15 := Nat.lt_of_lt_of_le (hexV_lt HH.out k hk) (Nat.pow_le_pow_right (by decide) (by omega))
      have hb2 : (16 : Nat) ^ 15 = 1152921504606846976 := by decide
      have ha0 := hh.out
      have icut : a < 1152921504606846976 := by omega
      have i0 : 0 ≤ a := by omega
      have HN : Hid (a * 16 + (hexD (chr s k) : Int) = (hexV s (k + 1) : Int)) := Lib.hid (by
        show _ = ((hexV s k * 16 + hexD (chr s k) : Nat) : Int)
        omega)
      clear hb1 hb2 ha0 hh
      generalize chr s k = c at *
      unfold okHex at hok
      unfold hexD at HN
      rcases hok with ⟨o1, o2⟩ | ⟨o1, o2⟩
      · rw [if_pos o2] at HN
        have iov : a * 16 + ((c : Int) - 48) < 18446744073709551616 := by omega
        go_wp2
        refine ⟨⟨k + 1, a * 16 + ((c : Int) - 48), rfl, (by first | rfl | (congr 1; omega)), (by first | rfl | (congr 1; omega)), by omega, Lib.hid (by have := HN.out; omega)⟩, by simp [intOf]; omega⟩
      · rw [if_neg (by omega)] at HN
        have iov : a * 16 + ((c : Int) - 87) < 18446744073709551616 := by omega
        have hL := fun w => lower_walk c w ⟨o1, o2⟩
        go_wp2_with (go_at_call 42; refine (hL _).mono ?_; rintro e w' ⟨rfl, rfl⟩)
        refine ⟨⟨k + 1, a * 16 + ((c : Int) - 87), rfl, (by first | rfl | (congr 1; omega)), (by first | rfl | (congr 1; omega)), by omega, Lib.hid (by have := HN.out; omega)⟩, by simp [intOf]; omega⟩
    · have hkk : k = 16 := by omega
      subst hkk
      have HA : Hid (a = (hexV s 16 : Int)) := hh
      clear hh hk hkn
      have ha := HA.out
      subst ha
      go_wp2
      go_ret2
      exact ⟨rfl, rfl⟩
end Go.Proofs.YtoeeceemoggffaaDoor
