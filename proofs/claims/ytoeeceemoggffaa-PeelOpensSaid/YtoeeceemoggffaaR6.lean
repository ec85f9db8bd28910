/- The reference of layer 6: size, divisor, Check, each by a contract of its own. -/
import Derived.Test.YtoeeceemoggffaaDc
namespace Go.Proofs.Ytoeeceemoggffaa
open Go.RowKit
set_option maxHeartbeats 400000

theorem rsize_walk (p : Int) (w : World) (h : I64 p) :
    Calls Try.prog 120 #[.int .i64 p] w fun e w' => e = .returned (.int .u64 (p.natAbs : Int)) ∧ w = w' := by
  obtain ⟨h1, h2⟩ := h
  by_cases hn : p < 0
  · have e1 : IntKind.u64.wrap (-IntKind.u64.wrap p) = (p.natAbs : Int) := by rw [wrapU, wrapU]; omega
    go_enter Try.func120, Try.ntmps120
    go_wp2
    go_ret
    exact ⟨rfl, rfl⟩
  · have e1 : IntKind.u64.wrap p = (p.natAbs : Int) := by rw [wrapU]; omega
    go_enter Try.func120, Try.ntmps120
    go_wp2
    go_ret
    exact ⟨rfl, rfl⟩

theorem rdivisor_walk (a b : Nat) (w : World) (_ha : a < 18446744073709551616) (hb : b < 18446744073709551616) :
    Calls Try.prog 121 #[.int .u64 (a : Int), .int .u64 (b : Int)] w fun e w' => e = .returned (.int .u64 (Nat.gcd a b : Int)) ∧ Drawn w w' := by
  go_enter Try.func121, Try.ntmps121
  go_wp2
  go_loopw [0, 1] (fun x y wr => ∃ u v : Nat, x = .int .u64 u ∧ y = .int .u64 v ∧ Nat.gcd u v = Nat.gcd a b ∧ v < 18446744073709551616 ∧ Drawn w wr) (fun _ y _ => (intOf y).toNat)
  case atStart => exact ⟨a, b, rfl, rfl, rfl, hb, Drawn.refl _⟩
  case round =>
    obtain ⟨u, v, rfl, rfl, hg, hv, hq⟩ := hrel
    have HG := Lib.hid hg
    have HQ := Lib.hid hq
    clear hg hq
    by_cases h0 : (v : Int) = 0
    · obtain rfl : v = 0 := by omega
      clear h0
      go_wp2
      go_ret
      have hg := HG.out
      rw [Nat.gcd_zero_right] at hg
      exact ⟨by rw [← hg]; rfl, HQ.out⟩
    · have hne : ((v : Int) != 0) = true := by simpa using h0
      have hr : (u : Int) % (v : Int) = ((u % v : Nat) : Int) := by simp
      have hlt : u % v < v := Nat.mod_lt _ (by omega)
      have hpos : (0 : Int) < (v : Int) := by omega
      have hw : IntKind.u64.wrap ((u : Int).tmod (v : Int)) = ((u % v : Nat) : Int) := by
        rw [Int.tmod_eq_emod_of_nonneg (by omega), hr]; exact wrapU_nat (by omega)
      go_wp2
      go_quiet (fail)
      go_wp2
      go_roundw
      case rel => exact ⟨v, u % v, rfl, by first | rfl | (rw [hr]), by rw [← HG.out, Nat.gcd_comm v, ← Nat.gcd_rec, Nat.gcd_comm], by omega, HQ.out.more _⟩
      case measure => simp [intOf]; omega

theorem rCheck_walk (p q : Int) (w : World) (hp : I64 p) (hq : I64 q) :
    Calls Try.prog 97 #[dirV (p, q)] w fun e w' => GivesInt (errD (p, q)) w e w' := by
  have c1 := fun w => rsize_walk p w hp
  have c2 := fun w => rsize_walk q w hq
  have la : p.natAbs < 18446744073709551616 := by obtain ⟨h1, h2⟩ := hp; omega
  have lb : q.natAbs < 18446744073709551616 := by obtain ⟨h1, h2⟩ := hq; omega
  have c3 := fun w => rdivisor_walk p.natAbs q.natAbs w la lb
  have hok := okD_iff p q
  unfold errD
  generalize okD (p, q) = ok at *
  generalize hA : p.natAbs = A at *
  generalize q.natAbs = B at *
  generalize Nat.gcd A B = g at *
  have C1 := Lib.hid c1
  have C2 := Lib.hid c2
  have C3 := Lib.hid c3
  clear c1 c2 c3
  have hbel : Below w.heap.size w (w.alloc (Obj.cells #[Value.int IntKind.i64 p, Value.int IntKind.i64 q] 51)) := (Below.refl _ _).alloc (Nat.le_refl _) _
  have HB := Lib.hid hbel
  clear hbel
  by_cases k1 : q < 0
  · have hk : ok = false := by rw [Bool.eq_false_iff]; intro h; have := hok.1 h; omega
    subst hk
    clear hok hA
    go_enter Try.func97, Try.ntmps97
    go_wp2
    go_quiet ((first | (go_at_call_of 120 (Value.int IntKind.i64 p); exact quiet_same (C1.out _)) | (go_at_call_of 120 (Value.int IntKind.i64 q); exact quiet_same (C2.out _)) | (go_at_call 121; exact quiet_drawn (C3.out _))))
    go_wp2
    go_ret
    exact ⟨rfl, below_drewN HB.out _⟩
  have k1' : decide (q < 0) = false := by simpa using k1
  by_cases k2 : (16 : Int) < q
  · have hk : ok = false := by rw [Bool.eq_false_iff]; intro h; have := hok.1 h; omega
    subst hk
    clear hok hA
    go_enter Try.func97, Try.ntmps97
    go_wp2
    go_quiet ((first | (go_at_call_of 120 (Value.int IntKind.i64 p); exact quiet_same (C1.out _)) | (go_at_call_of 120 (Value.int IntKind.i64 q); exact quiet_same (C2.out _)) | (go_at_call 121; exact quiet_drawn (C3.out _))))
    go_wp2
    go_ret
    exact ⟨rfl, below_drewN HB.out _⟩
  have k2' : decide ((16 : Int) < q) = false := by simpa using k2
  by_cases k3 : (16 : Int) < (A : Int)
  · have hk : ok = false := by rw [Bool.eq_false_iff]; intro h; have := hok.1 h; omega
    subst hk
    clear hok hA
    go_enter Try.func97, Try.ntmps97
    go_wp2
    go_quiet ((first | (go_at_call_of 120 (Value.int IntKind.i64 p); exact quiet_same (C1.out _)) | (go_at_call_of 120 (Value.int IntKind.i64 q); exact quiet_same (C2.out _)) | (go_at_call 121; exact quiet_drawn (C3.out _))))
    go_wp2
    go_ret
    exact ⟨rfl, below_drewN HB.out _⟩
  have k3' : decide ((16 : Int) < (A : Int)) = false := by simpa using k3
  by_cases k4 : (g : Int) = 1
  · have k4' : ((g : Int) != 1) = false := by simpa using k4
    by_cases k5 : q = 0
    · by_cases k6 : p = 1
      · have k5' : (q == 0) = true := by simpa using k5
        have k6' : (p != 1) = false := by simpa using k6
        have hk : ok = true := by rw [hok]; exact ⟨by omega, by omega, by omega, by omega, by omega⟩
        subst hk
        clear hok hA k4 k5 k6
        go_enter Try.func97, Try.ntmps97
        go_wp2
        go_quiet ((first | (go_at_call_of 120 (Value.int IntKind.i64 p); exact quiet_same (C1.out _)) | (go_at_call_of 120 (Value.int IntKind.i64 q); exact quiet_same (C2.out _)) | (go_at_call 121; exact quiet_drawn (C3.out _))))
        go_wp2
        go_ret
        exact ⟨rfl, below_drewN HB.out _⟩
      · have k5' : (q == 0) = true := by simpa using k5
        have k6' : (p != 1) = true := by simpa using k6
        have hk : ok = false := by rw [Bool.eq_false_iff]; intro h; have := hok.1 h; omega
        subst hk
        clear hok hA k4 k5 k6
        go_enter Try.func97, Try.ntmps97
        go_wp2
        go_quiet ((first | (go_at_call_of 120 (Value.int IntKind.i64 p); exact quiet_same (C1.out _)) | (go_at_call_of 120 (Value.int IntKind.i64 q); exact quiet_same (C2.out _)) | (go_at_call 121; exact quiet_drawn (C3.out _))))
        go_wp2
        go_ret
        exact ⟨rfl, below_drewN HB.out _⟩
    · have k5' : (q == 0) = false := by simpa using k5
      have hk : ok = true := by rw [hok]; exact ⟨by omega, by omega, by omega, by omega, by omega⟩
      subst hk
      clear hok hA k4 k5
      go_enter Try.func97, Try.ntmps97
      go_wp2
      go_quiet ((first | (go_at_call_of 120 (Value.int IntKind.i64 p); exact quiet_same (C1.out _)) | (go_at_call_of 120 (Value.int IntKind.i64 q); exact quiet_same (C2.out _)) | (go_at_call 121; exact quiet_drawn (C3.out _))))
      go_wp2
      go_ret
      exact ⟨rfl, below_drewN HB.out _⟩
  · have k4' : ((g : Int) != 1) = true := by simpa using k4
    have hk : ok = false := by rw [Bool.eq_false_iff]; intro h; have := hok.1 h; omega
    subst hk
    clear hok hA k4
    go_enter Try.func97, Try.ntmps97
    go_wp2
    go_quiet ((first | (go_at_call_of 120 (Value.int IntKind.i64 p); exact quiet_same (C1.out _)) | (go_at_call_of 120 (Value.int IntKind.i64 q); exact quiet_same (C2.out _)) | (go_at_call 121; exact quiet_drawn (C3.out _))))
    go_wp2
    go_ret
    exact ⟨rfl, below_drewN HB.out _⟩
end Go.Proofs.Ytoeeceemoggffaa
