/- Directions: abs, divisor, Normal, Check of package dir, each by a contract of its own. -/
import Derived.Test.YtoeeceemoggffaaChecked
import Derived.Test.YtoeeceemoggffaaLw
import Derived.Test.YtoeeceemoggffaaFl
import Derived.Deep.RegionWith
import Derived.KernelRfl
namespace Go.Proofs.Ytoeeceemoggffaa
open Go.RowKit
set_option maxHeartbeats 400000

/-- an int of 64 bits -/
def I64 (p : Int) : Prop := -9223372036854775808 ≤ p ∧ p ≤ 9223372036854775807

theorem wf_I64 {p : Int} (h : (Lit.int .i64 p).wf = true) : I64 p := by
  simp only [Lit.wf, Bool.and_eq_true, decide_eq_true_eq] at h
  exact h

theorem wrapU (n : Int) : IntKind.u64.wrap n = n % 18446744073709551616 := IntKind.wrap_u64 n

theorem abs_walk (p : Int) (w : World) (h : I64 p) :
    Calls Try.prog 69 #[.int .i64 p] w fun e w' => e = .returned (.int .u64 (p.natAbs : Int)) ∧ w = w' := by
  obtain ⟨h1, h2⟩ := h
  by_cases hn : p < 0
  · have e1 : IntKind.u64.wrap (-IntKind.u64.wrap p) = (p.natAbs : Int) := by rw [wrapU, wrapU]; omega
    go_enter Try.func69, Try.ntmps69
    go_wp2
    go_ret
    exact ⟨rfl, rfl⟩
  · have e1 : IntKind.u64.wrap p = (p.natAbs : Int) := by rw [wrapU]; omega
    go_enter Try.func69, Try.ntmps69
    go_wp2
    go_ret
    exact ⟨rfl, rfl⟩

theorem divisor_walk (a b : Nat) (w : World) (_ha : a < 18446744073709551616) (hb : b < 18446744073709551616) :
    Calls Try.prog 122 #[.int .u64 (a : Int), .int .u64 (b : Int)] w fun e w' => e = .returned (.int .u64 (Nat.gcd a b : Int)) ∧ Drawn w w' := by
  go_enter Try.func122, Try.ntmps122
  go_wp2
  go_loopw [0, 1] (fun x y wr => ∃ u v : Nat, x = .int .u64 u ∧ y = .int .u64 v ∧ Nat.gcd u v = Nat.gcd a b ∧ v < 18446744073709551616 ∧ Drawn w wr) (fun _ y _ => (intOf y).toNat)
  case atStart => exact ⟨a, b, rfl, rfl, rfl, hb, Drawn.refl _⟩
  case round =>
    obtain ⟨u, v, rfl, rfl, hg, hv, hq⟩ := hrel
    have HG := Lib.hid hg
    have HQ := Lib.hid hq
    clear hg hq
    by_cases h0 : (0 : Int) < (v : Int)
    · have hne : ¬ (v : Int) = 0 := by omega
      have hr : (u : Int) % (v : Int) = ((u % v : Nat) : Int) := by simp
      have hlt : u % v < v := Nat.mod_lt _ (by omega)
      have hw : IntKind.u64.wrap ((u : Int).tmod (v : Int)) = ((u % v : Nat) : Int) := by
        rw [wrapU, Int.tmod_eq_emod_of_nonneg (by omega), hr]; omega
      go_wp2
      go_quiet (fail)
      go_wp2
      go_roundw
      case rel => exact ⟨v, u % v, rfl, by first | rfl | (rw [hr]), by rw [← HG.out, Nat.gcd_comm v, ← Nat.gcd_rec, Nat.gcd_comm], by omega, HQ.out.more _⟩
      case measure => simp [intOf]; omega
    · obtain rfl : v = 0 := by omega
      go_wp2
      go_ret
      have hg := HG.out
      rw [Nat.gcd_zero_right] at hg
      exact ⟨by rw [← hg]; rfl, HQ.out⟩

def nrmG (p q : Int) (A B g : Nat) : (Int × Int) × Int :=
  if g = 0 then ((0, 0), 1)
  else if 16 < A / g ∨ 16 < B / g then ((0, 0), 60)
  else if (p < 0 ∧ 0 < q) ∨ (0 < p ∧ q < 0) then ((-((A / g : Nat) : Int), ((B / g : Nat) : Int)), 0)
  else ((((A / g : Nat) : Int), ((B / g : Nat) : Int)), 0)
/-- the direction of a line through the origin, and an error's number -/
def nrm (p q : Int) : (Int × Int) × Int := nrmG p q p.natAbs q.natAbs (Nat.gcd p.natAbs q.natAbs)

abbrev dirV (d : Int × Int) : Value := .agg #[.int .i64 d.1, .int .i64 d.2]
def GivesDir (r : (Int × Int) × Int) (w : World) (e : Ending) (w' : World) : Prop := e = .returned (.tuple #[dirV r.1, .int .i64 r.2]) ∧ Below w.heap.size w w'

theorem Normal_walk (p q : Int) (w : World) (hp : I64 p) (hq : I64 q) :
    Calls Try.prog 98 #[.int .i64 p, .int .i64 q] w fun e w' => GivesDir (nrm p q) w e w' := by
  have c1 := fun w => abs_walk p w hp
  have c2 := fun w => abs_walk q w hq
  have la : p.natAbs < 18446744073709551616 := by obtain ⟨h1, h2⟩ := hp; omega
  have lb : q.natAbs < 18446744073709551616 := by obtain ⟨h1, h2⟩ := hq; omega
  have c3 := fun w => divisor_walk p.natAbs q.natAbs w la lb
  unfold nrm
  generalize p.natAbs = A at *
  generalize q.natAbs = B at *
  have hg1 : Nat.gcd A B ≤ A + B := by
    by_cases h : A = 0
    · subst h; rw [Nat.gcd_zero_left]; omega
    · have := Nat.gcd_le_left B (Nat.pos_of_ne_zero h); omega
  generalize hg : Nat.gcd A B = g at *
  have C1 := Lib.hid c1
  have C2 := Lib.hid c2
  have C3 := Lib.hid c3
  clear c1 c2 c3 hg
  have hbel : ∀ w1, Drawn (w.alloc (Obj.cells #[Value.int IntKind.i64 0, Value.int IntKind.i64 0] 51)) w1 → Below w.heap.size w w1 := fun w1 h => ((Below.refl _ _).alloc (Nat.le_refl _) _).trans (h.below _)
  by_cases h0 : g = 0
  · subst h0
    have hn : nrmG p q A B 0 = ((0, 0), 1) := by unfold nrmG; rw [if_pos rfl]
    rw [hn]
    clear hn
    go_enter Try.func98, Try.ntmps98
    go_wp2_with fail
    refine (C1.out _).mono ?_; rintro e w' ⟨rfl, rfl⟩
    go_wp2_with fail
    refine (C2.out _).mono ?_; rintro e w' ⟨rfl, rfl⟩
    go_wp2_with fail
    refine (C3.out _).mono ?_; rintro e w1 ⟨rfl, hd⟩
    have f0 := (hd.cell ⟨w.heap.size, 0, none⟩).trans (new_cell _ _ _ 0)
    have f1 := (hd.cell ⟨w.heap.size, 1, none⟩).trans (new_cell _ _ _ 1)
    have z0 := (hd.frozen ⟨w.heap.size, 0, none⟩).trans (new_free _ _ _ 0)
    have z1 := (hd.frozen ⟨w.heap.size, 1, none⟩).trans (new_free _ _ _ 1)
    have HB := Lib.hid (hbel w1 hd)
    clear hd hbel
    go_wp2
    exact bodyPost_ret (v := .tuple #[dirV (0, 0), .int .i64 1]) (by simp [results, Try.results98, go_sem, f0, f1, dirV]) rfl ⟨rfl, (HB.out.setCell (Nat.le_refl _) _).setCell (Nat.le_refl _) _⟩
  · have hg0 : 0 < g := by omega
    have d1 : (A : Int) / (g : Int) = ((A / g : Nat) : Int) := by simp
    have d2 : (B : Int) / (g : Int) = ((B / g : Nat) : Int) := by simp
    have l1 : A / g ≤ A := Nat.div_le_self _ _
    have l2 : B / g ≤ B := Nat.div_le_self _ _
    have hn : nrmG p q A B g = if 16 < A / g ∨ 16 < B / g then ((0, 0), 60) else if (p < 0 ∧ 0 < q) ∨ (0 < p ∧ q < 0) then ((-((A / g : Nat) : Int), ((B / g : Nat) : Int)), 0) else ((((A / g : Nat) : Int), ((B / g : Nat) : Int)), 0) := by unfold nrmG; rw [if_neg h0]
    rw [hn]
    clear hn
    have hgi : ¬ (g : Int) = 0 := by omega
    have hgb : ((g : Int) == 0) = false := by simpa using hgi
    have hq1 : IntKind.u64.wrap ((A : Int) / (g : Int)) = ((A / g : Nat) : Int) := by rw [d1]; exact wrapU_nat (by omega)
    have hq2 : IntKind.u64.wrap ((B : Int) / (g : Int)) = ((B / g : Nat) : Int) := by rw [d2]; exact wrapU_nat (by omega)
    generalize A / g = a at *
    generalize B / g = b at *
    by_cases ha : 16 < a
    · rw [if_pos (.inl ha)]
      have ha' : (16 : Int) < (a : Int) := by omega
      go_enter Try.func98, Try.ntmps98
      go_wp2_with fail
      refine (C1.out _).mono ?_; rintro e w' ⟨rfl, rfl⟩
      go_wp2_with fail
      refine (C2.out _).mono ?_; rintro e w' ⟨rfl, rfl⟩
      go_wp2_with fail
      refine (C3.out _).mono ?_; rintro e w1 ⟨rfl, hd⟩
      have f0 := (hd.cell ⟨w.heap.size, 0, none⟩).trans (new_cell _ _ _ 0)
      have f1 := (hd.cell ⟨w.heap.size, 1, none⟩).trans (new_cell _ _ _ 1)
      have z0 := (hd.frozen ⟨w.heap.size, 0, none⟩).trans (new_free _ _ _ 0)
      have z1 := (hd.frozen ⟨w.heap.size, 1, none⟩).trans (new_free _ _ _ 1)
      have HB := Lib.hid (hbel w1 hd)
      clear hd hbel
      go_wp2
      go_quiet ((first | (go_at_call_of 69 (Value.int IntKind.i64 p); exact quiet_same (C1.out _)) | (go_at_call_of 69 (Value.int IntKind.i64 q); exact quiet_same (C2.out _))))
      go_wp2
      exact bodyPost_ret (v := .tuple #[dirV (0, 0), .int .i64 60]) (by simp [results, Try.results98, go_sem, f0, f1, dirV]) rfl ⟨rfl, ((below_drewN HB.out _).setCell (Nat.le_refl _) _).setCell (Nat.le_refl _) _⟩
    by_cases hb : 16 < b
    · rw [if_pos (.inr hb)]
      have ha' : decide ((16 : Int) < (a : Int)) = false := by simp; omega
      have hb' : (16 : Int) < (b : Int) := by omega
      go_enter Try.func98, Try.ntmps98
      go_wp2_with fail
      refine (C1.out _).mono ?_; rintro e w' ⟨rfl, rfl⟩
      go_wp2_with fail
      refine (C2.out _).mono ?_; rintro e w' ⟨rfl, rfl⟩
      go_wp2_with fail
      refine (C3.out _).mono ?_; rintro e w1 ⟨rfl, hd⟩
      have f0 := (hd.cell ⟨w.heap.size, 0, none⟩).trans (new_cell _ _ _ 0)
      have f1 := (hd.cell ⟨w.heap.size, 1, none⟩).trans (new_cell _ _ _ 1)
      have z0 := (hd.frozen ⟨w.heap.size, 0, none⟩).trans (new_free _ _ _ 0)
      have z1 := (hd.frozen ⟨w.heap.size, 1, none⟩).trans (new_free _ _ _ 1)
      have HB := Lib.hid (hbel w1 hd)
      clear hd hbel
      go_wp2
      go_quiet ((first | (go_at_call_of 69 (Value.int IntKind.i64 p); exact quiet_same (C1.out _)) | (go_at_call_of 69 (Value.int IntKind.i64 q); exact quiet_same (C2.out _))))
      go_wp2
      exact bodyPost_ret (v := .tuple #[dirV (0, 0), .int .i64 60]) (by simp [results, Try.results98, go_sem, f0, f1, dirV]) rfl ⟨rfl, ((below_drewN HB.out _).setCell (Nat.le_refl _) _).setCell (Nat.le_refl _) _⟩
    rw [if_neg (by omega)]
    have ha' : decide ((16 : Int) < (a : Int)) = false := by simp; omega
    have hb' : ¬ (16 : Int) < (b : Int) := by omega
    have la' : (a : Int) ≤ 16 := by omega
    have lb' : (b : Int) ≤ 16 := by omega
    by_cases s1 : p < 0 ∧ 0 < q
    · rw [if_pos (.inl s1)]
      obtain ⟨s1, s2⟩ := s1
      go_enter Try.func98, Try.ntmps98
      go_wp2_with fail
      refine (C1.out _).mono ?_; rintro e w' ⟨rfl, rfl⟩
      go_wp2_with fail
      refine (C2.out _).mono ?_; rintro e w' ⟨rfl, rfl⟩
      go_wp2_with fail
      refine (C3.out _).mono ?_; rintro e w1 ⟨rfl, hd⟩
      have f0 := (hd.cell ⟨w.heap.size, 0, none⟩).trans (new_cell _ _ _ 0)
      have f1 := (hd.cell ⟨w.heap.size, 1, none⟩).trans (new_cell _ _ _ 1)
      have z0 := (hd.frozen ⟨w.heap.size, 0, none⟩).trans (new_free _ _ _ 0)
      have z1 := (hd.frozen ⟨w.heap.size, 1, none⟩).trans (new_free _ _ _ 1)
      have HB := Lib.hid (hbel w1 hd)
      clear hd hbel
      go_wp2
      go_quiet ((first | (go_at_call_of 69 (Value.int IntKind.i64 p); exact quiet_same (C1.out _)) | (go_at_call_of 69 (Value.int IntKind.i64 q); exact quiet_same (C2.out _))))
      go_wp2
      exact bodyPost_ret (v := .tuple #[dirV (-(a : Int), (b : Int)), .int .i64 0]) (by simp [results, Try.results98, go_sem, f0, f1, dirV]) rfl ⟨rfl, ((below_drewN HB.out _).setCell (Nat.le_refl _) _).setCell (Nat.le_refl _) _⟩
    by_cases s2 : 0 < p ∧ q < 0
    · rw [if_pos (.inr s2)]
      obtain ⟨s2, s3⟩ := s2
      have s4 : decide (p < 0) = false := by simp; omega
      go_enter Try.func98, Try.ntmps98
      go_wp2_with fail
      refine (C1.out _).mono ?_; rintro e w' ⟨rfl, rfl⟩
      go_wp2_with fail
      refine (C2.out _).mono ?_; rintro e w' ⟨rfl, rfl⟩
      go_wp2_with fail
      refine (C3.out _).mono ?_; rintro e w1 ⟨rfl, hd⟩
      have f0 := (hd.cell ⟨w.heap.size, 0, none⟩).trans (new_cell _ _ _ 0)
      have f1 := (hd.cell ⟨w.heap.size, 1, none⟩).trans (new_cell _ _ _ 1)
      have z0 := (hd.frozen ⟨w.heap.size, 0, none⟩).trans (new_free _ _ _ 0)
      have z1 := (hd.frozen ⟨w.heap.size, 1, none⟩).trans (new_free _ _ _ 1)
      have HB := Lib.hid (hbel w1 hd)
      clear hd hbel
      go_wp2
      go_quiet ((first | (go_at_call_of 69 (Value.int IntKind.i64 p); exact quiet_same (C1.out _)) | (go_at_call_of 69 (Value.int IntKind.i64 q); exact quiet_same (C2.out _))))
      go_wp2
      exact bodyPost_ret (v := .tuple #[dirV (-(a : Int), (b : Int)), .int .i64 0]) (by simp [results, Try.results98, go_sem, f0, f1, dirV]) rfl ⟨rfl, ((below_drewN HB.out _).setCell (Nat.le_refl _) _).setCell (Nat.le_refl _) _⟩
    rw [if_neg (by omega)]
    by_cases s3 : p < 0
    · have s4 : decide (0 < q) = false := by simp; omega
      have s5 : decide (0 < p) = false := by simp; omega
      go_enter Try.func98, Try.ntmps98
      go_wp2_with fail
      refine (C1.out _).mono ?_; rintro e w' ⟨rfl, rfl⟩
      go_wp2_with fail
      refine (C2.out _).mono ?_; rintro e w' ⟨rfl, rfl⟩
      go_wp2_with fail
      refine (C3.out _).mono ?_; rintro e w1 ⟨rfl, hd⟩
      have f0 := (hd.cell ⟨w.heap.size, 0, none⟩).trans (new_cell _ _ _ 0)
      have f1 := (hd.cell ⟨w.heap.size, 1, none⟩).trans (new_cell _ _ _ 1)
      have z0 := (hd.frozen ⟨w.heap.size, 0, none⟩).trans (new_free _ _ _ 0)
      have z1 := (hd.frozen ⟨w.heap.size, 1, none⟩).trans (new_free _ _ _ 1)
      have HB := Lib.hid (hbel w1 hd)
      clear hd hbel
      go_wp2
      go_quiet ((first | (go_at_call_of 69 (Value.int IntKind.i64 p); exact quiet_same (C1.out _)) | (go_at_call_of 69 (Value.int IntKind.i64 q); exact quiet_same (C2.out _))))
      go_wp2
      exact bodyPost_ret (v := .tuple #[dirV ((a : Int), (b : Int)), .int .i64 0]) (by simp [results, Try.results98, go_sem, f0, f1, dirV]) rfl ⟨rfl, ((below_drewN HB.out _).setCell (Nat.le_refl _) _).setCell (Nat.le_refl _) _⟩
    · have s6 : decide (p < 0) = false := by simp; omega
      by_cases s4 : 0 < p
      · have s5 : decide (q < 0) = false := by simp; omega
        go_enter Try.func98, Try.ntmps98
        go_wp2_with fail
        refine (C1.out _).mono ?_; rintro e w' ⟨rfl, rfl⟩
        go_wp2_with fail
        refine (C2.out _).mono ?_; rintro e w' ⟨rfl, rfl⟩
        go_wp2_with fail
        refine (C3.out _).mono ?_; rintro e w1 ⟨rfl, hd⟩
        have f0 := (hd.cell ⟨w.heap.size, 0, none⟩).trans (new_cell _ _ _ 0)
        have f1 := (hd.cell ⟨w.heap.size, 1, none⟩).trans (new_cell _ _ _ 1)
        have z0 := (hd.frozen ⟨w.heap.size, 0, none⟩).trans (new_free _ _ _ 0)
        have z1 := (hd.frozen ⟨w.heap.size, 1, none⟩).trans (new_free _ _ _ 1)
        have HB := Lib.hid (hbel w1 hd)
        clear hd hbel
        go_wp2
        go_quiet ((first | (go_at_call_of 69 (Value.int IntKind.i64 p); exact quiet_same (C1.out _)) | (go_at_call_of 69 (Value.int IntKind.i64 q); exact quiet_same (C2.out _))))
        go_wp2
        exact bodyPost_ret (v := .tuple #[dirV ((a : Int), (b : Int)), .int .i64 0]) (by simp [results, Try.results98, go_sem, f0, f1, dirV]) rfl ⟨rfl, ((below_drewN HB.out _).setCell (Nat.le_refl _) _).setCell (Nat.le_refl _) _⟩
      · have s5 : decide (0 < p) = false := by simp; omega
        go_enter Try.func98, Try.ntmps98
        go_wp2_with fail
        refine (C1.out _).mono ?_; rintro e w' ⟨rfl, rfl⟩
        go_wp2_with fail
        refine (C2.out _).mono ?_; rintro e w' ⟨rfl, rfl⟩
        go_wp2_with fail
        refine (C3.out _).mono ?_; rintro e w1 ⟨rfl, hd⟩
        have f0 := (hd.cell ⟨w.heap.size, 0, none⟩).trans (new_cell _ _ _ 0)
        have f1 := (hd.cell ⟨w.heap.size, 1, none⟩).trans (new_cell _ _ _ 1)
        have z0 := (hd.frozen ⟨w.heap.size, 0, none⟩).trans (new_free _ _ _ 0)
        have z1 := (hd.frozen ⟨w.heap.size, 1, none⟩).trans (new_free _ _ _ 1)
        have HB := Lib.hid (hbel w1 hd)
        clear hd hbel
        go_wp2
        go_quiet ((first | (go_at_call_of 69 (Value.int IntKind.i64 p); exact quiet_same (C1.out _)) | (go_at_call_of 69 (Value.int IntKind.i64 q); exact quiet_same (C2.out _))))
        go_wp2
        exact bodyPost_ret (v := .tuple #[dirV ((a : Int), (b : Int)), .int .i64 0]) (by simp [results, Try.results98, go_sem, f0, f1, dirV]) rfl ⟨rfl, ((below_drewN HB.out _).setCell (Nat.le_refl _) _).setCell (Nat.le_refl _) _⟩
end Go.Proofs.Ytoeeceemoggffaa
