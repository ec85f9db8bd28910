/- cx.Read at a text, cx.Same at numbers: by contracts (the door seat). -/
import Derived.Test.YtoeeceemoggffaaDoorDp
namespace Go.Proofs.YtoeeceemoggffaaDoor
open Go.RowKit
set_option maxHeartbeats 3200000
set_option maxRecDepth 100000

theorem ParseUint_walk (s : ByteArray) (w : World) (hs : s.size = 16) (h : ∀ k, k < 16 → okHex (chr s k)) :
    Calls Tryd.prog 20 #[.string s, .int .i64 16, .int .i64 64] w fun e w' => e = .returned (.tuple #[.int .u64 (hexV s 16), .nilIface]) ∧ Below w.heap.size w w' := by
  have hC := fun w => iParseUint_walk s w hs h
  go_enter Tryd.func20, Tryd.ntmps20
  go_wp2_with (go_at_call 33; refine (hC _).mono ?_; rintro e w' ⟨rfl, rfl⟩)
  go_ret2
  exact ⟨rfl, bytesW_below _ _ _⟩

theorem Read_walk (s : ByteArray) (w : World) (hs : s.size = 32) (ht : (⟨(Lib.trimS s.data.toList [48, 49, 50, 51, 52, 53, 54, 55, 56, 57, 97, 98, 99, 100, 101, 102]).toArray⟩ : ByteArray) = ⟨#[]⟩)
    (h1 : ∀ k, k < 16 → okHex (chr (s.extract 0 16) k)) (h2 : ∀ k, k < 16 → okHex (chr (s.extract 16 32) k)) :
    Calls Tryd.prog 11 #[.string s] w fun e w' => e = .returned (.tuple #[.complex .f64 (hexV (s.extract 0 16) 16) (hexV (s.extract 16 32) 16), .int .i64 0]) ∧ Below w.heap.size w w' := by
  have s1 : (s.extract 0 16).size = 16 := by simp [ByteArray.size_extract, hs]
  have s2 : (s.extract 16 32).size = 16 := by simp [ByteArray.size_extract, hs]
  have HT := Lib.hid (fun w => Trim_at s ⟨#[48, 49, 50, 51, 52, 53, 54, 55, 56, 57, 97, 98, 99, 100, 101, 102]⟩ ⟨#[]⟩ w (by omega) (by decide) (by decide) ht)
  have H1 := Lib.hid (fun w => ParseUint_walk _ w s1 h1)
  have H2 := Lib.hid (fun w => ParseUint_walk _ w s2 h2)
  have F := f64from_run
  clear ht h1 h2 s1 s2
  go_enter Tryd.func11, Tryd.ntmps11
  go_wp2_with fail
  refine (HT.out _).mono ?_; rintro e w1 ⟨rfl, b1⟩
  go_wp2_with fail
  refine (H1.out _).mono ?_; rintro e w2 ⟨rfl, b2⟩
  go_wp2_with fail
  refine (H2.out _).mono ?_; rintro e w3 ⟨rfl, b3⟩
  go_wp2
  go_ret2
  exact ⟨rfl, (b1.trans (b2.mono b1.size)).trans (b3.mono (Nat.le_trans b1.size b2.size))⟩

theorem parts_walk (p q : Nat) (w : World) (hp : (FloatKind.f64.format.order p p != some Ordering.eq) = false) (hq : (FloatKind.f64.format.order q q != some Ordering.eq) = false) :
    Calls Tryd.prog 22 #[.complex .f64 p q] w fun e w' => e = .returned (.agg #[.int .u64 p, .int .u64 q]) ∧ Below w.heap.size w w' := by
  have r1 := f64bits_run
  go_enter Tryd.func22, Tryd.ntmps22
  go_wp2
  exact bodyPost_ret (v := .agg #[.int .u64 p, .int .u64 q]) (by simp [results, Tryd.results22, go_sem]) rfl ⟨rfl, ((Below.refl _ _).alloc (Nat.le_refl _) _).alloc (by simp) _⟩

theorem Same_walk (p q u v : Nat) (b : Bool) (w : World) (hp : (FloatKind.f64.format.order p p != some Ordering.eq) = false) (hq : (FloatKind.f64.format.order q q != some Ordering.eq) = false)
    (hu : (FloatKind.f64.format.order u u != some Ordering.eq) = false) (hv : (FloatKind.f64.format.order v v != some Ordering.eq) = false) (hb : ∀ w, (binOp .eql 46 (.agg #[.int .u64 p, .int .u64 q]) (.agg #[.int .u64 u, .int .u64 v])).run Tryd.prog w = .ok (.bool b) w) :
    Calls Tryd.prog 12 #[.complex .f64 p q, .complex .f64 u v] w fun e w' => e = .returned (.bool b) ∧ Below w.heap.size w w' := by
  have C1 := Lib.hid (fun w => parts_walk p q w hp hq)
  have C2 := Lib.hid (fun w => parts_walk u v w hu hv)
  clear hp hq hu hv
  go_enter Tryd.func12, Tryd.ntmps12
  go_wp2_with fail
  refine (C1.out _).mono ?_; rintro e w1 ⟨rfl, b1⟩
  go_wp2_with fail
  refine (C2.out _).mono ?_; rintro e w2 ⟨rfl, b2⟩
  go_wp2
  go_ret
  exact ⟨rfl, b1.trans (b2.mono b1.size)⟩

theorem same_yes (w : World) : (binOp .eql 46 (.agg #[.int .u64 4607182418800017408, .int .u64 0]) (.agg #[.int .u64 4607182418800017408, .int .u64 0])).run Tryd.prog w = .ok (.bool true) w := by kernel_rfl
theorem same_no (w : World) : (binOp .eql 46 (.agg #[.int .u64 4607182418800017408, .int .u64 0]) (.agg #[.int .u64 4611686018427387904, .int .u64 0])).run Tryd.prog w = .ok (.bool false) w := by kernel_rfl

theorem okHex_all {s : ByteArray} (h : ∀ k : _root_.Fin 16, okHex (chr s k)) : ∀ k, k < 16 → okHex (chr s k) := fun k hk => h ⟨k, hk⟩
instance (c : Nat) : Decidable (okHex c) := by unfold okHex; infer_instance

def one32 : ByteArray := ⟨#[51, 102, 102, 48, 48, 48, 48, 48, 48, 48, 48, 48, 48, 48, 48, 48, 48, 48, 48, 48, 48, 48, 48, 48, 48, 48, 48, 48, 48, 48, 48, 48]⟩
theorem Read_one (w : World) : Calls Tryd.prog 11 #[.string one32] w fun e w' => e = .returned (.tuple #[.complex .f64 4607182418800017408 0, .int .i64 0]) ∧ Below w.heap.size w w' := by
  have h := Read_walk one32 w (by decide) (by decide +kernel) (okHex_all (by decide +kernel)) (okHex_all (by decide +kernel))
  have e1 : hexV (one32.extract 0 16) 16 = 4607182418800017408 := by decide +kernel
  have e2 : hexV (one32.extract 16 32) 16 = 0 := by decide +kernel
  rw [e1, e2] at h
  exact h

theorem alive_walk (w : World) : Calls Tryd.prog 4 #[] w fun e w' => e = .returned (.bool true) ∧ Below w.heap.size w w' := by
  have C1 := Lib.hid Read_one
  have z1 : (FloatKind.f64.format.order 4607182418800017408 4607182418800017408 != some Ordering.eq) = false := by decide +kernel
  have z2 : (FloatKind.f64.format.order 4611686018427387904 4611686018427387904 != some Ordering.eq) = false := by decide +kernel
  have z0 : (FloatKind.f64.format.order 0 0 != some Ordering.eq) = false := by decide +kernel
  have C2 := Lib.hid (fun w => Same_walk _ _ _ _ true w z1 z0 z1 z0 same_yes)
  have C3 := Lib.hid (fun w => Same_walk _ _ _ _ false w z1 z0 z2 z0 same_no)
  have C4 := Lib.hid (fun w => Mul_walk 4607182418800017408 4611686018427387904 4613937818241073152 4616189618054758400 (13840687554816376832, 4621819117588971520) w (by decide +kernel))
  have C5 := Lib.hid (fun w => Add_walk 4607182418800017408 0 4607182418800017408 0 4611686018427387904 0 w (by decide +kernel) (by decide +kernel))
  clear z1 z2 z0
  go_enter Tryd.func4, Tryd.ntmps4
  go_wp2_with fail
  refine (C1.out _).mono ?_; rintro e w1 ⟨rfl, b1⟩
  go_wp2_with fail
  refine (C2.out _).mono ?_; rintro e w2 ⟨rfl, b2⟩
  go_wp2_with fail
  refine (C3.out _).mono ?_; rintro e w3 ⟨rfl, b3⟩
  go_wp2_with fail
  refine (C4.out _).mono ?_; rintro e w4 ⟨rfl, rfl⟩
  go_wp2_with fail
  refine (C5.out _).mono ?_; rintro e w4 ⟨rfl, rfl⟩
  go_wp2
  go_ret
  exact ⟨rfl, (b1.trans (b2.mono b1.size)).trans (b3.mono (Nat.le_trans b1.size b2.size))⟩
end Go.Proofs.YtoeeceemoggffaaDoor
