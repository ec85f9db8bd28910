/- The law RootEach, walked. -/
import Derived.Test.YtoeeceemoggffaaAl02
namespace Go.Proofs.Ytoeeceemoggffaa
open Go.RowKit
set_option maxHeartbeats 400000

theorem RootEach_walk (n k : Int) (_w0 : (Lit.int .i64 n).wf = true) (_w1 : (Lit.int .i64 k).wf = true) (w : World) :
    Calls Try.prog 3 #[.int .i64 n, .int .i64 k] w fun e w' => e = .returned (.bool true) ∧ Below w.heap.size w w' := by
  clear _w0 _w1
  cases h : lenB n
  · have c1 := fun w => Root_no n k w h
    have c2 := fun w => rRoot_no n k w h
    have C1 := Lib.hid c1
    have C2 := Lib.hid c2
    clear c1 c2 h
    go_enter Try.func3, Try.ntmps3
    go_wp2_with fail
    refine (alive02 _).mono ?_; rintro e w1 ⟨rfl, hb1⟩
    go_wp2_with fail
    refine (C1.out _).mono ?_; rintro e w2 ⟨rfl, hb2⟩
    go_wp2_with fail
    refine (C2.out _).mono ?_; rintro e w3 ⟨rfl, rfl⟩
    go_wp2_with fail
    refine (rSame_refl _ _).mono ?_; rintro e w3 ⟨rfl, rfl⟩
    go_wp2
    go_ret
    exact ⟨rfl, hb1.trans (hb2.mono hb1.size)⟩
  · obtain ⟨t, ht, rfl⟩ := lenB_iff.1 h
    have c1 := fun w => Root_yes t k w ht
    have c2 := fun w => rRoot_yes t k w ht
    generalize ((2 ^ t : Nat) : Int) = N at *
    generalize R t (k % N).toNat = a at *
    have C1 := Lib.hid c1
    have C2 := Lib.hid c2
    clear c1 c2 h ht
    go_enter Try.func3, Try.ntmps3
    go_wp2_with fail
    refine (alive02 _).mono ?_; rintro e w1 ⟨rfl, hb1⟩
    go_wp2_with fail
    refine (C1.out _).mono ?_; rintro e w2 ⟨rfl, hb2⟩
    go_wp2_with fail
    refine (C2.out _).mono ?_; rintro e w3 ⟨rfl, rfl⟩
    go_wp2_with fail
    refine (rSame_refl _ _).mono ?_; rintro e w3 ⟨rfl, rfl⟩
    go_wp2
    go_ret
    exact ⟨rfl, hb1.trans (hb2.mono hb1.size)⟩
end Go.Proofs.Ytoeeceemoggffaa
