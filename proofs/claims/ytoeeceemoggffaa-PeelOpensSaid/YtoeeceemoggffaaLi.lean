/- ray.lines: the iterator over a grid's cells, by its contract. -/
import Derived.Test.YtoeeceemoggffaaBi
import Derived.Test.YtoeeceemoggffaaFb
import Derived.Test.YtoeeceemoggffaaGd
namespace Go.Proofs.Ytoeeceemoggffaa
open Go.RowKit
set_option maxHeartbeats 1600000
set_option maxRecDepth 100000
attribute [local go_sem] Oper.semAt_some

/-- the line of a cell -/
def lineZ (n : Nat) (d : Int × Int) (i : Nat) : Int := (startN n d : Int) + d.2 * ((i % n : Nat) : Int) - d.1 * ((i / n : Nat) : Int)

theorem lines_walk (n : Nat) (p q : Int) (w : World) :
    Calls Try.prog 73 #[.int .i64 n, .agg #[.int .i64 p, .int .i64 q]] w fun e w' =>
      e = .returned (.func (.func 100) #[] #[.pointer (some ⟨w.heap.size, 0, none⟩), .pointer (some ⟨w.heap.size + 1, 0, none⟩)]) ∧ w' = (w.alloc (.cells #[.int .i64 n] 3)).alloc (.cells #[.int .i64 p, .int .i64 q] 51) := by
  go_enter Try.func73, Try.ntmps73
  go_wp2
  go_ret
  exact ⟨rfl, rfl⟩

/-- the two boxes of the iterator lie as they lay -/
def KeepsTwo (B : Nat) (W W' : World) : Prop := W'.heap[B]? = W.heap[B]? ∧ W'.heap[B + 1]? = W.heap[B + 1]? ∧ W.heap.size ≤ W'.heap.size

structure Boxes (B : Nat) (n : Nat) (p q : Int) (W : World) : Prop where
  lt : B + 1 < W.heap.size
  c0 : W.cell? ⟨B, 0, none⟩ = some (.int .i64 n)
  c1 : W.cell? ⟨B + 1, 0, none⟩ = some (.int .i64 p)
  c2 : W.cell? ⟨B + 1, 1, none⟩ = some (.int .i64 q)

theorem Boxes.keep {B n : Nat} {p q : Int} {W W' : World} (h : Boxes B n p q W) (k : KeepsTwo B W W') : Boxes B n p q W' :=
  ⟨Nat.lt_of_lt_of_le h.lt k.2.2, (World.cell?_of_block (a := ⟨B, 0, none⟩) k.1).trans h.c0, (World.cell?_of_block (a := ⟨B + 1, 0, none⟩) k.2.1).trans h.c1, (World.cell?_of_block (a := ⟨B + 1, 1, none⟩) k.2.1).trans h.c2⟩
theorem Boxes.later {B C n : Nat} {p q : Int} {W W' : World} (h : Boxes B n p q W) (hb : Below C W W') (hC : B + 1 < C) : Boxes B n p q W' :=
  h.keep ⟨hb.block _ (by omega), hb.block _ hC, hb.size⟩

theorem grown_of_below {W W' : World} (h : Below W.heap.size W W') : W.grownBy W' none := ⟨h.os, h.tape, h.output, h.size, fun k hk _ => h.block k hk⟩
theorem abides_below {β : Type} {B : Nat} {J : β → World → Prop} (h : AbidesFrom B J) {s : β} {W W' : World} (hs : J s W) (hb : Below W.heap.size W W') : J s W' :=
  h s W W' none hs (grown_of_below hb) (fun r e => by cases e)

/-- the first k cells -/
def firstC (M k : Nat) : List (_root_.Fin M) := (List.finRange M).take k
theorem firstC_succ {M k : Nat} (h : k < M) : firstC M (k + 1) = firstC M k ++ [⟨k, h⟩] := by
  unfold firstC
  rw [List.take_add_one]
  congr 1
  rw [List.getElem?_eq_getElem (by simpa using h)]
  simp
theorem firstC_length {M k : Nat} (h : k ≤ M) : (firstC M k).length = k := by
  unfold firstC
  simp
  omega
theorem firstC_all (M : Nat) : firstC M M = List.finRange M := by
  unfold firstC
  rw [List.take_of_length_le (by simp)]

theorem lines_stops (n M : Nat) (p q : Int) (hM : M = n * n) (h1 : 1 ≤ n) (h2 : n ≤ 64) (h : okD (p, q) = true) (B : Nat) (w : World) (hB : Boxes B n p q w) (m : Nat) :
    SeqStopsK Fence.wide m Try.prog 100 #[.pointer (some ⟨B, 0, none⟩), .pointer (some ⟨B + 1, 0, none⟩)] (fun i : _root_.Fin M => #[.int .i64 (i.1 : Int), .int .i64 (lineZ n (p, q) i.1)]) (KeepsTwo B)
      (fun xs => xs = List.finRange M) (fun _ => True) M w := by
  intro l J Jx W hW hJ hJx hY h0
  have X := Lib.hid (fun w => Index0_walk n p q w h1 h2 h)
  have HB := Lib.hid (hB.later hW hB.lt)
  have HY := Lib.hid hY
  have HJ := Lib.hid hJ
  have HJx := Lib.hid hJx
  have H0 := Lib.hid h0
  obtain ⟨b0, b1, b2, b3⟩ := hB.later hW hB.lt
  clear hW hB hJ hJx hY h0
  refine callsIn_of_wp Try.func100 rfl trivial ?_ rfl
  refine wpIn_wide.2 ?_
  simp only [Try.ntmps100, List.size_toArray, List.length_cons, List.length_nil, Nat.reduceAdd, Nat.reduceSub, Array.replicate_succ, Array.replicate_zero, List.push_toArray, List.append_toArray, List.nil_append, List.cons_append]
  have hM4 : M ≤ 4096 := by rw [hM]; exact Nat.mul_le_mul h2 h2
  have hnn : (n : Int) * (n : Int) = (M : Int) := by rw [hM]; exact (Int.natCast_mul _ _).symm
  have HM := Lib.hid hM
  obtain ⟨o0, o1, o2, o3, o4⟩ := (okD_iff p q).1 h
  have hst : startN n (p, q) ≤ 63 * 16 := Nat.mul_le_mul (by omega) (by simp only; omega)
  obtain ⟨st, hst'⟩ : ∃ st, st = startN n (p, q) := ⟨_, rfl⟩
  have HSt := Lib.hid hst'
  rw [← hst'] at X hst
  clear hM hst' o3 o4 h
  go_wp2_with fail
  refine (X.out _).mono ?_; rintro e w1 ⟨rfl, hb⟩
  have HB1 := Lib.hid (HB.out.later hb HB.out.lt)
  have HJ1 := Lib.hid (abides_below HJ.out H0.out hb)
  clear hb b1 b2 b3
  obtain ⟨_, b1, b2, b3⟩ := HB1.out
  go_wp2
  clear b1 b2 b3
  go_loopw [16] (fun s wr => ∃ k : Nat, k ≤ M ∧ s = .int .i64 k ∧ Boxes B n p q wr ∧ J (firstC M k) wr) (fun s _ => M - (intOf s).toNat)
  case atStart => exact ⟨0, Nat.zero_le _, rfl, HB1.out, HJ1.out⟩
  case round =>
    obtain ⟨k, hk, rfl, hbx, hj⟩ := hrel
    have HBx := Lib.hid hbx
    have HJk := Lib.hid hj
    clear hj
    obtain ⟨_, b1, b2, b3⟩ := hbx
    by_cases hlt : k < M
    · obtain ⟨fn, tmps, assign, body, hy, hR⟩ := HY.out (firstC M k) ⟨k, hlt⟩ wr.drew (abides_below HJ.out HJk.out (Below.refl _ wr).drew) (by rw [firstC_length hk]; exact hlt)
      have HR := Lib.hid hR
      clear hR
      have hn0 : ¬ n = 0 := by omega
      have ha : k % n < n := Nat.mod_lt _ (by omega)
      have hb : k / n < n := by rw [Nat.div_lt_iff_lt_mul (by omega), ← HM.out]; exact hlt
      have hz : lineZ n (p, q) k = (st : Int) + q * ((k % n : Nat) : Int) - p * ((k / n : Nat) : Int) := by unfold lineZ; rw [HSt.out]
      rw [hz] at hy
      have e1 : (k : Int).tmod (n : Int) = ((k % n : Nat) : Int) := (Int.ofNat_tmod k n).symm
      have e2 : (k : Int).tdiv (n : Int) = ((k / n : Nat) : Int) := (Int.ofNat_tdiv k n).symm
      obtain ⟨qa, hqa⟩ : ∃ z, q * ((k % n : Nat) : Int) = z := ⟨_, rfl⟩
      obtain ⟨pb, hpb⟩ : ∃ z, p * ((k / n : Nat) : Int) = z := ⟨_, rfl⟩
      have q1 : -1100 ≤ qa ∧ qa ≤ 1100 := by
        have h3 : q * ((k % n : Nat) : Int) ≤ 16 * 64 := Int.mul_le_mul o1 (by omega) (by omega) (by omega)
        have h4 : 0 ≤ q * ((k % n : Nat) : Int) := Int.mul_nonneg o0 (by omega)
        omega
      have p1 : -1100 ≤ pb ∧ pb ≤ 1100 := by
        have h3 : p.natAbs * (k / n) ≤ 16 * 64 := Nat.mul_le_mul o2 (by omega)
        have h4 : (p * ((k / n : Nat) : Int)).natAbs = p.natAbs * (k / n) := by rw [Int.natAbs_mul]; rfl
        omega
      rw [hqa, hpb] at hy
      obtain ⟨a, ha'⟩ : ∃ a, a = k % n := ⟨_, rfl⟩
      obtain ⟨b, hb'⟩ : ∃ b, b = k / n := ⟨_, rfl⟩
      rw [← ha'] at hqa e1
      rw [← hb'] at hpb e2
      have w0 : IntKind.i64.wrap (b : Int) = (b : Int) := IntWalk.i64_in _ (by omega)
      have w1 : IntKind.i64.wrap qa = qa := IntWalk.i64_in _ (by omega)
      have w2 : IntKind.i64.wrap pb = pb := IntWalk.i64_in _ (by omega)
      have w3 : IntKind.i64.wrap ((st : Int) + qa) = (st : Int) + qa := IntWalk.i64_in _ (by omega)
      have w4 : IntKind.i64.wrap ((st : Int) + qa - pb) = (st : Int) + qa - pb := IntWalk.i64_in _ (by omega)
      clear hz ha hb ha' hb'
      go_upto_region 4 with fail
      refine (wpIn_wide (n := m)).1 ?_
      refine wpIn_region_still_tail lax_wide 17 (by kernel_rfl) (by kernel_rfl) (by rfl) ?_
      simp only [List.take_succ_cons, List.take_zero, List.drop_succ_cons, List.drop_zero]
      repeat still_step
      refine wpStill_nil ?_
      clear e1 e2 hqa hpb w0 w1 w2 w3 w4
      gi_wp2
      refine ⟨(fun h => by simp [Fence.wide] at h), HR.out.mono ?_⟩
      rintro e W' (⟨rfl, hj2, hk2⟩ | ⟨rfl, hjx⟩)
      · have HJ2 := Lib.hid hj2
        have HK2 := Lib.hid hk2
        clear hj2 hk2
        gi_wp2
        go_wp2
        exact ⟨⟨k + 1, by omega, by go_num, HBx.out.keep (W' := W') HK2.out, by rw [firstC_succ hlt]; exact HJ2.out⟩, by simp [intOf]; omega⟩
      · have HJX := Lib.hid hjx
        clear hjx
        gi_wp2
        go_wp2
        exact bodyPost_ret (results_none rfl _ _ _) rfl ⟨⟨_, rfl⟩, .inr ⟨_, trivial, HJX.out⟩⟩
    · obtain rfl : k = M := by omega
      go_wp2
      go_end0
      exact ⟨⟨_, rfl⟩, .inl ⟨_, (firstC_all _).symm ▸ rfl, HJk.out⟩⟩
end Go.Proofs.Ytoeeceemoggffaa
