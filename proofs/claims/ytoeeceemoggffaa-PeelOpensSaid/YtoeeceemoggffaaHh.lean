/- container/heap over peel's places (under way).
places.Swap, by its contract (under way).
container/heap.down over peel's places: the places are only put in another order (under way).
container/heap.up over peel's places: the places are only put in another order.
container/heap.Init over peel's places: the places are only put in another order.
(*places).Pop and container/heap.Pop over peel's places (under way).
(*places).Push over peel's places . -/
import Derived.Test.YtoeeceemoggffaaAp
import Derived.Deep.QuietTactic
import Derived.BigQuiet
import Derived.BigRegion
import Derived.WalkSmall
import Derived.Deep.RegionHeld3
import Derived.Deep.RegionLaw
import Derived.Deep.AppendLies
import Derived.WalkSpells
import Derived.OwnWalk
import Derived.Deep.DeepCutAuto
namespace Go.Proofs.Ytoeeceemoggffaa
open Go.RowKit
set_option maxHeartbeats 1600000
set_option maxRecDepth 100000

theorem Len_walk (a : Option Addr) (n cap : Nat) (w : World) : Calls Try.prog 175 #[.slice a n cap] w fun e w' => e = .returned (.int .i64 n) ∧ w = w' := by
  go_enter Try.func175, Try.ntmps175
  go_wp2
  go_ret
  exact ⟨rfl, rfl⟩
theorem recv_at {p : Addr} {s : Value} {w : World} (m : String) (h : w.cell? p = some s) : (receiverAt 151 (.val (.pointer (some p))) false (some m)).run Try.prog w = .ok s w := by
  have u : (underlying 151).run Try.prog w = .ok (.pointer 121) w := by kernel_rfl
  have k : (isAgg 121).run Try.prog w = .ok false w := by kernel_rfl
  have c : ∀ m, (Builtin.ssaWrapNilChk_ #[151] 151 #[.pointer (some p), strVal "", strVal m]).run Try.prog w = .ok (.pointer (some p)) w := fun m => by kernel_rfl
  simp only [receiverAt, Sem.run_bind, u, Result.andThen_ok, Place.get, Sem.run_pure, c, asAddr, loadVar, k]
  simp [h]
theorem at_method (p : Addr) (w : World) (m : String) (f : FuncId) (hi : (Try.prog.info? 151).map (fun i => (i.methods.find? (·.name == m)).map (fun x => (x.path.toList, x.func))) = some (some ([], some (f, false)))) {s : Value} (h : w.cell? p = some s) : (method 317 151 (.pointer (some p)) m).run Try.prog w = .ok (f, s) w := by
  cases hq : Try.prog.info? 151 with
  | none => rw [hq] at hi; cases hi
  | some i =>
    rw [hq] at hi
    simp only [Option.map_some, Option.some.injEq] at hi
    cases hm : i.methods.find? (·.name == m) with
    | none => rw [hm] at hi; cases hi
    | some x =>
      rw [hm] at hi
      simp only [Option.map_some, Option.some.injEq, Prod.mk.injEq] at hi
      obtain ⟨h1, h2⟩ := hi
      have ti : (typeInfo 151).run Try.prog w = .ok i w := by simp [typeInfo, hq]
      have hpe : x.path.isEmpty = true := by
        have : x.path = #[] := by cases hx : x.path; rw [hx] at h1; simp at h1; rw [h1]
        rw [this]; rfl
      simp only [method, Sem.run_bind, ti, Result.andThen_ok, hm, h1, h2, follow, Sem.run_pure, hpe, if_true, fun m => recv_at m h]
theorem at_Push (p : Addr) (w : World) : (method 317 151 (.pointer (some p)) "Push").run Try.prog w = .ok (179, .pointer (some p)) w := by kernel_rfl
theorem at_Pop (p : Addr) (w : World) : (method 317 151 (.pointer (some p)) "Pop").run Try.prog w = .ok (178, .pointer (some p)) w := by kernel_rfl
theorem at_Len {p : Addr} {s : Value} {w : World} (h : w.cell? p = some s) : (method 317 151 (.pointer (some p)) "Len").run Try.prog w = .ok (175, s) w := at_method p w "Len" _ (by kernel_rfl) h
theorem at_Less {p : Addr} {s : Value} {w : World} (h : w.cell? p = some s) : (method 317 151 (.pointer (some p)) "Less").run Try.prog w = .ok (176, s) w := at_method p w "Less" _ (by kernel_rfl) h
theorem at_Swap {p : Addr} {s : Value} {w : World} (h : w.cell? p = some s) : (method 317 151 (.pointer (some p)) "Swap").run Try.prog w = .ok (177, s) w := at_method p w "Swap" _ (by kernel_rfl) h
theorem Less_cells (r cap n : Nat) (i j : Nat) (x y : Int × Int) (w : World) (x0 : w.cell? ⟨r, i * 2, none⟩ = some (.int .i64 x.1)) (x1 : w.cell? ⟨r, i * 2 + 1, none⟩ = some (.int .i64 x.2))
    (y0 : w.cell? ⟨r, j * 2, none⟩ = some (.int .i64 y.1)) (y1 : w.cell? ⟨r, j * 2 + 1, none⟩ = some (.int .i64 y.2)) (hi : i < n) (hj : j < n) :
    Calls Try.prog 176 #[.slice (some ⟨r, 0, none⟩) n cap, .int .i64 i, .int .i64 j] w fun e w' => ∃ b, e = .returned (.bool b) ∧ ∃ k, w' = w.drewN k := by
  have hi' : (i : Int) < (n : Int) := by omega
  have hj' : (j : Int) < (n : Int) := by omega
  generalize x.1 = xa at *
  generalize x.2 = xb at *
  generalize y.1 = ya at *
  generalize y.2 = yb at *
  by_cases h1 : xa < ya
  · go_enter Try.func176, Try.ntmps176
    go_wp2_with fail
    go_quiet (fail)
    go_wp2
    go_ret
    exact ⟨_, rfl, _, rfl⟩
  · have h1' : decide (xa < ya) = false := decide_eq_false h1
    by_cases h2 : xa = ya
    · subst h2
      clear h1
      go_enter Try.func176, Try.ntmps176
      go_wp2_with fail
      go_quiet (fail)
      go_wp2
      go_ret
      exact ⟨_, rfl, _, rfl⟩
    · have h2' : (xa == ya) = false := by simpa using h2
      have h2'' : decide (xa = ya) = false := by simpa using h2
      clear h1 h2
      go_enter Try.func176, Try.ntmps176
      go_wp2_with fail
      go_quiet (fail)
      go_wp2
      go_ret
      exact ⟨_, rfl, _, rfl⟩
end Go.Proofs.Ytoeeceemoggffaa

namespace Go.Proofs.Ytoeeceemoggffaa
open Go.RowKit
set_option maxHeartbeats 3200000
set_option maxRecDepth 100000

/-- nothing but block g has turned (and draws) -/
structure OnlyG (g : Nat) (w w' : World) : Prop where
  os : w'.os = w.os
  tape : w'.tape = w.tape
  output : w'.output = w.output
  size : w'.heap.size = w.heap.size
  block : ∀ k, k ≠ g → w'.heap[k]? = w.heap[k]?
theorem OnlyG.refl (g : Nat) (w : World) : OnlyG g w w := ⟨rfl, rfl, rfl, rfl, fun _ _ => rfl⟩
theorem OnlyG.trans {g : Nat} {a b c : World} (h : OnlyG g a b) (k : OnlyG g b c) : OnlyG g a c :=
  ⟨k.os.trans h.os, k.tape.trans h.tape, k.output.trans h.output, k.size.trans h.size, fun i hi => (k.block i hi).trans (h.block i hi)⟩
theorem OnlyG.drew {g : Nat} {a b : World} (h : OnlyG g a b) : OnlyG g a b.drew := ⟨h.os, h.tape, h.output, h.size, h.block⟩
theorem OnlyG.drewN {g : Nat} {a b : World} (h : OnlyG g a b) (n : Nat) : OnlyG g a (b.drewN n) := ⟨h.os, h.tape, h.output, h.size, h.block⟩
theorem OnlyG.set {g j : Nat} {a b : World} (h : OnlyG g a b) (u : Value) : OnlyG g a (b.setCell ⟨g, j, none⟩ u) := by
  refine ⟨h.os, h.tape, h.output, ?_, fun k hk => ?_⟩
  · simpa [World.setCell] using h.size
  · rw [Below.heap_setCell _ _ _ _ (by simpa using hk)]
    exact h.block k hk
theorem OnlyG.cell {g : Nat} {a b : World} (h : OnlyG g a b) {p : Addr} (hp : p.block ≠ g) : b.cell? p = a.cell? p := by
  unfold World.cell?
  rw [h.block _ hp]

/-- the row of places -/
def PRow (B : Nat) (w : World) (g n cap : Nat) (l : List (Int × Int)) : Prop := w.ownsRow B 113 2 (.slice (some ⟨g, 0, none⟩) n cap) n (flatD l)
theorem PRow.cells {B g n cap : Nat} {w : World} {l : List (Int × Int)} (h : PRow B w g n cap l) {i : Nat} {x : Int × Int} (hx : l[i]? = some x) :
    w.cell? ⟨g, i * 2, none⟩ = some (.int .i64 x.1) ∧ w.cell? ⟨g, i * 2 + 1, none⟩ = some (.int .i64 x.2) := by
  obtain ⟨h0, h1⟩ := flatD_get hx
  have c0 := World.ownsRow.cells h (g := g) rfl _ _ h0
  have c1 := World.ownsRow.cells h (g := g) rfl _ _ h1
  have ha : ∀ k, (⟨g, 0, none⟩ : Addr).add k = ⟨g, k, none⟩ := fun k => by unfold Addr.add; split <;> simp_all
  rw [ha] at c0 c1
  exact ⟨c0, c1⟩
theorem PRow.free {B g n cap : Nat} {w : World} {l : List (Int × Int)} (h : PRow B w g n cap l) (j : Nat) : w.frozen? ⟨g, j, none⟩ = false := World.ownsRow.frozenAt h j

theorem Swap_walk (B g n cap : Nat) (l : List (Int × Int)) (i j : Nat) (x y : Int × Int) (w : World) (h : PRow B w g n cap l) (hi : i < n) (hj : j < n) (hx : l[i]? = some x) (hy : l[j]? = some y) :
    Calls Try.prog 177 #[.slice (some ⟨g, 0, none⟩) n cap, .int .i64 i, .int .i64 j] w fun e w' => e = .returned (.tuple #[]) ∧ w' = ((((w.setCell ⟨g, i * 2, none⟩ (.int .i64 y.1)).setCell ⟨g, i * 2 + 1, none⟩ (.int .i64 y.2)).setCell ⟨g, j * 2, none⟩ (.int .i64 x.1)).setCell ⟨g, j * 2 + 1, none⟩ (.int .i64 x.2)).drew := by
  obtain ⟨x0, x1⟩ := h.cells hx
  obtain ⟨y0, y1⟩ := h.cells hy
  have f := h.free
  have fi := f (i * 2)
  have fi' := f (i * 2 + 1)
  have fj := f (j * 2)
  have fj' := f (j * 2 + 1)
  have hi' : (i : Int) < (n : Int) := by omega
  have hj' : (j : Int) < (n : Int) := by omega
  obtain ⟨u0, hu0⟩ := cell?_setCell_some (w := w) (p := ⟨g, i * 2, none⟩) (x := .int .i64 y.1) (q := ⟨g, j * 2, none⟩) (v := .int .i64 y.1) y0
  obtain ⟨v1, hv1⟩ := cell?_setCell_some (w := w) (p := ⟨g, i * 2, none⟩) (x := .int .i64 y.1) (q := ⟨g, j * 2 + 1, none⟩) (v := .int .i64 y.2) y1
  obtain ⟨u1, hu1⟩ := cell?_setCell_some (w := w.setCell ⟨g, i * 2, none⟩ (.int .i64 y.1)) (p := ⟨g, i * 2 + 1, none⟩) (x := .int .i64 y.2) (q := ⟨g, j * 2 + 1, none⟩) (v := v1) hv1
  clear f h hx hy
  go_enter Try.func177, Try.ntmps177
  go_wp2_with fail
  go_region
  exact bodyPost_end (v := .tuple #[]) (by simp [results, Try.results177, go_sem]) rfl ⟨rfl, rfl⟩

theorem flatD_set (l : List (Int × Int)) (i : Nat) (y : Int × Int) : flatD (l.set i y) = ((flatD l).set (i * 2) (.int .i64 y.1)).set (i * 2 + 1) (.int .i64 y.2) := by
  induction l generalizing i with
  | nil => rfl
  | cons a r ih =>
    cases i with
    | zero => rfl
    | succ i =>
      have e : flatD (a :: r) = .int .i64 a.1 :: .int .i64 a.2 :: flatD r := rfl
      have e2 : flatD ((a :: r).set (i + 1) y) = .int .i64 a.1 :: .int .i64 a.2 :: flatD (r.set i y) := rfl
      rw [e, e2, ih, show (i + 1) * 2 = i * 2 + 1 + 1 by omega]
      rfl
theorem PRow.put {B g n cap : Nat} {w : World} {l : List (Int × Int)} (h : PRow B w g n cap l) (i : Nat) (y : Int × Int) : PRow B ((w.setCell ⟨g, i * 2, none⟩ (.int .i64 y.1)).setCell ⟨g, i * 2 + 1, none⟩ (.int .i64 y.2)) g n cap (l.set i y) := by
  unfold PRow at *
  rw [flatD_set]
  have h1 := (World.ownsRow.stored h (i * 2) (.int .i64 y.1)).1
  have h2 := (World.ownsRow.stored h1 (i * 2 + 1) (.int .i64 y.2)).1
  simpa using h2
end Go.Proofs.Ytoeeceemoggffaa

namespace Go.Proofs.Ytoeeceemoggffaa
open Go.RowKit Go.Lib
set_option maxHeartbeats 3200000
set_option maxRecDepth 100000

/-- the heap: its slice lies at b.6, its row at g -/
structure HS (B b g n cap : Nat) (l : List (Int × Int)) (w : World) : Prop where
  row : PRow B w g n cap l
  at6 : w.cell? ⟨b, 6, none⟩ = some (.slice (some ⟨g, 0, none⟩) n cap)
  len : n = l.length
  ne : b ≠ g
abbrev hpV (b : Nat) : Value := .iface 151 (.pointer (some ⟨b, 6, none⟩))

theorem HS.drewN {B b g n cap : Nat} {l : List (Int × Int)} {w : World} (h : HS B b g n cap l w) (k : Nat) : HS B b g n cap l (w.drewN k) :=
  ⟨h.row, h.at6, h.len, h.ne⟩
theorem HS.less {B b g n cap : Nat} {l : List (Int × Int)} {w : World} (h : HS B b g n cap l w) (I J : Int) (i j : Nat) (hI : I = i) (hJ : J = j) (hi : i < n) (hj : j < n) :
    Calls Try.prog 176 #[.slice (some ⟨g, 0, none⟩) n cap, .int .i64 I, .int .i64 J] w fun e w' => ∃ q, e = .returned (.bool q) ∧ ∃ k, w' = w.drewN k := by
  subst hI hJ
  obtain ⟨x, hx⟩ : ∃ x, l[i]? = some x := ⟨_, List.getElem?_eq_getElem (by have := h.len; omega)⟩
  obtain ⟨y, hy⟩ : ∃ y, l[j]? = some y := ⟨_, List.getElem?_eq_getElem (by have := h.len; omega)⟩
  obtain ⟨x0, x1⟩ := h.row.cells hx
  obtain ⟨y0, y1⟩ := h.row.cells hy
  exact Less_cells g cap n i j x y w x0 x1 y0 y1 hi hj
theorem HS.swap {B b g n cap : Nat} {l : List (Int × Int)} {w : World} (h : HS B b g n cap l w) (I J : Int) (i j : Nat) (hI : I = i) (hJ : J = j) (hi : i < n) (hj : j < n) :
    Calls Try.prog 177 #[.slice (some ⟨g, 0, none⟩) n cap, .int .i64 I, .int .i64 J] w fun e w' => e = .returned (.tuple #[]) ∧ ∃ x y, l[i]? = some x ∧ l[j]? = some y ∧ HS B b g n cap ((l.set i y).set j x) w' ∧ OnlyG g w w' := by
  subst hI hJ
  obtain ⟨x, hx⟩ : ∃ x, l[i]? = some x := ⟨_, List.getElem?_eq_getElem (by have := h.len; omega)⟩
  obtain ⟨y, hy⟩ : ∃ y, l[j]? = some y := ⟨_, List.getElem?_eq_getElem (by have := h.len; omega)⟩
  refine (Swap_walk B g n cap l i j x y w h.row hi hj hx hy).mono ?_
  rintro e w' ⟨rfl, rfl⟩
  have o : OnlyG g w ((((w.setCell ⟨g, i * 2, none⟩ (.int .i64 y.1)).setCell ⟨g, i * 2 + 1, none⟩ (.int .i64 y.2)).setCell ⟨g, j * 2, none⟩ (.int .i64 x.1)).setCell ⟨g, j * 2 + 1, none⟩ (.int .i64 x.2)).drew :=
    ((((OnlyG.refl g w).set _).set _).set _).set _ |>.drew
  exact ⟨rfl, x, y, hx, hy, ⟨(h.row.put i y).put j x, (o.cell (p := ⟨b, 6, none⟩) h.ne).trans h.at6, by simpa using h.len, h.ne⟩, o⟩

theorem perm_set {l : List (Int × Int)} : ∀ {i j : Nat} {x y : Int × Int}, i < j → l[i]? = some x → l[j]? = some y → ((l.set i y).set j x).Perm l := by
  induction l with
  | nil => intro i j x y _ hx _; cases hx
  | cons a r ih =>
    intro i j x y hij hx hy
    cases j with
    | zero => omega
    | succ j =>
      cases i with
      | zero =>
        obtain rfl : a = x := by simpa using hx
        have hy' : r[j]? = some y := by simpa using hy
        obtain ⟨hj, hg⟩ := List.getElem?_eq_some_iff.1 hy'
        show (y :: r.set j a).Perm (a :: r)
        have e1 : r = r.take j ++ y :: r.drop (j + 1) := by rw [← hg, List.getElem_cons_drop, List.take_append_drop]
        have e2 : r.set j a = r.take j ++ a :: r.drop (j + 1) := List.set_eq_take_append_cons_drop.trans (if_pos hj)
        rw [e2]
        refine List.Perm.trans (List.Perm.cons y List.perm_middle) ?_
        refine List.Perm.trans (List.Perm.swap a y _) (List.Perm.cons a ?_)
        conv => rhs; rw [e1]
        exact List.perm_middle.symm
      | succ i =>
        show (a :: ((r.set i y).set j x)).Perm (a :: r)
        exact (ih (by omega) (by simpa using hx) (by simpa using hy)).cons a
theorem swap_perm {l : List (Int × Int)} {i j : Nat} {x y : Int × Int} (hx : l[i]? = some x) (hy : l[j]? = some y) : ((l.set i y).set j x).Perm l := by
  rcases Nat.lt_trichotomy i j with h | h | h
  · exact perm_set h hx hy
  · subst h
    obtain rfl : x = y := by rw [hx] at hy; exact Option.some.inj hy
    rw [List.set_set]
    obtain ⟨hi, hg⟩ := List.getElem?_eq_some_iff.1 hx
    rw [← hg, List.set_getElem_self]
  · rw [List.set_comm _ _ (by omega)]
    exact perm_set h hy hx
theorem drop_set {l : List (Int × Int)} {i j m : Nat} (x y : Int × Int) (hi : i < m) (hj : j < m) : ((l.set i y).set j x).drop m = l.drop m := by
  rw [List.drop_set_of_lt hj, List.drop_set_of_lt hi]

theorem down_walk (B b g n cap i0 m : Nat) (l : List (Int × Int)) (w : World) (h : HS B b g n cap l w) (hm : m ≤ n) (h0 : i0 ≤ m) (hn : n ≤ 1000000) :
    Calls Try.prog 130 #[hpV b, .int .i64 i0, .int .i64 m] w fun e w' => ∃ q l', e = .returned (.bool q) ∧ HS B b g n cap l' w' ∧ l'.Perm l ∧ l'.drop m = l.drop m ∧ OnlyG g w w' := by
  have HR : Hid (∃ l', HS B b g n cap l' w ∧ l'.Perm l ∧ l'.drop m = l.drop m ∧ OnlyG g w w) := Lib.hid ⟨l, h, List.Perm.refl _, rfl, OnlyG.refl _ _⟩
  clear h
  go_enter Try.func130, Try.ntmps130
  go_wp2
  go_loopw [7, 8, 9, 10] (fun i j1 j j2 wr => ∃ k : Nat, k ≤ m ∧ i = .int .i64 k ∧ Hid (∃ l', HS B b g n cap l' wr ∧ l'.Perm l ∧ l'.drop m = l.drop m ∧ OnlyG g w wr)) (fun i _ _ _ _ => m - (intOf i).toNat)
  case atStart => exact ⟨i0, h0, rfl, HR⟩
  case round =>
    obtain ⟨k, hk, rfl, HH⟩ := hrel
    by_cases hlt : 2 * k + 1 < m
    · obtain ⟨l', hs, hp, hd, ho⟩ := HH.out
      clear HH
      have t1 : decide ((m : Int) ≤ 2 * (k : Int) + 1) = false := decide_eq_false (by omega)
      have t2 : decide (2 * (k : Int) + 1 < 0) = false := decide_eq_false (by omega)
      -- the last part, whichever child was chosen
      by_cases h2 : 2 * k + 2 < m
      · have m1 := at_Less hs.at6
        have t3 : 2 * (k : Int) + 1 + 1 < (m : Int) := by omega
        go_wp2_with fail
        refine (hs.less _ _ (2 * k + 2) (2 * k + 1) (by omega) (by omega) (by omega) (by omega)).mono ?_; rintro e w1 ⟨q, rfl, z, rfl⟩
        have hs1 := hs.drewN z
        have ho1 := ho.drewN z
        cases q
        · clear t3
          have m2 := at_Less (hs1).at6
          go_wp2_with fail
          refine ((hs1).less _ _ (2 * k + 1) k (by omega) (by omega) (by omega) (by omega)).mono ?_; rintro e w2 ⟨q2, rfl, z2, rfl⟩
          have hs2 := hs.drewN (z + z2)
          have ho2 := ho.drewN (z + z2)
          have m3 := at_Swap hs2.at6
          cases q2
          · go_wp2
            go_ret
            exact ⟨_, l', rfl, hs2, hp, hd, ho2⟩
          · go_wp2_with fail
            refine (hs2.swap _ _ k (2 * k + 1) (by omega) (by omega) (by omega) (by omega)).mono ?_; rintro e w3 ⟨rfl, x, y, hx, hy, hs3, ho3⟩
            go_wp2
            go_roundw
            case rel => exact ⟨2 * k + 1, by omega, (by congr 1 <;> omega), Lib.hid ⟨_, hs3, (swap_perm hx hy).trans hp, (drop_set x y (by omega) (by omega)).trans hd, ho2.trans ho3⟩⟩
            case measure => simp [intOf]; omega
        · clear t3
          have m2 := at_Less (hs1).at6
          go_wp2_with fail
          refine ((hs1).less _ _ (2 * k + 2) k (by omega) (by omega) (by omega) (by omega)).mono ?_; rintro e w2 ⟨q2, rfl, z2, rfl⟩
          have hs2 := hs.drewN (z + z2)
          have ho2 := ho.drewN (z + z2)
          have m3 := at_Swap hs2.at6
          cases q2
          · go_wp2
            go_ret
            exact ⟨_, l', rfl, hs2, hp, hd, ho2⟩
          · go_wp2_with fail
            refine (hs2.swap _ _ k (2 * k + 2) (by omega) (by omega) (by omega) (by omega)).mono ?_; rintro e w3 ⟨rfl, x, y, hx, hy, hs3, ho3⟩
            go_wp2
            go_roundw
            case rel => exact ⟨2 * k + 2, by omega, (by congr 1 <;> omega), Lib.hid ⟨_, hs3, (swap_perm hx hy).trans hp, (drop_set x y (by omega) (by omega)).trans hd, ho2.trans ho3⟩⟩
            case measure => simp [intOf]; omega
      · have t3 : decide (2 * (k : Int) + 1 + 1 < (m : Int)) = false := decide_eq_false (by omega)
        have m2 := at_Less (hs).at6
        go_wp2_with fail
        refine ((hs).less _ _ (2 * k + 1) k (by omega) (by omega) (by omega) (by omega)).mono ?_; rintro e w2 ⟨q2, rfl, z2, rfl⟩
        have hs2 := (hs).drewN z2
        have ho2 := (ho).drewN z2
        have m3 := at_Swap hs2.at6
        cases q2
        · go_wp2
          go_ret
          exact ⟨_, l', rfl, hs2, hp, hd, ho2⟩
        · go_wp2_with fail
          refine (hs2.swap _ _ k (2 * k + 1) (by omega) (by omega) (by omega) (by omega)).mono ?_; rintro e w3 ⟨rfl, x, y, hx, hy, hs3, ho3⟩
          go_wp2
          go_roundw
          case rel => exact ⟨2 * k + 1, by omega, (by congr 1 <;> omega), Lib.hid ⟨_, hs3, (swap_perm hx hy).trans hp, (drop_set x y (by omega) (by omega)).trans hd, ho2.trans ho3⟩⟩
          case measure => simp [intOf]; omega
    · obtain ⟨l', hs, hp, hd, ho⟩ := HH.out
      have t1 : (m : Int) ≤ 2 * (k : Int) + 1 := by omega
      go_wp2
      go_ret
      exact ⟨_, l', rfl, hs, hp, hd, ho⟩
end Go.Proofs.Ytoeeceemoggffaa

namespace Go.Proofs.Ytoeeceemoggffaa
open Go.RowKit Go.Lib
set_option maxHeartbeats 3200000
set_option maxRecDepth 100000

theorem half (k : Nat) (hk : 0 < k) : ((k : Int) - 1).tdiv 2 = (((k - 1) / 2 : Nat) : Int) := by
  obtain ⟨j, rfl⟩ : ∃ j, k = j + 1 := ⟨k - 1, by omega⟩
  rw [show ((j + 1 : Nat) : Int) - 1 = (j : Int) by omega, show j + 1 - 1 = j by omega]
  rw [Int.tdiv_eq_ediv_of_nonneg (by omega)]
  omega

theorem up_walk (B b g n cap j0 : Nat) (l : List (Int × Int)) (w : World) (h : HS B b g n cap l w) (h0 : j0 < n) (hn : n ≤ 1000000) :
    Calls Try.prog 131 #[hpV b, .int .i64 j0] w fun e w' => ∃ l', e = .returned (.tuple #[]) ∧ HS B b g n cap l' w' ∧ l'.Perm l ∧ OnlyG g w w' := by
  have HR : Hid (∃ l', HS B b g n cap l' w ∧ l'.Perm l ∧ OnlyG g w w) := Lib.hid ⟨l, h, List.Perm.refl _, OnlyG.refl _ _⟩
  clear h
  go_enter Try.func131, Try.ntmps131
  go_wp2
  go_loopw [1, 4] (fun i j1 wr => ∃ k : Nat, k < n ∧ i = .int .i64 k ∧ Hid (∃ l', HS B b g n cap l' wr ∧ l'.Perm l ∧ OnlyG g w wr)) (fun i _ _ => (intOf i).toNat)
  case atStart => exact ⟨j0, h0, rfl, HR⟩
  case round =>
    obtain ⟨k, hk, rfl, HH⟩ := hrel
    obtain ⟨l', hs, hp, ho⟩ := HH.out
    clear HH
    by_cases h1 : 0 < k
    · obtain ⟨p, hpe⟩ : ∃ p, p = (k - 1) / 2 := ⟨_, rfl⟩
      have e1 : ((k : Int) - 1).tdiv 2 = (p : Int) := by rw [half k h1, hpe]
      have hpk : p < k := by omega
      have t1 : ((p : Int) == (k : Int)) = false := by
        have : (p : Int) ≠ (k : Int) := by omega
        simpa using this
      have t2 : (p == k) = false := by
        have : p ≠ k := by omega
        simpa using this
      have m1 := at_Less hs.at6
      clear hpe
      go_wp2_with fail
      refine (hs.less _ _ k p (by omega) (by omega) (by omega) (by omega)).mono ?_; rintro e w1 ⟨q, rfl, z, rfl⟩
      have hs1 := hs.drewN z
      have ho1 := ho.drewN z
      have m2 := at_Swap hs1.at6
      cases q
      · go_wp2
        exact bodyPost_end (v := .tuple #[]) (by simp [results, Try.results131, go_sem]) rfl ⟨l', rfl, hs1, hp, ho1⟩
      · go_wp2_with fail
        refine (hs1.swap _ _ p k (by omega) (by omega) (by omega) (by omega)).mono ?_; rintro e w3 ⟨rfl, x, y, hx, hy, hs3, ho3⟩
        go_wp2
        go_roundw
        case rel => exact ⟨p, by omega, rfl, Lib.hid ⟨_, hs3, (swap_perm hx hy).trans hp, ho1.trans ho3⟩⟩
        case measure => simp [intOf]; omega
    · obtain rfl : k = 0 := by omega
      go_wp2
      exact bodyPost_end (v := .tuple #[]) (by simp [results, Try.results131, go_sem]) rfl ⟨l', rfl, hs, hp, ho⟩
end Go.Proofs.Ytoeeceemoggffaa

namespace Go.Proofs.Ytoeeceemoggffaa
open Go.RowKit Go.Lib
set_option maxHeartbeats 3200000
set_option maxRecDepth 100000

theorem Init_none (b : Nat) (w : World) (h : w.cell? ⟨b, 6, none⟩ = some (.slice none 0 0)) : Calls Try.prog 109 #[hpV b] w fun e w' => e = .returned (.tuple #[]) ∧ w' = w := by
  have m1 := at_Len h
  go_enter Try.func109, Try.ntmps109
  go_wp2_with (go_at_call 175; refine (Len_walk _ _ _ _).mono ?_; rintro e w' ⟨rfl, rfl⟩)
  go_loopw [3] (fun i wr => i = .int .i64 (-1) ∧ wr = w) (fun _ _ => 0)
  case atStart => exact ⟨rfl, rfl⟩
  case round =>
    obtain ⟨rfl, rfl⟩ := hrel
    go_wp2
    exact bodyPost_end (v := .tuple #[]) (by simp [results, Try.results109, go_sem]) rfl ⟨rfl, rfl⟩

theorem Init_some (B b g n cap : Nat) (l : List (Int × Int)) (w : World) (h : HS B b g n cap l w) (hn : n ≤ 1000000) :
    Calls Try.prog 109 #[hpV b] w fun e w' => ∃ l', e = .returned (.tuple #[]) ∧ HS B b g n cap l' w' ∧ l'.Perm l ∧ OnlyG g w w' := by
  have m1 := at_Len h.at6
  have e1 : ((n : Int).tdiv 2) = ((n / 2 : Nat) : Int) := by rw [Int.tdiv_eq_ediv_of_nonneg (by omega)]; omega
  have HR : Hid (∃ l', HS B b g n cap l' w ∧ l'.Perm l ∧ OnlyG g w w) := Lib.hid ⟨l, h, List.Perm.refl _, OnlyG.refl _ _⟩
  obtain ⟨p, hp⟩ : ∃ p, p = n / 2 := ⟨_, rfl⟩
  rw [← hp] at e1
  have hpn : p ≤ n := by omega
  clear h hp
  go_enter Try.func109, Try.ntmps109
  go_wp2_with (go_at_call 175; refine (Len_walk _ _ _ _).mono ?_; rintro e w' ⟨rfl, rfl⟩)
  go_loopw [3] (fun i wr => ∃ k : Nat, k ≤ p ∧ i = .int .i64 ((k : Int) - 1) ∧ Hid (∃ l', HS B b g n cap l' wr ∧ l'.Perm l ∧ OnlyG g w wr)) (fun i _ => ((intOf i) + 1).toNat)
  case atStart => exact ⟨p, Nat.le_refl _, rfl, HR⟩
  case round =>
    obtain ⟨k, hk, rfl, HH⟩ := hrel
    obtain ⟨l', hs, hpm, ho⟩ := HH.out
    clear HH
    by_cases h1 : 0 < k
    · obtain ⟨j, rfl⟩ : ∃ j, k = j + 1 := ⟨k - 1, by omega⟩
      have e2 : ((j + 1 : Nat) : Int) - 1 = (j : Int) := by omega
      rw [e2]
      clear e2
      go_wp2_with fail
      refine (down_walk B b g n cap j n l' _ hs (Nat.le_refl _) (by omega) hn).mono ?_; rintro e w1 ⟨q, l1, rfl, hs1, hp1, _, ho1⟩
      go_wp2
      go_roundw
      case rel => exact ⟨j, by omega, rfl, Lib.hid ⟨l1, hs1, hp1.trans hpm, ho.trans ho1⟩⟩
      case measure => simp [intOf]
    · obtain rfl : k = 0 := by omega
      go_wp2
      exact bodyPost_end (v := .tuple #[]) (by simp [results, Try.results109, go_sem]) rfl ⟨l', rfl, hs, hpm, ho⟩
end Go.Proofs.Ytoeeceemoggffaa

namespace Go.Proofs.Ytoeeceemoggffaa
open Go.RowKit Go.Lib
set_option maxHeartbeats 3200000
set_option maxRecDepth 100000

theorem PopM_walk (B b g n cap : Nat) (l : List (Int × Int)) (x : Int × Int) (w : World) (h : HS B b g (n + 1) cap (l ++ [x]) w) (hn : n ≤ 1000000) (hf : w.frozen? ⟨b, 6, none⟩ = false) (hcap : n + 1 ≤ cap) :
    Calls Try.prog 178 #[.pointer (some ⟨b, 6, none⟩)] w fun e w' => e = .returned (.iface 113 (.agg #[.int .i64 x.1, .int .i64 x.2])) ∧ ∃ o k, w' = ((w.alloc o).setCell ⟨b, 6, none⟩ (.slice (some ⟨g, 0, none⟩) n cap)).drewN k := by
  have hl : n = l.length := by have := h.len; simp at this; omega
  obtain ⟨c0, c1⟩ := h.row.cells (i := n) (x := x) (by rw [hl]; simp)
  have c6 := h.at6
  have e1 : ((n + 1 : Nat) : Int) - 1 = (n : Int) := by omega
  have e2 : IntKind.i64.wrap (n : Int) = (n : Int) := by rw [IntKind.wrap_i64]; omega
  have hlt : (n : Int) < (n : Int) + 1 := by omega
  have bl : ∀ o, Below w.heap.size w (w.alloc o) := fun o => (Below.refl _ _).alloc (Nat.le_refl _) o
  have a6 : ∀ o, (w.alloc o).cell? ⟨b, 6, none⟩ = some (.slice (some ⟨g, 0, none⟩) (n + 1) cap) := fun o => ((bl o).cell (block_lt_of_cell c6)).trans c6
  have a0 : ∀ o, (w.alloc o).cell? ⟨g, n * 2, none⟩ = some (.int .i64 x.1) := fun o => ((bl o).cell (block_lt_of_cell c0)).trans c0
  have a1 : ∀ o, (w.alloc o).cell? ⟨g, n * 2 + 1, none⟩ = some (.int .i64 x.2) := fun o => ((bl o).cell (block_lt_of_cell c1)).trans c1
  have af : ∀ o, (w.alloc o).frozen? ⟨b, 6, none⟩ = false := fun o => ((bl o).frozen (block_lt_of_cell c6)).trans hf
  clear hl h bl
  go_enter Try.func178, Try.ntmps178
  go_wp2_with fail
  go_region
  all_goals go_wp2_with fail
  all_goals go_region
  all_goals go_wp2
  go_ret
  exact ⟨rfl, _, 2, rfl⟩

/-- the heap's cell b.6, the row g and new blocks have turned, nothing else -/
structure Only6 (b g : Nat) (w w' : World) : Prop where
  os : w'.os = w.os
  tape : w'.tape = w.tape
  output : w'.output = w.output
  size : w.heap.size ≤ w'.heap.size
  block : ∀ k, k < w.heap.size → k ≠ g → k ≠ b → w'.heap[k]? = w.heap[k]?
  cells : ∀ j, j ≠ 6 → w'.cell? ⟨b, j, none⟩ = w.cell? ⟨b, j, none⟩
  froz : b < w.heap.size → ∀ j, w'.frozen? ⟨b, j, none⟩ = w.frozen? ⟨b, j, none⟩
theorem OnlyG.six {b g : Nat} {w w' : World} (h : OnlyG g w w') (hne : b ≠ g) : Only6 b g w w' :=
  ⟨h.os, h.tape, h.output, by rw [h.size]; exact Nat.le_refl _, fun k _ hk _ => h.block k hk, fun j _ => h.cell hne, fun _ j => by
    unfold World.frozen?
    rw [h.block _ hne]⟩
theorem Only6.trans {b g : Nat} {a c d : World} (h : Only6 b g a c) (k : Only6 b g c d) : Only6 b g a d :=
  ⟨k.os.trans h.os, k.tape.trans h.tape, k.output.trans h.output, Nat.le_trans h.size k.size, fun i hi h1 h2 => (k.block i (Nat.lt_of_lt_of_le hi h.size) h1 h2).trans (h.block i hi h1 h2),
    fun j hj => (k.cells j hj).trans (h.cells j hj), fun hb j => (k.froz (Nat.lt_of_lt_of_le hb h.size) j).trans (h.froz hb j)⟩

theorem HS.popped {B b g n cap : Nat} {l : List (Int × Int)} {x : Int × Int} {w : World} (h : HS B b g (n + 1) cap (l ++ [x]) w) (o : Obj) (k : Nat) :
    HS B b g n cap l (((w.alloc o).setCell ⟨b, 6, none⟩ (.slice (some ⟨g, 0, none⟩) n cap)).drewN k) := by
  have hl : n = l.length := by have := h.len; simp at this; omega
  have r0 : w.ownsRow B 113 2 (.slice (some ⟨g, 0, none⟩) (n + 1) cap) (n + 1) (flatD l ++ flatD [x]) := by rw [← flatD_append]; exact h.row
  have r1 := ownsRow_pop (by rw [flatD_length, hl]) r0
  have r2 := r1.alloc o
  have r3 := ownsRow_setCell_other r2 (a := ⟨b, 6, none⟩) (by simp [Value.ownBlock]; exact fun e => h.ne e.symm) (.slice (some ⟨g, 0, none⟩) n cap)
  refine ⟨r3, ?_, hl, h.ne⟩
  have c : (w.alloc o).cell? ⟨b, 6, none⟩ = some (.slice (some ⟨g, 0, none⟩) (n + 1) cap) := (((Below.refl _ _).alloc (Nat.le_refl _) o).cell (block_lt_of_cell h.at6)).trans h.at6
  show ((w.alloc o).setCell ⟨b, 6, none⟩ _).cell? ⟨b, 6, none⟩ = _
  go_simp

theorem Only6.put (b g : Nat) (w : World) (o : Obj) (v : Value) (k : Nat) (hb : b < w.heap.size) : Only6 b g w (((w.alloc o).setCell ⟨b, 6, none⟩ v).drewN k) := by
  have bl : Below w.heap.size w (w.alloc o) := (Below.refl _ _).alloc (Nat.le_refl _) o
  refine ⟨rfl, rfl, rfl, ?_, fun i hi h1 h2 => ?_, fun j hj => ?_, fun _ j => ?_⟩
  · show w.heap.size ≤ ((w.alloc o).setCell ⟨b, 6, none⟩ v).heap.size
    simp [World.setCell]
  · show ((w.alloc o).setCell ⟨b, 6, none⟩ v).heap[i]? = _
    rw [Below.heap_setCell _ _ _ _ (by simpa using h2)]
    exact bl.block i hi
  · show ((w.alloc o).setCell ⟨b, 6, none⟩ v).cell? ⟨b, j, none⟩ = _
    have hne : (⟨b, 6, none⟩ : Addr) ≠ ⟨b, j, none⟩ := fun e => hj (Addr.mk.inj e).2.1.symm
    exact (World.cell?_setCell_other (h := hne) ..).trans (bl.cell hb)
  · show ((w.alloc o).setCell ⟨b, 6, none⟩ v).frozen? ⟨b, j, none⟩ = _
    simp only [World.frozen?_setCell]
    exact bl.frozen hb

/-- heap.Pop: the old first place goes; the others are put in another order -/
theorem HPop_walk (B b g n cap : Nat) (x : Int × Int) (l : List (Int × Int)) (w : World) (h : HS B b g (n + 1) cap (x :: l) w) (hn : n + 1 ≤ 1000000) (hf : w.frozen? ⟨b, 6, none⟩ = false) (hcap : n + 1 ≤ cap) :
    Calls Try.prog 110 #[hpV b] w fun e w' => ∃ v l', e = .returned v ∧ HS B b g n cap l' w' ∧ l'.Perm l ∧ Only6 b g w w' := by
  have hl : n = l.length := by have := h.len; simp at this; omega
  have m1 := at_Len h.at6
  have m2 := at_Swap h.at6
  have e1 : ((n + 1 : Nat) : Int) - 1 = (n : Int) := by omega
  have HL := Lib.hid hl
  clear hl
  go_enter Try.func110, Try.ntmps110
  go_wp2_with (go_at_call 175; refine (Len_walk _ _ _ _).mono ?_; rintro e w' ⟨rfl, rfl⟩)
  refine (h.swap _ _ 0 n (by omega) (by omega) (by omega) (by omega)).mono ?_; rintro e w1 ⟨rfl, x', y, hx, hy, hs1, ho1⟩
  go_wp2_with fail
  refine (down_walk B b g (n + 1) cap 0 n _ _ hs1 (by omega) (by omega) (by omega)).mono ?_; rintro e w2 ⟨q, l2, rfl, hs2, hp2, hd2, ho2⟩
  obtain rfl : x = x' := by simpa using hx
  have hl := HL.out
  have hlast : l2.drop n = [x] := by
    have hlen : n < (((x :: l).set 0 y).set n x).length := by simp; omega
    rw [hd2, List.drop_eq_getElem_cons hlen, List.getElem_set_self, List.drop_eq_nil_of_le (by simp; omega)]
  have hsplit : l2 = l2.take n ++ [x] := by rw [← hlast, List.take_append_drop]
  have hperm : (l2.take n).Perm l := by
    have q1 : (l2.take n ++ [x]).Perm (x :: l) := by rw [← hsplit]; exact hp2.trans (swap_perm hx hy)
    exact (List.perm_append_singleton x (l2.take n)).symm.trans q1 |>.cons_inv
  rw [hsplit] at hs2
  have o6 := (ho1.six h.ne).trans (ho2.six h.ne)
  have hb : b < w.heap.size := block_lt_of_cell h.at6
  have hf2 : w2.frozen? ⟨b, 6, none⟩ = false := (o6.froz hb 6).trans hf
  clear hl hlast hsplit hd2 hp2 hx hy HL
  generalize l2.take n = l3 at *
  go_wp2_with fail
  refine (PopM_walk B b g n cap l3 x w2 hs2 (by omega) hf2 hcap).mono ?_; rintro e w3 ⟨rfl, o, k, rfl⟩
  have hs3 := hs2.popped o k
  have o63 := o6.trans (Only6.put b g w2 o (.slice (some ⟨g, 0, none⟩) n cap) k (Nat.lt_of_lt_of_le hb o6.size))
  go_wp2
  go_ret
  exact ⟨_, l3, rfl, hs3, hperm, o63⟩
end Go.Proofs.Ytoeeceemoggffaa

namespace Go.Proofs.Ytoeeceemoggffaa
open Go.RowKit Go.Lib
set_option maxHeartbeats 3200000
set_option maxRecDepth 100000

theorem und121 : Try.prog.underlying 121 = some (.slice 113) := by kernel_rfl
theorem infoPlace : (Try.prog.info? 113).map (fun i => (i.zero, i.size, i.bytes)) = some (some (.agg #[.int .i64 0, .int .i64 0]), 2, 16) := by kernel_rfl
theorem assert_place (p q : Int) (w : World) : (Instr.typeAssert (.iface 113 (.agg #[.int .i64 p, .int .i64 q])) 20 113 true).run Try.prog w = .ok (.tuple #[.agg #[.int .i64 p, .int .i64 q], .bool true]) w := by kernel_rfl

theorem grown_froz {a w1 : World} {row : Option Nat} {b j : Nat} (h : a.grownBy w1 row) (hb : b < a.heap.size) (hne : row ≠ some b) : w1.frozen? ⟨b, j, none⟩ = a.frozen? ⟨b, j, none⟩ := by
  unfold World.frozen?
  rw [h.block b hb (by intro e; exact hne e.symm)]

/-- the heap's cell b.6, the row of the slice v and new blocks have turned, nothing else -/
structure OnlyV (b : Nat) (v : Value) (w w' : World) : Prop where
  os : w'.os = w.os
  tape : w'.tape = w.tape
  output : w'.output = w.output
  size : w.heap.size ≤ w'.heap.size
  block : ∀ k, k < w.heap.size → v.ownBlock ≠ some k → k ≠ b → w'.heap[k]? = w.heap[k]?
  cells : ∀ j, j ≠ 6 → w'.cell? ⟨b, j, none⟩ = w.cell? ⟨b, j, none⟩
  froz : b < w.heap.size → ∀ j, w'.frozen? ⟨b, j, none⟩ = w.frozen? ⟨b, j, none⟩
theorem OnlyV.of6 {b g n cap : Nat} {w w' : World} (h : Only6 b g w w') : OnlyV b (.slice (some ⟨g, 0, none⟩) n cap) w w' :=
  ⟨h.os, h.tape, h.output, h.size, fun k hk h1 h2 => h.block k hk (fun e => h1 (by rw [e]; rfl)) h2, h.cells, h.froz⟩
theorem OnlyV.trans {b : Nat} {v v' : Value} {a c d : World} (h : OnlyV b v a c) (k : OnlyV b v' c d) (hv : ∀ g, v'.ownBlock = some g → v.ownBlock = some g ∨ a.heap.size ≤ g) : OnlyV b v a d :=
  ⟨k.os.trans h.os, k.tape.trans h.tape, k.output.trans h.output, Nat.le_trans h.size k.size, fun i hi h1 h2 => (k.block i (Nat.lt_of_lt_of_le hi h.size) (fun e => by
      rcases hv i e with h3 | h3
      · exact h1 h3
      · omega) h2).trans (h.block i hi h1 h2),
    fun j hj => (k.cells j hj).trans (h.cells j hj), fun hb j => (k.froz (Nat.lt_of_lt_of_le hb h.size) j).trans (h.froz hb j)⟩
theorem OnlyV.pushed {b : Nat} {v u : Value} {w a w1 : World} (h : Below w.heap.size w a) (hg : a.grownBy w1 v.ownBlock) (hb : b < w.heap.size) (hne : v.ownBlock ≠ some b) : OnlyV b v w (w1.setCell ⟨b, 6, none⟩ u) := by
  have e1 : ∀ k, k < w.heap.size → v.ownBlock ≠ some k → w1.heap[k]? = w.heap[k]? := fun k hk h1 => (hg.block k (Nat.lt_of_lt_of_le hk h.size) (fun e => h1 e.symm)).trans (h.block k hk)
  refine ⟨hg.os.trans h.os, hg.tape.trans h.tape, hg.output.trans h.output, ?_, fun k hk h1 h2 => ?_, fun j hj => ?_, fun _ j => ?_⟩
  · have := hg.size
    have := h.size
    simp only [World.setCell, Array.size_modify]
    omega
  · rw [Below.heap_setCell _ _ _ _ (by simpa using h2)]
    exact e1 k hk h1
  · have hj' : (⟨b, 6, none⟩ : Addr) ≠ ⟨b, j, none⟩ := fun e => hj (Addr.mk.inj e).2.1.symm
    rw [World.cell?_setCell_other (h := hj')]
    exact World.cell?_of_block (e1 b hb hne)
  · simp only [World.frozen?_setCell]
    exact World.frozen?_of_block (e1 b hb hne)

theorem PushM_walk (b n : Nat) (v : Value) (l : List (Int × Int)) (x : Int × Int) (w : World) (c6 : w.cell? ⟨b, 6, none⟩ = some v) (hrow : w.ownsRow 0 113 2 v n (flatD l)) (hlen : n = l.length) (hne : v.ownBlock ≠ some b)
    (hn : n ≤ 1000000) (hf : w.frozen? ⟨b, 6, none⟩ = false) :
    Calls Try.prog 179 #[.pointer (some ⟨b, 6, none⟩), .iface 113 (.agg #[.int .i64 x.1, .int .i64 x.2])] w fun e w' => e = .returned (.tuple #[]) ∧ ∃ g cap, HS 0 b g (n + 1) cap (l ++ [x]) w' ∧ OnlyV b v w w' ∧ (v.ownBlock = some g ∨ w.heap.size ≤ g) := by
  have bl : ∀ o, Below w.heap.size w (w.alloc o) := fun o => (Below.refl _ _).alloc (Nat.le_refl _) o
  have a6 : ∀ o, (w.alloc o).cell? ⟨b, 6, none⟩ = some v := fun o => ((bl o).cell (block_lt_of_cell c6)).trans c6
  have af : ∀ o, (w.alloc o).frozen? ⟨b, 6, none⟩ = false := fun o => ((bl o).frozen (block_lt_of_cell c6)).trans hf
  have ta := fun w => assert_place x.1 x.2 w
  obtain ⟨i0, hi, hzz⟩ := Option.map_eq_some_iff.1 infoPlace
  simp only [Prod.mk.injEq] at hzz
  obtain ⟨hz0, hz1, hz2⟩ := hzz
  obtain ⟨W, hW⟩ : ∃ W, W = w.alloc (.cells #[.int .i64 x.1, .int .i64 x.2] 113) := ⟨_, rfl⟩
  have w6 : W.cell? ⟨b, 6, none⟩ = some v := by rw [hW]; exact a6 _
  have wf6 : W.frozen? ⟨b, 6, none⟩ = false := by rw [hW]; exact af _
  have wx : ∀ j, W.cell? ⟨w.heap.size, j, none⟩ = #[Value.int .i64 x.1, Value.int .i64 x.2][j]? := fun j => by rw [hW]; exact new_cell w _ _ j
  have wx0 := wx 0
  have wx1 := wx 1
  have ws : W.heap.size = w.heap.size + 1 := by rw [hW]; simp
  have wo : W.ownsRow 0 113 2 v n (flatD l) := by rw [hW]; exact World.ownsRow.alloc hrow _
  have HWB : Hid (Below w.heap.size w W) := Lib.hid (by rw [hW]; exact bl _)
  have hbl : b < w.heap.size := block_lt_of_cell c6
  have bl2 : ∀ o, Below W.heap.size W (W.alloc o) := fun o => (Below.refl _ _).alloc (Nat.le_refl _) o
  have HW := Lib.hid hW
  have n1 : n + 1 ≤ maxLen := by unfold maxLen; omega
  have n2 : (n + 1) * 16 ≤ 140737488355328 := by omega
  have HO := Lib.hid wo
  have HS0 := Lib.hid ws
  have HR := Lib.hid hrow
  have HN := Lib.hid hne
  have HL := Lib.hid hlen
  clear wx a6 af bl wo ws hrow hne hlen
  go_enter Try.func179, Try.ntmps179
  go_upto_region 2 with fail
  rw [← hW]
  clear hW
  have wo2 : ∀ o, (W.alloc o).ownsRow 0 113 2 v n (flatD l) := fun o => HO.out.alloc o
  have nb : ∀ j u, [Value.int .i64 x.1, Value.int .i64 x.2][j]? = some u → (W.alloc (.cells #[.int .i64 x.1, .int .i64 x.2] 113)).cell? ⟨w.heap.size + 1, j, none⟩ = some u := fun j u hj => by
    rw [← HS0.out, new_cell]; simpa using hj
  have HNB := Lib.hid nb
  have HW2 := Lib.hid wo2
  have v6 : ∀ o, (W.alloc o).cell? ⟨b, 6, none⟩ = some v := fun o => ((bl2 o).cell (block_lt_of_cell w6)).trans w6
  have v0 : ∀ o, (W.alloc o).cell? ⟨w.heap.size, 0, none⟩ = some (.int .i64 x.1) := fun o => ((bl2 o).cell (block_lt_of_cell wx0)).trans wx0
  have v1 : ∀ o, (W.alloc o).cell? ⟨w.heap.size, 1, none⟩ = some (.int .i64 x.2) := fun o => ((bl2 o).cell (block_lt_of_cell wx1)).trans wx1
  clear nb wo2
  go_region_law (refine step_append_lies _ (by rfl) _ _ _ (by rfl) 0 113 i0 _ 2 16 und121 hi hz0 hz1 hz2 rfl (by omega) v n (flatD l) (by simp [Act.eval]) (HW2.out _).drew ⟨w.heap.size + 1, 0, none⟩ 1 1 [.int .i64 x.1, .int .i64 x.2] (by simp [Act.eval, HS0.out]) (by rfl) (fun j u hj => by rw [Go.WideShapes.add_plain, Nat.zero_add]; exact HNB.out j u hj) (by intro u hu; simp at hu; rcases hu with rfl | rfl <;> rfl) (by decide) n1 n2 (by simp [HS0.out]) (w.heap.size + 1 + 1) (by simp [HS0.out]) ?_; intro gg cap' w1 hown1 hgrow hat hlt; have y6 : w1.frozen? ⟨b, 6, none⟩ = false := (grown_froz hgrow (by simp [HS0.out] <;> omega) HN.out).trans ((((bl2 _).drew).frozen (by simp [HS0.out]; omega)).trans wf6); have z6 : w1.cell? ⟨b, 6, none⟩ = some v := (hgrow.cell_far _ (by simp [HS0.out] <;> omega) (fun e => HN.out e.symm)).trans ((((bl2 _).drew).cell (by simp [HS0.out]; omega)).trans w6))
  all_goals (have hbg : b ≠ gg := fun e => hat.elim (fun h1 => HN.out (by rw [h1, e])) (fun h1 => by omega))
  all_goals (have hB : Below w.heap.size w ((W.alloc (.cells #[.int .i64 x.1, .int .i64 x.2] 113)).drew) := HWB.out.trans (((bl2 _).mono (by rw [HS0.out]; omega)).drew))
  all_goals (have hs' : HS 0 b gg (n + 1) cap' (l ++ [x]) (w1.setCell ⟨b, 6, none⟩ (.slice (some ⟨gg, 0, none⟩) (n + 1) cap')) := ⟨by unfold PRow; rw [flatD_append]; exact ownsRow_setCell_other hown1 (by simp [Value.ownBlock]; exact fun e => hbg e.symm) _, World.cell?_setCell_same _ _ _ z6, by simp [HL.out], hbg⟩)
  all_goals (have ho' : OnlyV b v w (w1.setCell ⟨b, 6, none⟩ (.slice (some ⟨gg, 0, none⟩) (n + 1) cap')) := OnlyV.pushed hB hgrow hbl HN.out)
  all_goals exact bodyPost_end (v := .tuple #[]) (by simp [results, Try.results179, go_sem]) rfl ⟨rfl, gg, cap', hs', ho', hat.elim (fun h1 => .inl h1) (fun h1 => .inr (by omega))⟩

/-- heap.Push: the place is put among the others, in some order -/
theorem HPush_walk (b n : Nat) (v : Value) (l : List (Int × Int)) (x : Int × Int) (w : World) (c6 : w.cell? ⟨b, 6, none⟩ = some v) (hrow : w.ownsRow 0 113 2 v n (flatD l)) (hlen : n = l.length) (hne : v.ownBlock ≠ some b)
    (hn : n + 1 ≤ 1000000) (hf : w.frozen? ⟨b, 6, none⟩ = false) :
    Calls Try.prog 111 #[hpV b, .iface 113 (.agg #[.int .i64 x.1, .int .i64 x.2])] w fun e w' => e = .returned (.tuple #[]) ∧ ∃ g cap l', HS 0 b g (n + 1) cap l' w' ∧ l'.Perm (l ++ [x]) ∧ OnlyV b v w w' ∧ (v.ownBlock = some g ∨ w.heap.size ≤ g) := by
  have e1 : ((n + 1 : Nat) : Int) - 1 = (n : Int) := by omega
  have HR := Lib.hid hrow
  have HN := Lib.hid hne
  have HL := Lib.hid hlen
  clear hrow hne hlen
  go_enter Try.func111, Try.ntmps111
  go_wp2_with fail
  refine (PushM_walk b n v l x w c6 HR.out HL.out HN.out (by omega) hf).mono ?_; rintro e w1 ⟨rfl, g, cap, hs, ho, hat⟩
  have m1 := at_Len hs.at6
  go_wp2_with (go_at_call 175; refine (Len_walk _ _ _ _).mono ?_; rintro e w' ⟨rfl, rfl⟩)
  refine (up_walk 0 b g (n + 1) cap n _ _ hs (by omega) (by omega)).mono ?_; rintro e w2 ⟨l', rfl, hs2, hp, ho2⟩
  have ho3 := ho.trans (OnlyV.of6 (n := n + 1) (cap := cap) (ho2.six hs.ne)) (fun g' e => by
    obtain rfl : g = g' := by simpa [Value.ownBlock] using e
    exact hat)
  go_wp2
  exact bodyPost_end (v := .tuple #[]) (by simp [results, Try.results111, go_sem]) rfl ⟨rfl, g, cap, l', hs2, hp, ho3, hat⟩
end Go.Proofs.Ytoeeceemoggffaa
