/- GhostOrders: the walk. -/
import Derived.Test.YtoeeceemoggffaaOp
import Derived.Test.YtoeeceemoggffaaCo
import Derived.Test.YtoeeceemoggffaaA13
import Derived.Test.YtoeeceemoggffaaAp
namespace Go.Proofs.Ytoeeceemoggffaa
open Go.RowKit
set_option maxHeartbeats 1600000
set_option maxRecDepth 100000

theorem drop_rev {ds : List (Int × Int)} {m : Nat} {d : Int × Int} (h : ds[m]? = some d) : (ds.drop m).reverse = (ds.drop (m + 1)).reverse ++ [d] := by
  obtain ⟨hi, rfl⟩ := List.getElem?_eq_some_iff.1 h
  rw [List.drop_eq_getElem_cons hi, List.reverse_cons]

theorem dirs_one (w : World) (p q : Int) (hp : I64 p) (hq : I64 q) : Dirs (w.alloc (.cells #[.int .i64 p, .int .i64 q] 51)) (some ⟨w.heap.size, 0, none⟩) [(p, q)] := by
  refine ⟨fun i d hi => ?_, fun d hd => ?_, by simp⟩
  · match i, hi with
    | 0, hi =>
      obtain rfl : (p, q) = d := by simpa using hi
      exact ⟨w.heap.size, 0, rfl, by simp, new_cell _ _ _ 0, new_cell _ _ _ 1⟩
  · obtain rfl : d = (p, q) := by simpa using hd
    exact ⟨hp, hq⟩

/-- every block but two is as it was -/
structure Apart (w w' : World) (g a : Nat) : Prop where
  size : w.heap.size ≤ w'.heap.size
  block : ∀ k, k < w.heap.size → k ≠ g → k ≠ a → w'.heap[k]? = w.heap[k]?
theorem Apart.cell {w w' : World} {g a : Nat} (h : Apart w w' g a) {b j : Nat} {u : Value} (hb : b < w.heap.size) (h1 : b ≠ g) (h2 : b ≠ a) (hc : w.cell? ⟨b, j, none⟩ = some u) : w'.cell? ⟨b, j, none⟩ = some u :=
  (World.cell?_of_block (a := ⟨b, j, none⟩) (h.block b hb h1 h2)).trans hc
theorem Apart.three {w w' : World} {g a : Nat} (h : Apart w w' g a) {b : Nat} {x y z : Value} (t : Three b x y z w) (h1 : b ≠ g) (h2 : b ≠ a) : Three b x y z w' :=
  have e := h.block b t.lt h1 h2
  ⟨Nat.lt_of_lt_of_le t.lt h.size, (World.cell?_of_block (a := ⟨b, 0, none⟩) e).trans t.c0, (World.cell?_of_block (a := ⟨b, 1, none⟩) e).trans t.c1, (World.cell?_of_block (a := ⟨b, 2, none⟩) e).trans t.c2,
    (World.frozen?_of_block (a := ⟨b, 0, none⟩) e).trans t.f0, (World.frozen?_of_block (a := ⟨b, 1, none⟩) e).trans t.f1, (World.frozen?_of_block (a := ⟨b, 2, none⟩) e).trans t.f2⟩
theorem apart_of {w wr w6 : World} {g a : Nat} {o : Obj} {u : Value} (h1 : w.grownBy wr (some g)) (h2 : (wr.alloc o).grownBy w6 (some g)) : Apart w (w6.setCell ⟨a, 2, none⟩ u) g a := by
  refine ⟨?_, fun k hk hg ha => ?_⟩
  · have e1 := h1.size
    have e2 := h2.size
    simp [World.setCell] at e2 ⊢
    omega
  · have e1 := h1.size
    rw [Below.heap_setCell _ _ _ _ ha, h2.block k (by simp; omega) (by simpa using hg), Below.heap_alloc _ _ _ (by omega), h1.block k hk (by simpa using hg)]
theorem Three.set2 {b : Nat} {x y z : Value} {w : World} (h : Three b x y z w) (t : Value) : Three b x y t (w.setCell ⟨b, 2, none⟩ t) := by
  obtain ⟨h1, h2, h3, h4, h5, h6, h7⟩ := h
  refine ⟨by simpa [World.setCell] using h1, ?_, ?_, ?_, ?_, ?_, ?_⟩ <;> simp [go_sem, h2, h3, h4, h5, h6, h7]

theorem GhostOrders_walk (A : Option Addr) (cap : Nat) (ds : List (Int × Int)) (w : World) (hD : Dirs w A ds) (hcap : ds.length ≤ cap) (_hnil : A = none → cap = 0) (h16 : ds.length * 16 ≤ 140737488355328) :
    Calls Try.prog 9 #[.slice A ds.length cap] w fun e w' => e = .returned (.bool true) ∧ Below w.heap.size w w' := by
  have C0 := Lib.hid (alive13_walk w)
  have HD := Lib.hid hD
  have HI := Lib.hid hD.i64
  have HLn := Lib.hid hD.len
  have H16 := Lib.hid h16
  have hlen := hD.len
  obtain ⟨N, hNl⟩ : ∃ N, N = ds.length := ⟨_, rfl⟩
  have hIr : ∀ d ∈ ds.reverse, I64 d.1 ∧ I64 d.2 := fun d h => hD.i64 d (by simpa using h)
  have hLr : ds.reverse.length ≤ 17592186044416 := by rw [List.length_reverse]; exact hD.len
  have M1 := Lib.hid (fun A cap w hD hcap => Make_no A cap ds w hD hcap)
  have Y1 := Lib.hid (fun A cap w hD hcap => Make_yes A cap ds w hD hcap)
  have M2 := Lib.hid (fun A cap w hD hcap => Make_no A cap ds.reverse w hD hcap)
  have Y2 := Lib.hid (fun A cap w hD hcap => Make_yes A cap ds.reverse w hD hcap)
  rw [List.length_reverse] at M2 Y2
  have hrev := mkErr_reverse ds
  unfold GivesGhost at Y1 Y2
  rw [wN_reverse, hN_reverse, gh_reverse] at Y2
  have hwm : mkErr ds = 0 → 1 ≤ wN ds * hN ds ∧ wN ds * hN ds ≤ 4096 := by
    intro h
    obtain ⟨_, ht, hX, hY⟩ := mkErr_zero h
    have h1 := mw_pos ds
    have h2 := mh_pos (twiceFrom_ok ds [] ht)
    have : wN ds * hN ds ≤ 64 * 64 := Nat.mul_le_mul (by unfold wN; omega) (by unfold hN; omega)
    have : 1 * 1 ≤ wN ds * hN ds := Nat.mul_le_mul (by unfold wN; omega) (by unfold hN; omega)
    omega
  rw [← hNl] at M1 M2 Y1 Y2 hcap hlen ⊢
  have HNe := Lib.hid hNl
  have HIr := Lib.hid hIr
  have HLr := Lib.hid hLr
  clear h16 hD hNl hIr hLr
  generalize hme : mkErr ds = me at M1 Y1 hrev hwm
  generalize hmr : mkErr ds.reverse = mr at M2 Y2 hrev
  clear hme hmr
  by_cases he : me = 0
  · subst he
    have hmn : mr = 0 := hrev.2 rfl
    subst hmn
    obtain ⟨hM1, hM2⟩ := hwm rfl
    have hcl := cellsG_length (gh ds) (wN ds) (wN ds * hN ds)
    generalize cellsG (gh ds) (wN ds) (wN ds * hN ds) = cl at *
    generalize wN ds * hN ds = M at *
    generalize wN ds = X at *
    generalize hN ds = Y at *
    have Z1 := Lib.hid (fun A cap w hD hcap => Y1.out A cap w hD hcap rfl)
    have Z2 := Lib.hid (fun A cap w hD hcap => Y2.out A cap w hD hcap rfl)
    have HCl := Lib.hid hcl
    clear M1 M2 hwm hrev hcl Y1 Y2
    go_enter Try.func9, Try.ntmps9
    go_wp2_with fail
    refine C0.out.mono ?_; rintro e w1 ⟨rfl, hb1⟩
    have HB1 := Lib.hid hb1
    clear hb1
    go_wp2_with fail
    refine (Z1.out _ _ _ (HD.out.later HB1.out) hcap).mono ?_; rintro e w2 ⟨g1, rfl, ho1⟩
    have HB2 := Lib.hid (HB1.out.trans (ho1.below.mono HB1.out.size))
    have HB2a := Lib.hid (HB2.out.alloc HB2.out.size (.cells #[.int .i64 X, .int .i64 Y, .slice (some ⟨g1, 0, none⟩) M M] 44))
    have TA := Lib.hid (Three.made w2 44 (.int .i64 X) (.int .i64 Y) (.slice (some ⟨g1, 0, none⟩) M M))
    have O1 := Lib.hid (ho1.later ((Below.refl w2.heap.size w2).alloc (Nat.le_refl _) (.cells #[.int .i64 X, .int .i64 Y, .slice (some ⟨g1, 0, none⟩) M M] 44)) (Nat.le_refl _))
    have hg1 := ho1.lt.2
    clear ho1
    obtain ⟨Wa, hWa⟩ : ∃ Wa, Wa = w2.alloc (.cells #[.int .i64 X, .int .i64 Y, .slice (some ⟨g1, 0, none⟩) M M] 44) := ⟨_, rfl⟩
    have hsa : Wa.heap.size = w2.heap.size + 1 := by rw [hWa]; simp
    have HSa := Lib.hid hsa
    clear hsa
    go_wp2
    rw [← hWa]
    rw [← hWa] at HB2a TA O1
    clear hWa
    go_loopw [5, 6] (fun l i wr => ∃ (r : Nat) (x : Int) (v : Value), r ≤ N ∧ i = .int .i64 x ∧ x = (r : Int) - 1 ∧ l = v ∧ wr.ownsRow Wa.heap.size 51 2 v (N - r) (flatD (ds.drop r).reverse) ∧ Below Wa.heap.size Wa wr) (fun _ i _ => (intOf i + 1).toNat)
    case atStart =>
      refine ⟨N, _, _, Nat.le_refl _, rfl, rfl, rfl, ?_, Below.refl _ _⟩
      rw [HNe.out, List.drop_length, Nat.sub_self]
      exact World.ownsRow_nil _ _ _ _
    case round =>
      obtain ⟨r, x, v, hr, rfl, hx, rfl, ho, hb⟩ := hrel
      have HO := Lib.hid ho
      have HB := Lib.hid hb
      clear ho hb
      cases r with
      | zero =>
        obtain rfl : x = -1 := by omega
        have ho := HO.out
        rw [Nat.sub_zero, List.drop_zero] at ho
        obtain ⟨hnn, A1, cap1, rfl, hcap1, hD1, _⟩ := dirs_of_row ho HIr.out HLr.out
        clear hnn
        have HD1 := Lib.hid hD1
        have HBw := Lib.hid (HB2a.out.trans (HB.out.mono HB2a.out.size))
        have TAr := Lib.hid (TA.out.later HB.out TA.out.lt)
        have O1r := Lib.hid (O1.out.later HB.out (Nat.le_refl _))
        have z1 := HB.out.size
        clear ho hD1 hx
        go_wp2_with fail
        refine (Z2.out _ _ _ HD1.out hcap1).mono ?_; rintro e w3 ⟨g2, rfl, ho2⟩
        have hb3 := ho2.below
        have z2 := hb3.size
        have hg2 := ho2.lt
        have hba3 := (Below.refl w3.heap.size w3).alloc (Nat.le_refl _) (.cells #[.int .i64 X, .int .i64 Y, .slice (some ⟨g2, 0, none⟩) M M] 44)
        have HB3a := Lib.hid ((HBw.out.trans (hb3.mono HBw.out.size)).trans (hba3.mono (by have := HBw.out.size; omega)))
        have ta := (TAr.out.later hb3 TAr.out.lt).later hba3 (by have := TAr.out.lt; omega)
        have tb := Three.made w3 44 (.int .i64 X) (.int .i64 Y) (.slice (some ⟨g2, 0, none⟩) M M)
        have O1b := Lib.hid ((O1r.out.later hb3 (Nat.le_refl _)).later hba3 (Nat.le_refl _))
        have O2b := Lib.hid (ho2.later hba3 (Nat.le_refl _))
        have TAb := Lib.hid ta
        have TBb := Lib.hid tb
        obtain ⟨_, ta0, ta1, ta2, _, _, _⟩ := ta
        obtain ⟨_, tb0, tb1, tb2, _, _, _⟩ := tb
        have HSm := Lib.hid (rSame13_refl X Y M g1 g2 M M cl _ HCl.out.symm (fun j a h => O1b.out.cell (by rw [List.getElem?_map, h]; rfl)) (fun j a h => O2b.out.cell (by rw [List.getElem?_map, h]; rfl)) (by omega) O1b.out.lt.2 O2b.out.lt.2)
        clear ho2 hb3 hba3
        go_wp2_with fail
        refine HSm.out.mono ?_; rintro e w4 ⟨rfl, hb4⟩
        have z3 := hb4.size
        rw [new_size] at z3
        have HB4 := Lib.hid (HB3a.out.trans (hb4.mono HB3a.out.size))
        have O1c := Lib.hid (O1b.out.later hb4 (Nat.le_refl _))
        have O2c := Lib.hid (O2b.out.later hb4 (Nat.le_refl _))
        have ta := TAb.out.later hb4 TAb.out.lt
        have tb := TBb.out.later hb4 TBb.out.lt
        have TAc := Lib.hid ta
        have TBc := Lib.hid tb
        clear ta0 ta1 ta2 tb0 tb1 tb2 hb4 HSm
        obtain ⟨_, tb0, tb1, tb2, _, _, _⟩ := tb
        have HCp := Lib.hid (rCopy13_walk X Y M g2 M (cl.map cv) w4 (by rw [List.length_map]; exact HCl.out) (by omega) (by omega) O2c.out.lt.2 (fun j u h => O2c.out.cell h) (by intro u hu; obtain ⟨x, _, rfl⟩ := List.mem_map.1 hu; rfl))
        clear ta
        go_wp2_with fail
        refine HCp.out.mono ?_; rintro e w5 ⟨g3, cap3, rfl, ho3⟩
        have hb5 := ho3.below
        have z4 := hb5.size
        have hg3 := ho3.lt
        have hba5 := (Below.refl w5.heap.size w5).alloc (Nat.le_refl _) (.cells #[.int .i64 X, .int .i64 Y, .slice (some ⟨g3, 0, none⟩) M cap3] 44)
        have HB5 := Lib.hid ((HB4.out.trans (hb5.mono HB4.out.size)).trans (hba5.mono (by have := HB4.out.size; omega)))
        have O1d := Lib.hid ((O1c.out.later hb5 (Nat.le_refl _)).later hba5 (Nat.le_refl _))
        have O2d := Lib.hid ((O2c.out.later hb5 (Nat.le_refl _)).later hba5 (Nat.le_refl _))
        have O3d := Lib.hid (ho3.later hba5 (Nat.le_refl _))
        have TAd := Lib.hid ((TAc.out.later hb5 TAc.out.lt).later hba5 (by have := TAc.out.lt; omega))
        have TBd := Lib.hid ((TBc.out.later hb5 TBc.out.lt).later hba5 (by have := TBc.out.lt; omega))
        have TKd := Lib.hid (Three.made w5 44 (.int .i64 X) (.int .i64 Y) (.slice (some ⟨g3, 0, none⟩) M cap3))
        obtain ⟨W5, hW5⟩ : ∃ W5, W5 = w5.alloc (.cells #[.int .i64 X, .int .i64 Y, .slice (some ⟨g3, 0, none⟩) M cap3] 44) := ⟨_, rfl⟩
        have hs5 : W5.heap.size = w5.heap.size + 1 := by rw [hW5]; simp
        have HS5 := Lib.hid hs5
        clear hb5 hba5 ho3 tb0 tb1 tb2 hs5
        go_wp2
        rw [← hW5]
        rw [← hW5] at HB5 O1d O2d O3d TAd TBd TKd
        clear hW5
        go_loopw [10] (fun i wr => ∃ (j : Nat) (xs : List Value), j ≤ M ∧ i = .int .i64 j ∧ xs.length = M ∧ W5.grownBy wr (some g1) ∧ Own w1.heap.size 23 w1 wr (.slice (some ⟨g1, 0, none⟩) M M) xs) (fun i _ => M - (intOf i).toNat)
        case atStart => exact ⟨0, _, Nat.zero_le _, rfl, by rw [List.length_map]; exact HCl.out, World.grownBy.refl _ _, O1d.out⟩
        case round =>
          obtain ⟨j, xs, hj, rfl, hxs, hgr, hown⟩ := hrel
          have HXs := Lib.hid hxs
          have HGr := Lib.hid hgr
          have HOw := Lib.hid hown
          have hga : w2.heap.size ≠ g1 := by omega
          have ta := TAd.out.grown hgr hga
          have TAe := Lib.hid ta
          clear hxs hgr hown
          obtain ⟨_, ta0, ta1, ta2, ta3, ta4, ta5⟩ := ta
          by_cases hlj : j < M
          · obtain ⟨u, hu⟩ : ∃ u, xs[j]? = some u := ⟨_, List.getElem?_eq_getElem (by rw [HXs.out]; exact hlj)⟩
            have cj := HOw.out.cell hu
            have fj := HOw.out.free HXs.out.symm j
            clear hu
            go_wp2
            go_roundw
            case rel => exact ⟨j + 1, xs.set j (.complex .f64 4636666922610458624 0), by omega, by go_num, by rw [List.length_set]; exact HXs.out, grown_store HGr.out (Drawn.refl _) j _, HOw.out.stored HXs.out.symm j _⟩
            case measure => simp [intOf]; omega
          · obtain rfl : j = M := by omega
            obtain ⟨i0, hi0, hz0, hz1, hz2⟩ := info_parts infoC
            have hsr := HGr.out.size
            have n1 : j + 1 ≤ maxLen := by unfold maxLen; omega
            have n2 : (j + 1) * 16 ≤ 140737488355328 := by omega
            have hown : wr.ownsRow w1.heap.size 23 1 (.slice (some ⟨g1, 0, none⟩) j j) j xs := by
              have := HOw.out.own
              rw [HXs.out] at this
              exact this
            have HOn := Lib.hid hown
            have hbr := HOw.out.base
            have qf : (FloatKind.f64.format.order 4613937818241073152 4613937818241073152 == some Ordering.eq) = true := by decide +kernel
            have qz : (FloatKind.f64.format.order 0 0 == some Ordering.eq) = true := by decide +kernel
            clear hown
            go_wp2_with (at_builtin; refine wpList_append_lies _ (by rfl) (.tmp 68) (.tmp 69) _ (by rfl) w1.heap.size 23 i0 _ 1 16 Try.underlying37 hi0 hz0 hz1 hz2 rfl (by omega) (.slice (some ⟨g1, 0, none⟩) j j) j xs (by rfl) (HOn.out.alloc _) ⟨wr.heap.size, 0, none⟩ 1 1 [.complex .f64 4613937818241073152 0] (by rfl) (by rfl) (one_new wr _ _) (by simp [Value.oneCell']) (by omega) n1 n2 (by simp; omega) (wr.heap.size + 1) (by simp) ?c6)
            case c6 =>
              intro gg cap6 w6 hown6 hgrow6 hat6 hlt6
              have s5 := HS5.out
              have sa := HSa.out
              have hlw := HOw.out.lt.1
              have hb6 := ((HB5.out.grown HGr.out HB5.out.size (by intro k hk; simp at hk; have := HB1.out.size; omega)).alloc (by have := HB5.out.size; omega) (.cells #[.complex .f64 4613937818241073152 0] 23)).grown hgrow6 (by have := HB5.out.size; simp; omega) (by intro k hk; simp [Value.ownBlock] at hk; have := HB1.out.size; omega)
              have HB6 := Lib.hid hb6
              clear hb6
              have ap := fun u => apart_of (a := w2.heap.size) (u := u) HGr.out hgrow6
              have x0 := ((TAe.out.alloc (.cells #[.complex .f64 4613937818241073152 0] 23)).grown hgrow6 (by omega))
              have X0 := Lib.hid x0
              have HAp := Lib.hid ap
              have hgg : gg = g1 ∨ gg = wr.heap.size + 1 := by
                rcases hat6 with h | h
                · left; simpa [Value.ownBlock] using h.symm
                · right; exact h
              have hxl := HXs.out
              have hc3 : w6.cell? ⟨gg, j, none⟩ = some (.complex .f64 4613937818241073152 0) := by
                have := hown6.cells (g := gg) rfl j (.complex .f64 4613937818241073152 0) (by rw [List.getElem?_append_right (by omega), hxl, Nat.sub_self]; rfl)
                rw [Go.WideShapes.add_plain, Nat.zero_add] at this
                exact this
              have HC3 := Lib.hid hc3
              have HO6 := Lib.hid hown6
              clear ta0 ta1 ta2 ta3 ta4 ta5 ap hc3 hown6 hgrow6 hat6 hxl
              obtain ⟨_, y0, y1, y2, y3, y4, y5⟩ := x0
              have z7 := hlt6
              obtain ⟨W7, hW7⟩ : ∃ W7, W7 = w6.setCell ⟨w2.heap.size, 2, none⟩ (.slice (some ⟨gg, 0, none⟩) (j + 1) cap6) := ⟨_, rfl⟩
              have HAp7 := Lib.hid (HAp.out (.slice (some ⟨gg, 0, none⟩) (j + 1) cap6))
              have TA7 := Lib.hid (X0.out.set2 (.slice (some ⟨gg, 0, none⟩) (j + 1) cap6))
              have hs7 : W7.heap.size = w6.heap.size := by rw [hW7]; simp [World.setCell]
              have HC7 : W7.cell? ⟨gg, j, none⟩ = some (.complex .f64 4613937818241073152 0) := by
                rw [hW7]
                exact (World.cell?_of_block (a := ⟨gg, j, none⟩) (Below.heap_setCell _ _ _ _ (by show gg ≠ w2.heap.size; rcases hgg with h | h <;> omega))).trans HC3.out
              have HC7 := Lib.hid HC7
              go_wp2_with fail
              have hO2c := fun i u (h : (cl.map cv)[i]? = some u) => HAp7.out.cell (j := i) O2d.out.lt.2 (by omega) (by omega) (O2d.out.cell h)
              have hO3c := fun i u (h : (cl.map cv)[i]? = some u) => HAp7.out.cell (j := i) O3d.out.lt.2 (by omega) (by omega) (O3d.out.cell h)
              have hTB7 := HAp7.out.three TBd.out (by omega) (by omega)
              have hTK7 := HAp7.out.three TKd.out (by omega) (by omega)
              have hB7 : Below w.heap.size w W7 := by rw [hW7]; exact HB6.out.setCell (by have := HB1.out.size; show w.heap.size ≤ w2.heap.size; omega) _
              have hz7 := HAp7.out.size
              rw [← hW7] at TA7 hO2c hO3c hTB7 hTK7 hz7 ⊢
              have H2c := Lib.hid hO2c
              have H3c := Lib.hid hO3c
              have HTB7 := Lib.hid hTB7
              have HTK7 := Lib.hid hTK7
              have HB7 := Lib.hid hB7
              clear hW7 hO2c hO3c hTB7 hTK7 hB7 y0 y1 y2 y3 y4 y5 HAp HAp7 X0 HB6
              have hb25 := O2d.out.lt
              have hb35 := O3d.out.lt
              refine (Z1.out _ _ _ (HD.out.later HB7.out) hcap).mono ?_; rintro e w8 ⟨g4, rfl, ho4⟩
              have hb8 := ho4.below
              have z8 := hb8.size
              have hba8 := (Below.refl w8.heap.size w8).alloc (Nat.le_refl _) (.cells #[.int .i64 X, .int .i64 Y, .slice (some ⟨g4, 0, none⟩) j j] 44)
              have hb78 := hb8.trans (hba8.mono z8)
              have R2 := Lib.hid (fun i u h => cells_below hb78 (by omega) (H2c.out i u h))
              have R3 := Lib.hid (fun i u h => cells_below hb78 (by omega) (H3c.out i u h))
              have R4 := Lib.hid (ho4.later hba8 (Nat.le_refl _))
              have TA8 := Lib.hid (TA7.out.later hb78 TA7.out.lt)
              have TB8 := Lib.hid (HTB7.out.later hb78 HTB7.out.lt)
              have TK8 := Lib.hid (HTK7.out.later hb78 HTK7.out.lt)
              have TC8 := Lib.hid (Three.made w8 44 (.int .i64 X) (.int .i64 Y) (.slice (some ⟨g4, 0, none⟩) j j))
              have HC8 := Lib.hid (cells_below hb78 (by omega) HC7.out)
              have HB8 := Lib.hid (HB7.out.trans (hb78.mono HB7.out.size))
              have hg4 := ho4.lt.2
              clear ho4 hb8 hba8 hb78
              obtain ⟨W8, hW8⟩ : ∃ W8, W8 = w8.alloc (.cells #[.int .i64 X, .int .i64 Y, .slice (some ⟨g4, 0, none⟩) j j] 44) := ⟨_, rfl⟩
              have hs8 : W8.heap.size = w8.heap.size + 1 := by rw [hW8]; simp
              rw [← hW8] at R2 R3 R4 TA8 TB8 TK8 TC8 HC8 HB8
              have HS8 := Lib.hid hs8
              have HSm1 := Lib.hid (rSame13_refl X Y j g2 g3 j cap3 cl W8 HCl.out.symm (fun i a h => R2.out i (cv a) (by rw [List.getElem?_map, h]; rfl)) (fun i a h => R3.out i (cv a) (by rw [List.getElem?_map, h]; rfl)) (by omega) (by omega) (by omega))
              obtain ⟨_, b0, b1, b2, _, _, _⟩ := TB8.out
              obtain ⟨_, k0, k1, k2, _, _, _⟩ := TK8.out
              clear hs8
              go_upto_region 21 with fail
              rw [← hW8]
              have HW8 := Lib.hid hW8
              clear hW8
              go_wp2_with fail
              refine HSm1.out.mono ?_; rintro e w9 ⟨rfl, hb9⟩
              have z9 := hb9.size
              have s8 := HS8.out
              have HB9 := Lib.hid (HB8.out.trans (hb9.mono HB8.out.size))
              have HSm2 := Lib.hid (rSame13_refl X Y j g4 g3 j cap3 cl w9 HCl.out.symm (fun i a h => cells_below hb9 R4.out.lt.2 (R4.out.cell (by rw [List.getElem?_map, h]; rfl))) (fun i a h => cells_below hb9 (by omega) (R3.out i (cv a) (by rw [List.getElem?_map, h]; rfl))) (by omega) (by omega) (by omega))
              have TA9 := Lib.hid (TA8.out.later hb9 TA8.out.lt)
              obtain ⟨_, c0, c1, c2, _, _, _⟩ := TC8.out.later hb9 TC8.out.lt
              have HC9 := Lib.hid (cells_below hb9 (by omega) HC8.out)
              clear b0 b1 b2 k0 k1 k2 s8
              obtain ⟨_, k0, k1, k2, _, _, _⟩ := TK8.out.later hb9 TK8.out.lt
              clear hb9
              go_wp2_with fail
              refine HSm2.out.mono ?_; rintro e w10 ⟨rfl, hb10⟩
              have HB10 := Lib.hid (HB9.out.trans (hb10.mono HB9.out.size))
              obtain ⟨_, a0, a1, a2, _, _, _⟩ := TA9.out.later hb10 TA9.out.lt
              have cg := cells_below hb10 (by omega) HC9.out
              clear hb10 c0 c1 c2 k0 k1 k2
              go_wp2
              go_ret
              exact ⟨rfl, HB10.out⟩
      | succ m =>
        obtain rfl : x = (m : Int) := by omega
        obtain ⟨p, q, b, off, hg, hp, hq, rfl, hbl, c0, c1⟩ := (HD.out.later (HB2a.out.trans (HB.out.mono HB2a.out.size))).get (i := m) (by rw [← HNe.out]; omega)
        have HG := Lib.hid hg
        have HP := Lib.hid hp
        have HQ := Lib.hid hq
        clear hg hp hq hx
        go_wp2_with (at_builtin; refine append_dirs (w0 := Wa) Wa.heap.size rfl (.tmp 27) (.tmp 32) rfl _ _ (ds.drop (m + 1)).reverse (some ⟨wr.heap.size, 0, none⟩) 1 [(p, q)] rfl rfl (fun h => by cases h) (HO.out.alloc _) (by have := HB.out.size; simp; omega) (HB.out.alloc HB.out.size _) (dirs_one _ _ _ HP.out HQ.out) ?c5 ?c6)
        case c5 =>
          have := H16.out
          have := HNe.out
          simp
          omega
        case c6 =>
          intro v1 w2 ho hb2 hs2
          have HO2 := Lib.hid ho
          have HB2 := Lib.hid hb2
          clear ho hb2
          go_wp2
          go_roundw
          case rel =>
            refine ⟨m, _, _, by omega, rfl, rfl, rfl, ?_, HB2.out⟩
            have := HO2.out
            rw [drop_rev HG.out, show N - m = N - (m + 1) + 1 from by omega]
            exact this
          case measure => simp [intOf] <;> omega
  · have hmn : ¬ mr = 0 := fun h => he (hrev.1 h)
    have q1 : (me != 0) = true := by simpa using he
    have q2 : (me == 0) = false := by simpa using he
    have q3 : (mr == 0) = false := by simpa using hmn
    clear Y1 Y2 hwm hrev
    go_enter Try.func9, Try.ntmps9
    go_wp2_with fail
    refine C0.out.mono ?_; rintro e w1 ⟨rfl, hb1⟩
    have HB1 := Lib.hid hb1
    clear hb1
    go_wp2_with fail
    refine (M1.out _ _ _ (HD.out.later HB1.out) hcap he).mono ?_; rintro e w2 ⟨rfl, hb2⟩
    have HB2 := Lib.hid (HB1.out.trans (hb2.mono HB1.out.size))
    have HB2a := Lib.hid (HB2.out.alloc HB2.out.size (.cells #[.int .i64 0, .int .i64 0, .slice none 0 0] 44))
    clear hb2
    obtain ⟨Wa, hWa⟩ : ∃ Wa, Wa = w2.alloc (.cells #[.int .i64 0, .int .i64 0, .slice none 0 0] 44) := ⟨_, rfl⟩
    have HWa := Lib.hid hWa
    go_wp2
    rw [← hWa]
    rw [← hWa] at HB2a
    clear hWa
    go_loopw [5, 6] (fun l i wr => ∃ (r : Nat) (x : Int) (v : Value), r ≤ N ∧ i = .int .i64 x ∧ x = (r : Int) - 1 ∧ l = v ∧ wr.ownsRow Wa.heap.size 51 2 v (N - r) (flatD (ds.drop r).reverse) ∧ Below Wa.heap.size Wa wr) (fun _ i _ => (intOf i + 1).toNat)
    case atStart =>
      refine ⟨N, _, _, Nat.le_refl _, rfl, rfl, rfl, ?_, Below.refl _ _⟩
      rw [HNe.out, List.drop_length, Nat.sub_self]
      exact World.ownsRow_nil _ _ _ _
    case round =>
      obtain ⟨r, x, v, hr, rfl, hx, rfl, ho, hb⟩ := hrel
      have HO := Lib.hid ho
      have HB := Lib.hid hb
      clear ho hb
      cases r with
      | zero =>
        obtain rfl : x = -1 := by omega
        have ho := HO.out
        rw [Nat.sub_zero, List.drop_zero] at ho
        obtain ⟨hnn, A1, cap1, rfl, hcap1, hD1, _⟩ := dirs_of_row ho HIr.out HLr.out
        clear hnn
        have HD1 := Lib.hid hD1
        have HBw := Lib.hid (HB2a.out.trans (HB.out.mono HB2a.out.size))
        clear ho hD1 hx
        go_wp2_with fail
        refine (M2.out _ _ _ HD1.out hcap1 hmn).mono ?_; rintro e w3 ⟨rfl, hb3⟩
        have HB3 := Lib.hid (HBw.out.trans (hb3.mono HBw.out.size))
        clear hb3
        go_wp2
        go_ret
        exact ⟨rfl, HB3.out.alloc HB3.out.size _⟩
      | succ m =>
        obtain rfl : x = (m : Int) := by omega
        obtain ⟨p, q, b, off, hg, hp, hq, rfl, hbl, c0, c1⟩ := (HD.out.later (HB2a.out.trans (HB.out.mono HB2a.out.size))).get (i := m) (by rw [← HNe.out]; omega)
        have HG := Lib.hid hg
        have HP := Lib.hid hp
        have HQ := Lib.hid hq
        clear hg hp hq hx
        go_wp2_with (at_builtin; refine append_dirs (w0 := Wa) Wa.heap.size rfl (.tmp 27) (.tmp 32) rfl _ _ (ds.drop (m + 1)).reverse (some ⟨wr.heap.size, 0, none⟩) 1 [(p, q)] rfl rfl (fun h => by cases h) (HO.out.alloc _) (by have := HB.out.size; simp; omega) (HB.out.alloc HB.out.size _) (dirs_one _ _ _ HP.out HQ.out) ?c5 ?c6)
        case c5 =>
          have := H16.out
          have := HNe.out
          simp
          omega
        case c6 =>
          intro v1 w2 ho hb2 hs2
          have HO2 := Lib.hid ho
          have HB2 := Lib.hid hb2
          clear ho hb2
          go_wp2
          go_roundw
          case rel =>
            refine ⟨m, _, _, by omega, rfl, rfl, rfl, ?_, HB2.out⟩
            have := HO2.out
            rw [drop_rev HG.out, show N - m = N - (m + 1) + 1 from by omega]
            exact this
          case measure => simp [intOf] <;> omega
end Go.Proofs.Ytoeeceemoggffaa
