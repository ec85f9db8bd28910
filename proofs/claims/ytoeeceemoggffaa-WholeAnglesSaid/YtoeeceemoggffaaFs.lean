/- The library's sort at a list of directions: they are put in another order (the laying's text is written by the kit's lay-plain.mjs). -/
import Derived.Test.YtoeeceemoggffaaFo
import Derived.Shelf.SlSortCmp.WholeK
namespace Go.Proofs.Ytoeeceemoggffaa
open Go.Shelf Go.RowKit Go.Lib Go.Sort
set_option maxHeartbeats 1600000
set_option maxRecDepth 100000
def sortDir_ren : Go.Shelf.Ren := ⟨fun | 6 => 87 | 15 => 115 | 14 => 114 | 28 => 141 | 29 => 142 | 20 => 133 | 21 => 134 | 22 => 135 | 23 => 136 | 24 => 137 | 25 => 138 | 26 => 139 | 27 => 140 | 46 => 147 | 47 => 148 | 48 => 149 | 49 => 150 | 50 => 151 | 57 => 155 | n => n, fun | 22 => 42 | 24 => 51 | 25 => 133 | 3 => 3 | 39 => 74 | 0 => 0 | 53 => 189 | 55 => 84 | 4 => 4 | 46 => 182 | 45 => 181 | 50 => 186 | 5 => 5 | 9 => 9 | 66 => 192 | 70 => 195 | 76 => 199 | 77 => 93 | n => n, fun | n => n⟩
theorem sortDir : Go.Proofs.SlLaysF0.n6 Try.prog sortDir_ren := {
  mixed := by kernel_rfl
  f6 := ⟨Try.f87.name, by decide, Try.func87.trans (congrArg some (by kernel_rfl))⟩
  f14 := ⟨Try.f114.name, by decide, Try.func114.trans (congrArg some (by kernel_rfl))⟩
  f15 := Try.func115.trans (congrArg some (by kernel_rfl))
  f20 := ⟨Try.f133.name, by decide, Try.func133.trans (congrArg some (by kernel_rfl))⟩
  f21 := ⟨Try.f134.name, by decide, Try.func134.trans (congrArg some (by kernel_rfl))⟩
  f22 := ⟨Try.f135.name, by decide, Try.func135.trans (congrArg some (by kernel_rfl))⟩
  f23 := ⟨Try.f136.name, by decide, Try.func136.trans (congrArg some (by kernel_rfl))⟩
  f24 := ⟨Try.f137.name, by decide, Try.func137.trans (congrArg some (by kernel_rfl))⟩
  f25 := ⟨Try.f138.name, by decide, Try.func138.trans (congrArg some (by kernel_rfl))⟩
  f26 := ⟨Try.f139.name, by decide, Try.func139.trans (congrArg some (by kernel_rfl))⟩
  f27 := ⟨Try.f140.name, by decide, Try.func140.trans (congrArg some (by kernel_rfl))⟩
  f28 := Try.func141.trans (congrArg some (by kernel_rfl))
  f29 := Try.func142.trans (congrArg some (by kernel_rfl))
  f46 := ⟨Try.f147.name, by decide, Try.func147.trans (congrArg some (by kernel_rfl))⟩
  f47 := Try.func148.trans (congrArg some (by kernel_rfl))
  f48 := Try.func149.trans (congrArg some (by kernel_rfl))
  f49 := ⟨Try.f150.name, by decide, Try.func150.trans (congrArg some (by kernel_rfl))⟩
  f50 := ⟨Try.f151.name, by decide, Try.func151.trans (congrArg some (by kernel_rfl))⟩
  f57 := ⟨Try.f155.name, by decide, Try.func155.trans (congrArg some (by kernel_rfl))⟩
  t0 := Try.underlying0
  a0 := Try.isAgg0
  z0 := Try.sizeOf0
  v0 := Try.zeroValue0
  t3 := Try.underlying3
  a3 := Try.isAgg3
  z3 := Try.sizeOf3
  v3 := Try.zeroValue3
  t4 := Try.underlying4
  a4 := Try.isAgg4
  z4 := Try.sizeOf4
  v4 := Try.zeroValue4
  t5 := Try.underlying5
  a5 := Try.isAgg5
  z5 := Try.sizeOf5
  v5 := Try.zeroValue5
  t9 := Try.underlying9
  a9 := Try.isAgg9
  z9 := Try.sizeOf9
  v9 := Try.zeroValue9
  t22 := Try.underlying42
  a22 := Try.isAgg42
  z22 := Try.sizeOf42
  v22 := Try.zeroValue42
  t25 := Try.underlying133
  a25 := Try.isAgg133
  z25 := Try.sizeOf133
  v25 := Try.zeroValue133
  t39 := Try.underlying74
  a39 := Try.isAgg74
  z39 := Try.sizeOf74
  v39 := Try.zeroValue74
  t45 := Try.underlying181
  a45 := Try.isAgg181
  z45 := Try.sizeOf181
  v45 := Try.zeroValue181
  t46 := Try.underlying182
  a46 := Try.isAgg182
  z46 := Try.sizeOf182
  v46 := Try.zeroValue182
  t50 := Try.underlying186
  a50 := Try.isAgg186
  z50 := Try.sizeOf186
  v50 := Try.zeroValue186
  t53 := Try.underlying189
  a53 := Try.isAgg189
  z53 := Try.sizeOf189
  v53 := Try.zeroValue189
  t55 := Try.underlying84
  a55 := Try.isAgg84
  z55 := Try.sizeOf84
  v55 := Try.zeroValue84
  t66 := Try.underlying192
  a66 := Try.isAgg192
  z66 := Try.sizeOf192
  v66 := Try.zeroValue192
  t70 := Try.underlying195
  a70 := Try.isAgg195
  z70 := Try.sizeOf195
  v70 := Try.zeroValue195
  t76 := Try.underlying199
  a76 := Try.isAgg199
  z76 := Try.sizeOf199
  v76 := Try.zeroValue199
  t77 := Try.underlying93
  a77 := Try.isAgg93
  z77 := Try.sizeOf93
  v77 := Try.zeroValue93 }

theorem heap_sortedV {w : World} {g n : Nat} {os : Array Obj} {cur : Array Value} {e : TypeId} {fr : Nat × Nat} (F : Array Value) (hb : w.heap[g]? = some (.cells cur e fr)) :
    (grow (putRow id (Sort.ahead w n) g 0 F) os).heap[g]? = some (.cells (putCells id 0 F cur) e fr) := by
  have hg : g < w.heap.size := (Array.getElem?_eq_some_iff.1 hb).1
  rw [heap_grow_old _ _ (by simpa using hg)]
  simp [putRow, mapBlock, Sort.ahead, Array.getElem?_modify, hb, onCells]
theorem grownBy_sortedV {w : World} {g n : Nat} {os : Array Obj} (F : Array Value) : w.grownBy (grow (putRow id (Sort.ahead w n) g 0 F) os) (some g) := by
  refine ⟨rfl, rfl, rfl, by simp, fun k hk hne => ?_⟩
  rw [heap_grow_old _ _ (by simpa using hk)]
  have : g ≠ k := fun e => hne (by rw [e])
  simp [putRow, mapBlock, Sort.ahead, Array.getElem?_modify, this]
theorem take_putCellsV (cur F : Array Value) (h : F.size ≤ cur.size) : (putCells id 0 F cur).toList.take F.size = F.toList := by
  apply List.ext_getElem?
  intro j
  by_cases hj : j < F.size
  · rw [List.getElem?_take_of_lt hj, Array.getElem?_toList]
    simp [putCells, hj, show j < cur.size by omega]
  · rw [List.getElem?_take_eq_none (by omega), List.getElem?_eq_none (by simpa using hj)]

instance okInh : Inhabited OkDir := ⟨⟨(1, 0), by decide⟩⟩
/-- a direction's two cells -/
def encO (x : OkDir) : List Value := [.int .i64 x.1.1, .int .i64 x.1.2]
theorem flat_list (d : Array OkDir) : (flatK encO 2 d).toList = flatD (d.toList.map (·.1)) := by
  apply List.ext_getElem?
  intro t
  have hl : (flatD (d.toList.map (·.1))).length = d.size * 2 := by rw [flatD_length]; simp
  by_cases ht : t < d.size * 2
  · have h2 : t / 2 < d.size := by omega
    have hg : (d.toList.map (·.1))[t / 2]? = some d[t / 2].1 := by simp [h2]
    obtain ⟨f0, f1⟩ := flatD_get hg
    have hf : (flatK encO 2 d).toList[t]? = some ((encO d[t / 2]!)[t % 2]!) := by
      have hsz : t < (flatK encO 2 d).size := by rw [size_flatK]; exact ht
      rw [Array.getElem?_toList, Array.getElem?_eq_getElem hsz, ← getElem!_pos (flatK encO 2 d) t hsz, get_flatK encO 2 d t ht]
    rw [hf, getElem!_pos d (t / 2) h2]
    rcases Nat.mod_two_eq_zero_or_one t with h0 | h0
    · rw [h0]
      have e : t = t / 2 * 2 := by omega
      rw [← e] at f0
      exact f0.symm
    · rw [h0]
      have e : t = t / 2 * 2 + 1 := by omega
      rw [← e] at f1
      exact f1.symm
  · rw [List.getElem?_eq_none (by rw [Array.length_toList, size_flatK]; omega), List.getElem?_eq_none (by omega)]

theorem Cmp_call : ∀ args w, (callFunc 88 args).run Try.prog w = .ok (.enter 88 args) w := by
  intro args w
  rfl
theorem cmpLays (blk off size : Nat) (w : World) : CmpLays Try.prog 88 #[] encO 2 cmpO blk off size w := by
  intro m os dk _ x y
  rw [Array.append_empty]
  refine (Cmp_walk x.1 y.1 _ x.2 y.2).mono ?_
  rintro e w' ⟨rfl, hf⟩
  exact ⟨rfl, hf.grow⟩

theorem sorts : Sorts := by
  intro B g cap l w hl h0 hlen hown
  obtain ⟨L, hL⟩ : ∃ L : List OkDir, L.map (·.1) = l := ⟨l.pmap Subtype.mk hl, by rw [List.map_pmap]; simp⟩
  have hLl : L.toArray.size = l.length := by rw [← hL]; simp
  rcases hown.2 with ⟨hn, _⟩ | ⟨g', cap', cur, hv, hbg, hg, hnc, hcm, hcs, htake⟩
  · cases hn
  · obtain ⟨rfl, _, rfl⟩ : g = g' ∧ l.length = l.length ∧ cap = cap' := by simpa using hv
    have hfl : (flatK encO 2 L.toArray).toList = flatD l := by rw [flat_list, ← hL]
    have hH : HoldsK encO 2 w g 0 L.toArray := by
      intro j hj
      have hj' : j < l.length * 2 := by rw [size_flatK, hLl] at hj; exact hj
      refine ⟨?_, by simp [World.frozen?, hg]⟩
      have hx : (flatD l)[j]? = some (flatK encO 2 L.toArray)[j]! := by
        rw [← hfl, Array.getElem?_toList, Array.getElem?_eq_getElem hj, ← getElem!_pos (flatK encO 2 L.toArray) j hj]
      have hc := row_cell (w := w) (by
        have h9 := hown
        exact (⟨h9.1, .inr ⟨g, cap, cur, rfl, Nat.zero_le _, hg, hnc, hcm, hcs, htake⟩⟩ : w.ownsRow 0 51 2 (sl g l.length cap) l.length (flatD l))) hx
      rw [Nat.zero_add]
      exact hc
    have hgl : g < w.heap.size := (Array.getElem?_eq_some_iff.1 hg).1
    have hcon := AnyQ.slices_SortFunc sortDir 2 (fun w => Try.isAgg51 w) (fun w => Try.sizeOf51 w) encO (fun _ => rfl) (fun x v hv => by simp [encO] at hv; rcases hv with rfl | rfl <;> rfl) cmpO swoO 88 #[] g 0 cap L.toArray w Cmp_call (cmpLays g 0 L.toArray.size w) hH hgl (by omega)
    rw [hLl] at hcon
    refine hcon.mono ?_
    rintro e w' ⟨rfl, d', n, os, hp, _, rfl⟩
    obtain ⟨hds, _, hperm⟩ := hp
    have hd' : d'.size = l.length := hds.trans hLl
    refine ⟨rfl, d'.toList.map (·.1), ?_, ?_, ?_⟩
    · have h5 : d'.toList.Perm L := by
        have e1 : d'.extract 0 l.length = d' := by rw [← hd']; simp
        have e2 : L.toArray.extract 0 l.length = L.toArray := by rw [← hLl]; simp
        rw [e1, e2] at hperm
        simpa using hperm
      rw [← hL]
      exact h5.map _
    · have hF : (flatK encO 2 d').size = l.length * 2 := by rw [size_flatK, hd']
      refine ⟨by rw [flatD_length]; simp [hd'], .inr ⟨g, cap, putCells id 0 (flatK encO 2 d') cur, rfl, hbg, heap_sortedV _ hg, hnc, hcm, by simp [putCells, hcs], ?_⟩⟩
      rw [← flat_list, ← hF]
      exact take_putCellsV cur _ (by rw [hF, hcs]; exact Nat.mul_le_mul_right _ hnc)
    · have hgr := grownBy_sortedV (w := w) (g := g) (n := n) (os := os) (flatK encO 2 d')
      have := (hown.lt g rfl)
      exact (Below.refl B w).grown hgr (by omega) (fun j hj => by cases hj; exact hbg)
end Go.Proofs.Ytoeeceemoggffaa
