/- newBoard of package peel: the board of a grid all of whose cells are open. -/
import Derived.Test.YtoeeceemoggffaaPp
import Derived.Test.YtoeeceemoggffaaPe
namespace Go.Proofs.Ytoeeceemoggffaa
open Go.RowKit Go.Lib
set_option maxHeartbeats 3200000
set_option maxRecDepth 100000

theorem und68 : Try.prog.underlying 68 = some (.slice 4) := by kernel_rfl
theorem und118 : Try.prog.underlying 118 = some (.slice 3) := by kernel_rfl
theorem und119 : Try.prog.underlying 119 = some (.slice 118) := by kernel_rfl
theorem infoBool : (Try.prog.info? 4).map (fun i => (i.zero, i.size, i.bytes)) = some (some (.bool false), 1, 1) := by kernel_rfl
theorem infoInt : (Try.prog.info? 3).map (fun i => (i.zero, i.size, i.bytes)) = some (some (.int .i64 0), 1, 8) := by kernel_rfl
theorem infoInts : (Try.prog.info? 118).map (fun i => (i.zero, i.size, i.bytes)) = some (some (.slice none 0 0), 1, 24) := by kernel_rfl

def allC : Nat → Bool := fun _ => true
/-- the counts while direction k is gone through: of it the first m cells, of the others all -/
def cfA (n M : Nat) (ds : List (Int × Int)) (k m : Nat) : Nat → Nat → Nat := fun j i => if j = k then cnt (lnD n ds k) allC m i else cnt (lnD n ds j) allC M i
def gfA (n M : Nat) (ds : List (Int × Int)) (k m : Nat) : Nat → Nat → Nat := fun j i => if j = k then sms (lnD n ds k) allC m i else sms (lnD n ds j) allC M i
def cfB (n M : Nat) (ds : List (Int × Int)) : Nat → Nat → Nat := fun j i => cnt (lnD n ds j) allC M i
def gfB (n M : Nat) (ds : List (Int × Int)) : Nat → Nat → Nat := fun j i => sms (lnD n ds j) allC M i
theorem cfA_zero (n M : Nat) (ds : List (Int × Int)) (k j i : Nat) : (if j = k then 0 else cfB n M ds j i) = cfA n M ds k 0 j i := by
  unfold cfA cfB
  by_cases e : j = k
  · rw [if_pos e, if_pos e]; rfl
  · rw [if_neg e, if_neg e]
theorem gfA_zero (n M : Nat) (ds : List (Int × Int)) (k j i : Nat) : (if j = k then 0 else gfB n M ds j i) = gfA n M ds k 0 j i := by
  unfold gfA gfB
  by_cases e : j = k
  · rw [if_pos e, if_pos e]; rfl
  · rw [if_neg e, if_neg e]
theorem cfA_all (n M : Nat) (ds : List (Int × Int)) (k j i : Nat) : cfA n M ds k M j i = cfB n M ds j i := by
  unfold cfA cfB
  by_cases e : j = k
  · rw [if_pos e, e]
  · rw [if_neg e]
theorem gfA_all (n M : Nat) (ds : List (Int × Int)) (k j i : Nat) : gfA n M ds k M j i = gfB n M ds j i := by
  unfold gfA gfB
  by_cases e : j = k
  · rw [if_pos e, e]
  · rw [if_neg e]

theorem cfA_step (n M : Nat) (ds : List (Int × Int)) (k m L : Nat) (hL : L = lnD n ds k m) (j i : Nat) : (if j = k ∧ i = L then cfA n M ds k m k L + 1 else cfA n M ds k m j i) = cfA n M ds k (m + 1) j i := by
  unfold cfA
  rw [if_pos rfl]
  by_cases e : j = k
  · subst e
    rw [if_pos rfl]
    by_cases e2 : i = L
    · subst e2
      rw [if_pos ⟨rfl, rfl⟩, if_pos rfl]
      show _ = cnt _ _ m i + (if allC m = true ∧ lnD n ds j m = i then 1 else 0)
      rw [if_pos ⟨rfl, hL.symm⟩]
    · rw [if_neg (fun h => e2 h.2), if_pos rfl]
      show _ = cnt _ _ m i + (if allC m = true ∧ lnD n ds j m = i then 1 else 0)
      rw [if_neg (fun h => e2 (by rw [hL]; exact h.2.symm))]
      rfl
  · rw [if_neg (fun h => e h.1), if_neg e, if_neg e]
theorem gfA_step (n M : Nat) (ds : List (Int × Int)) (k m L : Nat) (hL : L = lnD n ds k m) (j i : Nat) : (if j = k ∧ i = L then gfA n M ds k m k L + m else gfA n M ds k m j i) = gfA n M ds k (m + 1) j i := by
  unfold gfA
  rw [if_pos rfl]
  by_cases e : j = k
  · subst e
    rw [if_pos rfl]
    by_cases e2 : i = L
    · subst e2
      rw [if_pos ⟨rfl, rfl⟩, if_pos rfl]
      show _ = sms _ _ m i + (if allC m = true ∧ lnD n ds j m = i then m else 0)
      rw [if_pos ⟨rfl, hL.symm⟩]
    · rw [if_neg (fun h => e2 h.2), if_pos rfl]
      show _ = sms _ _ m i + (if allC m = true ∧ lnD n ds j m = i then m else 0)
      rw [if_neg (fun h => e2 (by rw [hL]; exact h.2.symm))]
      rfl
  · rw [if_neg (fun h => e h.1), if_neg e, if_neg e]
theorem cfA_le (n M : Nat) (ds : List (Int × Int)) (k m L : Nat) : cfA n M ds k m k L ≤ m := by
  unfold cfA
  rw [if_pos rfl]
  exact cnt_le _ _ _ _
theorem gfA_le (n M : Nat) (ds : List (Int × Int)) (k m L : Nat) : gfA n M ds k m k L ≤ m * m := by
  unfold gfA
  rw [if_pos rfl]
  exact sms_le _ _ _ _

/-- what stands at the head of a round over the directions -/
structure NewR (w : World) (b o n M : Nat) (dv : Value) (ds : List (Int × Int)) (k : Nat) (T : Nat → Nat) (sv cv gv rv : Value) (C G : Nat → Nat) (l : List (Int × Int)) (wr : World) : Prop where
  brd : Brd w T b o n M dv (stD n ds) (bnD n ds) sv cv gv rv C G k k k (fun _ => false) (cfB n M ds) (gfB n M ds) l wr
  rdy : Rdy k (bnD n ds) (cfB n M ds) l
  good : Good k (bnD n ds) l
  len : l.length ≤ 2017 * k

/-- what stands at the head of a round over a direction's counts -/
structure NewL (w : World) (b o n M : Nat) (dv : Value) (ds : List (Int × Int)) (k q : Nat) (T : Nat → Nat) (sv cv gv rv : Value) (C G : Nat → Nat) (l : List (Int × Int)) (wr : World) : Prop where
  brd : Brd w T b o n M dv (stD n ds) (bnD n ds) sv cv gv rv C G (k + 1) (k + 1) (k + 1) (fun _ => false) (cfB n M ds) (gfB n M ds) l wr
  rdy : ∀ j i, (j < k ∧ i < bnD n ds j) ∨ (j = k ∧ i < q) → cfB n M ds j i = 1 → ((j : Int), (i : Int)) ∈ l
  good : Good (k + 1) (bnD n ds) l
  len : l.length ≤ 2017 * k + q

theorem news_new (w : World) (x y : Value) (t : TypeId) : ∀ (j : Nat) (u : Value), [x, y][j]? = some u → (w.alloc (.cells #[x, y] t)).cell? ((⟨w.heap.size, 0, none⟩ : Addr).add j) = some u := fun j u hj => by
  rw [Go.WideShapes.add_plain, Nat.zero_add, new_cell]
  simpa using hj

theorem NewL.push {w : World} {b o n M : Nat} {dv : Value} {ds : List (Int × Int)} {k q : Nat} {T : Nat → Nat} {sv cv gv rv : Value} {C G : Nat → Nat} {l : List (Int × Int)} {wr w5 : World} {gg cap : Nat} {x y : Value}
    (h : NewL w b o n M dv ds k q T sv cv gv rv C G l wr) (hq : q < bnD n ds k) (hown : w5.ownsRow 0 113 2 (sl gg (l.length + 1) cap) (l.length + 1) (flatD l ++ [.int .i64 k, .int .i64 q])) (hg : (wr.alloc (.cells #[x, y] 113)).grownBy w5 rv.ownBlock) (hat : rv.ownBlock = some gg ∨ gg = wr.heap.size + 1) :
    ∃ T', NewL w b o n M dv ds k (q + 1) T' sv cv gv (sl gg (l.length + 1) cap) C G (l ++ [((k : Int), (q : Int))]) (w5.setCell ⟨b, 6, none⟩ (sl gg (l.length + 1) cap)) := by
  have hb := h.brd
  have ha : Below wr.heap.size wr (wr.alloc (.cells #[x, y] 113)) := (Below.refl _ _).alloc (Nat.le_refl _) _
  have hne : rv.ownBlock ≠ some b := fun e => by have h1 := hb.tr b e; rw [hb.tb] at h1; omega
  have hbg : b ≠ gg := fun e => by
    rcases hat with h1 | h1
    · exact hne (by rw [h1, e])
    · have := hb.str.lt; omega
  have hv := OnlyV.pushed (u := sl gg (l.length + 1) cap) ha hg hb.str.lt hne
  have st := hb.str_far ha hg hb.tr (by omega)
  obtain ⟨T', _, hb'⟩ := hb.ready (rv' := sl gg (l.length + 1) cap) (l' := l ++ [((k : Int), (q : Int))]) hv (by
      rw [flatD_append]
      have e : (l ++ [((k : Int), (q : Int))]).length = l.length + 1 := by simp
      rw [e]
      exact ownsRow_setCell_other hown (by simp [Value.ownBlock]; exact fun e => hbg e.symm) _) (World.cell?_setCell_same _ _ _ st.c6) (fun g e => by
      obtain rfl : gg = g := by simpa [Value.ownBlock] using e
      rcases hat with h1 | h1
      · exact .inl h1
      · exact .inr (by omega))
  refine ⟨T', hb', fun j i h1 h2 => ?_, fun z hz => ?_, by have := h.len; simp; omega⟩
  · by_cases e : j = k ∧ i = q
    · rw [e.1, e.2]; simp
    · exact List.mem_append_left _ (h.rdy j i (by
        rcases h1 with h1 | h1
        · exact .inl h1
        · exact .inr ⟨h1.1, by
            have h3 : i ≠ q := fun e2 => e ⟨h1.1, e2⟩
            omega⟩) h2)
  · rcases List.mem_append.1 hz with h1 | h1
    · exact h.good z h1
    · exact ⟨k, q, by simpa using h1, by omega, hq⟩

theorem NewL.skip {w : World} {b o n M : Nat} {dv : Value} {ds : List (Int × Int)} {k q : Nat} {T : Nat → Nat} {sv cv gv rv : Value} {C G : Nat → Nat} {l : List (Int × Int)} {wr : World}
    (h : NewL w b o n M dv ds k q T sv cv gv rv C G l wr) (h0 : cfB n M ds k q ≠ 1) : NewL w b o n M dv ds k (q + 1) T sv cv gv rv C G l wr := by
  refine ⟨h.brd, fun j i h1 h2 => ?_, h.good, by have := h.len; omega⟩
  refine h.rdy j i ?_ h2
  rcases h1 with h1 | h1
  · exact .inl h1
  · exact .inr ⟨h1.1, by
      have h3 : i ≠ q := fun e2 => h0 (by rw [← h1.1, ← e2]; exact h2)
      omega⟩

theorem NewL.done {w : World} {b o n M : Nat} {dv : Value} {ds : List (Int × Int)} {k : Nat} {T : Nat → Nat} {sv cv gv rv : Value} {C G : Nat → Nat} {l : List (Int × Int)} {wr : World}
    (h : NewL w b o n M dv ds k (bnD n ds k) T sv cv gv rv C G l wr) (hb : bnD n ds k ≤ 2017) : NewR w b o n M dv ds (k + 1) T sv cv gv rv C G l wr :=
  ⟨h.brd, fun j i h1 h2 h3 => h.rdy j i (by
    by_cases e : j = k
    · subst e
      exact .inr ⟨rfl, h2⟩
    · exact .inl ⟨by omega, h2⟩) h3, h.good, by have := h.len; omega⟩

theorem Brd.init {w0 : World} {T : Nat → Nat} {b o n M : Nat} {dv : Value} {st bn : Nat → Nat} {sv cv gv rv : Value} {C G : Nat → Nat} {ks kc kg : Nat} {S : Nat → Bool} {cf gf : Nat → Nat → Nat} {l : List (Int × Int)} {w : World}
    (h : Brd w0 T b o n M dv st bn sv cv gv rv C G ks kc kg S cf gf l w) (hl : l.length ≤ 1000000) :
    Calls Try.prog 109 #[hpV b] w fun e w' => e = .returned (.tuple #[]) ∧ ∃ T' rv' l', Brd w0 T' b o n M dv st bn sv cv gv rv' C G ks kc kg S cf gf l' w' ∧ l'.Perm l := by
  rcases h.own_r.2 with ⟨hrv, _⟩ | ⟨g, cap, cur, hrv, _⟩
  · refine (Init_none b w (by rw [h.str.c6, hrv])).mono ?_
    rintro e w' ⟨rfl, rfl⟩
    exact ⟨rfl, T, rv, l, h, List.Perm.refl _⟩
  · subst hrv
    have hne : b ≠ g := fun e => by have h1 := h.tr g rfl; rw [← e, h.tb] at h1; omega
    refine (Init_some 0 b g l.length cap l w ⟨h.own_r, h.str.c6, rfl, hne⟩ hl).mono ?_
    rintro e w' ⟨l', rfl, hs, hp, ho⟩
    obtain ⟨T', _, hb⟩ := h.ready (rv' := sl g l.length cap) (l' := l') (OnlyV.of6 (n := l.length) (cap := cap) (ho.six hne)) (by have h9 := hs.len; rw [← h9]; exact hs.row) hs.at6 (fun g' e => .inl e)
    exact ⟨rfl, T', _, l', hb, hp⟩

theorem NewR.start (w : World) (n M : Nat) (dv : Value) (ds : List (Int × Int)) :
    NewR w (w.heap.size + 1) w.heap.size n M dv ds 0 (fun x => if x = w.heap.size + 1 then 1 else if x = w.heap.size then 2 else 0) (.slice none 0 0) (.slice none 0 0) (.slice none 0 0) (.slice none 0 0) (fun _ => 0) (fun _ => 0) []
      ((w.alloc (.cells (madeCells #[.bool false] M) 4)).alloc (.cells #[.int .i64 n, dv, .slice none 0 0, sl w.heap.size M M, .slice none 0 0, .slice none 0 0, .slice none 0 0] 123)) := by
  have h1 : ∀ j, ((w.alloc (.cells (madeCells #[.bool false] M) 4)).alloc (.cells #[.int .i64 n, dv, .slice none 0 0, sl w.heap.size M M, .slice none 0 0, .slice none 0 0, .slice none 0 0] 123)).cell? ⟨w.heap.size + 1, j, none⟩ = #[.int .i64 n, dv, .slice none 0 0, sl w.heap.size M M, .slice none 0 0, .slice none 0 0, .slice none 0 0][j]? := fun j => by
    have := new_cell (w.alloc (.cells (madeCells #[.bool false] M) 4)) #[.int .i64 n, dv, .slice none 0 0, sl w.heap.size M M, .slice none 0 0, .slice none 0 0, .slice none 0 0] 123 j
    rw [new_size] at this
    exact this
  refine ⟨⟨((Below.refl _ _).alloc (Nat.le_refl _) _).alloc (by simp) _, fun x hx => ?_, ⟨h1 0, h1 1, h1 2, h1 3, h1 4, h1 5, h1 6, fun j => ?_⟩, World.ownsRow_nil _ _ _ _, World.ownsRow_nil _ _ _ _, World.ownsRow_nil _ _ _ _, World.ownsRow_nil _ _ _ _, (World.rowIs_made w _ M _).alloc _,
    fun j hj => by omega, fun j hj => by omega, if_pos rfl, ?_, fun g e => (by cases e), fun g e => (by cases e), fun g e => (by cases e), fun g e => (by cases e), fun j hj => by omega, fun j hj => by omega⟩, fun j i hj => by omega, fun x hx => (by cases hx), by simp⟩
  · rw [new_size, new_size]
    by_cases e1 : x = w.heap.size + 1
    · omega
    · rw [if_neg e1] at hx
      by_cases e2 : x = w.heap.size
      · omega
      · rw [if_neg e2] at hx
        exact absurd rfl hx
  · have := new_free (w.alloc (.cells (madeCells #[.bool false] M) 4)) #[.int .i64 n, dv, .slice none 0 0, sl w.heap.size M M, .slice none 0 0, .slice none 0 0, .slice none 0 0] 123 j
    rw [new_size] at this
    exact this
  · show (if w.heap.size = w.heap.size + 1 then 1 else if w.heap.size = w.heap.size then 2 else 0) = 2
    rw [if_neg (by omega), if_pos rfl]
end Go.Proofs.Ytoeeceemoggffaa
