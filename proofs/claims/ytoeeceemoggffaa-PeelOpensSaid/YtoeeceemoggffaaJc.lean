/- The reference's board: the line of a cell, the first bin with one open cell, that cell. -/
import Derived.Test.YtoeeceemoggffaaJb
import Derived.Test.YtoeeceemoggffaaQo
namespace Go.Proofs.Ytoeeceemoggffaa
open Go.RowKit Go.Lib
set_option maxHeartbeats 3200000
set_option maxRecDepth 100000

theorem rline_raw (b n k c db off K capd s0 : Nat) (p q : Int) (w : World) (c0 : w.cell? ⟨b, 0, none⟩ = some (.int .i64 n)) (c5 : w.cell? ⟨b, 5, none⟩ = some (.slice (some ⟨db, off, none⟩) K capd))
    (d0 : w.cell? ⟨db, off + k * 2, none⟩ = some (.int .i64 p)) (d1 : w.cell? ⟨db, off + k * 2 + 1, none⟩ = some (.int .i64 q)) (hk : k < K)
    (h1 : 1 ≤ n) (h2 : n ≤ 64) (hok : okD (p, q) = true) (hs : s0 = startN n (p, q)) (hc : c / n ≤ 64) :
    Calls Try.prog 112 #[.pointer (some ⟨b, 0, none⟩), .int .i64 k, .int .i64 c] w fun e w' => e = .returned (.int .i64 (q * ((c % n : Nat) : Int) - p * ((c / n : Nat) : Int) + (s0 : Int))) ∧ Below w.heap.size w w' := by
  obtain ⟨o0, o1, o2, o3, o4⟩ := (okD_iff p q).1 hok
  obtain ⟨pb1, pb2⟩ : -16 ≤ p ∧ p ≤ 16 := by omega
  have S := Lib.hid (fun w => rStart_walk n p q w h1 h2 hok)
  rw [← hs] at S
  have hst : s0 ≤ 1008 := by rw [hs]; exact Nat.mul_le_mul (show n - 1 ≤ 63 by omega) (show p.toNat ≤ 16 by omega)
  have hk' : (k : Int) < (K : Int) := by omega
  have hn : 0 < n := h1
  have e1 : (c : Int).tmod (n : Int) = ((c % n : Nat) : Int) := by rw [Int.tmod_eq_emod_of_nonneg (by omega)]; omega
  have e2 : (c : Int).tdiv (n : Int) = ((c / n : Nat) : Int) := by rw [Int.tdiv_eq_ediv_of_nonneg (by omega)]; omega
  have hx : c % n ≤ 64 := by have := Nat.mod_lt c hn; omega
  have hn' : ((n : Int) == 0) = false := by
    have : (n : Int) ≠ 0 := by omega
    simpa using this
  have hn'' : (n == 0) = false := by
    have : n ≠ 0 := by omega
    simpa using this
  obtain ⟨x, hxe⟩ : ∃ x, x = c % n := ⟨_, rfl⟩
  obtain ⟨y, hye⟩ : ∃ y, y = c / n := ⟨_, rfl⟩
  rw [← hxe] at e1 hx ⊢
  rw [← hye] at e2 hc ⊢
  have b1 := mul_bound (show -16 ≤ q by omega) o1 hx
  have b2 := mul_bound pb1 pb2 hc
  obtain ⟨u, hu⟩ : ∃ u, q * (x : Int) = u := ⟨_, rfl⟩
  obtain ⟨v, hv⟩ : ∃ v, p * (y : Int) = v := ⟨_, rfl⟩
  rw [hu] at b1 ⊢
  rw [hv] at b2 ⊢
  obtain ⟨u1, u2⟩ := b1
  obtain ⟨v1, v2⟩ := b2
  have hwu : IntKind.i64.wrap u = u := IntWalk.i64_in _ (by omega)
  have hwv : IntKind.i64.wrap v = v := IntWalk.i64_in _ (by omega)
  have hwd : IntKind.i64.wrap (u - v) = u - v := IntWalk.i64_in _ (by omega)
  have hval : IntKind.i64.wrap (u - v + (s0 : Int)) = u - v + (s0 : Int) := IntWalk.i64_in _ (by omega)
  have hwx : IntKind.i64.wrap (x : Int) = (x : Int) := IntWalk.i64_in _ (by omega)
  have hwy : IntKind.i64.wrap (y : Int) = (y : Int) := IntWalk.i64_in _ (by omega)
  have hn0 : (n : Int) ≠ 0 := by omega
  have hn1 : n ≠ 0 := by omega
  clear hxe hye hs o2 o3 o4 hn' hn''
  have hbl : b < w.heap.size := block_lt_of_cell c0
  go_enter Try.func112, Try.ntmps112
  go_upto_region 2 with fail
  have x0 : (w.alloc (.cells #[.int .i64 p, .int .i64 q] 51)).cell? ⟨w.heap.size, 0, none⟩ = some (.int .i64 p) := new_cell w _ _ 0
  have x1 : (w.alloc (.cells #[.int .i64 p, .int .i64 q] 51)).cell? ⟨w.heap.size, 1, none⟩ = some (.int .i64 q) := new_cell w _ _ 1
  have x2 : (w.alloc (.cells #[.int .i64 p, .int .i64 q] 51)).cell? ⟨b, 0, none⟩ = some (.int .i64 n) := (((Below.refl _ _).alloc (Nat.le_refl _) _).cell hbl).trans c0
  have hB0 : Hid (Below w.heap.size w (w.alloc (.cells #[.int .i64 p, .int .i64 q] 51))) := Lib.hid ((Below.refl _ _).alloc (Nat.le_refl _) _)
  obtain ⟨W, hW⟩ : ∃ W, W = w.alloc (.cells #[.int .i64 p, .int .i64 q] 51) := ⟨_, rfl⟩
  rw [← hW] at x0 x1 x2 hB0 ⊢
  have hB0d : Hid (Below w.heap.size w W.drew) := Lib.hid hB0.out.drew
  clear c0 c5 d0 d1 hW hok
  go_region_held3 (fun w' => w'.cell? ⟨w.heap.size, 0, none⟩ = some (.int .i64 p) ∧ w'.cell? ⟨w.heap.size, 1, none⟩ = some (.int .i64 q) ∧ w'.cell? ⟨b, 0, none⟩ = some (.int .i64 n) ∧ Hid (Below w.heap.size w w'))
    (first
      | (refine ⟨?_, ?_, ?_, ?_⟩ <;> first
           | assumption
           | (exact keepBB (by assumption) hb)
           | (exact keepHH (by assumption) hb))
      | (go_split_ands
         refine ⟨?_, ?_, ?_, ?_⟩ <;> first
           | assumption
           | (exact keepBB (by assumption) hb)
           | (exact keepHH (by assumption) hb))
      | (go_keep; done))
    ((go_simp; go_at_call 132; refine (S.out _).mono ?_; rintro e w' ⟨rfl, hb⟩))
  all_goals (have hbb : Hid (Below w.heap.size w w') := And.right (And.right (And.right (by assumption : w'.cell? ⟨w.heap.size, 0, none⟩ = some (.int .i64 p) ∧ w'.cell? ⟨w.heap.size, 1, none⟩ = some (.int .i64 q) ∧ w'.cell? ⟨b, 0, none⟩ = some (.int .i64 n) ∧ Hid (Below w.heap.size w w')))))
  all_goals go_wp2
  all_goals go_ret
  all_goals exact ⟨rfl, hbb.out⟩

theorem Brf.line {w0 : World} {T : Nat → Nat} {b o n M : Nat} {rv cv yv : Value} {C G : Nat → Nat} {kr kc ky : Nat} {S : Nat → Bool} {cf : Nat → Nat → Nat} {yf : Nat → Nat} {w : World} {A : Option Addr} {capd : Nat} {ds : List (Int × Int)}
    (h : Brf w0 T b o n M (.slice A ds.length capd) (bnD n ds) rv cv yv C G kr kc ky S cf yf w) (hD : Dirs w0 A ds) (ho : ∀ d ∈ ds, okD d = true) (hM : M = n * n) (h1 : 1 ≤ n) (h2 : n ≤ 64) (k c : Nat) (hk : k < ds.length) (hc : c < M) :
    Calls Try.prog 112 #[.pointer (some ⟨b, 0, none⟩), .int .i64 k, .int .i64 c] w fun e w' => e = .returned (.int .i64 (lnD n ds k c : Nat)) ∧ Below w.heap.size w w' := by
  have hok := ho _ (dirAt_mem hk)
  have hD' := hD.later h.below
  obtain ⟨db, off, rfl⟩ : ∃ db off, A = some ⟨db, off, none⟩ := by
    obtain ⟨b', o', e, _⟩ := hD.at_ k _ (dirAt_get hk)
    exact ⟨b', o', e⟩
  obtain ⟨d0, d1⟩ := hD'.pair (dirAt_get hk)
  refine (rline_raw b n k c db off ds.length capd (stD n ds k) (dirAt ds k).1 (dirAt ds k).2 w h.str.c0 h.str.c5 d0 d1 hk h1 h2 hok rfl ?_).mono ?_
  · have : c / n < n := by rw [Nat.div_lt_iff_lt_mul (by omega), ← hM]; exact hc
    omega
  · rintro e w' ⟨rfl, hb⟩
    refine ⟨?_, hb⟩
    have := lineN_cast (n := n) (p := (dirAt ds k).1) (q := (dirAt ds k).2) hM hok hc
    unfold lineZ at this
    simp only at this
    show Ending.returned _ = Ending.returned (.int .i64 ((lineN n (dirAt ds k) c : Nat) : Int))
    rw [← this]
    show Ending.returned (.int .i64 (_ + ((startN n (dirAt ds k) : Nat) : Int))) = _
    congr 2
    generalize (dirAt ds k).2 * ((c % n : Nat) : Int) = X
    generalize (dirAt ds k).1 * ((c / n : Nat) : Int) = Y
    show X - Y + ((startN n (dirAt ds k) : Nat) : Int) = ((startN n (dirAt ds k) : Nat) : Int) + X - Y
    omega

theorem first_walk {w0 : World} {T : Nat → Nat} {b o n M : Nat} {dv : Value} {bn : Nat → Nat} {rv cv yv : Value} {C G : Nat → Nat} {K : Nat} {S : Nat → Bool} {cf : Nat → Nat → Nat} {yf : Nat → Nat} {w : World}
    (h : Brf w0 T b o n M dv bn rv cv yv C G K K K S cf yf w) (hK : K ≤ 64) (hbn : ∀ j, bn j ≤ 5000) (hcf : ∀ j i, cf j i ≤ 5000) (hy : ∀ j, j < K → yf j = ones (cf j) (bn j)) :
    Calls Try.prog 84 #[.pointer (some ⟨b, 0, none⟩)] w fun e w' => w' = w ∧
      ((∃ j i : Nat, j < K ∧ i < bn j ∧ cf j i = 1 ∧ e = .returned (.tuple #[.int .i64 j, .int .i64 i, .bool true])) ∨ ((∀ j i, j < K → i < bn j → cf j i ≠ 1) ∧ e = .returned (.tuple #[.int .i64 0, .int .i64 0, .bool false]))) := by
  have HH := Lib.hid h
  have HF := Lib.hid hcf
  have HN := Lib.hid hbn
  have HY := Lib.hid hy
  clear h hcf hy hbn
  have c3 := HH.out.str.c3
  have c4 := HH.out.str.c4
  go_enter Try.func84, Try.ntmps84
  go_wp2
  obtain ⟨Ac, cc, rfl⟩ : ∃ Ac cc, cv = .slice Ac K cc := by
    rcases HH.out.own_c.2 with ⟨rfl, h0⟩ | ⟨g, cap, cur, rfl, _⟩
    · exact ⟨_, _, by rw [h0]⟩
    · exact ⟨_, _, rfl⟩
  go_loopw [5] (fun i wr => ∃ k : Nat, k ≤ K ∧ i = .int .i64 k ∧ wr = w ∧ Hid (∀ j i, j < k → i < bn j → cf j i ≠ 1)) (fun i _ => K - (intOf i).toNat)
  case atStart => exact ⟨0, Nat.zero_le _, rfl, rfl, Lib.hid (fun j i hj => by omega)⟩
  case round =>
    obtain ⟨k, hk, rfl, rfl, HZ⟩ := hrel
    by_cases hk1 : k < K
    · have hk1' : (k : Int) < (K : Int) := by omega
      obtain ⟨cb, cc', hce, hcb⟩ := row_form HH.out.own_c (by omega)
      obtain ⟨rfl, _, rfl⟩ := Value.slice.inj hce
      obtain ⟨yb, yc, rfl, hyb⟩ := row_form HH.out.own_y (by omega)
      have xcb := hcb k _ (rowsV_get hk1)
      have xyb := hyb k _ (starts_get hk1)
      have hb1 := HN.out k
      have hy1 := HY.out k hk1
      have hy2 := ones_le (cf k) (bn k)
      rw [← hy1] at hy2
      obtain ⟨bk, hbk⟩ : ∃ bk, bk = bn k := ⟨_, rfl⟩
      obtain ⟨yk, hyk⟩ : ∃ yk, yk = yf k := ⟨_, rfl⟩
      rw [← hbk] at xcb hb1 hy2
      rw [← hyk] at xyb hy2
      have HBk := Lib.hid hbk
      have HYk := Lib.hid (hyk.trans hy1)
      clear hcb hyb hy1 hbk hyk hce
      go_wp2
      go_loopw [6] (fun i wx => ∃ m : Nat, m ≤ bk ∧ i = .int .i64 m ∧ wx = wr ∧ Hid (∀ i, i < m → cf k i ≠ 1)) (fun i _ => bk - (intOf i).toNat)
      case atStart => exact ⟨0, Nat.zero_le _, rfl, rfl, Lib.hid (fun i hi => by omega)⟩
      case round =>
        obtain ⟨m, hm, rfl, rfl, HM⟩ := hrel
        by_cases hm1 : m < bk
        · have hm1' : (m : Int) < (bk : Int) := by omega
          by_cases hy0 : yk = 0
          · subst hy0
            have HAll : Hid (∀ i, i < bk → cf k i ≠ 1) := Lib.hid (fun i hi h9 => by
              have := ones_pos h9 (m := bn k) (by rw [← HBk.out]; exact hi)
              rw [← HYk.out] at this
              omega)
            go_wp2
            go_roundw
            case measure => simp [intOf]; omega
            case rel => exact ⟨k + 1, by omega, by go_num, trivial, Lib.hid (fun j i hj hi => by
              by_cases e : j = k
              · subst e; exact HAll.out i (by rw [HBk.out]; exact hi)
              · exact HZ.out j i (by omega) hi)⟩
          · have hy0' : (0 : Int) < (yk : Int) := by omega
            have xC := (HH.out.cnt k hk1).cell (show m < bn k by rw [← HBk.out]; exact hm1)
            have hu := HF.out k m
            obtain ⟨u, hue⟩ : ∃ u, u = cf k m := ⟨_, rfl⟩
            rw [← hue] at xC hu
            have HU := Lib.hid hue
            clear hue
            by_cases hu1 : u = 1
            · subst hu1
              go_wp2
              refine bodyPost_ret (v := .tuple #[.int .i64 k, .int .i64 m, .bool true]) (by simp [results, Try.results84, go_sem]) rfl ⟨rfl, .inl ⟨k, m, hk1, by rw [← HBk.out]; exact hm1, HU.out.symm, rfl⟩⟩
            · have hu2 : ((u : Int) == 1) = false := by
                have : (u : Int) ≠ 1 := by omega
                simpa using this
              go_wp2
              go_roundw
              case measure => simp [intOf]; omega
              case rel => exact ⟨m + 1, by omega, by go_num, trivial, Lib.hid (fun i hi => by
                by_cases e : i = m
                · subst e; rw [← HU.out]; exact hu1
                · exact HM.out i (by omega))⟩
        · obtain rfl : m = bk := by omega
          have hm2 : decide ((m : Int) < (m : Int)) = false := by simp
          go_wp2
          go_roundw
          case measure => simp [intOf]; omega
          case rel => exact ⟨k + 1, by omega, by go_num, trivial, Lib.hid (fun j i hj hi => by
            by_cases e : j = k
            · subst e; exact HM.out i (by rw [HBk.out]; exact hi)
            · exact HZ.out j i (by omega) hi)⟩
    · obtain rfl : k = K := by omega
      have hk2 : decide ((k : Int) < (k : Int)) = false := by simp
      go_wp2
      refine bodyPost_ret (v := .tuple #[.int .i64 0, .int .i64 0, .bool false]) (by simp [results, Try.results84, go_sem]) rfl ⟨rfl, .inr ⟨HZ.out, rfl⟩⟩

theorem onL_get {n : Nat} {d : Int × Int} {i M m : Nat} (h : m < (onL n d i M).length) : ∃ c, c < M ∧ lineN n d c = i ∧ (onL n d i M)[m]? = some (((c % n : Nat) : Int), ((c / n : Nat) : Int)) := by
  have h1 : (onL n d i M)[m]? = some (onL n d i M)[m] := List.getElem?_eq_getElem h
  have h2 : (onL n d i M)[m] ∈ onL n d i M := List.getElem_mem h
  unfold onL at h2
  obtain ⟨c, hc, e⟩ := List.mem_map.1 h2
  rw [List.mem_filter, List.mem_range] at hc
  exact ⟨c, hc.1, of_decide_eq_true hc.2, by rw [h1]; exact congrArg some e.symm⟩
theorem onL_has {n : Nat} {d : Int × Int} {i M x : Nat} (hx : x < M) (hl : lineN n d x = i) : ∃ m : Nat, (onL n d i M)[m]? = some (((x % n : Nat) : Int), ((x / n : Nat) : Int)) := by
  have h : (((x % n : Nat) : Int), ((x / n : Nat) : Int)) ∈ onL n d i M := by
    unfold onL
    exact List.mem_map.2 ⟨x, by rw [List.mem_filter, List.mem_range]; exact ⟨hx, decide_eq_true hl⟩, rfl⟩
  obtain ⟨m, hm, e⟩ := List.getElem_of_mem h
  exact ⟨m, by rw [List.getElem?_eq_getElem hm, e]⟩
theorem pair_inj {n x c : Nat} (h : (((x % n : Nat) : Int), ((x / n : Nat) : Int)) = (((c % n : Nat) : Int), ((c / n : Nat) : Int))) : x = c := by
  have h1 := (Prod.mk.inj h).1
  have h2 := (Prod.mk.inj h).2
  have e1 := Nat.div_add_mod x n
  have e2 := Nat.div_add_mod c n
  have h1' : x % n = c % n := by omega
  have h2' : x / n = c / n := by omega
  rw [← e1, ← e2, h1', h2']

theorem cell_walk {w0 : World} {T : Nat → Nat} {b o n M : Nat} {A : Option Addr} {capd : Nat} {ds : List (Int × Int)} {rv cv yv : Value} {C G : Nat → Nat} {kr kc ky : Nat} {S : Nat → Bool} {cf : Nat → Nat → Nat} {yf : Nat → Nat} {w : World}
    (h : Brf w0 T b o n M (.slice A ds.length capd) (bnD n ds) rv cv yv C G kr kc ky S cf yf w) (hD : Dirs w0 A ds) (ho : ∀ d ∈ ds, okD d = true) (hM : M = n * n) (h1 : 1 ≤ n) (h2 : n ≤ 64) (k i x : Nat) (hk : k < ds.length) (hi : i < bnD n ds k) (hx : x < M) (hS : S x = true) (hl : lnD n ds k x = i)
    (hu : ∀ c, c < M → S c = true → lnD n ds k c = i → c = x) :
    Calls Try.prog 86 #[.pointer (some ⟨b, 0, none⟩), .int .i64 k, .int .i64 i] w fun e w' => e = .returned (.int .i64 x) ∧ Below w.heap.size w w' := by
  have hok := ho _ (dirAt_mem hk)
  have hM4 : M ≤ 4096 := by rw [hM]; exact Nat.mul_le_mul h2 h2
  have hD' := hD.later h.below
  obtain ⟨db, off, rfl⟩ : ∃ db off, A = some ⟨db, off, none⟩ := by
    obtain ⟨b', o', e, _⟩ := hD.at_ k _ (dirAt_get hk)
    exact ⟨b', o', e⟩
  obtain ⟨d0, d1⟩ := hD'.pair (dirAt_get hk)
  have HL := Lib.hid (fun w => rLine_walk n M (dirAt ds k).1 (dirAt ds k).2 i w hM h1 h2 hok hi)
  obtain ⟨L, hLe⟩ : ∃ L, L = onL n (dirAt ds k) i M := ⟨_, rfl⟩
  rw [show onL n ((dirAt ds k).1, (dirAt ds k).2) i M = L from hLe.symm] at HL
  have HG : Hid (∀ m, m < L.length → ∃ c, c < M ∧ lnD n ds k c = i ∧ L[m]? = some (((c % n : Nat) : Int), ((c / n : Nat) : Int))) := Lib.hid (fun m hm => by rw [hLe] at hm ⊢; exact onL_get hm)
  have HX : Hid (∃ m : Nat, L[m]? = some (((x % n : Nat) : Int), ((x / n : Nat) : Int))) := Lib.hid (by rw [hLe]; exact onL_has hx hl)
  have hlen : L.length ≤ M := by rw [hLe]; exact onL_len _ _ _ _
  have hL0 : 0 < L.length := by
    obtain ⟨m, hm⟩ := HX.out
    obtain ⟨h3, _⟩ := List.getElem?_eq_some_iff.1 hm
    omega
  obtain ⟨p, hp⟩ : ∃ p, p = (dirAt ds k).1 := ⟨_, rfl⟩
  obtain ⟨q, hq⟩ : ∃ q, q = (dirAt ds k).2 := ⟨_, rfl⟩
  rw [← hp] at d0 HL
  rw [← hq] at d1 HL
  have c0 := h.str.c0
  have c5 := h.str.c5
  have HH := Lib.hid h
  have HU := Lib.hid hu
  have HS := Lib.hid hS
  have hk' : (k : Int) < (ds.length : Int) := by omega
  obtain ⟨N, hN⟩ : ∃ N, N = L.length := ⟨_, rfl⟩
  rw [← hN] at HL hlen hL0 HG
  clear h hu hS hD hD' ho hok hLe hp hq hl
  go_enter Try.func86, Try.ntmps86
  go_upto_region 1 with fail
  have hB0 : Hid (Below w.heap.size w w) := Lib.hid (Below.refl _ _)
  have hB0d : Hid (Below w.heap.size w w.drew) := Lib.hid (Below.refl _ _).drew
  go_region_held3 (fun w' => w'.cell? ⟨b, 0, none⟩ = some (.int .i64 n) ∧ w'.cell? ⟨b, 5, none⟩ = some (.slice (some ⟨db, off, none⟩) ds.length capd) ∧ w'.cell? ⟨db, off + k * 2, none⟩ = some (.int .i64 p) ∧ w'.cell? ⟨db, off + k * 2 + 1, none⟩ = some (.int .i64 q) ∧ Hid (Below w.heap.size w w'))
    (first
      | (refine ⟨?_, ?_, ?_, ?_, ?_⟩ <;> first
           | assumption
           | (exact keepBB (by assumption) hb)
           | (exact keepHH (by assumption) hb))
      | (go_split_ands
         refine ⟨?_, ?_, ?_, ?_, ?_⟩ <;> first
           | assumption
           | (exact keepBB (by assumption) hb)
           | (exact keepHH (by assumption) hb))
      | (go_keep; done))
    ((go_simp; go_at_call 113; refine (HL.out _).mono ?_; rintro e w1 ⟨v, rfl, hown, hb⟩))
  rename_i hheld
  obtain ⟨_, _, _, _, hbb⟩ := hheld
  obtain ⟨g, cap, rfl, hbg, hgl⟩ := World.ownsRow.form hown hL0
  have hcap : N ≤ cap := by
    rcases hown.2 with ⟨h3, _⟩ | ⟨g', cap', cur, h3, _, _, h4, _⟩
    · cases h3
    · obtain ⟨_, _, rfl⟩ := Value.slice.inj h3
      exact h4
  have HW := Lib.hid (fun j u hj => hown.cells (g := g) rfl j u hj)
  have HB := Lib.hid hbb.out
  have HH1 := Lib.hid (HH.out.beyond HB.out)
  clear hown hb c0 c5 d0 d1 hbg hbb hB0 hB0d
  go_wp2_with fail
  go_loopw [9, 10] (fun i _ wr => ∃ m : Nat, m ≤ N ∧ i = .int .i64 m ∧ Hid (∃ z, wr = w1.drewN z) ∧ Hid (∀ j, j < m → L[j]? ≠ some (((x % n : Nat) : Int), ((x / n : Nat) : Int)))) (fun i _ _ => N - (intOf i).toNat)
  case atStart => exact ⟨0, Nat.zero_le _, rfl, Lib.hid ⟨0, rfl⟩, Lib.hid (fun j hj => by omega)⟩
  case round =>
    obtain ⟨m, hm, rfl, HZ, HQ⟩ := hrel
    by_cases hm1 : m < N
    · have hm1' : (m : Int) < (N : Int) := by omega
      obtain ⟨c, hc, hlc, hg⟩ := HG.out m hm1
      obtain ⟨f0, f1⟩ := flatD_get hg
      have y0 : wr.cell? ⟨g, m * 2, none⟩ = some (.int .i64 ((c % n : Nat) : Int)) := by
        obtain ⟨z, rfl⟩ := HZ.out
        have := HW.out _ _ f0
        rw [Go.WideShapes.add_plain, Nat.zero_add] at this
        exact this
      have y1 : wr.cell? ⟨g, m * 2 + 1, none⟩ = some (.int .i64 ((c / n : Nat) : Int)) := by
        obtain ⟨z, rfl⟩ := HZ.out
        have := HW.out _ _ f1
        rw [Go.WideShapes.add_plain, Nat.zero_add] at this
        exact this
      have hHr : Brf w0 T b o n M (.slice (some ⟨db, off, none⟩) ds.length capd) (bnD n ds) rv cv yv C G kr kc ky S cf yf wr := by
        obtain ⟨z, rfl⟩ := HZ.out
        exact HH1.out.drewN z
      have c0 := hHr.str.c0
      have c1 := hHr.str.c1
      have oc := hHr.opn.cell hc
      have hdm := Nat.div_add_mod c n
      have hcn : c % n < n := Nat.mod_lt c (by omega)
      obtain ⟨X, hX⟩ : ∃ X, X = c % n := ⟨_, rfl⟩
      obtain ⟨Y, hY⟩ : ∃ Y, Y = c / n := ⟨_, rfl⟩
      rw [← hX] at y0 hdm hcn
      rw [← hY] at y1 hdm
      obtain ⟨P, hP⟩ : ∃ P, P = n * Y := ⟨_, rfl⟩
      rw [← hP] at hdm
      have hyn : (Y : Int) * (n : Int) = (P : Int) := by rw [hP, Int.natCast_mul, Int.mul_comm]
      have hpx : (P : Int) + (X : Int) = (c : Int) := by omega
      have hcM : (c : Int) < (M : Int) := by omega
      have hP4 : P ≤ 4096 := by omega
      have HE := Lib.hid hg
      have HLc := Lib.hid hlc
      clear hHr hg f0 f1 hX hY hP hlc
      go_wp2_with fail
      go_quiet (fail)
      cases hSc : S c
      · rw [hSc] at oc
        have HSc := Lib.hid hSc
        clear hSc
        go_wp2
        go_roundw
        case measure => simp [intOf]; omega
        case rel =>
          refine ⟨m + 1, by omega, by go_num, Lib.hid (by obtain ⟨z, rfl⟩ := HZ.out; exact ⟨z + nq, drewN_two _ _ _⟩), Lib.hid (fun j hj h9 => ?_)⟩
          by_cases e : j = m
          · subst e
            rw [HE.out] at h9
            have := pair_inj (Option.some.inj h9)
            subst this
            have h10 := HS.out
            rw [HSc.out] at h10
            cases h10
          · exact HQ.out j (by omega) h9
      · rw [hSc] at oc
        have hcx := HU.out c hc hSc HLc.out
        subst hcx
        clear hSc
        go_wp2
        go_ret
        refine ⟨rfl, HB.out.trans ?_⟩
        obtain ⟨z, rfl⟩ := HZ.out
        exact (Drawn.below ⟨_, rfl⟩ _).trans (Drawn.below ⟨_, rfl⟩ _)
    · obtain ⟨m', hm'⟩ := HX.out
      obtain ⟨h3, _⟩ := List.getElem?_eq_some_iff.1 hm'
      exact absurd hm' (HQ.out m' (by omega))
end Go.Proofs.Ytoeeceemoggffaa
