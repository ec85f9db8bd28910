/- Peeling, with no program in sight: what is shut belongs to no stuck set; what stays when no line has one open cell is the core. -/
import Derived.Test.YtoeeceemoggffaaPk
import Derived.Test.YtoeeceemoggffaaPp
namespace Go.Proofs.Ytoeeceemoggffaa

/-- every stuck set lies within the open cells -/
def Kept (n : Nat) (ds : List Pt) (S : Nat → Bool) : Prop := ∀ T, StuckN n ds T → ∀ c, c < n * n → T c = true → S c = true
theorem Kept.all (n : Nat) (ds : List Pt) : Kept n ds (fun _ => true) := fun _ _ _ _ _ => rfl

theorem lineN_eq {n : Nat} {d : Pt} (h : okD d = true) {a b : Nat} (ha : a < n * n) (hb : b < n * n) : lineZ n d a = lineZ n d b ↔ lineN n d a = lineN n d b := by
  have h1 := lineN_cast (n := n) (p := d.1) (q := d.2) rfl h ha
  have h2 := lineN_cast (n := n) (p := d.1) (q := d.2) rfl h hb
  rw [show ((d.1, d.2) : Pt) = d from rfl] at h1 h2
  omega

theorem Kept.shut {n : Nat} {ds : List Pt} {S : Nat → Bool} (h : Kept n ds S) {d : Pt} (hd : d ∈ ds) (ho : okD d = true) {i x : Nat} (hx : x < n * n) (hl : lineN n d x = i)
    (h1 : ∀ c, c < n * n → S c = true → lineN n d c = i → c = x) : Kept n ds (shutC S x) := by
  intro T hT c hc hTc
  unfold shutC
  split
  · rename_i e
    subst e
    obtain ⟨c', g1, g2, g3, g4⟩ := hT d hd c hc hTc
    exact absurd (h1 c' g1 (h T hT c' g1 g3) (((lineN_eq ho g1 hc).1 g4).trans hl)) g2
  · exact h T hT c hc hTc

theorem Core.of {n : Nat} {ds : List Pt} {S : Nat → Bool} (h : Kept n ds S) (ho : ∀ d ∈ ds, okD d = true) (h1 : ∀ d ∈ ds, ∀ i, i < binsN n d → cnt (lineN n d) S (n * n) i ≠ 1) : Core n ds S := by
  refine ⟨fun d hd c hc hS => ?_, h⟩
  have hb : lineN n d c < binsN n d := lineN_lt (n := n) (p := d.1) (q := d.2) rfl (ho d hd) hc
  obtain ⟨c', g1, g2, g3, g4⟩ := cnt_alone hc hS rfl (h1 d hd _ hb)
  exact ⟨c', g1, g2, g3, (lineN_eq (ho d hd) g1 hc).2 g4⟩
end Go.Proofs.Ytoeeceemoggffaa
