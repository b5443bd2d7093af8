/-
  Checked seats of the program and of the reference.
-/
import Derived.Test.YtoblhmbpobbecaaFair
namespace Go.Proofs.Ytoblhmbpobbecaa
open Go.RowKit
/-- The quotient that party i had ahead of its last seat is at least that of party j. -/
def okAt (xs gs : List Int) (m : Int) (i j : Nat) : Bool :=
  !(decide (0 < gs.getD i 0) && decide (xs.getD i 0 * dv (gs.getD j 0) m < xs.getD j 0 * dv (gs.getD i 0 - 1) m))
def checkF (xs gs : List Int) (m : Int) : Bool := vv xs && gv gs xs.length && mv m && (List.range xs.length).all fun i => (List.range xs.length).all fun j => okAt xs gs m i j
theorem checkF_t {xs gs : List Int} {m : Int} (hv : vv xs = true) (hg : gv gs xs.length = true) (hm : mv m = true) :
    checkF xs gs m = (List.range xs.length).all fun i => (List.range xs.length).all fun j => okAt xs gs m i j := by simp [checkF, hv, hg, hm]
theorem okAt_z {xs gs : List Int} {m : Int} {i j : Nat} {g : Int} (hg : gs[i]? = some g) (h : ¬0 < g) : okAt xs gs m i j = true := by simp [okAt, hg, h]
theorem okAt_t {xs gs : List Int} {m : Int} {i j : Nat} {x y g e : Int} (hx : xs[i]? = some x) (hy : xs[j]? = some y) (hg : gs[i]? = some g) (he : gs[j]? = some e) (h : ¬x * dv e m < y * dv (g - 1) m) : okAt xs gs m i j = true := by
  simp [okAt, hx, hy, hg, he]; omega
theorem okAt_f {xs gs : List Int} {m : Int} {i j : Nat} {x y g e : Int} (hx : xs[i]? = some x) (hy : xs[j]? = some y) (hg : gs[i]? = some g) (he : gs[j]? = some e) (h0 : 0 < g) (h : x * dv e m < y * dv (g - 1) m) : okAt xs gs m i j = false := by
  simp [okAt, hx, hy, hg, he, h0, h]
theorem dv_bd {s m : Int} (hm : m = 1 ∨ m = 2) (h0 : 0 ≤ s) (h1 : s ≤ 20) : 0 ≤ dv s m ∧ dv s m ≤ 41 := by
  rcases hm with rfl | rfl <;> unfold dv <;> omega
theorem all2_f {n : Nat} {f : Nat → Nat → Bool} {i j : Nat} (hi : i < n) (hj : j < n) (h : f i j = false) : ((List.range n).all fun i => (List.range n).all fun j => f i j) = false := all_range_f hi (all_range_f hj h)
theorem all2_t {n : Nat} {f : Nat → Nat → Bool} (h : ∀ i, i < n → ∀ j, j < n → f i j = true) : ((List.range n).all fun i => (List.range n).all fun j => f i j) = true := all_range_t fun i hi => all_range_t fun j hj => h i hi j hj
end Go.Proofs.Ytoblhmbpobbecaa
