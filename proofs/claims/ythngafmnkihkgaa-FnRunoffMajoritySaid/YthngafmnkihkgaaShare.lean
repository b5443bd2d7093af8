/-
  Shares: hurdles, differences, gaps, squares.
-/
import Derived.Test.YthngafmnkihkgaaSeats
import Derived.Test.YthngafmnkihkgaaApp
namespace Go.Proofs.Ythngafmnkihkgaa
open Go.RowKit
/-- Votes of which those below a hurdle are struck. -/
def cutV (xs : List Int) (p : Int) : List Int := xs.map fun n => if 100 * n < p * xs.sum then 0 else n
theorem cutV_length (xs : List Int) (p : Int) : (cutV xs p).length = xs.length := by simp [cutV]
theorem cutV_at {xs : List Int} {p x : Int} {k : Nat} (h : xs[k]? = some x) : (cutV xs p)[k]? = some (if 100 * x < p * xs.sum then 0 else x) := by simp [cutV, h]
def hurdleF (xs : List Int) (p : Int) : List Int × Bool := if (vv xs = true ∧ 0 ≤ p ∧ p ≤ 100) ∧ vv (cutV xs p) = true then (cutV xs p, true) else ([], false)
theorem hurdleF_t {xs : List Int} {p : Int} (hv : vv xs = true) (hp : 0 ≤ p ∧ p ≤ 100) (hc : vv (cutV xs p) = true) : hurdleF xs p = (cutV xs p, true) := if_pos ⟨⟨hv, hp⟩, hc⟩
theorem hurdleF_f {xs : List Int} {p : Int} (h : ¬((vv xs = true ∧ 0 ≤ p ∧ p ≤ 100) ∧ vv (cutV xs p) = true)) : hurdleF xs p = ([], false) := if_neg h
theorem newIB_of {w w' : World} {r : List Int × Bool} {ys : List Int} {b : Bool} {A : Option Addr} {n c : Nat} (hr : r = (ys, b)) (hn : ys.length = n) (ho : OwnI w' w.heap.size A c ys) (hb : Below w.heap.size w w') : NewIB w r (.returned (.tuple #[.slice A n c, .bool b])) w' := by
  subst hr
  subst hn
  exact ⟨A, c, rfl, ho, hb⟩
end Go.Proofs.Ythngafmnkihkgaa
