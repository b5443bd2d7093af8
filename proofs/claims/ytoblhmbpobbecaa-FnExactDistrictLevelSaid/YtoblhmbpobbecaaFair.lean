/-
  Fair seats and checked seats of the program and of the reference.
-/
import Derived.Test.YtoblhmbpobbecaaSeats
import Derived.Test.YtoblhmbpobbecaaFrame
namespace Go.Proofs.Ytoblhmbpobbecaa
open Go.RowKit
theorem all_range_t {n : Nat} {f : Nat → Bool} (h : ∀ j, j < n → f j = true) : (List.range n).all f = true := by simpa using h
theorem all_range_f {n : Nat} {f : Nat → Bool} {j : Nat} (hj : j < n) (h : f j = false) : (List.range n).all f = false := by
  cases hh : (List.range n).all f with
  | false => rfl
  | true => simp at hh; exact absurd (hh j hj) (by simp [h])
theorem all_range_iff {n : Nat} {f : Nat → Bool} : (List.range n).all f = true ↔ ∀ j, j < n → f j = true := by simp
/-- What valid votes and seats give. -/
theorem valid_facts' {xs gs : List Int} (hv : vv xs = true) (hg : gv gs xs.length = true) :
    gs.length = xs.length ∧ (1 ≤ xs.length ∧ xs.length ≤ 5) ∧ (1 ≤ xs.sum ∧ xs.sum ≤ 495) ∧ (0 ≤ gs.sum ∧ gs.sum ≤ 20) ∧ (∀ x ∈ xs, 0 ≤ x ∧ x ≤ 99) ∧ (∀ x ∈ gs, 0 ≤ x ∧ x ≤ 20) := by
  obtain ⟨a1, a2, a3⟩ := vv_iff.1 hv
  obtain ⟨b1, b2, b3⟩ := gv_iff.1 hg
  have := sum_bd xs 99 (fun x hx => by have := a1 x hx; omega)
  have := sum_nonneg gs (fun x hx => (b1 x hx).1)
  exact ⟨by omega, a2, by omega, by omega, a1, b1⟩
theorem wide' {xs : List Int} {M : Int} (h : ∀ x ∈ xs, 0 ≤ x ∧ x ≤ M) (hM : M ≤ 1000000000) : ∀ x ∈ xs, -1000000000 ≤ x ∧ x ≤ 1000000000 := fun x hx => by have := h x hx; omega
/-- The seats of party j are its share, rounded down or up. -/
def fairAt (xs gs : List Int) (j : Nat) : Bool := inB (gs.getD j 0) (quotaF xs gs.sum j).1 (quotaF xs gs.sum j).2
def fairF (xs gs : List Int) : Bool := vv xs && gv gs xs.length && (List.range xs.length).all (fairAt xs gs)
theorem fairF_t {xs gs : List Int} (hv : vv xs = true) (hg : gv gs xs.length = true) : fairF xs gs = (List.range xs.length).all (fairAt xs gs) := by simp [fairF, hv, hg]
end Go.Proofs.Ytoblhmbpobbecaa
