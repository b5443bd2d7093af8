/-
  What a law over a code learns of seats by remainders.
-/
import Derived.Test.YtimldfknbeiadaaRemP
import Derived.Test.YtimldfknbeiadaaRemS
import Derived.Test.YtimldfknbeiadaaDrawR
namespace Go.Proofs.Ytimldfknbeiadaa
open Go.RowKit
section
variable {xs : List Int} {s : Int} {ls ys : List Int}
theorem RemFin.bd (f : RemFin xs s ls ys) : ∀ y ∈ ys, 0 ≤ y ∧ y ≤ s := fun y hy => ⟨f.nn y hy, by
  have key : ∀ l : List Int, (∀ x ∈ l, 0 ≤ x) → ∀ y ∈ l, y ≤ l.sum := by
    intro l
    induction l with
    | nil => simp
    | cons a t ih =>
      intro hl y hy
      have h1 := hl a (by simp)
      have h2 := sum_nonneg t (fun x hx => hl x (by simp [hx]))
      simp only [List.sum_cons]
      rcases List.mem_cons.1 hy with rfl | hy
      · omega
      · have := ih (fun x hx => hl x (by simp [hx])) y hy
        omega
  have := key ys f.nn y hy
  have := f.sum
  omega⟩
theorem rem_order (f : RemFin xs s ls ys) {i k : Nat} (hi : i < xs.length) (hk : k < xs.length) :
    xs.getD i 0 * s / xs.sum < ys.getD i 0 → ys.getD k 0 = xs.getD k 0 * s / xs.sum →
      xs.getD k 0 * s % xs.sum ≤ xs.getD i 0 * s % xs.sum ∧ (xs.getD k 0 * s % xs.sum = xs.getD i 0 * s % xs.sum → bef ls k i = false) := by
  have w1 := whole_getD (s := s) hi
  have w2 := whole_getD (s := s) hk
  have r1 := rest_getD (s := s) hi
  have r2 := rest_getD (s := s) hk
  rw [← w1, ← w2, ← r1, ← r2]
  intro h1 h2
  rcases f.one i hi with h | ⟨h, _⟩
  · omega
  · exact f.ord i k hi hk h h2
end
end Go.Proofs.Ytimldfknbeiadaa
