/-
  Seats: which votes and seats are valid; quotas.
-/
import Derived.Test.YthngafmnkihkgaaSmall
namespace Go.Proofs.Ythngafmnkihkgaa
open Go.RowKit
theorem gv_f {gs : List Int} {n x : Int} (h : x ∈ gs) (hx : ¬(0 ≤ x ∧ x ≤ 20)) : gv gs n = false := by simp [gv, allB_f h hx]
/-- A share, rounded down and up; -1 twice if an argument is invalid. -/
def quotaF (xs : List Int) (s p : Int) : Int × Int :=
  if vv xs = true ∧ (0 ≤ s ∧ s ≤ 20) ∧ (0 ≤ p ∧ p < xs.length) then (xs.getD p.toNat 0 * s / xs.sum, (xs.getD p.toNat 0 * s + xs.sum - 1) / xs.sum) else (-1, -1)
theorem quotaF_t {xs : List Int} {s p x : Int} (hv : vv xs = true) (hs : 0 ≤ s ∧ s ≤ 20) (hp : 0 ≤ p ∧ p < xs.length) (hx : xs[p.toNat]? = some x) : quotaF xs s p = (x * s / xs.sum, (x * s + xs.sum - 1) / xs.sum) := by
  rw [quotaF, if_pos ⟨hv, hs, hp⟩]; simp [hx]
theorem quotaF_f {xs : List Int} {s p : Int} (h : ¬(vv xs = true ∧ (0 ≤ s ∧ s ≤ 20) ∧ (0 ≤ p ∧ p < xs.length))) : quotaF xs s p = (-1, -1) := by
  rw [quotaF, if_neg h]
theorem mul_bd {a b M N : Int} (ha : 0 ≤ a ∧ a ≤ M) (hb : 0 ≤ b ∧ b ≤ N) : 0 ≤ a * b ∧ a * b ≤ M * N :=
  ⟨Int.mul_nonneg ha.1 hb.1, Int.mul_le_mul ha.2 hb.2 hb.1 (by omega)⟩
end Go.Proofs.Ythngafmnkihkgaa
