/-
  Plain laws on shares, rounded down and up.
-/
import Derived.Test.YtimldfknbeiadaaSeats
namespace Go.Proofs.Ytimldfknbeiadaa
theorem up_down {n T : Int} (_h0 : 0 ≤ n) (hT : 0 < T) :
    (n / T) * T ≤ n ∧ n ≤ ((n + T - 1) / T) * T ∧ (n + T - 1) / T - n / T ≤ 1 ∧ n / T ≤ (n + T - 1) / T ∧ (n % T = 0 → (n + T - 1) / T = n / T) ∧ (¬n % T = 0 → (n + T - 1) / T = n / T + 1) := by
  have e := Int.mul_ediv_add_emod n T
  have r0 := Int.emod_nonneg n (show T ≠ 0 by omega)
  have r1 := Int.emod_lt_of_pos n hT
  obtain ⟨q, hq⟩ : ∃ q, q = n / T := ⟨_, rfl⟩
  obtain ⟨r, hr⟩ : ∃ r, r = n % T := ⟨_, rfl⟩
  rw [← hq, ← hr] at e ⊢
  rw [← hr] at r0 r1
  have hc : q * T = T * q := Int.mul_comm _ _
  by_cases h : r = 0
  · have e2 : (n + T - 1) / T = q := by
      rw [show n + T - 1 = (T - 1) + T * q by omega, Int.add_mul_ediv_left _ _ (by omega), Int.ediv_eq_zero_of_lt (by omega) (by omega)]; omega
    rw [e2]
    exact ⟨by omega, by omega, by omega, by omega, fun _ => rfl, fun hh => absurd h hh⟩
  · have e2 : (n + T - 1) / T = q + 1 := by
      rw [show n + T - 1 = (r - 1) + T * (q + 1) by rw [Int.mul_add]; omega, Int.add_mul_ediv_left _ _ (by omega), Int.ediv_eq_zero_of_lt (by omega) (by omega)]; omega
    rw [e2]
    have : (q + 1) * T = q * T + T := by rw [Int.add_mul]; omega
    exact ⟨by omega, by omega, by omega, by omega, fun hh => absurd hh h, fun _ => rfl⟩
theorem quota_bd {xs : List Int} {s : Int} {j : Nat} {x : Int} (hv : vv xs = true) (hs : 0 ≤ s ∧ s ≤ 20) (hx : xs[j]? = some x) :
    0 ≤ (quotaF xs s j).1 ∧ (quotaF xs s j).1 ≤ 2000 ∧ 0 ≤ (quotaF xs s j).2 ∧ (quotaF xs s j).2 ≤ 2001 ∧ (quotaF xs s j).1 * xs.sum ≤ x * s ∧ x * s ≤ (quotaF xs s j).2 * xs.sum := by
  have hj := (List.getElem?_eq_some_iff.1 hx).1
  obtain ⟨a1, a2, a3⟩ := vv_iff.1 hv
  have hxb := a1 x (mem_of_at hx)
  have hm := mul_bd (M := 99) (N := 20) hxb hs
  rw [quotaF_t (x := x) hv hs (by omega) (by simpa using hx)]
  have h := up_down (n := x * s) (T := xs.sum) hm.1 a3
  have h0 : 0 ≤ x * s / xs.sum := Int.ediv_nonneg hm.1 (by omega)
  have h1 : x * s / xs.sum ≤ x * s := Int.ediv_le_self _ hm.1
  exact ⟨h0, by omega, by omega, by omega, h.1, h.2.1⟩
/-- The sums of the first k shares, rounded down and up. -/
def loS (xs : List Int) (s : Int) : Nat → Int
  | 0 => 0
  | k + 1 => loS xs s k + (quotaF xs s k).1
def hiS (xs : List Int) (s : Int) : Nat → Int
  | 0 => 0
  | k + 1 => hiS xs s k + (quotaF xs s k).2
theorem loS_bd {xs : List Int} {s : Int} (hv : vv xs = true) (hs : 0 ≤ s ∧ s ≤ 20) {k : Nat} (hk : k ≤ xs.length) :
    (0 ≤ loS xs s k ∧ loS xs s k ≤ 2001 * k ∧ 0 ≤ hiS xs s k ∧ hiS xs s k ≤ 2001 * k) ∧ loS xs s k * xs.sum ≤ (xs.take k).sum * s ∧ (xs.take k).sum * s ≤ hiS xs s k * xs.sum := by
  induction k with
  | zero => simp [loS, hiS]
  | succ k ih =>
    obtain ⟨ih1, ih2, ih3⟩ := ih (by omega)
    have hx : xs[k]? = some xs[k] := List.getElem?_eq_getElem (by omega)
    obtain ⟨q1, q2, q3, q4, q5, q6⟩ := quota_bd hv hs hx
    rw [sum_snoc xs k _ hx, Int.add_mul]
    simp only [loS, hiS, Int.add_mul]
    push_cast
    refine ⟨⟨by omega, by omega, by omega, by omega⟩, by omega, by omega⟩
theorem quota_all {xs : List Int} {s : Int} (hv : vv xs = true) (hs : 0 ≤ s ∧ s ≤ 20) : loS xs s xs.length ≤ s ∧ s ≤ hiS xs s xs.length := by
  obtain ⟨_, h2, h3⟩ := loS_bd hv hs (Nat.le_refl xs.length)
  obtain ⟨_, _, a3⟩ := vv_iff.1 hv
  rw [List.take_length] at h2 h3
  rw [Int.mul_comm xs.sum s] at h2 h3
  exact ⟨Int.le_of_mul_le_mul_right h2 a3, Int.le_of_mul_le_mul_right h3 a3⟩
end Go.Proofs.Ytimldfknbeiadaa
