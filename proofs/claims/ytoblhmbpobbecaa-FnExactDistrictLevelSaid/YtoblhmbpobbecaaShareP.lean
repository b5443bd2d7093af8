/-
  Plain laws on hurdles.
-/
import Derived.Test.YtoblhmbpobbecaaShare
namespace Go.Proofs.Ytoblhmbpobbecaa
theorem hurdleF_len (xs : List Int) (p : Int) : (hurdleF xs p).1.length ≤ xs.length := by
  unfold hurdleF; split <;> simp [cutV]
theorem hurdleF_true {xs : List Int} {p : Int} {ys : List Int} (h : hurdleF xs p = (ys, true)) : (vv xs = true ∧ 0 ≤ p ∧ p ≤ 100) ∧ ys = cutV xs p := by
  unfold hurdleF at h
  split at h
  · rename_i hh
    injection h with h1 _
    exact ⟨hh.1, h1.symm⟩
  · injection h with _ h2; cases h2
theorem sum_le_of {xs ys : List Int} (hl : xs.length = ys.length) (h : ∀ (k : Nat) (x y : Int), xs[k]? = some x → ys[k]? = some y → x ≤ y) : xs.sum ≤ ys.sum := by
  induction xs generalizing ys with
  | nil => cases ys with
    | nil => simp
    | cons => simp at hl
  | cons a t ih => cases ys with
    | nil => simp at hl
    | cons b u =>
      have h0 := h 0 a b rfl rfl
      have := ih (ys := u) (by simpa using hl) (fun k x y hx hy => h (k + 1) x y (by simpa using hx) (by simpa using hy))
      simp only [List.sum_cons]; omega
theorem cutV_zero {xs : List Int} (h : ∀ x ∈ xs, 0 ≤ x) : cutV xs 0 = xs := by
  apply List.ext_getElem
  · simp [cutV]
  · intro i h1 h2
    have := h xs[i] (List.getElem_mem h2)
    simp [cutV]; omega
theorem cutV_mono {xs : List Int} {p x : Int} {k : Nat} (hs : 0 ≤ xs.sum) (_hx : xs[k]? = some x) (h0 : 0 ≤ x) : (if 100 * x < p * xs.sum then 0 else x) ≤ (if 100 * x < (p - 1) * xs.sum then 0 else x) := by
  have e : (p - 1) * xs.sum = p * xs.sum - xs.sum := by rw [Int.sub_mul]; omega
  split <;> split <;> omega
theorem vv_cut {xs : List Int} {p : Int} (hv : vv xs = true) (hc : vv (cutV xs p) = true) : vv (cutV xs (p - 1)) = true := by
  obtain ⟨a1, a2, a3⟩ := vv_iff.1 hv
  obtain ⟨_, _, b3⟩ := vv_iff.1 hc
  refine vv_iff.2 ⟨fun y hy => ?_, by rw [cutV_length]; exact a2, ?_⟩
  · obtain ⟨x, hx, rfl⟩ := List.mem_map.1 hy
    have := a1 x hx
    split <;> omega
  · have : (cutV xs p).sum ≤ (cutV xs (p - 1)).sum := sum_le_of (by simp [cutV]) (fun k x y hx hy => by
      obtain ⟨z, hz⟩ : ∃ z, xs[k]? = some z := ⟨_, List.getElem?_eq_getElem (by have := (List.getElem?_eq_some_iff.1 hx).1; rw [cutV_length] at this; exact this)⟩
      rw [cutV_at hz] at hx hy
      injection hx with hx
      injection hy with hy
      rw [← hx, ← hy]
      exact cutV_mono (by omega) hz (a1 z (mem_of_at hz)).1)
    omega
theorem hurdle_less {xs : List Int} {p : Int} (hv : vv xs = true) (hp : 1 ≤ p ∧ p ≤ 100) (hc : vv (cutV xs p) = true) : hurdleF xs (p - 1) = (cutV xs (p - 1), true) := hurdleF_t hv ⟨by omega, by omega⟩ (vv_cut hv hc)
theorem hurdle_zero {xs : List Int} (hv : vv xs = true) : hurdleF xs 0 = (xs, true) := by
  have e := cutV_zero (fun x hx => ((vv_iff.1 hv).1 x hx).1)
  have := hurdleF_t (p := 0) hv ⟨by omega, by omega⟩ (by rw [e]; exact hv)
  rwa [e] at this
theorem hurdleF_true' {xs : List Int} {p : Int} {ys : List Int} (h : hurdleF xs p = (ys, true)) : vv (cutV xs p) = true := by
  unfold hurdleF at h
  split at h
  · rename_i hh; exact hh.2
  · injection h with _ h2; cases h2
end Go.Proofs.Ytoblhmbpobbecaa
