/-
  What a law over a code learns of seats by divisors.
-/
import Derived.Test.YtoblhmbpobbecaaDivP
import Derived.Test.YtoblhmbpobbecaaDivisS
import Derived.Test.YtoblhmbpobbecaaLotsE
namespace Go.Proofs.Ytoblhmbpobbecaa
open Go.ChangeShapes Go.WideShapes Go.ChangeAt Go.RowKit
theorem giveN_len (xs : List Int) (m : Int) (ls : List Int) (k : Nat) : (giveN xs m ls k).length = xs.length := by
  induction k with
  | zero => exact List.length_replicate
  | succ k ih => show (bump _ _).length = _; rw [bump_len, ih]
theorem divF_len {xs : List Int} (h : xs.length ≤ 5) (s m : Int) (ls : List Int) : (divF xs s m ls).1.length ≤ 5 := by
  unfold divF; split
  · show (giveN _ _ _ _).length ≤ 5; rw [giveN_len]; exact h
  · simp
theorem divF_true {xs : List Int} {s m : Int} {ls ys : List Int} (h : divF xs s m ls = (ys, true)) : ∃ k : Nat, s = k ∧ k ≤ 20 ∧ divC xs m ls = true ∧ ys = giveN xs m ls k := by
  unfold divF at h
  split at h
  · rename_i hc
    rw [Bool.and_eq_true] at hc
    obtain ⟨a, b⟩ := inB_iff.1 hc.1
    obtain ⟨k, rfl⟩ := Int.eq_ofNat_of_zero_le a
    injection h with h1 h2
    exact ⟨k, rfl, by omega, hc.2, h1.symm⟩
  · injection h with _ h2; cases h2
section
variable {xs : List Int} {m : Int} {ls ys : List Int} {k : Nat}
theorem div_given (h : divC xs m ls = true) (hy : ys = giveN xs m ls k) (hk : k ≤ 20) : Given xs ys k := by
  subst hy; exact (divOk_of h).1.given k (by omega)
theorem div_fit (h : divC xs m ls = true) (hy : ys = giveN xs m ls k) (hk : k ≤ 20) : Fit xs ys m := by
  obtain ⟨o, _, _, hv, _⟩ := divOk_of h
  subst hy; exact giveN_fit o hv k hk
theorem div_floor (h : divC xs 1 ls = true) (hy : ys = giveN xs 1 ls k) (hk : k ≤ 20) {i : Nat} (hi : i < xs.length) : xs.getD i 0 * k < (ys.getD i 0 + 1) * xs.sum := by
  have g := div_given h hy hk
  have f := div_fit h hy hk
  obtain ⟨a1, a2, a3⟩ := vv_iff.1 (divOk_of h).2.1
  have := f.floor (fun x hx => (a1 x hx).1) g.len a3 (fun y hy => (g.bd y hy).1) hi
  rw [g.sum] at this
  exact this
theorem div_more (h : divC xs m ls = true) (hy : ys = giveN xs m ls k) (hk : k < 20) :
    ∃ q : Nat, q < xs.length ∧ nextF xs ys m ls = q ∧ ∀ j y z, ys[j]? = some y → (giveN xs m ls (k + 1))[j]? = some z → z = if j = q then y + 1 else y := by
  obtain ⟨o, _, _, hv, _⟩ := divOk_of h
  subst hy
  obtain ⟨q, hq, hb, he⟩ := o.best hv k (by omega)
  refine ⟨q, hb.lt, by rw [nextF_t h (o.given k (by omega)) (by omega), hq], fun j y z hy hz => ?_⟩
  rw [he] at hz
  have h1 := getD_of hz
  rw [bump_getD (by rw [giveN_len]; exact hb.lt)] at h1
  have h2 := getD_of hy
  split at h1
  · rename_i e; subst e; rw [if_pos rfl]; omega
  · rename_i e; rw [if_neg e]; omega
theorem divF_succ (h : divC xs m ls = true) (hk : k < 20) : divF xs ((k : Int) + 1) m ls = (giveN xs m ls (k + 1), true) := divF_t (s := k + 1) (by omega) h
theorem vv_twice (hv : vv xs = true) (h : ∀ x ∈ xs, x ≤ 49) : vv (xs.map fun x => 2 * x) = true := by
  obtain ⟨a1, a2, a3⟩ := vv_iff.1 hv
  refine vv_iff.2 ⟨fun y hy => ?_, by simpa using a2, ?_⟩
  · obtain ⟨x, hx, rfl⟩ := List.mem_map.1 hy
    have := a1 x hx; have := h x hx; omega
  · have e : (xs.map fun x => 2 * x) = xs.map fun x => x * 2 := List.map_congr_left fun x _ => Int.mul_comm _ _
    rw [e, sum_scale]; omega
theorem div_scale (h : divC xs m ls = true) (hy : ys = giveN xs m ls k) (hk : k ≤ 20) (h49 : ∀ x ∈ xs, x ≤ 49) : divF (xs.map fun x => 2 * x) k m ls = (ys, true) := by
  obtain ⟨o, hv, hm, hl, hll⟩ := divOk_of h
  have h2 : divC (xs.map fun x => 2 * x) m ls = true := by simp [divC, vv_twice hv h49, hm, hl, hll]
  rw [divF_t hk h2, giveN_scale, hy]
theorem div_zero (h : divC xs m ls = true) (hy : ys = giveN xs m ls k) (hk : k ≤ 20) {i : Nat} (hi : i < xs.length) (hx : xs.getD i 0 = 0) : ys.getD i 0 ≤ 0 := by
  obtain ⟨o, hv, _, _, _⟩ := divOk_of h
  exact (div_fit h hy hk).zero o.hm hv hi hx
theorem div_check (h : divC xs m ls = true) (hy : ys = giveN xs m ls k) (hk : k ≤ 20) : checkF xs ys m = true := by
  obtain ⟨o, hv, hm, _, _⟩ := divOk_of h
  exact (checkF_iff hv (gv_of_given (div_given h hy hk) hk) hm).2 (div_fit h hy hk)
theorem div_order (h : divC xs m ls = true) (hy : ys = giveN xs m ls k) (hk : k ≤ 20) {i j : Nat} (hi : i < xs.length) (hj : j < xs.length) :
    (xs.getD j 0 < xs.getD i 0 → ys.getD j 0 ≤ ys.getD i 0) ∧ (xs.getD i 0 = xs.getD j 0 → bef ls i j = true → ys.getD j 0 ≤ ys.getD i 0 ∧ ys.getD i 0 ≤ ys.getD j 0 + 1) := by
  obtain ⟨o, hv, hm, hl, _⟩ := divOk_of h
  have f := div_fit h hy hk
  have g := div_given h hy hk
  refine ⟨fun hlt => f.order o.hm (fun x hx => (o.xb x hx).1) (fun y hy => (g.bd y hy).1) hi hj hlt, fun he hb => ⟨?_, f.near o.hm hv (fun y hy => (g.bd y hy).1) hj hi he⟩⟩
  subst hy
  exact giveN_tie o hl k hk hi he hb
end
end Go.Proofs.Ytoblhmbpobbecaa
