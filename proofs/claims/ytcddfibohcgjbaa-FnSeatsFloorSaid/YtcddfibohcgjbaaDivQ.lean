/-
  What a law over a code learns of seats by divisors.
-/
import Derived.Test.YtcddfibohcgjbaaDivP
import Derived.Test.YtcddfibohcgjbaaDivisS
import Derived.Test.YtcddfibohcgjbaaLotsE
namespace Go.Proofs.Ytcddfibohcgjbaa
open Go.ChangeShapes Go.WideShapes Go.ChangeAt Go.RowKit
theorem giveN_len (xs : List Int) (m : Int) (ls : List Int) (k : Nat) : (giveN xs m ls k).length = xs.length := by
  induction k with
  | zero => exact List.length_replicate
  | succ k ih => show (bump _ _).length = _; rw [bump_len, ih]
theorem divF_len {xs : List Int} (h : xs.length ≤ 5) (s m : Int) (ls : List Int) : (divF xs s m ls).1.length ≤ 5 := by
  unfold divF; split
  · show (giveN _ _ _ _).length ≤ 5; rw [giveN_len]; exact h
  · simp
theorem divF_true {xs : List Int} {s m : Int} {ls ys : List Int} (h : divF xs s m ls = (ys, true)) : ∃ k : Nat, s = k ∧ k ≤ 20 ∧ divC xs m ls = true ∧ ys = giveN xs m ls k := by
  unfold divF at h
  split at h
  · rename_i hc
    rw [Bool.and_eq_true] at hc
    obtain ⟨a, b⟩ := inB_iff.1 hc.1
    obtain ⟨k, rfl⟩ := Int.eq_ofNat_of_zero_le a
    injection h with h1 h2
    exact ⟨k, rfl, by omega, hc.2, h1.symm⟩
  · injection h with _ h2; cases h2
section
variable {xs : List Int} {m : Int} {ls ys : List Int} {k : Nat}
theorem div_given (h : divC xs m ls = true) (hy : ys = giveN xs m ls k) (hk : k ≤ 20) : Given xs ys k := by
  subst hy; exact (divOk_of h).1.given k (by omega)
theorem div_fit (h : divC xs m ls = true) (hy : ys = giveN xs m ls k) (hk : k ≤ 20) : Fit xs ys m := by
  obtain ⟨o, _, _, hv, _⟩ := divOk_of h
  subst hy; exact giveN_fit o hv k hk
theorem div_floor (h : divC xs 1 ls = true) (hy : ys = giveN xs 1 ls k) (hk : k ≤ 20) {i : Nat} (hi : i < xs.length) : xs.getD i 0 * k < (ys.getD i 0 + 1) * xs.sum := by
  have g := div_given h hy hk
  have f := div_fit h hy hk
  obtain ⟨a1, a2, a3⟩ := vv_iff.1 (divOk_of h).2.1
  have := f.floor (fun x hx => (a1 x hx).1) g.len a3 (fun y hy => (g.bd y hy).1) hi
  rw [g.sum] at this
  exact this
end
end Go.Proofs.Ytcddfibohcgjbaa
