/-
  Squares of sums and sums of squares, in plain Lean.
-/
import Derived.Test.YtimldfknbeiadaaDiff
namespace Go.Proofs.Ytimldfknbeiadaa
open Go.RowKit
theorem sqL_nonneg (t : List Int) : 0 ≤ sqL t := by
  induction t with
  | nil => simp [sqL]
  | cons a t ih =>
    have e : sqL (a :: t) = a * a + sqL t := by simp [sqL]
    have h2 : 0 ≤ a * a := by
      rcases Int.le_total 0 a with h | h
      · exact Int.mul_nonneg h h
      · have := Int.mul_nonneg (show 0 ≤ -a by omega) (show 0 ≤ -a by omega)
        rwa [Int.neg_mul_neg] at this
    omega
theorem sq_pos {xs : List Int} (h : ∀ x ∈ xs, 0 ≤ x) (hs : 0 < xs.sum) : 0 < sqL xs := by
  induction xs with
  | nil => simp at hs
  | cons a t ih =>
    have e : sqL (a :: t) = a * a + sqL t := by simp [sqL]
    have h0 := h a (by simp)
    have ht := sqL_nonneg t
    rcases Int.lt_or_eq_of_le h0 with ha | ha
    · have := Int.mul_pos ha ha
      omega
    · subst ha
      have h3 := ih (fun x hx => h x (by simp [hx])) (by simpa using hs)
      simp only [Int.mul_zero] at e
      omega
/-- How many are greater than 0. -/
def posN (xs : List Int) : Int := (xs.map fun x => if 0 < x then (1 : Int) else 0).sum
theorem cs_all (xs : List Int) (h : ∀ x ∈ xs, 0 ≤ x) (y z : Int) : 2 * y * z * xs.sum ≤ posN xs * (y * y) + z * z * sqL xs := by
  induction xs with
  | nil => simp [posN, sqL]
  | cons a t ih =>
    have h1 := ih (fun x hx => h x (by simp [hx]))
    have e1 : sqL (a :: t) = a * a + sqL t := by simp [sqL]
    have e2 : posN (a :: t) = (if 0 < a then 1 else 0) + posN t := by simp [posN]
    have e3 : (a :: t).sum = a + t.sum := by simp
    rw [e1, e2, e3, Int.mul_add, Int.mul_add, Int.add_mul]
    have h0 := h a (by simp)
    have h2 : 2 * y * z * a ≤ (if 0 < a then (1 : Int) else 0) * (y * y) + z * z * (a * a) := by
      split
      · have hsq : 0 ≤ (y - z * a) * (y - z * a) := by
          rcases Int.le_total 0 (y - z * a) with hh | hh
          · exact Int.mul_nonneg hh hh
          · have := Int.mul_nonneg (show 0 ≤ -(y - z * a) by omega) (show 0 ≤ -(y - z * a) by omega)
            rwa [Int.neg_mul_neg] at this
        have e : (y - z * a) * (y - z * a) = y * y + z * z * (a * a) - 2 * y * z * a := by
          rw [Int.sub_mul, Int.mul_sub, Int.mul_sub]
          have a1 : z * a * y = y * z * a := by ac_rfl
          have a2 : y * (z * a) = y * z * a := by ac_rfl
          have a3 : z * a * (z * a) = z * z * (a * a) := by ac_rfl
          have a4 : 2 * y * z * a = 2 * (y * z * a) := by rw [Int.mul_assoc 2, Int.mul_assoc 2]
          rw [a1, a2, a3, a4]; omega
        omega
      · obtain rfl : a = 0 := by omega
        simp
    omega
theorem cauchy {xs : List Int} (h : ∀ x ∈ xs, 0 ≤ x) (hn : 0 < posN xs) : xs.sum * xs.sum ≤ posN xs * sqL xs := by
  have h1 := cs_all xs h xs.sum (posN xs)
  generalize posN xs = n at *
  generalize xs.sum = T at *
  generalize sqL xs = Q at *
  have e1 : 2 * T * n * T = 2 * (n * (T * T)) := by rw [Int.mul_assoc, Int.mul_assoc]; congr 1; ac_rfl
  have e2 : n * n * Q = n * (n * Q) := Int.mul_assoc _ _ _
  rw [e1, e2] at h1
  exact Int.le_of_mul_le_mul_left (by omega) hn
/-- The greatest number, and 0. -/
def mostL (xs : List Int) : Int := xs.foldl max 0
theorem mostL_ge (xs : List Int) : ∀ x ∈ xs, x ≤ mostL xs := (le_foldl_max xs 0).2
theorem mostL_nn (xs : List Int) : 0 ≤ mostL xs := (le_foldl_max xs 0).1
/-- All that are greater than 0 are the greatest. -/
def sameB (xs : List Int) (j : Nat) : Bool := (xs.take j).all fun x => !decide (0 < x) || (x == mostL xs)
theorem sameB_snoc {xs : List Int} {j : Nat} {x : Int} (h : xs[j]? = some x) : sameB xs (j + 1) = (sameB xs j && (!decide (0 < x) || (x == mostL xs))) := by
  unfold sameB; rw [take_snoc _ _ _ h, List.all_append]; simp
theorem posN_snoc {xs : List Int} {j : Nat} {x : Int} (h : xs[j]? = some x) : posN (xs.take (j + 1)) = posN (xs.take j) + if 0 < x then 1 else 0 := by
  unfold posN; rw [take_snoc _ _ _ h, List.map_append, sum_append]; simp
theorem posN_bd (xs : List Int) : 0 ≤ posN xs ∧ posN xs ≤ xs.length := by
  induction xs with
  | nil => simp [posN]
  | cons a t ih =>
    have e : posN (a :: t) = (if 0 < a then 1 else 0) + posN t := by simp [posN]
    rw [e]
    simp only [List.length_cons]
    split <;> push_cast <;> omega
theorem posN_pos {xs : List Int} (hs : 0 < xs.sum) : 0 < posN xs := by
  induction xs with
  | nil => simp at hs
  | cons a t ih =>
    have e : posN (a :: t) = (if 0 < a then 1 else 0) + posN t := by simp [posN]
    rw [e]
    have := (posN_bd t).1
    split
    · omega
    · have h2 : 0 < t.sum := by simp at hs; omega
      have := ih h2
      omega
theorem same_sums {xs : List Int} (h : ∀ x ∈ xs, 0 ≤ x) {m : Int} (hm : ∀ x ∈ xs, 0 < x → x = m) : xs.sum = posN xs * m ∧ sqL xs = posN xs * (m * m) := by
  induction xs with
  | nil => simp [posN, sqL]
  | cons a t ih =>
    obtain ⟨i1, i2⟩ := ih (fun x hx => h x (by simp [hx])) (fun x hx => hm x (by simp [hx]))
    have e1 : sqL (a :: t) = a * a + sqL t := by simp [sqL]
    have e2 : posN (a :: t) = (if 0 < a then 1 else 0) + posN t := by simp [posN]
    have e3 : (a :: t).sum = a + t.sum := by simp
    have h0 := h a (by simp)
    rw [e1, e2, e3, i1, i2]
    split
    · rename_i ha
      have := hm a (by simp) ha
      subst this
      constructor
      · rw [Int.add_mul, Int.one_mul]
      · rw [Int.add_mul, Int.one_mul]
    · obtain rfl : a = 0 := by omega
      simp
theorem sq_le_sum {xs : List Int} (h : ∀ x ∈ xs, 0 ≤ x) : sqL xs ≤ xs.sum * xs.sum := by
  induction xs with
  | nil => simp [sqL]
  | cons a t ih =>
    have i := ih (fun x hx => h x (by simp [hx]))
    have e1 : sqL (a :: t) = a * a + sqL t := by simp [sqL]
    have e3 : (a :: t).sum = a + t.sum := by simp
    have h0 := h a (by simp)
    have h2 := sum_nonneg t (fun x hx => h x (by simp [hx]))
    have h3 := Int.mul_nonneg h0 h2
    rw [e1, e3, Int.add_mul, Int.mul_add, Int.mul_add, Int.mul_comm t.sum a]
    omega
end Go.Proofs.Ytimldfknbeiadaa
