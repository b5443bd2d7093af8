/-
  Squares of sums and sums of squares, in plain Lean.
-/
import Derived.Test.YtcddfibohcgjbaaParts
namespace Go.Proofs.Ytcddfibohcgjbaa
open Go.RowKit
/-- How many are greater than 0. -/
def posN (xs : List Int) : Int := (xs.map fun x => if 0 < x then (1 : Int) else 0).sum
theorem cs_all (xs : List Int) (h : ∀ x ∈ xs, 0 ≤ x) (y z : Int) : 2 * y * z * xs.sum ≤ posN xs * (y * y) + z * z * sqL xs := by
  induction xs with
  | nil => simp [posN, sqL]
  | cons a t ih =>
    have h1 := ih (fun x hx => h x (by simp [hx]))
    have e1 : sqL (a :: t) = a * a + sqL t := by simp [sqL]
    have e2 : posN (a :: t) = (if 0 < a then 1 else 0) + posN t := by simp [posN]
    have e3 : (a :: t).sum = a + t.sum := by simp
    rw [e1, e2, e3, Int.mul_add, Int.mul_add, Int.add_mul]
    have h0 := h a (by simp)
    have h2 : 2 * y * z * a ≤ (if 0 < a then (1 : Int) else 0) * (y * y) + z * z * (a * a) := by
      split
      · have hsq : 0 ≤ (y - z * a) * (y - z * a) := by
          rcases Int.le_total 0 (y - z * a) with hh | hh
          · exact Int.mul_nonneg hh hh
          · have := Int.mul_nonneg (show 0 ≤ -(y - z * a) by omega) (show 0 ≤ -(y - z * a) by omega)
            rwa [Int.neg_mul_neg] at this
        have e : (y - z * a) * (y - z * a) = y * y + z * z * (a * a) - 2 * y * z * a := by
          rw [Int.sub_mul, Int.mul_sub, Int.mul_sub]
          have a1 : z * a * y = y * z * a := by ac_rfl
          have a2 : y * (z * a) = y * z * a := by ac_rfl
          have a3 : z * a * (z * a) = z * z * (a * a) := by ac_rfl
          have a4 : 2 * y * z * a = 2 * (y * z * a) := by rw [Int.mul_assoc 2, Int.mul_assoc 2]
          rw [a1, a2, a3, a4]; omega
        omega
      · obtain rfl : a = 0 := by omega
        simp
    omega
theorem cauchy {xs : List Int} (h : ∀ x ∈ xs, 0 ≤ x) (hn : 0 < posN xs) : xs.sum * xs.sum ≤ posN xs * sqL xs := by
  have h1 := cs_all xs h xs.sum (posN xs)
  generalize posN xs = n at *
  generalize xs.sum = T at *
  generalize sqL xs = Q at *
  have e1 : 2 * T * n * T = 2 * (n * (T * T)) := by rw [Int.mul_assoc, Int.mul_assoc]; congr 1; ac_rfl
  have e2 : n * n * Q = n * (n * Q) := Int.mul_assoc _ _ _
  rw [e1, e2] at h1
  exact Int.le_of_mul_le_mul_left (by omega) hn
/-- The greatest number, and 0. -/
def mostL (xs : List Int) : Int := xs.foldl max 0
theorem mostL_ge (xs : List Int) : ∀ x ∈ xs, x ≤ mostL xs := (le_foldl_max xs 0).2
theorem mostL_nn (xs : List Int) : 0 ≤ mostL xs := (le_foldl_max xs 0).1
/-- All that are greater than 0 are the greatest. -/
def sameB (xs : List Int) (j : Nat) : Bool := (xs.take j).all fun x => !decide (0 < x) || (x == mostL xs)
theorem sameB_snoc {xs : List Int} {j : Nat} {x : Int} (h : xs[j]? = some x) : sameB xs (j + 1) = (sameB xs j && (!decide (0 < x) || (x == mostL xs))) := by
  unfold sameB; rw [take_snoc _ _ _ h, List.all_append]; simp
theorem posN_snoc {xs : List Int} {j : Nat} {x : Int} (h : xs[j]? = some x) : posN (xs.take (j + 1)) = posN (xs.take j) + if 0 < x then 1 else 0 := by
  unfold posN; rw [take_snoc _ _ _ h, List.map_append, sum_append]; simp
theorem posN_bd (xs : List Int) : 0 ≤ posN xs ∧ posN xs ≤ xs.length := by
  induction xs with
  | nil => simp [posN]
  | cons a t ih =>
    have e : posN (a :: t) = (if 0 < a then 1 else 0) + posN t := by simp [posN]
    rw [e]
    simp only [List.length_cons]
    split <;> push_cast <;> omega
theorem posN_pos {xs : List Int} (hs : 0 < xs.sum) : 0 < posN xs := by
  induction xs with
  | nil => simp at hs
  | cons a t ih =>
    have e : posN (a :: t) = (if 0 < a then 1 else 0) + posN t := by simp [posN]
    rw [e]
    have := (posN_bd t).1
    split
    · omega
    · have h2 : 0 < t.sum := by simp at hs; omega
      have := ih h2
      omega
theorem same_sums {xs : List Int} (h : ∀ x ∈ xs, 0 ≤ x) {m : Int} (hm : ∀ x ∈ xs, 0 < x → x = m) : xs.sum = posN xs * m ∧ sqL xs = posN xs * (m * m) := by
  induction xs with
  | nil => simp [posN, sqL]
  | cons a t ih =>
    obtain ⟨i1, i2⟩ := ih (fun x hx => h x (by simp [hx])) (fun x hx => hm x (by simp [hx]))
    have e1 : sqL (a :: t) = a * a + sqL t := by simp [sqL]
    have e2 : posN (a :: t) = (if 0 < a then 1 else 0) + posN t := by simp [posN]
    have e3 : (a :: t).sum = a + t.sum := by simp
    have h0 := h a (by simp)
    rw [e1, e2, e3, i1, i2]
    split
    · rename_i ha
      have := hm a (by simp) ha
      subst this
      constructor
      · rw [Int.add_mul, Int.one_mul]
      · rw [Int.add_mul, Int.one_mul]
    · obtain rfl : a = 0 := by omega
      simp
theorem div_gcd_le {a b n : Nat} (hb : 0 < b) (h : a ≤ n * b) : a / Nat.gcd a b ≤ n * (b / Nat.gcd a b) := by
  have hg : 0 < Nat.gcd a b := Nat.gcd_pos_of_pos_right _ hb
  have e : n * (b / Nat.gcd a b) = n * b / Nat.gcd a b := (Nat.mul_div_assoc _ (Nat.gcd_dvd_right a b)).symm
  rw [e]
  exact Nat.div_le_div_right h
theorem sq_le_sum {xs : List Int} (h : ∀ x ∈ xs, 0 ≤ x) : sqL xs ≤ xs.sum * xs.sum := by
  induction xs with
  | nil => simp [sqL]
  | cons a t ih =>
    have i := ih (fun x hx => h x (by simp [hx]))
    have e1 : sqL (a :: t) = a * a + sqL t := by simp [sqL]
    have e3 : (a :: t).sum = a + t.sum := by simp
    have h0 := h a (by simp)
    have h2 := sum_nonneg t (fun x hx => h x (by simp [hx]))
    have h3 := Int.mul_nonneg h0 h2
    rw [e1, e3, Int.add_mul, Int.mul_add, Int.mul_add, Int.mul_comm t.sum a]
    omega
/-- What the law asks of equal parties. -/
theorem parts_law {xs : List Int} {p q : Nat} (hr : partsF xs = ((p, q), true)) : vv xs = true ∧ ∃ n : Nat, posN xs = n ∧ n ≤ 5 ∧ q ≤ p ∧ p ≤ n * q ∧ p ≤ 245025 ∧ q ≤ 49005 ∧ (sameB xs xs.length = true → p = n ∧ q = 1) := by
  by_cases hv : vv xs = true
  · refine ⟨hv, ?_⟩
    obtain ⟨T, Q, hT, hQ, hT5, hTT, hQ1, hQ2⟩ := parts_facts hv
    rw [partsF_t hv hT hQ] at hr
    injection hr with hr _
    injection hr with hp hq
    obtain ⟨a1, ⟨_, a2⟩, a3⟩ := vv_iff.1 hv
    have hnn : ∀ x ∈ xs, 0 ≤ x := fun x hx => (a1 x hx).1
    have hb := posN_bd xs
    have hpos := posN_pos a3
    obtain ⟨n, hn⟩ := Int.eq_ofNat_of_zero_le hb.1
    have hc := cauchy hnn hpos
    have hs := sq_le_sum hnn
    rw [hn, hT, hQ] at hc
    rw [hT, hQ] at hs
    have hc' : T * T ≤ n * Q := by exact_mod_cast hc
    have hs' : Q ≤ T * T := by exact_mod_cast hs
    refine ⟨n, hn, by omega, ?_, ?_, ?_, ?_, fun hsame => ?_⟩
    · rw [← hp, ← hq]; exact Nat.div_le_div_right hs'
    · rw [← hp, ← hq]; exact div_gcd_le hQ1 hc'
    · rw [← hp]; exact Nat.le_trans (Nat.div_le_self _ _) hTT
    · rw [← hq]; exact Nat.le_trans (Nat.div_le_self _ _) hQ2
    · have hm : ∀ x ∈ xs, 0 < x → x = mostL xs := fun x hx h0 => by
        unfold sameB at hsame
        rw [List.take_length, List.all_eq_true] at hsame
        have := hsame x hx
        simp [h0] at this
        exact this
      obtain ⟨s1, s2⟩ := same_sums hnn hm
      have e : T * T = n * Q := by
        have : (xs.sum * xs.sum : Int) = posN xs * sqL xs := by rw [s2, s1]; ac_rfl
        rw [hT, hn, hQ] at this
        exact_mod_cast this
      have hg : Nat.gcd (T * T) Q = Q := by rw [e]; exact Nat.gcd_mul_left_left n Q
      rw [hg] at hp hq
      rw [e] at hp
      rw [Nat.mul_div_cancel _ hQ1] at hp
      rw [Nat.div_self hQ1] at hq
      exact ⟨hp.symm, hq.symm⟩
  · exfalso
    rw [partsF_f (by simpa using hv)] at hr
    injection hr with _ h2
    cases h2
set_option maxHeartbeats 400000 in
theorem lawMost_any (A : Option Addr) (xs : List Int) (c : Nat) (w : World) (h : Ints w A xs) (hl : xs.length ≤ 1048576) :
    Calls Try.prog 23 #[.slice A xs.length c] w (Ret w (.int .i64 (mostL xs))) := by
  go_enter Try.func23, Try.ntmps23
  go_wp2
  go_loop [3, 4] (fun n i => ∃ k : Nat, k ≤ xs.length ∧ i = .int .i64 k ∧ n = .int .i64 (mostL (xs.take k))) (fun _ i => xs.length - (intOf i).toNat)
  case atStart => exact ⟨0, by omega, rfl, rfl⟩
  case round =>
    obtain ⟨k, hk, rfl, rfl⟩ := hrel
    by_cases hlt : k < xs.length
    · obtain ⟨ad, x, rfl, hx, hc⟩ := h.at_ hlt
      have hs := Lib.hid (show mostL (xs.take (k + 1)) = max (mostL (xs.take k)) x from by unfold mostL; rw [take_snoc _ _ _ hx.out, List.foldl_append]; rfl)
      go_wp2
      go_round
      case rel => exact ⟨k + 1, by omega, by go_num, by rw [hs.out]; first | rfl | exact val_int (by split <;> omega) | exact val_int (by omega)⟩
      case measure => simp [intOf]; omega
    · have h2 : xs.length ≤ k := by omega
      clear hlt
      go_wp2
      go_ret
      exact ⟨ret_int (by rw [List.take_of_length_le (by omega)]), rfl⟩
end Go.Proofs.Ytcddfibohcgjbaa
