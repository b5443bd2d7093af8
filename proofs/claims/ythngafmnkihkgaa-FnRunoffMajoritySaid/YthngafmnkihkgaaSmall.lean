/-
  The small functions: ranges, methods, divisors, sums, equal lists, the greatest number, valid votes and seats.
-/
import Derived.Test.YthngafmnkihkgaaBase
import Derived.Test.YthngafmnkihkgaaPlain
namespace Go.Proofs.Ythngafmnkihkgaa
open Go.RowKit
set_option maxHeartbeats 400000 in
theorem l6In_any (n low high : Int) (w : World) : Calls Try.prog 44 #[.int .i64 n, .int .i64 low, .int .i64 high] w (Ret w (.bool (inB n low high))) := by
  by_cases h1 : low ≤ n <;> by_cases h2 : n ≤ high
  all_goals
    go_enter Try.func44, Try.ntmps44
    go_wp2
    go_ret
    exact ⟨ret_bool (by simp [inB, h1, h2]), rfl⟩
set_option maxHeartbeats 400000 in
theorem isMany_any (n : Int) (w : World) : Calls Try.prog 66 #[.int .i64 n] w (Ret w (.bool (inB n 1 5))) := by
  by_cases h1 : 1 ≤ n <;> by_cases h2 : n ≤ 5
  all_goals
    go_enter Try.func66, Try.ntmps66
    go_wp2
    go_ret
    exact ⟨ret_bool (by simp [inB, h1, h2]), rfl⟩
set_option maxHeartbeats 400000 in
theorem lawSum_any (A : Option Addr) (xs : List Int) (c : Nat) (w : World) (h : Ints w A xs) (hl : xs.length ≤ 1048576) (hb : ∀ x ∈ xs, -1000000000 ≤ x ∧ x ≤ 1000000000) :
    Calls Try.prog 15 #[.slice A xs.length c] w (Ret w (.int .i64 xs.sum)) := by
  go_enter Try.func15, Try.ntmps15
  go_wp2
  go_loop [3, 4] (fun n i => ∃ k : Nat, k ≤ xs.length ∧ i = .int .i64 k ∧ n = .int .i64 (xs.take k).sum) (fun _ i => xs.length - (intOf i).toNat)
  case atStart => exact ⟨0, by omega, rfl, rfl⟩
  case round =>
    obtain ⟨k, hk, rfl, rfl⟩ := hrel
    by_cases hlt : k < xs.length
    · obtain ⟨ad, x, rfl, hx, hc⟩ := h.at_ hlt
      have hbd := sum_bd (xs.take k) 1000000000 (fun x hx => hb x (mem_take hx))
      have hxb := hb x (mem_of_at hx.out)
      have hlk : (xs.take k).length ≤ k := List.length_take_le _ _
      clear hb
      go_wp2
      go_round
      case rel => exact ⟨k + 1, by omega, by go_num, by rw [sum_snoc _ _ _ hx.out]⟩
      case measure => simp [intOf]; omega
    · have h2 : xs.length ≤ k := by omega
      clear hlt
      go_wp2
      go_ret
      exact ⟨ret_int (by rw [List.take_of_length_le (by omega)]), rfl⟩
/-- The greatest of a list that is not empty. -/
def maxL : List Int → Int
  | [] => 0
  | a :: t => t.foldl max a
theorem foldl_snoc_max (t : List Int) (a x : Int) : (t ++ [x]).foldl max a = max (t.foldl max a) x := by simp
theorem maxL_snoc (xs : List Int) (k : Nat) (x : Int) (h : xs[k]? = some x) (hk : 0 < k) : maxL (xs.take (k + 1)) = max (maxL (xs.take k)) x := by
  rw [take_snoc xs k x h]
  obtain ⟨a, t, e⟩ : ∃ a t, xs.take k = a :: t := by
    cases hh : xs.take k with
    | nil =>
      have := congrArg List.length hh
      have hlt := (List.getElem?_eq_some_iff.1 h).1
      simp at this
      rcases this with h0 | h0
      · omega
      · subst h0; simp at hlt
    | cons a t => exact ⟨a, t, rfl⟩
  rw [e]
  simp [maxL]
set_option maxHeartbeats 400000 in
theorem sMax_any (A : Option Addr) (xs : List Int) (c : Nat) (w : World) (h : Ints w A xs) (hl : xs.length ≤ 1048576) (h0 : 0 < xs.length) :
    Calls Try.prog 80 #[.slice A xs.length c] w (Ret w (.int .i64 (maxL xs))) := by
  obtain ⟨ad, x0, rfl, hx0, hc0⟩ := h.at_ h0
  have hc0' : w.cell? ad = some (.int .i64 x0) := by have := hc0; rwa [show ad.add 0 = ad from by unfold Addr.add; simp] at this
  go_enter Try.func80, Try.ntmps80
  go_wp2
  go_loop [3, 4] (fun n i => ∃ k : Nat, 0 < k ∧ k ≤ xs.length ∧ i = .int .i64 k ∧ n = .int .i64 (maxL (xs.take k))) (fun _ i => xs.length - (intOf i).toNat)
  case atStart => exact ⟨1, by omega, by omega, rfl, val_int (by
    have := take_snoc xs 0 x0 hx0.out
    rw [show xs.take 1 = [x0] from by simpa using this]; rfl)⟩
  case round =>
    obtain ⟨k, hk0, hk, rfl, rfl⟩ := hrel
    by_cases hlt : k < xs.length
    · obtain ⟨ad', x, e, hx, hc⟩ := h.at_ hlt
      obtain rfl : ad = ad' := by injection e
      clear e
      go_wp2
      go_round
      case rel => exact ⟨k + 1, by omega, by omega, by go_num, by rw [maxL_snoc _ _ _ hx.out hk0]; exact val_int (by split <;> omega)⟩
      case measure => simp [intOf]; omega
    · have h2 : xs.length ≤ k := by omega
      clear hlt
      go_wp2
      go_ret
      exact ⟨ret_int (by rw [List.take_of_length_le (by omega)]), rfl⟩
theorem le_foldl_max (t : List Int) (a : Int) : a ≤ t.foldl max a ∧ ∀ x ∈ t, x ≤ t.foldl max a := by
  induction t generalizing a with
  | nil => simp
  | cons b t ih =>
    simp only [List.foldl_cons, List.mem_cons]
    have h1 := ih (max a b)
    refine ⟨by omega, fun x hx => ?_⟩
    rcases hx with rfl | hx
    · have := h1.1; omega
    · exact h1.2 x hx
theorem foldl_max_mem (t : List Int) (a : Int) : t.foldl max a = a ∨ t.foldl max a ∈ t := by
  induction t generalizing a with
  | nil => simp
  | cons b t ih =>
    simp only [List.foldl_cons, List.mem_cons]
    rcases ih (max a b) with h | h
    · rw [h]; omega
    · exact .inr (.inr h)
theorem maxL_ge {xs : List Int} {x : Int} (h : x ∈ xs) : x ≤ maxL xs := by
  cases xs with
  | nil => simp at h
  | cons a t =>
    rcases List.mem_cons.1 h with rfl | h
    · exact (le_foldl_max t _).1
    · exact (le_foldl_max t a).2 x h
theorem maxL_mem {xs : List Int} (h : 0 < xs.length) : maxL xs ∈ xs := by
  cases xs with
  | nil => simp at h
  | cons a t =>
    rcases foldl_max_mem t a with e | e
    · simp [maxL, e]
    · exact List.mem_cons_of_mem _ e
theorem maxL_pos {xs : List Int} (h : 0 < xs.length) (h0 : ∀ x ∈ xs, 0 ≤ x ∧ x ≤ 99) : decide (0 < maxL xs) = decide (0 < xs.sum) := by
  have : (0 < maxL xs) ↔ 0 < xs.sum := by
    constructor
    · intro hp
      have key : ∀ l : List Int, (∀ x ∈ l, 0 ≤ x ∧ x ≤ 99) → ∀ y ∈ l, y ≤ l.sum := by
        intro l
        induction l with
        | nil => simp
        | cons a t ih =>
          intro hl y hy
          have h1 := hl a (by simp)
          have h2 := sum_nonneg t (fun x hx => (hl x (by simp [hx])).1)
          simp only [List.sum_cons]
          rcases List.mem_cons.1 hy with rfl | hy
          · omega
          · have := ih (fun x hx => hl x (by simp [hx])) y hy
            omega
      have := key xs h0 _ (maxL_mem h)
      omega
    · intro hp
      rcases Int.lt_or_le 0 (maxL xs) with hh | hh
      · exact hh
      · exfalso
        have key : ∀ l : List Int, (∀ x ∈ l, x ≤ 0) → l.sum ≤ 0 := by
          intro l
          induction l with
          | nil => simp
          | cons a t ih =>
            intro hl
            have h1 := hl a (by simp)
            have h2 := ih (fun x hx => hl x (by simp [hx]))
            simp only [List.sum_cons]
            omega
        have := key xs (fun x hx => by have := maxL_ge hx; omega)
        omega
  simp [this]
theorem allB_f {xs : List Int} {low high : Int} {x : Int} (h : x ∈ xs) (hx : ¬(low ≤ x ∧ x ≤ high)) : allB xs low high = false := by
  cases hh : allB xs low high with
  | false => rfl
  | true => exact absurd (allB_iff.1 hh x h) hx
theorem vv_f {xs : List Int} {x : Int} (h : x ∈ xs) (hx : ¬(0 ≤ x ∧ x ≤ 99)) : vv xs = false := by simp [vv, allB_f h hx]
theorem bd_snoc {xs : List Int} {k : Nat} {x : Int} {P : Int → Prop} (hx : xs[k]? = some x) (h : ∀ y ∈ xs.take k, P y) (h1 : P x) : ∀ y ∈ xs.take (k + 1), P y := by
  rw [take_snoc xs k x hx]
  intro y hy
  rcases List.mem_append.1 hy with hy | hy
  · exact h y hy
  · simp at hy; subst hy; exact h1
set_option maxHeartbeats 400000 in
theorem lawSame_any (A A' : Option Addr) (xs ys : List Int) (c c' : Nat) (w : World) (h : Ints w A xs) (h' : Ints w A' ys) (hl : xs.length ≤ 1048576) (_hl' : ys.length ≤ 1048576) :
    Calls Try.prog 14 #[.slice A xs.length c, .slice A' ys.length c'] w (Qt w (.bool (xs == ys))) := by
  by_cases hlen : xs.length = ys.length
  · have hne : (((xs.length : Int)) != (ys.length : Int)) = false := by simp [hlen]
    have HL := Lib.hid hlen
    clear hlen
    go_enter Try.func14, Try.ntmps14
    go_wp2
    go_loopw [5] (fun i wr => ∃ k n : Nat, k ≤ xs.length ∧ i = .int .i64 k ∧ Hid (xs.take k = ys.take k) ∧ wr = w.drewN n) (fun i _ => xs.length - (intOf i).toNat)
    case atStart => exact ⟨0, 0, by omega, rfl, rfl, rfl⟩
    case round =>
      obtain ⟨k, n, hk, rfl, heq, rfl⟩ := hrel
      by_cases hlt : k < xs.length
      · have hlt' : k < ys.length := by have := HL.out; omega
        obtain ⟨ad, x, rfl, hx, hc⟩ := h.at_ hlt
        obtain ⟨ad', y, rfl, hy, hc'⟩ := h'.at_ hlt'
        by_cases hxy : x = y
        · subst hxy
          have hb : (x != x) = false := by simp
          go_wp2
          go_quiet (fail)
          go_wp2
          go_roundw
          case rel => exact ⟨k + 1, _, by omega, by go_num, by show _ = _; rw [take_snoc _ _ _ hx.out, take_snoc _ _ _ hy.out, heq.out], rfl⟩
          case measure => simp [intOf]; omega
        · have hb : (x != y) = true := by simp [hxy]
          go_wp2
          go_quiet (fail)
          go_wp2
          go_ret
          refine ⟨ret_bool ?_, _, World.drewN_drewN _ _ _⟩
          simp
          intro e
          rw [e] at hx
          have := hx.out.symm.trans hy.out
          simp at this
          exact absurd this hxy
      · have h2 : xs.length ≤ k := by omega
        clear hlt
        go_wp2
        go_ret
        refine ⟨ret_bool ?_, _, rfl⟩
        have := heq.out
        rw [List.take_of_length_le (by omega), List.take_of_length_le (by have := HL.out; omega)] at this
        simp [this]
  · have hne : (((xs.length : Int)) != (ys.length : Int)) = true := by simp; omega
    go_enter Try.func14, Try.ntmps14
    go_wp2
    go_ret
    exact ⟨ret_bool (by simp; intro e; exact absurd (by rw [e]) hlen), 0, rfl⟩
end Go.Proofs.Ythngafmnkihkgaa
