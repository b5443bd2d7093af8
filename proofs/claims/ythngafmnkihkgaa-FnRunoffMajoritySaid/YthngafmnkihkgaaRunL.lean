/-
  Which round is the last one, plain.
-/
import Derived.Test.YthngafmnkihkgaaRunR
namespace Go.Proofs.Ythngafmnkihkgaa
open Go.RowKit
theorem roundsF_pos {ps : List Pl} {lots : List Int} {k : Nat} {left : List Bool} (hk : 1 ≤ k) : 1 ≤ (roundsF ps lots k left).length := by
  obtain ⟨m, rfl⟩ : ∃ m, k = m + 1 := ⟨k - 1, by omega⟩
  simp only [roundsF]
  split <;> simp
theorem rounds_last {ps : List Pl} {lots : List Int} (hv : lv lots = true) : ∀ (k : Nat) (left : List Bool), left.length = lots.length → thereL left = (k : Int) → ∀ (i : Nat) (r : List Int × Int), (roundsF ps lots k left)[i]? = some r →
    (decide (r.1.sum < 2 * mostL r.1) || decide (i + 1 = k)) = decide (i + 1 = (roundsF ps lots k left).length) := by
  intro k
  induction k with
  | zero => intro left _ _ i r hr; simp [roundsF] at hr
  | succ k ih =>
    intro left hl ht i r hr
    cases hd : doneF (cntL left ps) left
    · rw [roundsF_more hd] at hr ⊢
      unfold doneF at hd
      simp only [Bool.or_eq_false_iff] at hd
      obtain ⟨h1, h2⟩ := hd
      have hk : 1 ≤ k := by
        have : thereL left ≠ 1 := by simpa using h1
        omega
      obtain ⟨q, hq, hbq, hql⟩ := least_at (cs := cntL left ps) hv hl (by omega)
      have hp := roundsF_pos (ps := ps) (lots := lots) (left := left.set (leastF (cntL left ps) left lots).toNat true) hk
      cases i with
      | zero =>
        simp only [List.getElem?_cons_zero, Option.some.injEq] at hr
        subst hr
        have e1 : decide (0 + 1 = k + 1) = false := decide_eq_false (by omega)
        rw [h2, e1]
        symm
        exact decide_eq_false (by rw [List.length_cons]; omega)
      | succ i =>
        rw [List.getElem?_cons_succ] at hr
        have := ih _ (by simpa using hl) (by rw [hq, Int.toNat_natCast, thereL_set hbq]; omega) i r hr
        simp only [List.length_cons]
        rw [show decide (i + 1 + 1 = k + 1) = decide (i + 1 = k) by simp, this]
        simp
    · rw [roundsF_done hd] at hr ⊢
      cases i with
      | succ i => simp at hr
      | zero =>
        simp only [List.getElem?_cons_zero, Option.some.injEq] at hr
        subst hr
        unfold doneF at hd
        simp only [Bool.or_eq_true] at hd
        rcases hd with hd | hd
        · have : thereL left = 1 := by simpa using hd
          have : k = 0 := by omega
          subst this
          simp
        · rw [hd]; simp
theorem rounds_cnt {ps : List Pl} {lots : List Int} : ∀ (k : Nat) (left : List Bool), ∀ r ∈ roundsF ps lots k left, ∃ left' : List Bool, left'.length = left.length ∧ r.1 = cntL left' ps := by
  intro k
  induction k with
  | zero => intro left r hr; simp [roundsF] at hr
  | succ k ih =>
    intro left r hr
    cases hd : doneF (cntL left ps) left
    · rw [roundsF_more hd] at hr
      rcases List.mem_cons.1 hr with rfl | hr
      · exact ⟨left, rfl, rfl⟩
      · obtain ⟨l, h1, h2⟩ := ih _ r hr
        exact ⟨l, by simpa using h1, h2⟩
    · rw [roundsF_done hd] at hr
      simp at hr
      subst hr
      exact ⟨left, rfl, rfl⟩
end Go.Proofs.Ythngafmnkihkgaa
