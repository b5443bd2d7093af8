/-
  Runoffs, plain: when a round is the last one, who leaves, all rounds.
-/
import Derived.Test.YthngafmnkihkgaaCntP
namespace Go.Proofs.Ythngafmnkihkgaa
open Go.RowKit
/-- How many are still there. -/
def thereL (left : List Bool) : Int := (left.map fun b => if b then (0 : Int) else 1).sum
theorem thereL_snoc {left : List Bool} {k : Nat} {b : Bool} (h : left[k]? = some b) : thereL (left.take (k + 1)) = thereL (left.take k) + if b then 0 else 1 := by
  unfold thereL
  rw [take_snoc _ _ _ h, List.map_append, sum_append]; simp
theorem thereL_bd (left : List Bool) : 0 ≤ thereL left ∧ thereL left ≤ left.length := by
  unfold thereL
  induction left with
  | nil => simp
  | cons b t ih =>
    simp only [List.map_cons, List.sum_cons, List.length_cons]
    cases b <;> simp <;> omega
theorem thereL_set {left : List Bool} {k : Nat} (h : left[k]? = some false) : thereL (left.set k true) = thereL left - 1 := by
  induction left generalizing k with
  | nil => simp at h
  | cons b t ih =>
    cases k with
    | zero =>
      simp at h
      subst h
      simp [thereL]
      omega
    | succ k =>
      simp at h
      have := ih h
      unfold thereL at this ⊢
      simp only [List.set_cons_succ, List.map_cons, List.sum_cons]
      omega
theorem thereL_pos {left : List Bool} (h : 1 ≤ thereL left) : ∃ k : Nat, left[k]? = some false := by
  induction left with
  | nil => simp [thereL] at h
  | cons b t ih =>
    cases b with
    | false => exact ⟨0, rfl⟩
    | true =>
      obtain ⟨k, hk⟩ := ih (by unfold thereL at h ⊢; simp at h; omega)
      exact ⟨k + 1, by simpa using hk⟩
/-- The greatest count, or 0. -/
def mostL (cs : List Int) : Int := cs.foldl max 0
theorem mostL_snoc {cs : List Int} {k : Nat} {x : Int} (h : cs[k]? = some x) : mostL (cs.take (k + 1)) = max (mostL (cs.take k)) x := by
  unfold mostL
  rw [take_snoc _ _ _ h, List.foldl_append]; rfl
theorem mostL_bd {cs : List Int} {M : Int} (hM : 0 ≤ M) (h : ∀ x ∈ cs, x ≤ M) : 0 ≤ mostL cs ∧ mostL cs ≤ M := by
  unfold mostL
  refine ⟨(le_foldl_max cs 0).1, ?_⟩
  rcases foldl_max_mem cs 0 with e | e
  · omega
  · exact h _ e
theorem maxL_most {cs : List Int} (h0 : 0 < cs.length) (h : ∀ x ∈ cs, 0 ≤ x) : maxL cs = mostL cs := by
  cases cs with
  | nil => simp at h0
  | cons a t =>
    unfold maxL mostL
    simp only [List.foldl_cons]
    rw [show max 0 a = a by have := h a (by simp); omega]
/-- A round is the last one. -/
def doneF (cs : List Int) (left : List Bool) : Bool := (thereL left == 1) || decide (cs.sum < 2 * mostL cs)
/-- Who leaves: of those with the least count, the one whose lot comes last. -/
def atB (left : List Bool) (c : Int) : Bool := left.getD c.toNat true
def stepL (cs : List Int) (left : List Bool) (o c : Int) : Int := if atB left c = false ∧ (o < 0 ∨ atI cs c ≤ atI cs o) then c else o
def leastF (cs : List Int) (left : List Bool) (lots : List Int) : Int := lots.foldl (stepL cs left) (-1)
theorem leastF_snoc {cs : List Int} {left : List Bool} {ls : List Int} {k : Nat} {c : Int} (h : ls[k]? = some c) : leastF cs left (ls.take (k + 1)) = stepL cs left (leastF cs left (ls.take k)) c := by
  unfold leastF
  rw [take_snoc _ _ _ h, List.foldl_append]; rfl
theorem leastF_in (cs : List Int) (left : List Bool) (ls : List Int) : leastF cs left ls = -1 ∨ (leastF cs left ls ∈ ls ∧ atB left (leastF cs left ls) = false) := by
  have key : ∀ (ls : List Int) (o : Int) (S : List Int), (o = -1 ∨ (o ∈ S ∧ atB left o = false)) → (ls.foldl (stepL cs left) o = -1 ∨ (ls.foldl (stepL cs left) o ∈ S ++ ls ∧ atB left (ls.foldl (stepL cs left) o) = false)) := by
    intro ls
    induction ls with
    | nil => intro o S h; simpa using h
    | cons c t ih =>
      intro o S h
      have := ih (stepL cs left o c) (S ++ [c]) (by
        unfold stepL
        split
        · next hc => exact .inr ⟨by simp, hc.1⟩
        · rcases h with h | ⟨h1, h2⟩
          · exact .inl h
          · exact .inr ⟨by simp [h1], h2⟩)
      simpa using this
  have := key ls (-1) [] (.inl rfl)
  rw [List.nil_append] at this
  exact this
theorem leastF_some {cs : List Int} {left : List Bool} {ls : List Int} (hr : ∀ l ∈ ls, 0 ≤ l) {c : Int} (hc : c ∈ ls) (ha : atB left c = false) : leastF cs left ls ≠ -1 := by
  have key : ∀ (ls : List Int) (o : Int), (∀ l ∈ ls, 0 ≤ l) → (0 ≤ o ∨ ∃ c ∈ ls, atB left c = false) → 0 ≤ ls.foldl (stepL cs left) o := by
    intro ls
    induction ls with
    | nil =>
      intro o _ h
      rcases h with h | ⟨c, hc, _⟩
      · exact h
      · simp at hc
    | cons a t ih =>
      intro o hr h
      refine ih _ (fun l hl => hr l (by simp [hl])) ?_
      have ha := hr a (by simp)
      unfold stepL
      split
      · exact .inl ha
      · next hn =>
        rcases h with h | ⟨c, hc, hac⟩
        · exact .inl h
        · rcases List.mem_cons.1 hc with rfl | hc
          · by_cases ho : 0 ≤ o
            · exact .inl ho
            · exact absurd ⟨hac, .inl (by omega)⟩ hn
          · exact .inr ⟨c, hc, hac⟩
  have := key ls (-1) hr (.inr ⟨c, hc, ha⟩)
  unfold leastF
  omega
/-- The reference's second way: of those with this least count, the last one. -/
def stepE (cs : List Int) (left : List Bool) (b c : Int) : Int := if atB left c = false ∧ atI cs c = atI cs b then c else b
theorem least_two {cs : List Int} {left : List Bool} {ls : List Int} {b0 : Int} (hr : ∀ l ∈ ls, 0 ≤ l) (hb : b0 ∈ ls) (ha : atB left b0 = false) (hm : ∀ c ∈ ls, atB left c = false → atI cs b0 ≤ atI cs c) : ls.foldl (stepE cs left) b0 = leastF cs left ls := by
  have key : ∀ (ls : List Int) (o b : Int), (∀ l ∈ ls, 0 ≤ l) → (∀ c ∈ ls, atB left c = false → atI cs b0 ≤ atI cs c) → atI cs b = atI cs b0 →
      ((o = b ∧ 0 ≤ o) ∨ ((o < 0 ∨ atI cs b0 < atI cs o) ∧ ∃ c ∈ ls, atB left c = false ∧ atI cs c = atI cs b0)) → ls.foldl (stepE cs left) b = ls.foldl (stepL cs left) o := by
    intro ls
    induction ls with
    | nil =>
      intro o b _ _ _ h
      rcases h with ⟨h, _⟩ | ⟨_, c, hc, _⟩
      · rw [h]; rfl
      · simp at hc
    | cons a t ih =>
      intro o b hr hm hbm h
      have hra := hr a (by simp)
      simp only [List.foldl_cons]
      have hr' : ∀ l ∈ t, 0 ≤ l := fun l hl => hr l (by simp [hl])
      have hm' : ∀ c ∈ t, atB left c = false → atI cs b0 ≤ atI cs c := fun c hc => hm c (by simp [hc])
      by_cases haa : atB left a = false
      · have hma := hm a (by simp) haa
        by_cases he : atI cs a = atI cs b0
        · have e1 : stepE cs left b a = a := if_pos ⟨haa, by rw [he, hbm]⟩
          have e2 : stepL cs left o a = a := by
            refine if_pos ⟨haa, ?_⟩
            rcases h with ⟨h, _⟩ | ⟨h, _⟩
            · right; rw [h, hbm]; omega
            · rcases h with h | h
              · exact .inl h
              · right; omega
          rw [e1, e2]
          exact ih a a hr' hm' he (.inl ⟨rfl, hra⟩)
        · have e1 : stepE cs left b a = b := if_neg (fun hh => he (by rw [hh.2, hbm]))
          rw [e1]
          refine ih _ b hr' hm' hbm ?_
          rcases h with ⟨h, h0⟩ | ⟨h, c, hc, hac, hec⟩
          · left
            have : stepL cs left o a = o := if_neg (fun hh => by
              rcases hh.2 with h2 | h2
              · omega
              · rw [h, hbm] at h2; omega)
            rw [this]
            exact ⟨h, h0⟩
          · right
            refine ⟨?_, ?_⟩
            · unfold stepL
              split
              · right; omega
              · exact h
            · rcases List.mem_cons.1 hc with rfl | hc
              · exact absurd hec he
              · exact ⟨c, hc, hac, hec⟩
      · have e1 : stepE cs left b a = b := if_neg (fun hh => haa hh.1)
        have e2 : stepL cs left o a = o := if_neg (fun hh => haa hh.1)
        rw [e1, e2]
        refine ih o b hr' hm' hbm ?_
        rcases h with h | ⟨h, c, hc, hac, hec⟩
        · exact .inl h
        · right
          refine ⟨h, ?_⟩
          rcases List.mem_cons.1 hc with rfl | hc
          · exact absurd hac haa
          · exact ⟨c, hc, hac, hec⟩
  exact key ls (-1) b0 hr hm rfl (.inr ⟨.inl (by omega), b0, hb, ha, rfl⟩)
/-- All rounds. -/
def roundsF (ps : List Pl) (lots : List Int) : Nat → List Bool → List (List Int × Int)
  | 0, _ => []
  | k + 1, left => if doneF (cntL left ps) left = true then [(cntL left ps, -1)] else (cntL left ps, leastF (cntL left ps) left lots) :: roundsF ps lots k (left.set (leastF (cntL left ps) left lots).toNat true)
end Go.Proofs.Ythngafmnkihkgaa
