/-
  Piles, plain: who gets which ballots. Built by itself (plain Lean), not yet as a template.
-/
import Derived.Test.YthngafmnkihkgaaPlain
namespace Go.Proofs.Ythngafmnkihkgaa
/-- A pile, plain: the ballot (numbers of candidates) and how many. -/
structure Pl where
  bal : List Int
  many : Int
/-- The first candidate on a ballot who has not left, or -1. -/
def firstL (left : List Bool) : List Int → Int
  | [] => -1
  | c :: t => if left.getD c.toNat false = false then c else firstL left t
theorem firstL_mem {left : List Bool} {b : List Int} : firstL left b = -1 ∨ firstL left b ∈ b ∧ left.getD (firstL left b).toNat false = false := by
  induction b with
  | nil => exact .inl rfl
  | cons c t ih =>
    unfold firstL
    split
    · next h => exact .inr ⟨by simp, h⟩
    · rcases ih with h | ⟨h1, h2⟩
      · exact .inl h
      · exact .inr ⟨by simp [h1], h2⟩
/-- Who is not k stays first. -/
theorem firstL_more {left : List Bool} {b : List Int} {k : Nat} (hk : k < left.length) (hb : ∀ c ∈ b, 0 ≤ c) (h : firstL left b ≠ (k : Int)) : firstL (left.set k true) b = firstL left b := by
  induction b with
  | nil => rfl
  | cons c t ih =>
    have hc := hb c (by simp)
    unfold firstL at h ⊢
    by_cases hck : c.toNat = k
    · subst hck
      have e : (left.set c.toNat true).getD c.toNat false = true := by simp [hk]
      rw [e]
      by_cases hl : left.getD c.toNat false = false
      · rw [if_pos hl] at h
        exact absurd (by omega) h
      · rw [if_neg hl] at h
        rw [if_neg hl, if_neg (by simp)]
        exact ih (fun x hx => hb x (by simp [hx])) h
    · have e : (left.set k true).getD c.toNat false = left.getD c.toNat false := by
        simp only [List.getD_eq_getElem?_getD]
        rw [List.getElem?_set_ne (fun e => hck e.symm)]
      rw [e]
      split
      · rfl
      · next hl =>
        rw [if_neg hl] at h
        exact ih (fun x hx => hb x (by simp [hx])) h
/-- The count of candidate c. -/
def cntC (left : List Bool) (c : Int) (ps : List Pl) : Int := (ps.map fun p => if firstL left p.bal = c then p.many else 0).sum
theorem cntC_more {left : List Bool} {ps : List Pl} {k : Nat} {c : Int} (hk : k < left.length) (hb : ∀ p ∈ ps, ∀ c ∈ p.bal, 0 ≤ c) (hm : ∀ p ∈ ps, 0 ≤ p.many) (hc : c ≠ k) : cntC left c ps ≤ cntC (left.set k true) c ps := by
  induction ps with
  | nil => simp [cntC]
  | cons p t ih =>
    have i := ih (fun q hq => hb q (by simp [hq])) (fun q hq => hm q (by simp [hq]))
    have hp := hm p (by simp)
    unfold cntC at i ⊢
    simp only [List.map_cons, List.sum_cons]
    by_cases h : firstL left p.bal = c
    · have e := firstL_more hk (hb p (by simp)) (by rw [h]; exact hc)
      rw [if_pos h, if_pos (e.trans h)]
      omega
    · rw [if_neg h]
      split <;> omega
/-- All counts. -/
def cntL (left : List Bool) (ps : List Pl) : List Int := (List.range left.length).map fun c => cntC left (c : Nat) ps
theorem sum_app1 (l : List Int) (a : Int) : (l ++ [a]).sum = l.sum + a := by
  induction l with
  | nil => simp
  | cons b t ih => simp only [List.cons_append, List.sum_cons, ih]; omega
theorem oneSum (n : Nat) (x m : Int) : ((List.range n).map fun c : Nat => if x = (c : Int) then m else 0).sum = if 0 ≤ x ∧ x < n then m else 0 := by
  induction n with
  | zero => simp; intro h1 h2; omega
  | succ n ih =>
    rw [List.range_succ, List.map_append, List.map_singleton, sum_app1, ih]
    by_cases h : x = (n : Int)
    · rw [if_pos h, if_neg (by omega), if_pos (by omega)]; omega
    · rw [if_neg h]
      by_cases h2 : 0 ≤ x ∧ x < n
      · rw [if_pos h2, if_pos (by omega)]; omega
      · rw [if_neg h2, if_neg (by omega)]; rfl
theorem addSum (n : Nat) (f g : Nat → Int) : ((List.range n).map fun c => f c + g c).sum = ((List.range n).map f).sum + ((List.range n).map g).sum := by
  induction n with
  | zero => rfl
  | succ n ih => simp only [List.range_succ, List.map_append, List.map_singleton, sum_app1, ih]; omega
theorem nilSum (n : Nat) : ((List.range n).map fun _ => (0 : Int)).sum = 0 := by
  induction n with
  | zero => rfl
  | succ n ih => simp only [List.range_succ, List.map_append, List.map_singleton, sum_app1, ih]; rfl
/-- Each ballot counts at most once. -/
theorem cntL_sum (left : List Bool) (ps : List Pl) : (cntL left ps).sum = (ps.map fun p => if 0 ≤ firstL left p.bal ∧ firstL left p.bal < left.length then p.many else 0).sum := by
  induction ps with
  | nil => exact nilSum _
  | cons p t ih =>
    unfold cntL at ih ⊢
    have e : ((List.range left.length).map fun c => cntC left (c : Nat) (p :: t)) = (List.range left.length).map fun c : Nat => (if firstL left p.bal = (c : Int) then p.many else 0) + cntC left (c : Nat) t := by
      apply List.map_congr_left
      intro c _
      simp [cntC]
    rw [e, addSum, ih, oneSum]
    simp
theorem cntL_total {left : List Bool} {ps : List Pl} (hm : ∀ p ∈ ps, 0 ≤ p.many) : (cntL left ps).sum ≤ (ps.map Pl.many).sum := by
  rw [cntL_sum]
  induction ps with
  | nil => simp
  | cons p t ih =>
    have i := ih (fun q hq => hm q (by simp [hq]))
    have := hm p (by simp)
    simp only [List.map_cons, List.sum_cons]
    split <;> omega
theorem firstL_less {left : List Bool} {b : List Int} {k : Nat} (hb : ∀ c ∈ b, 0 ≤ c ∧ c < left.length) (h : firstL left b < 0) : firstL (left.set k true) b < 0 := by
  induction b with
  | nil => exact h
  | cons c t ih =>
    have hc := hb c (by simp)
    unfold firstL at h ⊢
    by_cases hl : left.getD c.toNat false = false
    · rw [if_pos hl] at h; omega
    · rw [if_neg hl] at h
      have e : ¬ (left.set k true).getD c.toNat false = false := by
        intro e
        by_cases hck : c.toNat = k
        · subst hck
          simp [show c.toNat < left.length by omega] at e
        · simp only [List.getD_eq_getElem?_getD] at e hl
          rw [List.getElem?_set_ne (fun e => hck e.symm)] at e
          exact hl e
      rw [if_neg e]
      exact ih (fun x hx => hb x (by simp [hx])) h
theorem firstL_lt {left : List Bool} {b : List Int} (hb : ∀ c ∈ b, 0 ≤ c ∧ c < left.length) : firstL left b < left.length := by
  rcases firstL_mem (left := left) (b := b) with h | ⟨h, _⟩
  · omega
  · exact (hb _ h).2
/-- Who leaves takes ballots away, at most. -/
theorem cntL_less {left : List Bool} {ps : List Pl} {k : Nat} (hb : ∀ p ∈ ps, ∀ c ∈ p.bal, 0 ≤ c ∧ c < left.length) (hm : ∀ p ∈ ps, 0 ≤ p.many) : (cntL (left.set k true) ps).sum ≤ (cntL left ps).sum := by
  rw [cntL_sum, cntL_sum, List.length_set]
  induction ps with
  | nil => simp
  | cons p t ih =>
    have i := ih (fun q hq => hb q (by simp [hq])) (fun q hq => hm q (by simp [hq]))
    have := hm p (by simp)
    have h1 := firstL_lt (hb p (by simp))
    simp only [List.map_cons, List.sum_cons]
    by_cases h : 0 ≤ firstL left p.bal
    · rw [if_pos (show 0 ≤ firstL left p.bal ∧ firstL left p.bal < left.length from ⟨h, h1⟩)]
      split <;> omega
    · have := firstL_less (k := k) (hb p (by simp)) (show firstL left p.bal < 0 by omega)
      rw [if_neg (show ¬ (0 ≤ firstL left p.bal ∧ firstL left p.bal < left.length) by omega), if_neg (by omega)]
      omega
theorem cntL_len (left : List Bool) (ps : List Pl) : (cntL left ps).length = left.length := by simp [cntL]
theorem cntL_at {left : List Bool} {ps : List Pl} {c : Nat} (h : c < left.length) : (cntL left ps)[c]? = some (cntC left c ps) := by simp [cntL, h]
theorem cntC_nn {left : List Bool} {ps : List Pl} (hm : ∀ p ∈ ps, 0 ≤ p.many) (c : Int) : 0 ≤ cntC left c ps := by
  unfold cntC
  induction ps with
  | nil => simp
  | cons p t ih =>
    have i := ih (fun q hq => hm q (by simp [hq]))
    have := hm p (by simp)
    simp only [List.map_cons, List.sum_cons]
    split <;> omega
/-- Who has left gets none. -/
theorem cntC_left {left : List Bool} {ps : List Pl} {c : Nat} (h : left.getD c false = true) : cntC left c ps = 0 := by
  unfold cntC
  induction ps with
  | nil => rfl
  | cons p t ih =>
    simp only [List.map_cons, List.sum_cons, ih]
    rw [if_neg]
    · rfl
    · intro e
      rcases firstL_mem (left := left) (b := p.bal) with h2 | ⟨_, h2⟩
      · omega
      · rw [e] at h2
        simp only [Int.toNat_natCast] at h2
        rw [h] at h2
        cases h2
end Go.Proofs.Ythngafmnkihkgaa
