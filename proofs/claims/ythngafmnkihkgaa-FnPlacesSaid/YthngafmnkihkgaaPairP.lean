/-
  Preferences between two candidates, plain.
-/
import Derived.Test.YthngafmnkihkgaaPtsL
namespace Go.Proofs.Ythngafmnkihkgaa
open Go.RowKit
/-- The place of x, counted from k on, or -1. -/
def posL (x : Int) : List Int → Nat → Int
  | [], _ => -1
  | a :: t, k => if x = a then k else posL x t (k + 1)
theorem posL_ge (x : Int) (b : List Int) (k : Nat) : posL x b k = -1 ∨ (k : Int) ≤ posL x b k := by
  induction b generalizing k with
  | nil => exact .inl rfl
  | cons a t ih =>
    unfold posL
    split
    · exact .inr (by omega)
    · rcases ih (k + 1) with h | h
      · exact .inl h
      · exact .inr (by omega)
/-- x stands ahead of y, or y does not stand there. -/
def prefR : List Int → Int → Int → Bool
  | [], _, _ => false
  | a :: t, x, y => if a = x then true else if a = y then false else prefR t x y
def prefB (b : List Int) (x y : Int) : Bool := if x = y then false else prefR b x y
theorem pref_pos (b : List Int) (x y : Int) (k : Nat) (hxy : x ≠ y) : prefR b x y = (decide (0 ≤ posL x b k) && (decide (posL y b k < 0) || decide (posL x b k < posL y b k))) := by
  induction b generalizing k with
  | nil => rfl
  | cons a t ih =>
    have gx := posL_ge x t (k + 1)
    have gy := posL_ge y t (k + 1)
    have i := ih (k + 1)
    unfold prefR posL
    by_cases hax : a = x
    · have hya : ¬ y = a := fun e => hxy (by rw [e, hax])
      have h1 : (0 : Int) ≤ (k : Int) := by omega
      simp only [hax, if_true] at hya ⊢
      rw [if_neg hya]
      rcases gy with h | h
      · simp [h]
      · have h2 : (k : Int) < posL y t (k + 1) := by omega
        simp [h2]
    · have hxa : ¬ x = a := fun e => hax e.symm
      simp only [hax, hxa, if_false]
      by_cases hay : a = y
      · have h1 : ¬ (k : Int) < 0 := by omega
        simp only [hay, if_true]
        rcases gx with h | h
        · simp [h]
        · have h2 : ¬ posL x t (k + 1) < (k : Int) := by omega
          simp [h2]
      · have hya : ¬ y = a := fun e => hay e.symm
        simp only [hay, hya, if_false]
        exact i
/-- How many others are behind x on a ballot. -/
theorem pref_sum {n : Nat} {b : List Int} (hr : ∀ c ∈ b, 0 ≤ c ∧ c < n) (hd : b.Nodup) (x : Nat) (_hx : x < n) :
    ((List.range n).map fun y : Nat => if prefB b x y = true then (1 : Int) else 0).sum = rowC (fun j => fP n j b.length) (x : Int) b := by
  have hlen : b.length ≤ n := nodup_len n b hd (fun l hl => by have := hr l hl; omega)
  have key : ∀ (t : List Int) (k : Nat), (∀ c ∈ t, 0 ≤ c ∧ c < n) → t.Nodup → k + t.length ≤ n →
      (((List.range n).map fun y : Nat => if prefB t x y = true then (1 : Int) else 0).sum = if (x : Int) ∈ t then (((t.zipIdx k).map fun z => if z.1 = (x : Int) then fP n z.2 b.length else 0).sum + k) else 0) ∧ ((x : Int) ∉ t → ((t.zipIdx k).map fun z => if z.1 = (x : Int) then fP n z.2 b.length else 0).sum = 0) := by
    intro t
    induction t with
    | nil =>
      intro k _ _ _
      refine ⟨?_, fun _ => rfl⟩
      rw [if_neg (by simp)]
      have e : ((List.range n).map fun y : Nat => if prefB [] (x : Int) y = true then (1 : Int) else 0) = (List.range n).map fun _ => (0 : Int) := by
        apply List.map_congr_left
        intro y _
        unfold prefB
        split <;> simp [prefR]
      rw [e, nilSum]
    | cons a t ih =>
      intro k hr hd hk
      obtain ⟨hna, hdt⟩ := List.nodup_cons.1 hd
      have ha := hr a (by simp)
      simp only [List.length_cons] at hk
      obtain ⟨i1, i2⟩ := ih (k + 1) (fun c hc => hr c (by simp [hc])) hdt (by omega)
      simp only [List.zipIdx_cons, List.map_cons, List.sum_cons]
      by_cases hax : a = (x : Int)
      · subst hax
        rw [if_pos (by simp), if_pos rfl, i2 hna, show fP n k b.length = (n : Int) - 1 - k from if_pos (by omega)]
        refine ⟨?_, fun h => absurd (by simp) h⟩
        have e : ((List.range n).map fun y : Nat => if prefB ((x : Int) :: t) (x : Int) y = true then (1 : Int) else 0) = (List.range n).map fun y : Nat => 1 + (if (x : Int) = (y : Int) then (-1 : Int) else 0) := by
          apply List.map_congr_left
          intro y _
          unfold prefB prefR
          by_cases hxy : (x : Int) = (y : Int)
          · simp [hxy]
          · simp [hxy]
        rw [e, addSum n (fun _ => 1), oneSum, oneRange n (fun _ => 1) (fun _ _ => rfl), if_pos (show (0 : Int) ≤ (x : Int) ∧ (x : Int) < (n : Int) by omega)]
        omega
      · have hm : ((x : Int) ∈ a :: t) ↔ (x : Int) ∈ t := by
          simp only [List.mem_cons]
          constructor
          · rintro (h | h)
            · exact absurd h.symm hax
            · exact h
          · exact .inr
        obtain ⟨p, rfl⟩ := Int.eq_ofNat_of_zero_le ha.1
        have e : ((List.range n).map fun y : Nat => if prefB ((p : Int) :: t) (x : Int) y = true then (1 : Int) else 0) = (List.range n).map fun y : Nat => (if prefB t (x : Int) y = true then (1 : Int) else 0) + (if (p : Int) = (y : Int) then (if (x : Int) ∈ t then (-1 : Int) else 0) else 0) := by
          apply List.map_congr_left
          intro y _
          unfold prefB
          rw [show prefR ((p : Int) :: t) (x : Int) (y : Int) = if (p : Int) = (x : Int) then true else if (p : Int) = (y : Int) then false else prefR t x y from rfl, if_neg hax]
          by_cases hpy : (p : Int) = (y : Int)
          · rw [if_pos hpy, if_pos hpy]
            have hxy : ¬ (x : Int) = (y : Int) := by omega
            rw [if_neg hxy, if_neg hxy, ← hpy]
            have hout : ∀ (t : List Int), (p : Int) ∉ t → prefR t (x : Int) (p : Int) = decide ((x : Int) ∈ t) := by
              intro t
              induction t with
              | nil => intro _; simp [prefR]
              | cons z t iht =>
                intro hz
                simp only [List.mem_cons, not_or] at hz
                unfold prefR
                by_cases hzx : z = (x : Int)
                · simp [hzx]
                · rw [if_neg hzx, if_neg (fun e => hz.1 e.symm), iht hz.2]
                  have : ¬ (x : Int) = z := fun e => hzx e.symm
                  simp [this]
            rw [hout t hna]
            by_cases hxt : (x : Int) ∈ t <;> simp [hxt]
          · rw [if_neg hpy, if_neg hpy]
            omega
        have hp2 : (0 : Int) ≤ (p : Int) ∧ (p : Int) < (n : Int) := ha
        rw [e, addSum, oneSum, i1, if_neg hax, if_pos hp2]
        by_cases hxt : (x : Int) ∈ t
        · rw [if_pos hxt, if_pos hxt, if_pos (hm.2 hxt)]
          refine ⟨by omega, fun h => absurd (hm.2 hxt) h⟩
        · rw [if_neg hxt, if_neg hxt, if_neg (fun h => hxt (hm.1 h)), i2 hxt]
          exact ⟨rfl, fun _ => rfl⟩
  obtain ⟨h1, h2⟩ := key b 0 hr hd (by omega)
  rw [h1]
  unfold rowC
  by_cases hm : (x : Int) ∈ b
  · rw [if_pos hm]
    exact Int.add_zero _
  · rw [if_neg hm]
    exact (h2 hm).symm
/-- How many ballots prefer x to y. -/
def pairC (x y : Int) (ps : List Pl) : Int := (ps.map fun p => if prefB p.bal x y = true then p.many else 0).sum
theorem pairC_snoc (x y : Int) (ps : List Pl) (p : Pl) : pairC x y (ps ++ [p]) = pairC x y ps + if prefB p.bal x y = true then p.many else 0 := by
  unfold pairC
  rw [List.map_append, List.map_singleton, sum_app1]
theorem pairC_bd (x y : Int) {ps : List Pl} (hm : ∀ p ∈ ps, 0 ≤ p.many) : 0 ≤ pairC x y ps ∧ pairC x y ps ≤ (ps.map Pl.many).sum := by
  unfold pairC
  induction ps with
  | nil => simp
  | cons p t ih =>
    have i := ih (fun q hq => hm q (by simp [hq]))
    have := hm p (by simp)
    simp only [List.map_cons, List.sum_cons]
    split <;> omega
def pairR (n : Nat) (x : Nat) (ps : List Pl) : List Int := (List.range n).map fun y => pairC x (y : Nat) ps
theorem pairR_sum {n : Nat} {ps : List Pl} (hr : ∀ p ∈ ps, ∀ c ∈ p.bal, 0 ≤ c ∧ c < n) (hd : ∀ p ∈ ps, p.bal.Nodup) (x : Nat) (hx : x < n) : (pairR n x ps).sum = ptsC (fP n) x ps := by
  induction ps with
  | nil => simpa [pairR, pairC, ptsC] using nilSum n
  | cons p t ih =>
    have i := ih (fun q hq => hr q (by simp [hq])) (fun q hq => hd q (by simp [hq]))
    unfold pairR at i ⊢
    have e : ((List.range n).map fun y => pairC x (y : Nat) (p :: t)) = (List.range n).map fun y : Nat => p.many * (if prefB p.bal x y = true then (1 : Int) else 0) + pairC x (y : Nat) t := by
      apply List.map_congr_left
      intro y _
      unfold pairC
      simp only [List.map_cons, List.sum_cons]
      split <;> omega
    rw [e, addSum n (fun y : Nat => p.many * (if prefB p.bal x y = true then (1 : Int) else 0)), i, mulSum, pref_sum (hr p (by simp)) (hd p (by simp)) x hx]
    unfold ptsC
    simp
end Go.Proofs.Ythngafmnkihkgaa
