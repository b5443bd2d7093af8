/-
  Seats by divisors in plain Lean: the next seat is the best's, the check holds, more votes have no fewer seats.
-/
import Derived.Test.YtoblhmbpobbecaaGreat
import Derived.Test.YtoblhmbpobbecaaCheck
import Derived.Test.YtoblhmbpobbecaaDivis
import Derived.Test.YtoblhmbpobbecaaShareP
namespace Go.Proofs.Ytoblhmbpobbecaa
open Go.RowKit
theorem cross {v1 v2 v3 d1 d2 d3 : Int} (h1 : 0 < d1) (h2 : 0 < d2) (h3 : 0 < d3) (a : v1 * d2 ≤ v2 * d1) (b : v2 * d3 ≤ v3 * d2) : v1 * d3 ≤ v3 * d1 := by
  have a' := Int.mul_le_mul_of_nonneg_right a (Int.le_of_lt h3)
  have b' := Int.mul_le_mul_of_nonneg_right b (Int.le_of_lt h1)
  have e1 : v1 * d2 * d3 = v1 * d3 * d2 := by ac_rfl
  have e2 : v2 * d1 * d3 = v2 * d3 * d1 := by ac_rfl
  have e3 : v3 * d2 * d1 = v3 * d1 * d2 := by ac_rfl
  refine Int.le_of_mul_le_mul_right (a := d2) ?_ h2
  omega
/-- The quotient of b is less than that of p. -/
def qLt (xs gs : List Int) (m b p : Int) : Prop := atI xs b * dv (atI gs p) m < atI xs p * dv (atI gs b) m
theorem qLt_le {xs gs : List Int} {m a b c : Int} (hd : ∀ i, 0 < dv (atI gs i) m) (h1 : qLt xs gs m a c) (h2 : ¬ qLt xs gs m b c) : qLt xs gs m a b := by
  unfold qLt at *
  rcases Int.lt_or_le (atI xs a * dv (atI gs b) m) (atI xs b * dv (atI gs a) m) with h | h
  · exact h
  · have := cross (hd c) (hd b) (hd a) (v1 := atI xs c) (v2 := atI xs b) (v3 := atI xs a) (by omega) (by omega)
    omega
theorem qLt_lt {xs gs : List Int} {m a b c : Int} (hd : ∀ i, 0 < dv (atI gs i) m) (h1 : ¬ qLt xs gs m a c) (h2 : qLt xs gs m a b) : qLt xs gs m c b := by
  unfold qLt at *
  rcases Int.lt_or_le (atI xs c * dv (atI gs b) m) (atI xs b * dv (atI gs c) m) with h | h
  · exact h
  · have := cross (hd b) (hd c) (hd a) (v1 := atI xs b) (v2 := atI xs c) (v3 := atI xs a) (by omega) (by omega)
    omega
theorem qLt_irr (xs gs : List Int) (m a : Int) : ¬ qLt xs gs m a a := by unfold qLt; omega
theorem foldN {xs gs : List Int} {m : Int} (hd : ∀ i, 0 < dv (atI gs i) m) (ls : List Int) (a : Int) :
    ∃ l1 b l2, a :: ls = l1 ++ b :: l2 ∧ ls.foldl (stepN xs gs m) a = b ∧ (∀ x ∈ l1, qLt xs gs m x b) ∧ (∀ x ∈ l2, ¬ qLt xs gs m b x) := by
  induction ls generalizing a with
  | nil => exact ⟨[], a, [], rfl, rfl, by simp, by simp⟩
  | cons c t ih =>
    rw [List.foldl_cons]
    by_cases hlt : qLt xs gs m a c
    · rw [show stepN xs gs m a c = c from if_pos hlt]
      obtain ⟨l1, b, l2, e, hb, h1, h2⟩ := ih c
      refine ⟨a :: l1, b, l2, by rw [List.cons_append, ← e], hb, fun x hx => ?_, h2⟩
      have hc : qLt xs gs m c b ∨ c = b := by
        cases l1 with
        | nil => simp at e; exact .inr e.1
        | cons d l1 => simp at e; rw [e.1]; exact .inl (h1 d (by simp))
      rcases List.mem_cons.1 hx with rfl | hx
      · rcases hc with hc | hc
        · exact qLt_le hd hlt (by unfold qLt at *; omega)
        · exact hc ▸ hlt
      · exact h1 x hx
    · rw [show stepN xs gs m a c = a from if_neg hlt]
      obtain ⟨l1, b, l2, e, hb, h1, h2⟩ := ih a
      cases l1 with
      | nil =>
        simp at e
        obtain ⟨rfl, rfl⟩ := e
        refine ⟨[], a, c :: t, rfl, hb, by simp, fun x hx => ?_⟩
        rcases List.mem_cons.1 hx with rfl | hx
        · exact hlt
        · exact h2 x hx
      | cons d l1 =>
        simp at e
        obtain ⟨rfl, rfl⟩ := e
        refine ⟨a :: c :: l1, b, l2, by simp, hb, fun x hx => ?_, h2⟩
        have h3 := h1 a (by simp)
        rcases List.mem_cons.1 hx with rfl | hx
        · exact h3
        · rcases List.mem_cons.1 hx with rfl | hx
          · exact qLt_lt hd hlt h3
          · exact h1 x (by simp [hx])
theorem nextP_split {xs gs : List Int} {m : Int} (hd : ∀ i, 0 < dv (atI gs i) m) {ls : List Int} (hn : 0 < ls.length) :
    ∃ l1 b l2, ls = l1 ++ b :: l2 ∧ nextP xs gs m ls = b ∧ (∀ x ∈ l1, qLt xs gs m x b) ∧ (∀ x ∈ l2, ¬ qLt xs gs m b x) := by
  cases ls with
  | nil => simp at hn
  | cons a t =>
    obtain ⟨l1, b, l2, e, hb, h1, h2⟩ := foldN (xs := xs) hd t a
    refine ⟨l1, b, l2, e, ?_, h1, h2⟩
    rw [← hb]
    show (a :: t).foldl (stepN xs gs m) a = _
    rw [List.foldl_cons, stepN_self]
/-- x comes before y. -/
def bef (ls : List Int) (x y : Int) : Bool := match ls.find? (fun l => l == x || l == y) with | some l => l == x && x != y | none => false
theorem bef_self (ls : List Int) (x : Int) : bef ls x x = false := by
  unfold bef; split <;> simp
theorem bef_not {l1 l2 : List Int} {x y : Int} (h1 : x ∉ l1) (h2 : y ∉ l1) : bef (l1 ++ y :: l2) x y = false := by
  by_cases hxy : x = y
  · rw [hxy]; exact bef_self _ _
  · unfold bef
    have e : l1.find? (fun l => l == x || l == y) = none := by
      rw [List.find?_eq_none]
      intro l hl
      simp only [Bool.or_eq_true, beq_iff_eq]
      rintro (rfl | rfl)
      · exact h1 hl
      · exact h2 hl
    rw [List.find?_append, e]
    simp
    intro h; exact absurd h.symm hxy
theorem getD_atI (xs : List Int) (i : Nat) : atI xs (i : Int) = xs.getD i 0 := rfl
theorem getD_of {xs : List Int} {i : Nat} {x : Int} (h : xs[i]? = some x) : xs.getD i 0 = x := by simp [h]
theorem at_getD {xs : List Int} {i : Nat} (h : i < xs.length) : xs[i]? = some (xs.getD i 0) := by simp [h]
theorem getD_mem {xs : List Int} {i : Nat} (h : i < xs.length) : xs.getD i 0 ∈ xs := mem_of_at (at_getD h)
theorem getD_nn {xs : List Int} (h : ∀ x ∈ xs, 0 ≤ x) (i : Nat) : 0 ≤ xs.getD i 0 := by
  by_cases hi : i < xs.length
  · exact h _ (getD_mem hi)
  · rw [List.getD_eq_getElem?_getD, List.getElem?_eq_none (by omega)]; exact Int.le_refl _
theorem dv_pos {s m : Int} (hm : m = 1 ∨ m = 2) (h : 0 ≤ s) : 0 < dv s m := by rcases hm with rfl | rfl <;> unfold dv <;> omega
theorem dv_mono {s t m : Int} (hm : m = 1 ∨ m = 2) (h : s ≤ t) : dv s m ≤ dv t m := by rcases hm with rfl | rfl <;> unfold dv <;> omega
theorem bump_getD {gs : List Int} {q : Nat} (hq : q < gs.length) (i : Nat) : (bump gs q).getD i 0 = if i = q then gs.getD q 0 + 1 else gs.getD i 0 := by
  rw [bump_at (at_getD hq)]
  by_cases h : i = q
  · subst h; simp [hq]
  · rw [if_neg h]; generalize gs.getD q 0 + 1 = y; rw [List.getD_eq_getElem?_getD, List.getD_eq_getElem?_getD, List.getElem?_set_ne (by omega)]
/-- The best party: no quotient is greater, and of equal ones it is the first of the lots. -/
structure Best (xs gs : List Int) (m : Int) (ls : List Int) (q : Nat) : Prop where
  lt : q < xs.length
  ge : ∀ i, i < xs.length → xs.getD i 0 * dv (gs.getD q 0) m ≤ xs.getD q 0 * dv (gs.getD i 0) m
  first : ∀ i, i < xs.length → xs.getD i 0 * dv (gs.getD q 0) m = xs.getD q 0 * dv (gs.getD i 0) m → bef ls i q = false
theorem nextP_best {xs gs : List Int} {m : Int} {ls : List Int} (o : NextOk xs gs m ls) (hv : lv ls = true) : ∃ q : Nat, nextP xs gs m ls = q ∧ Best xs gs m ls q := by
  have hd : ∀ i, 0 < dv (atI gs i) m := fun i => dv_pos o.hm (getD_nn (fun g hg => (o.gb g hg).1) _)
  obtain ⟨q, hq, hlt⟩ := nextP_lt o
  obtain ⟨l1, b, l2, e, hb, h1, h2⟩ := nextP_split (xs := xs) hd (ls := ls) (by rw [o.ll]; exact o.l1.1)
  rw [hq] at hb
  subst hb
  have hin : ∀ i, i < xs.length → (i : Int) ∈ l1 ∨ (i : Int) = q ∨ (i : Int) ∈ l2 := fun i hi => by
    have := lots_all hv (i := i) (by rw [o.ll]; exact hi)
    rw [e] at this
    simpa using this
  have hnd : (q : Int) ∉ l1 := by
    obtain ⟨_, _, hd⟩ := lv_iff.1 hv
    rw [e, List.nodup_append] at hd
    intro hm
    exact hd.2.2 _ hm _ (by simp) rfl
  refine ⟨q, hq, hlt, fun i hi => ?_, fun i hi he => ?_⟩
  · rcases hin i hi with h | h | h
    · have := h1 _ h; unfold qLt at this; rw [getD_atI, getD_atI, getD_atI, getD_atI] at this; omega
    · obtain rfl : i = q := by omega
      omega
    · have := h2 _ h; unfold qLt at this; rw [getD_atI, getD_atI, getD_atI, getD_atI] at this; omega
  · rw [e]
    refine bef_not (fun h => ?_) hnd
    have := h1 _ h; unfold qLt at this; rw [getD_atI, getD_atI, getD_atI, getD_atI] at this; omega
/-- No party without a seat has a greater quotient. -/
def Fit (xs gs : List Int) (m : Int) : Prop := ∀ i j, i < xs.length → j < xs.length → 0 < gs.getD i 0 → xs.getD j 0 * dv (gs.getD i 0 - 1) m ≤ xs.getD i 0 * dv (gs.getD j 0) m
theorem checkF_iff {xs gs : List Int} {m : Int} (hv : vv xs = true) (hg : gv gs xs.length = true) (hm : mv m = true) : checkF xs gs m = true ↔ Fit xs gs m := by
  rw [checkF_t hv hg hm, all_range_iff]
  constructor
  · intro h i j hi hj h0
    have := all_range_iff.1 (h i hi) j hj
    unfold okAt at this
    simp only [Bool.not_eq_true', Bool.and_eq_false_iff, decide_eq_false_iff_not] at this
    omega
  · intro h i hi
    refine all_range_t fun j hj => ?_
    unfold okAt
    simp only [Bool.not_eq_true', Bool.and_eq_false_iff, decide_eq_false_iff_not]
    by_cases h0 : 0 < gs.getD i 0
    · have := h i j hi hj h0; omega
    · exact .inl h0
theorem Fit.bump {xs gs : List Int} {m : Int} {ls : List Int} {q : Nat} (o : NextOk xs gs m ls) (h : Fit xs gs m) (b : Best xs gs m ls q) : Fit xs (bump gs q) m := by
  intro i j hi hj h0
  have hq : q < gs.length := by rw [o.gl]; exact b.lt
  rw [bump_getD hq] at h0
  rw [bump_getD hq, bump_getD hq]
  have hxi : 0 ≤ xs.getD i 0 := getD_nn (fun x hx => (o.xb x hx).1) i
  have hx : 0 ≤ xs.getD j 0 := getD_nn (fun x hx => (o.xb x hx).1) j
  by_cases e1 : i = q <;> by_cases e2 : j = q
  · subst e1; subst e2
    simp only [if_true]
    exact Int.mul_le_mul_of_nonneg_left (dv_mono o.hm (by omega)) hx
  · subst e1
    rw [if_pos rfl, if_neg e2]
    have := b.ge j hj
    rw [show gs.getD i 0 + 1 - 1 = gs.getD i 0 from by omega]
    exact this
  · subst e2
    rw [if_neg e1] at h0
    rw [if_neg e1, if_pos rfl]
    have h1 := h i j hi hj h0
    have h2 := Int.mul_le_mul_of_nonneg_left (dv_mono o.hm (show gs.getD j 0 ≤ gs.getD j 0 + 1 by omega)) hxi
    exact Int.le_trans h1 h2
  · rw [if_neg e1] at h0
    rw [if_neg e1, if_neg e2]
    exact h i j hi hj h0
theorem DivOk.best {xs : List Int} {m : Int} {ls : List Int} (o : DivOk xs m ls) (hv : lv ls = true) (k : Nat) (hk : k ≤ 20) :
    ∃ q : Nat, nextP xs (giveN xs m ls k) m ls = q ∧ Best xs (giveN xs m ls k) m ls q ∧ giveN xs m ls (k + 1) = bump (giveN xs m ls k) q := by
  obtain ⟨q, hq, hb⟩ := nextP_best (o.next (o.given k (by omega)) hk) hv
  exact ⟨q, hq, hb, by show bump _ _ = _; rw [hq]⟩
theorem giveN_fit {xs : List Int} {m : Int} {ls : List Int} (o : DivOk xs m ls) (hv : lv ls = true) (k : Nat) (hk : k ≤ 20) : Fit xs (giveN xs m ls k) m := by
  induction k with
  | zero =>
    intro i j _ _ h0
    have : (giveN xs m ls 0).getD i 0 = 0 := by
      show (List.replicate xs.length (0 : Int)).getD i 0 = 0
      rw [List.getD_eq_getElem?_getD, List.getElem?_replicate]
      split <;> rfl
    omega
  | succ k ih =>
    obtain ⟨q, hq, hb, he⟩ := o.best hv k (by omega)
    rw [he]
    exact (ih (by omega)).bump (o.next (o.given k (by omega)) (by omega)) hb
/-- Somebody has votes. -/
theorem has_votes {xs : List Int} (hv : vv xs = true) : ∃ j, j < xs.length ∧ 0 < xs.getD j 0 := by
  obtain ⟨a1, a2, a3⟩ := vv_iff.1 hv
  by_cases h : ∃ j, j < xs.length ∧ 0 < xs.getD j 0
  · exact h
  · exfalso
    have := sum_le_of (xs := xs) (ys := List.replicate xs.length 0) (by simp) (fun k x y hx hy => by
      have hk := (List.getElem?_eq_some_iff.1 hx).1
      have hy' := List.eq_of_mem_replicate (mem_of_at hy)
      have hx' := getD_of hx
      rcases Int.lt_or_le 0 x with h0 | h0
      · exact absurd ⟨k, hk, by omega⟩ h
      · omega)
    rw [replicate_sum] at this
    omega
theorem Fit.zero {xs gs : List Int} {m : Int} (h : Fit xs gs m) (hm : m = 1 ∨ m = 2) (hv : vv xs = true) {i : Nat} (hi : i < xs.length) (hx : xs.getD i 0 = 0) : gs.getD i 0 ≤ 0 := by
  rcases Int.lt_or_le 0 (gs.getD i 0) with h0 | h0
  · obtain ⟨j, hj, hj0⟩ := has_votes hv
    have h1 := h i j hi hj h0
    rw [hx, Int.zero_mul] at h1
    have := Int.mul_pos hj0 (dv_pos (s := gs.getD i 0 - 1) hm (by omega))
    omega
  · exact h0
theorem Fit.order {xs gs : List Int} {m : Int} (h : Fit xs gs m) (hm : m = 1 ∨ m = 2) (hx : ∀ x ∈ xs, 0 ≤ x) (hg : ∀ g ∈ gs, 0 ≤ g) {i k : Nat} (hi : i < xs.length) (hk : k < xs.length) (hlt : xs.getD k 0 < xs.getD i 0) : gs.getD k 0 ≤ gs.getD i 0 := by
  rcases Int.lt_or_le (gs.getD i 0) (gs.getD k 0) with h0 | h0
  · have gi := getD_nn hg i
    have h1 := h k i hk hi (by omega)
    have h2 := dv_mono hm (show gs.getD i 0 ≤ gs.getD k 0 - 1 by omega)
    have h3 := dv_pos hm gi
    have h4 := Int.mul_le_mul_of_nonneg_left h2 (getD_nn hx i)
    have h5 := Int.mul_lt_mul_of_pos_right hlt h3
    omega
  · exact h0
theorem Fit.near {xs gs : List Int} {m : Int} (h : Fit xs gs m) (hm : m = 1 ∨ m = 2) (hv : vv xs = true) (hg : ∀ g ∈ gs, 0 ≤ g) {i k : Nat} (hi : i < xs.length) (hk : k < xs.length) (he : xs.getD k 0 = xs.getD i 0) : gs.getD k 0 ≤ gs.getD i 0 + 1 := by
  have hx : ∀ x ∈ xs, 0 ≤ x := fun x hx => ((vv_iff.1 hv).1 x hx).1
  have gi := getD_nn hg i
  have x0 := getD_nn hx i
  rcases Int.lt_or_le (gs.getD i 0 + 1) (gs.getD k 0) with h0 | h0
  · exfalso
    by_cases hz : xs.getD i 0 = 0
    · have := h.zero hm hv hk (by omega)
      omega
    · have h1 := h k i hk hi (by omega)
      rw [he] at h1
      have h2 := Int.le_of_mul_le_mul_left h1 (by omega)
      rcases hm with rfl | rfl <;> unfold dv at h2 <;> omega
  · exact h0
theorem giveN_tie {xs : List Int} {m : Int} {ls : List Int} (o : DivOk xs m ls) (hv : lv ls = true) (k : Nat) (hk : k ≤ 20) {i j : Nat} (hi : i < xs.length) (he : xs.getD i 0 = xs.getD j 0) (hb : bef ls i j = true) :
    (giveN xs m ls k).getD j 0 ≤ (giveN xs m ls k).getD i 0 := by
  induction k with
  | zero =>
    have : ∀ i, (giveN xs m ls 0).getD i 0 = 0 := fun i => by
      show (List.replicate xs.length (0 : Int)).getD i 0 = 0
      rw [List.getD_eq_getElem?_getD, List.getElem?_replicate]
      split <;> rfl
    rw [this, this]; exact Int.le_refl _
  | succ k ih =>
    have h := ih (by omega)
    obtain ⟨q, hq, b, e⟩ := o.best hv k (by omega)
    have hq' : q < (giveN xs m ls k).length := by rw [(o.given k (by omega)).len]; exact b.lt
    rw [e, bump_getD hq', bump_getD hq']
    by_cases e1 : j = q
    · subst e1
      by_cases e2 : i = j
      · rw [e2, bef_self] at hb; cases hb
      · rw [if_pos rfl, if_neg e2]
        rcases Int.lt_or_le ((giveN xs m ls k).getD j 0) ((giveN xs m ls k).getD i 0) with h0 | h0
        · omega
        · have hs : (giveN xs m ls k).getD j 0 = (giveN xs m ls k).getD i 0 := by omega
          have := b.first i hi (by rw [he, hs])
          rw [this] at hb; cases hb
    · rw [if_neg e1]
      split
      · rename_i e2; subst e2; omega
      · exact h
/-- Scale. -/
theorem stepN_scale (xs gs : List Int) (m b p : Int) : stepN (xs.map fun x => 2 * x) gs m b p = stepN xs gs m b p := by
  have e : ∀ i, atI (xs.map fun x => 2 * x) i = 2 * atI xs i := fun i => by
    unfold atI
    rw [List.getD_eq_getElem?_getD, List.getD_eq_getElem?_getD, List.getElem?_map]
    cases xs[i.toNat]? <;> simp
  unfold stepN
  rw [e, e, Int.mul_assoc, Int.mul_assoc]
  by_cases h : atI xs b * dv (atI gs p) m < atI xs p * dv (atI gs b) m
  · rw [if_pos h, if_pos (by omega)]
  · rw [if_neg h, if_neg (by omega)]
theorem giveN_scale (xs : List Int) (m : Int) (ls : List Int) (k : Nat) : giveN (xs.map fun x => 2 * x) m ls k = giveN xs m ls k := by
  induction k with
  | zero => show List.replicate _ _ = List.replicate _ _; rw [List.length_map]
  | succ k ih =>
    show bump (giveN (xs.map fun x => 2 * x) m ls k) (nextP (xs.map fun x => 2 * x) (giveN (xs.map fun x => 2 * x) m ls k) m ls) = bump (giveN xs m ls k) (nextP xs (giveN xs m ls k) m ls)
    rw [ih]
    congr 1
    unfold nextP
    congr 1
    funext b p
    exact stepN_scale xs _ m b p
theorem sum_scale (xs : List Int) (a : Int) : (xs.map fun x => x * a).sum = xs.sum * a := by
  induction xs with
  | nil => simp
  | cons x t ih => simp only [List.map_cons, List.sum_cons, ih, Int.add_mul]
/-- Whole parts. -/
theorem Fit.floor {xs gs : List Int} (h : Fit xs gs 1) (hx : ∀ x ∈ xs, 0 ≤ x) (hl : gs.length = xs.length) (hs : 0 < xs.sum) (hg : ∀ g ∈ gs, 0 ≤ g) {i : Nat} (hi : i < xs.length) :
    xs.getD i 0 * gs.sum < (gs.getD i 0 + 1) * xs.sum := by
  have g0 := getD_nn hg i
  have x0 := getD_nn hx i
  have key : ∀ p, p < xs.length → gs.getD p 0 * xs.getD i 0 ≤ xs.getD p 0 * (gs.getD i 0 + 1) := fun p hp => by
    rcases Int.lt_or_le 0 (gs.getD p 0) with h0 | h0
    · have := h p i hp hi h0
      unfold dv at this
      rw [Int.one_mul, Int.one_mul, show gs.getD p 0 - 1 + 1 = gs.getD p 0 from by omega, Int.mul_comm] at this
      exact this
    · have e : gs.getD p 0 = 0 := by have := getD_nn hg p; omega
      rw [e, Int.zero_mul]
      exact Int.mul_nonneg (getD_nn hx p) (by omega)
  have h1 := sum_le_of (xs := (gs.map fun g => g * xs.getD i 0).set i ((gs.getD i 0) * xs.getD i 0 + xs.getD i 0)) (ys := xs.map fun x => x * (gs.getD i 0 + 1)) (by simp [hl]) (fun k x y hx' hy => by
    have hk := (List.getElem?_eq_some_iff.1 hy).1
    simp at hk
    have hy' : xs.getD k 0 * (gs.getD i 0 + 1) = y := by simpa [hk] using hy
    by_cases e : i = k
    · subst e
      have hx2 : (gs.getD i 0) * xs.getD i 0 + xs.getD i 0 = x := by
        rw [List.getElem?_set_self (by simp [hl, hk])] at hx'
        injection hx'
      rw [← hy', ← hx2, Int.mul_add, Int.mul_one, Int.mul_comm]
      omega
    · rw [List.getElem?_set_ne e] at hx'
      have hx2 : gs.getD k 0 * xs.getD i 0 = x := by
        have hk' : k < gs.length := by omega
        simpa [hk'] using hx'
      have := key k hk
      omega)
  rw [sum_set (g := gs.getD i 0 * xs.getD i 0) (by simp [hl, hi]), sum_scale, sum_scale] at h1
  have e1 : gs.sum * xs.getD i 0 = xs.getD i 0 * gs.sum := Int.mul_comm _ _
  have e2 : (gs.getD i 0 + 1) * xs.sum = xs.sum * (gs.getD i 0 + 1) := Int.mul_comm _ _
  by_cases hz : xs.getD i 0 = 0
  · rw [hz, Int.zero_mul]
    exact Int.mul_pos (by omega) hs
  · omega
/-- A seat that is moved. -/
theorem Fit.moved {xs gs : List Int} {m : Int} (h : Fit xs gs m) {i k : Nat} (hl : gs.length = xs.length) (hg : ∀ g ∈ gs, 0 ≤ g) (hi : i < xs.length) (hk : k < xs.length) (hik : i ≠ k) (h0 : 0 < gs.getD i 0)
    (h2 : Fit xs ((gs.set i (gs.getD i 0 - 1)).set k (gs.getD k 0 + 1)) m) : xs.getD i 0 * dv (gs.getD k 0) m = xs.getD k 0 * dv (gs.getD i 0 - 1) m := by
  have h1 := h i k hi hk h0
  have ek : ((gs.set i (gs.getD i 0 - 1)).set k (gs.getD k 0 + 1)).getD k 0 = gs.getD k 0 + 1 := getD_of (List.getElem?_set_self (by simp [hl, hk]))
  have ei : ((gs.set i (gs.getD i 0 - 1)).set k (gs.getD k 0 + 1)).getD i 0 = gs.getD i 0 - 1 := getD_of (by
    rw [List.getElem?_set_ne (by omega), List.getElem?_set_self (by simp [hl, hi])])
  have g0 := getD_nn hg k
  have h3 := h2 k i hk hi (by rw [ek]; omega)
  rw [ek, ei, show gs.getD k 0 + 1 - 1 = gs.getD k 0 from by omega] at h3
  omega
end Go.Proofs.Ytoblhmbpobbecaa
