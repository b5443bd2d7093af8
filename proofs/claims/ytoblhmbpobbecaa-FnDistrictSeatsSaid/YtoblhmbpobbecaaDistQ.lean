/-
  What a law over a code learns of districts, in plain Lean.
-/
import Derived.Test.YtoblhmbpobbecaaDistG
namespace Go.Proofs.Ytoblhmbpobbecaa
theorem moreL_cons (a b : Int) (us bs : List Int) : moreL (a :: us) (b :: bs) = max 0 (a - b) + moreL us bs := by simp [moreL]
theorem moreL_le {us bs : List Int} (ha : ∀ a ∈ us, 0 ≤ a) (hb : ∀ b ∈ bs, 0 ≤ b) : moreL us bs ≤ us.sum := by
  induction us generalizing bs with
  | nil => simp [moreL]
  | cons a t ih =>
    cases bs with
    | nil =>
      have h0 := sum_nonneg (a :: t) ha
      simpa [moreL] using h0
    | cons b u =>
      have i := ih (bs := u) (fun x hx => ha x (by simp [hx])) (fun x hx => hb x (by simp [hx]))
      have h1 := ha a (by simp)
      have h2 := hb b (by simp)
      rw [moreL_cons, List.sum_cons]
      omega
theorem moreL_self (us : List Int) : moreL us us = 0 := by
  induction us with
  | nil => rfl
  | cons a t ih => rw [moreL_cons, ih]; omega
theorem moreL_sub {us bs : List Int} (h : us.length = bs.length) : moreL us bs - moreL bs us = us.sum - bs.sum := by
  induction us generalizing bs with
  | nil => cases bs with
    | nil => rfl
    | cons _ _ => simp at h
  | cons a t ih => cases bs with
    | nil => simp at h
    | cons b u =>
      have i := ih (bs := u) (by simpa using h)
      rw [moreL_cons, moreL_cons, List.sum_cons, List.sum_cons]
      omega
section
variable {xss : List (List Int)} {k : Nat} {m : Int} {ls : List Int}
theorem DsOk.divC (o : DsOk xss k m ls) {xs : List Int} (hx : xs ∈ xss) : Go.Proofs.Ytoblhmbpobbecaa.divC xs m ls = true := by simp [Go.Proofs.Ytoblhmbpobbecaa.divC, o.dv.row xs hx, o.mm, o.lv, o.ll, o.dv.len xs hx]
theorem DsOk.k20 (o : DsOk xss k m ls) : k ≤ 20 := by
  have := Nat.le_mul_of_pos_right k (show 0 < xss.length from o.dv.l1.1)
  have := o.hk
  omega
theorem DsOk.rowSum (o : DsOk xss k m ls) {xs : List Int} (hx : xs ∈ xss) : (giveN xs m ls k).sum = k := ((divOk_of (o.divC hx)).1.given k (by have := o.k20; omega)).sum
theorem DsOk.apSum (o : DsOk xss k m ls) : (tog (wid xss) (dsR xss m ls k)).sum = (k : Int) * xss.length := by
  rw [tog_sum o.row]
  have key : ∀ l : List (List Int), (∀ xs ∈ l, xs ∈ xss) → ((l.map fun xs => giveN xs m ls k).map List.sum).sum = (k : Int) * l.length := by
    intro l
    induction l with
    | nil => intro _; simp
    | cons a t ih =>
      intro h
      simp only [List.map_cons, List.sum_cons, List.length_cons, o.rowSum (h a (by simp)), ih (fun xs hx => h xs (by simp [hx]))]
      push_cast
      rw [Int.mul_add, Int.mul_one]; omega
  exact key xss (fun _ h => h)
theorem DsOk.whSum (o : DsOk xss k m ls) : (giveN (tog (wid xss) xss) m ls (k * xss.length)).sum = (k : Int) * xss.length := by
  have hc : Go.Proofs.Ytoblhmbpobbecaa.divC (tog (wid xss) xss) m ls = true := by simp [Go.Proofs.Ytoblhmbpobbecaa.divC, o.dv.all, o.mm, o.lv, o.ll, tog_len]
  have g := (divOk_of hc).1.given (k * xss.length) (by have := o.hk; omega)
  rw [g.sum]; push_cast; rfl
theorem DsOk.one (o : DsOk xss k m ls) (h1 : xss.length = 1) : moreL (tog (wid xss) (dsR xss m ls k)) (giveN (tog (wid xss) xss) m ls (k * xss.length)) = 0 := by
  obtain ⟨x, rfl⟩ : ∃ x, xss = [x] := by
    cases xss with
    | nil => simp at h1
    | cons x t => cases t with
      | nil => exact ⟨x, rfl⟩
      | cons _ _ => simp at h1
  have hw : wid [x] = x.length := rfl
  have e1 : dsR [x] m ls k = [giveN x m ls k] := rfl
  rw [hw, e1, tog_one rfl, tog_one (giveN_len _ _ _ _)]
  simp [moreL_self]
end
theorem dg_true {xss : List (List Int)} {s m r : Int} {ls : List Int} (h : dgF xss s m ls = r) (h0 : 0 ≤ r) : dsC xss s m ls = true ∧ ∃ k : Nat, s = k ∧ DsOk xss k m ls ∧ r = moreL (tog (wid xss) (dsR xss m ls k)) (giveN (tog (wid xss) xss) m ls (k * xss.length)) := by
  cases hc : dsC xss s m ls
  · rw [dgF_f hc] at h; omega
  · obtain ⟨k, rfl, _, o⟩ := dsOk_of hc
    exact ⟨rfl, k, rfl, o, by rw [← h, dgF_t hc]⟩
end Go.Proofs.Ytoblhmbpobbecaa
