/-
  Seats by divisors, of the program and of the reference.
-/
import Derived.Test.YthngafmnkihkgaaNext
import Derived.Test.YthngafmnkihkgaaShare
namespace Go.Proofs.Ythngafmnkihkgaa
open Go.RowKit
def bump (gs : List Int) (p : Int) : List Int := gs.set p.toNat (atI gs p + 1)
def giveN (xs : List Int) (m : Int) (ls : List Int) : Nat → List Int
  | 0 => List.replicate xs.length 0
  | k + 1 => bump (giveN xs m ls k) (nextP xs (giveN xs m ls k) m ls)
theorem foldN_lt (xs gs : List Int) (m : Int) (n : Int) (ls : List Int) (h : ∀ l ∈ ls, 0 ≤ l ∧ l < n) (b : Int) (hb : 0 ≤ b ∧ b < n) : 0 ≤ ls.foldl (stepN xs gs m) b ∧ ls.foldl (stepN xs gs m) b < n := by
  induction ls generalizing b with
  | nil => exact hb
  | cons a t ih =>
    refine ih (fun l hl => h l (by simp [hl])) _ ?_
    unfold stepN
    split
    · exact h a (by simp)
    · exact hb
theorem nextP_lt {xs gs : List Int} {m : Int} {ls : List Int} (o : NextOk xs gs m ls) : ∃ q : Nat, nextP xs gs m ls = q ∧ q < xs.length := by
  have h0 : 0 ≤ ls.headD 0 ∧ ls.headD 0 < xs.length := by
    cases hls : ls with
    | nil => have := o.ll; have := o.l1; simp [hls] at *; omega
    | cons a t => exact o.lb a (by simp [hls])
  have h1 := foldN_lt xs gs m xs.length ls o.lb _ h0
  obtain ⟨q, hq⟩ := Int.eq_ofNat_of_zero_le h1.1
  exact ⟨q, hq, by have h2 := h1.2; rw [hq] at h2; omega⟩
theorem sum_set {gs : List Int} {q : Nat} {g y : Int} (h : gs[q]? = some g) : (gs.set q y).sum = gs.sum + y - g := by
  induction gs generalizing q with
  | nil => simp at h
  | cons a t ih =>
    cases q with
    | zero => simp at h; subst h; simp; omega
    | succ q => simp at h; simp [ih h]; omega
theorem bump_at {gs : List Int} {q : Nat} {g : Int} (h : gs[q]? = some g) : bump gs q = gs.set q (g + 1) := by
  unfold bump; rw [atI_at h]; rfl
theorem bump_len (gs : List Int) (p : Int) : (bump gs p).length = gs.length := by simp [bump]
theorem replicate_sum (n : Nat) : (List.replicate n (0 : Int)).sum = 0 := by
  induction n with
  | zero => rfl
  | succ n ih => simp [List.replicate_succ, ih]
/-- After k seats. -/
structure Given (xs : List Int) (gs : List Int) (k : Nat) : Prop where
  len : gs.length = xs.length
  bd : ∀ g ∈ gs, 0 ≤ g ∧ g ≤ k
  sum : gs.sum = k
theorem Given.zero (xs : List Int) : Given xs (List.replicate xs.length 0) 0 :=
  ⟨by simp, fun g hg => by have := List.eq_of_mem_replicate hg; omega, by rw [replicate_sum]; rfl⟩
theorem Given.bump {xs gs : List Int} {k q : Nat} (h : Given xs gs k) (hq : q < xs.length) : Given xs (bump gs q) (k + 1) := by
  obtain ⟨g, hg⟩ : ∃ g, gs[q]? = some g := ⟨_, List.getElem?_eq_getElem (by rw [h.len]; exact hq)⟩
  rw [bump_at hg]
  refine ⟨by simp [h.len], fun y hy => ?_, by rw [sum_set hg, h.sum]; omega⟩
  rcases List.mem_or_eq_of_mem_set hy with hy | rfl
  · have := h.bd y hy; omega
  · have := h.bd g (mem_of_at hg); omega
/-- What all steps of the divisors need. -/
structure DivOk (xs : List Int) (m : Int) (ls : List Int) : Prop where
  xb : ∀ x ∈ xs, 0 ≤ x ∧ x ≤ 99
  ll : ls.length = xs.length
  l1 : 1 ≤ xs.length ∧ xs.length ≤ 5
  hm : m = 1 ∨ m = 2
  lb : ∀ l ∈ ls, 0 ≤ l ∧ l < xs.length
theorem DivOk.next {xs gs : List Int} {m : Int} {ls : List Int} {k : Nat} (o : DivOk xs m ls) (h : Given xs gs k) (hk : k ≤ 20) : NextOk xs gs m ls :=
  ⟨o.xb, fun g hg => by have := h.bd g hg; omega, h.len, o.ll, o.l1, o.hm, o.lb⟩
theorem DivOk.given {xs : List Int} {m : Int} {ls : List Int} (o : DivOk xs m ls) (k : Nat) (hk : k ≤ 21) : Given xs (giveN xs m ls k) k := by
  induction k with
  | zero => exact Given.zero xs
  | succ k ih =>
    have h := ih (by omega)
    obtain ⟨q, hq, hlt⟩ := nextP_lt (o.next h (by omega))
    show Given xs (Go.Proofs.Ythngafmnkihkgaa.bump _ _) _
    rw [hq]
    exact h.bump hlt
theorem gv_of_given {xs gs : List Int} {k : Nat} (h : Given xs gs k) (hk : k ≤ 20) : gv gs xs.length = true :=
  gv_iff.2 ⟨fun g hg => by have := h.bd g hg; omega, by rw [h.len], by rw [h.sum]; omega⟩
def divC (xs : List Int) (m : Int) (ls : List Int) : Bool := vv xs && mv m && lv ls && ((ls.length : Int) == (xs.length : Int))
theorem divOk_of {xs : List Int} {m : Int} {ls : List Int} (h : divC xs m ls = true) : DivOk xs m ls ∧ vv xs = true ∧ mv m = true ∧ lv ls = true ∧ ls.length = xs.length := by
  simp only [divC, Bool.and_eq_true, beq_iff_eq] at h
  obtain ⟨⟨⟨h1, h2⟩, h3⟩, h4⟩ := h
  have h5 : ls.length = xs.length := by omega
  have o := nextOk_of h1 (gv_of_given (Given.zero xs) (by omega)) h2 h3 h5
  exact ⟨⟨o.xb, o.ll, o.l1, o.hm, o.lb⟩, h1, h2, h3, h5⟩
theorem nextF_t {xs gs : List Int} {m : Int} {ls : List Int} {k : Nat} (h : divC xs m ls = true) (hg : Given xs gs k) (hk : k ≤ 20) : nextF xs gs m ls = nextP xs gs m ls := by
  obtain ⟨o, h1, h2, h3, h4⟩ := divOk_of h
  have := gv_of_given hg hk
  unfold nextF
  rw [if_pos (by simp [h1, h2, h3, h4, this])]
theorem nextF_f {xs gs : List Int} {m : Int} {ls : List Int} (h : divC xs m ls = false) : nextF xs gs m ls = -1 := by
  unfold nextF
  rw [if_neg]
  intro hh
  simp only [Bool.and_eq_true] at hh
  obtain ⟨⟨⟨⟨h1, h5⟩, h2⟩, h3⟩, h4⟩ := hh
  have : divC xs m ls = true := by simp only [divC, h1, h2, h3, h4]; rfl
  rw [this] at h
  cases h
/-- Seats by divisors. -/
def divF (xs : List Int) (s m : Int) (ls : List Int) : List Int × Bool := if (inB s 0 20 && divC xs m ls) = true then (giveN xs m ls s.toNat, true) else ([], false)
theorem divF_f {xs : List Int} {s m : Int} {ls : List Int} (h : (inB s 0 20 && divC xs m ls) = false) : divF xs s m ls = ([], false) := by unfold divF; rw [h]; rfl
theorem divF_t {xs : List Int} {m : Int} {ls : List Int} {s : Nat} (hs : s ≤ 20) (h : divC xs m ls = true) : divF xs s m ls = (giveN xs m ls s, true) := by
  unfold divF; rw [h, inB_t (by omega)]; rfl
end Go.Proofs.Ythngafmnkihkgaa
