/-
  Points for places on ballots, plain.
-/
import Derived.Test.YthngafmnkihkgaaCntP
namespace Go.Proofs.Ythngafmnkihkgaa
open Go.RowKit
/-- The points of candidate c for the places on one ballot. -/
def rowC (g : Nat → Int) (c : Int) (b : List Int) : Int := (b.zipIdx.map fun x => if x.1 = c then g x.2 else 0).sum
theorem rowC_nil (g : Nat → Int) (c : Int) : rowC g c [] = 0 := rfl
theorem rowC_snoc (g : Nat → Int) (c : Int) (b : List Int) (x : Int) : rowC g c (b ++ [x]) = rowC g c b + if x = c then g b.length else 0 := by
  unfold rowC
  rw [List.zipIdx_append, List.map_append, sum_append]
  simp
/-- All points of candidate c. -/
def ptsC (f : Nat → Nat → Int) (c : Int) (ps : List Pl) : Int := (ps.map fun p => p.many * rowC (fun j => f j p.bal.length) c p.bal).sum
theorem ptsC_snoc (f : Nat → Nat → Int) (c : Int) (ps : List Pl) (p : Pl) : ptsC f c (ps ++ [p]) = ptsC f c ps + p.many * rowC (fun j => f j p.bal.length) c p.bal := by
  unfold ptsC
  rw [List.map_append, List.map_singleton, sum_app1]
/-- The points of all, when of one more pile the first places are counted. -/
def ptsL (n : Nat) (f : Nat → Nat → Int) (ps : List Pl) (m : Int) (g : Nat → Int) (b : List Int) : List Int := (List.range n).map fun c => ptsC f (c : Nat) ps + m * rowC g (c : Nat) b
def ptsA (n : Nat) (f : Nat → Nat → Int) (ps : List Pl) : List Int := (List.range n).map fun c => ptsC f (c : Nat) ps
theorem ptsL_len (n : Nat) (f : Nat → Nat → Int) (ps : List Pl) (m : Int) (g : Nat → Int) (b : List Int) : (ptsL n f ps m g b).length = n := by simp [ptsL]
theorem ptsA_len (n : Nat) (f : Nat → Nat → Int) (ps : List Pl) : (ptsA n f ps).length = n := by simp [ptsA]
theorem ptsL_at {n : Nat} {f : Nat → Nat → Int} {ps : List Pl} {m : Int} {g : Nat → Int} {b : List Int} {c : Nat} (h : c < n) : (ptsL n f ps m g b)[c]? = some (ptsC f c ps + m * rowC g c b) := by simp [ptsL, h]
theorem ptsA_at {n : Nat} {f : Nat → Nat → Int} {ps : List Pl} {c : Nat} (h : c < n) : (ptsA n f ps)[c]? = some (ptsC f c ps) := by simp [ptsA, h]
theorem ptsA_nil (n : Nat) (f : Nat → Nat → Int) : ptsA n f [] = List.replicate n 0 := by
  apply List.ext_getElem
  · simp [ptsA]
  · intro i h1 h2
    simp [ptsA, ptsC]
theorem ptsL_nil (n : Nat) (f : Nat → Nat → Int) (ps : List Pl) (m : Int) (g : Nat → Int) : ptsL n f ps m g [] = ptsA n f ps := by
  unfold ptsL ptsA
  simp [rowC_nil]
theorem ptsL_all (n : Nat) (f : Nat → Nat → Int) (ps : List Pl) (p : Pl) : ptsL n f ps p.many (fun j => f j p.bal.length) p.bal = ptsA n f (ps ++ [p]) := by
  unfold ptsL ptsA
  apply List.map_congr_left
  intro c _
  rw [ptsC_snoc]
theorem ptsL_set {n : Nat} {f : Nat → Nat → Int} {ps : List Pl} {m : Int} {g : Nat → Int} {b : List Int} {c : Nat} :
    (ptsL n f ps m g b).set c (ptsC f c ps + m * rowC g c b + m * g b.length) = ptsL n f ps m g (b ++ [(c : Int)]) := by
  apply List.ext_getElem
  · simp [ptsL]
  · intro i h1 h2
    rw [List.getElem_set]
    simp only [ptsL, List.getElem_map, List.getElem_range]
    rw [rowC_snoc]
    by_cases hi : c = i
    · subst hi
      rw [if_pos rfl, if_pos rfl, Int.mul_add]
      omega
    · rw [if_neg hi, if_neg (by omega)]
      rw [Int.add_zero]
/-- What points are between. -/
theorem rowC_bd {g : Nat → Int} {M : Int} (hM : 0 ≤ M) (hg : ∀ j, 0 ≤ g j ∧ g j ≤ M) {b : List Int} (hb : b.Nodup) (c : Int) : 0 ≤ rowC g c b ∧ rowC g c b ≤ M ∧ (c ∉ b → rowC g c b = 0) := by
  have key : ∀ (b : List Int) (k : Nat), b.Nodup → 0 ≤ ((b.zipIdx k).map fun x => if x.1 = c then g x.2 else 0).sum ∧ ((b.zipIdx k).map fun x => if x.1 = c then g x.2 else 0).sum ≤ M ∧ (c ∉ b → ((b.zipIdx k).map fun x => if x.1 = c then g x.2 else 0).sum = 0) := by
    intro b
    induction b with
    | nil => intro k _; simp [hM]
    | cons a t ih =>
      intro k hd
      obtain ⟨h1, h2⟩ := List.nodup_cons.1 hd
      obtain ⟨i1, i2, i3⟩ := ih (k + 1) h2
      have hk := hg k
      simp only [List.zipIdx_cons, List.map_cons, List.sum_cons]
      by_cases hac : a = c
      · subst hac
        have i4 := i3 h1
        rw [if_pos rfl, i4]
        refine ⟨by omega, by omega, fun h => ?_⟩
        exact absurd (List.mem_cons_self) h
      · rw [if_neg hac]
        refine ⟨by omega, by omega, fun h => ?_⟩
        have := i3 (fun hm => h (List.mem_cons_of_mem _ hm))
        omega
  exact key b 0 hb
theorem rowC_take {g : Nat → Int} {M : Int} (hM : 0 ≤ M) (hg : ∀ j, 0 ≤ g j ∧ g j ≤ M) {b : List Int} (hb : b.Nodup) (c : Int) (k : Nat) : 0 ≤ rowC g c (b.take k) ∧ rowC g c (b.take k) ≤ M := by
  have := rowC_bd hM hg (b := b.take k) (List.Nodup.sublist (List.take_sublist k b) hb) c
  exact ⟨this.1, this.2.1⟩
theorem mul_le5 {m x M N : Int} (hm : 0 ≤ m ∧ m ≤ N) (hx : 0 ≤ x ∧ x ≤ M) (_hM : 0 ≤ M) : 0 ≤ m * x ∧ m * x ≤ N * M :=
  ⟨Int.mul_nonneg hm.1 hx.1, Int.mul_le_mul hm.2 hx.2 hx.1 (by omega)⟩
theorem ptsC_bd {f : Nat → Nat → Int} {M : Int} (hM : 0 ≤ M) (hf : ∀ j l, 0 ≤ f j l ∧ f j l ≤ M) {ps : List Pl} (hn : ∀ p ∈ ps, p.bal.Nodup) (hm : ∀ p ∈ ps, 0 ≤ p.many) (c : Int) :
    0 ≤ ptsC f c ps ∧ ptsC f c ps ≤ (ps.map Pl.many).sum * M := by
  induction ps with
  | nil => simp [ptsC]
  | cons p t ih =>
    obtain ⟨i1, i2⟩ := ih (fun q hq => hn q (by simp [hq])) (fun q hq => hm q (by simp [hq]))
    have hp := hm p (by simp)
    obtain ⟨r1, r2, _⟩ := rowC_bd hM (fun j => hf j p.bal.length) (hn p (by simp)) c
    have := mul_le5 (m := p.many) (N := p.many) ⟨hp, Int.le_refl _⟩ ⟨r1, r2⟩ hM
    unfold ptsC at i1 i2 ⊢
    simp only [List.map_cons, List.sum_cons]
    rw [Int.add_mul]
    omega
/-- The sum of all points. -/
theorem rowC_sum {g : Nat → Int} {n : Nat} {b : List Int} (hr : ∀ c ∈ b, 0 ≤ c ∧ c < n) : ((List.range n).map fun c : Nat => rowC g (c : Int) b).sum = ((List.range b.length).map g).sum := by
  have key : ∀ (b : List Int) (k : Nat), (∀ c ∈ b, 0 ≤ c ∧ c < n) → ((List.range n).map fun c : Nat => ((b.zipIdx k).map fun x => if x.1 = (c : Int) then g x.2 else 0).sum).sum = ((List.range b.length).map fun j => g (k + j)).sum := by
    intro b
    induction b with
    | nil => intro k _; simpa using nilSum n
    | cons a t ih =>
      intro k hr
      have ha := hr a (by simp)
      simp only [List.zipIdx_cons, List.map_cons, List.sum_cons, List.length_cons]
      rw [addSum n (fun c => if a = (c : Int) then g k else 0), oneSum, if_pos ha, ih (k + 1) (fun c hc => hr c (by simp [hc]))]
      rw [List.range_succ_eq_map, List.map_cons, List.sum_cons, List.map_map]
      have e : ((fun j => g (k + j)) ∘ Nat.succ) = fun j => g (k + 1 + j) := by
        funext j
        simp only [Function.comp, Nat.succ_eq_add_one]
        rw [show k + (j + 1) = k + 1 + j by omega]
      rw [e]
      rfl
  have := key b 0 hr
  unfold rowC
  simp only [Nat.zero_add] at this
  exact this
theorem mulSum (n : Nat) (m : Int) (f : Nat → Int) : ((List.range n).map fun c => m * f c).sum = m * ((List.range n).map f).sum := by
  induction n with
  | zero => simp
  | succ n ih => simp only [List.range_succ, List.map_append, List.map_singleton, sum_app1, ih, Int.mul_add]
theorem ptsA_sum {n : Nat} {f : Nat → Nat → Int} {ps : List Pl} (hr : ∀ p ∈ ps, ∀ c ∈ p.bal, 0 ≤ c ∧ c < n) :
    (ptsA n f ps).sum = (ps.map fun p => p.many * ((List.range p.bal.length).map fun j => f j p.bal.length).sum).sum := by
  induction ps with
  | nil => rw [ptsA_nil]; simp [List.sum_replicate_int]
  | cons p t ih =>
    have i := ih (fun q hq => hr q (by simp [hq]))
    unfold ptsA at i ⊢
    have e : ((List.range n).map fun c => ptsC f (c : Nat) (p :: t)) = (List.range n).map fun c : Nat => p.many * rowC (fun j => f j p.bal.length) (c : Int) p.bal + ptsC f (c : Nat) t := by
      apply List.map_congr_left
      intro c _
      simp [ptsC]
    rw [e, addSum, i, mulSum, rowC_sum (hr p (by simp))]
    simp
end Go.Proofs.Ythngafmnkihkgaa
