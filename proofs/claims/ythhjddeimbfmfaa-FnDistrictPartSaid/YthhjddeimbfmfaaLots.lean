/-
  Lots and ballots: each candidate is there once.
-/
import Derived.Test.YthhjddeimbfmfaaSmall
import Derived.Test.YthhjddeimbfmfaaFrame
namespace Go.Proofs.Ythhjddeimbfmfaa
open Go.RowKit
theorem OwnI.le_cap {w : World} {base : Nat} {A : Option Addr} {c : Nat} {xs : List Int} (h : OwnI w base A c xs) : xs.length ≤ c := by
  rcases h.2 with ⟨hv, h0⟩ | ⟨g, cap, cur, hv, hb, hg, h1, _⟩
  · omega
  · injection hv with _ _ hc
    omega
/-- Each is in range and there once. -/
def bp (n : Int) (xs : List Int) : Bool := xs.all (fun x => inB x 0 (n - 1)) && decide xs.Nodup
def bv (xs : List Int) (n : Int) : Bool := inB n 1 5 && bp n xs
def lv (xs : List Int) : Bool := bv xs xs.length
/-- One of them. -/
def has (xs : List Int) (x : Int) : Bool := xs.contains x
theorem has_iff {xs : List Int} {x : Int} : has xs x = true ↔ x ∈ xs := by simp [has]
theorem has_no {xs : List Int} {x : Int} : has xs x = false ↔ x ∉ xs := by simp [has]
theorem has_snoc {xs : List Int} {k : Nat} {x y : Int} (h : xs[k]? = some y) (hn : has (xs.take k) x = false) (hy : (x == y) = false) : has (xs.take (k + 1)) x = false := by
  rw [take_snoc _ _ _ h]
  rw [has_no] at hn ⊢
  simp at hn hy ⊢
  exact ⟨hn, hy⟩
theorem has_t {xs : List Int} {k : Nat} {x : Int} (h : xs[k]? = some x) : has xs x = true := by
  rw [has_iff]
  exact mem_of_at h
theorem bp_iff {n : Int} {xs : List Int} : bp n xs = true ↔ (∀ x ∈ xs, 0 ≤ x ∧ x ≤ n - 1) ∧ xs.Nodup := by
  simp [bp, inB]
theorem bp_nil (n : Int) : bp n [] = true := by simp [bp]
theorem bp_snoc {n : Int} {xs : List Int} {k : Nat} {x : Int} (h : xs[k]? = some x) (hp : bp n (xs.take k) = true) (hi : 0 ≤ x ∧ x ≤ n - 1) (hc : has (xs.take k) x = false) : bp n (xs.take (k + 1)) = true := by
  rw [take_snoc _ _ _ h]
  rw [bp_iff] at hp ⊢
  refine ⟨fun y hy => ?_, ?_⟩
  · rcases List.mem_append.1 hy with hy | hy
    · exact hp.1 y hy
    · simp at hy; subst hy; exact hi
  · rw [List.nodup_append]
    refine ⟨hp.2, by simp, fun a ha b hb => ?_⟩
    rw [has_no] at hc
    simp at hb
    subst hb
    intro e
    subst e
    exact hc ha
theorem bp_range {n : Int} {xs : List Int} {x : Int} (h : x ∈ xs) (hi : ¬(0 ≤ x ∧ x ≤ n - 1)) : bp n xs = false := by
  cases hb : bp n xs
  · rfl
  · exact absurd ((bp_iff.1 hb).1 x h) hi
theorem bp_twice {n : Int} {xs : List Int} {k : Nat} {x : Int} (h : xs[k]? = some x) (hc : has (xs.take k) x = true) : bp n xs = false := by
  cases hb : bp n xs
  · rfl
  · exfalso
    have h1 := (bp_iff.1 hb).2
    obtain ⟨hk, e⟩ := List.getElem?_eq_some_iff.1 h
    rw [has_iff] at hc
    obtain ⟨j, hj, e2⟩ := List.getElem_of_mem hc
    simp at hj
    rw [List.getElem_take] at e2
    have h2 := List.pairwise_iff_getElem.1 h1 j k (by omega) hk (by omega)
    exact h2 (by rw [e2, e])
end Go.Proofs.Ythhjddeimbfmfaa
