/-
  From the reading of an argument that is a slice of slices of ints to what the walks ask of memory.
-/
import Derived.Test.YtoblhmbpobbecaaOpen
import Derived.Test.YtoblhmbpobbecaaMat
import Derived.Deep.Slices
import Derived.Deep.Matrix
namespace Go.Proofs.Ytoblhmbpobbecaa
open Go.ChangeShapes Go.WideShapes Go.ChangeAt Go.RowKit Go.Deep
theorem openRows {H : Type} {enc : TypeId × Value → H} {W : World} {r : Reach} {b0 : Nat} {v : Value} {d : DataW H} {p : List MemPlace} (hv : Value.okWide Try.prog W r b0 32 v) (h : DataW.Trod enc Try.prog W 0 (fun _ => true) true 32 v d p) :
    ∃ (A : Option Addr) (xss : List (List Int)) (c : Nat), v = .slice A xss.length c ∧ RowsI W A xss := by
  obtain ⟨a0, len, cap, rfl⟩ := okWide_slice Try.underlying32 hv
  obtain ⟨fuel, hf⟩ := h
  rcases open_int_rows Try.underlying32 Try.underlying23 Try.underlying3 (by kernel_rfl) (by kernel_rfl) hf with ⟨hcs, _⟩ | ⟨a, l, c, A, L, C, Z, hcs, _, hl, hm, _, hi⟩
  · simp [Value.cells] at hcs
    obtain ⟨rfl, rfl, rfl⟩ := hcs
    exact ⟨none, [], 0, rfl, RowsI.nil _ _⟩
  · simp [Value.cells] at hcs
    obtain ⟨rfl, rfl, rfl⟩ := hcs
    have hlen : ((List.range len).map fun r => (Z r).take (L r)).length = len := by simp
    refine ⟨some a, (List.range len).map fun r => (Z r).take (L r), cap, by rw [hlen], by rw [hlen]; omega, fun xs hx => ?_, fun _ => ⟨a, rfl, fun j xs hx => ?_⟩⟩
    · obtain ⟨r, hr, rfl⟩ := List.mem_map.1 hx
      have hr' : r < cap := by have : r < len := by simpa using hr
                               omega
      obtain ⟨_, h2, h3, h4, _⟩ := hi r hr'
      simp; omega
    · have hj : j < len := by
        have := (List.getElem?_eq_some_iff.1 hx).1
        simpa using this
      obtain ⟨h1, h2, h3, h4, _, h6, h7⟩ := hi j (by omega)
      have e : xs = (Z j).take (L j) := by
        simp [hj] at hx
        exact hx.symm
      have hxl : xs.length = L j := by rw [e]; simp; omega
      refine ⟨A j, C j, by rw [hxl]; exact h1, fun hn => ?_⟩
      cases hA : A j with
      | none => have := h6 hA; omega
      | some a' =>
        refine ⟨a', rfl, fun t x ht => ?_⟩
        rw [e, List.getElem?_take] at ht
        split at ht
        · have htl := (List.getElem?_eq_some_iff.1 ht).1
          rw [(h7 a' hA).2 t (by omega)]
          simp [ht]
        · cases ht
end Go.Proofs.Ytoblhmbpobbecaa
