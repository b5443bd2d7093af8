/-
  What a law over a code learns of gaps and of fair seats.
-/
import Derived.Test.YtimldfknbeiadaaGapP
import Derived.Test.YtimldfknbeiadaaFair
import Derived.Test.YtimldfknbeiadaaDel
namespace Go.Proofs.Ytimldfknbeiadaa
open Go.RowKit
theorem gapL_nn (ds : List Int) : 0 ≤ gapL ds := sum_nonneg _ (fun y hy => by
  obtain ⟨d, _, rfl⟩ := List.mem_map.1 hy
  omega)
theorem sqL_nn (ds : List Int) : 0 ≤ sqL ds := sqL_nonneg ds
theorem rem_iota {xs gs : List Int} (hv : vv xs = true) (hg : gv gs xs.length = true) :
    ∃ ys, remF xs gs.sum (iota xs.length) = (ys, true) ∧ (RemFin xs gs.sum (iota xs.length) ys ∧ RemOk xs gs.sum (iota xs.length)) ∧ gv ys xs.length = true := by
  obtain ⟨_, a2, _⟩ := vv_iff.1 hv
  obtain ⟨b1, b2, b3⟩ := gv_iff.1 hg
  have h0 := sum_nonneg gs (fun x hx => (b1 x hx).1)
  have hc : remC xs gs.sum (iota xs.length) = true := by
    simp [remC, hv, iota_lv a2.1 a2.2, inB_t ⟨h0, b3⟩, iota_len]
  obtain ⟨o, _⟩ := remOk_of hc
  exact ⟨_, remF_t hc, ⟨o.fin, o⟩, (o.fin.fair hv ⟨h0, b3⟩).1⟩
theorem fair_len {xs gs : List Int} (h : ¬ gs.length = xs.length) : fairF xs gs = false := by
  have : gv gs xs.length = false := by
    cases hg : gv gs xs.length with
    | false => rfl
    | true => exact absurd (by have := (gv_iff.1 hg).2.1; omega) h
  simp [fairF, this]
theorem fair_none {xs gs : List Int} (h : xs.length = 0) : fairF xs gs = false := by
  have : vv xs = false := by
    cases hv : vv xs with
    | false => rfl
    | true => have := (vv_iff.1 hv).2.1; omega
  simp [fairF, this]
/-- So far all are fair. -/
def okB (xs gs : List Int) (j : Nat) : Bool := (List.range j).all fun i => decide (0 ≤ (quotaF xs gs.sum i).1) && decide ((quotaF xs gs.sum i).1 ≤ gs.getD i 0) && decide (gs.getD i 0 ≤ (quotaF xs gs.sum i).2)
theorem okB_snoc {xs gs : List Int} {j : Nat} {g : Int} (hg : gs[j]? = some g) : okB xs gs (j + 1) = (okB xs gs j && (decide (0 ≤ (quotaF xs gs.sum j).1) && decide ((quotaF xs gs.sum j).1 ≤ g) && decide (g ≤ (quotaF xs gs.sum j).2))) := by
  unfold okB
  rw [List.range_succ, List.all_append]
  simp [hg]
theorem fair_law {xs gs : List Int} (hl : gs.length = xs.length) (h0 : 0 < xs.length) : fairF xs gs = okB xs gs xs.length := by
  rw [Bool.eq_iff_iff]
  constructor
  · intro h
    have h1 := h
    unfold fairF at h1
    simp only [Bool.and_eq_true] at h1
    obtain ⟨⟨hv, hg⟩, hall⟩ := h1
    obtain ⟨a1, a2, a3⟩ := vv_iff.1 hv
    obtain ⟨b1, b2, b3⟩ := gv_iff.1 hg
    have hs := sum_nonneg gs (fun x hx => (b1 x hx).1)
    unfold okB
    rw [List.all_eq_true]
    intro i hi
    have hi' : i < xs.length := by simpa using hi
    have := all_range_iff.1 hall i hi'
    unfold fairAt at this
    have hb := inB_iff.1 this
    have hq := quotaF_t (p := (i : Int)) hv ⟨hs, b3⟩ ⟨by omega, by omega⟩ (by rw [Int.toNat_natCast]; exact at_getD hi')
    have hlow : 0 ≤ (quotaF xs gs.sum i).1 := by
      rw [hq]
      exact Int.ediv_nonneg (Int.mul_nonneg (a1 _ (getD_mem hi')).1 hs) (by omega)
    rw [decide_eq_true hlow, decide_eq_true hb.1, decide_eq_true hb.2]; rfl
  · intro h
    unfold okB at h
    rw [List.all_eq_true] at h
    have h1 : ∀ i, i < xs.length → 0 ≤ (quotaF xs gs.sum i).1 ∧ (quotaF xs gs.sum i).1 ≤ gs.getD i 0 ∧ gs.getD i 0 ≤ (quotaF xs gs.sum i).2 := fun i hi => by
      have := h i (by simpa using hi)
      simpa [and_assoc] using this
    have hc : vv xs = true ∧ (0 ≤ gs.sum ∧ gs.sum ≤ 20) ∧ (0 ≤ ((0 : Nat) : Int) ∧ ((0 : Nat) : Int) < xs.length) := by
      by_cases hh : vv xs = true ∧ (0 ≤ gs.sum ∧ gs.sum ≤ 20) ∧ (0 ≤ ((0 : Nat) : Int) ∧ ((0 : Nat) : Int) < xs.length)
      · exact hh
      · have := (h1 0 h0).1
        rw [quotaF_f hh] at this
        simp at this
    obtain ⟨hv, ⟨hs0, hs1⟩, _⟩ := hc
    have hnn : ∀ g ∈ gs, 0 ≤ g := fun g hg => by
      obtain ⟨i, hi, rfl⟩ := List.mem_iff_getElem.1 hg
      have := h1 i (by omega)
      have e : gs.getD i 0 = gs[i] := by simp [hi]
      omega
    have hg : gv gs xs.length = true := gv_iff.2 ⟨fun g hg => ⟨hnn g hg, by
      have key : ∀ l : List Int, (∀ x ∈ l, 0 ≤ x) → ∀ y ∈ l, y ≤ l.sum := by
        intro l
        induction l with
        | nil => simp
        | cons a t ih =>
          intro hl y hy
          have h1 := hl a (by simp)
          have h2 := sum_nonneg t (fun x hx => hl x (by simp [hx]))
          simp only [List.sum_cons]
          rcases List.mem_cons.1 hy with rfl | hy
          · omega
          · have := ih (fun x hx => hl x (by simp [hx])) y hy
            omega
      have := key gs hnn g hg
      omega⟩, by rw [hl], hs1⟩
    rw [fairF_t hv hg]
    refine all_range_t fun i hi => ?_
    exact inB_t (h1 i hi).2
end Go.Proofs.Ytimldfknbeiadaa
