/-
  What a law over a code learns of the next seat.
-/
import Derived.Test.YtimldfknbeiadaaDivP
import Derived.Test.YtimldfknbeiadaaNextS
import Derived.Test.YtimldfknbeiadaaDrawH
namespace Go.Proofs.Ytimldfknbeiadaa
open Go.RowKit
theorem next_true {xs gs ls : List Int} {m r : Int} (h : nextF xs gs m ls = r) (h0 : 0 ≤ r) :
    ∃ q : Nat, r = q ∧ vv xs = true ∧ gv gs xs.length = true ∧ mv m = true ∧ lv ls = true ∧ ls.length = xs.length ∧ NextOk xs gs m ls ∧ Best xs gs m ls q := by
  unfold nextF at h
  split at h
  · rename_i hc
    simp only [Bool.and_eq_true, beq_iff_eq] at hc
    obtain ⟨⟨⟨⟨h1, h2⟩, h3⟩, h4⟩, h5⟩ := hc
    have h5' : ls.length = xs.length := by omega
    have o := nextOk_of h1 h2 h3 h4 h5'
    obtain ⟨q, hq, hb⟩ := nextP_best o h4
    exact ⟨q, by rw [← h, hq], h1, h2, h3, h4, h5', o, hb⟩
  · omega
theorem mem_le_sum (l : List Int) (h : ∀ x ∈ l, 0 ≤ x) : ∀ y ∈ l, y ≤ l.sum := by
  induction l with
  | nil => simp
  | cons a t ih =>
    intro y hy
    have h1 := h a (by simp)
    have h2 := sum_nonneg t (fun x hx => h x (by simp [hx]))
    simp only [List.sum_cons]
    rcases List.mem_cons.1 hy with rfl | hy
    · omega
    · have := ih (fun x hx => h x (by simp [hx])) y hy
      omega
theorem next_check {xs gs ls : List Int} {m g : Int} {q : Nat} (hv : vv xs = true) (hg : gv gs xs.length = true) (hm : mv m = true) (o : NextOk xs gs m ls) (b : Best xs gs m ls q) (hgq : gs[q]? = some g) (hs : gs.sum < 20)
    (hc : checkF xs gs m = true) : checkF xs (gs.set q (g + 1)) m = true := by
  have f := (checkF_iff hv hg hm).1 hc
  have f2 := f.bump o b
  rw [bump_at hgq] at f2
  obtain ⟨b1, b2, b3⟩ := gv_iff.1 hg
  have hle := mem_le_sum gs (fun x hx => (b1 x hx).1) g (mem_of_at hgq)
  refine (checkF_iff hv (gv_iff.2 ⟨fun y hy => ?_, by simpa using b2, by rw [sum_set hgq]; omega⟩) hm).2 f2
  rcases List.mem_or_eq_of_mem_set hy with hy | rfl
  · exact b1 y hy
  · have := (b1 g (mem_of_at hgq)).1; omega
end Go.Proofs.Ytimldfknbeiadaa
