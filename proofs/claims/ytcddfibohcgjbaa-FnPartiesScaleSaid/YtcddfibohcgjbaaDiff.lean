/-
  Differences of votes and seats, gaps and squares, fair seats, checked seats.
-/
import Derived.Test.YtcddfibohcgjbaaSeats
import Derived.Test.YtcddfibohcgjbaaApp
import Derived.Test.YtcddfibohcgjbaaFrame
import Derived.StillTailTactics
namespace Go.Proofs.Ytcddfibohcgjbaa
open Go.RowKit
def diffs (xs gs : List Int) : List Int := List.zipWith (fun a b => a * gs.sum - b * xs.sum) xs gs
theorem diffs_length {xs gs : List Int} (h : gs.length = xs.length) : (diffs xs gs).length = xs.length := by simp [diffs, h]
theorem diffs_at {xs gs : List Int} {k : Nat} {x g : Int} (hx : xs[k]? = some x) (hg : gs[k]? = some g) : (diffs xs gs)[k]? = some (x * gs.sum - g * xs.sum) := by
  simp [diffs, List.getElem?_zipWith, hx, hg]
/-- What valid votes and seats give. -/
theorem valid_facts {xs gs : List Int} (hv : vv xs = true) (hg : gv gs xs.length = true) :
    gs.length = xs.length ∧ (1 ≤ xs.length ∧ xs.length ≤ 5) ∧ (1 ≤ xs.sum ∧ xs.sum ≤ 495) ∧ (0 ≤ gs.sum ∧ gs.sum ≤ 20) ∧ (∀ x ∈ xs, 0 ≤ x ∧ x ≤ 99) ∧ (∀ x ∈ gs, 0 ≤ x ∧ x ≤ 20) := by
  obtain ⟨a1, a2, a3⟩ := vv_iff.1 hv
  obtain ⟨b1, b2, b3⟩ := gv_iff.1 hg
  have := sum_bd xs 99 (fun x hx => by have := a1 x hx; omega)
  have := sum_nonneg gs (fun x hx => (b1 x hx).1)
  exact ⟨by omega, a2, by omega, by omega, a1, b1⟩
theorem wide {xs : List Int} {M : Int} (h : ∀ x ∈ xs, 0 ≤ x ∧ x ≤ M) (hM : M ≤ 1000000000) : ∀ x ∈ xs, -1000000000 ≤ x ∧ x ≤ 1000000000 := fun x hx => by have := h x hx; omega
/-- The sum of the numbers without their signs. -/
def gapL (ds : List Int) : Int := (ds.map fun d => max d (-d)).sum
def sqL (ds : List Int) : Int := (ds.map fun d => d * d).sum
theorem gapL_snoc (ds : List Int) (k : Nat) (d : Int) (h : ds[k]? = some d) : gapL (ds.take (k + 1)) = gapL (ds.take k) + max d (-d) := by
  unfold gapL; rw [take_snoc ds k d h, List.map_append, sum_append]; simp
theorem sqL_snoc (ds : List Int) (k : Nat) (d : Int) (h : ds[k]? = some d) : sqL (ds.take (k + 1)) = sqL (ds.take k) + d * d := by
  unfold sqL; rw [take_snoc ds k d h, List.map_append, sum_append]; simp
theorem gapL_bd (ds : List Int) (M : Int) (h : ∀ d ∈ ds, -M ≤ d ∧ d ≤ M) : 0 ≤ gapL ds ∧ gapL ds ≤ M * ds.length := by
  induction ds with
  | nil => simp [gapL]
  | cons a t ih =>
    have h1 := h a (by simp)
    have h2 := ih (fun x hx => h x (by simp [hx]))
    have e : gapL (a :: t) = max a (-a) + gapL t := by simp [gapL]
    have : M * ((t.length + 1 : Nat) : Int) = M * t.length + M := by push_cast; rw [Int.mul_add, Int.mul_one]
    rw [e]; simp only [List.length_cons]; omega
theorem sq_bd {d M : Int} (h : -M ≤ d ∧ d ≤ M) : 0 ≤ d * d ∧ d * d ≤ M * M := by
  rcases Int.le_total 0 d with h0 | h0
  · exact mul_bd ⟨h0, h.2⟩ ⟨h0, h.2⟩
  · have := mul_bd (a := -d) (b := -d) (M := M) (N := M) ⟨by omega, by omega⟩ ⟨by omega, by omega⟩
    rwa [Int.neg_mul_neg] at this
theorem sqL_bd (ds : List Int) (M : Int) (h : ∀ d ∈ ds, -M ≤ d ∧ d ≤ M) : 0 ≤ sqL ds ∧ sqL ds ≤ M * M * ds.length := by
  induction ds with
  | nil => simp [sqL]
  | cons a t ih =>
    have h1 := sq_bd (h a (by simp))
    have h2 := ih (fun x hx => h x (by simp [hx]))
    have e : sqL (a :: t) = a * a + sqL t := by simp [sqL]
    have : M * M * ((t.length + 1 : Nat) : Int) = M * M * t.length + M * M := by push_cast; rw [Int.mul_add, Int.mul_one]
    rw [e]; simp only [List.length_cons]; omega
theorem diffs_bd {xs gs : List Int} (hv : vv xs = true) (hg : gv gs xs.length = true) : ∀ d ∈ diffs xs gs, -10000 ≤ d ∧ d ≤ 10000 := by
  obtain ⟨hlen, ⟨hl1, hl5⟩, ⟨hs0, hs1⟩, ⟨hg0, hg1⟩, hxb, hgb⟩ := valid_facts hv hg
  intro d hd
  obtain ⟨k, hk⟩ := List.getElem?_of_mem hd
  have hk' := (List.getElem?_eq_some_iff.1 hk).1
  rw [diffs_length hlen] at hk'
  have hx : xs[k]? = some xs[k] := List.getElem?_eq_getElem hk'
  have hgk : gs[k]? = some (gs[k]'(by omega)) := List.getElem?_eq_getElem (by omega)
  have e := diffs_at hx hgk
  rw [hk] at e
  injection e with e
  obtain ⟨hm0, hm1⟩ := mul_bd (M := 99) (N := 20) (hxb _ (mem_of_at hx)) ⟨hg0, hg1⟩
  obtain ⟨hn0, hn1⟩ := mul_bd (b := xs.sum) (M := 20) (N := 495) (hgb _ (mem_of_at hgk)) ⟨by omega, hs1⟩
  omega
def gapF (xs gs : List Int) : Int := if (vv xs && gv gs xs.length) = true then gapL (diffs xs gs) else -1
def sqF (xs gs : List Int) : Int := if (vv xs && gv gs xs.length) = true then sqL (diffs xs gs) else -1
end Go.Proofs.Ytcddfibohcgjbaa
