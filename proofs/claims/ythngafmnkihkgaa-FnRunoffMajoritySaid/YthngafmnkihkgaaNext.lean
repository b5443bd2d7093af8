/-
  The party that gets the next seat, of the program and of the reference.
-/
import Derived.Test.YthngafmnkihkgaaLots
import Derived.Test.YthngafmnkihkgaaSeats
namespace Go.Proofs.Ythngafmnkihkgaa
open Go.RowKit
theorem dv_bd' {s m : Int} (hm : m = 1 ∨ m = 2) (h0 : 0 ≤ s) (h1 : s ≤ 20) : 1 ≤ dv s m ∧ dv s m ≤ 41 := by
  rcases hm with rfl | rfl <;> unfold dv <;> omega
/-- What the next seat needs. -/
structure NextOk (xs gs : List Int) (m : Int) (ls : List Int) : Prop where
  xb : ∀ x ∈ xs, 0 ≤ x ∧ x ≤ 99
  gb : ∀ g ∈ gs, 0 ≤ g ∧ g ≤ 20
  gl : gs.length = xs.length
  ll : ls.length = xs.length
  l1 : 1 ≤ xs.length ∧ xs.length ≤ 5
  hm : m = 1 ∨ m = 2
  lb : ∀ l ∈ ls, 0 ≤ l ∧ l < xs.length
def atI (xs : List Int) (p : Int) : Int := xs.getD p.toNat 0
theorem atI_at {xs : List Int} {p : Nat} {x : Int} (h : xs[p]? = some x) : atI xs p = x := by simp [atI, h]
def stepN (xs gs : List Int) (m b p : Int) : Int := if atI xs b * dv (atI gs p) m < atI xs p * dv (atI gs b) m then p else b
def nextP (xs gs : List Int) (m : Int) (ls : List Int) : Int := ls.foldl (stepN xs gs m) (ls.headD 0)
theorem stepN_t {xs gs : List Int} {m : Int} {b p : Nat} {x y g e : Int} (hx : xs[p]? = some x) (hy : xs[b]? = some y) (hg : gs[b]? = some g) (he : gs[p]? = some e)
    (h : y * dv e m < x * dv g m) : stepN xs gs m b p = p := by unfold stepN; rw [atI_at hx, atI_at hy, atI_at hg, atI_at he, if_pos h]
theorem stepN_f {xs gs : List Int} {m : Int} {b p : Nat} {x y g e : Int} (hx : xs[p]? = some x) (hy : xs[b]? = some y) (hg : gs[b]? = some g) (he : gs[p]? = some e)
    (h : ¬y * dv e m < x * dv g m) : stepN xs gs m b p = b := by unfold stepN; rw [atI_at hx, atI_at hy, atI_at hg, atI_at he, if_neg h]
theorem stepN_self (xs gs : List Int) (m b : Int) : stepN xs gs m b b = b := by unfold stepN; split <;> rfl
theorem fold_snoc {f : Int → Int → Int} {a : Int} {ls : List Int} {k : Nat} {l : Int} (h : ls[k]? = some l) : (ls.take (k + 1)).foldl f a = f ((ls.take k).foldl f a) l := by
  rw [take_snoc _ _ _ h, List.foldl_append]; rfl
theorem headD_at {ls : List Int} {l : Int} (h : ls[0]? = some l) : ls.headD 0 = l := by
  cases ls with
  | nil => simp at h
  | cons a t => simp at h; simp [h]
/-- What one step of the loop reads. -/
structure StepSt (xs gs : List Int) (m : Int) (w : World) (A A' : Option Addr) (b p : Nat) : Prop where
  out : ∃ ad ad' x y g e, A = some ad ∧ A' = some ad' ∧ Hid (xs[p]? = some x) ∧ Hid (xs[b]? = some y) ∧ Hid (gs[b]? = some g) ∧ Hid (gs[p]? = some e)
    ∧ w.cell? (ad.add p) = some (.int .i64 x) ∧ w.cell? (ad.add b) = some (.int .i64 y) ∧ w.cell? (ad'.add b) = some (.int .i64 g) ∧ w.cell? (ad'.add p) = some (.int .i64 e)
    ∧ (0 ≤ g ∧ g ≤ 20) ∧ (0 ≤ e ∧ e ≤ 20) ∧ Hid (IntKind.i64.wrap (x * dv g m) = x * dv g m) ∧ Hid (IntKind.i64.wrap (y * dv e m) = y * dv e m)
theorem NextOk.step {xs gs : List Int} {m : Int} {ls : List Int} (o : NextOk xs gs m ls) {w : World} {A A' : Option Addr} (h : Ints w A xs) (h' : Ints w A' gs) {b p : Nat} (hb : b < xs.length) (hp : p < xs.length) :
    StepSt xs gs m w A A' b p := by
  obtain ⟨ad, x, e1, hx, hc⟩ := h.at_ hp
  obtain ⟨ad2, y, e2, hy, hc2⟩ := h.at_ hb
  obtain ⟨ad', g, e3, hg, hc3⟩ := h'.at_ (show b < gs.length by rw [o.gl]; exact hb)
  obtain ⟨ad3, e, e4, he, hc4⟩ := h'.at_ (show p < gs.length by rw [o.gl]; exact hp)
  rw [e1] at e2; injection e2 with e2; subst e2
  rw [e3] at e4; injection e4 with e4; subst e4
  have b1 := o.xb x (mem_of_at hx.out)
  have b2 := o.xb y (mem_of_at hy.out)
  have b3 := o.gb g (mem_of_at hg.out)
  have b4 := o.gb e (mem_of_at he.out)
  have d1 := dv_bd' o.hm b3.1 b3.2
  have d2 := dv_bd' o.hm b4.1 b4.2
  have m1 := mul_bd b1 ⟨show 0 ≤ dv g m by omega, d1.2⟩
  have m2 := mul_bd b2 ⟨show 0 ≤ dv e m by omega, d2.2⟩
  exact ⟨_, _, x, y, g, e, e1, e3, hx, hy, hg, he, hc, hc2, hc3, hc4, b3, b4, IntWalk.i64_in _ (by omega), IntWalk.i64_in _ (by omega)⟩
/-- The next seat, or -1. -/
def nextF (xs gs : List Int) (m : Int) (ls : List Int) : Int := if vv xs && gv gs xs.length && mv m && lv ls && ((ls.length : Int) == (xs.length : Int)) then nextP xs gs m ls else -1
theorem lv_iff {ls : List Int} : lv ls = true ↔ (1 ≤ ls.length ∧ ls.length ≤ 5) ∧ (∀ l ∈ ls, 0 ≤ l ∧ l ≤ (ls.length : Int) - 1) ∧ ls.Nodup := by
  unfold lv bv
  rw [Bool.and_eq_true, inB_iff, bp_iff]
  exact ⟨fun ⟨⟨a, b⟩, d⟩ => ⟨⟨by omega, by omega⟩, d⟩, fun ⟨⟨a, b⟩, d⟩ => ⟨⟨by omega, by omega⟩, d⟩⟩
theorem nextOk_of {xs gs : List Int} {m : Int} {ls : List Int} (hv : vv xs = true) (hg : gv gs xs.length = true) (hm : mv m = true) (hl : lv ls = true) (he : ls.length = xs.length) : NextOk xs gs m ls := by
  obtain ⟨a1, a2, a3⟩ := vv_iff.1 hv
  obtain ⟨b1, b2, b3⟩ := gv_iff.1 hg
  obtain ⟨c1, c2, c3⟩ := lv_iff.1 hl
  exact ⟨a1, b1, by omega, he, a2, mv_iff.1 hm, fun l h => by have := c2 l h; omega⟩
end Go.Proofs.Ythngafmnkihkgaa
