/-
  append of one int onto a slice of the call's own, as the laws and the program write it.
-/
import Derived.Test.YthngafmnkihkgaaBase
namespace Go.Proofs.Ythngafmnkihkgaa
open Go.RowKit
theorem heap_lt {w : World} {k : Nat} (h : k < w.heap.size) (o : Obj) : k < (w.alloc o).heap.size := by simp; omega
/-- 'append(out, y)': y lies in a new block of one cell. -/
theorem wpList_app1 (w : World) {ops : Array Oper} {rest : List Oper} {o : Oper} {a : Act} {Q : Exit → Act → World → Prop}
    (hg : o.guard = none) (s x : Operand) (ho : o.op = .call { callee := .builtin .append, args := #[s, x], argTypes := #[26, 26] })
    (base : Nat) (A : Option Addr) (n c : Nat) (xs : List Int) (hs : a.eval s = .slice A n c) (hown : OwnN w base A n c xs) (hbase : base ≤ w.heap.size) (hn : n ≤ 1099511627776)
    (y : Int) (hx : a.eval x = .slice (some ⟨w.heap.size, 0, none⟩) 1 1)
    (hK : ∀ A' c' w', OwnN w' base A' (n + 1) c' (xs ++ [y]) → w.grownBy w' (Value.slice A n c).ownBlock → Below base w w' → wpList Try.prog ops Q rest (a.put o.dst (.slice A' (n + 1) c')) w') :
    wpList Try.prog ops Q (o :: rest) a (w.alloc (.cells #[.int .i64 y] 3)) := by
  refine wpList_append1 _ hg s x ho base A n c xs hs ⟨hown.1, hown.2.alloc _⟩ (by simp; omega) hn ⟨w.heap.size, 0, none⟩ y 1 hx ?_ ?_
  · exact cell_of_row _ w.heap.size 0 #[.int .i64 y] 3 (0, 0) (heap_alloc_new w _)
  · intro A' c' w' h1 h2
    have h3 : w.grownBy w' (Value.slice A n c).ownBlock :=
      ⟨h2.os, h2.tape, h2.output, by have := h2.size; simp at this; omega, fun k hk hne => (h2.block k (heap_lt hk _) hne).trans (Below.heap_alloc w _ k hk)⟩
    exact hK A' c' w' h1 h3 (below_of_grown h3 hbase (fun k hk => (World.ownsRow.lt hown.row k hk).1))
/-- The same in a region that draws its order. -/
theorem step_app1 (w : World) {ops : Array Oper} {o : Oper} {a : Act} {K : Act → World → Prop} {Q : Exit → Act → World → Prop} {E : Prop}
    (hg : o.guard = none) (s x : Operand) (ho : o.op = .call { callee := .builtin .append, args := #[s, x], argTypes := #[26, 26] })
    (base : Nat) (A : Option Addr) (n c : Nat) (xs : List Int) (hs : a.eval s = .slice A n c) (hown : OwnN w base A n c xs) (hbase : base ≤ w.heap.size) (hn : n ≤ 1099511627776)
    (ad : Addr) (y : Int) (cc : Nat) (hx : a.eval x = .slice (some ad) 1 cc) (hc : w.cell? ad = some (.int .i64 y))
    (hK : ∀ A' c' w', OwnN w' base A' (n + 1) c' (xs ++ [y]) → w.grownBy w' (Value.slice A n c).ownBlock → Below base w w' → K (a.put o.dst (.slice A' (n + 1) c')) w') :
    if Region.wanted o (yielded ops a.tmps) = true then Oper.wp Try.prog o a w K Q else E := by
  have hw : Region.wanted o (yielded ops a.tmps) = true := by simp [Region.wanted, hg]
  rw [if_pos hw]
  obtain ⟨i0, hi, hz0, hz1, hz2⟩ := info_parts infoInt
  refine wp_append_own _ s x 26 ho base 3 i0 (.int .i64 0) 1 8 Try.underlying26 hi hz0 hz1 hz2 rfl (by omega) _ _ _ hs hown.row ad 1 cc [.int .i64 y] hx rfl ?_ ?_ (by simp only [maxLen]; omega) (by omega) hbase ?_
  · intro j u hj
    match j, hj with
    | 0, hj =>
      simp at hj
      subst hj
      rw [show ad.add 0 = ad from by unfold Addr.add; simp]
      exact hc
  · intro u hu
    simp at hu
    subst hu
    rfl
  · intro v' w' h1 h2 _
    obtain ⟨A', c', rfl⟩ := row_form h1
    exact hK A' c' w' (ownN_of_row (by simpa using h1)) h2 (below_of_grown h2 hbase (fun k hk => (World.ownsRow.lt hown.row k hk).1))
/-- The same where the new element's block is spelled by its own literal. -/
theorem below_app {w0 w w' : World} {B : Nat} (h : Below B w0 w) (h' : Below B w w') : Below B w0 w' := h.trans h'
end Go.Proofs.Ythngafmnkihkgaa
