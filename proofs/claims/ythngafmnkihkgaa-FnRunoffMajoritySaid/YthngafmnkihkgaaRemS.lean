/-
  Seats by remainders of the reference.
-/
import Derived.Test.YthngafmnkihkgaaRem
namespace Go.Proofs.Ythngafmnkihkgaa
open Go.RowKit
theorem grown_setCell2 (w : World) (g k : Nat) (u : Value) : w.grownBy (w.setCell ⟨g, k, none⟩ u) (some g) := grown_setCell (grown_refl w _) k u
/-- 'append(out, y)': y lies in a new block of one cell; where the row lies then is told. -/
theorem wpList_app1L (w : World) {ops : Array Oper} {rest : List Oper} {o : Oper} {a : Act} {Q : Exit → Act → World → Prop}
    (hg : o.guard = none) (s x : Operand) (ho : o.op = .call { callee := .builtin .append, args := #[s, x], argTypes := #[26, 26] })
    (base : Nat) (g n c : Nat) (xs : List Int) (hs : a.eval s = .slice (some ⟨g, 0, none⟩) n c) (hown : OwnN w base (some ⟨g, 0, none⟩) n c xs) (hbase : base ≤ w.heap.size) (hn : n ≤ 1048576)
    (y : Int) (hx : a.eval x = .slice (some ⟨w.heap.size, 0, none⟩) 1 1)
    (hK : ∀ g' c' w', OwnN w' base (some ⟨g', 0, none⟩) (n + 1) c' (xs ++ [y]) → w.grownBy w' (some g) → Below base w w' → (g' = g ∨ w.heap.size < g') → g' < w'.heap.size → wpList Try.prog ops Q rest (a.put o.dst (.slice (some ⟨g', 0, none⟩) (n + 1) c')) w') :
    wpList Try.prog ops Q (o :: rest) a (w.alloc (.cells #[.int .i64 y] 3)) := by
  obtain ⟨i0, hi, hz0, hz1, hz2⟩ := info_parts infoInt
  refine wpList_append_lies _ hg s x 26 ho base 3 i0 (.int .i64 0) 1 8 Try.underlying26 hi hz0 hz1 hz2 rfl (by omega) _ _ _ hs (OwnN.row ⟨hown.1, hown.2.alloc _⟩) ⟨w.heap.size, 0, none⟩ 1 1 [.int .i64 y] hx rfl ?_ ?_ (by omega) (by simp only [maxLen]; omega) (by omega) (by simp; omega) (w.heap.size + 1) (by simp) ?_
  · intro j u hj
    match j, hj with
    | 0, hj =>
      simp at hj
      subst hj
      exact cell_of_row _ w.heap.size 0 #[.int .i64 y] 3 (0, 0) (heap_alloc_new w _)
  · intro u hu
    simp at hu
    subst hu
    rfl
  · intro g' c' w' h1 h2 h3 h4
    have h5 : w.grownBy w' (some g) :=
      ⟨h2.os, h2.tape, h2.output, by have := h2.size; simp at this; omega, fun k hk hne => (h2.block k (heap_lt hk _) hne).trans (Below.heap_alloc w _ k hk)⟩
    refine hK g' c' w' (ownN_of_row (by simpa using h1)) h5 (below_of_grown h5 hbase (fun k hk => (World.ownsRow.lt hown.row k hk).1)) ?_ h4
    rcases h3 with h3 | h3
    · injection h3 with h3; exact .inl h3.symm
    · exact .inr (by omega)
/-- Two slices of the call's own that grow, apart from each other. -/
structure TwoN (w wr : World) (n1 g1 d1 n2 g2 d2 : Nat) (xs ys : List Int) : Prop where
  ne : g1 ≠ g2
  b1 : w.heap.size ≤ g1
  b2 : w.heap.size ≤ g2
  o1 : OwnN wr w.heap.size (some ⟨g1, 0, none⟩) n1 d1 xs
  o2 : OwnN wr w.heap.size (some ⟨g2, 0, none⟩) n2 d2 ys
  z1 : g1 < wr.heap.size
  z2 : g2 < wr.heap.size
  bel : Below w.heap.size w wr
section
variable {w wr w' : World} {n1 g1 d1 n2 g2 d2 : Nat} {xs ys : List Int}
theorem TwoN.swap (T : TwoN w wr n1 g1 d1 n2 g2 d2 xs ys) : TwoN w wr n2 g2 d2 n1 g1 d1 ys xs := ⟨T.ne.symm, T.b2, T.b1, T.o2, T.o1, T.z2, T.z1, T.bel⟩
theorem TwoN.app {g' d' : Nat} {zs : List Int} (T : TwoN w wr n1 g1 d1 n2 g2 d2 xs ys) (h : OwnN w' w.heap.size (some ⟨g', 0, none⟩) (n1 + 1) d' zs) (hg : wr.grownBy w' (some g1)) (hb : Below w.heap.size wr w') (hw : g' = g1 ∨ wr.heap.size < g') (hz : g' < w'.heap.size) :
    TwoN w w' (n1 + 1) g' d' n2 g2 d2 zs ys := by
  have z := T.z2
  have hsz := hg.size
  have ne := T.ne
  have b1 := T.b1
  have hs := T.bel.size
  exact ⟨by omega, by omega, T.b2, h, ⟨T.o2.1, T.o2.2.grown hg (fun j hj e => by
    injection hj with hj
    injection e with e
    exact T.ne (hj.trans e.symm))⟩, hz, by omega, T.bel.trans hb⟩
theorem TwoN.below (T : TwoN w wr n1 g1 d1 n2 g2 d2 xs ys) (hb : Below wr.heap.size wr w') : TwoN w w' n1 g1 d1 n2 g2 d2 xs ys :=
  ⟨T.ne, T.b1, T.b2, ⟨T.o1.1, T.o1.2.below hb⟩, ⟨T.o2.1, T.o2.2.below hb⟩, Nat.lt_of_lt_of_le T.z1 hb.size, Nat.lt_of_lt_of_le T.z2 hb.size, T.bel.trans (hb.mono T.bel.size)⟩
theorem TwoN.congr {xs' ys' : List Int} (T : TwoN w wr n1 g1 d1 n2 g2 d2 xs ys) (e1 : xs = xs') (e2 : ys = ys') : TwoN w wr n1 g1 d1 n2 g2 d2 xs' ys' := e1 ▸ e2 ▸ T
theorem TwoN.set1 (T : TwoN w wr n1 g1 d1 n2 g2 d2 xs ys) (k : Nat) (x : Int) : TwoN w (wr.setCell ⟨g1, k, none⟩ (.int .i64 x)) n1 g1 d1 n2 g2 d2 (xs.set k x) ys :=
  ⟨T.ne, T.b1, T.b2, ⟨by rw [List.length_set]; exact T.o1.1, T.o1.2.set k x⟩, ⟨T.o2.1, T.o2.2.grown (grown_setCell2 wr g1 k _) (fun j hj e => by
    injection hj with hj
    injection e with e
    exact T.ne (hj.trans e.symm))⟩, Nat.lt_of_lt_of_le T.z1 (grown_setCell2 wr g1 k _).size, Nat.lt_of_lt_of_le T.z2 (grown_setCell2 wr g1 k _).size, T.bel.setCell T.b1 _⟩
theorem TwoN.set2 (T : TwoN w wr n1 g1 d1 n2 g2 d2 xs ys) (k : Nat) (x : Int) : TwoN w (wr.setCell ⟨g2, k, none⟩ (.int .i64 x)) n1 g1 d1 n2 g2 d2 xs (ys.set k x) := (T.swap.set1 k x).swap
end
theorem moved {w0 w : World} {m : Nat} {A A2 : Option Addr} {xs ls : List Int} (hw : w = w0.drewN m) (h : Ints w0 A xs) (h2 : Ints w0 A2 ls) : Ints w A xs ∧ Ints w A2 ls ∧ Below w0.heap.size w0 w ∧ w0.heap.size = w.heap.size := by
  subst hw; exact ⟨h, h2, below_drewN (Below.refl _ _) m, rfl⟩
theorem twoN_start (w : World) : TwoN w ((w.alloc (.cells #[] 3)).alloc (.cells #[] 3)) 0 w.heap.size 0 0 (w.heap.size + 1) 0 [] [] := by
  have b1 : Below w.heap.size w (w.alloc (.cells #[] 3)) := (Below.refl _ _).alloc (Nat.le_refl _) _
  refine ⟨by omega, Nat.le_refl _, by omega, ⟨rfl, (own_empty w (Nat.le_refl _)).alloc _⟩, ⟨rfl, ?_⟩, by simp; omega, by simp, b1.alloc b1.size _⟩
  have := own_empty (w.alloc (.cells #[] 3)) (base := w.heap.size) (by simp)
  simpa using this
end Go.Proofs.Ythngafmnkihkgaa
