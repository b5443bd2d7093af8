/-
  Seats by divisors of the reference.
-/
import Derived.Test.YthngafmnkihkgaaDivis
namespace Go.Proofs.Ythngafmnkihkgaa
open Go.RowKit
/-- 'append(out, ys...)', out a slice of ints that the call owns, ys not empty. -/
theorem wpList_appN (w : World) {ops : Array Oper} {rest : List Oper} {o : Oper} {a : Act} {Q : Exit → Act → World → Prop}
    (hg : o.guard = none) (s x : Operand) (ho : o.op = .call { callee := .builtin .append, args := #[s, x], argTypes := #[26, 26] })
    (base : Nat) (A : Option Addr) (n c : Nat) (xs : List Int) (hs : a.eval s = .slice A n c) (hown : OwnN w base A n c xs) (hbase : base ≤ w.heap.size) (hn : n ≤ 1048576)
    (ad : Addr) (ys : List Int) (l cc : Nat) (hx : a.eval x = .slice (some ad) l cc) (hl : ys.length = l) (hl2 : l ≤ 1048576) (hc : Ints w (some ad) ys)
    (hK : ∀ A' c' w', OwnN w' base A' (n + l) c' (xs ++ ys) → w.grownBy w' (Value.slice A n c).ownBlock → Below base w w' → wpList Try.prog ops Q rest (a.put o.dst (.slice A' (n + l) c')) w') :
    wpList Try.prog ops Q (o :: rest) a w := by
  obtain ⟨i0, hi, hz0, hz1, hz2⟩ := info_parts infoInt
  refine wpList_append_own w hg s x 26 ho base 3 i0 (.int .i64 0) 1 8 Try.underlying26 hi hz0 hz1 hz2 rfl (by omega) _ _ _ hs hown.row ad l cc (ys.map (Value.int .i64)) hx (by simp [hl]) ?_ ?_ (by simp only [maxLen]; omega) (by omega) hbase ?_
  · intro j u hj
    rw [List.getElem?_map] at hj
    cases hy : ys[j]? with
    | none => rw [hy] at hj; cases hj
    | some y =>
      rw [hy] at hj
      injection hj with hj
      subst hj
      exact hc.cell_of hy
  · intro u hu
    rw [List.mem_map] at hu
    obtain ⟨y, _, rfl⟩ := hu
    rfl
  · intro v' w' h1 h2 _
    obtain ⟨A', c', rfl⟩ := row_form h1
    exact hK A' c' w' (ownN_of_row (by simpa using h1)) h2 (below_of_grown h2 hbase (fun k hk => (World.ownsRow.lt hown.row k hk).1))
end Go.Proofs.Ythngafmnkihkgaa
