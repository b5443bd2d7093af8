/-
  Slices of truths of the call's own: copies, stores.
-/
import Derived.Test.YthngafmnkihkgaaBool
namespace Go.Proofs.Ythngafmnkihkgaa
open Go.RowKit
theorem Bools.cells {w : World} {ad : Addr} {bs : List Bool} (h : Bools w (some ad) bs) : ∀ j u, (bs.map Value.bool)[j]? = some u → w.cell? (ad.add j) = some u := by
  intro j u hj
  rw [List.getElem?_map] at hj
  cases hb : bs[j]? with
  | none => rw [hb] at hj; cases hj
  | some b =>
    rw [hb] at hj
    injection hj with hj
    subst hj
    have hk := (List.getElem?_eq_some_iff.1 hb).1
    obtain ⟨ad', e, hr⟩ := h (by omega)
    injection e with e
    subst e
    exact hr j b hb
/-- append of some truths. -/
theorem wpList_appBs (w : World) {ops : Array Oper} {rest : List Oper} {o : Oper} {a : Act} {Q : Exit → Act → World → Prop}
    (hg : o.guard = none) (s x : Operand) (ho : o.op = .call { callee := .builtin .append, args := #[s, x], argTypes := #[34, 34] })
    (base : Nat) (A : Option Addr) (n c : Nat) (bs : List Bool) (hs : a.eval s = .slice A n c) (hown : OwnB w base A n c bs) (hbase : base ≤ w.heap.size) (hn : n ≤ 1048576)
    (ad : Addr) (qs : List Bool) (l cc : Nat) (hx : a.eval x = .slice (some ad) l cc) (hl : qs.length = l) (hl2 : l ≤ 1048576) (hc : Bools w (some ad) qs) (m : Nat) (hm : n + l = m)
    (hK : ∀ A' c' w', OwnB w' base A' m c' (bs ++ qs) → w.grownBy w' (Value.slice A n c).ownBlock → Below base w w' → wpList Try.prog ops Q rest (a.put o.dst (.slice A' m c')) w') :
    wpList Try.prog ops Q (o :: rest) a w := by
  obtain ⟨i0, hi, hz0, hz1, hz2⟩ := info_parts infoBool
  subst hm
  refine wpList_append_own w hg s x 34 ho base 4 i0 (.bool false) 1 1 Try.underlying34 hi hz0 hz1 hz2 rfl (by omega) _ _ _ hs hown.2 ad l cc (qs.map Value.bool) hx (by simp [hl]) hc.cells ?_ (by simp only [maxLen]; omega) (by omega) hbase ?_
  · intro u hu
    rw [List.mem_map] at hu
    obtain ⟨y, _, rfl⟩ := hu
    rfl
  · intro v' w' h1 h2 _
    obtain ⟨A', c', rfl⟩ := row_form h1
    exact hK A' c' w' (ownB_of_row (by simpa using h1)) h2 (below_of_grown h2 hbase (fun k hk => (World.ownsRow.lt hown.2 k hk).1))
theorem OwnB.form {w : World} {base n c : Nat} {A : Option Addr} {bs : List Bool} (h : OwnB w base A n c bs) (hn : 0 < n) : ∃ g, A = some ⟨g, 0, none⟩ ∧ base ≤ g ∧ g < w.heap.size := by
  rcases h.2.2 with ⟨hv, h0⟩ | ⟨g, cap, cur, hv, hb, hg, _⟩
  · omega
  · injection hv with hA
    exact ⟨g, hA, hb, (Array.getElem?_eq_some_iff.1 hg).1⟩
theorem OwnB.cellB {w : World} {base g n c : Nat} {bs : List Bool} (h : OwnB w base (some ⟨g, 0, none⟩) n c bs) {k : Nat} {b : Bool} (hb : bs[k]? = some b) : w.cell? ⟨g, k, none⟩ = some (.bool b) := by
  have hk := (List.getElem?_eq_some_iff.1 hb).1
  have hl := h.1
  rw [World.ownsRow.cellAt h.2 k (by omega)]; simp [hb]
theorem OwnB.frozenB {w : World} {base g n c : Nat} {bs : List Bool} (h : OwnB w base (some ⟨g, 0, none⟩) n c bs) (k : Nat) : w.frozen? ⟨g, k, none⟩ = false := World.ownsRow.frozenAt h.2 k
theorem OwnB.setB {w : World} {base g n c : Nat} {bs : List Bool} (h : OwnB w base (some ⟨g, 0, none⟩) n c bs) (k : Nat) (b : Bool) : OwnB (w.setCell ⟨g, k, none⟩ (.bool b)) base (some ⟨g, 0, none⟩) n c (bs.set k b) := by
  refine ⟨by simp [h.1], ?_⟩
  have := (World.ownsRow.stored h.2 k (.bool b)).1
  rw [List.map_set]
  exact this
theorem OwnB.mono {w : World} {base n c : Nat} {A : Option Addr} {bs : List Bool} (h : OwnB w base A n c bs) {b : Nat} (hb : b ≤ base) : OwnB w b A n c bs := by
  refine ⟨h.1, h.2.1, ?_⟩
  rcases h.2.2 with h2 | ⟨g, cap, cur, hv, hg, r⟩
  · exact .inl h2
  · exact .inr ⟨g, cap, cur, hv, by omega, r⟩
theorem OwnB.blockB {w : World} {base n c : Nat} {A : Option Addr} {bs : List Bool} (h : OwnB w base A n c bs) : ∀ k, (Value.slice A n c).ownBlock = some k → base ≤ k ∧ k < w.heap.size := World.ownsRow.lt h.2
theorem OwnB.grownB {w w' : World} {base n c : Nat} {A : Option Addr} {bs : List Bool} {row : Option Nat} (h : OwnB w base A n c bs) (hg : w.grownBy w' row) (hr : ∀ k, row = some k → (Value.slice A n c).ownBlock ≠ some k) : OwnB w' base A n c bs :=
  ⟨h.1, World.ownsRow.kept h.2 hg (by
    cases hv : (Value.slice A n c).ownBlock with
    | none => exact .inl rfl
    | some b => exact .inr (fun e => hr b e.symm hv))⟩
/-- 'make([]bool, n)'. -/
theorem wpList_makeB (w : World) {ops : Array Oper} {rest : List Oper} {o : Oper} {a : Act} {Q : Exit → Act → World → Prop}
    (hg : o.guard = none) (l c : Operand) (hop : o.op = Op.makeSlice 34 l c) (n : Nat) (hl : a.eval l = .int .i64 n) (hc : a.eval c = .int .i64 n) (hn : n ≤ 1099511627776)
    (hK : ∀ w', OwnB w' w.heap.size (some ⟨w.heap.size, 0, none⟩) n n (List.replicate n false) → Below w.heap.size w w' → w.heap.size < w'.heap.size → wpList Try.prog ops Q rest (a.put o.dst (.slice (some ⟨w.heap.size, 0, none⟩) n n)) w') :
    wpList Try.prog ops Q (o :: rest) a w := by
  obtain ⟨i0, hi, hz0, hz1, hz2⟩ := info_parts infoBool
  refine wpList_make_full w hg l c 34 hop w.heap.size 4 i0 _ 1 Try.underlying34 hi hz0 hz1 .i64 .i64 n n n hl hc rfl rfl (by rw [hz2]; omega) (by simp only [maxLen]; omega) (Nat.le_refl _) ?_
  intro w' hown hgr
  have hown' : OwnB w' w.heap.size (some ⟨w.heap.size, 0, none⟩) n n (List.replicate n false) := by
    refine ⟨by simp, ?_⟩
    have e : (madeCells (Value.bool false).cells (n * 1)).toList = (List.replicate n false).map Value.bool := by
      simp only [madeCells, Value.cells, Nat.mul_one, List.map_replicate]
      simp [Nat.mod_one]
      rw [List.map_const']; simp
    rw [e] at hown
    exact hown
  refine hK w' hown' ⟨hgr.os, hgr.tape, hgr.output, hgr.size, fun k hk => hgr.block k hk (by simp)⟩ ?_
  rcases hown.2 with ⟨hv, _⟩ | ⟨g, cap, cur, hv, hb, hgg, _⟩
  · cases hv
  · injection hv with hA
    injection hA with hA
    injection hA with hA
    subst hA
    exact (Array.getElem?_eq_some_iff.1 hgg).1
end Go.Proofs.Ythngafmnkihkgaa
