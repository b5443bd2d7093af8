/-
  Shares: hurdles, differences, gaps, squares.
-/
import Derived.Test.YtiinfbjlkbjmmaaQBase
import Derived.Test.YtiinfbjlkbjmmaaQLots
namespace Go.Proofs.Ytiinfbjlkbjmmaa
open Go.RowKit
/-- Votes of which those below a hurdle are struck. -/
def cutV (xs : List Int) (p : Int) : List Int := xs.map fun n => if 100 * n < p * xs.sum then 0 else n
set_option maxRecDepth 100000 in
theorem cutV_length (xs : List Int) (p : Int) : (cutV xs p).length = xs.length := by simp [cutV]
set_option maxRecDepth 100000 in
theorem cutV_at {xs : List Int} {p x : Int} {k : Nat} (h : xs[k]? = some x) : (cutV xs p)[k]? = some (if 100 * x < p * xs.sum then 0 else x) := by simp [cutV, h]
def hurdleF (xs : List Int) (p : Int) : List Int × Bool := if (vv xs = true ∧ 0 ≤ p ∧ p ≤ 100) ∧ vv (cutV xs p) = true then (cutV xs p, true) else ([], false)
set_option maxRecDepth 100000 in
theorem hurdleF_t {xs : List Int} {p : Int} (hv : vv xs = true) (hp : 0 ≤ p ∧ p ≤ 100) (hc : vv (cutV xs p) = true) : hurdleF xs p = (cutV xs p, true) := if_pos ⟨⟨hv, hp⟩, hc⟩
set_option maxRecDepth 100000 in
theorem hurdleF_f {xs : List Int} {p : Int} (h : ¬((vv xs = true ∧ 0 ≤ p ∧ p ≤ 100) ∧ vv (cutV xs p) = true)) : hurdleF xs p = ([], false) := if_neg h
set_option maxRecDepth 100000 in
theorem newIB_of {w w' : World} {r : List Int × Bool} {ys : List Int} {b : Bool} {A : Option Addr} {n c : Nat} (hr : r = (ys, b)) (hn : ys.length = n) (ho : OwnI w' w.heap.size A c ys) (hb : Below w.heap.size w w') : NewIB w r (.returned (.tuple #[.slice A n c, .bool b])) w' := by
  subst hr
  subst hn
  exact ⟨A, c, rfl, ho, hb⟩
end Go.Proofs.Ytiinfbjlkbjmmaa
/-
  Seats by divisors, of the program and of the reference.
-/
namespace Go.Proofs.Ytiinfbjlkbjmmaa
open Go.RowKit
def bump (gs : List Int) (p : Int) : List Int := gs.set p.toNat (atI gs p + 1)
def giveN (xs : List Int) (m : Int) (ls : List Int) : Nat → List Int
  | 0 => List.replicate xs.length 0
  | k + 1 => bump (giveN xs m ls k) (nextP xs (giveN xs m ls k) m ls)
set_option maxRecDepth 100000 in
theorem foldN_lt (xs gs : List Int) (m : Int) (n : Int) (ls : List Int) (h : ∀ l ∈ ls, 0 ≤ l ∧ l < n) (b : Int) (hb : 0 ≤ b ∧ b < n) : 0 ≤ ls.foldl (stepN xs gs m) b ∧ ls.foldl (stepN xs gs m) b < n := by
  induction ls generalizing b with
  | nil => exact hb
  | cons a t ih =>
    refine ih (fun l hl => h l (by simp [hl])) _ ?_
    unfold stepN
    split
    · exact h a (by simp)
    · exact hb
set_option maxRecDepth 100000 in
theorem nextP_lt {xs gs : List Int} {m : Int} {ls : List Int} (o : NextOk xs gs m ls) : ∃ q : Nat, nextP xs gs m ls = q ∧ q < xs.length := by
  have h0 : 0 ≤ ls.headD 0 ∧ ls.headD 0 < xs.length := by
    cases hls : ls with
    | nil => have := o.ll; have := o.l1; simp [hls] at *; omega
    | cons a t => exact o.lb a (by simp [hls])
  have h1 := foldN_lt xs gs m xs.length ls o.lb _ h0
  obtain ⟨q, hq⟩ := Int.eq_ofNat_of_zero_le h1.1
  exact ⟨q, hq, by have h2 := h1.2; rw [hq] at h2; omega⟩
set_option maxRecDepth 100000 in
theorem sum_set {gs : List Int} {q : Nat} {g y : Int} (h : gs[q]? = some g) : (gs.set q y).sum = gs.sum + y - g := by
  induction gs generalizing q with
  | nil => simp at h
  | cons a t ih =>
    cases q with
    | zero => simp at h; subst h; simp; omega
    | succ q => simp at h; simp [ih h]; omega
set_option maxRecDepth 100000 in
theorem bump_at {gs : List Int} {q : Nat} {g : Int} (h : gs[q]? = some g) : bump gs q = gs.set q (g + 1) := by
  unfold bump; rw [atI_at h]; rfl
set_option maxRecDepth 100000 in
theorem bump_len (gs : List Int) (p : Int) : (bump gs p).length = gs.length := by simp [bump]
set_option maxRecDepth 100000 in
theorem replicate_sum (n : Nat) : (List.replicate n (0 : Int)).sum = 0 := by
  induction n with
  | zero => rfl
  | succ n ih => simp [List.replicate_succ, ih]
/-- After k seats. -/
structure Given (xs : List Int) (gs : List Int) (k : Nat) : Prop where
  len : gs.length = xs.length
  bd : ∀ g ∈ gs, 0 ≤ g ∧ g ≤ k
  sum : gs.sum = k
set_option maxRecDepth 100000 in
theorem Given.zero (xs : List Int) : Given xs (List.replicate xs.length 0) 0 :=
  ⟨by simp, fun g hg => by have := List.eq_of_mem_replicate hg; omega, by rw [replicate_sum]; rfl⟩
set_option maxRecDepth 100000 in
theorem Given.bump {xs gs : List Int} {k q : Nat} (h : Given xs gs k) (hq : q < xs.length) : Given xs (bump gs q) (k + 1) := by
  obtain ⟨g, hg⟩ : ∃ g, gs[q]? = some g := ⟨_, List.getElem?_eq_getElem (by rw [h.len]; exact hq)⟩
  rw [bump_at hg]
  refine ⟨by simp [h.len], fun y hy => ?_, by rw [sum_set hg, h.sum]; omega⟩
  rcases List.mem_or_eq_of_mem_set hy with hy | rfl
  · have := h.bd y hy; omega
  · have := h.bd g (mem_of_at hg); omega
/-- What all steps of the divisors need. -/
structure DivOk (xs : List Int) (m : Int) (ls : List Int) : Prop where
  xb : ∀ x ∈ xs, 0 ≤ x ∧ x ≤ 99
  ll : ls.length = xs.length
  l1 : 1 ≤ xs.length ∧ xs.length ≤ 5
  hm : m = 1 ∨ m = 2
  lb : ∀ l ∈ ls, 0 ≤ l ∧ l < xs.length
set_option maxRecDepth 100000 in
theorem DivOk.next {xs gs : List Int} {m : Int} {ls : List Int} {k : Nat} (o : DivOk xs m ls) (h : Given xs gs k) (hk : k ≤ 20) : NextOk xs gs m ls :=
  ⟨o.xb, fun g hg => by have := h.bd g hg; omega, h.len, o.ll, o.l1, o.hm, o.lb⟩
set_option maxRecDepth 100000 in
theorem DivOk.given {xs : List Int} {m : Int} {ls : List Int} (o : DivOk xs m ls) (k : Nat) (hk : k ≤ 21) : Given xs (giveN xs m ls k) k := by
  induction k with
  | zero => exact Given.zero xs
  | succ k ih =>
    have h := ih (by omega)
    obtain ⟨q, hq, hlt⟩ := nextP_lt (o.next h (by omega))
    show Given xs (Go.Proofs.Ytiinfbjlkbjmmaa.bump _ _) _
    rw [hq]
    exact h.bump hlt
set_option maxRecDepth 100000 in
theorem gv_of_given {xs gs : List Int} {k : Nat} (h : Given xs gs k) (hk : k ≤ 20) : gv gs xs.length = true :=
  gv_iff.2 ⟨fun g hg => by have := h.bd g hg; omega, by rw [h.len], by rw [h.sum]; omega⟩
def divC (xs : List Int) (m : Int) (ls : List Int) : Bool := vv xs && mv m && lv ls && ((ls.length : Int) == (xs.length : Int))
set_option maxRecDepth 100000 in
theorem divOk_of {xs : List Int} {m : Int} {ls : List Int} (h : divC xs m ls = true) : DivOk xs m ls ∧ vv xs = true ∧ mv m = true ∧ lv ls = true ∧ ls.length = xs.length := by
  simp only [divC, Bool.and_eq_true, beq_iff_eq] at h
  obtain ⟨⟨⟨h1, h2⟩, h3⟩, h4⟩ := h
  have h5 : ls.length = xs.length := by omega
  have o := nextOk_of h1 (gv_of_given (Given.zero xs) (by omega)) h2 h3 h5
  exact ⟨⟨o.xb, o.ll, o.l1, o.hm, o.lb⟩, h1, h2, h3, h5⟩
set_option maxRecDepth 100000 in
theorem nextF_t {xs gs : List Int} {m : Int} {ls : List Int} {k : Nat} (h : divC xs m ls = true) (hg : Given xs gs k) (hk : k ≤ 20) : nextF xs gs m ls = nextP xs gs m ls := by
  obtain ⟨o, h1, h2, h3, h4⟩ := divOk_of h
  have := gv_of_given hg hk
  unfold nextF
  rw [if_pos (by simp [h1, h2, h3, h4, this])]
set_option maxRecDepth 100000 in
theorem nextF_f {xs gs : List Int} {m : Int} {ls : List Int} (h : divC xs m ls = false) : nextF xs gs m ls = -1 := by
  unfold nextF
  rw [if_neg]
  intro hh
  simp only [Bool.and_eq_true] at hh
  obtain ⟨⟨⟨⟨h1, h5⟩, h2⟩, h3⟩, h4⟩ := hh
  have : divC xs m ls = true := by simp only [divC, h1, h2, h3, h4]; rfl
  rw [this] at h
  cases h
/-- Seats by divisors. -/
def divF (xs : List Int) (s m : Int) (ls : List Int) : List Int × Bool := if (inB s 0 20 && divC xs m ls) = true then (giveN xs m ls s.toNat, true) else ([], false)
set_option maxRecDepth 100000 in
theorem divF_f {xs : List Int} {s m : Int} {ls : List Int} (h : (inB s 0 20 && divC xs m ls) = false) : divF xs s m ls = ([], false) := by unfold divF; rw [h]; rfl
set_option maxRecDepth 100000 in
theorem divF_t {xs : List Int} {m : Int} {ls : List Int} {s : Nat} (hs : s ≤ 20) (h : divC xs m ls = true) : divF xs s m ls = (giveN xs m ls s, true) := by
  unfold divF; rw [h, inB_t (by omega)]; rfl
end Go.Proofs.Ytiinfbjlkbjmmaa
/-
  Seats by divisors of the reference.
-/
namespace Go.Proofs.Ytiinfbjlkbjmmaa
open Go.RowKit
set_option maxRecDepth 100000 in
/-- 'append(out, ys...)', out a slice of ints that the call owns, ys not empty. -/
theorem wpList_appN (w : World) {ops : Array Oper} {rest : List Oper} {o : Oper} {a : Act} {Q : Exit → Act → World → Prop}
    (hg : o.guard = none) (s x : Operand) (ho : o.op = .call { callee := .builtin .append, args := #[s, x], argTypes := #[23, 23] })
    (base : Nat) (A : Option Addr) (n c : Nat) (xs : List Int) (hs : a.eval s = .slice A n c) (hown : OwnN w base A n c xs) (hbase : base ≤ w.heap.size) (hn : n ≤ 1048576)
    (ad : Addr) (ys : List Int) (l cc : Nat) (hx : a.eval x = .slice (some ad) l cc) (hl : ys.length = l) (hl2 : l ≤ 1048576) (hc : Ints w (some ad) ys)
    (hK : ∀ A' c' w', OwnN w' base A' (n + l) c' (xs ++ ys) → w.grownBy w' (Value.slice A n c).ownBlock → Below base w w' → wpList Try.prog ops Q rest (a.put o.dst (.slice A' (n + l) c')) w') :
    wpList Try.prog ops Q (o :: rest) a w := by
  obtain ⟨i0, hi, hz0, hz1, hz2⟩ := info_parts infoInt
  refine wpList_append_own w hg s x 23 ho base 3 i0 (.int .i64 0) 1 8 Try.underlying23 hi hz0 hz1 hz2 rfl (by omega) _ _ _ hs hown.row ad l cc (ys.map (Value.int .i64)) hx (by simp [hl]) ?_ ?_ (by simp only [maxLen]; omega) (by omega) hbase ?_
  · intro j u hj
    rw [List.getElem?_map] at hj
    cases hy : ys[j]? with
    | none => rw [hy] at hj; cases hj
    | some y =>
      rw [hy] at hj
      injection hj with hj
      subst hj
      exact hc.cell_of hy
  · intro u hu
    rw [List.mem_map] at hu
    obtain ⟨y, _, rfl⟩ := hu
    rfl
  · intro v' w' h1 h2 _
    obtain ⟨A', c', rfl⟩ := row_form h1
    exact hK A' c' w' (ownN_of_row (by simpa using h1)) h2 (below_of_grown h2 hbase (fun k hk => (World.ownsRow.lt hown.row k hk).1))
end Go.Proofs.Ytiinfbjlkbjmmaa
/-
  Seats by remainders, of the program and of the reference.
-/
namespace Go.Proofs.Ytiinfbjlkbjmmaa
open Go.RowKit
end Go.Proofs.Ytiinfbjlkbjmmaa
/-
  Seats by remainders of the reference.
-/
namespace Go.Proofs.Ytiinfbjlkbjmmaa
open Go.RowKit
set_option maxRecDepth 100000 in
theorem grown_setCell2 (w : World) (g k : Nat) (u : Value) : w.grownBy (w.setCell ⟨g, k, none⟩ u) (some g) := grown_setCell (grown_refl w _) k u
set_option maxRecDepth 100000 in
/-- 'append(out, y)': y lies in a new block of one cell; where the row lies then is told. -/
theorem wpList_app1L (w : World) {ops : Array Oper} {rest : List Oper} {o : Oper} {a : Act} {Q : Exit → Act → World → Prop}
    (hg : o.guard = none) (s x : Operand) (ho : o.op = .call { callee := .builtin .append, args := #[s, x], argTypes := #[23, 23] })
    (base : Nat) (g n c : Nat) (xs : List Int) (hs : a.eval s = .slice (some ⟨g, 0, none⟩) n c) (hown : OwnN w base (some ⟨g, 0, none⟩) n c xs) (hbase : base ≤ w.heap.size) (hn : n ≤ 1048576)
    (y : Int) (hx : a.eval x = .slice (some ⟨w.heap.size, 0, none⟩) 1 1)
    (hK : ∀ g' c' w', OwnN w' base (some ⟨g', 0, none⟩) (n + 1) c' (xs ++ [y]) → w.grownBy w' (some g) → Below base w w' → (g' = g ∨ w.heap.size < g') → g' < w'.heap.size → wpList Try.prog ops Q rest (a.put o.dst (.slice (some ⟨g', 0, none⟩) (n + 1) c')) w') :
    wpList Try.prog ops Q (o :: rest) a (w.alloc (.cells #[.int .i64 y] 3)) := by
  obtain ⟨i0, hi, hz0, hz1, hz2⟩ := info_parts infoInt
  refine wpList_append_lies _ hg s x 23 ho base 3 i0 (.int .i64 0) 1 8 Try.underlying23 hi hz0 hz1 hz2 rfl (by omega) _ _ _ hs (OwnN.row ⟨hown.1, hown.2.alloc _⟩) ⟨w.heap.size, 0, none⟩ 1 1 [.int .i64 y] hx rfl ?_ ?_ (by omega) (by simp only [maxLen]; omega) (by omega) (by simp; omega) (w.heap.size + 1) (by simp) ?_
  · intro j u hj
    match j, hj with
    | 0, hj =>
      simp at hj
      subst hj
      exact cell_of_row _ w.heap.size 0 #[.int .i64 y] 3 (0, 0) (heap_alloc_new w _)
  · intro u hu
    simp at hu
    subst hu
    rfl
  · intro g' c' w' h1 h2 h3 h4
    have h5 : w.grownBy w' (some g) :=
      ⟨h2.os, h2.tape, h2.output, by have := h2.size; simp at this; omega, fun k hk hne => (h2.block k (heap_lt hk _) hne).trans (Below.heap_alloc w _ k hk)⟩
    refine hK g' c' w' (ownN_of_row (by simpa using h1)) h5 (below_of_grown h5 hbase (fun k hk => (World.ownsRow.lt hown.row k hk).1)) ?_ h4
    rcases h3 with h3 | h3
    · injection h3 with h3; exact .inl h3.symm
    · exact .inr (by omega)
/-- Two slices of the call's own that grow, apart from each other. -/
structure TwoN (w wr : World) (n1 g1 d1 n2 g2 d2 : Nat) (xs ys : List Int) : Prop where
  ne : g1 ≠ g2
  b1 : w.heap.size ≤ g1
  b2 : w.heap.size ≤ g2
  o1 : OwnN wr w.heap.size (some ⟨g1, 0, none⟩) n1 d1 xs
  o2 : OwnN wr w.heap.size (some ⟨g2, 0, none⟩) n2 d2 ys
  z1 : g1 < wr.heap.size
  z2 : g2 < wr.heap.size
  bel : Below w.heap.size w wr
section
variable {w wr w' : World} {n1 g1 d1 n2 g2 d2 : Nat} {xs ys : List Int}
set_option maxRecDepth 100000 in
theorem TwoN.swap (T : TwoN w wr n1 g1 d1 n2 g2 d2 xs ys) : TwoN w wr n2 g2 d2 n1 g1 d1 ys xs := ⟨T.ne.symm, T.b2, T.b1, T.o2, T.o1, T.z2, T.z1, T.bel⟩
set_option maxRecDepth 100000 in
theorem TwoN.app {g' d' : Nat} {zs : List Int} (T : TwoN w wr n1 g1 d1 n2 g2 d2 xs ys) (h : OwnN w' w.heap.size (some ⟨g', 0, none⟩) (n1 + 1) d' zs) (hg : wr.grownBy w' (some g1)) (hb : Below w.heap.size wr w') (hw : g' = g1 ∨ wr.heap.size < g') (hz : g' < w'.heap.size) :
    TwoN w w' (n1 + 1) g' d' n2 g2 d2 zs ys := by
  have z := T.z2
  have hsz := hg.size
  have ne := T.ne
  have b1 := T.b1
  have hs := T.bel.size
  exact ⟨by omega, by omega, T.b2, h, ⟨T.o2.1, T.o2.2.grown hg (fun j hj e => by
    injection hj with hj
    injection e with e
    exact T.ne (hj.trans e.symm))⟩, hz, by omega, T.bel.trans hb⟩
set_option maxRecDepth 100000 in
theorem TwoN.below (T : TwoN w wr n1 g1 d1 n2 g2 d2 xs ys) (hb : Below wr.heap.size wr w') : TwoN w w' n1 g1 d1 n2 g2 d2 xs ys :=
  ⟨T.ne, T.b1, T.b2, ⟨T.o1.1, T.o1.2.below hb⟩, ⟨T.o2.1, T.o2.2.below hb⟩, Nat.lt_of_lt_of_le T.z1 hb.size, Nat.lt_of_lt_of_le T.z2 hb.size, T.bel.trans (hb.mono T.bel.size)⟩
set_option maxRecDepth 100000 in
theorem TwoN.congr {xs' ys' : List Int} (T : TwoN w wr n1 g1 d1 n2 g2 d2 xs ys) (e1 : xs = xs') (e2 : ys = ys') : TwoN w wr n1 g1 d1 n2 g2 d2 xs' ys' := e1 ▸ e2 ▸ T
set_option maxRecDepth 100000 in
theorem TwoN.set1 (T : TwoN w wr n1 g1 d1 n2 g2 d2 xs ys) (k : Nat) (x : Int) : TwoN w (wr.setCell ⟨g1, k, none⟩ (.int .i64 x)) n1 g1 d1 n2 g2 d2 (xs.set k x) ys :=
  ⟨T.ne, T.b1, T.b2, ⟨by rw [List.length_set]; exact T.o1.1, T.o1.2.set k x⟩, ⟨T.o2.1, T.o2.2.grown (grown_setCell2 wr g1 k _) (fun j hj e => by
    injection hj with hj
    injection e with e
    exact T.ne (hj.trans e.symm))⟩, Nat.lt_of_lt_of_le T.z1 (grown_setCell2 wr g1 k _).size, Nat.lt_of_lt_of_le T.z2 (grown_setCell2 wr g1 k _).size, T.bel.setCell T.b1 _⟩
set_option maxRecDepth 100000 in
theorem TwoN.set2 (T : TwoN w wr n1 g1 d1 n2 g2 d2 xs ys) (k : Nat) (x : Int) : TwoN w (wr.setCell ⟨g2, k, none⟩ (.int .i64 x)) n1 g1 d1 n2 g2 d2 xs (ys.set k x) := (T.swap.set1 k x).swap
end
set_option maxRecDepth 100000 in
theorem moved {w0 w : World} {m : Nat} {A A2 : Option Addr} {xs ls : List Int} (hw : w = w0.drewN m) (h : Ints w0 A xs) (h2 : Ints w0 A2 ls) : Ints w A xs ∧ Ints w A2 ls ∧ Below w0.heap.size w0 w ∧ w0.heap.size = w.heap.size := by
  subst hw; exact ⟨h, h2, below_drewN (Below.refl _ _) m, rfl⟩
set_option maxRecDepth 100000 in
theorem twoN_start (w : World) : TwoN w ((w.alloc (.cells #[] 3)).alloc (.cells #[] 3)) 0 w.heap.size 0 0 (w.heap.size + 1) 0 [] [] := by
  have b1 : Below w.heap.size w (w.alloc (.cells #[] 3)) := (Below.refl _ _).alloc (Nat.le_refl _) _
  refine ⟨by omega, Nat.le_refl _, by omega, ⟨rfl, (own_empty w (Nat.le_refl _)).alloc _⟩, ⟨rfl, ?_⟩, by simp; omega, by simp, b1.alloc b1.size _⟩
  have := own_empty (w.alloc (.cells #[] 3)) (base := w.heap.size) (by simp)
  simpa using this
end Go.Proofs.Ytiinfbjlkbjmmaa
