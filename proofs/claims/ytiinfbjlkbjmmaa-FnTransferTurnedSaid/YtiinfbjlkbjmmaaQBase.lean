/-
  Words and small lemmas for the walks over this seat: slices of ints that read as a list, slices that the call owns, worlds that differ by draws.
-/
import Derived.Test.YtiinfbjlkbjmmaaRows
import Derived.WalkKit
import Derived.WalkSpells
import Derived.WalkLawsBesides
import Derived.Handy
import Derived.Lib.Hide
import Derived.Deep.QuietTactic
import Derived.BigQuiet
import Derived.Deep.LoopGhost
import Derived.Deep.RegionHeld3
import Derived.Deep.DeepCutAuto
import Derived.Deep.AppendLies
import Derived.Maps.AppendAt
import Derived.KernelRfl
import Derived.Outline
namespace Go.Proofs.Ytiinfbjlkbjmmaa
open Go.RowKit

set_option maxRecDepth 100000 in
theorem ret_int {k : IntKind} {a b : Int} (h : a = b) : Ending.returned (.int k a) = .returned (.int k b) := by rw [h]
set_option maxRecDepth 100000 in
theorem ret_bool {a b : Bool} (h : a = b) : Ending.returned (.bool a) = .returned (.bool b) := by rw [h]
set_option maxRecDepth 100000 in
theorem val_int {k : IntKind} {a b : Int} (h : a = b) : Value.int k a = .int k b := by rw [h]

/-- The slice of ints at A reads as xs. -/
def Ints (w : World) (A : Option Addr) (xs : List Int) : Prop :=
  0 < xs.length → ∃ ad, A = some ad ∧ ∀ j x, xs[j]? = some x → w.cell? (ad.add j) = some (.int .i64 x)

section
variable {w w' : World} {A : Option Addr} {xs : List Int}
set_option maxRecDepth 100000 in
theorem Ints.at_ (h : Ints w A xs) {k : Nat} (hk : k < xs.length) :
    ∃ ad x, A = some ad ∧ Hid (xs[k]? = some x) ∧ w.cell? (ad.add k) = some (.int .i64 x) := by
  obtain ⟨ad, e, hc⟩ := h (by omega)
  exact ⟨ad, xs[k], e, List.getElem?_eq_getElem hk, hc k _ (List.getElem?_eq_getElem hk)⟩
set_option maxRecDepth 100000 in
theorem block_add (a : Addr) (n : Nat) : (a.add n).block = a.block := by unfold Addr.add; split <;> rfl
set_option maxRecDepth 100000 in
theorem add_row (g j : Nat) : (⟨g, 0, none⟩ : Addr).add j = ⟨g, j, none⟩ := by unfold Addr.add; split <;> simp_all
set_option maxRecDepth 100000 in
theorem Ints.keep (h : Ints w A xs) (hk : ∀ ad, A = some ad → 0 < xs.length → ad.block < w.heap.size → w'.heap[ad.block]? = w.heap[ad.block]?) : Ints w' A xs := by
  intro hn
  obtain ⟨ad, e, hc⟩ := h hn
  refine ⟨ad, e, fun j x hx => ?_⟩
  have h1 := hc j x hx
  have hlt := World.block_lt_of_cell? w _ h1
  rw [block_add] at hlt
  rw [← h1]
  exact World.cell?_of_block (w := w) (by rw [block_add]; exact hk ad e hn hlt)
set_option maxRecDepth 100000 in
theorem Ints.below (h : Ints w A xs) (hb : Below w.heap.size w w') : Ints w' A xs := h.keep fun _ _ _ hlt => hb.block _ hlt
set_option maxRecDepth 100000 in
theorem Ints.lt (h : Ints w A xs) {ad : Addr} (e : A = some ad) (hn : 0 < xs.length) : ad.block < w.heap.size := by
  obtain ⟨ad', e', hc⟩ := h hn
  obtain rfl : ad = ad' := by rw [e] at e'; injection e'
  have := World.block_lt_of_cell? w _ (hc 0 _ (List.getElem?_eq_getElem hn))
  rwa [block_add] at this
set_option maxRecDepth 100000 in
theorem Ints.drewN (h : Ints w A xs) (n : Nat) : Ints (w.drewN n) A xs := h
set_option maxRecDepth 100000 in
theorem Ints.drew (h : Ints w A xs) : Ints w.drew A xs := h
set_option maxRecDepth 100000 in
theorem Ints.alloc (h : Ints w A xs) (o : Obj) : Ints (w.alloc o) A xs := h.keep fun _ _ _ hlt => Below.heap_alloc w o _ hlt
set_option maxRecDepth 100000 in
theorem Ints.nil (w : World) (A : Option Addr) : Ints w A [] := fun h => absurd h (by simp)
set_option maxRecDepth 100000 in
theorem Ints.take (h : Ints w A xs) (k : Nat) : Ints w A (xs.take k) := by
  intro hn
  obtain ⟨ad, e, hc⟩ := h (by simp at hn; omega)
  refine ⟨ad, e, fun j x hx => hc j x ?_⟩
  rw [List.getElem?_take] at hx
  split at hx
  · exact hx
  · cases hx
end

/-- It returns v, and the world is as it was. -/
def Ret (w : World) (v : Value) (e : Ending) (w' : World) : Prop := e = .returned v ∧ w = w'
/-- It returns v, and the world is as it was but for draws. -/
def Qt (w : World) (v : Value) (e : Ending) (w' : World) : Prop := e = .returned v ∧ ∃ n, w' = w.drewN n
set_option maxRecDepth 100000 in
theorem Ret.qt {P : Program} {f : FuncId} {args : Array Value} {w : World} {v : Value} (h : Calls P f args w (Ret w v)) : Calls P f args w (Qt w v) :=
  h.mono fun _ _ ⟨he, hw⟩ => ⟨he, 0, hw ▸ rfl⟩
set_option maxRecDepth 100000 in
/-- In a region that draws: a callee that leaves the world alone. -/
theorem Ret.quiet {P : Program} {f : FuncId} {args : Array Value} {w : World} {n : Nat} {v : Value} (h : Calls P f args (w.drewN n) (Ret (w.drewN n) v)) :
    Calls P f args (w.drewN n) fun e w'' => e = .returned v ∧ ∃ m, w'' = w.drewN m := h.mono fun _ _ ⟨he, hw⟩ => ⟨he, n, hw ▸ rfl⟩
set_option maxRecDepth 100000 in
theorem Qt.quiet {P : Program} {f : FuncId} {args : Array Value} {w : World} {n : Nat} {v : Value} (h : Calls P f args (w.drewN n) (Qt (w.drewN n) v)) :
    Calls P f args (w.drewN n) fun e w'' => e = .returned v ∧ ∃ m, w'' = w.drewN m := h.mono fun _ _ ⟨he, m, hw⟩ => ⟨he, n + m, by rw [hw, World.drewN_drewN]⟩

set_option maxRecDepth 100000 in
theorem below_drewN {B : Nat} {a w : World} (h : Below B a w) (n : Nat) : Below B a (w.drewN n) := ⟨h.os, h.tape, h.output, h.size, h.block⟩
set_option maxRecDepth 100000 in
theorem take_snoc {α : Type} (xs : List α) (k : Nat) (x : α) (h : xs[k]? = some x) : xs.take (k + 1) = xs.take k ++ [x] := by
  obtain ⟨hk, rfl⟩ := List.getElem?_eq_some_iff.1 h
  exact List.take_succ_eq_append_getElem hk
set_option maxRecDepth 100000 in
theorem sum_append (xs ys : List Int) : (xs ++ ys).sum = xs.sum + ys.sum := by
  induction xs with
  | nil => simp
  | cons a t ih => simp only [List.cons_append, List.sum_cons, ih]; omega
set_option maxRecDepth 100000 in
theorem sum_snoc (xs : List Int) (k : Nat) (x : Int) (h : xs[k]? = some x) : (xs.take (k + 1)).sum = (xs.take k).sum + x := by
  rw [take_snoc xs k x h, sum_append]; simp
set_option maxRecDepth 100000 in
theorem mem_of_at {xs : List Int} {k : Nat} {x : Int} (h : xs[k]? = some x) : x ∈ xs := List.mem_of_getElem? h
set_option maxRecDepth 100000 in
theorem sum_bd (xs : List Int) (M : Int) (hb : ∀ x ∈ xs, -M ≤ x ∧ x ≤ M) : -(M * xs.length) ≤ xs.sum ∧ xs.sum ≤ M * xs.length := by
  induction xs with
  | nil => simp
  | cons a t ih =>
    have h1 := hb a (by simp)
    have h2 := ih (fun x hx => hb x (by simp [hx]))
    simp only [List.sum_cons, List.length_cons]
    have : M * ((t.length + 1 : Nat) : Int) = M * t.length + M := by push_cast; rw [Int.mul_add, Int.mul_one]
    omega
set_option maxRecDepth 100000 in
theorem sum_nonneg (xs : List Int) (hb : ∀ x ∈ xs, 0 ≤ x) : 0 ≤ xs.sum := by
  induction xs with
  | nil => simp
  | cons a t ih =>
    have h1 := hb a (by simp)
    have h2 := ih (fun x hx => hb x (by simp [hx]))
    simp only [List.sum_cons]; omega
set_option maxRecDepth 100000 in
theorem mem_take {xs : List Int} {k : Nat} {x : Int} (h : x ∈ xs.take k) : x ∈ xs := List.mem_of_mem_take h

/-- The slice is one of ints that the call owns, in a block from base on. -/
def OwnI (w : World) (base : Nat) (A : Option Addr) (c : Nat) (xs : List Int) : Prop := w.ownsRow base 3 1 (.slice A xs.length c) xs.length (xs.map (Value.int .i64))
set_option maxRecDepth 100000 in
theorem infoInt : (Try.prog.info? 3).map (fun i => (i.zero, i.size, i.bytes)) = some (some (.int .i64 0), 1, 8) := by kernel_rfl

section
variable {w w' : World} {base : Nat} {A : Option Addr} {c : Nat} {xs : List Int}
set_option maxRecDepth 100000 in
theorem OwnI.ints (h : OwnI w base A c xs) : Ints w A xs := by
  intro hn
  rcases h.2 with ⟨hv, h0⟩ | ⟨g, cap, cur, hv, _⟩
  · omega
  · injection hv with hA
    subst hA
    refine ⟨_, rfl, fun j x hx => ?_⟩
    exact World.ownsRow.cells h (g := g) rfl j _ (by simp [hx])
set_option maxRecDepth 100000 in
theorem OwnI.alloc (h : OwnI w base A c xs) (o : Obj) : OwnI (w.alloc o) base A c xs := World.ownsRow.alloc h o
set_option maxRecDepth 100000 in
theorem OwnI.drewN (h : OwnI w base A c xs) (n : Nat) : OwnI (w.drewN n) base A c xs := h
set_option maxRecDepth 100000 in
theorem OwnI.below (h : OwnI w base A c xs) (hb : Below w.heap.size w w') : OwnI w' base A c xs :=
  World.ownsRow.kept h (row := none) ⟨hb.os, hb.tape, hb.output, hb.size, fun k hk _ => hb.block k hk⟩ (by cases hv : (Value.slice A xs.length c).ownBlock <;> simp)
set_option maxRecDepth 100000 in
theorem OwnI.mono (h : OwnI w base A c xs) {b : Nat} (hb : b ≤ base) : OwnI w b A c xs := by
  refine ⟨h.1, ?_⟩
  rcases h.2 with h2 | ⟨g, cap, cur, hv, hg, r⟩
  · exact .inl h2
  · exact .inr ⟨g, cap, cur, hv, by omega, r⟩
set_option maxRecDepth 100000 in
theorem OwnI.grown {row : Option Nat} (h : OwnI w base A c xs) (hg : w.grownBy w' row) (hr : ∀ k, row = some k → (Value.slice A xs.length c).ownBlock ≠ some k) : OwnI w' base A c xs :=
  World.ownsRow.kept h hg (by
    cases hv : (Value.slice A xs.length c).ownBlock with
    | none => exact .inl rfl
    | some b =>
      refine .inr (fun e => ?_)
      exact hr b e.symm hv)
set_option maxRecDepth 100000 in
/-- Where an owned slice lies. -/
theorem OwnI.form (h : OwnI w base A c xs) (hn : 0 < xs.length) : ∃ g, A = some ⟨g, 0, none⟩ ∧ base ≤ g ∧ g < w.heap.size := by
  rcases h.2 with ⟨hv, h0⟩ | ⟨g, cap, cur, hv, hb, hg, _⟩
  · omega
  · injection hv with hA
    exact ⟨g, hA, hb, (Array.getElem?_eq_some_iff.1 hg).1⟩
set_option maxRecDepth 100000 in
theorem OwnI.block (h : OwnI w base A c xs) : ∀ k, (Value.slice A xs.length c).ownBlock = some k → base ≤ k ∧ k < w.heap.size := World.ownsRow.lt h
set_option maxRecDepth 100000 in
theorem OwnI.cell {g : Nat} (h : OwnI w base (some ⟨g, 0, none⟩) c xs) {k : Nat} {x : Int} (hx : xs[k]? = some x) : w.cell? ⟨g, k, none⟩ = some (.int .i64 x) := by
  have hk := (List.getElem?_eq_some_iff.1 hx).1
  rw [World.ownsRow.cellAt h k (by omega)]; simp [hx]
set_option maxRecDepth 100000 in
theorem OwnI.frozen {g : Nat} (h : OwnI w base (some ⟨g, 0, none⟩) c xs) (k : Nat) : w.frozen? ⟨g, k, none⟩ = false := World.ownsRow.frozenAt h k
set_option maxRecDepth 100000 in
theorem OwnI.set {g : Nat} (h : OwnI w base (some ⟨g, 0, none⟩) c xs) (k : Nat) (x : Int) : OwnI (w.setCell ⟨g, k, none⟩ (.int .i64 x)) base (some ⟨g, 0, none⟩) c (xs.set k x) := by
  have := (World.ownsRow.stored h k (.int .i64 x)).1
  unfold OwnI
  rw [List.length_set, List.map_set]
  exact this
set_option maxRecDepth 100000 in
theorem OwnI.len (h : OwnI w base A c xs) : xs.length ≤ maxLen := by
  rcases h.2 with ⟨hv, h0⟩ | ⟨g, cap, cur, hv, hb, hg, h1, h2, _⟩ <;> omega
set_option maxRecDepth 100000 in
theorem OwnI.congr {ys : List Int} (h : OwnI w base A c xs) (e : xs = ys) : OwnI w base A c ys := e ▸ h
set_option maxRecDepth 100000 in
theorem OwnI.nil (w : World) (base : Nat) : OwnI w base none 0 [] := World.ownsRow_nil w base _ _
end
/-- It returns a new slice that reads as xs; nothing that was there has turned. -/
def NewI (w : World) (xs : List Int) (e : Ending) (w' : World) : Prop := ∃ A c, e = .returned (.slice A xs.length c) ∧ OwnI w' w.heap.size A c xs ∧ Below w.heap.size w w'
/-- The first k of xs, then noughts. -/
def fill (xs : List Int) (k : Nat) : List Int := xs.take k ++ List.replicate (xs.length - k) 0
set_option maxRecDepth 100000 in
theorem fill_zero (xs : List Int) : fill xs 0 = List.replicate xs.length 0 := by simp [fill]
set_option maxRecDepth 100000 in
theorem fill_all (xs : List Int) : fill xs xs.length = xs := by simp [fill]
set_option maxRecDepth 100000 in
theorem fill_length (xs : List Int) {k : Nat} (hk : k ≤ xs.length) : (fill xs k).length = xs.length := by simp [fill]; omega
set_option maxRecDepth 100000 in
theorem fill_at (xs : List Int) {k : Nat} (hk : k < xs.length) : (fill xs k)[k]? = some 0 := by
  unfold fill
  rw [List.getElem?_append_right (by simp; omega), List.length_take, Nat.min_eq_left (by omega), Nat.sub_self]
  rw [List.getElem?_replicate, if_pos (by omega)]
set_option maxRecDepth 100000 in
theorem fill_set (xs : List Int) {k : Nat} {x : Int} (hx : xs[k]? = some x) : (fill xs k).set k x = fill xs (k + 1) := by
  have hk := (List.getElem?_eq_some_iff.1 hx).1
  unfold fill
  rw [List.set_append_right _ _ (by simp; omega), List.length_take, Nat.min_eq_left (by omega), Nat.sub_self, take_snoc xs k x hx]
  obtain ⟨m, hm⟩ : ∃ m, xs.length - k = m + 1 := ⟨xs.length - k - 1, by omega⟩
  rw [hm, show xs.length - (k + 1) = m from by omega, List.replicate_succ]
  simp

set_option maxRecDepth 100000 in
theorem fill_skip (xs : List Int) {k : Nat} (hx : xs[k]? = some 0) : fill xs (k + 1) = fill xs k := by
  rw [← fill_set xs hx]
  have hk := (List.getElem?_eq_some_iff.1 hx).1
  have := fill_at xs hk
  obtain ⟨h1, h2⟩ := List.getElem?_eq_some_iff.1 this
  rw [← h2]
  exact List.set_getElem_self h1
set_option maxRecDepth 100000 in
/-- 'make([]int, n)'. -/
theorem wpList_makeI (w : World) {ops : Array Oper} {rest : List Oper} {o : Oper} {a : Act} {Q : Exit → Act → World → Prop}
    (hg : o.guard = none) (l c : Operand) (hop : o.op = Op.makeSlice 23 l c) (n : Nat) (hl : a.eval l = .int .i64 n) (hc : a.eval c = .int .i64 n) (hn : n ≤ 1099511627776)
    (hK : ∀ w', OwnI w' w.heap.size (some ⟨w.heap.size, 0, none⟩) n (List.replicate n 0) → Below w.heap.size w w' → w.heap.size < w'.heap.size → wpList Try.prog ops Q rest (a.put o.dst (.slice (some ⟨w.heap.size, 0, none⟩) n n)) w') :
    wpList Try.prog ops Q (o :: rest) a w := by
  obtain ⟨i0, hi, hz0, hz1, hz2⟩ := info_parts infoInt
  refine wpList_make_full w hg l c 23 hop w.heap.size 3 i0 _ 1 Try.underlying23 hi hz0 hz1 .i64 .i64 n n n hl hc rfl rfl (by rw [hz2]; omega) (by simp only [maxLen]; omega) (Nat.le_refl _) ?_
  intro w' hown hgr
  have hown' : OwnI w' w.heap.size (some ⟨w.heap.size, 0, none⟩) n (List.replicate n 0) := by
    unfold OwnI
    rw [List.length_replicate]
    have e : (madeCells (Value.int .i64 0).cells (n * 1)).toList = (List.replicate n (0 : Int)).map (Value.int .i64) := by
      simp only [madeCells, Value.cells, Nat.mul_one, List.map_replicate]
      simp [Nat.mod_one]
      rw [List.map_const']; simp
    rw [e] at hown
    exact hown
  refine hK w' hown' ⟨hgr.os, hgr.tape, hgr.output, hgr.size, fun k hk => hgr.block k hk (by simp)⟩ ?_
  rcases hown.2 with ⟨hv, _⟩ | ⟨g, cap, cur, hv, hb, hgg, _⟩
  · cases hv
  · injection hv with hA
    injection hA with hA
    injection hA with hA
    subst hA
    exact (Array.getElem?_eq_some_iff.1 hgg).1
/-- An owned slice whose length is written apart. -/
def OwnN (w : World) (base : Nat) (A : Option Addr) (n c : Nat) (xs : List Int) : Prop := xs.length = n ∧ OwnI w base A c xs
set_option maxRecDepth 100000 in
theorem OwnN.row {w : World} {base : Nat} {A : Option Addr} {n c : Nat} {xs : List Int} (h : OwnN w base A n c xs) : w.ownsRow base 3 1 (.slice A n c) n (xs.map (Value.int .i64)) := by
  obtain ⟨rfl, h⟩ := h
  exact h
set_option maxRecDepth 100000 in
theorem ownN_of_row {w : World} {base : Nat} {A : Option Addr} {n c : Nat} {xs : List Int} (h : w.ownsRow base 3 1 (.slice A n c) n (xs.map (Value.int .i64))) : OwnN w base A n c xs := by
  have hn : xs.length = n := by simpa using h.1
  subst hn
  exact ⟨rfl, h⟩
set_option maxRecDepth 100000 in
theorem row_form {w : World} {base : Nat} {e : TypeId} {size : Nat} {v : Value} {n : Nat} {xs : List Value} (h : w.ownsRow base e size v n xs) : ∃ A c, v = .slice A n c := by
  rcases h.2 with ⟨rfl, rfl⟩ | ⟨g, cap, cur, rfl, _⟩
  · exact ⟨_, _, rfl⟩
  · exact ⟨_, _, rfl⟩
set_option maxRecDepth 100000 in
/-- 'append(out, x)', out a slice of ints that the call owns. -/
theorem wpList_append1 (w : World) {ops : Array Oper} {rest : List Oper} {o : Oper} {a : Act} {Q : Exit → Act → World → Prop}
    (hg : o.guard = none) (s x : Operand) (ho : o.op = .call { callee := .builtin .append, args := #[s, x], argTypes := #[23, 23] })
    (base : Nat) (A : Option Addr) (n c : Nat) (xs : List Int) (hs : a.eval s = .slice A n c) (hown : OwnN w base A n c xs) (hbase : base ≤ w.heap.size) (hn : n ≤ 1099511627776)
    (ad : Addr) (y : Int) (cc : Nat) (hx : a.eval x = .slice (some ad) 1 cc) (hc : w.cell? ad = some (.int .i64 y))
    (hK : ∀ A' c' w', OwnN w' base A' (n + 1) c' (xs ++ [y]) → w.grownBy w' (Value.slice A n c).ownBlock → wpList Try.prog ops Q rest (a.put o.dst (.slice A' (n + 1) c')) w') :
    wpList Try.prog ops Q (o :: rest) a w := by
  obtain ⟨i0, hi, hz0, hz1, hz2⟩ := info_parts infoInt
  refine wpList_append_own w hg s x 23 ho base 3 i0 (.int .i64 0) 1 8 Try.underlying23 hi hz0 hz1 hz2 rfl (by omega) _ _ _ hs hown.row ad 1 cc [.int .i64 y] hx rfl ?_ ?_ (by simp only [maxLen]; omega) (by omega) hbase ?_
  · intro j u hj
    match j, hj with
    | 0, hj =>
      simp at hj
      subst hj
      rw [show ad.add 0 = ad from by unfold Addr.add; simp]
      exact hc
  · intro u hu
    simp at hu
    subst hu
    rfl
  · intro v' w' h1 h2 _
    obtain ⟨A', c', rfl⟩ := row_form h1
    exact hK A' c' w' (ownN_of_row (by simpa using h1)) h2
/-- It returns a new slice that reads as xs, and b; nothing that was there has turned. -/
def NewIB (w : World) (r : List Int × Bool) (e : Ending) (w' : World) : Prop :=
  ∃ A c, e = .returned (.tuple #[.slice A r.1.length c, .bool r.2]) ∧ OwnI w' w.heap.size A c r.1 ∧ Below w.heap.size w w'
set_option maxRecDepth 100000 in
/-- An empty slice that is not nil. -/
theorem own_empty (w : World) {base : Nat} (hb : base ≤ w.heap.size) : OwnI (w.alloc (.cells #[] 3)) base (some ⟨w.heap.size, 0, none⟩) 0 [] :=
  World.ownsRow_made w #[] 0 hb (by simp [maxLen]) (by simp)
set_option maxRecDepth 100000 in
theorem OwnI.grownRow {w w' : World} {base : Nat} {A : Option Addr} {c : Nat} {xs : List Int} {row : Option Nat} (h : OwnI w base A c xs) (hg : w.grownBy w' row) (hr : ∀ k, row = some k → k < base ∨ w.heap.size ≤ k) : OwnI w' base A c xs :=
  h.grown hg (fun k hk e => by
    have := h.block k e
    have := hr k hk
    omega)
set_option maxRecDepth 100000 in
/-- Ints that do not lie in the row that was written. -/
theorem Ints.grown {w w' : World} {A : Option Addr} {xs : List Int} {row : Option Nat} (h : Ints w A xs) (hg : w.grownBy w' row) (hr : ∀ ad, A = some ad → 0 < xs.length → some ad.block ≠ row) : Ints w' A xs :=
  h.keep fun ad e hn hlt => hg.block _ hlt (hr ad e hn)
set_option maxRecDepth 100000 in
theorem below_of_grown {w w' : World} {row : Option Nat} {B : Nat} (hg : w.grownBy w' row) (hB : B ≤ w.heap.size) (hr : ∀ k, row = some k → B ≤ k) : Below B w w' := (Below.refl B w).grown hg hB hr
set_option maxRecDepth 100000 in
theorem grown_drewN {a w : World} {row : Option Nat} (h : a.grownBy w row) (n : Nat) : a.grownBy (w.drewN n) row := ⟨h.os, h.tape, h.output, h.size, h.block⟩
set_option maxRecDepth 100000 in
theorem grown_refl (w : World) (row : Option Nat) : w.grownBy w row := ⟨rfl, rfl, rfl, Nat.le_refl _, fun _ _ _ => rfl⟩
set_option maxRecDepth 100000 in
theorem grown_trans {a b c : World} {row : Option Nat} (h : a.grownBy b row) (k : b.grownBy c row) : a.grownBy c row :=
  ⟨k.os.trans h.os, k.tape.trans h.tape, k.output.trans h.output, Nat.le_trans h.size k.size, fun i hi hn => (k.block i (Nat.lt_of_lt_of_le hi h.size) hn).trans (h.block i hi hn)⟩
set_option maxRecDepth 100000 in
theorem grown_of_below {a b : World} (h : Below a.heap.size a b) (row : Option Nat) : a.grownBy b row := ⟨h.os, h.tape, h.output, h.size, fun k hk _ => h.block k hk⟩
set_option maxRecDepth 100000 in
theorem grown_setCell {a b : World} {g : Nat} (h : a.grownBy b (some g)) (j : Nat) (u : Value) : a.grownBy (b.setCell ⟨g, j, none⟩ u) (some g) :=
  ⟨h.os, h.tape, h.output, by simpa [World.setCell] using h.size, fun i hi hne => (Below.heap_setCell b ⟨g, j, none⟩ u i (by rintro rfl; exact hne rfl)).trans (h.block i hi hne)⟩
end Go.Proofs.Ytiinfbjlkbjmmaa
/-
  Plain functions on lists of ints: what the program's small functions compute. No program in sight.
-/
namespace Go.Proofs.Ytiinfbjlkbjmmaa
/-- low ≤ n ≤ high. -/
def inB (n low high : Int) : Bool := decide (low ≤ n) && decide (n ≤ high)
set_option maxRecDepth 100000 in
theorem inB_t {n low high : Int} (h : low ≤ n ∧ n ≤ high) : inB n low high = true := by simp [inB, h]
set_option maxRecDepth 100000 in
theorem inB_f {n low high : Int} (h : ¬(low ≤ n ∧ n ≤ high)) : inB n low high = false := by
  unfold inB; simp; omega
set_option maxRecDepth 100000 in
theorem inB_iff {n low high : Int} : inB n low high = true ↔ low ≤ n ∧ n ≤ high := by simp [inB]
/-- Every number lies between low and high. -/
def allB (xs : List Int) (low high : Int) : Bool := xs.all fun x => inB x low high
set_option maxRecDepth 100000 in
theorem allB_iff {xs : List Int} {low high : Int} : allB xs low high = true ↔ ∀ x ∈ xs, low ≤ x ∧ x ≤ high := by simp [allB, inB]
/-- Votes are valid. -/
def vv (xs : List Int) : Bool := allB xs 0 99 && inB xs.length 1 5 && decide (0 < xs.sum)
set_option maxRecDepth 100000 in
theorem vv_iff {xs : List Int} : vv xs = true ↔ (∀ x ∈ xs, 0 ≤ x ∧ x ≤ 99) ∧ (1 ≤ xs.length ∧ xs.length ≤ 5) ∧ 0 < xs.sum := by
  simp only [vv, Bool.and_eq_true, allB_iff, inB_iff, decide_eq_true_eq]
  constructor
  · rintro ⟨⟨h1, h2⟩, h3⟩; exact ⟨h1, by omega, h3⟩
  · rintro ⟨h1, h2, h3⟩; exact ⟨⟨h1, by omega⟩, h3⟩
/-- Seats that were given are valid, for n parties. -/
def gv (gs : List Int) (n : Int) : Bool := allB gs 0 20 && (((gs.length : Int)) == n) && decide (gs.sum ≤ 20)
set_option maxRecDepth 100000 in
theorem gv_iff {gs : List Int} {n : Int} : gv gs n = true ↔ (∀ x ∈ gs, 0 ≤ x ∧ x ≤ 20) ∧ (gs.length : Int) = n ∧ gs.sum ≤ 20 := by
  simp [gv, allB_iff, and_assoc]
/-- The method is one of both. -/
def mv (m : Int) : Bool := (m == 1) || (m == 2)
set_option maxRecDepth 100000 in
theorem mv_iff {m : Int} : mv m = true ↔ m = 1 ∨ m = 2 := by simp [mv]
/-- The divisor of a party with s seats. -/
def dv (s m : Int) : Int := m * s + 1
end Go.Proofs.Ytiinfbjlkbjmmaa
/-
  The small functions: ranges, methods, divisors, sums, equal lists, the greatest number, valid votes and seats.
-/
namespace Go.Proofs.Ytiinfbjlkbjmmaa
open Go.RowKit
set_option maxRecDepth 100000 in
set_option maxHeartbeats 400000 in
theorem l6In_any (n low high : Int) (w : World) : Calls Try.prog 86 #[.int .i64 n, .int .i64 low, .int .i64 high] w (Ret w (.bool (inB n low high))) := by
  by_cases h1 : low ≤ n <;> by_cases h2 : n ≤ high
  all_goals
    go_enter Try.func86, Try.ntmps86
    go_wp2
    go_ret
    exact ⟨ret_bool (by simp [inB, h1, h2]), rfl⟩
set_option maxRecDepth 100000 in
set_option maxHeartbeats 400000 in
theorem isMany_any (n : Int) (w : World) : Calls Try.prog 78 #[.int .i64 n] w (Ret w (.bool (inB n 1 5))) := by
  by_cases h1 : 1 ≤ n <;> by_cases h2 : n ≤ 5
  all_goals
    go_enter Try.func78, Try.ntmps78
    go_wp2
    go_ret
    exact ⟨ret_bool (by simp [inB, h1, h2]), rfl⟩
/-- The greatest of a list that is not empty. -/
def maxL : List Int → Int
  | [] => 0
  | a :: t => t.foldl max a
set_option maxRecDepth 100000 in
theorem foldl_snoc_max (t : List Int) (a x : Int) : (t ++ [x]).foldl max a = max (t.foldl max a) x := by simp
set_option maxRecDepth 100000 in
theorem maxL_snoc (xs : List Int) (k : Nat) (x : Int) (h : xs[k]? = some x) (hk : 0 < k) : maxL (xs.take (k + 1)) = max (maxL (xs.take k)) x := by
  rw [take_snoc xs k x h]
  obtain ⟨a, t, e⟩ : ∃ a t, xs.take k = a :: t := by
    cases hh : xs.take k with
    | nil =>
      have := congrArg List.length hh
      have hlt := (List.getElem?_eq_some_iff.1 h).1
      simp at this
      rcases this with h0 | h0
      · omega
      · subst h0; simp at hlt
    | cons a t => exact ⟨a, t, rfl⟩
  rw [e]
  simp [maxL]
set_option maxRecDepth 100000 in
set_option maxHeartbeats 400000 in
theorem sMax_any (A : Option Addr) (xs : List Int) (c : Nat) (w : World) (h : Ints w A xs) (hl : xs.length ≤ 1048576) (h0 : 0 < xs.length) :
    Calls Try.prog 117 #[.slice A xs.length c] w (Ret w (.int .i64 (maxL xs))) := by
  obtain ⟨ad, x0, rfl, hx0, hc0⟩ := h.at_ h0
  have hc0' : w.cell? ad = some (.int .i64 x0) := by have := hc0; rwa [show ad.add 0 = ad from by unfold Addr.add; simp] at this
  go_enter Try.func117, Try.ntmps117
  go_wp2
  go_loop [3, 4] (fun n i => ∃ k : Nat, 0 < k ∧ k ≤ xs.length ∧ i = .int .i64 k ∧ n = .int .i64 (maxL (xs.take k))) (fun _ i => xs.length - (intOf i).toNat)
  case atStart => exact ⟨1, by omega, by omega, rfl, val_int (by
    have := take_snoc xs 0 x0 hx0.out
    rw [show xs.take 1 = [x0] from by simpa using this]; rfl)⟩
  case round =>
    obtain ⟨k, hk0, hk, rfl, rfl⟩ := hrel
    by_cases hlt : k < xs.length
    · obtain ⟨ad', x, e, hx, hc⟩ := h.at_ hlt
      obtain rfl : ad = ad' := by injection e
      clear e
      go_wp2
      go_round
      case rel => exact ⟨k + 1, by omega, by omega, by go_num, by rw [maxL_snoc _ _ _ hx.out hk0]; exact val_int (by split <;> omega)⟩
      case measure => simp [intOf]; omega
    · have h2 : xs.length ≤ k := by omega
      clear hlt
      go_wp2
      go_ret
      exact ⟨ret_int (by rw [List.take_of_length_le (by omega)]), rfl⟩
set_option maxRecDepth 100000 in
theorem le_foldl_max (t : List Int) (a : Int) : a ≤ t.foldl max a ∧ ∀ x ∈ t, x ≤ t.foldl max a := by
  induction t generalizing a with
  | nil => simp
  | cons b t ih =>
    simp only [List.foldl_cons, List.mem_cons]
    have h1 := ih (max a b)
    refine ⟨by omega, fun x hx => ?_⟩
    rcases hx with rfl | hx
    · have := h1.1; omega
    · exact h1.2 x hx
set_option maxRecDepth 100000 in
theorem foldl_max_mem (t : List Int) (a : Int) : t.foldl max a = a ∨ t.foldl max a ∈ t := by
  induction t generalizing a with
  | nil => simp
  | cons b t ih =>
    simp only [List.foldl_cons, List.mem_cons]
    rcases ih (max a b) with h | h
    · rw [h]; omega
    · exact .inr (.inr h)
set_option maxRecDepth 100000 in
theorem maxL_ge {xs : List Int} {x : Int} (h : x ∈ xs) : x ≤ maxL xs := by
  cases xs with
  | nil => simp at h
  | cons a t =>
    rcases List.mem_cons.1 h with rfl | h
    · exact (le_foldl_max t _).1
    · exact (le_foldl_max t a).2 x h
set_option maxRecDepth 100000 in
theorem maxL_mem {xs : List Int} (h : 0 < xs.length) : maxL xs ∈ xs := by
  cases xs with
  | nil => simp at h
  | cons a t =>
    rcases foldl_max_mem t a with e | e
    · simp [maxL, e]
    · exact List.mem_cons_of_mem _ e
set_option maxRecDepth 100000 in
theorem maxL_pos {xs : List Int} (h : 0 < xs.length) (h0 : ∀ x ∈ xs, 0 ≤ x ∧ x ≤ 99) : decide (0 < maxL xs) = decide (0 < xs.sum) := by
  have : (0 < maxL xs) ↔ 0 < xs.sum := by
    constructor
    · intro hp
      have key : ∀ l : List Int, (∀ x ∈ l, 0 ≤ x ∧ x ≤ 99) → ∀ y ∈ l, y ≤ l.sum := by
        intro l
        induction l with
        | nil => simp
        | cons a t ih =>
          intro hl y hy
          have h1 := hl a (by simp)
          have h2 := sum_nonneg t (fun x hx => (hl x (by simp [hx])).1)
          simp only [List.sum_cons]
          rcases List.mem_cons.1 hy with rfl | hy
          · omega
          · have := ih (fun x hx => hl x (by simp [hx])) y hy
            omega
      have := key xs h0 _ (maxL_mem h)
      omega
    · intro hp
      rcases Int.lt_or_le 0 (maxL xs) with hh | hh
      · exact hh
      · exfalso
        have key : ∀ l : List Int, (∀ x ∈ l, x ≤ 0) → l.sum ≤ 0 := by
          intro l
          induction l with
          | nil => simp
          | cons a t ih =>
            intro hl
            have h1 := hl a (by simp)
            have h2 := ih (fun x hx => hl x (by simp [hx]))
            simp only [List.sum_cons]
            omega
        have := key xs (fun x hx => by have := maxL_ge hx; omega)
        omega
  simp [this]
set_option maxRecDepth 100000 in
theorem allB_f {xs : List Int} {low high : Int} {x : Int} (h : x ∈ xs) (hx : ¬(low ≤ x ∧ x ≤ high)) : allB xs low high = false := by
  cases hh : allB xs low high with
  | false => rfl
  | true => exact absurd (allB_iff.1 hh x h) hx
set_option maxRecDepth 100000 in
theorem vv_f {xs : List Int} {x : Int} (h : x ∈ xs) (hx : ¬(0 ≤ x ∧ x ≤ 99)) : vv xs = false := by simp [vv, allB_f h hx]
set_option maxRecDepth 100000 in
theorem bd_snoc {xs : List Int} {k : Nat} {x : Int} {P : Int → Prop} (hx : xs[k]? = some x) (h : ∀ y ∈ xs.take k, P y) (h1 : P x) : ∀ y ∈ xs.take (k + 1), P y := by
  rw [take_snoc xs k x hx]
  intro y hy
  rcases List.mem_append.1 hy with hy | hy
  · exact h y hy
  · simp at hy; subst hy; exact h1
set_option maxRecDepth 100000 in
set_option maxHeartbeats 400000 in
theorem lawEqI_any (A A' : Option Addr) (xs ys : List Int) (c c' : Nat) (w : World) (h : Ints w A xs) (h' : Ints w A' ys) (hl : xs.length ≤ 1048576) (_hl' : ys.length ≤ 1048576) :
    Calls Try.prog 16 #[.slice A xs.length c, .slice A' ys.length c'] w (Qt w (.bool (xs == ys))) := by
  by_cases hlen : xs.length = ys.length
  · have hne : (((xs.length : Int)) != (ys.length : Int)) = false := by simp [hlen]
    have HL := Lib.hid hlen
    clear hlen
    go_enter Try.func16, Try.ntmps16
    go_wp2
    go_loopw [5] (fun i wr => ∃ k n : Nat, k ≤ xs.length ∧ i = .int .i64 k ∧ Hid (xs.take k = ys.take k) ∧ wr = w.drewN n) (fun i _ => xs.length - (intOf i).toNat)
    case atStart => exact ⟨0, 0, by omega, rfl, rfl, rfl⟩
    case round =>
      obtain ⟨k, n, hk, rfl, heq, rfl⟩ := hrel
      by_cases hlt : k < xs.length
      · have hlt' : k < ys.length := by have := HL.out; omega
        obtain ⟨ad, x, rfl, hx, hc⟩ := h.at_ hlt
        obtain ⟨ad', y, rfl, hy, hc'⟩ := h'.at_ hlt'
        by_cases hxy : x = y
        · subst hxy
          have hb : (x != x) = false := by simp
          go_wp2
          go_quiet (fail)
          go_wp2
          go_roundw
          case rel => exact ⟨k + 1, _, by omega, by go_num, by show _ = _; rw [take_snoc _ _ _ hx.out, take_snoc _ _ _ hy.out, heq.out], rfl⟩
          case measure => simp [intOf]; omega
        · have hb : (x != y) = true := by simp [hxy]
          go_wp2
          go_quiet (fail)
          go_wp2
          go_ret
          refine ⟨ret_bool ?_, _, World.drewN_drewN _ _ _⟩
          simp
          intro e
          rw [e] at hx
          have := hx.out.symm.trans hy.out
          simp at this
          exact absurd this hxy
      · have h2 : xs.length ≤ k := by omega
        clear hlt
        go_wp2
        go_ret
        refine ⟨ret_bool ?_, _, rfl⟩
        have := heq.out
        rw [List.take_of_length_le (by omega), List.take_of_length_le (by have := HL.out; omega)] at this
        simp [this]
  · have hne : (((xs.length : Int)) != (ys.length : Int)) = true := by simp; omega
    go_enter Try.func16, Try.ntmps16
    go_wp2
    go_ret
    exact ⟨ret_bool (by simp; intro e; exact absurd (by rw [e]) hlen), 0, rfl⟩
set_option maxRecDepth 100000 in
set_option maxHeartbeats 400000 in
theorem lawSame_any (A A' : Option Addr) (xs ys : List Int) (c c' : Nat) (w : World) (h : Ints w A xs) (h' : Ints w A' ys) (hl : xs.length ≤ 1048576) (_hl' : ys.length ≤ 1048576) :
    Calls Try.prog 28 #[.slice A xs.length c, .slice A' ys.length c'] w (Qt w (.bool (xs == ys))) := by
  by_cases hlen : xs.length = ys.length
  · have hne : (((xs.length : Int)) != (ys.length : Int)) = false := by simp [hlen]
    have HL := Lib.hid hlen
    clear hlen
    go_enter Try.func28, Try.ntmps28
    go_wp2
    go_loopw [5] (fun i wr => ∃ k n : Nat, k ≤ xs.length ∧ i = .int .i64 k ∧ Hid (xs.take k = ys.take k) ∧ wr = w.drewN n) (fun i _ => xs.length - (intOf i).toNat)
    case atStart => exact ⟨0, 0, by omega, rfl, rfl, rfl⟩
    case round =>
      obtain ⟨k, n, hk, rfl, heq, rfl⟩ := hrel
      by_cases hlt : k < xs.length
      · have hlt' : k < ys.length := by have := HL.out; omega
        obtain ⟨ad, x, rfl, hx, hc⟩ := h.at_ hlt
        obtain ⟨ad', y, rfl, hy, hc'⟩ := h'.at_ hlt'
        by_cases hxy : x = y
        · subst hxy
          have hb : (x != x) = false := by simp
          go_wp2
          go_quiet (fail)
          go_wp2
          go_roundw
          case rel => exact ⟨k + 1, _, by omega, by go_num, by show _ = _; rw [take_snoc _ _ _ hx.out, take_snoc _ _ _ hy.out, heq.out], rfl⟩
          case measure => simp [intOf]; omega
        · have hb : (x != y) = true := by simp [hxy]
          go_wp2
          go_quiet (fail)
          go_wp2
          go_ret
          refine ⟨ret_bool ?_, _, World.drewN_drewN _ _ _⟩
          simp
          intro e
          rw [e] at hx
          have := hx.out.symm.trans hy.out
          simp at this
          exact absurd this hxy
      · have h2 : xs.length ≤ k := by omega
        clear hlt
        go_wp2
        go_ret
        refine ⟨ret_bool ?_, _, rfl⟩
        have := heq.out
        rw [List.take_of_length_le (by omega), List.take_of_length_le (by have := HL.out; omega)] at this
        simp [this]
  · have hne : (((xs.length : Int)) != (ys.length : Int)) = true := by simp; omega
    go_enter Try.func28, Try.ntmps28
    go_wp2
    go_ret
    exact ⟨ret_bool (by simp; intro e; exact absurd (by rw [e]) hlen), 0, rfl⟩
end Go.Proofs.Ytiinfbjlkbjmmaa
/-
  Seats: which votes and seats are valid; quotas.
-/
namespace Go.Proofs.Ytiinfbjlkbjmmaa
open Go.RowKit
set_option maxRecDepth 100000 in
theorem gv_f {gs : List Int} {n x : Int} (h : x ∈ gs) (hx : ¬(0 ≤ x ∧ x ≤ 20)) : gv gs n = false := by simp [gv, allB_f h hx]
/-- A share, rounded down and up; -1 twice if an argument is invalid. -/
def quotaF (xs : List Int) (s p : Int) : Int × Int :=
  if vv xs = true ∧ (0 ≤ s ∧ s ≤ 20) ∧ (0 ≤ p ∧ p < xs.length) then (xs.getD p.toNat 0 * s / xs.sum, (xs.getD p.toNat 0 * s + xs.sum - 1) / xs.sum) else (-1, -1)
set_option maxRecDepth 100000 in
theorem quotaF_t {xs : List Int} {s p x : Int} (hv : vv xs = true) (hs : 0 ≤ s ∧ s ≤ 20) (hp : 0 ≤ p ∧ p < xs.length) (hx : xs[p.toNat]? = some x) : quotaF xs s p = (x * s / xs.sum, (x * s + xs.sum - 1) / xs.sum) := by
  rw [quotaF, if_pos ⟨hv, hs, hp⟩]; simp [hx]
set_option maxRecDepth 100000 in
theorem quotaF_f {xs : List Int} {s p : Int} (h : ¬(vv xs = true ∧ (0 ≤ s ∧ s ≤ 20) ∧ (0 ≤ p ∧ p < xs.length))) : quotaF xs s p = (-1, -1) := by
  rw [quotaF, if_neg h]
set_option maxRecDepth 100000 in
theorem mul_bd {a b M N : Int} (ha : 0 ≤ a ∧ a ≤ M) (hb : 0 ≤ b ∧ b ≤ N) : 0 ≤ a * b ∧ a * b ≤ M * N :=
  ⟨Int.mul_nonneg ha.1 hb.1, Int.mul_le_mul ha.2 hb.2 hb.1 (by omega)⟩
end Go.Proofs.Ytiinfbjlkbjmmaa
