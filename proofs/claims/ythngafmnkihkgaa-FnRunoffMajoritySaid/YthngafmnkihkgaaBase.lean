/-
  Words and small lemmas for the walks over this seat: slices of ints that read as a list, slices that the call owns, worlds that differ by draws.
-/
import Derived.Test.YthngafmnkihkgaaRows
import Derived.WalkKit
import Derived.WalkSpells
import Derived.WalkLawsBesides
import Derived.Handy
import Derived.Lib.Hide
import Derived.Deep.QuietTactic
import Derived.BigQuiet
import Derived.Deep.LoopGhost
import Derived.Deep.RegionHeld3
import Derived.Deep.DeepCutAuto
import Derived.Deep.AppendLies
import Derived.Maps.AppendAt
import Derived.KernelRfl
import Derived.Outline
namespace Go.Proofs.Ythngafmnkihkgaa
open Go.RowKit

theorem ret_int {k : IntKind} {a b : Int} (h : a = b) : Ending.returned (.int k a) = .returned (.int k b) := by rw [h]
theorem ret_bool {a b : Bool} (h : a = b) : Ending.returned (.bool a) = .returned (.bool b) := by rw [h]
theorem val_int {k : IntKind} {a b : Int} (h : a = b) : Value.int k a = .int k b := by rw [h]

/-- The slice of ints at A reads as xs. -/
def Ints (w : World) (A : Option Addr) (xs : List Int) : Prop :=
  0 < xs.length → ∃ ad, A = some ad ∧ ∀ j x, xs[j]? = some x → w.cell? (ad.add j) = some (.int .i64 x)

section
variable {w w' : World} {A : Option Addr} {xs : List Int}
theorem Ints.at_ (h : Ints w A xs) {k : Nat} (hk : k < xs.length) :
    ∃ ad x, A = some ad ∧ Hid (xs[k]? = some x) ∧ w.cell? (ad.add k) = some (.int .i64 x) := by
  obtain ⟨ad, e, hc⟩ := h (by omega)
  exact ⟨ad, xs[k], e, List.getElem?_eq_getElem hk, hc k _ (List.getElem?_eq_getElem hk)⟩
theorem block_add (a : Addr) (n : Nat) : (a.add n).block = a.block := by unfold Addr.add; split <;> rfl
theorem add_row (g j : Nat) : (⟨g, 0, none⟩ : Addr).add j = ⟨g, j, none⟩ := by unfold Addr.add; split <;> simp_all
theorem Ints.keep (h : Ints w A xs) (hk : ∀ ad, A = some ad → 0 < xs.length → ad.block < w.heap.size → w'.heap[ad.block]? = w.heap[ad.block]?) : Ints w' A xs := by
  intro hn
  obtain ⟨ad, e, hc⟩ := h hn
  refine ⟨ad, e, fun j x hx => ?_⟩
  have h1 := hc j x hx
  have hlt := World.block_lt_of_cell? w _ h1
  rw [block_add] at hlt
  rw [← h1]
  exact World.cell?_of_block (w := w) (by rw [block_add]; exact hk ad e hn hlt)
theorem Ints.below (h : Ints w A xs) (hb : Below w.heap.size w w') : Ints w' A xs := h.keep fun _ _ _ hlt => hb.block _ hlt
theorem Ints.lt (h : Ints w A xs) {ad : Addr} (e : A = some ad) (hn : 0 < xs.length) : ad.block < w.heap.size := by
  obtain ⟨ad', e', hc⟩ := h hn
  obtain rfl : ad = ad' := by rw [e] at e'; injection e'
  have := World.block_lt_of_cell? w _ (hc 0 _ (List.getElem?_eq_getElem hn))
  rwa [block_add] at this
theorem Ints.drewN (h : Ints w A xs) (n : Nat) : Ints (w.drewN n) A xs := h
theorem Ints.drew (h : Ints w A xs) : Ints w.drew A xs := h
theorem Ints.alloc (h : Ints w A xs) (o : Obj) : Ints (w.alloc o) A xs := h.keep fun _ _ _ hlt => Below.heap_alloc w o _ hlt
theorem Ints.nil (w : World) (A : Option Addr) : Ints w A [] := fun h => absurd h (by simp)
theorem Ints.take (h : Ints w A xs) (k : Nat) : Ints w A (xs.take k) := by
  intro hn
  obtain ⟨ad, e, hc⟩ := h (by simp at hn; omega)
  refine ⟨ad, e, fun j x hx => hc j x ?_⟩
  rw [List.getElem?_take] at hx
  split at hx
  · exact hx
  · cases hx
end

/-- It returns v, and the world is as it was. -/
def Ret (w : World) (v : Value) (e : Ending) (w' : World) : Prop := e = .returned v ∧ w = w'
/-- It returns v, and the world is as it was but for draws. -/
def Qt (w : World) (v : Value) (e : Ending) (w' : World) : Prop := e = .returned v ∧ ∃ n, w' = w.drewN n
theorem Ret.qt {P : Program} {f : FuncId} {args : Array Value} {w : World} {v : Value} (h : Calls P f args w (Ret w v)) : Calls P f args w (Qt w v) :=
  h.mono fun _ _ ⟨he, hw⟩ => ⟨he, 0, hw ▸ rfl⟩
/-- In a region that draws: a callee that leaves the world alone. -/
theorem Ret.quiet {P : Program} {f : FuncId} {args : Array Value} {w : World} {n : Nat} {v : Value} (h : Calls P f args (w.drewN n) (Ret (w.drewN n) v)) :
    Calls P f args (w.drewN n) fun e w'' => e = .returned v ∧ ∃ m, w'' = w.drewN m := h.mono fun _ _ ⟨he, hw⟩ => ⟨he, n, hw ▸ rfl⟩
theorem Qt.quiet {P : Program} {f : FuncId} {args : Array Value} {w : World} {n : Nat} {v : Value} (h : Calls P f args (w.drewN n) (Qt (w.drewN n) v)) :
    Calls P f args (w.drewN n) fun e w'' => e = .returned v ∧ ∃ m, w'' = w.drewN m := h.mono fun _ _ ⟨he, m, hw⟩ => ⟨he, n + m, by rw [hw, World.drewN_drewN]⟩

theorem below_drewN {B : Nat} {a w : World} (h : Below B a w) (n : Nat) : Below B a (w.drewN n) := ⟨h.os, h.tape, h.output, h.size, h.block⟩
theorem take_snoc {α : Type} (xs : List α) (k : Nat) (x : α) (h : xs[k]? = some x) : xs.take (k + 1) = xs.take k ++ [x] := by
  obtain ⟨hk, rfl⟩ := List.getElem?_eq_some_iff.1 h
  exact List.take_succ_eq_append_getElem hk
theorem sum_append (xs ys : List Int) : (xs ++ ys).sum = xs.sum + ys.sum := by
  induction xs with
  | nil => simp
  | cons a t ih => simp only [List.cons_append, List.sum_cons, ih]; omega
theorem sum_snoc (xs : List Int) (k : Nat) (x : Int) (h : xs[k]? = some x) : (xs.take (k + 1)).sum = (xs.take k).sum + x := by
  rw [take_snoc xs k x h, sum_append]; simp
theorem mem_of_at {xs : List Int} {k : Nat} {x : Int} (h : xs[k]? = some x) : x ∈ xs := List.mem_of_getElem? h
theorem sum_bd (xs : List Int) (M : Int) (hb : ∀ x ∈ xs, -M ≤ x ∧ x ≤ M) : -(M * xs.length) ≤ xs.sum ∧ xs.sum ≤ M * xs.length := by
  induction xs with
  | nil => simp
  | cons a t ih =>
    have h1 := hb a (by simp)
    have h2 := ih (fun x hx => hb x (by simp [hx]))
    simp only [List.sum_cons, List.length_cons]
    have : M * ((t.length + 1 : Nat) : Int) = M * t.length + M := by push_cast; rw [Int.mul_add, Int.mul_one]
    omega
theorem sum_nonneg (xs : List Int) (hb : ∀ x ∈ xs, 0 ≤ x) : 0 ≤ xs.sum := by
  induction xs with
  | nil => simp
  | cons a t ih =>
    have h1 := hb a (by simp)
    have h2 := ih (fun x hx => hb x (by simp [hx]))
    simp only [List.sum_cons]; omega
theorem mem_take {xs : List Int} {k : Nat} {x : Int} (h : x ∈ xs.take k) : x ∈ xs := List.mem_of_mem_take h

/-- The slice is one of ints that the call owns, in a block from base on. -/
def OwnI (w : World) (base : Nat) (A : Option Addr) (c : Nat) (xs : List Int) : Prop := w.ownsRow base 3 1 (.slice A xs.length c) xs.length (xs.map (Value.int .i64))
theorem infoInt : (Try.prog.info? 3).map (fun i => (i.zero, i.size, i.bytes)) = some (some (.int .i64 0), 1, 8) := by kernel_rfl

section
variable {w w' : World} {base : Nat} {A : Option Addr} {c : Nat} {xs : List Int}
theorem OwnI.ints (h : OwnI w base A c xs) : Ints w A xs := by
  intro hn
  rcases h.2 with ⟨hv, h0⟩ | ⟨g, cap, cur, hv, _⟩
  · omega
  · injection hv with hA
    subst hA
    refine ⟨_, rfl, fun j x hx => ?_⟩
    exact World.ownsRow.cells h (g := g) rfl j _ (by simp [hx])
theorem OwnI.alloc (h : OwnI w base A c xs) (o : Obj) : OwnI (w.alloc o) base A c xs := World.ownsRow.alloc h o
theorem OwnI.drewN (h : OwnI w base A c xs) (n : Nat) : OwnI (w.drewN n) base A c xs := h
theorem OwnI.below (h : OwnI w base A c xs) (hb : Below w.heap.size w w') : OwnI w' base A c xs :=
  World.ownsRow.kept h (row := none) ⟨hb.os, hb.tape, hb.output, hb.size, fun k hk _ => hb.block k hk⟩ (by cases hv : (Value.slice A xs.length c).ownBlock <;> simp)
theorem OwnI.mono (h : OwnI w base A c xs) {b : Nat} (hb : b ≤ base) : OwnI w b A c xs := by
  refine ⟨h.1, ?_⟩
  rcases h.2 with h2 | ⟨g, cap, cur, hv, hg, r⟩
  · exact .inl h2
  · exact .inr ⟨g, cap, cur, hv, by omega, r⟩
theorem OwnI.grown {row : Option Nat} (h : OwnI w base A c xs) (hg : w.grownBy w' row) (hr : ∀ k, row = some k → (Value.slice A xs.length c).ownBlock ≠ some k) : OwnI w' base A c xs :=
  World.ownsRow.kept h hg (by
    cases hv : (Value.slice A xs.length c).ownBlock with
    | none => exact .inl rfl
    | some b =>
      refine .inr (fun e => ?_)
      exact hr b e.symm hv)
/-- Where an owned slice lies. -/
theorem OwnI.form (h : OwnI w base A c xs) (hn : 0 < xs.length) : ∃ g, A = some ⟨g, 0, none⟩ ∧ base ≤ g ∧ g < w.heap.size := by
  rcases h.2 with ⟨hv, h0⟩ | ⟨g, cap, cur, hv, hb, hg, _⟩
  · omega
  · injection hv with hA
    exact ⟨g, hA, hb, (Array.getElem?_eq_some_iff.1 hg).1⟩
theorem OwnI.block (h : OwnI w base A c xs) : ∀ k, (Value.slice A xs.length c).ownBlock = some k → base ≤ k ∧ k < w.heap.size := World.ownsRow.lt h
theorem OwnI.cell {g : Nat} (h : OwnI w base (some ⟨g, 0, none⟩) c xs) {k : Nat} {x : Int} (hx : xs[k]? = some x) : w.cell? ⟨g, k, none⟩ = some (.int .i64 x) := by
  have hk := (List.getElem?_eq_some_iff.1 hx).1
  rw [World.ownsRow.cellAt h k (by omega)]; simp [hx]
theorem OwnI.frozen {g : Nat} (h : OwnI w base (some ⟨g, 0, none⟩) c xs) (k : Nat) : w.frozen? ⟨g, k, none⟩ = false := World.ownsRow.frozenAt h k
theorem OwnI.set {g : Nat} (h : OwnI w base (some ⟨g, 0, none⟩) c xs) (k : Nat) (x : Int) : OwnI (w.setCell ⟨g, k, none⟩ (.int .i64 x)) base (some ⟨g, 0, none⟩) c (xs.set k x) := by
  have := (World.ownsRow.stored h k (.int .i64 x)).1
  unfold OwnI
  rw [List.length_set, List.map_set]
  exact this
theorem OwnI.len (h : OwnI w base A c xs) : xs.length ≤ maxLen := by
  rcases h.2 with ⟨hv, h0⟩ | ⟨g, cap, cur, hv, hb, hg, h1, h2, _⟩ <;> omega
theorem OwnI.congr {ys : List Int} (h : OwnI w base A c xs) (e : xs = ys) : OwnI w base A c ys := e ▸ h
theorem OwnI.nil (w : World) (base : Nat) : OwnI w base none 0 [] := World.ownsRow_nil w base _ _
end
/-- It returns a new slice that reads as xs; nothing that was there has turned. -/
def NewI (w : World) (xs : List Int) (e : Ending) (w' : World) : Prop := ∃ A c, e = .returned (.slice A xs.length c) ∧ OwnI w' w.heap.size A c xs ∧ Below w.heap.size w w'
/-- The first k of xs, then noughts. -/
def fill (xs : List Int) (k : Nat) : List Int := xs.take k ++ List.replicate (xs.length - k) 0
theorem fill_zero (xs : List Int) : fill xs 0 = List.replicate xs.length 0 := by simp [fill]
theorem fill_all (xs : List Int) : fill xs xs.length = xs := by simp [fill]
theorem fill_length (xs : List Int) {k : Nat} (hk : k ≤ xs.length) : (fill xs k).length = xs.length := by simp [fill]; omega
theorem fill_at (xs : List Int) {k : Nat} (hk : k < xs.length) : (fill xs k)[k]? = some 0 := by
  unfold fill
  rw [List.getElem?_append_right (by simp; omega), List.length_take, Nat.min_eq_left (by omega), Nat.sub_self]
  rw [List.getElem?_replicate, if_pos (by omega)]
theorem fill_set (xs : List Int) {k : Nat} {x : Int} (hx : xs[k]? = some x) : (fill xs k).set k x = fill xs (k + 1) := by
  have hk := (List.getElem?_eq_some_iff.1 hx).1
  unfold fill
  rw [List.set_append_right _ _ (by simp; omega), List.length_take, Nat.min_eq_left (by omega), Nat.sub_self, take_snoc xs k x hx]
  obtain ⟨m, hm⟩ : ∃ m, xs.length - k = m + 1 := ⟨xs.length - k - 1, by omega⟩
  rw [hm, show xs.length - (k + 1) = m from by omega, List.replicate_succ]
  simp

theorem fill_skip (xs : List Int) {k : Nat} (hx : xs[k]? = some 0) : fill xs (k + 1) = fill xs k := by
  rw [← fill_set xs hx]
  have hk := (List.getElem?_eq_some_iff.1 hx).1
  have := fill_at xs hk
  obtain ⟨h1, h2⟩ := List.getElem?_eq_some_iff.1 this
  rw [← h2]
  exact List.set_getElem_self h1
/-- 'make([]int, n)'. -/
theorem wpList_makeI (w : World) {ops : Array Oper} {rest : List Oper} {o : Oper} {a : Act} {Q : Exit → Act → World → Prop}
    (hg : o.guard = none) (l c : Operand) (hop : o.op = Op.makeSlice 26 l c) (n : Nat) (hl : a.eval l = .int .i64 n) (hc : a.eval c = .int .i64 n) (hn : n ≤ 1099511627776)
    (hK : ∀ w', OwnI w' w.heap.size (some ⟨w.heap.size, 0, none⟩) n (List.replicate n 0) → Below w.heap.size w w' → w.heap.size < w'.heap.size → wpList Try.prog ops Q rest (a.put o.dst (.slice (some ⟨w.heap.size, 0, none⟩) n n)) w') :
    wpList Try.prog ops Q (o :: rest) a w := by
  obtain ⟨i0, hi, hz0, hz1, hz2⟩ := info_parts infoInt
  refine wpList_make_full w hg l c 26 hop w.heap.size 3 i0 _ 1 Try.underlying26 hi hz0 hz1 .i64 .i64 n n n hl hc rfl rfl (by rw [hz2]; omega) (by simp only [maxLen]; omega) (Nat.le_refl _) ?_
  intro w' hown hgr
  have hown' : OwnI w' w.heap.size (some ⟨w.heap.size, 0, none⟩) n (List.replicate n 0) := by
    unfold OwnI
    rw [List.length_replicate]
    have e : (madeCells (Value.int .i64 0).cells (n * 1)).toList = (List.replicate n (0 : Int)).map (Value.int .i64) := by
      simp only [madeCells, Value.cells, Nat.mul_one, List.map_replicate]
      simp [Nat.mod_one]
      rw [List.map_const']; simp
    rw [e] at hown
    exact hown
  refine hK w' hown' ⟨hgr.os, hgr.tape, hgr.output, hgr.size, fun k hk => hgr.block k hk (by simp)⟩ ?_
  rcases hown.2 with ⟨hv, _⟩ | ⟨g, cap, cur, hv, hb, hgg, _⟩
  · cases hv
  · injection hv with hA
    injection hA with hA
    injection hA with hA
    subst hA
    exact (Array.getElem?_eq_some_iff.1 hgg).1
/-- An owned slice whose length is written apart. -/
def OwnN (w : World) (base : Nat) (A : Option Addr) (n c : Nat) (xs : List Int) : Prop := xs.length = n ∧ OwnI w base A c xs
theorem OwnN.row {w : World} {base : Nat} {A : Option Addr} {n c : Nat} {xs : List Int} (h : OwnN w base A n c xs) : w.ownsRow base 3 1 (.slice A n c) n (xs.map (Value.int .i64)) := by
  obtain ⟨rfl, h⟩ := h
  exact h
theorem ownN_of_row {w : World} {base : Nat} {A : Option Addr} {n c : Nat} {xs : List Int} (h : w.ownsRow base 3 1 (.slice A n c) n (xs.map (Value.int .i64))) : OwnN w base A n c xs := by
  have hn : xs.length = n := by simpa using h.1
  subst hn
  exact ⟨rfl, h⟩
theorem row_form {w : World} {base : Nat} {e : TypeId} {size : Nat} {v : Value} {n : Nat} {xs : List Value} (h : w.ownsRow base e size v n xs) : ∃ A c, v = .slice A n c := by
  rcases h.2 with ⟨rfl, rfl⟩ | ⟨g, cap, cur, rfl, _⟩
  · exact ⟨_, _, rfl⟩
  · exact ⟨_, _, rfl⟩
/-- 'append(out, x)', out a slice of ints that the call owns. -/
theorem wpList_append1 (w : World) {ops : Array Oper} {rest : List Oper} {o : Oper} {a : Act} {Q : Exit → Act → World → Prop}
    (hg : o.guard = none) (s x : Operand) (ho : o.op = .call { callee := .builtin .append, args := #[s, x], argTypes := #[26, 26] })
    (base : Nat) (A : Option Addr) (n c : Nat) (xs : List Int) (hs : a.eval s = .slice A n c) (hown : OwnN w base A n c xs) (hbase : base ≤ w.heap.size) (hn : n ≤ 1099511627776)
    (ad : Addr) (y : Int) (cc : Nat) (hx : a.eval x = .slice (some ad) 1 cc) (hc : w.cell? ad = some (.int .i64 y))
    (hK : ∀ A' c' w', OwnN w' base A' (n + 1) c' (xs ++ [y]) → w.grownBy w' (Value.slice A n c).ownBlock → wpList Try.prog ops Q rest (a.put o.dst (.slice A' (n + 1) c')) w') :
    wpList Try.prog ops Q (o :: rest) a w := by
  obtain ⟨i0, hi, hz0, hz1, hz2⟩ := info_parts infoInt
  refine wpList_append_own w hg s x 26 ho base 3 i0 (.int .i64 0) 1 8 Try.underlying26 hi hz0 hz1 hz2 rfl (by omega) _ _ _ hs hown.row ad 1 cc [.int .i64 y] hx rfl ?_ ?_ (by simp only [maxLen]; omega) (by omega) hbase ?_
  · intro j u hj
    match j, hj with
    | 0, hj =>
      simp at hj
      subst hj
      rw [show ad.add 0 = ad from by unfold Addr.add; simp]
      exact hc
  · intro u hu
    simp at hu
    subst hu
    rfl
  · intro v' w' h1 h2 _
    obtain ⟨A', c', rfl⟩ := row_form h1
    exact hK A' c' w' (ownN_of_row (by simpa using h1)) h2
/-- It returns a new slice that reads as xs, and b; nothing that was there has turned. -/
def NewIB (w : World) (r : List Int × Bool) (e : Ending) (w' : World) : Prop :=
  ∃ A c, e = .returned (.tuple #[.slice A r.1.length c, .bool r.2]) ∧ OwnI w' w.heap.size A c r.1 ∧ Below w.heap.size w w'
/-- An empty slice that is not nil. -/
theorem own_empty (w : World) {base : Nat} (hb : base ≤ w.heap.size) : OwnI (w.alloc (.cells #[] 3)) base (some ⟨w.heap.size, 0, none⟩) 0 [] :=
  World.ownsRow_made w #[] 0 hb (by simp [maxLen]) (by simp)
theorem OwnI.grownRow {w w' : World} {base : Nat} {A : Option Addr} {c : Nat} {xs : List Int} {row : Option Nat} (h : OwnI w base A c xs) (hg : w.grownBy w' row) (hr : ∀ k, row = some k → k < base ∨ w.heap.size ≤ k) : OwnI w' base A c xs :=
  h.grown hg (fun k hk e => by
    have := h.block k e
    have := hr k hk
    omega)
/-- Ints that do not lie in the row that was written. -/
theorem Ints.grown {w w' : World} {A : Option Addr} {xs : List Int} {row : Option Nat} (h : Ints w A xs) (hg : w.grownBy w' row) (hr : ∀ ad, A = some ad → 0 < xs.length → some ad.block ≠ row) : Ints w' A xs :=
  h.keep fun ad e hn hlt => hg.block _ hlt (hr ad e hn)
theorem below_of_grown {w w' : World} {row : Option Nat} {B : Nat} (hg : w.grownBy w' row) (hB : B ≤ w.heap.size) (hr : ∀ k, row = some k → B ≤ k) : Below B w w' := (Below.refl B w).grown hg hB hr
theorem grown_drewN {a w : World} {row : Option Nat} (h : a.grownBy w row) (n : Nat) : a.grownBy (w.drewN n) row := ⟨h.os, h.tape, h.output, h.size, h.block⟩
theorem grown_refl (w : World) (row : Option Nat) : w.grownBy w row := ⟨rfl, rfl, rfl, Nat.le_refl _, fun _ _ _ => rfl⟩
theorem grown_trans {a b c : World} {row : Option Nat} (h : a.grownBy b row) (k : b.grownBy c row) : a.grownBy c row :=
  ⟨k.os.trans h.os, k.tape.trans h.tape, k.output.trans h.output, Nat.le_trans h.size k.size, fun i hi hn => (k.block i (Nat.lt_of_lt_of_le hi h.size) hn).trans (h.block i hi hn)⟩
theorem grown_of_below {a b : World} (h : Below a.heap.size a b) (row : Option Nat) : a.grownBy b row := ⟨h.os, h.tape, h.output, h.size, fun k hk _ => h.block k hk⟩
theorem grown_setCell {a b : World} {g : Nat} (h : a.grownBy b (some g)) (j : Nat) (u : Value) : a.grownBy (b.setCell ⟨g, j, none⟩ u) (some g) :=
  ⟨h.os, h.tape, h.output, by simpa [World.setCell] using h.size, fun i hi hne => (Below.heap_setCell b ⟨g, j, none⟩ u i (by rintro rfl; exact hne rfl)).trans (h.block i hi hne)⟩
end Go.Proofs.Ythngafmnkihkgaa
