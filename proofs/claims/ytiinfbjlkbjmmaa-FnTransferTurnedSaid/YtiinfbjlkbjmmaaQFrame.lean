/-
  Worlds that differ in the blocks between two numbers; what the laws over the program and the reference hand on.
-/
import Derived.Test.YtiinfbjlkbjmmaaQBase
import Derived.StillTailTactics
namespace Go.Proofs.Ytiinfbjlkbjmmaa
open Go.RowKit
/-- It returns v; nothing that was there has turned. -/
def Bl (w : World) (v : Value) (e : Ending) (w' : World) : Prop := e = .returned v ∧ Below w.heap.size w w'
set_option maxRecDepth 100000 in
theorem Qt.bl {P : Program} {f : FuncId} {args : Array Value} {w : World} {v : Value} (h : Calls P f args w (Qt w v)) : Calls P f args w (Bl w v) :=
  h.mono fun _ _ ⟨he, n, hw⟩ => ⟨he, hw ▸ below_drewN (Below.refl _ _) n⟩
set_option maxRecDepth 100000 in
theorem Ret.bl {P : Program} {f : FuncId} {args : Array Value} {w : World} {v : Value} (h : Calls P f args w (Ret w v)) : Calls P f args w (Bl w v) := Qt.bl (Ret.qt h)
/-- Of the old blocks none but those from lo to hi have turned. -/
structure Btw (lo hi : Nat) (w w' : World) : Prop where
  os : w'.os = w.os
  tape : w'.tape = w.tape
  output : w'.output = w.output
  size : w.heap.size ≤ w'.heap.size
  block : ∀ k, k < w.heap.size → k < lo ∨ hi ≤ k → w'.heap[k]? = w.heap[k]?
set_option maxRecDepth 100000 in
theorem Btw.refl (lo hi : Nat) (w : World) : Btw lo hi w w := ⟨rfl, rfl, rfl, Nat.le_refl _, fun _ _ _ => rfl⟩
set_option maxRecDepth 100000 in
theorem Btw.trans {lo hi : Nat} {a b c : World} (h : Btw lo hi a b) (k : Btw lo hi b c) : Btw lo hi a c :=
  ⟨k.os.trans h.os, k.tape.trans h.tape, k.output.trans h.output, Nat.le_trans h.size k.size, fun i hi hn => (k.block i (Nat.lt_of_lt_of_le hi h.size) hn).trans (h.block i hi hn)⟩
set_option maxRecDepth 100000 in
theorem Btw.of_grown {lo hi : Nat} {w w' : World} {row : Option Nat} (hg : w.grownBy w' row) (h : ∀ k, row = some k → lo ≤ k ∧ k < hi) : Btw lo hi w w' :=
  ⟨hg.os, hg.tape, hg.output, hg.size, fun k hk hn => hg.block k hk (fun e => by have := h k e.symm; omega)⟩
set_option maxRecDepth 100000 in
theorem Btw.of_below {lo hi : Nat} {w w' : World} (h : Below w.heap.size w w') : Btw lo hi w w' := ⟨h.os, h.tape, h.output, h.size, fun k hk _ => h.block k hk⟩
set_option maxRecDepth 100000 in
theorem OwnI.btw {lo hi : Nat} {w w' : World} {base : Nat} {A : Option Addr} {c : Nat} {xs : List Int} (h : OwnI w base A c xs) (hg : Btw lo hi w w') (hr : ∀ k, (Value.slice A xs.length c).ownBlock = some k → k < lo ∨ hi ≤ k) : OwnI w' base A c xs := by
  refine ⟨h.1, ?_⟩
  rcases h.2 with h2 | ⟨g, cap, cur, hv, hb, hgg, r⟩
  · exact .inl h2
  · refine .inr ⟨g, cap, cur, hv, hb, ?_, r⟩
    rw [hg.block g (Array.getElem?_eq_some_iff.1 hgg).1 (hr g (by rw [hv]; rfl))]
    exact hgg
set_option maxRecDepth 100000 in
theorem Ints.btw {lo hi : Nat} {w w' : World} {A : Option Addr} {xs : List Int} (h : Ints w A xs) (hg : Btw lo hi w w') (hr : ∀ ad, A = some ad → 0 < xs.length → ad.block < lo ∨ hi ≤ ad.block) : Ints w' A xs :=
  h.keep fun ad e hn hlt => hg.block _ hlt (hr ad e hn)
set_option maxRecDepth 100000 in
theorem below_btw {lo hi B : Nat} {a w w' : World} (h : Below B a w) (hg : Btw lo hi w w') (hB : B ≤ lo) (hw : B ≤ w.heap.size) : Below B a w' :=
  h.trans ⟨hg.os, hg.tape, hg.output, hg.size, fun k hk => hg.block k (by omega) (.inl (by omega))⟩
set_option maxRecDepth 100000 in
theorem Ret.still {P : Program} {f : FuncId} {args : Array Value} {w : World} {v : Value} (h : Calls P f args w (Ret w v)) : Calls P f args w (fun e w' => e = .returned v ∧ w' = w) :=
  h.mono fun _ _ ⟨he, hw⟩ => ⟨he, hw.symm⟩
set_option maxRecDepth 100000 in
theorem newI_of {w w' : World} {ys : List Int} {A : Option Addr} {n c : Nat} (hn : ys.length = n) (ho : OwnI w' w.heap.size A c ys) (hb : Below w.heap.size w w') : NewI w ys (.returned (.slice A n c)) w' := by
  subst hn
  exact ⟨A, c, rfl, ho, hb⟩
set_option maxRecDepth 100000 in
theorem cell_alloc {w : World} {p : Addr} {u : Value} (h : w.cell? p = some u) (o : Obj) : (w.alloc o).cell? p = some u :=
  (World.cell?_alloc_lt w o p (World.block_lt_of_cell? w _ h)).trans h
set_option maxRecDepth 100000 in
theorem cell_drew {w : World} {p : Addr} {u : Value} (h : w.cell? p = some u) : w.drew.cell? p = some u := h
set_option maxRecDepth 100000 in
theorem OwnN.alloc {w : World} {base : Nat} {A : Option Addr} {n c : Nat} {xs : List Int} (h : OwnN w base A n c xs) (o : Obj) : OwnN (w.alloc o) base A n c xs := ⟨h.1, h.2.alloc o⟩
set_option maxRecDepth 100000 in
theorem OwnN.drew {w : World} {base : Nat} {A : Option Addr} {n c : Nat} {xs : List Int} (h : OwnN w base A n c xs) : OwnN w.drew base A n c xs := h
set_option maxRecDepth 100000 in
theorem below_alloc {w0 w : World} (h : Below w0.heap.size w0 w) (o : Obj) : Below w0.heap.size w0 (w.alloc o) := h.alloc h.size o
set_option maxRecDepth 100000 in
theorem Ints.cell_of {w : World} {ad : Addr} {xs : List Int} (h : Ints w (some ad) xs) {k : Nat} {x : Int} (hx : xs[k]? = some x) : w.cell? (ad.add k) = some (.int .i64 x) := by
  obtain ⟨hk, _⟩ := List.getElem?_eq_some_iff.1 hx
  obtain ⟨ad', e, hc⟩ := h (by omega)
  injection e with e
  subst e
  exact hc k x hx
set_option maxRecDepth 100000 in
theorem below_sz {w w' : World} (h : Below w.heap.size w w') : w.heap.size ≤ w'.heap.size := h.size
set_option maxRecDepth 100000 in
theorem new_cell (w : World) (v : Value) : (w.alloc (.cells #[v] 3)).cell? ⟨w.heap.size, 0, none⟩ = some v := cell_of_row _ w.heap.size 0 #[v] 3 (0, 0) (heap_alloc_new w _)
set_option maxRecDepth 100000 in
/-- A region that reads and calls quietly, and ends in a tail of forced order. -/
theorem wp_still_tail {P : Program} {id : Nat} {Q : Exit → Act → World → Prop} {a : Act} {w : World} {l : List Oper} (n : Nat) (hm : P.follows .mixedOrders = true) (hB : Region.lexTailB .any l.toArray n = true)
    (h : wpStill P l.toArray w.drew (fun a' => wpList P l.toArray Q (l.drop n) a' w.drew) (l.take n) a) : (Code.region id l.toArray true).wp P Q a w := wp_region_still_tail n hm hB h
set_option maxRecDepth 100000 in
theorem Ret.quiet_add {P : Program} {f : FuncId} {args : Array Value} {w : World} {a n : Nat} {v : Value} (h : Calls P f args (w.drewN (a + n)) (Ret (w.drewN (a + n)) v)) :
    Calls P f args (w.drewN (a + n)) fun e w'' => e = .returned v ∧ ∃ m, w'' = w.drewN (a + m) := h.mono fun _ _ ⟨he, hw⟩ => ⟨he, n, hw ▸ rfl⟩
set_option maxRecDepth 100000 in
theorem Qt.quiet_add {P : Program} {f : FuncId} {args : Array Value} {w : World} {a n : Nat} {v : Value} (h : Calls P f args (w.drewN (a + n)) (Qt (w.drewN (a + n)) v)) :
    Calls P f args (w.drewN (a + n)) fun e w'' => e = .returned v ∧ ∃ m, w'' = w.drewN (a + m) := h.mono fun _ _ ⟨he, m, hw⟩ => ⟨he, n + m, by rw [hw, World.drewN_drewN, Nat.add_assoc]⟩
end Go.Proofs.Ytiinfbjlkbjmmaa
