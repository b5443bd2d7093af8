/-
  Worlds that differ in the blocks between two numbers; what the laws over the program and the reference hand on.
-/
import Derived.Test.YthhjddeimbfmfaaBase
namespace Go.Proofs.Ythhjddeimbfmfaa
open Go.RowKit
/-- It returns v; nothing that was there has turned. -/
def Bl (w : World) (v : Value) (e : Ending) (w' : World) : Prop := e = .returned v ∧ Below w.heap.size w w'
theorem Qt.bl {P : Program} {f : FuncId} {args : Array Value} {w : World} {v : Value} (h : Calls P f args w (Qt w v)) : Calls P f args w (Bl w v) :=
  h.mono fun _ _ ⟨he, n, hw⟩ => ⟨he, hw ▸ below_drewN (Below.refl _ _) n⟩
theorem Ret.bl {P : Program} {f : FuncId} {args : Array Value} {w : World} {v : Value} (h : Calls P f args w (Ret w v)) : Calls P f args w (Bl w v) := Qt.bl (Ret.qt h)
/-- Of the old blocks none but those from lo to hi have turned. -/
structure Btw (lo hi : Nat) (w w' : World) : Prop where
  os : w'.os = w.os
  tape : w'.tape = w.tape
  output : w'.output = w.output
  size : w.heap.size ≤ w'.heap.size
  block : ∀ k, k < w.heap.size → k < lo ∨ hi ≤ k → w'.heap[k]? = w.heap[k]?
theorem Btw.refl (lo hi : Nat) (w : World) : Btw lo hi w w := ⟨rfl, rfl, rfl, Nat.le_refl _, fun _ _ _ => rfl⟩
theorem Btw.trans {lo hi : Nat} {a b c : World} (h : Btw lo hi a b) (k : Btw lo hi b c) : Btw lo hi a c :=
  ⟨k.os.trans h.os, k.tape.trans h.tape, k.output.trans h.output, Nat.le_trans h.size k.size, fun i hi hn => (k.block i (Nat.lt_of_lt_of_le hi h.size) hn).trans (h.block i hi hn)⟩
theorem Btw.of_grown {lo hi : Nat} {w w' : World} {row : Option Nat} (hg : w.grownBy w' row) (h : ∀ k, row = some k → lo ≤ k ∧ k < hi) : Btw lo hi w w' :=
  ⟨hg.os, hg.tape, hg.output, hg.size, fun k hk hn => hg.block k hk (fun e => by have := h k e.symm; omega)⟩
theorem Btw.of_below {lo hi : Nat} {w w' : World} (h : Below w.heap.size w w') : Btw lo hi w w' := ⟨h.os, h.tape, h.output, h.size, fun k hk _ => h.block k hk⟩
theorem OwnI.btw {lo hi : Nat} {w w' : World} {base : Nat} {A : Option Addr} {c : Nat} {xs : List Int} (h : OwnI w base A c xs) (hg : Btw lo hi w w') (hr : ∀ k, (Value.slice A xs.length c).ownBlock = some k → k < lo ∨ hi ≤ k) : OwnI w' base A c xs := by
  refine ⟨h.1, ?_⟩
  rcases h.2 with h2 | ⟨g, cap, cur, hv, hb, hgg, r⟩
  · exact .inl h2
  · refine .inr ⟨g, cap, cur, hv, hb, ?_, r⟩
    rw [hg.block g (Array.getElem?_eq_some_iff.1 hgg).1 (hr g (by rw [hv]; rfl))]
    exact hgg
theorem Ints.btw {lo hi : Nat} {w w' : World} {A : Option Addr} {xs : List Int} (h : Ints w A xs) (hg : Btw lo hi w w') (hr : ∀ ad, A = some ad → 0 < xs.length → ad.block < lo ∨ hi ≤ ad.block) : Ints w' A xs :=
  h.keep fun ad e hn hlt => hg.block _ hlt (hr ad e hn)
theorem below_btw {lo hi B : Nat} {a w w' : World} (h : Below B a w) (hg : Btw lo hi w w') (hB : B ≤ lo) (hw : B ≤ w.heap.size) : Below B a w' :=
  h.trans ⟨hg.os, hg.tape, hg.output, hg.size, fun k hk => hg.block k (by omega) (.inl (by omega))⟩
end Go.Proofs.Ythhjddeimbfmfaa
