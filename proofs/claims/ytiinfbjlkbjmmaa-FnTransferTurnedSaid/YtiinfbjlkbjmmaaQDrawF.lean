/-
  Draws of piles and of who has left, of piles and a number of candidates, of piles and a depth, of piles and lots.
-/
import Derived.Test.YtiinfbjlkbjmmaaQDrawL
import Derived.Test.YtiinfbjlkbjmmaaQDrawQ
namespace Go.Proofs.Ytiinfbjlkbjmmaa
open Go.ChangeShapes Go.WideShapes Go.ChangeAt Go.RowKit
/-- What a law over a code learns of drawn piles. -/
def DrewP (w w' : World) (A : Option Addr) (c : Nat) (ps : List (ByteArray × Int)) : Prop := ps.length ≤ 60 ∧ OwnP w' w.heap.size A ps.length c ps ∧ Below w.heap.size w w'
set_option maxRecDepth 100000 in
theorem drewP_of {w w1 w2 w' : World} {rb n c : Nat} {A : Option Addr} {ps : List (ByteArray × Int)} (h : OwnP w' w2.heap.size A n c ps) (hn : n ≤ 60) (hb : Below w.heap.size w w1) (hrb : w.heap.size ≤ rb) (hd : Dr rb w1 w') (hz : w1.heap.size ≤ w2.heap.size) :
    n = ps.length ∧ DrewP w w' A c ps := by
  have hl := h.len
  subst hl
  exact ⟨rfl, hn, h.mono (by have := hb.size; omega), hb.trans (hd.to_below hrb hb.size)⟩
def DrawnFirst (w : World) (e : Ending) (w' : World) : Prop := ∃ (A : Option Addr) (c : Nat) (ps : List (ByteArray × Int)) (A2 : Option Addr) (c2 : Nat) (bs : List Bool),
  e = .returned (.tuple #[.slice A ps.length c, .slice A2 bs.length c2]) ∧ DrewP w w' A c ps ∧ bs.length ≤ 10 ∧ OwnB w' w.heap.size A2 bs.length c2 bs
set_option maxRecDepth 100000 in
theorem drawnFirst_of {w w1 w2 w3 w' : World} {rb n c n2 c2 : Nat} {A A2 : Option Addr} {ps : List (ByteArray × Int)} {bs : List Bool} (h : OwnP w' w2.heap.size A n c ps) (hn : n ≤ 60) (h2 : OwnB w' w3.heap.size A2 n2 c2 bs) (hn2 : n2 ≤ 10) (hb : Below w.heap.size w w1) (hrb : w.heap.size ≤ rb) (hd : Dr rb w1 w') (hz : w1.heap.size ≤ w2.heap.size) (hz3 : w1.heap.size ≤ w3.heap.size) :
    DrawnFirst w (.returned (.tuple #[.slice A n c, .slice A2 n2 c2])) w' := by
  obtain ⟨rfl, h4⟩ := drewP_of h hn hb hrb hd hz
  obtain ⟨rfl, h5⟩ := h2
  refine ⟨A, c, ps, A2, c2, bs, rfl, h4, hn2, rfl, h5.1, ?_⟩
  rcases h5.2 with h2 | ⟨g, cap, cur, hv, hg, r⟩
  · exact .inl h2
  · exact .inr ⟨g, cap, cur, hv, by have := hb.size; omega, r⟩
/-- Piles and a number of candidates are drawn from a reader. -/
def DrawnNR (w : World) (rb p : Nat) (e : Ending) (w' : World) : Prop :=
  ∃ (A : Option Addr) (m c : Nat) (ps : List (ByteArray × Int)) (n p' : Nat), e = .returned (.tuple #[.slice A m c, .int .i64 n]) ∧ m ≤ 60 ∧ n ≤ 6 ∧ OwnP w' w.heap.size A m c ps ∧ p' ≤ p + 5000 ∧ Rd w' rb p' ∧ Dr rb w w'
set_option maxRecDepth 100000 in
theorem OwnP.mono' {w w0 w1 : World} {n c : Nat} {A : Option Addr} {ps : List (ByteArray × Int)} (h : OwnP w w1.heap.size A n c ps) (hz : w0.heap.size ≤ w1.heap.size) : OwnP w w0.heap.size A n c ps := h.mono hz
end Go.Proofs.Ytiinfbjlkbjmmaa
