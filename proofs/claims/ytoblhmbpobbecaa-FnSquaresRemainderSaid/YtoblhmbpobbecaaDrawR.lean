/-
  Draws of votes, seats and lots for remainders.
-/
import Derived.Test.YtoblhmbpobbecaaLotsE
namespace Go.Proofs.Ytoblhmbpobbecaa
open Go.ChangeShapes Go.WideShapes Go.ChangeAt Go.RowKit
def DrawnRem (w : World) (e : Ending) (w' : World) : Prop := ∃ (A : Option Addr) (c : Nat) (xs : List Int) (s : Int) (A2 : Option Addr) (c2 : Nat) (ls : List Int),
  e = .returned (.tuple #[.slice A xs.length c, .int .i64 s, .slice A2 ls.length c2]) ∧ DrewI w w' A c xs ∧ DrewI w w' A2 c2 ls
theorem drawnRem_of {w w1 w2 w3 w' : World} {rb n c n2 c2 : Nat} {A A2 : Option Addr} {xs ls : List Int} {s : Int} (h : OwnN w' w2.heap.size A n c xs) (hn : n ≤ 5) (h2 : OwnN w' w3.heap.size A2 n2 c2 ls) (hn2 : n2 ≤ 5) (hb : Below w.heap.size w w1) (hrb : w.heap.size ≤ rb) (hd : Dr rb w1 w') (hz : w1.heap.size ≤ w2.heap.size) (hz3 : w1.heap.size ≤ w3.heap.size) :
    DrawnRem w (.returned (.tuple #[.slice A n c, .int .i64 s, .slice A2 n2 c2])) w' := by
  obtain ⟨rfl, h4⟩ := drewI_of h hn hb hrb hd hz
  obtain ⟨rfl, h5⟩ := drewI_of h2 hn2 hb hrb hd hz3
  exact ⟨A, c, xs, s, A2, c2, ls, rfl, h4, h5⟩
end Go.Proofs.Ytoblhmbpobbecaa
