/-
  Drawn votes of parties that are counted.
-/
import Derived.Test.YtiinfbjlkbjmmaaQDrawQ
namespace Go.Proofs.Ytiinfbjlkbjmmaa
open Go.RowKit
def DrawnVotes (w : World) (e : Ending) (w' : World) : Prop := ∃ (A : Option Addr) (c : Nat) (xs : List Int), e = .returned (.slice A xs.length c) ∧ DrewI w w' A c xs
set_option maxRecDepth 100000 in
theorem drawnVotes_of {w w1 w2 w' : World} {rb n c : Nat} {A : Option Addr} {xs : List Int} (h : OwnN w' w2.heap.size A n c xs) (hn : n ≤ 5) (hb : Below w.heap.size w w1) (hrb : w.heap.size ≤ rb) (hd : Dr rb w1 w') (hz : w1.heap.size ≤ w2.heap.size) :
    DrawnVotes w (.returned (.slice A n c)) w' := by
  obtain ⟨rfl, h2⟩ := drewI_of h hn hb hrb hd hz
  exact ⟨A, c, xs, rfl, h2⟩
end Go.Proofs.Ytiinfbjlkbjmmaa
