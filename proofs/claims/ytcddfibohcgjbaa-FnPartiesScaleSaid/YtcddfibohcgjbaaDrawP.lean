/-
  Drawn votes of parties that are counted.
-/
import Derived.Test.YtcddfibohcgjbaaDrawQ
namespace Go.Proofs.Ytcddfibohcgjbaa
open Go.RowKit
def DrawnVotes (w : World) (e : Ending) (w' : World) : Prop := ∃ (A : Option Addr) (c : Nat) (xs : List Int), e = .returned (.slice A xs.length c) ∧ DrewI w w' A c xs
theorem drawnVotes_of {w w1 w2 w' : World} {rb n c : Nat} {A : Option Addr} {xs : List Int} (h : OwnN w' w2.heap.size A n c xs) (hn : n ≤ 5) (hb : Below w.heap.size w w1) (hrb : w.heap.size ≤ rb) (hd : Dr rb w1 w') (hz : w1.heap.size ≤ w2.heap.size) :
    DrawnVotes w (.returned (.slice A n c)) w' := by
  obtain ⟨rfl, h2⟩ := drewI_of h hn hb hrb hd hz
  exact ⟨A, c, xs, rfl, h2⟩
set_option maxHeartbeats 800000 in
theorem drawParties_any (A : Option Addr) (n c : Nat) (w : World) (h : BytsA w A n c) : Calls Try.prog 20 #[.slice A n c] w (DrawnVotes w) := by
  go_enter Try.func20, Try.ntmps20
  go_wp2_with fail
  refine (l6Open_any _ _ _ _ h.read h.len h.cap).mono ?_
  rintro e w1 ⟨rb, rfl, hrb, hrd1, hb1⟩
  go_wp2_with fail
  refine (pick_n rb 0 _ _ hrd1 (by omega) (by omega) (by omega)).mono ?_
  rintro e w2 ⟨q2, hq2, rfl, hrd2, hdr2⟩
  go_wp2_with fail
  refine (l92Votes_any rb 1 q2 _ hrd2 (by omega) (by omega)).mono ?_
  rintro e w3 ⟨A3, c3, xs, p3, rfl, hown3, hp3, hrd3, hdr3⟩
  go_wp2
  go_ret
  exact drawnVotes_of hown3 (by omega) hb1 hrb (hdr2.trans hdr3) hdr2.size
end Go.Proofs.Ytcddfibohcgjbaa
