/-
  Draws of quotas, hurdles and parties; what a law over a code is told.
-/
import Derived.Test.YtiinfbjlkbjmmaaQDrawV
import Derived.Test.YtiinfbjlkbjmmaaQOpen
namespace Go.Proofs.Ytiinfbjlkbjmmaa
open Go.ChangeShapes Go.WideShapes Go.ChangeAt Go.RowKit
/-- A code that came in. -/
structure BytsA (w : World) (A : Option Addr) (n c : Nat) : Prop where
  read : Byts w A n
  len : n ≤ c
  cap : c ≤ maxLen
set_option maxRecDepth 100000 in
theorem openByts {H : Type} {enc : TypeId × Value → H} {W : World} {r : Reach} {b0 : Nat} {v : Value} {d : DataW H} {p : List MemPlace} (hv : Value.okWide Try.prog W r b0 37 v) (h : DataW.Trod enc Try.prog W 0 (fun _ => true) true 37 v d p) :
    ∃ (A : Option Addr) (n : Nat) (c : Nat), v = .slice A n c ∧ BytsA W A n c := by
  obtain ⟨a0, len, cap, rfl⟩ := okWide_slice Try.underlying37 hv
  obtain ⟨fuel, hf⟩ := h
  rcases open_ints Try.underlying37 Try.underlying5 (by kernel_rfl) hf with ⟨hcs, _⟩ | ⟨x, l, c, zs, hcs, _, hl, hm, hz, _, hcell, hwz⟩
  · simp [Value.cells] at hcs
    obtain ⟨rfl, rfl, rfl⟩ := hcs
    exact ⟨none, 0, 0, rfl, fun h => absurd h (by omega), by omega, by simp [maxLen]⟩
  · simp [Value.cells] at hcs
    obtain ⟨rfl, rfl, rfl⟩ := hcs
    have hz' : zs.length = cap := by simpa using hz
    refine ⟨some x, len, cap, rfl, fun _ => ⟨x, rfl, fun j hj => ?_⟩, hl, hm⟩
    have hr := range_u8 hwz j
    have hc := hcell j (by omega)
    exact ⟨_, by simpa using hr.1, by simpa using hr.2, hc⟩
/-- What a law over a code learns of a draw: a new slice of at most five ints. -/
def DrewI (w w' : World) (A : Option Addr) (c : Nat) (xs : List Int) : Prop := xs.length ≤ 5 ∧ OwnI w' w.heap.size A c xs ∧ Below w.heap.size w w'
set_option maxRecDepth 100000 in
theorem drewI_of {w w1 w2 w' : World} {rb n c : Nat} {A : Option Addr} {xs : List Int} (h : OwnN w' w2.heap.size A n c xs) (hn : n ≤ 5) (hb : Below w.heap.size w w1) (hrb : w.heap.size ≤ rb) (hd : Dr rb w1 w') (hz : w1.heap.size ≤ w2.heap.size) :
    n = xs.length ∧ DrewI w w' A c xs :=
  ⟨h.1.symm, by rw [h.1]; exact hn, h.2.mono (by have := hb.size; omega), hb.trans (hd.to_below hrb hb.size)⟩
end Go.Proofs.Ytiinfbjlkbjmmaa
