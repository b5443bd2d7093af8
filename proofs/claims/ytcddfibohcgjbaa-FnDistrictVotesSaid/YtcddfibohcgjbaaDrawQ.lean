/-
  Draws of quotas, hurdles and parties; what a law over a code is told.
-/
import Derived.Test.YtcddfibohcgjbaaDrawV
import Derived.Test.YtcddfibohcgjbaaOpen
namespace Go.Proofs.Ytcddfibohcgjbaa
open Go.ChangeShapes Go.WideShapes Go.ChangeAt Go.RowKit
/-- A code that came in. -/
structure BytsA (w : World) (A : Option Addr) (n c : Nat) : Prop where
  read : Byts w A n
  len : n ≤ c
  cap : c ≤ maxLen
theorem openByts {H : Type} {enc : TypeId × Value → H} {W : World} {r : Reach} {b0 : Nat} {v : Value} {d : DataW H} {p : List MemPlace} (hv : Value.okWide Try.prog W r b0 22 v) (h : DataW.Trod enc Try.prog W 0 (fun _ => true) true 22 v d p) :
    ∃ (A : Option Addr) (n : Nat) (c : Nat), v = .slice A n c ∧ BytsA W A n c := by
  obtain ⟨a0, len, cap, rfl⟩ := okWide_slice Try.underlying22 hv
  obtain ⟨fuel, hf⟩ := h
  rcases open_ints Try.underlying22 Try.underlying5 (by kernel_rfl) hf with ⟨hcs, _⟩ | ⟨x, l, c, zs, hcs, _, hl, hm, hz, _, hcell, hwz⟩
  · simp [Value.cells] at hcs
    obtain ⟨rfl, rfl, rfl⟩ := hcs
    exact ⟨none, 0, 0, rfl, fun h => absurd h (by omega), by omega, by simp [maxLen]⟩
  · simp [Value.cells] at hcs
    obtain ⟨rfl, rfl, rfl⟩ := hcs
    have hz' : zs.length = cap := by simpa using hz
    refine ⟨some x, len, cap, rfl, fun _ => ⟨x, rfl, fun j hj => ?_⟩, hl, hm⟩
    have hr := range_u8 hwz j
    have hc := hcell j (by omega)
    exact ⟨_, by simpa using hr.1, by simpa using hr.2, hc⟩
/-- What a law over a code learns of a draw: a new slice of at most five ints. -/
def DrewI (w w' : World) (A : Option Addr) (c : Nat) (xs : List Int) : Prop := xs.length ≤ 5 ∧ OwnI w' w.heap.size A c xs ∧ Below w.heap.size w w'
theorem drewI_of {w w1 w2 w' : World} {rb n c : Nat} {A : Option Addr} {xs : List Int} (h : OwnN w' w2.heap.size A n c xs) (hn : n ≤ 5) (hb : Below w.heap.size w w1) (hrb : w.heap.size ≤ rb) (hd : Dr rb w1 w') (hz : w1.heap.size ≤ w2.heap.size) :
    n = xs.length ∧ DrewI w w' A c xs :=
  ⟨h.1.symm, by rw [h.1]; exact hn, h.2.mono (by have := hb.size; omega), hb.trans (hd.to_below hrb hb.size)⟩
def DrawnHurdle (w : World) (e : Ending) (w' : World) : Prop := ∃ (A : Option Addr) (c : Nat) (xs : List Int) (p : Int), e = .returned (.tuple #[.slice A xs.length c, .int .i64 p]) ∧ DrewI w w' A c xs
theorem drawnHurdle_of {w w1 w2 w' : World} {rb n c : Nat} {A : Option Addr} {xs : List Int} {p : Int} (h : OwnN w' w2.heap.size A n c xs) (hn : n ≤ 5) (hb : Below w.heap.size w w1) (hrb : w.heap.size ≤ rb) (hd : Dr rb w1 w') (hz : w1.heap.size ≤ w2.heap.size) :
    DrawnHurdle w (.returned (.tuple #[.slice A n c, .int .i64 p])) w' := by
  obtain ⟨rfl, h2⟩ := drewI_of h hn hb hrb hd hz
  exact ⟨A, c, xs, p, rfl, h2⟩
set_option maxHeartbeats 1600000 in
theorem drawHurdle_any (A : Option Addr) (n c : Nat) (w : World) (h : BytsA w A n c) : Calls Try.prog 15 #[.slice A n c] w (DrawnHurdle w) := by
  go_enter Try.func15, Try.ntmps15
  go_wp2_with fail
  refine (l6Open_any _ _ _ _ h.read h.len h.cap).mono ?_
  rintro e w1 ⟨rb, rfl, hrb, hrd1, hb1⟩
  go_wp2_with fail
  refine (pick_n rb 0 _ _ hrd1 (by omega) (by omega) (by omega)).mono ?_
  rintro e w2 ⟨q2, hq2, rfl, hrd2, hdr2⟩
  go_wp2_with fail
  obtain ⟨n3, e2, hn3, hn5⟩ : ∃ n3 : Nat, (1 + (q2 : Int)) = (n3 : Int) ∧ 1 ≤ n3 ∧ n3 ≤ 5 := ⟨1 + q2, by omega, by omega, by omega⟩
  rw [e2]
  clear e2
  refine (l92Votes_any rb 1 n3 _ hrd2 (by omega) (by omega)).mono ?_
  rintro e w3 ⟨A3, c3, xs, p3, rfl, hown3, hp3, hrd3, hdr3⟩
  have hrb2 := hrd2.lt
  go_wp2_with fail
  refine (pick_n rb p3 _ _ hrd3 (by omega) (by omega) (by omega)).mono ?_
  rintro e w4 ⟨q4, hq4, rfl, hrd4, hdr4⟩
  have hown4 := hown3.dr hdr4 hrb2
  by_cases hq0 : q4 = 0
  · subst hq0
    go_wp2_with fail
    have hz4 := (hdr3.trans hdr4).size
    go_region_with (first | (go_at_call 47; (with_reducible refine (pick_n rb (p3 + 1) _ _ ((hrd4.alloc _).drew) (by omega) (by omega) (by omega)).mono ?_); rintro e w5 ⟨q5, hq5, rfl, hrd5, hdr5⟩; obtain ⟨v, hv⟩ := lit5 w4 (-1) 0 100 101 50 q5 hq5; have hv5 := hdr5.cell (a := ⟨w4.heap.size, q5, none⟩) (v := .int .i64 v) hv (by simp; omega)) | (go_at_call 47; (with_reducible refine (pick_n rb (p3 + 1) _ _ (hrd4.drew) (by omega) (by omega) (by omega)).mono ?_); rintro e w5 ⟨q5, hq5, rfl, hrd5, hdr5⟩; obtain ⟨v, hv⟩ := lit5 w5 (-1) 0 100 101 50 q5 hq5))
    all_goals go_wp2
    all_goals go_ret2
    all_goals first
      | exact drawnHurdle_of (OwnN.dr (OwnN.drew' (OwnN.alloc' hown4 _)) hdr5 hrb2) hn5 hb1 hrb (Dr.trans (Dr.drew (Dr.alloc ((hdr2.trans hdr3).trans hdr4) _)) hdr5) hdr2.size
      | exact drawnHurdle_of (OwnN.alloc' (OwnN.dr (OwnN.drew' hown4) hdr5 hrb2) _) hn5 hb1 hrb (Dr.alloc (Dr.trans (Dr.drew ((hdr2.trans hdr3).trans hdr4)) hdr5) _) hdr2.size
  · have hqb : ((q4 : Int) == 0) = false := by simp; omega
    go_wp2_with fail
    refine (pick_n rb (p3 + 1) _ _ hrd4 (by omega) (by omega) (by omega)).mono ?_
    rintro e w5 ⟨q5, hq5, rfl, hrd5, hdr5⟩
    go_wp2
    go_ret2
    exact drawnHurdle_of (hown4.dr hdr5 hrb2) hn5 hb1 hrb (((hdr2.trans hdr3).trans hdr4).trans hdr5) hdr2.size
end Go.Proofs.Ytcddfibohcgjbaa
