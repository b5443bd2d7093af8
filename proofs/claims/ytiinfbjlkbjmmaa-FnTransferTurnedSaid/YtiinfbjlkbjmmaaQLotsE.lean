/-
  Lots that are drawn, seldom invalid ones; draws of seats by divisors and by remainders.
-/
import Derived.Test.YtiinfbjlkbjmmaaQLotsD
import Derived.Test.YtiinfbjlkbjmmaaQDrawQ
import Derived.Test.YtiinfbjlkbjmmaaQDrawP
namespace Go.Proofs.Ytiinfbjlkbjmmaa
open Go.ChangeShapes Go.WideShapes Go.ChangeAt Go.RowKit
/-- A draw of at most n ints. -/
def DrawL (w : World) (rb p K : Nat) (n : Nat) (e : Ending) (w' : World) : Prop :=
  ∃ (A : Option Addr) (c : Nat) (xs : List Int) (m p' : Nat), e = .returned (.slice A m c) ∧ m ≤ n ∧ OwnN w' w.heap.size A m c xs ∧ p' ≤ p + K ∧ Rd w' rb p' ∧ Dr rb w w'
set_option maxRecDepth 100000 in
set_option maxHeartbeats 1600000 in
theorem l91Lots_any (rb p n : Nat) (w : World) (h : Rd w rb p) (hp : p ≤ 900000) (h1 : 1 ≤ n) (h5 : n ≤ 5) :
    Calls Try.prog 76 #[.pointer (some ⟨rb, 0, none⟩), .int .i64 n] w (DrawL w rb p 5 n) := by
  have hrb := h.lt
  go_enter Try.func76, Try.ntmps76
  go_wp2_with fail
  refine (pick_n rb p _ _ h (by omega) (by omega) (by omega)).mono ?_
  rintro e w1 ⟨q1, hq1, rfl, hrd1, hdr1⟩
  go_wp2_with fail
  refine (specLotsOf_any n _ _ h1 h5 (by omega) (by omega)).mono ?_
  rintro e w2 ⟨A, c, xs, rfl, hown2, hb2⟩
  have hz1 := hdr1.size
  have hown := hown2.2.mono hz1
  have hown : OwnN w2 w.heap.size A n c xs := ⟨hown2.1, hown⟩
  have hrd2 := hrd1.below hb2
  have hdr2 := hdr1.below (hb2.mono hz1)
  clear hown2 hrd1 hdr1
  go_wp2_with fail
  refine (pick_n rb (p + 1) _ _ hrd2 (by omega) (by omega) (by omega)).mono ?_
  rintro e w3 ⟨q3, hq3, rfl, hrd3, hdr3⟩
  have hown3 := hown.dr hdr3 hrb
  have hdr := hdr2.trans hdr3
  by_cases hq0 : 0 < q3
  · have hqi : (0 : Int) < q3 := by omega
    go_wp2
    go_ret
    exact ⟨_, _, _, _, p + 2, rfl, Nat.le_refl _, hown3, by omega, hrd3, hdr⟩
  · have hqi : ¬ (0 : Int) < q3 := by omega
    obtain ⟨g, rfl, hg0, hg1⟩ := hown3.form (by omega)
    go_wp2_with fail
    refine (pick_n rb (p + 2) _ _ hrd3 (by omega) (by omega) (by omega)).mono ?_
    rintro e w4 ⟨q4, hq4, rfl, hrd4, hdr4⟩
    have hown4 := hown3.dr hdr4 hrb
    have hdr' := hdr.trans hdr4
    have hq4n : q4 < n := by omega
    go_wp2_with fail
    refine (pick_n rb (p + 3) _ _ hrd4 (by omega) (by omega) (by omega)).mono ?_
    rintro e w5 ⟨q5, hq5, rfl, hrd5, hdr5⟩
    have hown5 := hown4.dr hdr5 hrb
    have hdr'' := hdr'.trans hdr5
    have hcap : n ≤ c := by have := hown5.2.le_cap; have := hown5.1; omega
    by_cases hq50 : q5 = 0
    · subst hq50
      go_wp2
      go_ret
      exact ⟨_, _, _, _, p + 4, rfl, by omega, hown5.takeN (Nat.le_of_lt hq4n) (by omega), by omega, hrd5, hdr''⟩
    · have hqb : ((q5 : Int) == 0) = false := by simp; omega
      go_wp2_with fail
      refine (pick_n rb (p + 4) _ _ hrd5 (by omega) (by omega) (by omega)).mono ?_
      rintro e w6 ⟨q6, hq6, rfl, hrd6, hdr6⟩
      have hown6 := hown5.dr hdr6 hrb
      obtain ⟨x6, hc6⟩ := hown6.cellN hq4n
      have hf6 := hown6.2.frozen q4
      have hz := hdr6.size
      have hz2 := hdr''.size
      go_wp2
      go_ret
      exact ⟨_, _, _, _, p + 5, rfl, Nat.le_refl _, hown6.setN q4 _, by omega, hrd6.setCell (by simp; omega) _, (hdr''.trans hdr6).setCell (by simp; omega) _⟩
/-- What a law over a code learns of drawn lots and votes. -/
def DrawnDiv (w : World) (e : Ending) (w' : World) : Prop := ∃ (A : Option Addr) (c : Nat) (xs : List Int) (s m : Int) (A2 : Option Addr) (c2 : Nat) (ls : List Int),
  e = .returned (.tuple #[.slice A xs.length c, .int .i64 s, .int .i64 m, .slice A2 ls.length c2]) ∧ DrewI w w' A c xs ∧ DrewI w w' A2 c2 ls
set_option maxRecDepth 100000 in
theorem drawnDiv_of {w w1 w2 w3 w' : World} {rb n c n2 c2 : Nat} {A A2 : Option Addr} {xs ls : List Int} {s m : Int} (h : OwnN w' w2.heap.size A n c xs) (hn : n ≤ 5) (h2 : OwnN w' w3.heap.size A2 n2 c2 ls) (hn2 : n2 ≤ 5) (hb : Below w.heap.size w w1) (hrb : w.heap.size ≤ rb) (hd : Dr rb w1 w') (hz : w1.heap.size ≤ w2.heap.size) (hz3 : w1.heap.size ≤ w3.heap.size) :
    DrawnDiv w (.returned (.tuple #[.slice A n c, .int .i64 s, .int .i64 m, .slice A2 n2 c2])) w' := by
  obtain ⟨rfl, h4⟩ := drewI_of h hn hb hrb hd hz
  obtain ⟨rfl, h5⟩ := drewI_of h2 hn2 hb hrb hd hz3
  exact ⟨A, c, xs, s, m, A2, c2, ls, rfl, h4, h5⟩
