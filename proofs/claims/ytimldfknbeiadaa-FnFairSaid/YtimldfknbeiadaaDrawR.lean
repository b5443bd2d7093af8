/-
  Draws of votes, seats and lots for remainders.
-/
import Derived.Test.YtimldfknbeiadaaLotsE
namespace Go.Proofs.Ytimldfknbeiadaa
open Go.ChangeShapes Go.WideShapes Go.ChangeAt Go.RowKit
def DrawnRem (w : World) (e : Ending) (w' : World) : Prop := ∃ (A : Option Addr) (c : Nat) (xs : List Int) (s : Int) (A2 : Option Addr) (c2 : Nat) (ls : List Int),
  e = .returned (.tuple #[.slice A xs.length c, .int .i64 s, .slice A2 ls.length c2]) ∧ DrewI w w' A c xs ∧ DrewI w w' A2 c2 ls
theorem drawnRem_of {w w1 w2 w3 w' : World} {rb n c n2 c2 : Nat} {A A2 : Option Addr} {xs ls : List Int} {s : Int} (h : OwnN w' w2.heap.size A n c xs) (hn : n ≤ 5) (h2 : OwnN w' w3.heap.size A2 n2 c2 ls) (hn2 : n2 ≤ 5) (hb : Below w.heap.size w w1) (hrb : w.heap.size ≤ rb) (hd : Dr rb w1 w') (hz : w1.heap.size ≤ w2.heap.size) (hz3 : w1.heap.size ≤ w3.heap.size) :
    DrawnRem w (.returned (.tuple #[.slice A n c, .int .i64 s, .slice A2 n2 c2])) w' := by
  obtain ⟨rfl, h4⟩ := drewI_of h hn hb hrb hd hz
  obtain ⟨rfl, h5⟩ := drewI_of h2 hn2 hb hrb hd hz3
  exact ⟨A, c, xs, s, A2, c2, ls, rfl, h4, h5⟩
set_option maxHeartbeats 1600000 in
theorem drawRemainder_any (A : Option Addr) (n c : Nat) (w : World) (h : BytsA w A n c) : Calls Try.prog 20 #[.slice A n c] w (DrawnRem w) := by
  go_enter Try.func20, Try.ntmps20
  go_wp2_with fail
  refine (l6Open_any _ _ _ _ h.read h.len h.cap).mono ?_
  rintro e w1 ⟨rb, rfl, hrb, hrd1, hb1⟩
  go_wp2_with fail
  refine (pick_n rb 0 _ _ hrd1 (by omega) (by omega) (by omega)).mono ?_
  rintro e w2 ⟨q2, hq2, rfl, hrd2, hdr2⟩
  go_wp2_with fail
  obtain ⟨n3, e2, hn3, hn5⟩ : ∃ n3 : Nat, (1 + (q2 : Int)) = (n3 : Int) ∧ 1 ≤ n3 ∧ n3 ≤ 5 := ⟨1 + q2, by omega, by omega, by omega⟩
  rw [e2]
  clear e2
  refine (l92Votes_any rb 1 n3 _ hrd2 (by omega) (by omega)).mono ?_
  rintro e w3 ⟨A3, c3, xs, p5, rfl, hown3, hp3, hrd3, hdr3⟩
  have hrb2 := hrd2.lt
  go_wp2_with fail
  refine (pick_n rb p5 _ _ hrd3 (by omega) (by omega) (by omega)).mono ?_
  rintro e w6 ⟨q6, hq6, rfl, hrd6, hdr6⟩
  have hx6 := hown3.dr hdr6 hrb2
  have hd6 := (hdr2.trans hdr3).trans hdr6
  have hz2 := hdr2.size
  have hz6 := hd6.size
  have hrb6 := hrd6.lt
  clear hown3 hrd3
  by_cases hq0 : q6 = 0
  · subst hq0
    go_wp2_with fail
    go_region_with (first
      | (go_at_call 40; (with_reducible refine (pick_n rb (p5 + 1) _ _ ((hrd6.alloc _).drew) (by omega) (by omega) (by omega)).mono ?_); rintro e w7 ⟨q7, hq7, rfl, hrd7, hdr7⟩; obtain ⟨v, hv⟩ := lit3 w6 (-1) 20 21 q7 hq7; have hv7 := hdr7.cell (a := ⟨w6.heap.size, q7, none⟩) (v := .int .i64 v) hv (by simp; omega))
      | (go_at_call 40; (with_reducible refine (pick_n rb (p5 + 1) _ _ (hrd6.drew) (by omega) (by omega) (by omega)).mono ?_); rintro e w7 ⟨q7, hq7, rfl, hrd7, hdr7⟩; obtain ⟨v, hv⟩ := lit3 w7 (-1) 20 21 q7 hq7)
      | (go_at_call 42; (with_reducible refine (l91Lots_any rb (p5 + 2) n3 _ hrd7 (by omega) hn3 hn5).mono ?_); rintro e w8 ⟨A8, c8, ls, m8, p8, rfl, hm8, hown8, hp8, hrd8, hdr8⟩; have hv8 := hdr8.cell hv7 (by simp; omega))
      | (go_at_call 42; (with_reducible refine (l91Lots_any rb (p5 + 2) n3 _ hrd7 (by omega) hn3 hn5).mono ?_); rintro e w8 ⟨A8, c8, ls, m8, p8, rfl, hm8, hown8, hp8, hrd8, hdr8⟩; obtain ⟨v', hv'⟩ := lit3 w8 (-1) 20 21 q7 hq7)
      | (go_at_call 42; (with_reducible refine (l91Lots_any rb (p5 + 2) n3 _ (hrd7.alloc _) (by omega) hn3 hn5).mono ?_); rintro e w8 ⟨A8, c8, ls, m8, p8, rfl, hm8, hown8, hp8, hrd8, hdr8⟩; have hv8 := hdr8.cell (a := ⟨w7.heap.size, q7, none⟩) (v := .int .i64 v) hv (by have := hrd7.lt; simp; omega)))
    all_goals go_wp2
    all_goals go_ret3
    all_goals first
      | exact drawnRem_of (((hx6.alloc' _).drew'.dr hdr7 hrb2).dr hdr8 hrb2) hn5 hown8 (by omega) hb1 hrb ((((hd6.alloc _).drew).trans hdr7).trans hdr8) hz2 (Nat.le_trans hz6 (by have := hdr7.size; simp at this; omega))
      | exact drawnRem_of ((((hx6.drew').dr hdr7 hrb2).alloc' _).dr hdr8 hrb2) hn5 hown8 (by omega) hb1 hrb ((((hd6.drew).trans hdr7).alloc _).trans hdr8) hz2 (Nat.le_trans hz6 (by have := hdr7.size; simp at this; simp; omega))
      | exact drawnRem_of ((((hx6.drew').dr hdr7 hrb2).dr hdr8 hrb2).alloc' _) hn5 (hown8.alloc' _) (by omega) hb1 hrb ((((hd6.drew).trans hdr7).trans hdr8).alloc _) hz2 (Nat.le_trans hz6 (by have := hdr7.size; simp at this; omega))
  · have hqb : ((q6 : Int) == 0) = false := by simp; omega
    go_wp2_with fail
    refine (pick_n rb (p5 + 1) _ _ hrd6 (by omega) (by omega) (by omega)).mono ?_
    rintro e w7 ⟨q7, hq7, rfl, hrd7, hdr7⟩
    go_wp2_with fail
    refine (l91Lots_any rb (p5 + 2) n3 _ hrd7 (by omega) hn3 hn5).mono ?_
    rintro e w8 ⟨A8, c8, ls, m8, p8, rfl, hm8, hown8, hp8, hrd8, hdr8⟩
    go_wp2
    go_ret3
    exact drawnRem_of ((hx6.dr hdr7 hrb2).dr hdr8 hrb2) hn5 hown8 (by omega) hb1 hrb ((hd6.trans hdr7).trans hdr8) hz2 (Nat.le_trans hz6 hdr7.size)
end Go.Proofs.Ytimldfknbeiadaa
