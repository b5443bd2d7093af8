/-
  Draws of piles and a number of candidates, of piles and a depth.
-/
import Derived.Test.YthngafmnkihkgaaDrawF
namespace Go.Proofs.Ythngafmnkihkgaa
open Go.ChangeShapes Go.WideShapes Go.ChangeAt Go.RowKit
def DrawnPN (w : World) (e : Ending) (w' : World) : Prop := ∃ (A : Option Addr) (c : Nat) (ps : List (ByteArray × Int)) (n : Nat),
  e = .returned (.tuple #[.slice A ps.length c, .int .i64 n]) ∧ DrewP w w' A c ps ∧ n ≤ 6
def DrawnPD (w : World) (e : Ending) (w' : World) : Prop := ∃ (A : Option Addr) (c : Nat) (ps : List (ByteArray × Int)) (n : Nat) (d : Int),
  e = .returned (.tuple #[.slice A ps.length c, .int .i64 n, .int .i64 d]) ∧ DrewP w w' A c ps ∧ n ≤ 6
theorem drawnPN_of {w w1 w2 w' : World} {rb m c n : Nat} {A : Option Addr} {ps : List (ByteArray × Int)} (h : OwnP w' w2.heap.size A m c ps) (hm : m ≤ 60) (hn : n ≤ 6) (hb : Below w.heap.size w w1) (hrb : w.heap.size ≤ rb) (hd : Dr rb w1 w') (hz : w1.heap.size ≤ w2.heap.size) :
    DrawnPN w (.returned (.tuple #[.slice A m c, .int .i64 n])) w' := by
  obtain ⟨rfl, h4⟩ := drewP_of h hm hb hrb hd hz
  exact ⟨A, c, ps, n, rfl, h4, hn⟩
theorem drawnPD_of {w w1 w2 w' : World} {rb m c n : Nat} {d : Int} {A : Option Addr} {ps : List (ByteArray × Int)} (h : OwnP w' w2.heap.size A m c ps) (hm : m ≤ 60) (hn : n ≤ 6) (hb : Below w.heap.size w w1) (hrb : w.heap.size ≤ rb) (hd : Dr rb w1 w') (hz : w1.heap.size ≤ w2.heap.size) :
    DrawnPD w (.returned (.tuple #[.slice A m c, .int .i64 n, .int .i64 d])) w' := by
  obtain ⟨rfl, h4⟩ := drewP_of h hm hb hrb hd hz
  exact ⟨A, c, ps, n, d, rfl, h4, hn⟩
set_option maxHeartbeats 800000 in
theorem drawPlace_any (A : Option Addr) (n c : Nat) (w : World) (h : BytsA w A n c) : Calls Try.prog 19 #[.slice A n c] w (DrawnPN w) := by
  go_enter Try.func19, Try.ntmps19
  go_wp2_with fail
  refine (l6Open_any _ _ _ _ h.read h.len h.cap).mono ?_
  rintro e w1 ⟨rb, rfl, hrb, hrd1, hb1⟩
  go_wp2_with fail
  refine (l91Pairs_any rb 0 _ hrd1 (by omega)).mono ?_
  rintro e w2 ⟨A2, m2, c2, ps, n2, p2, rfl, hm2, hn2, hown2, hp2, hrd2, hdr2⟩
  go_wp2
  go_ret2
  exact drawnPN_of hown2 hm2 hn2 hb1 hrb hdr2 (Nat.le_refl _)
set_option maxHeartbeats 800000 in
theorem drawLast_any (A : Option Addr) (n c : Nat) (w : World) (h : BytsA w A n c) : Calls Try.prog 24 #[.slice A n c] w (DrawnPN w) := by
  go_enter Try.func24, Try.ntmps24
  go_wp2_with fail
  refine (l6Open_any _ _ _ _ h.read h.len h.cap).mono ?_
  rintro e w1 ⟨rb, rfl, hrb, hrd1, hb1⟩
  go_wp2_with fail
  refine (l91Pairs_any rb 0 _ hrd1 (by omega)).mono ?_
  rintro e w2 ⟨A2, m2, c2, ps, n2, p2, rfl, hm2, hn2, hown2, hp2, hrd2, hdr2⟩
  go_wp2
  go_ret2
  exact drawnPN_of hown2 hm2 hn2 hb1 hrb hdr2 (Nat.le_refl _)
set_option maxHeartbeats 1600000 in
theorem drawDepth_any (A : Option Addr) (n c : Nat) (w : World) (h : BytsA w A n c) : Calls Try.prog 11 #[.slice A n c] w (DrawnPD w) := by
  go_enter Try.func11, Try.ntmps11
  go_wp2_with fail
  refine (l6Open_any _ _ _ _ h.read h.len h.cap).mono ?_
  rintro e w1 ⟨rb, rfl, hrb, hrd1, hb1⟩
  have hrb1 := hrd1.lt
  go_wp2_with fail
  refine (l91Pairs_any rb 0 _ hrd1 (by omega)).mono ?_
  rintro e w2 ⟨A2, m2, c2, ps, n2, p2, rfl, hm2, hn2, hown2, hp2, hrd2, hdr2⟩
  go_wp2_with fail
  refine (pick_n rb p2 _ _ hrd2 (by omega) (by omega) (by omega)).mono ?_
  rintro e w3 ⟨q3, hq3, rfl, hrd3, hdr3⟩
  have hown3 := hown2.dr hdr3 hrb1
  have hd3 := hdr2.trans hdr3
  have hrb3 := hrd3.lt
  clear hown2 hrd2 hdr2 hdr3
  by_cases hq0 : q3 = 0
  · subst hq0
    go_wp2_with fail
    go_region_with (first
      | (go_at_call 38; (with_reducible refine (pick_n rb (p2 + 1) _ _ ((hrd3.alloc _).drew) (by omega) (by omega) (by omega)).mono ?_); rintro e w4 ⟨q4, hq4, rfl, hrd4, hdr4⟩; obtain ⟨v, hv⟩ := lit3 w3 (-1) 5 6 q4 hq4; have hv4 := hdr4.cell (a := ⟨w3.heap.size, q4, none⟩) (v := .int .i64 v) hv (by simp; omega))
      | (go_at_call 38; (with_reducible refine (pick_n rb (p2 + 1) _ _ (hrd3.drew) (by omega) (by omega) (by omega)).mono ?_); rintro e w4 ⟨q4, hq4, rfl, hrd4, hdr4⟩; obtain ⟨v, hv⟩ := lit3 w4 (-1) 5 6 q4 hq4))
    all_goals go_wp2
    all_goals go_ret3
    all_goals first
      | exact drawnPD_of (((hown3.alloc _).drew).dr hdr4 hrb1) hm2 hn2 hb1 hrb (((hd3.alloc _).drew).trans hdr4) (Nat.le_refl _)
      | exact drawnPD_of (((hown3.drew).dr hdr4 hrb1).alloc _) hm2 hn2 hb1 hrb (((hd3.drew).trans hdr4).alloc _) (Nat.le_refl _)
  · have hqb : ((q3 : Int) == 0) = false := by simp; omega
    go_wp2_with fail
    refine (pick_n rb (p2 + 1) _ _ hrd3 (by omega) (by omega) (by omega)).mono ?_
    rintro e w4 ⟨q4, hq4, rfl, hrd4, hdr4⟩
    go_wp2
    go_ret3
    exact drawnPD_of (hown3.dr hdr4 hrb1) hm2 hn2 hb1 hrb (hd3.trans hdr4) (Nat.le_refl _)
end Go.Proofs.Ythngafmnkihkgaa
