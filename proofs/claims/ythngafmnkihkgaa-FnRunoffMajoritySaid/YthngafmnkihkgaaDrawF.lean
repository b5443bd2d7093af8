/-
  Draws of piles and of who has left, of piles and a number of candidates, of piles and a depth, of piles and lots.
-/
import Derived.Test.YthngafmnkihkgaaDrawM
import Derived.Test.YthngafmnkihkgaaDrawQ
namespace Go.Proofs.Ythngafmnkihkgaa
open Go.ChangeShapes Go.WideShapes Go.ChangeAt Go.RowKit
/-- What a law over a code learns of drawn piles. -/
def DrewP (w w' : World) (A : Option Addr) (c : Nat) (ps : List (ByteArray × Int)) : Prop := ps.length ≤ 60 ∧ OwnP w' w.heap.size A ps.length c ps ∧ Below w.heap.size w w'
theorem drewP_of {w w1 w2 w' : World} {rb n c : Nat} {A : Option Addr} {ps : List (ByteArray × Int)} (h : OwnP w' w2.heap.size A n c ps) (hn : n ≤ 60) (hb : Below w.heap.size w w1) (hrb : w.heap.size ≤ rb) (hd : Dr rb w1 w') (hz : w1.heap.size ≤ w2.heap.size) :
    n = ps.length ∧ DrewP w w' A c ps := by
  have hl := h.len
  subst hl
  exact ⟨rfl, hn, h.mono (by have := hb.size; omega), hb.trans (hd.to_below hrb hb.size)⟩
def DrawnFirst (w : World) (e : Ending) (w' : World) : Prop := ∃ (A : Option Addr) (c : Nat) (ps : List (ByteArray × Int)) (A2 : Option Addr) (c2 : Nat) (bs : List Bool),
  e = .returned (.tuple #[.slice A ps.length c, .slice A2 bs.length c2]) ∧ DrewP w w' A c ps ∧ bs.length ≤ 10 ∧ OwnB w' w.heap.size A2 bs.length c2 bs
theorem drawnFirst_of {w w1 w2 w3 w' : World} {rb n c n2 c2 : Nat} {A A2 : Option Addr} {ps : List (ByteArray × Int)} {bs : List Bool} (h : OwnP w' w2.heap.size A n c ps) (hn : n ≤ 60) (h2 : OwnB w' w3.heap.size A2 n2 c2 bs) (hn2 : n2 ≤ 10) (hb : Below w.heap.size w w1) (hrb : w.heap.size ≤ rb) (hd : Dr rb w1 w') (hz : w1.heap.size ≤ w2.heap.size) (hz3 : w1.heap.size ≤ w3.heap.size) :
    DrawnFirst w (.returned (.tuple #[.slice A n c, .slice A2 n2 c2])) w' := by
  obtain ⟨rfl, h4⟩ := drewP_of h hn hb hrb hd hz
  obtain ⟨rfl, h5⟩ := h2
  refine ⟨A, c, ps, A2, c2, bs, rfl, h4, hn2, rfl, h5.1, ?_⟩
  rcases h5.2 with h2 | ⟨g, cap, cur, hv, hg, r⟩
  · exact .inl h2
  · exact .inr ⟨g, cap, cur, hv, by have := hb.size; omega, r⟩
set_option maxHeartbeats 1600000 in
theorem drawFirst_any (A : Option Addr) (n c : Nat) (w : World) (h : BytsA w A n c) : Calls Try.prog 16 #[.slice A n c] w (DrawnFirst w) := by
  go_enter Try.func16, Try.ntmps16
  go_wp2_with fail
  refine (l6Open_any _ _ _ _ h.read h.len h.cap).mono ?_
  rintro e w1 ⟨rb, rfl, hrb, hrd1, hb1⟩
  go_wp2_with fail
  refine (pick_n rb 0 _ _ hrd1 (by omega) (by omega) (by omega)).mono ?_
  rintro e w2 ⟨q2, hq2, rfl, hrd2, hdr2⟩
  go_wp2_with fail
  obtain ⟨n3, e2, hn3, hn5⟩ : ∃ n3 : Nat, (1 + (q2 : Int)) = (n3 : Int) ∧ 1 ≤ n3 ∧ n3 ≤ 5 := ⟨1 + q2, by omega, by omega, by omega⟩
  rw [e2]
  clear e2
  refine (l91Piles_any rb 1 n3 _ hrd2 (by omega) hn3 hn5).mono ?_
  rintro e w3 ⟨A3, m3, c3, ps, p3, rfl, hm3, hown3, hp3, hrd3, hdr3⟩
  have hrb2 := hrd2.lt
  go_wp2_with fail
  refine (pick_n rb p3 _ _ hrd3 (by omega) (by omega) (by omega)).mono ?_
  rintro e w4 ⟨q4, hq4, rfl, hrd4, hdr4⟩
  have hown4 := hown3.dr hdr4 hrb2
  have hd4 := (hdr2.trans hdr3).trans hdr4
  have hz2 := hdr2.size
  have hz4 := hd4.size
  have hrb4 := hrd4.lt
  clear hown3 hrd3 hdr3 hdr4
  by_cases hq0 : q4 = 0
  · subst hq0
    go_wp2_with fail
    refine (pick_n rb (p3 + 1) _ _ hrd4 (by omega) (by omega) (by omega)).mono ?_
    rintro e w5 ⟨q5, hq5, rfl, hrd5, hdr5⟩
    go_wp2_with fail
    refine (l91Left_any rb (p3 + 2) q5 _ hrd5 (by omega) (by omega)).mono ?_
    rintro e w6 ⟨A6, c6, bs, p6, rfl, hown6, hp6, hrd6, hdr6⟩
    go_wp2
    go_ret2
    exact drawnFirst_of ((hown4.dr hdr5 hrb2).dr hdr6 hrb2) hm3 hown6 (by omega) hb1 hrb ((hd4.trans hdr5).trans hdr6) hz2 (Nat.le_trans hz4 hdr5.size)
  · have hqb : ((q4 : Int) == 0) = false := by simp; omega
    go_wp2_with fail
    refine (l91Left_any rb (p3 + 1) n3 _ hrd4 (by omega) (by omega)).mono ?_
    rintro e w6 ⟨A6, c6, bs, p6, rfl, hown6, hp6, hrd6, hdr6⟩
    go_wp2
    go_ret2
    exact drawnFirst_of (hown4.dr hdr6 hrb2) hm3 hown6 (by omega) hb1 hrb (hd4.trans hdr6) hz2 hz4
/-- Piles and a number of candidates are drawn from a reader. -/
def DrawnNR (w : World) (rb p : Nat) (e : Ending) (w' : World) : Prop :=
  ∃ (A : Option Addr) (m c : Nat) (ps : List (ByteArray × Int)) (n p' : Nat), e = .returned (.tuple #[.slice A m c, .int .i64 n]) ∧ m ≤ 60 ∧ n ≤ 6 ∧ OwnP w' w.heap.size A m c ps ∧ p' ≤ p + 5000 ∧ Rd w' rb p' ∧ Dr rb w w'
theorem OwnP.mono' {w w0 w1 : World} {n c : Nat} {A : Option Addr} {ps : List (ByteArray × Int)} (h : OwnP w w1.heap.size A n c ps) (hz : w0.heap.size ≤ w1.heap.size) : OwnP w w0.heap.size A n c ps := h.mono hz
set_option maxHeartbeats 1600000 in
theorem l91Pairs_any (rb p : Nat) (w : World) (h : Rd w rb p) (hp : p ≤ 100) : Calls Try.prog 37 #[.pointer (some ⟨rb, 0, none⟩)] w (DrawnNR w rb p) := by
  have hrb := h.lt
  go_enter Try.func37, Try.ntmps37
  go_wp2_with fail
  refine (pick_n rb p _ _ h (by omega) (by omega) (by omega)).mono ?_
  rintro e w2 ⟨q2, hq2, rfl, hrd2, hdr2⟩
  go_wp2_with fail
  refine (pick_n rb (p + 1) _ _ hrd2 (by omega) (by omega) (by omega)).mono ?_
  rintro e w3 ⟨q3, hq3, rfl, hrd3, hdr3⟩
  have hd3 := hdr2.trans hdr3
  have hz3 := hd3.size
  by_cases hq0 : q3 = 0
  · subst hq0
    go_wp2_with fail
    refine (pick_n rb (p + 2) _ _ hrd3 (by omega) (by omega) (by omega)).mono ?_
    rintro e w4 ⟨q4, hq4, rfl, hrd4, hdr4⟩
    have hd4 := hd3.trans hdr4
    have hz4 := hd4.size
    have hcs : q4 = 0 ∨ (1 ≤ q4 ∧ q4 ≤ 5) ∨ q4 = 6 := by omega
    rcases hcs with rfl | ⟨h1, h5⟩ | rfl
    · go_wp2_with fail
      refine (l91Piles_any rb (p + 3) 1 _ hrd4 (by omega) (by omega) (by omega)).mono ?_
      rintro e w5 ⟨A5, m5, c5, ps, p5, rfl, hm5, hown5, hp5, hrd5, hdr5⟩
      go_wp2
      go_ret2
      exact ⟨A5, m5, c5, ps, 0, p5, rfl, hm5, by omega, hown5.mono' hz4, by omega, hrd5, hd4.trans hdr5⟩
    · go_wp2_with fail
      refine (l91Piles_any rb (p + 3) q4 _ hrd4 (by omega) (by omega) (by omega)).mono ?_
      rintro e w5 ⟨A5, m5, c5, ps, p5, rfl, hm5, hown5, hp5, hrd5, hdr5⟩
      go_wp2
      go_ret2
      exact ⟨A5, m5, c5, ps, q4, p5, rfl, hm5, by omega, hown5.mono' hz4, by omega, hrd5, hd4.trans hdr5⟩
    · go_wp2_with fail
      refine (l91Piles_any rb (p + 3) 5 _ hrd4 (by omega) (by omega) (by omega)).mono ?_
      rintro e w5 ⟨A5, m5, c5, ps, p5, rfl, hm5, hown5, hp5, hrd5, hdr5⟩
      go_wp2
      go_ret2
      exact ⟨A5, m5, c5, ps, 6, p5, rfl, hm5, by omega, hown5.mono' hz4, by omega, hrd5, hd4.trans hdr5⟩
  · have hqb : ((q3 : Int) == 0) = false := by simp; omega
    obtain ⟨n3, e2, hn3, hn5⟩ : ∃ n3 : Nat, (2 + (q2 : Int)) = (n3 : Int) ∧ 1 ≤ n3 ∧ n3 ≤ 5 := ⟨2 + q2, by omega, by omega, by omega⟩
    rw [e2]
    clear e2 hq2
    go_wp2_with fail
    refine (l91Piles_any rb (p + 2) n3 _ hrd3 (by omega) (by omega) (by omega)).mono ?_
    rintro e w5 ⟨A5, m5, c5, ps, p5, rfl, hm5, hown5, hp5, hrd5, hdr5⟩
    go_wp2
    go_ret2
    exact ⟨A5, m5, c5, ps, n3, p5, rfl, hm5, by omega, hown5.mono' hz3, by omega, hrd5, hd3.trans hdr5⟩
end Go.Proofs.Ythngafmnkihkgaa
