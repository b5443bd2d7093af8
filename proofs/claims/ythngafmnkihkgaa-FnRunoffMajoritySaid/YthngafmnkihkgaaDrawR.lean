/-
  Draws of a contest: piles and lots.
-/
import Derived.Test.YthngafmnkihkgaaDrawF
import Derived.Test.YthngafmnkihkgaaLotsE
namespace Go.Proofs.Ythngafmnkihkgaa
open Go.ChangeShapes Go.WideShapes Go.ChangeAt Go.RowKit
def DrawnC (w : World) (rb p : Nat) (e : Ending) (w' : World) : Prop :=
  ∃ (A : Option Addr) (m c : Nat) (ps : List (ByteArray × Int)) (B : Option Addr) (d m2 : Nat) (ls : List Int) (p' : Nat), e = .returned (.tuple #[.slice A m c, .slice B m2 d]) ∧ m ≤ 60 ∧ OwnP w' w.heap.size A m c ps ∧ m2 ≤ 5 ∧ OwnN w' w.heap.size B m2 d ls ∧ p' ≤ p + 5000 ∧ Rd w' rb p' ∧ Dr rb w w'
set_option maxRecDepth 100000 in
set_option maxHeartbeats 3200000 in
theorem l91Contest_any (rb p : Nat) (w : World) (h : Rd w rb p) (hp : p ≤ 100) : Calls Try.prog 56 #[.pointer (some ⟨rb, 0, none⟩)] w (DrawnC w rb p) := by
  have hrb := h.lt
  go_enter Try.func56, Try.ntmps56
  go_wp2_with fail
  refine (pick_n rb p _ _ h (by omega) (by omega) (by omega)).mono ?_
  rintro e w2 ⟨q2, hq2, rfl, hrd2, hdr2⟩
  go_wp2_with fail
  refine (pick_n rb (p + 1) _ _ hrd2 (by omega) (by omega) (by omega)).mono ?_
  rintro e w3 ⟨q3, hq3, rfl, hrd3, hdr3⟩
  have hd3 := hdr2.trans hdr3
  have hz3 := hd3.size
  obtain ⟨n3, e2, hn3, hn5⟩ : ∃ n3 : Nat, (1 + (q2 : Int)) = (n3 : Int) ∧ 1 ≤ n3 ∧ n3 ≤ 5 := ⟨1 + q2, by omega, by omega, by omega⟩
  rw [e2]
  clear e2 hq2
  by_cases hq0 : q3 = 0
  · subst hq0
    go_wp2_with fail
    refine (l91Piles_any rb (p + 2) 3 _ hrd3 (by omega) (by omega) (by omega)).mono ?_
    rintro e w5 ⟨A5, m5, c5, ps, p5, rfl, hm5, hown5, hp5, hrd5, hdr5⟩
    have hd5 := hd3.trans hdr5
    have hz5 := hd5.size
    have hown5 := hown5.mono' hz3
    clear hdr5
    go_wp2_with fail
    refine (pick_n rb p5 _ _ hrd5 (by omega) (by omega) (by omega)).mono ?_
    rintro e w6 ⟨q6, hq6, rfl, hrd6, hdr6⟩
    have hd6 := hd5.trans hdr6
    have hz6 := hd6.size
    have hown6 := hown5.dr hdr6 hrb
    clear hown5 hdr6
    by_cases hz : q6 = 0
    · subst hz
      go_wp2_with fail
      refine (pick_n rb (p5 + 1) _ _ hrd6 (by omega) (by omega) (by omega)).mono ?_
      rintro e w7 ⟨q7, hq7, rfl, hrd7, hdr7⟩
      have hd7 := hd6.trans hdr7
      have hz7 := hd7.size
      have hown7 := hown6.dr hdr7 hrb
      go_wp2_with fail
      obtain ⟨n7, e7, hn7, hn75⟩ : ∃ n7 : Nat, (1 + (q7 : Int)) = (n7 : Int) ∧ 1 ≤ n7 ∧ n7 ≤ 5 := ⟨1 + q7, by omega, by omega, by omega⟩
      rw [e7]
      clear e7 hq7 hown6 hdr7
      refine (l91Lots_any rb (p5 + 2) n7 _ hrd7 (by omega) (by omega) (by omega)).mono ?_
      rintro e w8 ⟨A8, c8, ls, m8, p8, rfl, hm8, hown8, hp8, hrd8, hdr8⟩
      go_wp2
      go_ret2
      exact ⟨A5, m5, c5, ps, A8, c8, m8, ls, p8, rfl, hm5, hown7.dr hdr8 hrb, by omega, ⟨hown8.1, hown8.2.mono hz7⟩, by omega, hrd8, hd7.trans hdr8⟩
    · have hqb : ((q6 : Int) == 0) = false := by simp; omega
      go_wp2_with fail
      refine (l91Lots_any rb (p5 + 1) 3 _ hrd6 (by omega) (by omega) (by omega)).mono ?_
      rintro e w8 ⟨A8, c8, ls, m8, p8, rfl, hm8, hown8, hp8, hrd8, hdr8⟩
      go_wp2
      go_ret2
      exact ⟨A5, m5, c5, ps, A8, c8, m8, ls, p8, rfl, hm5, hown6.dr hdr8 hrb, by omega, ⟨hown8.1, hown8.2.mono hz6⟩, by omega, hrd8, hd6.trans hdr8⟩
  · have hqb3 : ((q3 : Int) == 0) = false := by simp; omega
    go_wp2_with fail
    refine (l91Piles_any rb (p + 2) n3 _ hrd3 (by omega) (by omega) (by omega)).mono ?_
    rintro e w5 ⟨A5, m5, c5, ps, p5, rfl, hm5, hown5, hp5, hrd5, hdr5⟩
    have hd5 := hd3.trans hdr5
    have hz5 := hd5.size
    have hown5 := hown5.mono' hz3
    clear hdr5
    go_wp2_with fail
    refine (pick_n rb p5 _ _ hrd5 (by omega) (by omega) (by omega)).mono ?_
    rintro e w6 ⟨q6, hq6, rfl, hrd6, hdr6⟩
    have hd6 := hd5.trans hdr6
    have hz6 := hd6.size
    have hown6 := hown5.dr hdr6 hrb
    clear hown5 hdr6
    by_cases hz : q6 = 0
    · subst hz
      go_wp2_with fail
      refine (pick_n rb (p5 + 1) _ _ hrd6 (by omega) (by omega) (by omega)).mono ?_
      rintro e w7 ⟨q7, hq7, rfl, hrd7, hdr7⟩
      have hd7 := hd6.trans hdr7
      have hz7 := hd7.size
      have hown7 := hown6.dr hdr7 hrb
      go_wp2_with fail
      obtain ⟨n7, e7, hn7, hn75⟩ : ∃ n7 : Nat, (1 + (q7 : Int)) = (n7 : Int) ∧ 1 ≤ n7 ∧ n7 ≤ 5 := ⟨1 + q7, by omega, by omega, by omega⟩
      rw [e7]
      clear e7 hq7 hown6 hdr7
      refine (l91Lots_any rb (p5 + 2) n7 _ hrd7 (by omega) (by omega) (by omega)).mono ?_
      rintro e w8 ⟨A8, c8, ls, m8, p8, rfl, hm8, hown8, hp8, hrd8, hdr8⟩
      go_wp2
      go_ret2
      exact ⟨A5, m5, c5, ps, A8, c8, m8, ls, p8, rfl, hm5, hown7.dr hdr8 hrb, by omega, ⟨hown8.1, hown8.2.mono hz7⟩, by omega, hrd8, hd7.trans hdr8⟩
    · have hqb : ((q6 : Int) == 0) = false := by simp; omega
      go_wp2_with fail
      refine (l91Lots_any rb (p5 + 1) n3 _ hrd6 (by omega) (by omega) (by omega)).mono ?_
      rintro e w8 ⟨A8, c8, ls, m8, p8, rfl, hm8, hown8, hp8, hrd8, hdr8⟩
      go_wp2
      go_ret2
      exact ⟨A5, m5, c5, ps, A8, c8, m8, ls, p8, rfl, hm5, hown6.dr hdr8 hrb, by omega, ⟨hown8.1, hown8.2.mono hz6⟩, by omega, hrd8, hd6.trans hdr8⟩
def DrawnCon (w : World) (e : Ending) (w' : World) : Prop := ∃ (A : Option Addr) (c : Nat) (ps : List (ByteArray × Int)) (B : Option Addr) (d : Nat) (ls : List Int),
  e = .returned (.tuple #[.slice A ps.length c, .slice B ls.length d]) ∧ DrewP w w' A c ps ∧ ls.length ≤ 5 ∧ OwnI w' w.heap.size B d ls
theorem drawnCon_of {w w1 w2 w' : World} {rb m c m2 d : Nat} {A B : Option Addr} {ps : List (ByteArray × Int)} {ls : List Int} (h : OwnP w' w2.heap.size A m c ps) (hm : m ≤ 60) (h2 : OwnN w' w2.heap.size B m2 d ls) (hm2 : m2 ≤ 5) (hb : Below w.heap.size w w1) (hrb : w.heap.size ≤ rb) (hd : Dr rb w1 w') (hz : w1.heap.size ≤ w2.heap.size) :
    DrawnCon w (.returned (.tuple #[.slice A m c, .slice B m2 d])) w' := by
  obtain ⟨rfl, h4⟩ := drewP_of h hm hb hrb hd hz
  obtain ⟨rfl, h5⟩ := h2
  exact ⟨A, c, ps, B, d, ls, rfl, h4, hm2, h5.mono (by have := hb.size; omega)⟩
theorem drawRunoffRounds_any (A : Option Addr) (n c : Nat) (w : World) (h : BytsA w A n c) : Calls Try.prog 27 #[.slice A n c] w (DrawnCon w) := by
  go_enter Try.func27, Try.ntmps27
  go_wp2_with fail
  refine (l6Open_any _ _ _ _ h.read h.len h.cap).mono ?_
  rintro e w1 ⟨rb, rfl, hrb, hrd1, hb1⟩
  go_wp2_with fail
  refine (l91Contest_any rb 0 _ hrd1 (by omega)).mono ?_
  rintro e w2 ⟨A2, m2, c2, ps, B, d, k2, ls, p2, rfl, hm2, hown2, hk2, hl2, hp2, hrd2, hdr2⟩
  go_wp2
  go_ret2
  exact drawnCon_of hown2 hm2 hl2 hk2 hb1 hrb hdr2 (Nat.le_refl _)
theorem drawRunoffWinner_any (A : Option Addr) (n c : Nat) (w : World) (h : BytsA w A n c) : Calls Try.prog 32 #[.slice A n c] w (DrawnCon w) := by
  go_enter Try.func32, Try.ntmps32
  go_wp2_with fail
  refine (l6Open_any _ _ _ _ h.read h.len h.cap).mono ?_
  rintro e w1 ⟨rb, rfl, hrb, hrd1, hb1⟩
  go_wp2_with fail
  refine (l91Contest_any rb 0 _ hrd1 (by omega)).mono ?_
  rintro e w2 ⟨A2, m2, c2, ps, B, d, k2, ls, p2, rfl, hm2, hown2, hk2, hl2, hp2, hrd2, hdr2⟩
  go_wp2
  go_ret2
  exact drawnCon_of hown2 hm2 hl2 hk2 hb1 hrb hdr2 (Nat.le_refl _)
end Go.Proofs.Ythngafmnkihkgaa
