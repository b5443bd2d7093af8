/-
  Draws of votes and seats that were given.
-/
import Derived.Test.YtimldfknbeiadaaDrawG
import Derived.Test.YtimldfknbeiadaaDrawR
import Derived.Test.YtimldfknbeiadaaRemP
namespace Go.Proofs.Ytimldfknbeiadaa
open Go.ChangeShapes Go.WideShapes Go.ChangeAt Go.RowKit
theorem mem_le (l : List Int) (h : ∀ x ∈ l, 0 ≤ x) : ∀ y ∈ l, y ≤ l.sum := by
  induction l with
  | nil => simp
  | cons a t ih =>
    intro y hy
    have h1 := h a (by simp)
    have h2 := sum_nonneg t (fun x hx => h x (by simp [hx]))
    simp only [List.sum_cons]
    rcases List.mem_cons.1 hy with rfl | hy
    · omega
    · have := ih (fun x hx => h x (by simp [hx])) y hy
      omega
theorem remF_bd (xs : List Int) (s : Int) (ls : List Int) : Bd (remF xs s ls).1 := by
  unfold remF
  split
  · rename_i hc
    obtain ⟨o, _⟩ := remOk_of hc
    have f := o.fin
    intro y hy
    have h0 := f.nn y hy
    have h1 := mem_le _ f.nn y hy
    have := f.sum
    have := o.hs
    omega
  · intro y hy; simp at hy
/-- Votes, seats, a method and lots. -/
def DrawnNext (w : World) (e : Ending) (w' : World) : Prop := ∃ (A : Option Addr) (c : Nat) (xs : List Int) (A1 : Option Addr) (c1 : Nat) (gs : List Int) (m : Int) (A2 : Option Addr) (c2 : Nat) (ls : List Int),
  e = .returned (.tuple #[.slice A xs.length c, .slice A1 gs.length c1, .int .i64 m, .slice A2 ls.length c2]) ∧ DrewI w w' A c xs ∧ DrewI w w' A1 c1 gs ∧ DrewI w w' A2 c2 ls
/-- Votes, seats and a method. -/
def DrawnCheck (w : World) (e : Ending) (w' : World) : Prop := ∃ (A : Option Addr) (c : Nat) (xs : List Int) (A1 : Option Addr) (c1 : Nat) (gs : List Int) (m : Int),
  e = .returned (.tuple #[.slice A xs.length c, .slice A1 gs.length c1, .int .i64 m]) ∧ DrewI w w' A c xs ∧ DrewI w w' A1 c1 gs
/-- Votes and seats. -/
def DrawnTwo (w : World) (e : Ending) (w' : World) : Prop := ∃ (A : Option Addr) (c : Nat) (xs : List Int) (A1 : Option Addr) (c1 : Nat) (gs : List Int),
  e = .returned (.tuple #[.slice A xs.length c, .slice A1 gs.length c1]) ∧ DrewI w w' A c xs ∧ DrewI w w' A1 c1 gs ∧ Hid (Bd gs)
theorem drawnNext_of {w w1 w2 w3 w4 w' : World} {rb n c n1 c1 n2 c2 : Nat} {A A1 A2 : Option Addr} {xs gs ls : List Int} {m : Int} (h : OwnN w' w2.heap.size A n c xs) (hn : n ≤ 5) (h1 : OwnN w' w3.heap.size A1 n1 c1 gs) (hn1 : n1 ≤ 5) (h2 : OwnN w' w4.heap.size A2 n2 c2 ls) (hn2 : n2 ≤ 5) (hb : Below w.heap.size w w1) (hrb : w.heap.size ≤ rb) (hd : Dr rb w1 w') (hz : w1.heap.size ≤ w2.heap.size) (hz3 : w1.heap.size ≤ w3.heap.size) (hz4 : w1.heap.size ≤ w4.heap.size) :
    DrawnNext w (.returned (.tuple #[.slice A n c, .slice A1 n1 c1, .int .i64 m, .slice A2 n2 c2])) w' := by
  obtain ⟨rfl, q1⟩ := drewI_of h hn hb hrb hd hz
  obtain ⟨rfl, q2⟩ := drewI_of h1 hn1 hb hrb hd hz3
  obtain ⟨rfl, q3⟩ := drewI_of h2 hn2 hb hrb hd hz4
  exact ⟨A, c, xs, A1, c1, gs, m, A2, c2, ls, rfl, q1, q2, q3⟩
theorem drawnCheck_of {w w1 w2 w3 w' : World} {rb n c n1 c1 : Nat} {A A1 : Option Addr} {xs gs : List Int} {m : Int} (h : OwnN w' w2.heap.size A n c xs) (hn : n ≤ 5) (h1 : OwnN w' w3.heap.size A1 n1 c1 gs) (hn1 : n1 ≤ 5) (hb : Below w.heap.size w w1) (hrb : w.heap.size ≤ rb) (hd : Dr rb w1 w') (hz : w1.heap.size ≤ w2.heap.size) (hz3 : w1.heap.size ≤ w3.heap.size) :
    DrawnCheck w (.returned (.tuple #[.slice A n c, .slice A1 n1 c1, .int .i64 m])) w' := by
  obtain ⟨rfl, q1⟩ := drewI_of h hn hb hrb hd hz
  obtain ⟨rfl, q2⟩ := drewI_of h1 hn1 hb hrb hd hz3
  exact ⟨A, c, xs, A1, c1, gs, m, rfl, q1, q2⟩
theorem drawnTwo_of {w w1 w2 w3 w' : World} {rb n c n1 c1 : Nat} {A A1 : Option Addr} {xs gs : List Int} (hbd : Bd gs) (h : OwnN w' w2.heap.size A n c xs) (hn : n ≤ 5) (h1 : OwnN w' w3.heap.size A1 n1 c1 gs) (hn1 : n1 ≤ 5) (hb : Below w.heap.size w w1) (hrb : w.heap.size ≤ rb) (hd : Dr rb w1 w') (hz : w1.heap.size ≤ w2.heap.size) (hz3 : w1.heap.size ≤ w3.heap.size) :
    DrawnTwo w (.returned (.tuple #[.slice A n c, .slice A1 n1 c1])) w' := by
  obtain ⟨rfl, q1⟩ := drewI_of h hn hb hrb hd hz
  obtain ⟨rfl, q2⟩ := drewI_of h1 hn1 hb hrb hd hz3
  exact ⟨A, c, xs, A1, c1, gs, rfl, q1, q2, hbd⟩
set_option maxHeartbeats 1600000 in
theorem drawNext_any (A : Option Addr) (n c : Nat) (w : World) (h : BytsA w A n c) : Calls Try.prog 25 #[.slice A n c] w (DrawnNext w) := by
  go_enter Try.func25, Try.ntmps25
  go_wp2_with fail
  refine (l6Open_any _ _ _ _ h.read h.len h.cap).mono ?_
  rintro e w1 ⟨rb, rfl, hrb, hrd1, hb1⟩
  go_wp2_with fail
  refine (pick_n rb 0 _ _ hrd1 (by omega) (by omega) (by omega)).mono ?_
  rintro e w2 ⟨q2, hq2, rfl, hrd2, hdr2⟩
  go_wp2_with fail
  obtain ⟨n3, e2, hn3, hn5⟩ : ∃ n3 : Nat, (1 + (q2 : Int)) = (n3 : Int) ∧ 1 ≤ n3 ∧ n3 ≤ 5 := ⟨1 + q2, by omega, by omega, by omega⟩
  rw [e2]
  clear e2
  refine (l92Votes_any rb 1 n3 _ hrd2 (by omega) (by omega)).mono ?_
  rintro e w3 ⟨A3, c3, xs, p3, rfl, hx3, hp3, hrd3, hdr3⟩
  have hrb2 := hrd2.lt
  have hd3 := hdr2.trans hdr3
  have hz2 := hdr2.size
  go_wp2_with fail
  refine (pick_n rb p3 _ _ hrd3 (by omega) (by omega) (by omega)).mono ?_
  rintro e w4 ⟨q4, hq4, rfl, hrd4, hdr4⟩
  have hx4 := hx3.dr hdr4 hrb2
  have hd4 := hd3.trans hdr4
  clear hrd3 hd3
  have hrb4 := hrd4.lt
  go_wp2_with fail
  refine (l92Given_any rb (p3 + 1) n3 c3 A3 xs _ _ hrd4 (by omega) ⟨hx4.1, hx4.2.mono hrb2⟩ hn3 hn5).mono ?_
  rintro e w5 ⟨A5, c5, gs, n5', p5, rfl, hg5, hown5, hp5, hrd5, hdr5, hbd5⟩
  have hx5 := hx4.dr hdr5 hrb2
  have hd5 := hd4.trans hdr5
  clear hx4 hrd4
  go_wp2_with fail
  refine (pick_n rb p5 _ _ hrd5 (by omega) (by omega) (by omega)).mono ?_
  rintro e w6 ⟨q6, hq6, rfl, hrd6, hdr6⟩
  have hx6 := hx5.dr hdr6 hrb2
  have hg6 := hown5.dr hdr6 hrb4
  have hd6 := hd5.trans hdr6
  have hz4 := hd4.size
  clear hx5 hown5 hrd5 hd5 hd4
  by_cases hq0 : q6 = 0
  · subst hq0
    go_wp2_with fail
    refine (pick_n rb (p5 + 1) _ _ hrd6 (by omega) (by omega) (by omega)).mono ?_
    rintro e w7 ⟨q7, hq7, rfl, hrd7, hdr7⟩
    go_wp2_with fail
    refine (l91Lots_any rb (p5 + 2) n3 _ hrd7 (by omega) hn3 hn5).mono ?_
    rintro e w8 ⟨A8, c8, ls, m8, p8, rfl, hm8, hown8, hp8, hrd8, hdr8⟩
    go_wp2
    refine bodyPost_ret (v := .tuple #[.slice A3 n3 c3, .slice A5 n5' c5, .int .i64 q7, .slice A8 m8 c8]) ?_ rfl (drawnNext_of ((hx6.dr hdr7 hrb2).dr hdr8 hrb2) hn5 ((hg6.dr hdr7 hrb4).dr hdr8 hrb4) hg5 hown8 (by omega) hb1 hrb ((hd6.trans hdr7).trans hdr8) hz2 hz4 (hd6.trans hdr7).size)
    simp [results, Try.results25, go_sem]
  · have hqb : ((q6 : Int) == 0) = false := by simp; omega
    go_wp2_with fail
    refine (l91Lots_any rb (p5 + 1) n3 _ hrd6 (by omega) hn3 hn5).mono ?_
    rintro e w8 ⟨A8, c8, ls, m8, p8, rfl, hm8, hown8, hp8, hrd8, hdr8⟩
    go_wp2
    refine bodyPost_ret (v := .tuple #[.slice A3 n3 c3, .slice A5 n5' c5, .int .i64 (1 + q4), .slice A8 m8 c8]) ?_ rfl (drawnNext_of (hx6.dr hdr8 hrb2) hn5 (hg6.dr hdr8 hrb4) hg5 hown8 (by omega) hb1 hrb (hd6.trans hdr8) hz2 hz4 hd6.size)
    simp [results, Try.results25, go_sem]
set_option maxHeartbeats 1600000 in
theorem drawFair_any (A : Option Addr) (n c : Nat) (w : World) (h : BytsA w A n c) : Calls Try.prog 32 #[.slice A n c] w (DrawnTwo w) := by
  go_enter Try.func32, Try.ntmps32
  go_wp2_with fail
  refine (l6Open_any _ _ _ _ h.read h.len h.cap).mono ?_
  rintro e w1 ⟨rb, rfl, hrb, hrd1, hb1⟩
  go_wp2_with fail
  refine (pick_n rb 0 _ _ hrd1 (by omega) (by omega) (by omega)).mono ?_
  rintro e w2 ⟨q2, hq2, rfl, hrd2, hdr2⟩
  go_wp2_with fail
  obtain ⟨n3, e2, hn3, hn5⟩ : ∃ n3 : Nat, (1 + (q2 : Int)) = (n3 : Int) ∧ 1 ≤ n3 ∧ n3 ≤ 5 := ⟨1 + q2, by omega, by omega, by omega⟩
  rw [e2]
  clear e2
  refine (l92Votes_any rb 1 n3 _ hrd2 (by omega) (by omega)).mono ?_
  rintro e w3 ⟨A3, c3, xs, p3, rfl, hx3, hp3, hrd3, hdr3⟩
  have hrb2 := hrd2.lt
  have hd3 := hdr2.trans hdr3
  have hz2 := hdr2.size
  go_wp2_with fail
  refine (pick_n rb p3 _ _ hrd3 (by omega) (by omega) (by omega)).mono ?_
  rintro e w4 ⟨q4, hq4, rfl, hrd4, hdr4⟩
  have hx4 := hx3.dr hdr4 hrb2
  have hd4 := hd3.trans hdr4
  have hz4 := hd4.size
  clear hrd3 hd3
  have hrb4 := hrd4.lt
  by_cases hq0 : q4 = 0
  · subst hq0
    go_wp2_with fail
    refine (l92Given_any rb (p3 + 1) n3 c3 A3 xs _ _ hrd4 (by omega) ⟨hx4.1, hx4.2.mono hrb2⟩ hn3 hn5).mono ?_
    rintro e w5 ⟨A5, c5, gs, n5', p5, rfl, hg5, hown5, hp5, hrd5, hdr5, hbd5⟩
    go_wp2
    go_ret2
    exact drawnTwo_of hbd5 (hx4.dr hdr5 hrb2) hn5 hown5 hg5 hb1 hrb (hd4.trans hdr5) hz2 hz4
  · have hqb : ((q4 : Int) == 0) = false := by simp; omega
    go_wp2_with fail
    refine (pick_n rb (p3 + 1) _ _ hrd4 (by omega) (by omega) (by omega)).mono ?_
    rintro e w5 ⟨q5, hq5, rfl, hrd5, hdr5⟩
    have hx5 := hx4.dr hdr5 hrb2
    have hd5 := hd4.trans hdr5
    have hrb5 := hrd5.lt
    go_wp2_with fail
    refine (l91Lots_any rb (p3 + 2) n3 _ hrd5 (by omega) hn3 hn5).mono ?_
    rintro e w6 ⟨A6, c6, ls, m6, p6, rfl, hm6, hown6, hp6, hrd6, hdr6⟩
    have hx6 := hx5.dr hdr6 hrb2
    have hd6 := hd5.trans hdr6
    obtain ⟨hxl, hx6⟩ := hx6
    obtain ⟨hll, hl6⟩ := hown6
    subst hxl
    subst hll
    have cR := specRem_any A3 A6 xs ls c3 c6 (q5 : Int) w6 hx6.ints hl6.ints (by omega) (by omega) hl6.le_cap
    have hrl := remF_len (xs := xs) (by omega) (q5 : Int) ls
    have cR := Lib.hid cR
    obtain ⟨r, hr⟩ : ∃ r, remF xs (q5 : Int) ls = r := ⟨_, rfl⟩
    rw [hr] at cR hrl
    have hbz : Bd r.1 := by rw [← hr]; exact remF_bd _ _ _
    clear hr
    obtain ⟨zs, b⟩ := r
    have hbz : Bd zs := hbz
    have hrl : zs.length ≤ 5 := hrl
    go_wp2_with fail
    refine cR.out.mono ?_
    rintro e w7 ⟨A7, c7, rfl, ho7, hb7⟩
    go_wp2
    go_ret2
    exact drawnTwo_of (w3 := w6) hbz ⟨rfl, hx6.below hb7⟩ hn5 ⟨rfl, ho7⟩ hrl hb1 hrb (hd6.below (hb7.mono hd6.size)) hz2 hd6.size
set_option maxHeartbeats 400000 in
theorem drawGap_any (A : Option Addr) (n c : Nat) (w : World) (h : BytsA w A n c) : Calls Try.prog 29 #[.slice A n c] w (DrawnTwo w) := by
  go_enter Try.func29, Try.ntmps29
  go_wp2_with fail
  refine (drawFair_any _ _ _ _ h).mono ?_
  rintro e w1 ⟨A1, c1, xs, A2, c2, gs, rfl, h1, h2, h3⟩
  go_wp2
  go_ret2
  exact ⟨A1, c1, xs, A2, c2, gs, rfl, h1, h2, h3⟩
set_option maxHeartbeats 400000 in
theorem drawSquares_any (A : Option Addr) (n c : Nat) (w : World) (h : BytsA w A n c) : Calls Try.prog 35 #[.slice A n c] w (DrawnTwo w) := by
  go_enter Try.func35, Try.ntmps35
  go_wp2_with fail
  refine (drawFair_any _ _ _ _ h).mono ?_
  rintro e w1 ⟨A1, c1, xs, A2, c2, gs, rfl, h1, h2, h3⟩
  go_wp2
  go_ret2
  exact ⟨A1, c1, xs, A2, c2, gs, rfl, h1, h2, h3⟩
end Go.Proofs.Ytimldfknbeiadaa
