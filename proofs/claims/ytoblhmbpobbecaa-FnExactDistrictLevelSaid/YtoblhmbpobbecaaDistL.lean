/-
  Further seats that make up for districts, of the program and of the reference.
-/
import Derived.Test.YtoblhmbpobbecaaDistG
namespace Go.Proofs.Ytoblhmbpobbecaa
open Go.RowKit
theorem le_sum_of (l : List Int) (h : ∀ x ∈ l, 0 ≤ x) : 0 ≤ l.sum ∧ ∀ y ∈ l, y ≤ l.sum := by
  induction l with
  | nil => simp
  | cons a t ih =>
    have h1 := h a (by simp)
    obtain ⟨h2, h3⟩ := ih (fun x hx => h x (by simp [hx]))
    simp only [List.sum_cons]
    refine ⟨by omega, fun y hy => ?_⟩
    rcases List.mem_cons.1 hy with rfl | hy
    · omega
    · have := h3 y hy
      omega
/-- The given and the further seats after k rounds. -/
def levN (ts us : List Int) (m : Int) (ls : List Int) : Nat → List Int × List Int
  | 0 => (us, List.replicate ts.length 0)
  | k + 1 => (bump (levN ts us m ls k).1 (nextP ts (levN ts us m ls k).1 m ls), bump (levN ts us m ls k).2 (nextP ts (levN ts us m ls k).1 m ls))
/-- What the rounds need. -/
structure LevOk (ts us : List Int) (m : Int) (ls : List Int) (b n : Nat) : Prop where
  dc : divC ts m ls = true
  gv : Given ts us b
  bn : b + n ≤ 20
theorem LevOk.at_ {ts us : List Int} {m : Int} {ls : List Int} {b n : Nat} (o : LevOk ts us m ls b n) (k : Nat) (hk : k ≤ n) : Given ts (levN ts us m ls k).1 (b + k) ∧ Given ts (levN ts us m ls k).2 k := by
  induction k with
  | zero => exact ⟨o.gv, Given.zero ts⟩
  | succ k ih =>
    obtain ⟨h1, h2⟩ := ih (by omega)
    obtain ⟨q, hq, hlt⟩ := nextP_lt ((divOk_of o.dc).1.next h1 (by have := o.bn; omega))
    refine ⟨?_, ?_⟩
    · show Given ts (Go.Proofs.Ytoblhmbpobbecaa.bump _ _) _
      rw [hq]; exact h1.bump hlt
    · show Given ts (Go.Proofs.Ytoblhmbpobbecaa.bump _ _) _
      rw [hq]; exact h2.bump hlt
theorem LevOk.step {ts us : List Int} {m : Int} {ls : List Int} {b n : Nat} (o : LevOk ts us m ls b n) (k : Nat) (hk : k < n) :
    ∃ q : Nat, nextP ts (levN ts us m ls k).1 m ls = q ∧ q < ts.length ∧ (levN ts us m ls (k + 1)).1 = bump (levN ts us m ls k).1 q ∧ (levN ts us m ls (k + 1)).2 = bump (levN ts us m ls k).2 q := by
  obtain ⟨h1, h2⟩ := o.at_ k (by omega)
  obtain ⟨q, hq, hlt⟩ := nextP_lt ((divOk_of o.dc).1.next h1 (by have := o.bn; omega))
  refine ⟨q, hq, hlt, ?_, ?_⟩
  · show bump _ _ = _; rw [hq]
  · show bump _ _ = _; rw [hq]
theorem DsOk.apSum' {xss : List (List Int)} {k : Nat} {m : Int} {ls : List Int} (o : DsOk xss k m ls) : (tog (wid xss) (dsR xss m ls k)).sum = (k : Int) * xss.length := by
  rw [tog_sum o.row]
  have hk : k ≤ 20 := by
    have := Nat.le_mul_of_pos_right k (show 0 < xss.length from o.dv.l1.1)
    have := o.hk
    omega
  have key : ∀ l : List (List Int), (∀ xs ∈ l, xs ∈ xss) → ((l.map fun xs => giveN xs m ls k).map List.sum).sum = (k : Int) * l.length := by
    intro l
    induction l with
    | nil => intro _; simp
    | cons a t ih =>
      intro h
      have ha := h a (by simp)
      have hc : divC a m ls = true := by simp [divC, o.dv.row a ha, o.mm, o.lv, o.ll, o.dv.len a ha]
      simp only [List.map_cons, List.sum_cons, List.length_cons, ((divOk_of hc).1.given k (by omega)).sum, ih (fun xs hx => h xs (by simp [hx]))]
      push_cast
      rw [Int.mul_add, Int.mul_one]; omega
  exact key xss (fun _ h => h)
theorem DsOk.level {xss : List (List Int)} {k n : Nat} {m : Int} {ls : List Int} (o : DsOk xss k m ls) (hn : k * xss.length + n ≤ 20) : LevOk (tog (wid xss) xss) (tog (wid xss) (dsR xss m ls k)) m ls (k * xss.length) n := by
  have hs := o.apSum'
  have hs2 : (tog (wid xss) (dsR xss m ls k)).sum = ((k * xss.length : Nat) : Int) := by rw [hs]; push_cast; rfl
  have nn : ∀ u ∈ tog (wid xss) (dsR xss m ls k), 0 ≤ u := fun u hu => (o.gap.ba u hu).1
  refine ⟨by simp [divC, o.dv.all, o.mm, o.lv, o.ll, tog_len], ⟨by rw [tog_len, tog_len], fun u hu => ⟨nn u hu, ?_⟩, hs2⟩, hn⟩
  have := (le_sum_of _ nn).2 u hu
  rw [hs2] at this
  exact this
def levC (xss : List (List Int)) (s f m : Int) (ls : List Int) : Bool := dsC xss s m ls && inB f 0 20 && decide (s * xss.length + f ≤ 20)
/-- The further seats. -/
def levF (xss : List (List Int)) (s f m : Int) (ls : List Int) : List Int × Bool := if levC xss s f m ls = true then ((levN (tog (wid xss) xss) (tog (wid xss) (dsR xss m ls s.toNat)) m ls f.toNat).2, true) else ([], false)
theorem levF_f {xss : List (List Int)} {s f m : Int} {ls : List Int} (h : levC xss s f m ls = false) : levF xss s f m ls = ([], false) := by unfold levF; rw [h]; rfl
theorem levF_t {xss : List (List Int)} {k n : Nat} {m : Int} {ls : List Int} (h : levC xss k n m ls = true) : levF xss k n m ls = ((levN (tog (wid xss) xss) (tog (wid xss) (dsR xss m ls k)) m ls n).2, true) := by unfold levF; rw [if_pos h]; rfl
/-- Two slices of the call's own. -/
structure Lv (w wr : World) (g z c1 c2 : Nat) (xs ys : List Int) : Prop where
  ne : g ≠ z
  b1 : w.heap.size ≤ g
  b2 : w.heap.size ≤ z
  o1 : OwnI wr w.heap.size (some ⟨g, 0, none⟩) c1 xs
  o2 : OwnI wr w.heap.size (some ⟨z, 0, none⟩) c2 ys
  bel : Below w.heap.size w wr
theorem lv_grown (w : World) (g k : Nat) (u : Value) : w.grownBy (w.setCell ⟨g, k, none⟩ u) (some g) := grown_setCell (grown_refl w _) k u
section
variable {w wr w2 : World} {g z c1 c2 : Nat} {xs ys : List Int}
theorem Lv.swap (T : Lv w wr g z c1 c2 xs ys) : Lv w wr z g c2 c1 ys xs := ⟨T.ne.symm, T.b2, T.b1, T.o2, T.o1, T.bel⟩
theorem Lv.set1 (T : Lv w wr g z c1 c2 xs ys) (k : Nat) (x : Int) : Lv w (wr.setCell ⟨g, k, none⟩ (.int .i64 x)) g z c1 c2 (xs.set k x) ys :=
  ⟨T.ne, T.b1, T.b2, T.o1.set k x, T.o2.grown (lv_grown wr g k _) (fun j hj e => by
    injection hj with hj
    injection e with e
    exact T.ne (hj.trans e.symm)), T.bel.setCell T.b1 _⟩
theorem Lv.set2 (T : Lv w wr g z c1 c2 xs ys) (k : Nat) (x : Int) : Lv w (wr.setCell ⟨z, k, none⟩ (.int .i64 x)) g z c1 c2 xs (ys.set k x) := (T.swap.set1 k x).swap
theorem Lv.drewN (T : Lv w wr g z c1 c2 xs ys) (m : Nat) : Lv w (wr.drewN m) g z c1 c2 xs ys := ⟨T.ne, T.b1, T.b2, T.o1.drewN m, T.o2.drewN m, below_drewN T.bel m⟩
theorem Lv.congr {xs' ys' : List Int} (T : Lv w wr g z c1 c2 xs ys) (e1 : xs = xs') (e2 : ys = ys') : Lv w wr g z c1 c2 xs' ys' := e1 ▸ e2 ▸ T
theorem Lv.below (T : Lv w wr g z c1 c2 xs ys) (h : Below wr.heap.size wr w2) : Lv w w2 g z c1 c2 xs ys := ⟨T.ne, T.b1, T.b2, T.o1.below h, T.o2.below h, T.bel.trans (h.mono T.bel.size)⟩
end
set_option maxHeartbeats 1600000 in
theorem implDL_any (A A2 : Option Addr) (xss : List (List Int)) (ls : List Int) (c c2 : Nat) (s f m : Int) (w : World) (h : RowsI w A xss) (h2 : Ints w A2 ls) (hl : tot xss ≤ 1048576) (hl3 : ls.length ≤ 1048576) (hcap : ls.length ≤ c2) :
    Calls Try.prog 29 #[.slice A xss.length c, .int .i64 s, .int .i64 f, .int .i64 m, .slice A2 ls.length c2] w (NewIB w (levF xss s f m ls)) := by
  have cS := Lib.hid (implDS_any A A2 xss ls c c2 s m w h h2 hl hl3 hcap)
  obtain ⟨r, hr⟩ : ∃ r, dsC xss s m ls = r := ⟨_, rfl⟩
  cases r
  · rw [dsF_f hr] at cS
    have hq := Lib.hid (levF_f (f := f) (by unfold levC; rw [hr]; simp))
    clear hr
    go_enter Try.func29, Try.ntmps29
    go_wp2_with (go_at_call 24; refine cS.out.mono ?_; rintro e w1 ⟨A3, c3, rfl, ho3, hb1⟩)
    go_ret2
    exact newIB_of hq.out rfl (OwnI.nil _ _) hb1
  obtain ⟨k, rfl, hk20, o⟩ := dsOk_of hr
  rw [dsF_k hr] at cS
  obtain ⟨hx1, hx4⟩ := o.dv.l1
  obtain ⟨hw1, hw5⟩ := o.dv.wd
  obtain ⟨p0, p1⟩ := mul_bd (a := (k : Int)) (b := (xss.length : Int)) (M := 20) (N := 4) ⟨by omega, by omega⟩ ⟨by omega, by omega⟩
  have hkx : (k : Int) * (xss.length : Int) ≤ 20 := by have := o.hk; exact_mod_cast this
  clear p1
  by_cases hf0 : 0 ≤ f
  case neg =>
    have hq := Lib.hid (levF_f (xss := xss) (s := k) (f := f) (m := m) (ls := ls) (by unfold levC; rw [inB_f (by omega)]; simp))
    clear hr o
    go_enter Try.func29, Try.ntmps29
    go_wp2_with (go_at_call 24; refine cS.out.mono ?_; rintro e w1 ⟨A3, c3, rfl, ho3, hb1⟩)
    go_ret2
    exact newIB_of hq.out rfl (OwnI.nil _ _) hb1
  by_cases hf1 : (k : Int) * (xss.length : Int) + f ≤ 20
  case neg =>
    have hq := Lib.hid (levF_f (xss := xss) (s := k) (f := f) (m := m) (ls := ls) (by unfold levC; simp [hf1]))
    have hf2 : 20 - (k : Int) * (xss.length : Int) < f := by omega
    clear hr o hf1
    go_enter Try.func29, Try.ntmps29
    go_wp2_with (go_at_call 24; refine cS.out.mono ?_; rintro e w1 ⟨A3, c3, rfl, ho3, hb1⟩)
    go_ret2
    exact newIB_of hq.out rfl (OwnI.nil _ _) hb1
  obtain ⟨n, rfl⟩ := Int.eq_ofNat_of_zero_le hf0
  have hf2 : ¬ 20 - (k : Int) * (xss.length : Int) < (n : Int) := by omega
  have hn20 : n ≤ 20 := by omega
  have hq := Lib.hid (levF_t (xss := xss) (k := k) (n := n) (m := m) (ls := ls) (by unfold levC; rw [hr, inB_t (by omega)]; simp; exact hf1))
  have L := Lib.hid (o.level (n := n) (by exact_mod_cast hf1))
  have cT := Lib.hid (fun (w : World) (h : RowsI w A xss) => together_any A xss c (wid xss) w h (by omega) (by omega) (by omega) o.dv.len o.dv.bd)
  have cA := Lib.hid (fun (A : Option Addr) (c : Nat) (w : World) (h : RowsI w A (dsR xss m ls k)) => together_any A (dsR xss m ls k) c (wid xss) w h (by rw [dsR_len]; omega) (by rw [dsR_len]; omega) (by omega) o.row (fun ys hy y hyy => by have := o.bd ys hy y hyy; omega))
  have htl := tog_len (wid xss) xss
  have hul := o.gap.la
  generalize tog (wid xss) (dsR xss m ls k) = us at *
  generalize tog (wid xss) xss = ts at *
  generalize wid xss = N at *
  have cM := Lib.hid (show ∀ j, j < n → ∃ q : Nat, q < N ∧ Hid ((levN ts us m ls (j + 1)).1 = bump (levN ts us m ls j).1 q) ∧ Hid ((levN ts us m ls (j + 1)).2 = bump (levN ts us m ls j).2 q) ∧ ∀ (B A' : Option Addr) (d c' : Nat) (w : World) (h : Ints w B ts) (h' : Ints w A' (levN ts us m ls j).1) (h2 : Ints w A2 ls), Calls Try.prog 58 #[.slice B N d, .slice A' N c', .int .i64 m, .slice A2 ls.length c2] w (Qt w (.int .i64 q)) from fun j hj => by
    obtain ⟨g1, g2⟩ := L.out.at_ j (by omega)
    obtain ⟨q, e, hlt, e1, e2⟩ := L.out.step j hj
    refine ⟨q, by omega, e1, e2, fun B A' d c' w h h' h2 => ?_⟩
    have := implNext_any B A' A2 ts (levN ts us m ls j).1 ls d c' c2 m w h h' h2 (by omega) (by rw [g1.len]; omega) hl3 hcap
    rw [nextF_t L.out.dc g1 (by have := L.out.bn; omega), e, g1.len, htl] at this
    exact this)
  have HL := Lib.hid (show ∀ j, j ≤ n → ((levN ts us m ls j).1.length = N ∧ ∀ g ∈ (levN ts us m ls j).1, 0 ≤ g ∧ g ≤ 40) ∧ (levN ts us m ls j).2.length = N ∧ ∀ g ∈ (levN ts us m ls j).2, 0 ≤ g ∧ g ≤ 40 from fun j hj => by
    obtain ⟨g1, g2⟩ := L.out.at_ j hj
    have := L.out.bn
    refine ⟨⟨by rw [g1.len, htl], fun g hg => by have := g1.bd g hg; omega⟩, by rw [g2.len, htl], fun g hg => by have := g2.bd g hg; omega⟩)
  have h0 := Lib.hid (show levN ts us m ls 0 = (us, List.replicate N 0) by rw [← htl]; rfl)
  clear hr o hf1
  go_enter Try.func29, Try.ntmps29
  go_wp2_with fail
  refine cS.out.mono ?_
  rintro e w1 ⟨A3, c3, rfl, ho3, hb1⟩
  go_wp2_with fail
  refine (cA.out _ _ _ ho3.rows).mono ?_
  rintro e w2 ⟨A6, c6, rfl, ho6, hb2⟩
  have hB2 := hb1.trans (hb2.mono hb1.size)
  obtain ⟨g6, rfl, hg6, hg6l⟩ := ho6.form (by omega)
  have hs1 := hb1.size
  have hs2 := hb2.size
  clear ho3
  go_wp2_with (at_make; refine wpList_makeI _ rfl _ _ rfl N rfl rfl (by omega) ?_; intro w3 hown hbel hsz)
  have T0 : Lv w w3 g6 w2.heap.size c6 N us (List.replicate N 0) := ⟨by omega, by omega, by omega, (ho6.below hbel).mono (by omega), hown.mono (by omega), hB2.trans (hbel.mono hB2.size)⟩
  have T0 := Lib.hid (T0.congr (show us = (levN ts us m ls 0).1 by rw [h0.out]) (show _ = (levN ts us m ls 0).2 by rw [h0.out]))
  generalize w2.heap.size = z at *
  clear hown hbel hsz ho6
  go_loopw [16, 46] (fun _ i wr => ∃ j : Nat, j ≤ n ∧ i = .int .i64 j ∧ Lv w wr g6 z c6 N (levN ts us m ls j).1 (levN ts us m ls j).2) (fun _ i _ => n - (intOf i).toNat)
  case atStart => exact ⟨0, by omega, rfl, T0.out⟩
  case round =>
    obtain ⟨j, hj, rfl, T⟩ := hrel
    by_cases hlt : j < n
    · obtain ⟨q, hqn, hs1, hs2, cQ⟩ := cM.out j hlt
      have cQ := Lib.hid cQ
      obtain ⟨⟨hL1, hB1⟩, hL2, hB2⟩ := HL.out j (by omega)
      obtain ⟨g, hg⟩ : ∃ g, (levN ts us m ls j).1[q]? = some g := ⟨_, List.getElem?_eq_getElem (by rw [hL1]; exact hqn)⟩
      obtain ⟨y, hy⟩ : ∃ y, (levN ts us m ls j).2[q]? = some y := ⟨_, List.getElem?_eq_getElem (by rw [hL2]; exact hqn)⟩
      obtain ⟨hg0, hg1⟩ := hB1 g (mem_of_at hg)
      obtain ⟨hy0, hy1⟩ := hB2 y (mem_of_at hy)
      have e1 := Lib.hid (hs1.out.trans (bump_at hg))
      have e2 := Lib.hid (hs2.out.trans (bump_at hy))
      have hg := Lib.hid hg
      have hy := Lib.hid hy
      clear hL1 hL2 hB1 hB2
      go_wp2_with (first | (go_at_call 54; refine (cT.out _ (h.below T.bel)).mono ?_; rintro e w4 ⟨A4, c4, rfl, ho4, hb4⟩; have T4 := T.below hb4) | (go_at_call 58; refine (cQ.out _ _ _ _ _ ho4.ints T4.o1.ints (h2.below T4.bel)).mono ?_; rintro e w' ⟨rfl, m1, rfl⟩; have T5 := T4.drewN m1; have k1 := T5.o1.cell hg.out; have k2 := T5.o1.frozen q; have k3 := (T5.set1 q (g + 1)).o2.cell hy.out; have k4 := (T5.set1 q (g + 1)).o2.frozen q))
      go_roundw
      case rel => exact ⟨j + 1, by omega, by go_num, ((T5.set1 q _).set2 q _).congr e1.out.symm e2.out.symm⟩
      case measure => simp [intOf]; omega
    · obtain rfl : j = n := by omega
      clear hlt
      obtain ⟨_, hL2, _⟩ := HL.out j (Nat.le_refl _)
      have HL2 := Lib.hid hL2
      clear hL2
      go_wp2
      go_ret2
      exact newIB_of hq.out HL2.out T.o2 T.bel
set_option maxHeartbeats 1600000 in
theorem specDL_any (A A2 : Option Addr) (xss : List (List Int)) (ls : List Int) (c c2 : Nat) (s f m : Int) (w : World) (h : RowsI w A xss) (h2 : Ints w A2 ls) (hl : tot xss ≤ 1048576) (hl3 : ls.length ≤ 1048576) (hcap : ls.length ≤ c2) :
    Calls Try.prog 28 #[.slice A xss.length c, .int .i64 s, .int .i64 f, .int .i64 m, .slice A2 ls.length c2] w (NewIB w (levF xss s f m ls)) := by
  have cK := Lib.hid (l24Ok_any A A2 xss ls c c2 s m w h h2 hl hl3 hcap)
  obtain ⟨r, hr⟩ : ∃ r, dsC xss s m ls = r := ⟨_, rfl⟩
  rw [hr] at cK
  cases r
  · have hq := Lib.hid (levF_f (f := f) (by unfold levC; rw [hr]; simp))
    clear hr
    go_enter Try.func28, Try.ntmps28
    go_wp2_with (go_at_call 50; refine cK.out.mono ?_; rintro e w1 ⟨rfl, hb1⟩)
    go_ret2
    exact newIB_of hq.out rfl (own_empty w1 hb1.size) (hb1.alloc hb1.size _)
  obtain ⟨k, rfl, hk20, o⟩ := dsOk_of hr
  obtain ⟨hx1, hx4⟩ := o.dv.l1
  obtain ⟨hw1, hw5⟩ := o.dv.wd
  obtain ⟨p0, p1⟩ := mul_bd (a := (k : Int)) (b := (xss.length : Int)) (M := 20) (N := 4) ⟨by omega, by omega⟩ ⟨by omega, by omega⟩
  have hkx : (k : Int) * (xss.length : Int) ≤ 20 := by have := o.hk; exact_mod_cast this
  clear p1
  obtain ⟨r, hi⟩ : ∃ r, inB f 0 20 = r := ⟨_, rfl⟩
  cases r
  · have hq := Lib.hid (levF_f (xss := xss) (s := k) (f := f) (m := m) (ls := ls) (by unfold levC; rw [hi]; simp))
    clear hr o
    go_enter Try.func28, Try.ntmps28
    go_wp2_with (first | (go_at_call 50; refine cK.out.mono ?_; rintro e w1 ⟨rfl, hb1⟩) | (go_at_call 56; refine (l6In_any _ _ _ _).mono ?_; rintro e w' ⟨rfl, rfl⟩))
    go_ret2
    exact newIB_of hq.out rfl (own_empty w1 hb1.size) (hb1.alloc hb1.size _)
  obtain ⟨hf0, hf3⟩ := inB_iff.1 hi
  by_cases hf1 : (k : Int) * (xss.length : Int) + f ≤ 20
  case neg =>
    have hq := Lib.hid (levF_f (xss := xss) (s := k) (f := f) (m := m) (ls := ls) (by unfold levC; simp [hf1]))
    have hf2 : 20 < (k : Int) * (xss.length : Int) + f := by omega
    clear hr o hf1
    go_enter Try.func28, Try.ntmps28
    go_wp2_with (first | (go_at_call 50; refine cK.out.mono ?_; rintro e w1 ⟨rfl, hb1⟩) | (go_at_call 56; refine (l6In_any _ _ _ _).mono ?_; rintro e w' ⟨rfl, rfl⟩))
    go_ret2
    exact newIB_of hq.out rfl (own_empty w1 hb1.size) (hb1.alloc hb1.size _)
  obtain ⟨n, rfl⟩ := Int.eq_ofNat_of_zero_le hf0
  have hf2 : ¬ 20 < (k : Int) * (xss.length : Int) + (n : Int) := by omega
  have hn20 : n ≤ 20 := by omega
  have hq := Lib.hid (levF_t (xss := xss) (k := k) (n := n) (m := m) (ls := ls) (by unfold levC; rw [hr, inB_t (by omega)]; simp; exact hf1))
  have L := Lib.hid (o.level (n := n) (by exact_mod_cast hf1))
  have OK := Lib.hid o
  have cT := Lib.hid (fun (w : World) (h : RowsI w A xss) => l24Votes_any A xss c (wid xss) w h (by omega) (by omega) (by omega) o.dv.len o.dv.bd)
  have cA := Lib.hid (fun (w : World) (h : RowsI w A xss) (h2 : Ints w A2 ls) => l24Sum_any A A2 xss ls c c2 k m w h h2 hl hl3 hcap OK)
  have htl := tog_len (wid xss) xss
  have hul := o.gap.la
  have hll := o.ll
  generalize tog (wid xss) (dsR xss m ls k) = us at *
  generalize tog (wid xss) xss = ts at *
  generalize wid xss = N at *
  have cM := Lib.hid (show ∀ j, j < n → ∃ q : Nat, q < N ∧ Hid ((levN ts us m ls (j + 1)).1 = bump (levN ts us m ls j).1 q) ∧ Hid ((levN ts us m ls (j + 1)).2 = bump (levN ts us m ls j).2 q) ∧ ∀ (B A' : Option Addr) (d c' : Nat) (w : World) (h : Ints w B ts) (h' : Ints w A' (levN ts us m ls j).1) (h2 : Ints w A2 ls), Calls Try.prog 57 #[.slice B N d, .slice A' N c', .int .i64 m, .slice A2 N c2] w (Qt w (.int .i64 q)) from fun j hj => by
    obtain ⟨g1, g2⟩ := L.out.at_ j (by omega)
    obtain ⟨q, e, hlt, e1, e2⟩ := L.out.step j hj
    have ok := (divOk_of L.out.dc).1.next g1 (by have := L.out.bn; omega)
    refine ⟨q, by omega, e1, e2, fun B A' d c' w h h' h2 => ?_⟩
    have := l21Next_any B A' A2 ts (levN ts us m ls j).1 ls N N N d c' c2 m w h h' h2 (Lib.hid ok) htl.symm (by rw [g1.len, htl]) hll.symm
    rw [e] at this
    exact this)
  have HL := Lib.hid (show ∀ j, j ≤ n → ((levN ts us m ls j).1.length = N ∧ ∀ g ∈ (levN ts us m ls j).1, 0 ≤ g ∧ g ≤ 40) ∧ (levN ts us m ls j).2.length = N ∧ ∀ g ∈ (levN ts us m ls j).2, 0 ≤ g ∧ g ≤ 40 from fun j hj => by
    obtain ⟨g1, g2⟩ := L.out.at_ j hj
    have := L.out.bn
    refine ⟨⟨by rw [g1.len, htl], fun g hg => by have := g1.bd g hg; omega⟩, by rw [g2.len, htl], fun g hg => by have := g2.bd g hg; omega⟩)
  have h0 := Lib.hid (show levN ts us m ls 0 = (us, List.replicate N 0) by rw [← htl]; rfl)
  rw [hll] at cK cA
  clear hr o hf1
  rw [hll] at hl3 hcap
  rw [hll]
  clear hll
  go_enter Try.func28, Try.ntmps28
  go_wp2_with (first | (go_at_call 50; refine cK.out.mono ?_; rintro e w1 ⟨rfl, hb1⟩) | (go_at_call 56; refine (l6In_any _ _ _ _).mono ?_; rintro e w' ⟨rfl, rfl⟩))
  refine (cA.out _ (h.below hb1) (h2.below hb1)).mono ?_
  rintro e w2 ⟨A6, c6, rfl, ho6, hb2⟩
  have hB2 := hb1.trans (hb2.mono hb1.size)
  obtain ⟨g6, rfl, hg6, hg6l⟩ := ho6.form (by omega)
  have hs1 := hb1.size
  have hs2 := hb2.size
  go_wp2_with (at_make; refine wpList_makeI _ rfl _ _ rfl N rfl rfl (by omega) ?_; intro w3 hown hbel hsz)
  have T0 : Lv w w3 g6 w2.heap.size c6 N us (List.replicate N 0) := ⟨by omega, by omega, by omega, (ho6.below hbel).mono (by omega), hown.mono (by omega), hB2.trans (hbel.mono hB2.size)⟩
  have T0 := Lib.hid (T0.congr (show us = (levN ts us m ls 0).1 by rw [h0.out]) (show _ = (levN ts us m ls 0).2 by rw [h0.out]))
  generalize w2.heap.size = z at *
  clear hown hbel hsz ho6
  go_loopw [12, 14, 15] (fun g i _ wr => ∃ j g5 d : Nat, j ≤ n ∧ i = .int .i64 j ∧ g = .slice (some ⟨g5, 0, none⟩) N d ∧ Lv w wr g5 z d N (levN ts us m ls j).1 (levN ts us m ls j).2) (fun _ i _ _ => n - (intOf i).toNat)
  case atStart => exact ⟨0, g6, c6, by omega, rfl, rfl, T0.out⟩
  case round =>
    obtain ⟨j, g5, d, hj, rfl, rfl, T⟩ := hrel
    by_cases hlt : j < n
    · obtain ⟨q, hqn, hs1, hs2, cQ⟩ := cM.out j hlt
      have cQ := Lib.hid cQ
      obtain ⟨⟨hL1, hB1⟩, hL2, hB2⟩ := HL.out j (by omega)
      obtain ⟨g, hg⟩ : ∃ g, (levN ts us m ls j).1[q]? = some g := ⟨_, List.getElem?_eq_getElem (by rw [hL1]; exact hqn)⟩
      obtain ⟨y, hy⟩ : ∃ y, (levN ts us m ls j).2[q]? = some y := ⟨_, List.getElem?_eq_getElem (by rw [hL2]; exact hqn)⟩
      obtain ⟨hg0, hg1⟩ := hB1 g (mem_of_at hg)
      obtain ⟨hy0, hy1⟩ := hB2 y (mem_of_at hy)
      have e1 := Lib.hid (hs1.out.trans (bump_at hg))
      have e2 := Lib.hid (hs2.out.trans (bump_at hy))
      have hg := Lib.hid hg
      have hy := Lib.hid hy
      have HL1 := Lib.hid hL1
      have HL2 := Lib.hid hL2
      clear hL1 hL2 hB1 hB2
      go_wp2_with (first | (go_at_call 53; refine (cT.out _ (h.below T.bel)).mono ?_; rintro e w4 ⟨A4, c4, rfl, ho4, hb4⟩; have T4 := T.below hb4) | (go_at_call 57; refine (cQ.out _ _ _ _ _ ho4.ints T4.o1.ints (h2.below T4.bel)).mono ?_; rintro e w' ⟨rfl, m1, rfl⟩; have T5 := T4.drewN m1) | (at_builtin; refine wpList_appN _ rfl (.tmp 56) (.tmp 57) rfl (w4.drewN m1).heap.size _ 0 _ [] rfl ⟨rfl, own_empty (w4.drewN m1) (Nat.le_refl _)⟩ (by simp) (by omega) _ _ _ _ rfl HL1.out (by omega) (T5.o1.ints.alloc _) ?_; intro A' c' w' hown2 hgr' hbl'; obtain ⟨hlen2, hown2⟩ := hown2; have hown2 := hown2.congr (List.nil_append _); obtain ⟨g7, rfl, hgb4, hgb5⟩ := hown2.form (by have := HL1.out; omega); have hb7 := ((Below.refl (w4.drewN m1).heap.size (w4.drewN m1)).alloc (Nat.le_refl _) _).trans hbl'; have hz8 : z < (w4.drewN m1).heap.size := (T5.o2.block z rfl).2; have T7 : Lv w w' g7 z c' N (levN ts us m ls j).1 (levN ts us m ls j).2 := ⟨by omega, by have := T5.bel.size; omega, T5.b2, hown2.mono T5.bel.size, T5.o2.below hb7, T5.bel.trans (hb7.mono T5.bel.size)⟩; have k1 := T7.o1.cell hg.out; have k2 := T7.o1.frozen q; have k3 := (T7.set1 q (g + 1)).o2.cell hy.out; have k4 := (T7.set1 q (g + 1)).o2.frozen q))
      go_roundw
      case rel => exact ⟨j + 1, _, _, by omega, by go_num, by first | rfl | simp, ((T7.set1 q _).set2 q _).congr e1.out.symm e2.out.symm⟩
      case measure => simp [intOf]; omega
    · obtain rfl : j = n := by omega
      clear hlt
      obtain ⟨_, hL2, _⟩ := HL.out j (Nat.le_refl _)
      have HL2 := Lib.hid hL2
      clear hL2
      go_wp2
      go_ret2
      exact newIB_of hq.out HL2.out T.o2 T.bel
end Go.Proofs.Ytoblhmbpobbecaa
