/-
  Seats by remainders, of the program and of the reference.
-/
import Derived.Test.YtoblhmbpobbecaaBool
import Derived.Test.YtoblhmbpobbecaaDivis
namespace Go.Proofs.Ytoblhmbpobbecaa
open Go.RowKit
/-- What the shares need. -/
def remC (xs : List Int) (s : Int) (ls : List Int) : Bool := vv xs && inB s 0 20 && lv ls && ((ls.length : Int) == (xs.length : Int))
def wholeL (xs : List Int) (s : Int) : List Int := xs.map fun x => x * s / xs.sum
def restL (xs : List Int) (s : Int) : List Int := xs.map fun x => x * s % xs.sum
/-- One seat by the greatest remainder. -/
def remStep (ls : List Int) (p : List Int × List Int) : List Int × List Int := (bump p.1 (greatP p.2 ls), p.2.set (greatP p.2 ls).toNat (-1))
def remN (xs : List Int) (s : Int) (ls : List Int) : Nat → List Int × List Int
  | 0 => (wholeL xs s, restL xs s)
  | k + 1 => remStep ls (remN xs s ls k)
def leftN (xs : List Int) (s : Int) : Nat := (s - (wholeL xs s).sum).toNat
def remF (xs : List Int) (s : Int) (ls : List Int) : List Int × Bool := if remC xs s ls = true then ((remN xs s ls (leftN xs s)).1, true) else ([], false)
/-- 'make([]int, n)' in a region that draws. -/
theorem upon_makeI (w : World) {o : Oper} {a : Act} {K : Act → World → Prop} {Q : Exit → Act → World → Prop} (n : Nat) (hn : n ≤ 1099511627776)
    (hK : ∀ w', OwnI w' w.heap.size (some ⟨w.heap.size, 0, none⟩) n (List.replicate n 0) → Below w.heap.size w w' → w.heap.size < w'.heap.size → K (a.put o.dst (.slice (some ⟨w.heap.size, 0, none⟩) n n)) w') :
    Oper.upon Try.prog o a K Q ((Sem.run Try.prog (Instr.makeSlice 23 (Value.int .i64 n) (Value.int .i64 n)) w).andThen fun a w' => Result.ok (Next.value a) w') := by
  obtain ⟨i0, hi, hz0, hz1, hz2⟩ := info_parts infoInt
  obtain ⟨w', hrun, r1, r2⟩ := run_make_full (P := Try.prog) w w.heap.size 23 3 i0 _ 1 Try.underlying23 hi hz0 hz1 .i64 .i64 n (by rw [hz2]; omega) (by simp only [maxLen]; omega) (Nat.le_refl _)
  have hown' : OwnI w' w.heap.size (some ⟨w.heap.size, 0, none⟩) n (List.replicate n 0) := by
    unfold OwnI
    rw [List.length_replicate]
    have e : (madeCells (Value.int .i64 0).cells (n * 1)).toList = (List.replicate n (0 : Int)).map (Value.int .i64) := by
      simp only [madeCells, Value.cells, Nat.mul_one, List.map_replicate]
      simp [Nat.mod_one]
      rw [List.map_const']; simp
    rw [e] at r1
    exact r1
  have hrun' : Sem.run Try.prog (Instr.makeSlice 23 (Value.int .i64 n) (Value.int .i64 n)) w = .ok (.slice (some ⟨w.heap.size, 0, none⟩) n n) w' := hrun
  rw [hrun']
  refine hK w' hown' ⟨r2.os, r2.tape, r2.output, r2.size, fun k hk => r2.block k hk (by simp)⟩ ?_
  rcases r1.2 with ⟨hv, _⟩ | ⟨g, cap, cur, hv, hb, hgg, _⟩
  · cases hv
  · injection hv with hA
    injection hA with hA
    injection hA with hA
    subst hA
    exact (Array.getElem?_eq_some_iff.1 hgg).1
/-- Two slices of the call's own, apart from each other. -/
structure Two (w wr : World) (n g1 g2 : Nat) (xs ys : List Int) : Prop where
  ne : g1 ≠ g2
  b1 : w.heap.size ≤ g1
  b2 : w.heap.size ≤ g2
  o1 : OwnI wr w.heap.size (some ⟨g1, 0, none⟩) n xs
  o2 : OwnI wr w.heap.size (some ⟨g2, 0, none⟩) n ys
  bel : Below w.heap.size w wr
theorem grown_setCell1 (w : World) (g k : Nat) (u : Value) : w.grownBy (w.setCell ⟨g, k, none⟩ u) (some g) := grown_setCell (grown_refl w _) k u
section
variable {w wr : World} {n g1 g2 : Nat} {xs ys : List Int}
theorem Two.swap (T : Two w wr n g1 g2 xs ys) : Two w wr n g2 g1 ys xs := ⟨T.ne.symm, T.b2, T.b1, T.o2, T.o1, T.bel⟩
theorem Two.set1 (T : Two w wr n g1 g2 xs ys) (k : Nat) (x : Int) : Two w (wr.setCell ⟨g1, k, none⟩ (.int .i64 x)) n g1 g2 (xs.set k x) ys :=
  ⟨T.ne, T.b1, T.b2, T.o1.set k x, T.o2.grown (grown_setCell1 wr g1 k _) (fun j hj e => by
    injection hj with hj
    injection e with e
    exact T.ne (hj.trans e.symm)), T.bel.setCell T.b1 _⟩
theorem Two.set2 (T : Two w wr n g1 g2 xs ys) (k : Nat) (x : Int) : Two w (wr.setCell ⟨g2, k, none⟩ (.int .i64 x)) n g1 g2 xs (ys.set k x) := (T.swap.set1 k x).swap
theorem Two.drewN (T : Two w wr n g1 g2 xs ys) (m : Nat) : Two w (wr.drewN m) n g1 g2 xs ys := ⟨T.ne, T.b1, T.b2, T.o1.drewN m, T.o2.drewN m, below_drewN T.bel m⟩
theorem Two.drew (T : Two w wr n g1 g2 xs ys) : Two w wr.drew n g1 g2 xs ys := T.drewN 1
theorem Two.congr {xs' ys' : List Int} (T : Two w wr n g1 g2 xs ys) (e1 : xs = xs') (e2 : ys = ys') : Two w wr n g1 g2 xs' ys' := e1 ▸ e2 ▸ T
end
theorem two_made {w w1 w2 : World} {n : Nat} {xs ys : List Int} (h1 : OwnI w1 w.drew.heap.size (some ⟨w.drew.heap.size, 0, none⟩) n xs) (b1 : Below w.drew.heap.size w.drew w1) (z1 : w.drew.heap.size < w1.heap.size)
    (h2 : OwnI w2 w1.heap.size (some ⟨w1.heap.size, 0, none⟩) n ys) (b2 : Below w1.heap.size w1 w2) : Two w w2 n w.heap.size w1.heap.size xs ys := by
  have hz : w.heap.size < w1.heap.size := z1
  have hb : Below w.heap.size w w1 := (Below.drew (Below.refl _ _)).trans b1
  exact ⟨Nat.ne_of_lt z1, Nat.le_refl _, Nat.le_of_lt hz, h1.below b2, h2.mono (Nat.le_of_lt hz), hb.trans (b2.mono hb.size)⟩
theorem quo_of {a S M : Int} (h0 : 0 ≤ a) (h1 : a ≤ M) (hS : 0 < S) : ∃ d : Int, a / S = d ∧ 0 ≤ d ∧ d ≤ M :=
  ⟨_, rfl, Int.ediv_nonneg h0 (by omega), Int.le_trans (Int.ediv_le_self _ h0) h1⟩
theorem rem_of {a S : Int} (_h0 : 0 ≤ a) (hS : 0 < S) : ∃ r : Int, a % S = r ∧ 0 ≤ r ∧ r < S := ⟨_, rfl, Int.emod_nonneg _ (by omega), Int.emod_lt_of_pos _ hS⟩
theorem wholeL_at {xs : List Int} {s x : Int} {k : Nat} (h : xs[k]? = some x) : (wholeL xs s)[k]? = some (x * s / xs.sum) := by simp [wholeL, h]
theorem restL_at {xs : List Int} {s x : Int} {k : Nat} (h : xs[k]? = some x) : (restL xs s)[k]? = some (x * s % xs.sum) := by simp [restL, h]
theorem wholeL_len (xs : List Int) (s : Int) : (wholeL xs s).length = xs.length := by simp [wholeL]
theorem restL_len (xs : List Int) (s : Int) : (restL xs s).length = xs.length := by simp [restL]
/-- After k seats by remainders. -/
structure RemSt (xs : List Int) (p : List Int × List Int) (S : Int) (k : Nat) : Prop where
  l1 : p.1.length = xs.length
  l2 : p.2.length = xs.length
  b1 : ∀ g ∈ p.1, 0 ≤ g ∧ g ≤ 1980 + k
  b2 : ∀ r ∈ p.2, -1 ≤ r ∧ r ≤ 495
  sum : p.1.sum = S + k
structure RemOk (xs : List Int) (s : Int) (ls : List Int) : Prop where
  xb : ∀ x ∈ xs, 0 ≤ x ∧ x ≤ 99
  ll : ls.length = xs.length
  l1 : 1 ≤ xs.length ∧ xs.length ≤ 5
  lb : ∀ l ∈ ls, 0 ≤ l ∧ l < xs.length
  lv : lv ls = true
  s0 : 0 < xs.sum
  s1 : xs.sum ≤ 495
  hs : 0 ≤ s ∧ s ≤ 20
theorem remOk_of {xs : List Int} {s : Int} {ls : List Int} (h : remC xs s ls = true) : RemOk xs s ls ∧ vv xs = true := by
  simp only [remC, Bool.and_eq_true, beq_iff_eq] at h
  obtain ⟨⟨⟨h1, h2⟩, h3⟩, h4⟩ := h
  obtain ⟨a1, a2, a3⟩ := vv_iff.1 h1
  obtain ⟨c1, c2, c3⟩ := lv_iff.1 h3
  have hb := sum_bd xs 99 (fun x hx => by have := a1 x hx; omega)
  exact ⟨⟨a1, by omega, a2, fun l hl => by have := c2 l hl; omega, h3, a3, by omega, inB_iff.1 h2⟩, h1⟩
theorem greatP_lt {cs ls : List Int} {n : Nat} (hn : 0 < ls.length) (h : ∀ l ∈ ls, 0 ≤ l ∧ l < n) : ∃ q : Nat, greatP cs ls = q ∧ q < n := by
  obtain ⟨l1, b, l2, e, hb, _, _⟩ := greatP_split cs hn
  have := h b (by rw [e]; simp)
  obtain ⟨q, hq⟩ := Int.eq_ofNat_of_zero_le this.1
  exact ⟨q, hb.trans hq, by rw [hq] at this; omega⟩
theorem RemOk.zero {xs : List Int} {s : Int} {ls : List Int} (o : RemOk xs s ls) : RemSt xs (wholeL xs s, restL xs s) (wholeL xs s).sum 0 := by
  refine ⟨wholeL_len _ _, restL_len _ _, fun g hg => ?_, fun r hr => ?_, by simp⟩
  · obtain ⟨x, hx, rfl⟩ := List.mem_map.1 hg
    obtain ⟨m0, m1⟩ := mul_bd (o.xb x hx) o.hs
    obtain ⟨d, e, d0, d1⟩ := quo_of m0 m1 o.s0
    rw [e]; omega
  · obtain ⟨x, hx, rfl⟩ := List.mem_map.1 hr
    obtain ⟨m0, m1⟩ := mul_bd (o.xb x hx) o.hs
    obtain ⟨r, e, r0, r1⟩ := rem_of m0 o.s0
    have := o.s1
    rw [e]; omega
theorem RemSt.step {xs : List Int} {ls : List Int} {p : List Int × List Int} {S : Int} {k q : Nat} (h : RemSt xs p S k) (hq : greatP p.2 ls = q) (hlt : q < xs.length) : RemSt xs (remStep ls p) S (k + 1) := by
  obtain ⟨g, hg⟩ : ∃ g, p.1[q]? = some g := ⟨_, List.getElem?_eq_getElem (by rw [h.l1]; exact hlt)⟩
  have hgb := h.b1 g (mem_of_at hg)
  unfold remStep
  rw [hq, bump_at hg]
  refine ⟨by simp [h.l1], by simp [h.l2], fun y hy => ?_, fun y hy => ?_, by simp only; rw [sum_set hg, h.sum]; omega⟩
  · rcases List.mem_or_eq_of_mem_set hy with hy | rfl
    · have := h.b1 y hy; omega
    · omega
  · rcases List.mem_or_eq_of_mem_set hy with hy | rfl
    · exact h.b2 y hy
    · omega
theorem RemOk.st {xs : List Int} {s : Int} {ls : List Int} (o : RemOk xs s ls) (k : Nat) : RemSt xs (remN xs s ls k) (wholeL xs s).sum k := by
  induction k with
  | zero => exact o.zero
  | succ k ih =>
    obtain ⟨q, hq, hlt⟩ := greatP_lt (cs := (remN xs s ls k).2) (by rw [o.ll]; exact o.l1.1) o.lb
    exact ih.step hq hlt
/-- The next step. -/
theorem RemOk.next {xs : List Int} {s : Int} {ls : List Int} (o : RemOk xs s ls) (k : Nat) : ∃ (q : Nat) (g : Int), q < xs.length ∧ Hid (greatP (remN xs s ls k).2 ls = q) ∧ Hid ((remN xs s ls k).1[q]? = some g) ∧ (0 ≤ g ∧ g ≤ 1980 + k) ∧ Hid ((remN xs s ls (k + 1)).1 = (remN xs s ls k).1.set q (g + 1)) ∧ Hid ((remN xs s ls (k + 1)).2 = (remN xs s ls k).2.set q (-1)) ∧ ∃ r, Hid ((remN xs s ls k).2[q]? = some r) := by
  have h := o.st k
  obtain ⟨q, hq, hlt⟩ := greatP_lt (cs := (remN xs s ls k).2) (by rw [o.ll]; exact o.l1.1) o.lb
  obtain ⟨g, hg⟩ : ∃ g, (remN xs s ls k).1[q]? = some g := ⟨_, List.getElem?_eq_getElem (by rw [h.l1]; exact hlt)⟩
  obtain ⟨r, hr⟩ : ∃ r, (remN xs s ls k).2[q]? = some r := ⟨_, List.getElem?_eq_getElem (by rw [h.l2]; exact hlt)⟩
  refine ⟨q, g, hlt, hq, hg, h.b1 g (mem_of_at hg), ?_, ?_, r, hr⟩
  · show (remStep ls _).1 = _
    unfold remStep; rw [hq, bump_at hg]
  · show (remStep ls _).2 = _
    unfold remStep; rw [hq]; rfl
theorem remF_t {xs : List Int} {s : Int} {ls : List Int} (h : remC xs s ls = true) : remF xs s ls = ((remN xs s ls (leftN xs s)).1, true) := if_pos h
theorem remF_f {xs : List Int} {s : Int} {ls : List Int} (h : remC xs s ls = false) : remF xs s ls = ([], false) := by unfold remF; rw [h]; rfl
set_option maxHeartbeats 1600000 in
theorem implRem_any (A A2 : Option Addr) (xs ls : List Int) (c c2 : Nat) (s : Int) (w : World) (h : Ints w A xs) (h2 : Ints w A2 ls) (hl1 : xs.length ≤ 1048576) (hl3 : ls.length ≤ 1048576) (hcap : ls.length ≤ c2) :
    Calls Try.prog 14 #[.slice A xs.length c, .int .i64 s, .slice A2 ls.length c2] w (NewIB w (remF xs s ls)) := by
  cases hC : remC xs s ls
  case true =>
    have hQ := Lib.hid (remF_t hC)
    obtain ⟨o, hv⟩ := remOk_of hC
    have hlv := o.lv
    have hsum0 := o.s0
    have hsum1 := o.s1
    obtain ⟨hs0, hs1⟩ := o.hs
    have hge : ((ls.length : Int) != (xs.length : Int)) = false := by simp [o.ll]
    have HX := Lib.hid o.xb
    have HB := Lib.hid (show ∀ x ∈ xs, -1000000000 ≤ x ∧ x ≤ 1000000000 from fun x hx => by have := HX.out x hx; omega)
    have hn5 := o.l1.2
    have hl0 : 0 < ls.length := by rw [o.ll]; exact o.l1.1
    have o := Lib.hid o
    have HL := Lib.hid (fun k => And.intro (o.out.st k).l1 (o.out.st k).l2)
    have HW1 := Lib.hid (wholeL_len xs s)
    have HW2 := Lib.hid (restL_len xs s)
    clear hC
    go_enter Try.func14, Try.ntmps14
    go_wp2_with (first | (go_at_call 45; refine (votesValid_any _ _ _ _ h hl1).mono ?_; rintro e w' ⟨rfl, rfl⟩) | (go_at_call 46; refine (lotsValid_any _ _ _ _ h2 hl3 hcap).mono ?_; rintro e w' ⟨rfl, rfl⟩) | (go_at_call 47; refine (implSum_any _ _ _ _ h hl1 HB.out).mono ?_; rintro e w' ⟨rfl, rfl⟩))
    go_region_with (first | (have _h := hown1; refine upon_makeI _ xs.length (by omega) ?_; intro w2 hown2 hbel2 hsz2) | (refine upon_makeI _ xs.length (by omega) ?_; intro w1 hown1 hbel1 hsz1))
    have T := two_made hown1 hbel1 hsz1 hown2 hbel2
    clear hown1 hbel1 hsz1 hown2 hbel2 hsz2
    generalize w.heap.size = g1 at T ⊢
    generalize w1.heap.size = g2 at T ⊢
    rotate_left
    have T := (two_made hown1 hbel1 hsz1 hown2 hbel2).swap
    clear hown1 hbel1 hsz1 hown2 hbel2 hsz2
    generalize w.heap.size = g2 at T ⊢
    generalize w1.heap.size = g1 at T ⊢
    rotate_left
    all_goals
      go_wp2
      go_loopw [11, 12, 47] (fun _ _ i wr => ∃ k : Nat, k ≤ xs.length ∧ i = .int .i64 k ∧ Two w wr xs.length g1 g2 (fill (wholeL xs s) k) (fill (restL xs s) k)) (fun _ _ i _ => xs.length - (intOf i).toNat)
      case atStart => exact ⟨0, by omega, rfl, T.congr (by rw [fill_zero, wholeL_len]) (by rw [fill_zero, restL_len])⟩
      case round =>
        obtain ⟨k, hk, rfl, T⟩ := hrel
        by_cases hlt : k < xs.length
        · obtain ⟨ad, x, rfl, hx, hc⟩ := (h.below T.bel).at_ hlt
          have ht1 := Lib.hid (wholeL_at (s := s) hx.out)
          have ht2 := Lib.hid (restL_at (s := s) hx.out)
          obtain ⟨hx0, hx1⟩ := HX.out x (mem_of_at hx.out)
          obtain ⟨hm0, hm1⟩ := mul_bd (M := 99) (N := 20) ⟨hx0, hx1⟩ ⟨hs0, hs1⟩
          have q1 : IntKind.i64.wrap (x * s) = x * s := IntWalk.i64_in _ (by omega)
          have hsne : ¬xs.sum = 0 := by omega
          obtain ⟨d, t1, hd0, hd1⟩ := quo_of hm0 hm1 hsum0
          obtain ⟨r, t2, hr0, hr1⟩ := rem_of hm0 hsum0
          have q2 : IntKind.i64.wrap d = d := IntWalk.i64_in _ (by omega)
          have q3 : IntKind.i64.wrap r = r := IntWalk.i64_in _ (by omega)
          have t1' := Lib.hid t1
          have t2' := Lib.hid t2
          rw [← Int.tdiv_eq_ediv_of_nonneg hm0] at t1
          rw [← Int.tmod_eq_emod_of_nonneg hm0] at t2
          rw [t1'.out] at ht1
          rw [t2'.out] at ht2
          have c1 := T.o1.cell (fill_at _ (by rw [wholeL_len]; exact hlt))
          have f1 := T.o1.frozen k
          have c2 := T.o2.cell (fill_at _ (by rw [restL_len]; exact hlt))
          have f2 := T.o2.frozen k
          have c3 := (T.set1 k d).o2.cell (fill_at _ (by rw [restL_len]; exact hlt))
          have f3 := (T.set1 k d).o2.frozen k
          have c4 := (T.drew.set1 k d).o2.cell (fill_at _ (by rw [restL_len]; exact hlt))
          have f4 := (T.drew.set1 k d).o2.frozen k
          go_wp2
          go_region
          go_wp2
          go_roundw
          case rel => exact ⟨k + 1, by omega, by go_num, ((T.drew.set1 k _).set2 k _).congr (fill_set _ ht1.out) (fill_set _ ht2.out)⟩
          case measure => simp [intOf]; omega
        · obtain rfl : k = xs.length := by omega
          clear hlt
          have T := T.congr (by rw [← HW1.out, fill_all]; rfl) (by rw [← HW2.out, fill_all]; rfl) (xs' := (remN xs s ls 0).1) (ys' := (remN xs s ls 0).2)
          have i1 := T.o1.ints
          have hz1 := HL.out 0
          have cS := Lib.hid (implSum_any _ _ xs.length _ i1 (by rw [hz1.1]; exact hl1) (fun g hg => by have := (o.out.st 0).b1 g hg; omega))
          have hS0 := Lib.hid ((o.out.st 0).sum)
          have hS1 := sum_bd (remN xs s ls 0).1 1980 (fun g hg => by have := (o.out.st 0).b1 g hg; omega)
          have hS2 := sum_nonneg (remN xs s ls 0).1 (fun g hg => ((o.out.st 0).b1 g hg).1)
          rw [hz1.1] at cS hS1
          obtain ⟨S, hS⟩ : ∃ S, S = (remN xs s ls 0).1.sum := ⟨_, rfl⟩
          rw [← hS] at cS hS1 hS2
          have HS := Lib.hid hS
          clear hS hz1 i1
          have HLf := Lib.hid (show leftN xs s = (s - S).toNat from by rw [HS.out]; rfl)
          go_wp2_with (go_at_call 47; refine cS.out.mono ?_; rintro e w' ⟨rfl, rfl⟩)
          go_loopw [13, 73] (fun _ i wr => ∃ k : Nat, ((k : Int) ≤ s - S ∨ k = 0) ∧ i = .int .i64 k ∧ Two w wr xs.length g1 g2 (remN xs s ls k).1 (remN xs s ls k).2) (fun _ i _ => (s - S).toNat - (intOf i).toNat)
          case atStart => exact ⟨0, .inr rfl, rfl, T⟩
          case round =>
            obtain ⟨k, hk, rfl, T⟩ := hrel
            by_cases hlt : (k : Int) < s - S
            · obtain ⟨q, g, hqn, hq, hg, ⟨hg0, hg1⟩, hn1, hn2, r, hr⟩ := o.out.next k
              have cG := Lib.hid (greatest_any _ _ _ _ xs.length ls.length xs.length c2 _ T.o2.ints (h2.below T.bel) (by omega) hl3 (Lib.hid (fun l hl => by rw [(HL.out k).2]; exact o.out.lb l hl)) (HL.out k).2.symm rfl)
              rw [hq.out] at cG
              go_wp2_with (go_at_call 48; refine cG.out.mono ?_; rintro e w' ⟨rfl, m1, rfl⟩; have T1 := T.drewN m1; have c1 := T1.o1.cell hg.out; have f1 := T1.o1.frozen q; have c3 := (T1.set1 q (g + 1)).o2.cell hr.out; have f3 := (T1.set1 q (g + 1)).o2.frozen q)
              go_roundw
              case rel => exact ⟨k + 1, .inl (by omega), by go_num, ((T1.set1 q _).set2 q _).congr hn1.out.symm hn2.out.symm⟩
              case measure => simp [intOf]; omega
            · have hk' : leftN xs s = k := by rw [HLf.out]; omega
              go_wp2
              go_ret2
              exact newIB_of (hQ.out.trans (by rw [hk'])) (HL.out k).1 T.o1 T.bel
  case false =>
    have hq := Lib.hid (remF_f hC)
    cases hv : vv xs
    · go_enter Try.func14, Try.ntmps14
      go_wp2_with (go_at_call 45; refine (votesValid_any _ _ _ _ h hl1).mono ?_; rintro e w' ⟨rfl, rfl⟩)
      go_ret2
      exact newIB_of hq.out rfl (OwnI.nil _ _) (Below.refl _ _)
    by_cases hs0 : 0 ≤ s
    case neg =>
      go_enter Try.func14, Try.ntmps14
      go_wp2_with (go_at_call 45; refine (votesValid_any _ _ _ _ h hl1).mono ?_; rintro e w' ⟨rfl, rfl⟩)
      go_ret2
      exact newIB_of hq.out rfl (OwnI.nil _ _) (Below.refl _ _)
    by_cases hs1 : s ≤ 20
    case neg =>
      go_enter Try.func14, Try.ntmps14
      go_wp2_with (go_at_call 45; refine (votesValid_any _ _ _ _ h hl1).mono ?_; rintro e w' ⟨rfl, rfl⟩)
      go_ret2
      exact newIB_of hq.out rfl (OwnI.nil _ _) (Below.refl _ _)
    cases hlv : lv ls
    · go_enter Try.func14, Try.ntmps14
      go_wp2_with (first | (go_at_call 45; refine (votesValid_any _ _ _ _ h hl1).mono ?_; rintro e w' ⟨rfl, rfl⟩) | (go_at_call 46; refine (lotsValid_any _ _ _ _ h2 hl3 hcap).mono ?_; rintro e w' ⟨rfl, rfl⟩))
      go_ret2
      exact newIB_of hq.out rfl (OwnI.nil _ _) (Below.refl _ _)
    have hne : ((ls.length : Int) != (xs.length : Int)) = true := by
      have hC' := hC
      simp only [remC, hv, hlv, inB_t ⟨hs0, hs1⟩, Bool.true_and] at hC'
      simp at hC' ⊢
      exact hC'
    clear hC
    go_enter Try.func14, Try.ntmps14
    go_wp2_with (first | (go_at_call 45; refine (votesValid_any _ _ _ _ h hl1).mono ?_; rintro e w' ⟨rfl, rfl⟩) | (go_at_call 46; refine (lotsValid_any _ _ _ _ h2 hl3 hcap).mono ?_; rintro e w' ⟨rfl, rfl⟩))
    go_ret2
    exact newIB_of hq.out rfl (OwnI.nil _ _) (Below.refl _ _)
end Go.Proofs.Ytoblhmbpobbecaa
