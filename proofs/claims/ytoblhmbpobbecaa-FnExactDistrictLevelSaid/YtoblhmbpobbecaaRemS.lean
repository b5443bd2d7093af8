/-
  Seats by remainders of the reference.
-/
import Derived.Test.YtoblhmbpobbecaaRem
namespace Go.Proofs.Ytoblhmbpobbecaa
open Go.RowKit
/-- 'append(out, y)': y lies in a new block of one cell; where the row lies then is told. -/
theorem wpList_app1L (w : World) {ops : Array Oper} {rest : List Oper} {o : Oper} {a : Act} {Q : Exit → Act → World → Prop}
    (hg : o.guard = none) (s x : Operand) (ho : o.op = .call { callee := .builtin .append, args := #[s, x], argTypes := #[23, 23] })
    (base : Nat) (g n c : Nat) (xs : List Int) (hs : a.eval s = .slice (some ⟨g, 0, none⟩) n c) (hown : OwnN w base (some ⟨g, 0, none⟩) n c xs) (hbase : base ≤ w.heap.size) (hn : n ≤ 1048576)
    (y : Int) (hx : a.eval x = .slice (some ⟨w.heap.size, 0, none⟩) 1 1)
    (hK : ∀ g' c' w', OwnN w' base (some ⟨g', 0, none⟩) (n + 1) c' (xs ++ [y]) → w.grownBy w' (some g) → Below base w w' → (g' = g ∨ w.heap.size < g') → g' < w'.heap.size → wpList Try.prog ops Q rest (a.put o.dst (.slice (some ⟨g', 0, none⟩) (n + 1) c')) w') :
    wpList Try.prog ops Q (o :: rest) a (w.alloc (.cells #[.int .i64 y] 3)) := by
  obtain ⟨i0, hi, hz0, hz1, hz2⟩ := info_parts infoInt
  refine wpList_append_lies _ hg s x 23 ho base 3 i0 (.int .i64 0) 1 8 Try.underlying23 hi hz0 hz1 hz2 rfl (by omega) _ _ _ hs (OwnN.row ⟨hown.1, hown.2.alloc _⟩) ⟨w.heap.size, 0, none⟩ 1 1 [.int .i64 y] hx rfl ?_ ?_ (by omega) (by simp only [maxLen]; omega) (by omega) (by simp; omega) (w.heap.size + 1) (by simp) ?_
  · intro j u hj
    match j, hj with
    | 0, hj =>
      simp at hj
      subst hj
      exact cell_of_row _ w.heap.size 0 #[.int .i64 y] 3 (0, 0) (heap_alloc_new w _)
  · intro u hu
    simp at hu
    subst hu
    rfl
  · intro g' c' w' h1 h2 h3 h4
    have h5 : w.grownBy w' (some g) :=
      ⟨h2.os, h2.tape, h2.output, by have := h2.size; simp at this; omega, fun k hk hne => (h2.block k (heap_lt hk _) hne).trans (Below.heap_alloc w _ k hk)⟩
    refine hK g' c' w' (ownN_of_row (by simpa using h1)) h5 (below_of_grown h5 hbase (fun k hk => (World.ownsRow.lt hown.row k hk).1)) ?_ h4
    rcases h3 with h3 | h3
    · injection h3 with h3; exact .inl h3.symm
    · exact .inr (by omega)
/-- Two slices of the call's own that grow, apart from each other. -/
structure TwoN (w wr : World) (n1 g1 d1 n2 g2 d2 : Nat) (xs ys : List Int) : Prop where
  ne : g1 ≠ g2
  b1 : w.heap.size ≤ g1
  b2 : w.heap.size ≤ g2
  o1 : OwnN wr w.heap.size (some ⟨g1, 0, none⟩) n1 d1 xs
  o2 : OwnN wr w.heap.size (some ⟨g2, 0, none⟩) n2 d2 ys
  z1 : g1 < wr.heap.size
  z2 : g2 < wr.heap.size
  bel : Below w.heap.size w wr
section
variable {w wr w' : World} {n1 g1 d1 n2 g2 d2 : Nat} {xs ys : List Int}
theorem TwoN.swap (T : TwoN w wr n1 g1 d1 n2 g2 d2 xs ys) : TwoN w wr n2 g2 d2 n1 g1 d1 ys xs := ⟨T.ne.symm, T.b2, T.b1, T.o2, T.o1, T.z2, T.z1, T.bel⟩
theorem TwoN.app {g' d' : Nat} {zs : List Int} (T : TwoN w wr n1 g1 d1 n2 g2 d2 xs ys) (h : OwnN w' w.heap.size (some ⟨g', 0, none⟩) (n1 + 1) d' zs) (hg : wr.grownBy w' (some g1)) (hb : Below w.heap.size wr w') (hw : g' = g1 ∨ wr.heap.size < g') (hz : g' < w'.heap.size) :
    TwoN w w' (n1 + 1) g' d' n2 g2 d2 zs ys := by
  have z := T.z2
  have hsz := hg.size
  have ne := T.ne
  have b1 := T.b1
  have hs := T.bel.size
  exact ⟨by omega, by omega, T.b2, h, ⟨T.o2.1, T.o2.2.grown hg (fun j hj e => by
    injection hj with hj
    injection e with e
    exact T.ne (hj.trans e.symm))⟩, hz, by omega, T.bel.trans hb⟩
theorem TwoN.below (T : TwoN w wr n1 g1 d1 n2 g2 d2 xs ys) (hb : Below wr.heap.size wr w') : TwoN w w' n1 g1 d1 n2 g2 d2 xs ys :=
  ⟨T.ne, T.b1, T.b2, ⟨T.o1.1, T.o1.2.below hb⟩, ⟨T.o2.1, T.o2.2.below hb⟩, Nat.lt_of_lt_of_le T.z1 hb.size, Nat.lt_of_lt_of_le T.z2 hb.size, T.bel.trans (hb.mono T.bel.size)⟩
theorem TwoN.congr {xs' ys' : List Int} (T : TwoN w wr n1 g1 d1 n2 g2 d2 xs ys) (e1 : xs = xs') (e2 : ys = ys') : TwoN w wr n1 g1 d1 n2 g2 d2 xs' ys' := e1 ▸ e2 ▸ T
theorem TwoN.set1 (T : TwoN w wr n1 g1 d1 n2 g2 d2 xs ys) (k : Nat) (x : Int) : TwoN w (wr.setCell ⟨g1, k, none⟩ (.int .i64 x)) n1 g1 d1 n2 g2 d2 (xs.set k x) ys :=
  ⟨T.ne, T.b1, T.b2, ⟨by rw [List.length_set]; exact T.o1.1, T.o1.2.set k x⟩, ⟨T.o2.1, T.o2.2.grown (grown_setCell1 wr g1 k _) (fun j hj e => by
    injection hj with hj
    injection e with e
    exact T.ne (hj.trans e.symm))⟩, Nat.lt_of_lt_of_le T.z1 (grown_setCell1 wr g1 k _).size, Nat.lt_of_lt_of_le T.z2 (grown_setCell1 wr g1 k _).size, T.bel.setCell T.b1 _⟩
theorem TwoN.set2 (T : TwoN w wr n1 g1 d1 n2 g2 d2 xs ys) (k : Nat) (x : Int) : TwoN w (wr.setCell ⟨g2, k, none⟩ (.int .i64 x)) n1 g1 d1 n2 g2 d2 xs (ys.set k x) := (T.swap.set1 k x).swap
end
theorem moved {w0 w : World} {m : Nat} {A A2 : Option Addr} {xs ls : List Int} (hw : w = w0.drewN m) (h : Ints w0 A xs) (h2 : Ints w0 A2 ls) : Ints w A xs ∧ Ints w A2 ls ∧ Below w0.heap.size w0 w ∧ w0.heap.size = w.heap.size := by
  subst hw; exact ⟨h, h2, below_drewN (Below.refl _ _) m, rfl⟩
theorem twoN_start (w : World) : TwoN w ((w.alloc (.cells #[] 3)).alloc (.cells #[] 3)) 0 w.heap.size 0 0 (w.heap.size + 1) 0 [] [] := by
  have b1 : Below w.heap.size w (w.alloc (.cells #[] 3)) := (Below.refl _ _).alloc (Nat.le_refl _) _
  refine ⟨by omega, Nat.le_refl _, by omega, ⟨rfl, (own_empty w (Nat.le_refl _)).alloc _⟩, ⟨rfl, ?_⟩, by simp; omega, by simp, b1.alloc b1.size _⟩
  have := own_empty (w.alloc (.cells #[] 3)) (base := w.heap.size) (by simp)
  simpa using this
set_option maxHeartbeats 1600000 in
theorem specRem_any (A A2 : Option Addr) (xs ls : List Int) (c c2 : Nat) (s : Int) (w0 : World) (h : Ints w0 A xs) (h2 : Ints w0 A2 ls) (hl1 : xs.length ≤ 1048576) (hl3 : ls.length ≤ 1048576) (hcap : ls.length ≤ c2) :
    Calls Try.prog 65 #[.slice A xs.length c, .int .i64 s, .slice A2 ls.length c2] w0 (NewIB w0 (remF xs s ls)) := by
  cases hC : remC xs s ls
  case true =>
    have hQ := Lib.hid (remF_t hC)
    obtain ⟨o, hv⟩ := remOk_of hC
    have hlv := o.lv
    have hsum0 := o.s0
    have hsum1 := o.s1
    have hi := inB_t o.hs
    obtain ⟨hs0, hs1⟩ := o.hs
    have hge : ((ls.length : Int) != (xs.length : Int)) = false := by simp [o.ll]
    have HX := Lib.hid o.xb
    have HB := Lib.hid (show ∀ x ∈ xs, -1000000000 ≤ x ∧ x ≤ 1000000000 from fun x hx => by have := HX.out x hx; omega)
    have hn5 := o.l1.2
    have hl0 : 0 < ls.length := by rw [o.ll]; exact o.l1.1
    have o := Lib.hid o
    have HL := Lib.hid (fun k => And.intro (o.out.st k).l1 (o.out.st k).l2)
    have HW1 := Lib.hid (wholeL_len xs s)
    have HW2 := Lib.hid (restL_len xs s)
    clear hC
    go_enter Try.func65, Try.ntmps65
    go_wp2_with (first | (go_at_call 40; refine (l21Votes_any _ _ _ _ h hl1).mono ?_; rintro e w' ⟨rfl, rfl⟩) | (go_at_call 56; refine (l6In_any _ _ _ _).mono ?_; rintro e w' ⟨rfl, rfl⟩) | (go_at_call 71; refine (specLotsValid_any _ _ _ _ h2 hl3 hcap).mono ?_; rintro e w ⟨rfl, m1, hw⟩; obtain ⟨h, h2, hbw, hsw⟩ := moved hw h h2; clear hw) | (go_at_call 66; refine (l22Sum_any _ _ _ _ ((h.alloc _).alloc _) hl1 HB.out).mono ?_; rintro e w' ⟨rfl, rfl⟩))
    go_loopw [8, 9, 11] (fun o r i wr => ∃ (k g1 d1 g2 d2 : Nat), k ≤ xs.length ∧ i = .int .i64 k ∧ o = .slice (some ⟨g1, 0, none⟩) k d1 ∧ r = .slice (some ⟨g2, 0, none⟩) k d2 ∧ TwoN w wr k g1 d1 k g2 d2 ((wholeL xs s).take k) ((restL xs s).take k)) (fun _ _ i _ => xs.length - (intOf i).toNat)
    case atStart => exact ⟨0, _, _, _, _, by omega, rfl, rfl, rfl, twoN_start w⟩
    case round =>
      obtain ⟨k, g1, d1, g2, d2, hk, rfl, rfl, rfl, T⟩ := hrel
      by_cases hlt : k < xs.length
      · obtain ⟨ad, x, rfl, hx, hc⟩ := (h.below T.bel).at_ hlt
        have ht1 := Lib.hid (wholeL_at (s := s) hx.out)
        have ht2 := Lib.hid (restL_at (s := s) hx.out)
        obtain ⟨hx0, hx1⟩ := HX.out x (mem_of_at hx.out)
        obtain ⟨hm0, hm1⟩ := mul_bd (M := 99) (N := 20) ⟨hx0, hx1⟩ ⟨hs0, hs1⟩
        have q1 : IntKind.i64.wrap (x * s) = x * s := IntWalk.i64_in _ (by omega)
        have hsne : ¬xs.sum = 0 := by omega
        obtain ⟨d, t1, hd0, hd1⟩ := quo_of hm0 hm1 hsum0
        obtain ⟨r, t2, hr0, hr1⟩ := rem_of hm0 hsum0
        have q2 : IntKind.i64.wrap d = d := IntWalk.i64_in _ (by omega)
        have q3 : IntKind.i64.wrap r = r := IntWalk.i64_in _ (by omega)
        have t1' := Lib.hid t1
        have t2' := Lib.hid t2
        rw [← Int.tdiv_eq_ediv_of_nonneg hm0] at t1
        rw [← Int.tmod_eq_emod_of_nonneg hm0] at t2
        rw [t1'.out] at ht1
        rw [t2'.out] at ht2
        have hbs := T.bel.size
        go_wp2_with (at_builtin; first | (refine wpList_app1L _ rfl (.tmp 44) (.tmp 53) rfl w.heap.size g1 k d1 _ rfl T.o1 hbs (by omega) _ rfl ?_; intro g1' d1' w1 hw1 hw2 hw3 hw4 hw5; have T1 := T.app hw1 hw2 hw3 hw4 hw5; have hc1 := Ints.cell_of (h.below T1.bel) hx.out; have hbs1 := T1.bel.size) | (refine wpList_app1L _ rfl (.tmp 55) (.tmp 64) rfl w.heap.size g2 k d2 _ rfl T1.o2 hbs1 (by omega) _ rfl ?_; intro g2' d2' w2 hv1 hv2 hv3 hv4 hv5))
        go_roundw
        case rel => exact ⟨k + 1, _, _, _, _, by omega, by go_num, rfl, rfl, (T1.swap.app hv1 hv2 hv3 hv4 hv5).swap.congr (by rw [take_snoc _ _ _ ht1.out]) (by rw [take_snoc _ _ _ ht2.out])⟩
        case measure => simp [intOf]; omega
      · obtain rfl : k = xs.length := by omega
        clear hlt
        have hsw := Lib.hid hsw
        have T := T.congr (by rw [← HW1.out, List.take_length]; rfl) (by rw [← HW2.out, List.take_length]; rfl) (xs' := (remN xs s ls 0).1) (ys' := (remN xs s ls 0).2)
        obtain ⟨S, hS⟩ : ∃ S, S = (remN xs s ls 0).1.sum := ⟨_, rfl⟩
        have HS := Lib.hid hS
        have hS1 := sum_bd (remN xs s ls 0).1 1980 (fun g hg => by have := (o.out.st 0).b1 g hg; omega)
        have hS2 := sum_nonneg (remN xs s ls 0).1 (fun g hg => ((o.out.st 0).b1 g hg).1)
        rw [(HL.out 0).1, ← hS] at hS1
        rw [← hS] at hS2
        clear hS
        obtain ⟨L, hL⟩ : ∃ L, L = leftN xs s := ⟨_, rfl⟩
        have hLf : L = (s - S).toNat := by rw [HS.out, hL]; rfl
        have HLf := Lib.hid hL
        have HLs := Lib.hid hLf
        clear hL hLf
        obtain ⟨bs, hbs⟩ : ∃ bs, bs = List.replicate xs.length true := ⟨_, rfl⟩
        have hbl : bs.length = xs.length := by rw [hbs]; simp
        have cA := Lib.hid (fun (w : World) => l11All_any xs.length w hl1)
        rw [← hbs] at cA
        have HBS := Lib.hid hbs
        have HBL := Lib.hid hbl
        clear hbs hbl
        go_wp2
        go_loopg [12] (L) (fun r _ wr => ∃ k : Nat, Hid (k + r = L) ∧ TwoN w wr xs.length g1 d1 xs.length g2 d2 (remN xs s ls k).1 (remN xs s ls k).2)
        case atStart => exact ⟨0, by show 0 + L = L; omega, T⟩
        case round =>
          obtain ⟨k, hkr, T⟩ := hrel
          have hLs := HLs.out
          have hkr' := hkr.out
          have cS := Lib.hid (l22Sum_any _ _ d1 _ T.o1.2.ints (by rw [(HL.out k).1]; exact hl1) (fun g hg => by have := (o.out.st k).b1 g hg; omega))
          have hsum : (remN xs s ls k).1.sum = S + k := by rw [(o.out.st k).sum, HS.out]; rfl
          rw [(HL.out k).1, hsum] at cS
          clear hsum
          by_cases hlt : S + k < s
          · obtain ⟨q, g, hqn, hq, hg, ⟨hg0, hg1⟩, hn1, hn2, r, hr⟩ := o.out.next k
            obtain ⟨ms, hms⟩ : ∃ ms, ms = mostG (remN xs s ls k).2 bs := ⟨_, rfl⟩
            have cM := Lib.hid (fun (A' : Option Addr) (c' : Nat) (w : World) (h : Ints w (some ⟨g2, 0, none⟩) (remN xs s ls k).2) (h' : Bools w A' bs) => l11Most_any (some ⟨g2, 0, none⟩) A' (remN xs s ls k).2 bs xs.length bs.length d2 c' w h h' hl1 (HL.out k).2.symm rfl (by rw [HBL.out, (HL.out k).2]))
            have hml : ms.length = xs.length := by rw [hms, mostG_len (by rw [HBL.out, (HL.out k).2]), (HL.out k).2]
            have cF := Lib.hid (fun (A' : Option Addr) (c' : Nat) (w : World) (h : Ints w A2 ls) (h' : Bools w A' ms) => l4First_any A2 A' ls ms ls.length ms.length c2 c' w h h' hl3 rfl rfl (Lib.hid (fun l hl => by rw [hml]; exact o.out.lb l hl)))
            have hF : firstP ms ls = q := by
              rw [hms, HBS.out, ← (HL.out k).2, mostG_all, great_first o.out.lv (by rw [(HL.out k).2, o.out.ll]) (fun c hc => ((o.out.st k).b2 c hc).1), hq.out]
            rw [hF] at cF
            rw [← hms] at cM
            clear hF hms hml hLs hkr'
            go_wp2_with (first | (go_at_call 66; refine cS.out.mono ?_; rintro e w' ⟨rfl, rfl⟩) | (go_at_call 78; refine (cA.out _).mono ?_; rintro e w1 ⟨B1, f1, rfl, oB1, hb1⟩; have T1 := T.below hb1) | (go_at_call 77; refine (cM.out _ _ _ T1.o2.2.ints oB1.bools).mono ?_; rintro e w2 ⟨B2, f2, rfl, oB2, hb2⟩; have T2 := T1.below hb2) | (go_at_call 76; refine (cF.out _ _ _ (h2.below T2.bel) oB2.bools).mono ?_; rintro e w' ⟨rfl, rfl⟩; have k1 := T2.o1.2.cell hg.out; have k2 := T2.o1.2.frozen q; have k3 := (T2.set1 q (g + 1)).o2.2.cell hr.out; have k4 := (T2.set1 q (g + 1)).o2.2.frozen q))
            go_roundg (gk - 1)
            case measure => have := HLs.out; have := hkr.out; omega
            case rel => exact ⟨k + 1, by show k + 1 + (gk - 1) = L; have := HLs.out; have := hkr.out; omega, ((T2.set1 q _).set2 q _).congr hn1.out.symm hn2.out.symm⟩
          · have hk' := Lib.hid (show leftN xs s = k from by rw [← HLf.out]; omega)
            clear hLs hkr'
            go_wp2_with (go_at_call 66; refine cS.out.mono ?_; rintro e w' ⟨rfl, rfl⟩)
            go_ret2
            exact newIB_of (hQ.out.trans (by rw [hk'.out])) (HL.out k).1 (T.o1.2.mono (Nat.le_of_eq hsw.out)) (hbw.trans (T.bel.mono (Nat.le_of_eq hsw.out)))
  case false =>
    have hq := Lib.hid (remF_f hC)
    cases hv : vv xs
    · go_enter Try.func65, Try.ntmps65
      go_wp2_with (go_at_call 40; refine (l21Votes_any _ _ _ _ h hl1).mono ?_; rintro e w' ⟨rfl, rfl⟩)
      go_ret2
      exact newIB_of hq.out rfl (own_empty w0 (Nat.le_refl _)) ((Below.refl _ _).alloc (Nat.le_refl _) _)
    cases hi : inB s 0 20
    · go_enter Try.func65, Try.ntmps65
      go_wp2_with (first | (go_at_call 40; refine (l21Votes_any _ _ _ _ h hl1).mono ?_; rintro e w' ⟨rfl, rfl⟩) | (go_at_call 56; refine (l6In_any _ _ _ _).mono ?_; rintro e w' ⟨rfl, rfl⟩))
      go_ret2
      exact newIB_of hq.out rfl (own_empty w0 (Nat.le_refl _)) ((Below.refl _ _).alloc (Nat.le_refl _) _)
    cases hlv : lv ls
    · go_enter Try.func65, Try.ntmps65
      go_wp2_with (first | (go_at_call 40; refine (l21Votes_any _ _ _ _ h hl1).mono ?_; rintro e w' ⟨rfl, rfl⟩) | (go_at_call 56; refine (l6In_any _ _ _ _).mono ?_; rintro e w' ⟨rfl, rfl⟩) | (go_at_call 71; refine (specLotsValid_any _ _ _ _ h2 hl3 hcap).mono ?_; rintro e w' ⟨rfl, m1, rfl⟩))
      go_ret2
      exact newIB_of hq.out rfl (own_empty (w0.drewN m1) (Nat.le_refl _)) ((below_drewN (Below.refl _ _) m1).alloc (Nat.le_refl _) _)
    have hne : ((ls.length : Int) != (xs.length : Int)) = true := by
      have hC' := hC
      simp only [remC, hv, hlv, hi, Bool.true_and] at hC'
      simp at hC' ⊢
      exact hC'
    clear hC
    go_enter Try.func65, Try.ntmps65
    go_wp2_with (first | (go_at_call 40; refine (l21Votes_any _ _ _ _ h hl1).mono ?_; rintro e w' ⟨rfl, rfl⟩) | (go_at_call 56; refine (l6In_any _ _ _ _).mono ?_; rintro e w' ⟨rfl, rfl⟩) | (go_at_call 71; refine (specLotsValid_any _ _ _ _ h2 hl3 hcap).mono ?_; rintro e w' ⟨rfl, m1, rfl⟩))
    go_ret2
    exact newIB_of hq.out rfl (own_empty (w0.drewN m1) (Nat.le_refl _)) ((below_drewN (Below.refl _ _) m1).alloc (Nat.le_refl _) _)
end Go.Proofs.Ytoblhmbpobbecaa
