/-
  All rounds of a runoff: the program's.
-/
import Derived.Test.YthngafmnkihkgaaRunI
namespace Go.Proofs.Ythngafmnkihkgaa
open Go.RowKit
/-- The block of a round that is being made. -/
def Box (w : World) (bx : Nat) (B : Option Addr) (l d : Nat) (z : Int) : Prop := w.ownsRow bx 53 2 (.slice (some ⟨bx, 0, none⟩) 1 1) 1 [.slice B l d, .int .i64 z]
theorem box_new (w : World) (B : Option Addr) (l d : Nat) (z : Int) : Box (w.alloc (.cells #[.slice B l d, .int .i64 z] 53)) w.heap.size B l d z :=
  ⟨rfl, .inr ⟨w.heap.size, 1, _, rfl, Nat.le_refl _, heap_alloc_new w _, by omega, by simp [maxLen], rfl, rfl⟩⟩
section
variable {w w' : World} {bx : Nat} {B : Option Addr} {l d : Nat} {z : Int}
theorem Box.c0 (h : Box w bx B l d z) : w.cell? ⟨bx, 0, none⟩ = some (.slice B l d) := World.ownsRow.cells h (g := bx) rfl 0 _ rfl
theorem Box.c1 (h : Box w bx B l d z) : w.cell? ⟨bx, 1, none⟩ = some (.int .i64 z) := World.ownsRow.cells h (g := bx) rfl 1 _ rfl
theorem Box.fz (h : Box w bx B l d z) : w.frozen? ⟨bx, 1, none⟩ = false := World.ownsRow.frozenAt h 1
theorem Box.drewN (h : Box w bx B l d z) (n : Nat) : Box (w.drewN n) bx B l d z := h
theorem Box.set (h : Box w bx B l d z) (y : Int) : Box (w.setCell ⟨bx, 1, none⟩ (.int .i64 y)) bx B l d y := (World.ownsRow.stored h 1 (.int .i64 y)).1
theorem Box.grown {g : Option Nat} (h : Box w bx B l d z) (hg : w.grownBy w' g) (hn : ∀ k, g = some k → k < bx) : Box w' bx B l d z :=
  World.ownsRow.kept h hg (.inr (fun e => by
    have := hn bx e.symm
    omega))
end
def lenOf : Value → Nat
  | .slice _ n _ => n
  | _ => 0
theorem stepL_l {cs : List Int} {left : List Bool} {o : Int} {p : Nat} (hp : left[p]? = some true) : stepL cs left o (p : Int) = o := if_neg (fun h => by rw [atB_at hp] at h; cases h.1)
theorem stepL_first {cs : List Int} {left : List Bool} {p : Nat} (hp : left[p]? = some false) : stepL cs left (-1) (p : Int) = (p : Int) := if_pos ⟨atB_at hp, .inl (by omega)⟩
theorem stepL_t {cs : List Int} {left : List Bool} {o p : Nat} {x y : Int} (hp : left[p]? = some false) (hx : cs[p]? = some x) (hy : cs[o]? = some y) (h : x ≤ y) : stepL cs left (o : Int) (p : Int) = (p : Int) := if_pos ⟨atB_at hp, .inr (by rw [atI_at hx, atI_at hy]; exact h)⟩
theorem stepL_f {cs : List Int} {left : List Bool} {o p : Nat} {x y : Int} (hx : cs[p]? = some x) (hy : cs[o]? = some y) (h : ¬x ≤ y) : stepL cs left (o : Int) (p : Int) = (o : Int) := if_neg (fun hh => by
  rcases hh.2 with h2 | h2
  · omega
  · rw [atI_at hx, atI_at hy] at h2; exact h h2)
theorem leastF_nn {cs : List Int} {left : List Bool} {ls : List Int} {n : Nat} (hr : ∀ l ∈ ls, 0 ≤ l ∧ l < n) : leastF cs left ls = -1 ∨ ∃ q : Nat, leastF cs left ls = (q : Int) ∧ q < n := by
  rcases leastF_in cs left ls with h | ⟨h, _⟩
  · exact .inl h
  · have := hr _ h
    exact .inr ⟨(leastF cs left ls).toNat, by omega, by omega⟩
set_option maxRecDepth 100000 in
set_option maxHeartbeats 3200000 in
theorem runoffRounds_any (A A2 : Option Addr) (ps : List (ByteArray × Int)) (lots : List Int) (c c2 : Nat) (w : World) (h : PilesI w A ps) (h2 : Ints w A2 lots) (hl : ps.length ≤ 1048576) (hl2 : lots.length ≤ 1000000) (hcap : lots.length ≤ c2) :
    Calls Try.prog 28 #[.slice A ps.length c, .slice A2 lots.length c2] w (NewRB w (rrF ps lots)) := by
  have cV := Lib.hid (lotsValid_any A2 lots c2 w h2 (by omega) hcap)
  have cF := Lib.hid (pilesFit_any A ps c lots.length w h hl)
  cases hv : lv lots
  · rw [hv] at cV
    have hq := Lib.hid (rr_f (ps := ps) (lots := lots) (by rw [hv]; rfl))
    go_enter Try.func28, Try.ntmps28
    go_wp2_with (go_at_call 57; refine cV.out.mono ?_; rintro e w1 ⟨rfl, rfl⟩)
    go_ret2
    exact newRB_mk (own_nilR _ _ w.heap.size) (by rw [hq.out]; rfl) (Below.refl _ _)
  · rw [hv] at cV
    cases hf : fitV ps lots.length
    · have hq := Lib.hid (rr_f (ps := ps) (lots := lots) (by rw [hf, hv]; rfl))
      rw [hf] at cF
      go_enter Try.func28, Try.ntmps28
      go_wp2_with (first | (go_at_call 57; refine cV.out.mono ?_; rintro e w1 ⟨rfl, rfl⟩) | (go_at_call 39; refine cF.out.mono ?_; rintro e w1 ⟨rfl, hb1⟩))
      go_ret2
      exact newRB_mk (own_nilR _ _ w.heap.size) (by rw [hq.out]; rfl) hb1
    · have hq := Lib.hid (rr_t (ps := ps) (lots := lots) (by rw [hf, hv]; rfl))
      have hF := Lib.hid (fitOk_of hf)
      have HV := Lib.hid hv
      have hl5 := hF.out.n5
      have hl1 := hF.out.n1
      have hlr : Hid (∀ l ∈ lots, 0 ≤ l ∧ l < (lots.length : Int)) := Lib.hid (fun l hl => by have := (lv_iff.1 HV.out).2.1 l hl; omega)
      rw [hf] at cF
      clear hf hv
      go_enter Try.func28, Try.ntmps28
      go_wp2_with (first | (go_at_call 57; refine cV.out.mono ?_; rintro e w1 ⟨rfl, rfl⟩) | (go_at_call 39; refine cF.out.mono ?_; rintro e w1 ⟨rfl, hb1⟩) | (at_make; refine wpList_makeB _ rfl _ _ rfl lots.length rfl rfl (by omega) ?_; intro wm hown hbelm hszm))
      have hbm := hb1.trans (hbelm.mono hb1.size)
      have hown := hown.mono (b := w.heap.size) hb1.size
      clear hb1 hbelm hszm cV cF
      generalize w1.heap.size = g0 at *
      go_loopw [7, 8, 9, 11] (fun o _ _ _ wr => ∃ (k : Nat) (B : Option Addr) (d : Nat) (vs : List Rnd) (bs : List Bool), k < lots.length ∧ o = .slice B k d ∧ OwnR wr w.heap.size w.heap.size B k d vs ∧ OwnB wr w.heap.size (some ⟨g0, 0, none⟩) lots.length lots.length bs ∧ Below w.heap.size w wr ∧ Hid (RInv (pl ps) lots lots.length k (vs.map rp) bs)) (fun o _ _ _ _ => lots.length - lenOf o)
      case atStart => exact ⟨0, none, 0, [], _, by omega, rfl, own_nilR _ _ _, hown, hbm, Lib.hid (rInv_start _ _ _)⟩
      case round =>
        clear hown hbm
        obtain ⟨k, B, d, vs, bs, hlt, rfl, hR, hB, hbel, hI⟩ := hrel
        have hsz := hbel.size
        have hbl := hB.1
        have hcl := cntL_len bs (pl ps)
        have hbd := cnt_bds hF.out bs
        have cC := Lib.hid (firstCounts_any A (some ⟨g0, 0, none⟩) ps bs c lots.length wr (h.below hbel) hB.bools (Lib.hid (by rw [hbl]; exact hF.out)))
        have hID := Lib.hid (fun hd => rInv_done hI.out hlt hd)
        have hIM := Lib.hid (fun (q : Nat) hd hq hb => rInv_more (q := q) hI.out hlt hd hq hb)
        have hIE := Lib.hid (fun hd => rInv_end hI.out hd)
        have hth := hI.out.2.1
        have hLA := least_at (cs := cntL bs (pl ps)) HV.out hbl (by omega)
        generalize cntL bs (pl ps) = cs at *
        rw [hbl] at cC
        go_wp2_with fail
        refine cC.out.mono ?_
        rintro e w2 ⟨B1, d1, rfl, ho, hb2⟩
        have hb3 : Below w2.heap.size w2 (w2.alloc (.cells #[.slice B1 cs.length d1, .int .i64 (-1)] 53)) := (Below.refl _ _).alloc (Nat.le_refl _) _
        have hX := box_new w2 B1 cs.length d1 (-1)
        have hcl2 : cs.length = lots.length := by omega
        have cD := Lib.hid (runoffDone_any B1 (some ⟨g0, 0, none⟩) cs bs d1 lots.length (w2.alloc (.cells #[.slice B1 cs.length d1, .int .i64 (-1)] 53)) (ho.ints.below hb3) ((hB.below hb2).below hb3).bools (Lib.hid hcl.symm) (by omega) (by omega) (Lib.hid hbd))
        rw [hbl] at cD
        have hR2 := hR.below hb2
        have hB2 := hB.below hb2
        have hbel2 := below_down hbel hb2
        have ho2 := ho.mono hsz
        have hcap1 := ho.le_cap
        have hsz2 := hbel2.size
        have HC := Lib.hid hcl2
        have HB := Lib.hid hbl
        have hc5' : cs.length ≤ 5 := by omega
        clear cC ho hb2 hR hB hbel hsz hth hbd hcl hcl2 hbl
        go_wp2_with fail
        generalize w2.alloc (.cells #[.slice B1 cs.length d1, .int .i64 (-1)] 53) = w3 at *
        have hR3 := hR2.below hb3
        have hB3 := hB2.below hb3
        have ho3 := ho2.below hb3
        have hbel3 := hbel2.trans (hb3.mono hsz2)
        have hsz3 := hbel3.size
        have hRl := (World.ownsRow.lt hR2.row)
        have HRL := Lib.hid hRl
        clear hRl
        cases hd : doneF cs bs
        · rw [hd] at cD
          obtain ⟨q, hqq, hbq, hql⟩ := hLA
          have HM := Lib.hid (hIM.out q hd hqq hbq)
          have HE := hIE.out hd
          have HQ := Lib.hid hqq
          have HBQ := Lib.hid hbq
          clear hd hqq hbq hIM hID hIE
          go_wp2_with (go_at_call 58; refine cD.out.mono ?_; rintro e w' ⟨rfl, rfl⟩)
          go_loopw [11, 36] (fun _ i wx => ∃ (m : Nat) (z : Int), m ≤ lots.length ∧ i = .int .i64 m ∧ Box wx w2.heap.size B1 cs.length d1 z ∧ Below w2.heap.size w2 wx ∧ Hid (leastF cs bs (lots.take m) = z)) (fun _ i _ => lots.length - (intOf i).toNat)
          case atStart => exact ⟨0, -1, by omega, rfl, hX, hb3, Lib.hid rfl⟩
          case round =>
            clear hR3 hB3 ho3 hbel3 hsz3 hX hb3 cD
            obtain ⟨m, z, hm, rfl, hX, hbx, hz⟩ := hrel
            by_cases hlm : m < lots.length
            · obtain ⟨ad3, l, e3, hl', hcl'⟩ := ((h2.below hbel2).below hbx).at_ hlm
              subst e3
              have hr := hlr.out l (mem_of_at hl'.out)
              obtain ⟨p, rfl⟩ := Int.eq_ofNat_of_zero_le hr.1
              have hp : p < lots.length := by have := hr.2; omega
              have hpc : p < cs.length := by have := HC.out; omega
              obtain ⟨bk, hbk⟩ : ∃ bk, bs[p]? = some bk := ⟨_, List.getElem?_eq_getElem (by have := HB.out; omega)⟩
              have HBK := Lib.hid hbk
              have hcb := (hB2.below hbx).cellB hbk
              obtain ⟨ad, x, e1, hx, cx⟩ := (ho2.below hbx).ints.at_ hpc
              subst e1
              have hc1 := hX.c1
              have hfz := hX.fz
              have hS := Lib.hid (leastF_snoc (cs := cs) (left := bs) hl'.out)
              have hzz := leastF_nn (cs := cs) (left := bs) (ls := lots.take m) (n := lots.length) (fun l hl => hlr.out l (List.mem_of_mem_take hl))
              rw [hz.out] at hzz
              clear hr hbk
              cases bk
              · rcases hzz with rfl | ⟨qz, rfl, hqz⟩
                · have hN := Lib.hid (hS.out.trans (by rw [hz.out, stepL_first HBK.out]))
                  go_wp2
                  go_quiet (fail)
                  go_wp2
                  go_roundw
                  case rel => exact ⟨m + 1, (p : Int), by omega, by go_num, (hX.drewN _).set _, (below_drewN hbx _).setCell (Nat.le_refl _) _, hN⟩
                  case measure => simp [intOf]; omega
                · have hqc : qz < cs.length := by have := HC.out; omega
                  obtain ⟨ad', y, e6, hy, cy⟩ := (ho2.below hbx).ints.at_ hqc
                  obtain rfl : ad = ad' := by injection e6
                  clear e6
                  by_cases hxy : x ≤ y
                  · have hN := Lib.hid (hS.out.trans (by rw [hz.out, stepL_t HBK.out hx.out hy.out hxy]))
                    go_wp2
                    go_quiet (fail)
                    go_wp2
                    go_roundw
                    case rel => exact ⟨m + 1, (p : Int), by omega, by go_num, (hX.drewN _).set _, (below_drewN hbx _).setCell (Nat.le_refl _) _, hN⟩
                    case measure => simp [intOf]; omega
                  · have hN := Lib.hid (hS.out.trans (by rw [hz.out, stepL_f hx.out hy.out hxy]))
                    go_wp2
                    go_quiet (fail)
                    go_wp2
                    go_roundw
                    case rel => exact ⟨m + 1, (qz : Int), by omega, by go_num, hX.drewN _, below_drewN hbx _, hN⟩
                    case measure => simp [intOf]; omega
              · have hN := Lib.hid (hS.out.trans (by rw [hz.out, stepL_l HBK.out]))
                go_wp2
                go_quiet (fail)
                go_wp2
                go_roundw
                case rel => exact ⟨m + 1, z, by omega, by go_num, hX.drewN _, below_drewN hbx _, hN⟩
                case measure => simp [intOf]; omega
            · obtain rfl : m = lots.length := by omega
              clear hlm hm
              obtain rfl : z = (q : Int) := by have := hz.out; rw [List.take_length, HQ.out] at this; exact this.symm
              have hc0 := hX.c0
              have hc1 := hX.c1
              have hbelx := hbel2.trans (hbx.mono hsz2)
              have hszx := hbelx.size
              go_wp2_with (at_builtin; refine wpList_appR1 _ rfl (.tmp 65) (.tmp 67) rfl w.heap.size w.heap.size B k d vs rfl (hR2.below hbx) hszx (by omega) B1 cs.length d1 cs (q : Int) ⟨rfl, ho2.below hbx⟩ (by omega) hcap1 rfl ?_; intro A4 c4 w4 hR4 hg4 hb4; have hX4 := (hX.grown hg4 (fun kk hk => (HRL.out kk hk).2)).c1; have hB4 := (hB2.below hbx).grownR (hR2.below hbx) hg4; have hcq := hB4.cellB HBQ.out; have hfq := hB4.frozenB q)
              go_roundw
              case rel => exact ⟨k + 1, _, _, _, bs.set q true, by omega, rfl, hR4.setB hB4 q true, hB4.setB q true, (hbelx.trans hb4).setCell (hB4.blockB g0 rfl).1 _, Lib.hid (by rw [List.map_append]; exact HM.out)⟩
              case measure => simp [lenOf]; omega
        · rw [hd] at cD
          have HD := Lib.hid (hID.out hd)
          clear hd hIM hID hLA hIE
          have hc0 := hX.c0
          have hc1 := hX.c1
          go_wp2_with (first | (go_at_call 58; refine cD.out.mono ?_; rintro e w' ⟨rfl, rfl⟩) | (at_builtin; refine wpList_appR1 _ rfl (.tmp 65) (.tmp 67) rfl w.heap.size w.heap.size B k d vs rfl hR3 hsz3 (by omega) B1 cs.length d1 cs (-1) ⟨rfl, ho3⟩ (by omega) hcap1 rfl ?_; intro A4 c4 w4 hR4 hg4 hb4; have hX4 := (hX.grown hg4 (fun kk hk => (HRL.out kk hk).2)).c1))
          go_ret2
          exact newRB_mk hR4 (by rw [hq.out, HD.out, List.map_append]; rfl) (hbel3.trans hb4)
end Go.Proofs.Ythngafmnkihkgaa
