/-
  All steps of a transfer: the program's.
-/
import Derived.Test.YtiinfbjlkbjmmaaQTraK
namespace Go.Proofs.Ytiinfbjlkbjmmaa
open Go.RowKit
set_option maxRecDepth 100000 in
theorem Tr.grownSt {w w' : World} {lo tb cw gl np c n d2 base bi m e : Nat} {Aw A A2 C : Option Addr} {ws : List Fr} {left : List Bool} {there seats quota : Int} {vs : List Vst} (h : Tr w lo tb Aw cw gl A np c A2 n d2 ws left there seats quota) (hr : OwnS w base bi C m e vs) (hg : w.grownBy w' (Value.slice C m e).ownBlock) : Tr w' lo tb Aw cw gl A np c A2 n d2 ws left there seats quota :=
  ⟨World.ownsRow.kept h.box hg (by
    cases hv : (Value.slice C m e).ownBlock with
    | none => exact .inr (by simp [Value.ownBlock])
    | some x => exact .inr (fun e2 => own_ne hr.row h.box (by decide) hv e2)),
   h.wts.grown hg (fun x hx e2 => own_ne hr.row h.wts.row (by decide) hx e2), h.lft.grownB hg (fun x hx e2 => own_ne hr.row h.lft.2 (by decide) hx e2)⟩
set_option maxRecDepth 100000 in
theorem quoT_bd {t s : Nat} (h : t ≤ 60) : 1 ≤ quoT t s ∧ quoT t s ≤ 61 := by
  have h1 := Nat.div_le_self t (s + 1)
  unfold quoT
  generalize t / (s + 1) = d at *
  omega
set_option maxRecDepth 100000 in
theorem Tr.mono {w : World} {lo lo' tb cw gl np c n d2 : Nat} {Aw A A2 : Option Addr} {ws : List Fr} {left : List Bool} {there seats quota : Int} (h : Tr w lo tb Aw cw gl A np c A2 n d2 ws left there seats quota) (hb : lo' ≤ lo) : Tr w lo' tb Aw cw gl A np c A2 n d2 ws left there seats quota := by
  refine ⟨⟨h.box.1, ?_⟩, h.wts.mono hb, h.lft.mono hb⟩
  rcases h.box.2 with h2 | ⟨g, cap, cur, hv, hg, r⟩
  · exact .inl h2
  · exact .inr ⟨g, cap, cur, hv, by omega, r⟩
set_option maxRecDepth 100000 in
set_option maxHeartbeats 6400000 in
theorem transferSteps_any (A A2 : Option Addr) (ps : List (ByteArray × Int)) (lots : List Int) (c c2 : Nat) (s : Int) (w : World) (h : PilesI w A ps) (h2 : Ints w A2 lots) (hl : ps.length ≤ 1048576) (hl2 : lots.length ≤ 1048576) (hcap : lots.length ≤ c2) :
    Calls Try.prog 19 #[.slice A ps.length c, .slice A2 lots.length c2, .int .i64 s] w (NewSB w (trF ps lots s)) := by
  have cV := Lib.hid (lotsValid_any A2 lots c2 w h2 (by omega) hcap)
  have cF := Lib.hid (pilesFit_any A ps c lots.length w h hl)
  have HT := Lib.hid (show trOk ps lots s = (lv lots && fitV ps lots.length && inB s 1 (min 2 (lots.length : Int)) && decide (totM ps ≤ 60)) from rfl)
  cases hv : lv lots
  · rw [hv] at cV HT
    have hq := Lib.hid (tr_f (ps := ps) (lots := lots) (s := s) (by rw [HT.out]; rfl))
    go_enter Try.func19, Try.ntmps19
    go_wp2_with (go_at_call 48; refine cV.out.mono ?_; rintro e w1 ⟨rfl, rfl⟩)
    go_ret2
    exact newSB_of (own_nilS _ _ _) (by rw [hq.out]; rfl) (Below.refl _ _)
  · rw [hv] at cV HT
    cases hf : fitV ps lots.length
    · rw [hf] at cF HT
      have hq := Lib.hid (tr_f (ps := ps) (lots := lots) (s := s) (by rw [HT.out]; rfl))
      go_enter Try.func19, Try.ntmps19
      go_wp2_with (first | (go_at_call 48; refine cV.out.mono ?_; rintro e w1 ⟨rfl, rfl⟩) | (go_at_call 49; refine cF.out.mono ?_; rintro e w1 ⟨rfl, hb1⟩))
      go_ret2
      exact newSB_of (own_nilS _ _ _) (by rw [hq.out]; rfl) hb1
    · have hF := Lib.hid (fitOk_of hf)
      have hps := (fitV_iff.1 hf).1
      have hTF : totF ps = totM ps := by simp [totF, hps]
      rw [hf] at cF HT
      have cT := Lib.hid (fun w (h : PilesI w A ps) => pilesTotal_any A ps c w h hl)
      rw [hTF] at cT
      have hl1 := hF.out.n1
      have hl5 := hF.out.n5
      by_cases ht : totM ps ≤ 60
      · by_cases hs1 : 1 ≤ s
        · by_cases hs2 : s ≤ min 2 (lots.length : Int)
          · obtain ⟨n, rfl⟩ := Int.eq_ofNat_of_zero_le (show 0 ≤ s by omega)
            have hn1 : 1 ≤ n := by omega
            have hn2 : n ≤ 2 := by omega
            have hnl : n ≤ lots.length := by omega
            have hok : trOk ps lots (n : Int) = true := trOk_iff.2 ⟨hv, hf, ⟨by omega, by omega, by omega⟩, ht⟩
            have hq := Lib.hid (tr_t hok)
            rw [Int.toNat_natCast] at hq
            have htn := totM_all hF.out
            obtain ⟨q, hqe⟩ : ∃ q, quoT (totM ps).toNat n = q := ⟨_, rfl⟩
            have hqb := quoT_bd (t := (totM ps).toNat) (s := n) (by omega)
            have cN := Lib.hid (fun w (h : PilesI w A ps) => newTransfer_any A A2 ps lots c c2 n w h (Lib.hid hps) (Lib.hid ht) hl5 hn1 hn2)
            have HV := Lib.hid hv
            have HTT := Lib.hid ht
            have hst : startT ps lots n = stepsT (pl ps) lots q lots.length (List.replicate lots.length false) (List.replicate ps.length (1, 1)) n := by unfold startT; rw [hqe]
            have hI0 := tInv_start ps lots q n hn2 hnl
            rw [← hst] at hI0
            have HI0 := Lib.hid hI0
            rw [hqe] at cN hqb
            obtain ⟨hq1, hq61⟩ := hqb
            generalize startT ps lots n = all at *
            obtain ⟨T, hT⟩ : ∃ T, totM ps = T := ⟨_, rfl⟩
            rw [hT] at cT ht htn
            have hth0 := thereL_rep lots.length
            have HTH := Lib.hid hth0.symm
            obtain ⟨mn, hmn, hcase⟩ : ∃ mn, min 2 (lots.length : Int) = mn ∧ (((2 : Int) ≤ (lots.length : Int) ∧ mn = 2) ∨ ((lots.length : Int) ≤ 1 ∧ mn = lots.length)) := by
              by_cases h2l : (2 : Int) ≤ (lots.length : Int)
              · exact ⟨_, rfl, .inl ⟨h2l, by omega⟩⟩
              · exact ⟨_, rfl, .inr ⟨by omega, by omega⟩⟩
            rw [hmn] at hs2
            have hln1 : (lots.length : Int) ≤ 5 := by omega
            clear hv hf hps hTF hok hqe hst hI0 hT hth0 hmn HT
            have HPI := Lib.hid h
            have HLI := Lib.hid h2
            rcases hcase with ⟨h2l, rfl⟩ | ⟨h2l, rfl⟩
            all_goals
              go_enter Try.func19, Try.ntmps19
              go_wp2_with (first | (go_at_call 48; refine cV.out.mono ?_; rintro e w1 ⟨rfl, rfl⟩) | (go_at_call 49; refine cF.out.mono ?_; rintro e w1 ⟨rfl, hb1⟩) | (go_at_call 24; refine (cT.out _ (h.below hb1)).mono ?_; rintro e w2 ⟨rfl, hb2⟩; have hB2 := below_down hb1 hb2) | (go_at_call 50; refine (cN.out _ (h.below hB2)).mono ?_; rintro e w3 ⟨tb, Aw, cw, gl, rfl, hTr, hb3⟩))
              have hB3 := below_down hB2 hb3
              have hTr := hTr.mono hB2.size
              obtain ⟨htb0, htb1⟩ := hTr.lt
              have htl := OwnB.blockB hTr.lft gl rfl
              have HWR := Lib.hid (fun g e => (hTr.wts.block g e).2)
              have hB3 := below_down hB2 hb3
              have hzw := hB3.size
              clear hb1 hb2 hB2 hb3 cV cF cT cN
              generalize hhi : w3.heap.size = hi at *
              have HHI := Lib.hid hhi
              clear hhi
              obtain ⟨htl0, htl1⟩ := htl
              go_loopg [9] lots.length (fun r o wr => ∃ (k : Nat) (C : Option Addr) (d : Nat) (vs : List Vst) (ws : List Fr) (left : List Bool) (there : Int) (s' : Nat), Hid (k + r = lots.length) ∧ k ≤ lots.length ∧ o = .slice C k d ∧ OwnS wr hi hi C k d vs ∧ Tr wr w.heap.size tb Aw cw gl A ps.length c A2 lots.length c2 ws left there s' q ∧ Hid (there = thereL left) ∧ Below w.heap.size w wr ∧ hi ≤ wr.heap.size ∧ Hid (TInv ps lots q lots.length k all (vs.map sp) left ws s'))
              case atStart => exact ⟨0, none, 0, [], _, _, _, n, Lib.hid (Nat.zero_add _), by omega, rfl, own_nilS _ _ _, hTr, HTH, hB3, Nat.le_of_eq HHI.out.symm, HI0⟩
              case round =>
                clear hTr hB3 HI0 HTH
                obtain ⟨k, C, d, vs, ws, left, there, s', hkr, hkn, rfl, hR, hTr, hthe, hbel, hhz, hI⟩ := hrel
                have t5 := hTr.c5
                have hs2' := hI.out.s2
                by_cases hs : 1 ≤ s'
                · have hk : k < lots.length := by
                    rcases Nat.lt_or_ge k lots.length with h9 | h9
                    · exact h9
                    · have := hI.out.none h9
                      omega
                  have h7 := hI.out.there
                  have h7 : there = (lots.length : Int) - k := by rw [hthe.out]; exact h7
                  have cS := Lib.hid (step_any tb Aw cw gl hi A A2 ps lots c c2 q k s' all (vs.map sp) ws left there w wr HPI.out HLI.out hbel hTr hI hk hs hq1 hq61 hF HTT HV hthe htb1 htl1 (Lib.hid HWR.out) hhz)
                  go_wp2_with fail
                  refine cS.out.mono ?_
                  rintro e w4 ⟨C5, d5, p, kind, ws2, s2, rfl, hO, hT2, hbt, hI2⟩
                  have hR4 := hR.btw hbt (Nat.le_refl _) (Nat.le_refl _)
                  have hB4 := below_btw hbel hbt (Nat.le_refl _) hbel.size
                  have hO4 := hO.mono hhz
                  have hz4 : hi ≤ w4.heap.size := Nat.le_trans hhz hbt.size
                  clear cS hR hbt hTr t5 hO hI hbel hhz
                  go_wp2_with (at_builtin; refine wpList_appS1 _ rfl (.tmp 45) (.tmp 48) rfl hi hi C k d vs rfl hR4 hz4 (by omega) C5 lots.length d5 (cntT left ((pl ps).zip ws)) (p : Int) kind hO4 rfl ?_; intro A7 c7 w7 hR7 hg7 hb7)
                  have hT7 := hT2.grownSt hR4 hg7
                  have hz7 := Nat.le_trans hz4 hg7.size
                  have HT2 := Lib.hid (show there - 1 = thereL (left.set p true) from by
                    have h8 := hI2.out.there
                    rw [h8, h7]; omega)
                  clear h7
                  go_roundg (gk - 1)
                  case measure => have := hkr.out; omega
                  case rel => exact ⟨k + 1, _, _, _, _, _, _, s2, Lib.hid (by have := hkr.out; omega), by omega, rfl, hR7, hT7, HT2, hB4.trans (hb7.mono (by omega)), hz7, Lib.hid (by rw [List.map_append]; exact hI2.out)⟩
                · obtain rfl : s' = 0 := by omega
                  have hfin := hI.out.fin (.inr rfl)
                  go_wp2
                  go_ret2
                  exact newSB_of (hR.mono hzw hzw) (by rw [hq.out, hfin]) hbel
          · have hi : inB (s : Int) 1 (min 2 (lots.length : Int)) = false := inB_f (by omega)
            rw [hi] at HT
            have hq := Lib.hid (tr_f (ps := ps) (lots := lots) (s := s) (by rw [HT.out]; simp))
            have hb60 := totM_all hF.out
            generalize totM ps = T at *
            by_cases h2l : (2 : Int) ≤ (lots.length : Int)
            · have hs3 : 2 < s := by omega
              clear hs2 hi
              go_enter Try.func19, Try.ntmps19
              go_wp2_with (first | (go_at_call 48; refine cV.out.mono ?_; rintro e w1 ⟨rfl, rfl⟩) | (go_at_call 49; refine cF.out.mono ?_; rintro e w1 ⟨rfl, hb1⟩) | (go_at_call 24; refine (cT.out _ (h.below hb1)).mono ?_; rintro e w2 ⟨rfl, hb2⟩; have hB2 := below_down hb1 hb2))
              go_ret2
              exact newSB_of (own_nilS _ _ _) (by rw [hq.out]; rfl) hB2
            · have hs3 : (lots.length : Int) < s := by omega
              clear hs2 hi
              go_enter Try.func19, Try.ntmps19
              go_wp2_with (first | (go_at_call 48; refine cV.out.mono ?_; rintro e w1 ⟨rfl, rfl⟩) | (go_at_call 49; refine cF.out.mono ?_; rintro e w1 ⟨rfl, hb1⟩) | (go_at_call 24; refine (cT.out _ (h.below hb1)).mono ?_; rintro e w2 ⟨rfl, hb2⟩; have hB2 := below_down hb1 hb2))
              go_ret2
              exact newSB_of (own_nilS _ _ _) (by rw [hq.out]; rfl) hB2
        · have hi : inB (s : Int) 1 (min 2 (lots.length : Int)) = false := inB_f (by omega)
          rw [hi] at HT
          have hq := Lib.hid (tr_f (ps := ps) (lots := lots) (s := s) (by rw [HT.out]; simp))
          have hb60 := totM_all hF.out
          generalize totM ps = T at *
          clear hi
          go_enter Try.func19, Try.ntmps19
          go_wp2_with (first | (go_at_call 48; refine cV.out.mono ?_; rintro e w1 ⟨rfl, rfl⟩) | (go_at_call 49; refine cF.out.mono ?_; rintro e w1 ⟨rfl, hb1⟩) | (go_at_call 24; refine (cT.out _ (h.below hb1)).mono ?_; rintro e w2 ⟨rfl, hb2⟩; have hB2 := below_down hb1 hb2))
          go_ret2
          exact newSB_of (own_nilS _ _ _) (by rw [hq.out]; rfl) hB2
      · have hd : decide (totM ps ≤ 60) = false := by simpa using ht
        rw [hd] at HT
        have hq := Lib.hid (tr_f (ps := ps) (lots := lots) (s := s) (by rw [HT.out]; simp))
        have hb60 := totM_all hF.out
        generalize totM ps = T at *
        clear hd
        go_enter Try.func19, Try.ntmps19
        go_wp2_with (first | (go_at_call 48; refine cV.out.mono ?_; rintro e w1 ⟨rfl, rfl⟩) | (go_at_call 49; refine cF.out.mono ?_; rintro e w1 ⟨rfl, hb1⟩) | (go_at_call 24; refine (cT.out _ (h.below hb1)).mono ?_; rintro e w2 ⟨rfl, hb2⟩; have hB2 := below_down hb1 hb2))
        go_ret2
        exact newSB_of (own_nilS _ _ _) (by rw [hq.out]; rfl) hB2
end Go.Proofs.Ytiinfbjlkbjmmaa
