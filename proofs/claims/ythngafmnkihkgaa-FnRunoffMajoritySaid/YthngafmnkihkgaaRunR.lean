/-
  All rounds of a runoff: the reference's way.
-/
import Derived.Test.YthngafmnkihkgaaRunO
import Derived.Test.YthngafmnkihkgaaCntP
namespace Go.Proofs.Ythngafmnkihkgaa
open Go.RowKit
theorem roundsF_done {ps : List Pl} {lots : List Int} {k : Nat} {left : List Bool} (h : doneF (cntL left ps) left = true) : roundsF ps lots (k + 1) left = [(cntL left ps, -1)] := by
  simp only [roundsF]
  rw [if_pos h]
theorem roundsF_more {ps : List Pl} {lots : List Int} {k : Nat} {left : List Bool} (h : doneF (cntL left ps) left = false) : roundsF ps lots (k + 1) left = (cntL left ps, leastF (cntL left ps) left lots) :: roundsF ps lots k (left.set (leastF (cntL left ps) left lots).toNat true) := by
  simp only [roundsF]
  rw [if_neg (by rw [h]; simp)]
theorem least_at {cs : List Int} {bs : List Bool} {lots : List Int} (hv : lv lots = true) (hl : bs.length = lots.length) (ht : 1 ≤ thereL bs) : ∃ q : Nat, leastF cs bs lots = (q : Int) ∧ bs[q]? = some false ∧ q < lots.length := by
  obtain ⟨k, hk⟩ := thereL_pos ht
  have hkl := (List.getElem?_eq_some_iff.1 hk).1
  have hr := (lv_iff.1 hv).2.1
  have h1 := leastF_some (cs := cs) (left := bs) (fun l hl => (hr l hl).1) (lots_all hv (i := k) (by omega)) (atB_at hk)
  rcases leastF_in cs bs lots with h2 | ⟨h2, h3⟩
  · exact absurd h2 h1
  · have h4 := hr _ h2
    refine ⟨(leastF cs bs lots).toNat, by omega, ?_, by omega⟩
    have h5 : (leastF cs bs lots).toNat < bs.length := by omega
    unfold atB at h3
    rw [List.getD_eq_getElem?_getD, List.getElem?_eq_getElem h5] at h3
    rw [List.getElem?_eq_getElem h5]
    exact congrArg some h3
theorem cnt_bds {ps : List (ByteArray × Int)} {n : Nat} (h : FitOk ps n) (left : List Bool) : ∀ x ∈ cntL left (pl ps), 0 ≤ x ∧ x ≤ 1188 := by
  intro x hx
  simp only [cntL, List.mem_map] at hx
  obtain ⟨c, _, rfl⟩ := hx
  have := cntC_bd h left (c : Int) ps.length
  rwa [List.take_length] at this
/-- What holds before round k. -/
def RInv (ps : List Pl) (lots : List Int) (n k : Nat) (rs : List (List Int × Int)) (bs : List Bool) : Prop :=
  bs.length = n ∧ thereL bs = (n : Int) - k ∧ rs ++ roundsF ps lots (n - k) bs = roundsF ps lots n (List.replicate n false)
theorem thereL_rep (n : Nat) : thereL (List.replicate n false) = n := by
  unfold thereL
  induction n with
  | zero => rfl
  | succ n ih =>
    rw [List.replicate_succ, List.map_cons, List.sum_cons, ih]
    simp; omega
theorem rInv_start (ps : List Pl) (lots : List Int) (n : Nat) : RInv ps lots n 0 [] (List.replicate n false) := ⟨by simp, by rw [thereL_rep]; omega, rfl⟩
theorem rInv_done {ps : List Pl} {lots : List Int} {n k : Nat} {rs : List (List Int × Int)} {bs : List Bool} (h : RInv ps lots n k rs bs) (hk : k < n) (hd : doneF (cntL bs ps) bs = true) : roundsF ps lots n (List.replicate n false) = rs ++ [(cntL bs ps, -1)] := by
  obtain ⟨m, hm⟩ : ∃ m, n - k = m + 1 := ⟨n - k - 1, by omega⟩
  have := h.2.2
  rw [hm, roundsF_done hd] at this
  exact this.symm
theorem rInv_more {ps : List Pl} {lots : List Int} {n k q : Nat} {rs : List (List Int × Int)} {bs : List Bool} (h : RInv ps lots n k rs bs) (hk : k < n) (hd : doneF (cntL bs ps) bs = false) (hq : leastF (cntL bs ps) bs lots = (q : Int)) (hb : bs[q]? = some false) : RInv ps lots n (k + 1) (rs ++ [(cntL bs ps, (q : Int))]) (bs.set q true) := by
  obtain ⟨m, hm⟩ : ∃ m, n - k = m + 1 := ⟨n - k - 1, by omega⟩
  refine ⟨by rw [List.length_set]; exact h.1, by rw [thereL_set hb, h.2.1]; omega, ?_⟩
  have := h.2.2
  rw [hm, roundsF_more hd, hq] at this
  rw [show n - (k + 1) = m by omega, ← this, List.append_assoc]; rfl
theorem rInv_last {ps : List Pl} {lots : List Int} {n k : Nat} {rs : List (List Int × Int)} {bs : List Bool} (h : RInv ps lots n k rs bs) (hk : n ≤ k) : roundsF ps lots n (List.replicate n false) = rs := by
  have := h.2.2
  rw [show n - k = 0 by omega] at this
  simp only [roundsF, List.append_nil] at this
  exact this.symm
/-- The last one there is is done. -/
theorem rInv_end {ps : List Pl} {lots : List Int} {n k : Nat} {rs : List (List Int × Int)} {bs : List Bool} (h : RInv ps lots n k rs bs) (hd : doneF (cntL bs ps) bs = false) : k + 1 ≠ n := by
  intro e
  have := h.2.1
  unfold doneF at hd
  rw [show thereL bs = 1 by omega] at hd
  simp at hd
/-- It returns the rounds. -/
def NewR (w : World) (rs : List (List Int × Int)) (e : Ending) (w' : World) : Prop := ∃ A c, e = .returned (.slice A rs.length c) ∧ RoundsI w' A rs ∧ rs.length ≤ c ∧ Below w.heap.size w w'
def NewRB (w : World) (r : List (List Int × Int) × Bool) (e : Ending) (w' : World) : Prop := ∃ A c, e = .returned (.tuple #[.slice A r.1.length c, .bool r.2]) ∧ RoundsI w' A r.1 ∧ r.1.length ≤ c ∧ Below w.heap.size w w'
theorem OwnR.le_cap {w : World} {base bi n c : Nat} {A : Option Addr} {vs : List Rnd} (h : OwnR w base bi A n c vs) : n ≤ c := by
  rcases h.row.2 with ⟨hv, h0⟩ | ⟨g, cap, cur, hv, hb, hg, h1, _⟩
  · omega
  · injection hv with _ _ hc
    omega
theorem newR_mk {w w' : World} {rs : List (List Int × Int)} {A : Option Addr} {n c bi : Nat} {vs : List Rnd} (ho : OwnR w' w.heap.size bi A n c vs) (e : rs = vs.map rp) (hb : Below w.heap.size w w') : NewR w rs (.returned (.slice A n c)) w' := by
  subst e
  have hl := ho.len
  have hc := ho.le_cap
  exact ⟨A, c, by rw [List.length_map, hl], ho.rounds, by rw [List.length_map, hl]; exact hc, hb⟩
theorem newRB_mk {w w' : World} {r : List (List Int × Int) × Bool} {A : Option Addr} {n c bi : Nat} {b : Bool} {vs : List Rnd} (ho : OwnR w' w.heap.size bi A n c vs) (e : r = (vs.map rp, b)) (hb : Below w.heap.size w w') : NewRB w r (.returned (.tuple #[.slice A n c, .bool b])) w' := by
  subst e
  have hl := ho.len
  have hc := ho.le_cap
  exact ⟨A, c, by simp only [List.length_map, hl], ho.rounds, by simp only [List.length_map, hl]; exact hc, hb⟩
set_option maxRecDepth 100000 in
set_option maxHeartbeats 3200000 in
theorem l12Rounds_any (A A2 : Option Addr) (ps : List (ByteArray × Int)) (lots : List Int) (c c2 : Nat) (w : World) (h : PilesI w A ps) (h2 : Ints w A2 lots) (hf : Hid (FitOk ps lots.length)) (hv : Hid (lv lots = true)) :
    Calls Try.prog 60 #[.slice A ps.length c, .slice A2 lots.length c2] w (NewR w (roundsF (pl ps) lots lots.length (List.replicate lots.length false))) := by
  have hl5 := hf.out.n5
  have hl1 := hf.out.n1
  go_enter Try.func60, Try.ntmps60
  go_wp2_with (at_make; refine wpList_makeB _ rfl _ _ rfl lots.length rfl rfl (by omega) ?_; intro w1 hown hbel hsz)
  go_loopw [5, 6, 7, 8, 9] (fun o l i _ _ wr => ∃ (k : Nat) (B : Option Addr) (d : Nat) (vs : List Rnd) (A3 : Option Addr) (c3 : Nat) (bs : List Bool), k ≤ lots.length ∧ i = .int .i64 k ∧ o = .slice B k d ∧ l = .slice A3 lots.length c3 ∧ OwnR wr w.heap.size w.heap.size B k d vs ∧ OwnB wr w.heap.size A3 lots.length c3 bs ∧ Below w.heap.size w wr ∧ Hid (RInv (pl ps) lots lots.length k (vs.map rp) bs)) (fun _ _ i _ _ _ => lots.length - (intOf i).toNat)
  case atStart => exact ⟨0, _, _, [], _, _, _, by omega, rfl, rfl, rfl, (own_emptyR w (Nat.le_refl _)).below hbel, OwnB.mono (by simpa using hown) (b := w.heap.size) (by simp), ((Below.refl _ _).alloc (Nat.le_refl _) _).trans (hbel.mono (by simp)), Lib.hid (rInv_start _ _ _)⟩
  case round =>
    clear hown hbel hsz
    obtain ⟨k, B, d, vs, A3, c3, bs, hk, rfl, rfl, rfl, hR, hB, hbel, hI⟩ := hrel
    have hsz := hbel.size
    by_cases hlt : k < lots.length
    · obtain ⟨g3, rfl, hg30, hg31⟩ := hB.form (by omega)
      have hbl := hB.1
      have hcl := cntL_len bs (pl ps)
      have hbd := cnt_bds hf.out bs
      have cC := Lib.hid (l11Counts_any A (some ⟨g3, 0, none⟩) ps bs c c3 wr (h.below hbel) hB.bools (Lib.hid (by rw [hbl]; exact hf.out)))
      have hID := Lib.hid (fun hd => rInv_done hI.out hlt hd)
      have hIM := Lib.hid (fun (q : Nat) hd hq hb => rInv_more (q := q) hI.out hlt hd hq hb)
      have hth := hI.out.2.1
      have hLA := least_at (cs := cntL bs (pl ps)) hv.out hbl (by omega)
      generalize cntL bs (pl ps) = cs at *
      rw [hbl] at cC
      go_wp2_with fail
      refine cC.out.mono ?_
      rintro e w2 ⟨B1, d1, rfl, ho, hb2⟩
      have hcl2 : cs.length = lots.length := by omega
      have cD := Lib.hid (l12Done_any B1 (some ⟨g3, 0, none⟩) cs bs d1 c3 w2 ho.ints ((hB.below hb2).bools) (Lib.hid hcl.symm) (by omega) (Lib.hid hbd))
      have cL := Lib.hid (l12Least_any B1 (some ⟨g3, 0, none⟩) A2 cs lots bs d1 c3 c2 w2 ho.ints ((hB.below hb2).bools) ((h2.below hbel).below hb2) (Lib.hid hcl.symm) (Lib.hid hcl2.symm) (by omega) (Lib.hid hbd) hv (Lib.hid (by omega)))
      rw [hbl] at cD cL
      have hR2 := hR.below hb2
      have hB2 := hB.below hb2
      have hbel2 := below_down hbel hb2
      have ho2 := ho.mono hsz
      have hcap := ho.le_cap
      have hsz2 := hbel2.size
      have HC := Lib.hid hcl2
      have hc5' : cs.length ≤ 5 := by omega
      clear cC ho hb2 hR hB hbel hsz hth hbd hg31 hcl hcl2
      cases hd : doneF cs bs
      · rw [hd] at cD
        obtain ⟨q, hq, hbq, hql⟩ := hLA
        have HM := Lib.hid (hIM.out q hd hq hbq)
        have HBQ := Lib.hid hbq
        rw [hq] at cL
        clear hd hq hbq hIM hID
        have hql2 : q < bs.length := by omega
        go_wp2_with (first | (go_at_call 82; refine cD.out.mono ?_; rintro e w' ⟨rfl, rfl⟩) | (go_at_call 83; refine cL.out.mono ?_; rintro e w3 ⟨rfl, hb3⟩) | (at_builtin; refine wpList_appR1 _ rfl (.tmp 35) (.tmp 39) rfl w.heap.size w.heap.size B k d vs rfl (hR2.below hb3) (Nat.le_trans hsz2 hb3.size) (by omega) B1 cs.length d1 cs (q : Int) ⟨rfl, ho2.below hb3⟩ (by omega) hcap rfl ?_; intro A4 c4 w4 hR4 hg4 hb4; have hB4 := (hB2.below hb3).grownR (hR2.below hb3) hg4) | (at_builtin; refine wpList_appBs _ rfl (.tmp 41) (.tmp 42) rfl w4.heap.size (some ⟨w4.heap.size, 0, none⟩) 0 0 [] rfl (ownB_empty w4 (Nat.le_refl _)) (by simp) (by omega) ⟨g3, 0, none⟩ bs lots.length c3 rfl hbl (by omega) (hB4.bools.alloc _) lots.length (by omega) ?_; intro A5 c5 w5 h5 hg5 hb5; obtain ⟨g5, rfl, hg50, hg51⟩ := h5.form (by omega); have hc5 := h5.cellB HBQ.out; have hf5 := h5.frozenB q))
        go_roundw
        case rel =>
          have hb45 := ((Below.refl w4.heap.size w4).alloc (Nat.le_refl _) _).trans hb5
          have hB4s := hbel2.trans ((hb3.mono hsz2).trans hb4)
          exact ⟨k + 1, _, _, _, _, _, bs.set q true, by omega, by go_num, rfl, rfl, (hR4.below hb45).setB h5 q true, (h5.setB q true).mono hB4s.size, (hB4s.trans (hb45.mono hB4s.size)).setCell (Nat.le_trans hB4s.size hg50) _, Lib.hid (by rw [List.map_append]; exact HM.out)⟩
        case measure => simp [intOf]; omega
      · rw [hd] at cD
        have HD := Lib.hid (hID.out hd)
        clear hd hIM hID hLA cL
        go_wp2_with (first | (go_at_call 82; refine cD.out.mono ?_; rintro e w' ⟨rfl, rfl⟩) | (at_builtin; refine wpList_appR1 _ rfl (.tmp 26) (.tmp 29) rfl w.heap.size w.heap.size B k d vs rfl hR2 hsz2 (by omega) B1 cs.length d1 cs (-1) ⟨rfl, ho2⟩ (by omega) hcap rfl ?_; intro A4 c4 w4 hR4 hg4 hb4))
        go_ret
        exact newR_mk hR4 (by rw [HD.out, List.map_append]; rfl) (hbel2.trans hb4)
    · obtain rfl : k = lots.length := by omega
      clear hlt
      go_wp2
      go_ret
      exact newR_mk hR (rInv_last hI.out (by omega)) hbel
end Go.Proofs.Ythngafmnkihkgaa
