/-
  Seats in all districts of the reference.
-/
import Derived.Test.YtoblhmbpobbecaaDistS
namespace Go.Proofs.Ytoblhmbpobbecaa
open Go.RowKit
theorem dsC_val {xss : List (List Int)} {s m q : Int} {ls : List Int} (hd : dvB xss = true) (hq : 20 / (xss.length : Int) = q) : dsC xss s m ls = (inB s 0 q && mv m && lv ls && ((ls.length : Int) == (wid xss : Int))) := by
  unfold dsC; rw [hd, hq]; simp
set_option maxHeartbeats 1600000 in
theorem l24Ok_any (A A2 : Option Addr) (xss : List (List Int)) (ls : List Int) (c c2 : Nat) (s m : Int) (w : World) (h : RowsI w A xss) (h2 : Ints w A2 ls) (hl : tot xss ≤ 1048576) (hl3 : ls.length ≤ 1048576) (hcap : ls.length ≤ c2) :
    Calls Try.prog 50 #[.slice A xss.length c, .int .i64 s, .int .i64 m, .slice A2 ls.length c2] w (Bl w (.bool (dsC xss s m ls))) := by
  have cD := Lib.hid (specDV_any A xss c w h hl)
  cases hd : dvB xss
  · have hq := Lib.hid (show dsC xss s m ls = false from by simp [dsC, hd])
    rw [hd] at cD
    go_enter Try.func50, Try.ntmps50
    go_wp2_with (go_at_call 69; refine cD.out.mono ?_; rintro e w1 ⟨rfl, hb1⟩)
    go_ret
    exact ⟨ret_bool hq.out.symm, hb1⟩
  have o := dvOk_of hd
  obtain ⟨hx1, hx4⟩ := o.l1
  obtain ⟨q, hq20, hq0, hq1⟩ := quo20 xss.length hx1
  rw [hd] at cD
  have hxz : ¬ (xss.length : Int) = 0 := by omega
  have hxn : ¬ xss = [] := by intro e; subst e; simp at hx1
  have hV := Lib.hid (dsC_val (s := s) (m := m) (ls := ls) hd hq20)
  have cL := Lib.hid (fun (w : World) (h : Ints w A2 ls) => specLotsValid_any A2 ls c2 w h hl3 hcap)
  have HT := Lib.hid hl
  have HO := Lib.hid o
  clear hl o hd
  cases hi : inB s 0 q
  · have hq := Lib.hid (show dsC xss s m ls = false from by rw [hV.out, hi]; rfl)
    go_enter Try.func50, Try.ntmps50
    go_wp2_with (first | (go_at_call 69; refine cD.out.mono ?_; rintro e w1 ⟨rfl, hb1⟩) | (go_at_call 56; refine (l6In_any _ _ _ _).mono ?_; rintro e w' ⟨rfl, rfl⟩))
    go_ret
    exact ⟨ret_bool hq.out.symm, hb1⟩
  cases hm : mv m
  · have hq := Lib.hid (show dsC xss s m ls = false from by rw [hV.out, hi, hm]; rfl)
    go_enter Try.func50, Try.ntmps50
    go_wp2_with (first | (go_at_call 69; refine cD.out.mono ?_; rintro e w1 ⟨rfl, hb1⟩) | (go_at_call 56; refine (l6In_any _ _ _ _).mono ?_; rintro e w' ⟨rfl, rfl⟩) | (go_at_call 70; refine (l21Method_any _ _).mono ?_; rintro e w' ⟨rfl, rfl⟩))
    go_ret
    exact ⟨ret_bool hq.out.symm, hb1⟩
  obtain ⟨bl, hbl⟩ : ∃ bl, lv ls = bl := ⟨_, rfl⟩
  rw [hbl] at cL
  have HBL := Lib.hid hbl
  clear hbl
  cases bl
  · have hq := Lib.hid (show dsC xss s m ls = false from by rw [hV.out, hi, hm, HBL.out]; rfl)
    go_enter Try.func50, Try.ntmps50
    go_wp2_with (first | (go_at_call 69; refine cD.out.mono ?_; rintro e w1 ⟨rfl, hb1⟩) | (go_at_call 56; refine (l6In_any _ _ _ _).mono ?_; rintro e w' ⟨rfl, rfl⟩) | (go_at_call 70; refine (l21Method_any _ _).mono ?_; rintro e w' ⟨rfl, rfl⟩) | (go_at_call 71; refine (cL.out _ (h2.below hb1)).mono ?_; rintro e w' ⟨rfl, n1, rfl⟩))
    go_ret
    exact ⟨ret_bool hq.out.symm, below_drewN hb1 _⟩
  · obtain ⟨be, hbe⟩ : ∃ be, ((ls.length : Int) == (wid xss : Int)) = be := ⟨_, rfl⟩
    have hq := Lib.hid (show dsC xss s m ls = be from by rw [hV.out, hi, hm, HBL.out, hbe]; rfl)
    obtain ⟨ad, x0, B, d, rfl, hx0, hc0, hi0⟩ := h.at_ (k := 0) (by omega)
    have hw0 : wid xss = x0.length := wid_of hx0.out
    rw [hw0] at hbe
    have hc00 : w.cell? ad = some (.slice B x0.length d) := by have := hc0; rwa [show ad.add 0 = ad from by unfold Addr.add; simp] at this
    clear hw0 hc0
    go_enter Try.func50, Try.ntmps50
    go_wp2_with (first | (go_at_call 69; refine cD.out.mono ?_; rintro e w1 ⟨rfl, hb1⟩; have hc1 : w1.cell? ad = some (.slice B x0.length d) := (hb1.cell (World.block_lt_of_cell? w _ hc00)).trans hc00) | (go_at_call 56; refine (l6In_any _ _ _ _).mono ?_; rintro e w' ⟨rfl, rfl⟩) | (go_at_call 70; refine (l21Method_any _ _).mono ?_; rintro e w' ⟨rfl, rfl⟩) | (go_at_call 71; refine (cL.out _ (h2.below hb1)).mono ?_; rintro e w' ⟨rfl, n1, rfl⟩))
    go_ret
    exact ⟨ret_bool hq.out.symm, below_drewN hb1 _⟩
set_option maxHeartbeats 1600000 in
theorem specDS_any (A A2 : Option Addr) (xss : List (List Int)) (ls : List Int) (c c2 : Nat) (s m : Int) (w : World) (h : RowsI w A xss) (h2 : Ints w A2 ls) (hl : tot xss ≤ 1048576) (hl3 : ls.length ≤ 1048576) (hcap : ls.length ≤ c2) :
    Calls Try.prog 23 #[.slice A xss.length c, .int .i64 s, .int .i64 m, .slice A2 ls.length c2] w (NewIIB w (dsF xss s m ls)) := by
  have hbA : Below w.heap.size w (w.alloc (.cells #[] 23)) := (Below.refl _ _).alloc (Nat.le_refl _) _
  have cK := Lib.hid (l24Ok_any A A2 xss ls c c2 s m (w.alloc (.cells #[] 23)) (h.below hbA) (h2.below hbA) hl hl3 hcap)
  obtain ⟨r, hr⟩ : ∃ r, dsC xss s m ls = r := ⟨_, rfl⟩
  rw [hr] at cK
  have HR := Lib.hid hr
  clear hr
  cases r
  · have hq := Lib.hid (dsF_f HR.out)
    go_enter Try.func23, Try.ntmps23
    go_wp2_with (go_at_call 50; refine cK.out.mono ?_; rintro e w1 ⟨rfl, hb1⟩)
    go_ret2
    exact newIIB_of (R := fun _ => (none, 0)) hq.out ((OwnRows.empty w (Nat.le_refl _) _).below hb1) (hbA.trans (hb1.mono hbA.size))
  · have hq := Lib.hid (dsF_t HR.out)
    obtain ⟨hd, ⟨hs0, hsq⟩, hm, hv, hw⟩ := dsC_iff.1 HR.out
    have hmm : (mv m && lv ls && ((ls.length : Int) == (wid xss : Int))) = true := by simp [hm, hv, hw]
    have o := dvOk_of hd
    obtain ⟨hx1, hx4⟩ := o.l1
    obtain ⟨q, hq20, hq0, hq1⟩ := quo20 xss.length hx1
    have HD := Lib.hid (fun xs (hx : xs ∈ xss) => ds_row (m := m) (ls := ls) hd ⟨hs0, by omega⟩ hx)
    have HM := Lib.hid hmm
    have hln := Lib.hid (show (xss.map fun xs => giveN xs m ls s.toNat).length = xss.length from by simp)
    have HT := Lib.hid hl
    clear hl o hd hm hv hw hmm hq20 hsq hq1 hq0
    go_enter Try.func23, Try.ntmps23
    go_wp2_with (go_at_call 50; refine cK.out.mono ?_; rintro e w1 ⟨rfl, hb1⟩)
    have hB1 := hbA.trans (hb1.mono hbA.size)
    have hO1 := (OwnRows.empty w (Nat.le_refl _) (fun _ => (none, 0))).below hb1
    go_loopw [10, 11, 12, 13] (fun o i _ _ wr => ∃ (k : Nat) (B : Option Addr) (d : Nat) (R : Nat → Option Addr × Nat), k ≤ xss.length ∧ i = .int .i64 k ∧ o = .slice B k d ∧ OwnRows wr w.heap.size B k d R ((xss.map fun xs => giveN xs m ls s.toNat).take k) ∧ Below w.heap.size w wr) (fun _ i _ _ _ => xss.length - (intOf i).toNat)
    case atStart => exact ⟨0, _, 0, fun _ => (none, 0), by omega, rfl, rfl, hO1, hB1⟩
    case round =>
      clear hO1 hB1 hb1
      obtain ⟨k, B, d, R, hk, rfl, rfl, hown, hbel⟩ := hrel
      have hsz := hbel.size
      by_cases hlt : k < xss.length
      · obtain ⟨ad, xs, B1, d1, rfl, hx, hc, hi⟩ := (h.below hbel).at_ hlt
        have cV := specDivisor_any B1 A2 xs ls d1 c2 s m wr hi (h2.below hbel) (tot_row hx.out HT.out) hl3 hcap
        rw [HD.out xs (List.mem_of_getElem? hx.out), HM.out] at cV
        have cV := Lib.hid cV
        have hst := Lib.hid (take_map_snoc (fun xs => giveN xs m ls s.toNat) hx.out)
        go_wp2_with (first | (go_at_call 52; refine cV.out.mono ?_; rintro e w2 ⟨A3, c3, rfl, ho3, hb3⟩; have hz3 := hb3.size; have hO3 := hown.below hb3; have hF3 := rows_far hown ho3) | (at_builtin; refine wpList_appR _ rfl (.tmp 39) (.tmp 41) rfl w.heap.size B k d R _ rfl hO3 (by omega) (by omega) A3 _ c3 _ ⟨rfl, ho3.mono hsz⟩ hF3 rfl ?_; intro A4 c4 w4 hO4 hb4))
        go_roundw
        case rel => exact ⟨k + 1, A4, c4, _, by omega, by go_num, rfl, hO4.congr hst.out.symm, (hbel.trans (hb3.mono hsz)).trans hb4⟩
        case measure => simp [intOf]; omega
      · obtain rfl : k = xss.length := by omega
        clear hlt
        have hO := hown.congr (List.take_of_length_le (by rw [hln.out]; exact Nat.le_refl _))
        go_wp2
        go_ret2
        exact newIIB_of hq.out hO hbel
end Go.Proofs.Ytoblhmbpobbecaa
