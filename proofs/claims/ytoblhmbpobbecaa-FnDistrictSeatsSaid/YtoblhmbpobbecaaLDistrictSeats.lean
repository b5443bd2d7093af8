/-
  For every code, the law FnDistrictSeats returns true: each district has its seats. There are no conditions.
-/
import Derived.Test.YtoblhmbpobbecaaDistQ
import Derived.Test.YtoblhmbpobbecaaDistE
namespace Go.Proofs.Ytoblhmbpobbecaa
open Go.ChangeShapes Go.WideShapes Go.ChangeAt Go.RowKit
set_option maxHeartbeats 400000 in
theorem sameTable_any (A A' : Option Addr) (xss yss : List (List Int)) (c c' : Nat) (w : World) (h : RowsI w A xss) (h' : RowsI w A' yss) (hl : tot xss ≤ 1048576) (hl' : tot yss ≤ 1048576) :
    Calls Try.prog 33 #[.slice A xss.length c, .slice A' yss.length c'] w (Qt w (.bool (xss == yss))) := by
  have HT := Lib.hid hl
  have HT' := Lib.hid hl'
  have hxl := tot_len hl
  have hyl := tot_len hl'
  clear hl hl'
  by_cases hlen : xss.length = yss.length
  · have hne : (((xss.length : Int)) != (yss.length : Int)) = false := by simp [hlen]
    have HL := Lib.hid hlen
    clear hlen
    go_enter Try.func33, Try.ntmps33
    go_wp2
    go_loopw [5] (fun i wr => ∃ k n : Nat, k ≤ xss.length ∧ i = .int .i64 k ∧ Hid (xss.take k = yss.take k) ∧ wr = w.drewN n) (fun i _ => xss.length - (intOf i).toNat)
    case atStart => exact ⟨0, 0, by omega, rfl, rfl, rfl⟩
    case round =>
      obtain ⟨k, n, hk, rfl, heq, rfl⟩ := hrel
      by_cases hlt : k < xss.length
      · have hlt' : k < yss.length := by have := HL.out; omega
        obtain ⟨ad, xs, B, d, rfl, hx, hc, hi⟩ := h.at_ hlt
        obtain ⟨ad', ys, B', d', rfl, hy, hc', hi'⟩ := h'.at_ hlt'
        have cS := Lib.hid (fun m => lawSame_any B B' xs ys d d' (w.drewN m) hi hi' (tot_row hx.out HT.out) (tot_row hy.out HT'.out))
        cases hb : (xs == ys)
        · go_wp2
          go_quiet ((go_at_call 35; exact Qt.quiet_add (cS.out _)))
          go_wp2
          go_ret
          refine ⟨ret_bool ?_, _, World.drewN_drewN _ _ _⟩
          have hne2 : xs ≠ ys := by simpa using hb
          simp
          intro e
          rw [e] at hx
          have := hx.out.symm.trans hy.out
          simp at this
          exact absurd this hne2
        · have hxy : xs = ys := by simpa using hb
          subst hxy
          go_wp2
          go_quiet ((go_at_call 35; exact Qt.quiet_add (cS.out _)))
          go_wp2
          go_roundw
          case rel => exact ⟨k + 1, _, by omega, by go_num, by show _ = _; rw [take_snoc _ _ _ hx.out, take_snoc _ _ _ hy.out, heq.out], rfl⟩
          case measure => simp [intOf]; omega
      · have h2 : xss.length ≤ k := by omega
        clear hlt
        go_wp2
        go_ret
        refine ⟨ret_bool ?_, _, rfl⟩
        have := heq.out
        rw [List.take_of_length_le (by omega), List.take_of_length_le (by have := HL.out; omega)] at this
        simp [this]
  · have hne : (((xss.length : Int)) != (yss.length : Int)) = true := by simp; omega
    go_enter Try.func33, Try.ntmps33
    go_wp2
    go_ret
    exact ⟨ret_bool (by simp; intro e; exact absurd (by rw [e]) hlen), 0, rfl⟩
theorem dsF_small (xss : List (List Int)) (s m : Int) (ls : List Int) : tot (dsF xss s m ls).1 ≤ 1000 := by
  cases h : dsC xss s m ls
  · rw [dsF_f h]; simp [tot]
  · rw [dsF_t h]
    obtain ⟨hd, _⟩ := dsC_iff.1 h
    have o := dvOk_of hd
    have key : ∀ l : List (List Int), (∀ xs ∈ l, xs.length ≤ 5) → tot (l.map fun xs => giveN xs m ls s.toNat) ≤ l.length * 6 := by
      intro l
      induction l with
      | nil => intro _; simp [tot]
      | cons a t ih =>
        intro hl
        have h1 := hl a (by simp)
        have h2 := ih (fun v hv => hl v (by simp [hv]))
        unfold tot at h2 ⊢
        simp only [List.map_cons, List.length_cons, List.sum_cons, giveN_len] at h2 ⊢
        omega
    have := key xss (fun xs hx => by rw [o.len xs hx]; exact o.wd.2)
    have := o.l1
    show tot (xss.map fun xs => giveN xs m ls s.toNat) ≤ _
    omega
theorem dsF_true {xss yss : List (List Int)} {s m : Int} {ls : List Int} (h : dsF xss s m ls = (yss, true)) : ∃ k : Nat, s = k ∧ DsOk xss k m ls ∧ yss = dsR xss m ls k := by
  cases hc : dsC xss s m ls
  · rw [dsF_f hc] at h; injection h with _ h2; cases h2
  · obtain ⟨k, rfl, _, o⟩ := dsOk_of hc
    rw [dsF_k hc] at h
    injection h with h1 _
    exact ⟨k, rfl, o, h1.symm⟩
set_option maxRecDepth 100000 in
set_option maxHeartbeats 3200000 in
theorem FnDistrictSeats_walk (A : Option Addr) (n c : Nat) (w : World) (h : BytsA w A n c) :
    Calls Try.prog 8 #[.slice A n c] w (LawOk w) := by
  by_cases hl : n ≤ 1048576
  case neg =>
    have hbig : (1048576 : Int) < n := by omega
    clear hl
    go_enter Try.func8, Try.ntmps8
    go_wp2
    go_ret
    exact ⟨rfl, Below.refl _ _⟩
  go_enter Try.func8, Try.ntmps8
  go_wp2_with fail
  refine (drawDS_any _ _ _ _ h).mono ?_
  rintro e w1 ⟨A1, c1, vs, s, m, A2, c2, ls, rfl, hv12, hT1, ⟨hl5, hol, hb1⟩⟩
  have hxl : (vs.map fun v => v.2.2).length = vs.length := List.length_map _
  have htot : tot (vs.map fun v => v.2.2) ≤ 1048576 := by
    have := tot_small hv12 (fun v hv => (hT1.own v hv).2)
    omega
  have hcap := hol.le_cap
  have cI := Lib.hid (fun (w : World) (h : RowsI w A1 (vs.map fun v => v.2.2)) (h2 : Ints w A2 ls) => implDS_any A1 A2 _ ls c1 c2 s m w h h2 htot (by omega) hcap)
  have cS := Lib.hid (fun (w : World) (h : RowsI w A1 (vs.map fun v => v.2.2)) (h2 : Ints w A2 ls) => specDS_any A1 A2 _ ls c1 c2 s m w h h2 htot (by omega) hcap)
  rw [hxl] at cI cS
  have hyt := dsF_small (vs.map fun v => v.2.2) s m ls
  obtain ⟨r, hr⟩ : ∃ r, dsF (vs.map fun v => v.2.2) s m ls = r := ⟨_, rfl⟩
  rw [hr] at cI cS hyt
  obtain ⟨yss, b⟩ := r
  have hyt : tot yss ≤ 1000 := hyt
  have hyl := tot_len (show tot yss ≤ 1048576 by omega)
  have hself : (yss == yss) = true := by simp
  have HR := Lib.hid hr
  have HXL := Lib.hid hxl
  have HYT := Lib.hid (show tot yss ≤ 1048576 by omega)
  clear hr hxl hyt
  go_wp2_with fail
  refine (cI.out _ (hT1.rows (by omega)) hol.ints).mono ?_
  rintro e w2 ⟨A3, c3, rfl, ho3, hb2⟩
  have hT2 := hT1.below hb2
  have hol := hol.below hb2
  have hB2 := hb1.trans (hb2.mono hb1.size)
  go_wp2_with fail
  refine (cS.out _ (hT2.rows (by omega)) hol.ints).mono ?_
  rintro e w3 ⟨A4, c4, rfl, ho4, hb3⟩
  have hT3 := hT2.below hb3
  have hol := hol.below hb3
  have ho3 := ho3.below hb3
  have hB3 := hB2.trans (hb3.mono hB2.size)
  clear cI cS hT1 hT2 hb2 hb3 hB2
  have i3 : RowsI w3 A3 yss := ho3.rows
  have i4 : RowsI w3 A4 yss := ho4.rows
  go_wp2_with fail
  refine (sameTable_any _ _ _ _ _ _ _ i3 i4 HYT.out HYT.out).mono ?_
  rintro e w4 ⟨rfl, n4, rfl⟩
  have hB4 := below_drewN hB3 n4
  have i3 := i3.drewN n4
  have i4 := i4.drewN n4
  have hT4 := hT3.below (below_drewN (Below.refl _ _) n4)
  have hol := hol.drewN n4
  clear hB3 ho3 ho4 hT3
  generalize w3.drewN n4 = w4 at *
  cases b
  case false =>
    go_wp2_with fail
    refine (sameTable_any _ _ _ _ _ _ _ i3 i4 HYT.out HYT.out).mono ?_
    rintro e w5 ⟨rfl, n5, rfl⟩
    go_wp2
    go_ret
    exact ⟨rfl, below_drewN hB4 _⟩
  obtain ⟨k, rfl, o, hys⟩ := dsF_true HR.out
  have OK := Lib.hid o
  have hyx : yss.length = vs.length := by rw [hys, dsR_len]; exact HXL.out
  have HY := Lib.hid hys
  have HYX := Lib.hid hyx
  have iV := hT4.rows (by omega)
  have HTT := Lib.hid htot
  have hk20 := o.k20
  clear o hys hyx htot hT4
  go_wp2
  go_loopw [11, 12, 13] (fun i _ _ wr => ∃ j : Nat, j ≤ yss.length ∧ i = .int .i64 j ∧ Below w4.heap.size w4 wr) (fun i _ _ _ => yss.length - (intOf i).toNat)
  case atStart => exact ⟨0, by omega, rfl, Below.refl _ _⟩
  case round =>
    obtain ⟨j, hj, rfl, hbel⟩ := hrel
    by_cases hlt : j < yss.length
    · have hltv : j < vs.length := by have := HYX.out; omega
      obtain ⟨ad, xs, B, d, rfl, hx, hc, hi⟩ := (iV.below hbel).at_ (k := j) (by rw [HXL.out]; exact hltv)
      have hxm := List.mem_of_getElem? hx.out
      have cV := implDivisor_any B A2 xs ls d c2 k m wr hi (hol.ints.below hbel) (tot_row hx.out HTT.out) (by omega) hcap
      rw [OK.out.divF hxm] at cV
      have hsum := OK.out.rowSum hxm
      have hya : yss[j]? = some (giveN xs m ls k) := by rw [HY.out]; exact dsR_at hx.out
      have hyl5 := giveN_len xs m ls k
      have hxl5 : xs.length ≤ 5 := by rw [OK.out.dv.len xs hxm]; exact OK.out.dv.wd.2
      have hyb := OK.out.bd (giveN xs m ls k) (by rw [← HY.out]; exact List.mem_of_getElem? hya)
      generalize giveN xs m ls k = gs at *
      have HYA := Lib.hid hya
      have HSM := Lib.hid hsum
      have HW := Lib.hid (wide' hyb (by omega))
      have hgl : gs.length ≤ 5 := by omega
      have cV := Lib.hid cV
      clear hya hsum hyb hyl5
      go_wp2_with fail
      refine cV.out.mono ?_
      rintro e w5 ⟨A5, c5, rfl, ho5, hb5⟩
      have hbel5 := hbel.trans (hb5.mono hbel.size)
      obtain ⟨ad2, gs', B2, d2, rfl, hg2, hc2, hi2⟩ := (i3.below hbel5).at_ hlt
      have hgg : gs' = gs := by
        have := hg2.out.symm.trans HYA.out
        injection this
      subst hgg
      have hsb : (gs' == gs') = true := by simp
      have hkk : ((k : Int) != (k : Int)) = false := by simp
      have cM := Lib.hid (fun (w : World) (h : Ints w B2 gs') => lawSum_any B2 gs' d2 w h (by omega) HW.out)
      rw [HSM.out] at cM
      have i5 := ho5.ints
      go_wp2_with (first | (go_at_call 35; refine (lawSame_any _ _ _ _ _ _ _ i5 hi2 (by show gs'.length ≤ _; omega) (by omega)).mono ?_; rintro e w6 ⟨rfl, n6, rfl⟩) | (go_at_call 15; refine (cM.out _ (hi2.drewN _)).mono ?_; rintro e w' ⟨rfl, rfl⟩))
      go_roundw
      case rel => exact ⟨j + 1, by omega, by go_num, below_drewN hbel5 _⟩
      case measure => simp [intOf]; omega
    · obtain rfl : j = yss.length := by omega
      clear hlt
      have hle : ((yss.length : Int) == (vs.length : Int)) = true := by simp [HYX.out]
      go_wp2
      go_ret
      exact ⟨rfl, hB4.trans (hbel.mono hB4.size)⟩
set_option maxRecDepth 100000 in
theorem FnDistrictSeats_lifted (os : Os) (started : os.Started) (H : Type) (enc : TypeId × Value → H) :
    ReturnsInHanded {} Try.checked os 8 .any (Rows.fnDistrictSeatsSpec.pre6 enc Try.prog Try.f8 Rows.fnDistrictSeatsRow.domain false) (Rows.fnDistrictSeatsSpec.post enc Try.prog Try.f8 false true false false) := by
  refine returnsInHanded_of_change (C := Try.checked) Try.own started (by kernel_rfl) Try.func8
    (ChangeSpec.witness6 (enc := enc) (C := Try.checked) false ⟨#[], #[.slice none 0 0], []⟩ 8 (by kernel_rfl) (by kernel_rfl) (by kernel_rfl) (by kernel_rfl)) ?_
  intro W base args ds gs before hval0 hW hcnd _
  have hval : ∀ (j : Nat) t v, Try.f8.params[j]? = some t → args[j]? = some v → Value.okWide Try.prog W .any base t v := hval0
  have hW' := hW
  obtain ⟨p, q, hA0, hV, rfl, hfz, hnd⟩ := hW
  have hA : DataW.TrodAll enc Try.prog W 0 (fun _ => true) true Try.f8.params.toList args.toList ds p := hA0
  rw [Try.params8] at hA hval
  obtain ⟨v0, vs0, d0, ds0, p0, q0, hargs, rfl, rfl, h0, r0⟩ := trodAll_cons hA
  obtain ⟨rfl, rfl, rfl⟩ := trodAll_nil r0
  obtain rfl : args = #[v0] := by cases args; simp_all
  obtain ⟨rfl, rfl⟩ := trodVars_none hV
  have k0 := h0
  have lt0 : ∀ x ∈ p0, x.block < W.heap.size := by obtain ⟨m, hm⟩ := k0; exact DataW.trod_lt m _ _ _ hm
  obtain ⟨a0, z0, c0, rfl, w0⟩ := openByts (hval 0 22 v0 rfl rfl) h0
  clear hA0 hval0
  refine (FnDistrictSeats_walk a0 z0 c0 W w0).mono fun e W' ⟨he, bel⟩ => ?_
  subst he
  exact ⟨_, rfl, _, _, _, [], _, [], hW', trodAll_mk1 (shut_bool Try.underlying4 _), (trodAll_cons_mk (Below.trod Try.laidOut (by kernel_rfl) (of_decide_eq_true (by kernel_rfl)) k0 bel lt0) trodAll_mk0), rfl, bel.frame _, fun h => by cases h⟩
/-- The given statement. -/
theorem FnDistrictSeats_holds : Rows.FnDistrictSeatsSaid :=
  OpenClaim.holds_of_wide 8 Try.f8 rfl rfl rfl rfl rfl rfl rfl ⟨rfl, rfl, rfl, rfl, rfl⟩ rfl rfl rfl rfl rfl (by kernel_rfl) Try.func8 (by kernel_rfl)
    (of_decide_eq_true (by kernel_rfl)) (by unfold Func.isWrapper; first | (rw [if_pos (by decide +kernel)]; kernel_rfl) | (rw [if_neg (by decide +kernel)]; exact ⟨rfl, rfl⟩))
    (fun os started H enc _ => FnDistrictSeats_lifted os started H enc)
end Go.Proofs.Ytoblhmbpobbecaa
