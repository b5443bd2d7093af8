/-
  For every code, the law FnDistrictGap returns true: a gap is what some parties have more, and what others have less. There are no conditions.
-/
import Derived.Test.YtoblhmbpobbecaaDistQ
import Derived.Test.YtoblhmbpobbecaaDistE
import Derived.Test.YtoblhmbpobbecaaDistW
namespace Go.Proofs.Ytoblhmbpobbecaa
open Go.ChangeShapes Go.WideShapes Go.ChangeAt Go.RowKit
theorem tog_at {n : Nat} (xss : List (List Int)) {t : Nat} (h : t < n) : (tog n xss)[t]? = some (col xss t) := by simp [tog, h]
set_option maxRecDepth 100000 in
set_option maxHeartbeats 3200000 in
theorem FnDistrictGap_walk (A : Option Addr) (n c : Nat) (w : World) (h : BytsA w A n c) :
    Calls Try.prog 9 #[.slice A n c] w (LawOk w) := by
  by_cases hl : n ≤ 1048576
  case neg =>
    have hbig : (1048576 : Int) < n := by omega
    clear hl
    go_enter Try.func9, Try.ntmps9
    go_wp2
    go_ret
    exact ⟨rfl, Below.refl _ _⟩
  go_enter Try.func9, Try.ntmps9
  go_wp2_with fail
  refine (drawDG_any _ _ _ _ h).mono ?_
  rintro e w1 ⟨A1, c1, vs, s, m, A2, c2, ls, rfl, hv12, hT1, ⟨hl5, hol, hb1⟩⟩
  have hxl : (vs.map fun v => v.2.2).length = vs.length := List.length_map _
  have htot : tot (vs.map fun v => v.2.2) ≤ 1048576 := by
    have := tot_small hv12 (fun v hv => (hT1.own v hv).2)
    omega
  have hcap := hol.le_cap
  have cI := Lib.hid (fun (w : World) (h : RowsI w A1 (vs.map fun v => v.2.2)) (h2 : Ints w A2 ls) => implDG_any A1 A2 _ ls c1 c2 s m w h h2 htot (by omega) hcap)
  have cS := Lib.hid (fun (w : World) (h : RowsI w A1 (vs.map fun v => v.2.2)) (h2 : Ints w A2 ls) => specDG_any A1 A2 _ ls c1 c2 s m w h h2 htot (by omega) hcap)
  rw [hxl] at cI cS
  obtain ⟨r, hr⟩ : ∃ r, dgF (vs.map fun v => v.2.2) s m ls = r := ⟨_, rfl⟩
  rw [hr] at cI cS
  have HR := Lib.hid hr
  have HXL := Lib.hid hxl
  clear hr hxl
  go_wp2_with fail
  refine (cI.out _ (hT1.rows (by omega)) hol.ints).mono ?_
  rintro e w2 ⟨rfl, hb2⟩
  have hT2 := hT1.below hb2
  have hol := hol.below hb2
  have hB2 := hb1.trans (hb2.mono hb1.size)
  go_wp2_with fail
  refine (cS.out _ (hT2.rows (by omega)) hol.ints).mono ?_
  rintro e w3 ⟨rfl, hb3⟩
  have hT3 := hT2.below hb3
  have hol := hol.below hb3
  have hB3 := hB2.trans (hb3.mono hB2.size)
  clear cI cS hT1 hT2 hb2 hb3 hB2
  have hrr : (r != r) = false := by simp
  have hre : (r == r) = true := by simp
  by_cases hr0 : 0 ≤ r
  case neg =>
    have hr1 : r < 0 := by omega
    clear hr0
    go_wp2
    go_ret
    exact ⟨rfl, hB3⟩
  obtain ⟨hC, k, rfl, o, hrv⟩ := dg_true HR.out hr0
  have hxl := HXL.out
  have hsub := moreL_sub (us := tog (wid (vs.map fun v => v.2.2)) (dsR (vs.map fun v => v.2.2) m ls k)) (bs := giveN (tog (wid (vs.map fun v => v.2.2)) (vs.map fun v => v.2.2)) m ls (k * (vs.map fun v => v.2.2).length)) (o.gap.la.trans o.gap.lb.symm)
  rw [o.apSum, o.whSum, ← hrv] at hsub
  obtain ⟨hx1, hx4⟩ := o.dv.l1
  obtain ⟨hw1, hw5⟩ := o.dv.wd
  rw [hxl] at hx1 hx4
  have hk20 := o.k20
  obtain ⟨p0, p1⟩ := mul_bd (a := (k : Int)) (b := (vs.length : Int)) (M := 20) (N := 4) ⟨by omega, by omega⟩ ⟨by omega, by omega⟩
  have cR := Lib.hid (fun (w : World) (h : RowsI w A1 (vs.map fun v => v.2.2)) (h2 : Ints w A2 ls) => implDS_any A1 A2 _ ls c1 c2 k m w h h2 htot (by omega) hcap)
  rw [dsF_k hC, hxl] at cR
  have cV := Lib.hid (fun (w : World) (h : RowsI w A1 (vs.map fun v => v.2.2)) => implDVotes_any A1 _ c1 w h htot)
  rw [dvF_t o.dvb, hxl] at cV
  have htl := tog_len (wid (vs.map fun v => v.2.2)) (vs.map fun v => v.2.2)
  have cW := Lib.hid (fun (B : Option Addr) (d : Nat) (w : World) (h : Ints w B (tog (wid (vs.map fun v => v.2.2)) (vs.map fun v => v.2.2))) (h2 : Ints w A2 ls) => implDivisor_any B A2 (tog (wid (vs.map fun v => v.2.2)) (vs.map fun v => v.2.2)) ls d c2 ((k : Int) * (vs.map fun v => v.2.2).length) m w h h2 (by rw [htl]; omega) (by omega) hcap)
  rw [o.whole, hxl] at cW
  have G := Lib.hid o.gap
  have OK := Lib.hid o
  have hrl := dsR_len (vs.map fun v => v.2.2) m ls k
  rw [hxl] at hrl
  have hla := G.out.la
  have hlb := G.out.lb
  have hrow := o.row
  have hbd := o.bd
  have htat := fun t (ht : t < wid (vs.map fun v => v.2.2)) => tog_at (dsR (vs.map fun v => v.2.2) m ls k) ht
  have HGa := Lib.hid G.out.ba
  have HGb := Lib.hid G.out.bb
  clear G OK o
  rw [hxl] at hrv hsub HGb hlb
  generalize tog (wid (vs.map fun v => v.2.2)) (dsR (vs.map fun v => v.2.2) m ls k) = us at *
  generalize giveN (tog (wid (vs.map fun v => v.2.2)) (vs.map fun v => v.2.2)) m ls (k * vs.length) = bs at *
  generalize tog (wid (vs.map fun v => v.2.2)) (vs.map fun v => v.2.2) = ts at *
  generalize dsR (vs.map fun v => v.2.2) m ls k = yss at *
  generalize wid (vs.map fun v => v.2.2) = wd at *
  have hdown : moreL bs us = r := by omega
  have HRV := Lib.hid hrv
  have HDN := Lib.hid hdown
  have HYL := Lib.hid hrl
  have HLA := Lib.hid hla
  have HLB := Lib.hid hlb
  have HTA := Lib.hid htat
  have HRW := Lib.hid hrow
  have HBD := Lib.hid hbd
  have HTL := Lib.hid htl
  have hbl5 : bs.length ≤ 5 := by omega
  have hyl4 : yss.length ≤ 4 := by omega
  have hmsub := Lib.hid hsub
  clear hxl hrv hsub hdown hrl hla hlb htat hrow hbd htl hC
  go_wp2_with fail
  refine (cR.out _ (hT3.rows (by omega)) hol.ints).mono ?_
  rintro e w4 ⟨A4, c4, rfl, ho4, hb4⟩
  have hT4 := hT3.below hb4
  have hol4 := hol.below hb4
  have hB4 := hB3.trans (hb4.mono hB3.size)
  go_wp2_with fail
  refine (cV.out _ (hT4.rows (by omega))).mono ?_
  rintro e w5 ⟨A5, c5, rfl, ho5, hb5⟩
  have hol5 := hol4.below hb5
  have ho4 := ho4.below hb5
  have hB5 := hB4.trans (hb5.mono hB4.size)
  go_wp2_with fail
  refine (cW.out _ _ _ ho5.ints hol5.ints).mono ?_
  rintro e w6 ⟨A6, c6, rfl, ho6, hb6⟩
  have ho4 := ho4.below hb6
  have hB6 := hB5.trans (hb6.mono hB5.size)
  have iR := ho4.rows
  have i6 := ho6.ints
  clear ho4 ho5 ho6 hb4 hb5 hb6 hT3 hT4 hol hol4 hol5 cR cV cW
  go_wp2
  go_loop [15, 16, 17, 18, 19] (fun u d i _ _ => ∃ t : Nat, t ≤ bs.length ∧ i = .int .i64 t ∧ u = .int .i64 (moreL (us.take t) (bs.take t)) ∧ d = .int .i64 (moreL (bs.take t) (us.take t))) (fun _ _ i _ _ => bs.length - (intOf i).toNat)
  case atStart => exact ⟨0, by omega, rfl, rfl, rfl⟩
  case round =>
    obtain ⟨t, ht, rfl, rfl, rfl⟩ := hrel
    by_cases hlt : t < bs.length
    · have htw : t < wd := by have := HLB.out; omega
      have hcolb : ∀ i, 0 ≤ col (yss.take i) t ∧ col (yss.take i) t ≤ 80 := fun i => by
        have := col_bd 20 (yss.take i) (fun ys hy => HBD.out ys (List.mem_of_mem_take hy)) (by omega) t
        have hlk : (yss.take i).length ≤ yss.length := by simp; omega
        omega
      have HCB := Lib.hid hcolb
      clear hcolb
      go_wp2
      go_loop [18, 19] (fun s i => ∃ j : Nat, j ≤ yss.length ∧ i = .int .i64 j ∧ s = .int .i64 (col (yss.take j) t)) (fun _ i => yss.length - (intOf i).toNat)
      case atStart => exact ⟨0, by omega, rfl, rfl⟩
      case round =>
        obtain ⟨j, hj, rfl, rfl⟩ := hrel
        by_cases hlt2 : j < yss.length
        · obtain ⟨ad, ys, B, d, rfl, hy, hc, hi⟩ := iR.at_ hlt2
          have hyl : t < ys.length := by rw [HRW.out ys (List.mem_of_getElem? hy.out)]; exact htw
          obtain ⟨ad2, y, rfl, hyt, hct⟩ := hi.at_ hyl
          obtain ⟨y0, y1⟩ := HBD.out ys (List.mem_of_getElem? hy.out) y (mem_of_at hyt.out)
          obtain ⟨cb0, cb1⟩ := HCB.out j
          have hcs := Lib.hid (col_snoc hy.out t)
          have hyd := Lib.hid (getD_of hyt.out)
          go_wp2
          go_round
          case rel => exact ⟨j + 1, by omega, by go_num, by rw [hcs.out, hyd.out]⟩
          case measure => simp [intOf]; omega
        · obtain rfl : j = yss.length := by omega
          clear hlt2
          obtain ⟨ad, b, rfl, hb, hcb⟩ := i6.at_ hlt
          obtain ⟨b0, b1⟩ := HGb.out b (mem_of_at hb.out)
          have ha := Lib.hid (HTA.out t htw)
          obtain ⟨cb0, cb1⟩ := HCB.out yss.length
          have hce : col (yss.take yss.length) t = col yss t := by rw [List.take_of_length_le (Nat.le_refl _)]
          rw [hce] at cb0 cb1 ⊢
          obtain ⟨m0, m1⟩ := moreL_bd (us := us.take t) (bs := bs.take t) (fun x hx => by have := HGa.out x (mem_take hx); omega) (fun x hx => (HGb.out x (mem_take hx)).1)
          obtain ⟨m2, m3⟩ := moreL_bd (us := bs.take t) (bs := us.take t) (fun x hx => by have := HGb.out x (mem_take hx); omega) (fun x hx => (HGa.out x (mem_take hx)).1)
          have hlk : (us.take t).length ≤ t := List.length_take_le _ _
          have hlk2 : (bs.take t).length ≤ t := List.length_take_le _ _
          have HS := Lib.hid (moreL_snoc ha.out hb.out)
          have HS2 := Lib.hid (moreL_snoc hb.out ha.out)
          generalize col yss t = a at *
          clear hce
          go_wp2
          go_round
          case rel =>
            have q1 : Value.int .i64 (moreL (us.take (t + 1)) (bs.take (t + 1))) = .int .i64 (moreL (us.take t) (bs.take t) + max 0 (a - b)) := by rw [HS.out]
            have q2 : Value.int .i64 (moreL (bs.take (t + 1)) (us.take (t + 1))) = .int .i64 (moreL (bs.take t) (us.take t) + max 0 (b - a)) := by rw [HS2.out]
            first
              | exact ⟨t + 1, by omega, by go_num, by rw [q1]; exact val_int (by omega), by rw [q2]; exact val_int (by omega)⟩
              | (repeat apply Exists.intro); exact ⟨⟨t + 1, by omega, by go_num, by rw [q1]; exact val_int (by omega), by rw [q2]; exact val_int (by omega)⟩, rfl⟩
          case measure => simp [intOf]; omega
    · obtain rfl : t = bs.length := by omega
      clear hlt
      have hul : us.length = bs.length := by have := HLA.out; have := HLB.out; omega
      have e1 : moreL (us.take bs.length) (bs.take bs.length) = r := by rw [List.take_of_length_le (by omega), List.take_of_length_le (Nat.le_refl _)]; exact HRV.out.symm
      have e2 : moreL (bs.take bs.length) (us.take bs.length) = r := by rw [List.take_of_length_le (Nat.le_refl _), List.take_of_length_le (by omega)]; exact HDN.out
      rw [e1, e2]
      clear e1 e2 hul
      go_wp2
      go_ret
      exact ⟨rfl, hB6⟩
set_option maxRecDepth 100000 in
theorem FnDistrictGap_lifted (os : Os) (started : os.Started) (H : Type) (enc : TypeId × Value → H) :
    ReturnsInHanded {} Try.checked os 9 .any (Rows.fnDistrictGapSpec.pre6 enc Try.prog Try.f9 Rows.fnDistrictGapRow.domain false) (Rows.fnDistrictGapSpec.post enc Try.prog Try.f9 false true false false) := by
  refine returnsInHanded_of_change (C := Try.checked) Try.own started (by kernel_rfl) Try.func9
    (ChangeSpec.witness6 (enc := enc) (C := Try.checked) false ⟨#[], #[.slice none 0 0], []⟩ 8 (by kernel_rfl) (by kernel_rfl) (by kernel_rfl) (by kernel_rfl)) ?_
  intro W base args ds gs before hval0 hW hcnd _
  have hval : ∀ (j : Nat) t v, Try.f9.params[j]? = some t → args[j]? = some v → Value.okWide Try.prog W .any base t v := hval0
  have hW' := hW
  obtain ⟨p, q, hA0, hV, rfl, hfz, hnd⟩ := hW
  have hA : DataW.TrodAll enc Try.prog W 0 (fun _ => true) true Try.f9.params.toList args.toList ds p := hA0
  rw [Try.params9] at hA hval
  obtain ⟨v0, vs0, d0, ds0, p0, q0, hargs, rfl, rfl, h0, r0⟩ := trodAll_cons hA
  obtain ⟨rfl, rfl, rfl⟩ := trodAll_nil r0
  obtain rfl : args = #[v0] := by cases args; simp_all
  obtain ⟨rfl, rfl⟩ := trodVars_none hV
  have k0 := h0
  have lt0 : ∀ x ∈ p0, x.block < W.heap.size := by obtain ⟨m, hm⟩ := k0; exact DataW.trod_lt m _ _ _ hm
  obtain ⟨a0, z0, c0, rfl, w0⟩ := openByts (hval 0 22 v0 rfl rfl) h0
  clear hA0 hval0
  refine (FnDistrictGap_walk a0 z0 c0 W w0).mono fun e W' ⟨he, bel⟩ => ?_
  subst he
  exact ⟨_, rfl, _, _, _, [], _, [], hW', trodAll_mk1 (shut_bool Try.underlying4 _), (trodAll_cons_mk (Below.trod Try.laidOut (by kernel_rfl) (of_decide_eq_true (by kernel_rfl)) k0 bel lt0) trodAll_mk0), rfl, bel.frame _, fun h => by cases h⟩
/-- The given statement. -/
theorem FnDistrictGap_holds : Rows.FnDistrictGapSaid :=
  OpenClaim.holds_of_wide 9 Try.f9 rfl rfl rfl rfl rfl rfl rfl ⟨rfl, rfl, rfl, rfl, rfl⟩ rfl rfl rfl rfl rfl (by kernel_rfl) Try.func9 (by kernel_rfl)
    (of_decide_eq_true (by kernel_rfl)) (by unfold Func.isWrapper; first | (rw [if_pos (by decide +kernel)]; kernel_rfl) | (rw [if_neg (by decide +kernel)]; exact ⟨rfl, rfl⟩))
    (fun os started H enc _ => FnDistrictGap_lifted os started H enc)
end Go.Proofs.Ytoblhmbpobbecaa
