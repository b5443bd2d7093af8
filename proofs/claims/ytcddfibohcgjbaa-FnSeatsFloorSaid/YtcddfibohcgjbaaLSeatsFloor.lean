/-
  For every code, the law FnSeatsFloor returns true: divisors by whole numbers keep whole parts. There are no conditions.
-/
import Derived.Test.YtcddfibohcgjbaaDivQ
namespace Go.Proofs.Ytcddfibohcgjbaa
open Go.ChangeShapes Go.WideShapes Go.ChangeAt Go.RowKit
set_option maxHeartbeats 1600000 in
theorem FnSeatsFloor_walk (A : Option Addr) (n c : Nat) (w : World) (h : BytsA w A n c) :
    Calls Try.prog 14 #[.slice A n c] w (LawOk w) := by
  by_cases hl : n ≤ 1048576
  case neg =>
    have hbig : (1048576 : Int) < n := by omega
    clear hl
    go_enter Try.func14, Try.ntmps14
    go_wp2
    go_ret
    exact ⟨rfl, Below.refl _ _⟩
  go_enter Try.func14, Try.ntmps14
  go_wp2_with fail
  refine (drawDivisor_any _ _ _ _ h).mono ?_
  rintro e w1 ⟨A1, c1, xs, s, m, A2, c2, ls, rfl, ⟨hx5, hox, hb1⟩, ⟨hl5, hol, _⟩⟩
  have hcap := hol.le_cap
  have cI := Lib.hid (implDivisor_any A1 A2 xs ls c1 c2 s m _ hox.ints hol.ints (by omega) (by omega) hol.le_cap)
  have cS := Lib.hid (fun (w : World) (h : Ints w A1 xs) (h2 : Ints w A2 ls) => specDivisor_any A1 A2 xs ls c1 c2 s m w h h2 (by omega) (by omega) hol.le_cap)
  have hyl := divF_len hx5 s m ls
  obtain ⟨r, hr⟩ : ∃ r, divF xs s m ls = r := ⟨_, rfl⟩
  rw [hr] at cI cS hyl
  obtain ⟨ys, b⟩ := r
  have hyl : ys.length ≤ 5 := by have : ys.length ≤ 5 := hyl; exact this
  have hself : (ys == ys) = true := by simp
  have HR := Lib.hid hr
  clear hr
  go_wp2_with fail
  refine cI.out.mono ?_
  rintro e w2 ⟨A3, c3, rfl, ho3, hb2⟩
  go_wp2_with fail
  refine (cS.out _ (hox.below hb2).ints (hol.below hb2).ints).mono ?_
  rintro e w3 ⟨A4, c4, rfl, ho4, hb3⟩
  have hB2 := hb1.trans (hb2.mono hb1.size)
  have hB3 := hB2.trans (hb3.mono hB2.size)
  have ho3 := ho3.below hb3
  have hox := (hox.below hb2).below hb3
  have hol := (hol.below hb2).below hb3
  clear cS hB2
  go_wp2_with fail
  refine (lawSame_any _ _ _ _ _ _ _ ho3.ints ho4.ints (by show ys.length ≤ _; omega) (by show ys.length ≤ _; omega)).mono ?_
  rintro e w4 ⟨rfl, n4, rfl⟩
  have hB3 := below_drewN hB3 n4
  have ho3 := ho3.drewN n4
  have ho4 := ho4.drewN n4
  have hox := hox.drewN n4
  have hol := hol.drewN n4
  clear hb2 hb3
  generalize w3.drewN n4 = w4 at *
  cases b
  case false =>
    go_wp2_with fail
    refine (lawSame_any _ _ _ _ _ _ _ ho3.ints ho4.ints (by show ys.length ≤ _; omega) (by show ys.length ≤ _; omega)).mono ?_
    rintro e w5 ⟨rfl, n5, rfl⟩
    go_wp2
    go_ret
    exact ⟨rfl, below_drewN hB3 _⟩
  obtain ⟨k, rfl, hk20, hD, hys⟩ := divF_true HR.out
  obtain ⟨dOk, hvv, hmv, hlv, hll⟩ := divOk_of hD
  have HD := Lib.hid hD
  have DO := Lib.hid dOk
  have HV := Lib.hid hvv
  have HM := Lib.hid hmv
  have HLV := Lib.hid hlv
  have HLL := Lib.hid hll
  have HY := Lib.hid hys
  clear hD dOk hvv hmv hlv hll hys
  rcases mv_iff.1 HM.out with hm | hm
  case inr =>
    subst hm
    go_wp2_with fail
    refine (lawSame_any _ _ _ _ _ _ _ ho3.ints ho4.ints (by show ys.length ≤ _; omega) (by show ys.length ≤ _; omega)).mono ?_
    rintro e w5 ⟨rfl, n5, rfl⟩
    go_wp2
    go_ret
    exact ⟨rfl, below_drewN hB3 _⟩
  subst hm
  have HF := Lib.hid (fun i hi => div_floor HD.out HY.out hk20 (i := i) hi)
  have HG := Lib.hid (div_given HD.out HY.out hk20)
  have HYL := HG.out.len
  obtain ⟨a1, ⟨a2, a2'⟩, a3⟩ := vv_iff.1 HV.out
  have HX := Lib.hid a1
  have HW := Lib.hid (wide' a1 (by omega))
  have hT5 := sum_bd xs 99 (fun x hx => by have := a1 x hx; omega)
  have hT : xs.sum ≤ 495 := by omega
  have hHYL := Lib.hid HYL
  clear a1 hT5 HYL
  have i1 := hox.ints
  have i3 := ho3.ints
  go_wp2_with (go_at_call 19; refine (lawSum_any _ _ _ _ i1 (by omega) HW.out).mono ?_; rintro e w' ⟨rfl, rfl⟩)
  go_loopw [12] (fun i wr => ∃ j m : Nat, j ≤ xs.length ∧ i = .int .i64 j ∧ wr = w4.drewN m) (fun i _ => xs.length - (intOf i).toNat)
  case atStart => exact ⟨0, 0, by omega, rfl, rfl⟩
  case round =>
    obtain ⟨j, m, hj, rfl, rfl⟩ := hrel
    by_cases hlt : j < xs.length
    · have hk1 : j < ys.length := by have := hHYL.out; omega
      obtain ⟨ad, x, rfl, hx, hc⟩ := i1.at_ hlt
      obtain ⟨ad2, y, rfl, hy, hc2⟩ := i3.at_ hk1
      obtain ⟨hx0, hx1⟩ := HX.out x (mem_of_at hx.out)
      obtain ⟨hy0, hy1⟩ := HG.out.bd y (mem_of_at hy.out)
      have hle : x * k < (y + 1) * xs.sum := by have := HF.out j hlt; rw [getD_of hx.out, getD_of hy.out] at this; exact this
      obtain ⟨p0, p1⟩ := mul_bd (a := x) (b := k) (M := 99) (N := 20) ⟨hx0, hx1⟩ ⟨by omega, by omega⟩
      obtain ⟨p2, p3⟩ := mul_bd (a := y + 1) (b := xs.sum) (M := 21) (N := 495) ⟨by omega, by omega⟩ ⟨by omega, hT⟩
      have hd : decide ((y + 1) * xs.sum ≤ x * k) = false := by simp; omega
      have u1 : IntKind.i64.wrap (y + 1) = y + 1 := IntWalk.i64_in _ (by omega)
      have u2 : IntKind.i64.wrap ((y + 1) * xs.sum) = (y + 1) * xs.sum := IntWalk.i64_in _ (by omega)
      have u3 : IntKind.i64.wrap (x * k) = x * k := IntWalk.i64_in _ (by omega)
      go_wp2
      go_quiet (fail)
      clear u1 u2 u3
      go_wp2
      go_roundw
      case rel => exact ⟨j + 1, _, by omega, by go_num, rfl⟩
      case measure => simp [intOf]; omega
    · obtain rfl : j = xs.length := by omega
      clear hlt
      go_wp2
      go_ret
      exact ⟨rfl, below_drewN hB3 _⟩
set_option maxRecDepth 100000 in
theorem FnSeatsFloor_lifted (os : Os) (started : os.Started) (H : Type) (enc : TypeId × Value → H) :
    ReturnsInHanded {} Try.checked os 14 .any (Rows.fnSeatsFloorSpec.pre6 enc Try.prog Try.f14 Rows.fnSeatsFloorRow.domain false) (Rows.fnSeatsFloorSpec.post enc Try.prog Try.f14 false true false false) := by
  refine returnsInHanded_of_change (C := Try.checked) Try.own started (by kernel_rfl) Try.func14
    (ChangeSpec.witness6 (enc := enc) (C := Try.checked) false ⟨#[], #[.slice none 0 0], []⟩ 8 (by kernel_rfl) (by kernel_rfl) (by kernel_rfl) (by kernel_rfl)) ?_
  intro W base args ds gs before hval0 hW hcnd _
  have hval : ∀ (j : Nat) t v, Try.f14.params[j]? = some t → args[j]? = some v → Value.okWide Try.prog W .any base t v := hval0
  have hW' := hW
  obtain ⟨p, q, hA0, hV, rfl, hfz, hnd⟩ := hW
  have hA : DataW.TrodAll enc Try.prog W 0 (fun _ => true) true Try.f14.params.toList args.toList ds p := hA0
  rw [Try.params14] at hA hval
  obtain ⟨v0, vs0, d0, ds0, p0, q0, hargs, rfl, rfl, h0, r0⟩ := trodAll_cons hA
  obtain ⟨rfl, rfl, rfl⟩ := trodAll_nil r0
  obtain rfl : args = #[v0] := by cases args; simp_all
  obtain ⟨rfl, rfl⟩ := trodVars_none hV
  have k0 := h0
  have lt0 : ∀ x ∈ p0, x.block < W.heap.size := by obtain ⟨m, hm⟩ := k0; exact DataW.trod_lt m _ _ _ hm
  obtain ⟨a0, z0, c0, rfl, w0⟩ := openByts (hval 0 22 v0 rfl rfl) h0
  clear hA0 hval0
  refine (FnSeatsFloor_walk a0 z0 c0 W w0).mono fun e W' ⟨he, bel⟩ => ?_
  subst he
  exact ⟨_, rfl, _, _, _, [], _, [], hW', trodAll_mk1 (shut_bool Try.underlying4 _), (trodAll_cons_mk (Below.trod Try.laidOut (by kernel_rfl) (of_decide_eq_true (by kernel_rfl)) k0 bel lt0) trodAll_mk0), rfl, bel.frame _, fun h => by cases h⟩
/-- The given statement. -/
theorem FnSeatsFloor_holds : Rows.FnSeatsFloorSaid :=
  OpenClaim.holds_of_wide 14 Try.f14 rfl rfl rfl rfl rfl rfl rfl ⟨rfl, rfl, rfl, rfl, rfl⟩ rfl rfl rfl rfl rfl (by kernel_rfl) Try.func14 (by kernel_rfl)
    (of_decide_eq_true (by kernel_rfl)) (by unfold Func.isWrapper; first | (rw [if_pos (by decide +kernel)]; kernel_rfl) | (rw [if_neg (by decide +kernel)]; exact ⟨rfl, rfl⟩))
    (fun os started H enc _ => FnSeatsFloor_lifted os started H enc)
end Go.Proofs.Ytcddfibohcgjbaa
