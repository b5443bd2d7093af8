/-
  For every code, the law FnSeatsMore returns true: a further seat takes none away. There are no conditions.
-/
import Derived.Test.YtcddfibohcgjbaaDivQ
namespace Go.Proofs.Ytcddfibohcgjbaa
open Go.ChangeShapes Go.WideShapes Go.ChangeAt Go.RowKit
set_option maxHeartbeats 1600000 in
theorem FnSeatsMore_walk (A : Option Addr) (n c : Nat) (w : World) (h : BytsA w A n c) :
    Calls Try.prog 12 #[.slice A n c] w (LawOk w) := by
  by_cases hl : n ≤ 1048576
  case neg =>
    have hbig : (1048576 : Int) < n := by omega
    clear hl
    go_enter Try.func12, Try.ntmps12
    go_wp2
    go_ret
    exact ⟨rfl, Below.refl _ _⟩
  go_enter Try.func12, Try.ntmps12
  go_wp2_with fail
  refine (drawDivisor_any _ _ _ _ h).mono ?_
  rintro e w1 ⟨A1, c1, xs, s, m, A2, c2, ls, rfl, ⟨hx5, hox, hb1⟩, ⟨hl5, hol, _⟩⟩
  have hcap := hol.le_cap
  have cI := Lib.hid (implDivisor_any A1 A2 xs ls c1 c2 s m _ hox.ints hol.ints (by omega) (by omega) hol.le_cap)
  have cS := Lib.hid (fun (w : World) (h : Ints w A1 xs) (h2 : Ints w A2 ls) => specDivisor_any A1 A2 xs ls c1 c2 s m w h h2 (by omega) (by omega) hol.le_cap)
  have hyl := divF_len hx5 s m ls
  obtain ⟨r, hr⟩ : ∃ r, divF xs s m ls = r := ⟨_, rfl⟩
  rw [hr] at cI cS hyl
  obtain ⟨ys, b⟩ := r
  have hyl : ys.length ≤ 5 := by have : ys.length ≤ 5 := hyl; exact this
  have hself : (ys == ys) = true := by simp
  have HR := Lib.hid hr
  clear hr
  go_wp2_with fail
  refine cI.out.mono ?_
  rintro e w2 ⟨A3, c3, rfl, ho3, hb2⟩
  go_wp2_with fail
  refine (cS.out _ (hox.below hb2).ints (hol.below hb2).ints).mono ?_
  rintro e w3 ⟨A4, c4, rfl, ho4, hb3⟩
  have hB2 := hb1.trans (hb2.mono hb1.size)
  have hB3 := hB2.trans (hb3.mono hB2.size)
  have ho3 := ho3.below hb3
  have hox := (hox.below hb2).below hb3
  have hol := (hol.below hb2).below hb3
  clear cS hB2
  go_wp2_with fail
  refine (lawSame_any _ _ _ _ _ _ _ ho3.ints ho4.ints (by show ys.length ≤ _; omega) (by show ys.length ≤ _; omega)).mono ?_
  rintro e w4 ⟨rfl, n4, rfl⟩
  have hB3 := below_drewN hB3 n4
  have ho3 := ho3.drewN n4
  have ho4 := ho4.drewN n4
  have hox := hox.drewN n4
  have hol := hol.drewN n4
  clear hb2 hb3
  generalize w3.drewN n4 = w4 at *
  cases b
  case false =>
    go_wp2_with fail
    refine (lawSame_any _ _ _ _ _ _ _ ho3.ints ho4.ints (by show ys.length ≤ _; omega) (by show ys.length ≤ _; omega)).mono ?_
    rintro e w5 ⟨rfl, n5, rfl⟩
    go_wp2
    go_ret
    exact ⟨rfl, below_drewN hB3 _⟩
  obtain ⟨k, rfl, hk20, hD, hys⟩ := divF_true HR.out
  obtain ⟨dOk, hvv, hmv, hlv, hll⟩ := divOk_of hD
  have HD := Lib.hid hD
  have DO := Lib.hid dOk
  have HV := Lib.hid hvv
  have HM := Lib.hid hmv
  have HLV := Lib.hid hlv
  have HLL := Lib.hid hll
  have HY := Lib.hid hys
  clear hD dOk hvv hmv hlv hll hys
  by_cases hk : k = 20
  · have e20 : ((k : Int) == 20) = true := by simp; omega
    clear hk
    go_wp2_with fail
    refine (lawSame_any _ _ _ _ _ _ _ ho3.ints ho4.ints (by show ys.length ≤ _; omega) (by show ys.length ≤ _; omega)).mono ?_
    rintro e w5 ⟨rfl, n5, rfl⟩
    go_wp2
    go_ret
    exact ⟨rfl, below_drewN hB3 _⟩
  have e20 : ((k : Int) == 20) = false := by simp; omega
  obtain ⟨q, hqlt, hN, hZ⟩ := div_more HD.out HY.out (show k < 20 by omega)
  have HG := Lib.hid (div_given HD.out HY.out hk20)
  have hk19 : k < 20 := by omega
  have cI := Lib.hid (implDivisor_any A1 A2 xs ls c1 c2 ((k : Int) + 1) m _ hox.ints hol.ints (by omega) (by omega) hcap)
  rw [divF_succ HD.out hk19] at cI
  have cN := Lib.hid (fun (w : World) (h : Ints w A1 xs) (h' : Ints w A3 ys) (h2 : Ints w A2 ls) => implNext_any A1 A3 A2 xs ys ls c1 c3 c2 m w h h' h2 (by omega) (by omega) (by omega) hcap)
  rw [hN] at cN
  have hzl : (giveN xs m ls (k + 1)).length = xs.length := giveN_len _ _ _ _
  have HZ := Lib.hid hZ
  generalize giveN xs m ls (k + 1) = zs at cI HZ hzl
  have HYL := Lib.hid HG.out.len
  have HZL := Lib.hid hzl
  have hq0 : (q : Int) ≥ 0 := by omega
  clear hZ hN hk hzl
  go_wp2_with fail
  refine cI.out.mono ?_
  rintro e w5 ⟨A5, c5, rfl, ho5, hb5⟩
  have hB5 := hB3.trans (hb5.mono hB3.size)
  go_wp2_with fail
  refine (cN.out _ (hox.below hb5).ints (ho3.below hb5).ints (hol.below hb5).ints).mono ?_
  rintro e w6 ⟨rfl, n6, rfl⟩
  have i3 := ((ho3.below hb5).drewN n6).ints
  have i5 := (ho5.drewN n6).ints
  have hB6 := below_drewN hB5 n6
  have hzx : zs.length ≤ 5 := by have := HZL.out; omega
  have hzy : zs.length = ys.length := by have := HYL.out; have := HZL.out; omega
  have hqy : q < ys.length := by have := HYL.out; omega
  have HZY := Lib.hid hzy
  clear hzy
  generalize w5.drewN n6 = w7 at *
  go_wp2
  go_loop [14, 15] (fun i _ => ∃ j : Nat, j ≤ ys.length ∧ i = .int .i64 j) (fun i _ => ys.length - (intOf i).toNat)
  case atStart => exact ⟨0, by omega, rfl⟩
  case round =>
    obtain ⟨j, hj, rfl⟩ := hrel
    by_cases hlt : j < ys.length
    · have hk1 : j < zs.length := by have := HZY.out; omega
      obtain ⟨ad, y, rfl, hy, hc⟩ := i3.at_ hlt
      obtain ⟨ad2, z, rfl, hz, hc2⟩ := i5.at_ hk1
      obtain ⟨hy0, hy1⟩ := HG.out.bd y (mem_of_at hy.out)
      have hzv := HZ.out j y z hy.out hz.out
      by_cases hjq : j = q
      · have ejq : ((j : Int) == (q : Int)) = true := by simp; omega
        rw [if_pos hjq] at hzv
        subst hzv
        have ene : ((y + 1) != (y + 1)) = false := by simp
        clear hjq
        go_wp2
        go_round
        case rel => exact ⟨j + 1, by omega, by go_num⟩
        case measure => simp [intOf]; omega
      · have ejq : ((j : Int) == (q : Int)) = false := by simp; omega
        rw [if_neg hjq] at hzv
        subst hzv
        have ene : (z != z) = false := by simp
        clear hjq
        go_wp2
        go_round
        case rel => exact ⟨j + 1, by omega, by go_num⟩
        case measure => simp [intOf]; omega
    · obtain rfl : j = ys.length := by omega
      have hzl2 : zs.length ≤ ys.length := by have := HZY.out; omega
      have heq : ((zs.length : Int) == (ys.length : Int)) = true := by simp [HZY.out]
      clear hlt
      go_wp2
      go_ret
      exact ⟨rfl, hB6⟩
set_option maxRecDepth 100000 in
theorem FnSeatsMore_lifted (os : Os) (started : os.Started) (H : Type) (enc : TypeId × Value → H) :
    ReturnsInHanded {} Try.checked os 12 .any (Rows.fnSeatsMoreSpec.pre6 enc Try.prog Try.f12 Rows.fnSeatsMoreRow.domain false) (Rows.fnSeatsMoreSpec.post enc Try.prog Try.f12 false true false false) := by
  refine returnsInHanded_of_change (C := Try.checked) Try.own started (by kernel_rfl) Try.func12
    (ChangeSpec.witness6 (enc := enc) (C := Try.checked) false ⟨#[], #[.slice none 0 0], []⟩ 8 (by kernel_rfl) (by kernel_rfl) (by kernel_rfl) (by kernel_rfl)) ?_
  intro W base args ds gs before hval0 hW hcnd _
  have hval : ∀ (j : Nat) t v, Try.f12.params[j]? = some t → args[j]? = some v → Value.okWide Try.prog W .any base t v := hval0
  have hW' := hW
  obtain ⟨p, q, hA0, hV, rfl, hfz, hnd⟩ := hW
  have hA : DataW.TrodAll enc Try.prog W 0 (fun _ => true) true Try.f12.params.toList args.toList ds p := hA0
  rw [Try.params12] at hA hval
  obtain ⟨v0, vs0, d0, ds0, p0, q0, hargs, rfl, rfl, h0, r0⟩ := trodAll_cons hA
  obtain ⟨rfl, rfl, rfl⟩ := trodAll_nil r0
  obtain rfl : args = #[v0] := by cases args; simp_all
  obtain ⟨rfl, rfl⟩ := trodVars_none hV
  have k0 := h0
  have lt0 : ∀ x ∈ p0, x.block < W.heap.size := by obtain ⟨m, hm⟩ := k0; exact DataW.trod_lt m _ _ _ hm
  obtain ⟨a0, z0, c0, rfl, w0⟩ := openByts (hval 0 22 v0 rfl rfl) h0
  clear hA0 hval0
  refine (FnSeatsMore_walk a0 z0 c0 W w0).mono fun e W' ⟨he, bel⟩ => ?_
  subst he
  exact ⟨_, rfl, _, _, _, [], _, [], hW', trodAll_mk1 (shut_bool Try.underlying4 _), (trodAll_cons_mk (Below.trod Try.laidOut (by kernel_rfl) (of_decide_eq_true (by kernel_rfl)) k0 bel lt0) trodAll_mk0), rfl, bel.frame _, fun h => by cases h⟩
/-- The given statement. -/
theorem FnSeatsMore_holds : Rows.FnSeatsMoreSaid :=
  OpenClaim.holds_of_wide 12 Try.f12 rfl rfl rfl rfl rfl rfl rfl ⟨rfl, rfl, rfl, rfl, rfl⟩ rfl rfl rfl rfl rfl (by kernel_rfl) Try.func12 (by kernel_rfl)
    (of_decide_eq_true (by kernel_rfl)) (by unfold Func.isWrapper; first | (rw [if_pos (by decide +kernel)]; kernel_rfl) | (rw [if_neg (by decide +kernel)]; exact ⟨rfl, rfl⟩))
    (fun os started H enc _ => FnSeatsMore_lifted os started H enc)
end Go.Proofs.Ytcddfibohcgjbaa
