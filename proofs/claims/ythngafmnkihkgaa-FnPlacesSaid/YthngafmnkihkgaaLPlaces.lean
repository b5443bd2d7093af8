/-
  For every code, the law FnPlaces returns true: places are preferences. There are no conditions.
-/
import Derived.Test.YthngafmnkihkgaaPairs
import Derived.Test.YthngafmnkihkgaaDrawN
namespace Go.Proofs.Ythngafmnkihkgaa
open Go.ChangeShapes Go.WideShapes Go.ChangeAt Go.RowKit
set_option maxRecDepth 100000 in
set_option maxHeartbeats 3200000 in
theorem FnPlaces_walk (A : Option Addr) (n c : Nat) (w : World) (h : BytsA w A n c) :
    Calls Try.prog 5 #[.slice A n c] w (LawOk w) := by
  by_cases hl : n ≤ 1048576
  case neg =>
    have hbig : (1048576 : Int) < n := by omega
    clear hl
    go_enter Try.func5, Try.ntmps5
    go_wp2
    go_ret
    exact ⟨rfl, Below.refl _ _⟩
  go_enter Try.func5, Try.ntmps5
  go_wp2_with fail
  refine (drawPlace_any _ _ _ _ h).mono ?_
  rintro e w1 ⟨A1, c1, ps, n1, rfl, ⟨hpl, hop, hb1⟩, hn6⟩
  have cI := Lib.hid (implPlace_any A1 ps c1 n1 _ hop.piles (by omega))
  have cS := Lib.hid (fun (w : World) (h : PilesI w A1 ps) => specPlace_any A1 ps c1 n1 w h (by omega) (by omega))
  have hyl := plF_len ps n1 hn6
  obtain ⟨r, hr⟩ : ∃ r, plF ps n1 = r := ⟨_, rfl⟩
  rw [hr] at cI cS hyl
  obtain ⟨ys, b⟩ := r
  have hyl : ys.length ≤ 10 := by have : ys.length ≤ 10 := hyl; exact this
  have hself : (ys == ys) = true := by simp
  have HR := Lib.hid hr
  clear hr
  go_wp2_with fail
  refine cI.out.mono ?_
  rintro e w2 ⟨A3, c3, rfl, ho3, hb2⟩
  go_wp2_with fail
  refine (cS.out _ (hop.below hb2).piles).mono ?_
  rintro e w3 ⟨A4, c4, rfl, ho4, hb3⟩
  have hB2 := hb1.trans (hb2.mono hb1.size)
  have hB3 := hB2.trans (hb3.mono hB2.size)
  have ho3 := ho3.below hb3
  have hop := (hop.below hb2).below hb3
  clear cS hB2
  go_wp2_with fail
  refine (lawSame_any _ _ _ _ _ _ _ ho3.ints ho4.ints (by show ys.length ≤ _; omega) (by show ys.length ≤ _; omega)).mono ?_
  rintro e w4 ⟨rfl, n4, rfl⟩
  have hB3 := below_drewN hB3 n4
  have ho3 := ho3.drewN n4
  have ho4 := ho4.drewN n4
  have hop := hop.drewN n4
  clear hb2 hb3
  generalize w3.drewN n4 = w4 at *
  cases b
  case false =>
    go_wp2_with fail
    refine (lawSame_any _ _ _ _ _ _ _ ho3.ints ho4.ints (by show ys.length ≤ _; omega) (by show ys.length ≤ _; omega)).mono ?_
    rintro e w5 ⟨rfl, n5, rfl⟩
    go_wp2
    go_ret
    exact ⟨rfl, below_drewN hB3 _⟩
  obtain ⟨hfit, hys⟩ := plF_true HR.out
  have HF := Lib.hid (fitOk_of hfit)
  have HYS := Lib.hid hys
  have hn5 := HF.out.n5
  have cP := Lib.hid (implPairs_any A1 ps c1 n1 w4 hop.piles (by omega) (Lib.hid hfit))
  have HYL := Lib.hid (show ys.length = n1 by rw [hys, ptsA_len])
  obtain ⟨xss, hxs⟩ : ∃ xss, xss = pairM n1 (pl ps) := ⟨_, rfl⟩
  rw [← hxs] at cP
  have HXL := Lib.hid (show xss.length = n1 by rw [hxs, pairM_len])
  have HX := Lib.hid (show ∀ i r, xss[i]? = some r → i < n1 → r = pairR n1 i (pl ps) from fun i r hr hi => by
    rw [hxs] at hr
    simp [pairM, hi] at hr
    exact hr.symm)
  clear hys hfit hxs
  go_wp2_with fail
  refine cP.out.mono ?_
  rintro e w5 ⟨A5, c5, rfl, hr5, hb5⟩
  have hB5 := hB3.trans (hb5.mono hB3.size)
  have i3 := (ho3.below hb5).ints
  have HCY := Lib.hid (show ∀ i x, ys[i]? = some x → i < n1 → x = ptsC (fP n1) i (pl ps) from fun i x hx hi => by
    rw [HYS.out, ptsA_at hi] at hx
    injection hx with hx
    exact hx.symm)
  clear hb5 hB3 ho3 ho4 hop cP
  go_wp2
  go_loopw [11] (fun i wr => ∃ k q : Nat, k ≤ n1 ∧ i = .int .i64 k ∧ wr = w5.drewN q) (fun i _ => n1 - (intOf i).toNat)
  case atStart => exact ⟨0, 0, by omega, rfl, rfl⟩
  case round =>
    obtain ⟨k, q, hk, rfl, rfl⟩ := hrel
    by_cases hlt : k < n1
    · have l1 : k < ys.length := by rw [HYL.out]; exact hlt
      have l2 : k < xss.length := by rw [HXL.out]; exact hlt
      obtain ⟨ad, y, e3, hy, hc⟩ := i3.at_ l1
      obtain ⟨ad2, r, B, d, e4, hr, hc2, hir⟩ := hr5.at_ l2
      have hye := HCY.out k y hy.out hlt
      have hre := HX.out k r hr.out hlt
      have hsum : r.sum = y := by rw [hre, hye]; exact pairR_sum (pl_rng HF.out) (pl_nod HF.out) k hlt
      have hrl : r.length ≤ 5 := by rw [hre]; simp [pairR]; omega
      have cS := Lib.hid (fun w (hi : Ints w B r) => lawSum_any B r d w hi (by omega) (fun x hx => by
        rw [hre] at hx
        unfold pairR at hx
        obtain ⟨z, _, rfl⟩ := List.mem_map.1 hx
        have h1 := pairC_bd k z (pl_nn HF.out.many)
        have h2 := totM_all HF.out
        rw [pl_many] at h1
        omega))
      rw [hsum] at cS
      have hne : (y != y) = false := by simp
      have hk0 : (0 : Int) ≤ (k : Int) := by omega
      have hk1 : (k : Int) < (ys.length : Int) := by omega
      have hk2 : (k : Int) < (n1 : Int) := by omega
      clear hye hre hsum
      subst e3
      subst e4
      go_wp2
      go_quiet ((go_at_call 15; exact Ret.quiet_add (cS.out _ (hir.drewN _))))
      go_wp2
      go_roundw
      case rel => exact ⟨k + 1, _, by omega, by go_num, rfl⟩
      case measure => simp [intOf]; omega
    · obtain rfl : k = n1 := by omega
      have l1 : ¬ k < ys.length := by rw [HYL.out]; omega
      have hle : ((k : Int) == (ys.length : Int)) = true := by simp [HYL.out]
      clear hlt
      go_wp2
      go_ret
      exact ⟨rfl, below_drewN hB5 _⟩
set_option maxRecDepth 100000 in
theorem FnPlaces_lifted (os : Os) (started : os.Started) (H : Type) (enc : TypeId × Value → H) :
    ReturnsInHanded {} Try.checked os 5 .any (Rows.fnPlacesSpec.pre6 enc Try.prog Try.f5 Rows.fnPlacesRow.domain false) (Rows.fnPlacesSpec.post enc Try.prog Try.f5 false true false false) := by
  refine returnsInHanded_of_change (C := Try.checked) Try.own started (by kernel_rfl) Try.func5
    (ChangeSpec.witness6 (enc := enc) (C := Try.checked) false ⟨#[], #[.slice none 0 0], []⟩ 8 (by kernel_rfl) (by kernel_rfl) (by kernel_rfl) (by kernel_rfl)) ?_
  intro W base args ds gs before hval0 hW hcnd _
  have hval : ∀ (j : Nat) t v, Try.f5.params[j]? = some t → args[j]? = some v → Value.okWide Try.prog W .any base t v := hval0
  have hW' := hW
  obtain ⟨p, q, hA0, hV, rfl, hfz, hnd⟩ := hW
  have hA : DataW.TrodAll enc Try.prog W 0 (fun _ => true) true Try.f5.params.toList args.toList ds p := hA0
  rw [Try.params5] at hA hval
  obtain ⟨v0, vs0, d0, ds0, p0, q0, hargs, rfl, rfl, h0, r0⟩ := trodAll_cons hA
  obtain ⟨rfl, rfl, rfl⟩ := trodAll_nil r0
  obtain rfl : args = #[v0] := by cases args; simp_all
  obtain ⟨rfl, rfl⟩ := trodVars_none hV
  have k0 := h0
  have lt0 : ∀ x ∈ p0, x.block < W.heap.size := by obtain ⟨m, hm⟩ := k0; exact DataW.trod_lt m _ _ _ hm
  obtain ⟨a0, z0, c0, rfl, w0⟩ := openByts (hval 0 22 v0 rfl rfl) h0
  clear hA0 hval0
  refine (FnPlaces_walk a0 z0 c0 W w0).mono fun e W' ⟨he, bel⟩ => ?_
  subst he
  exact ⟨_, rfl, _, _, _, [], _, [], hW', trodAll_mk1 (shut_bool Try.underlying4 _), (trodAll_cons_mk (Below.trod Try.laidOut (by kernel_rfl) (of_decide_eq_true (by kernel_rfl)) k0 bel lt0) trodAll_mk0), rfl, bel.frame _, fun h => by cases h⟩
/-- The given statement. -/
theorem FnPlaces_holds : Rows.FnPlacesSaid :=
  OpenClaim.holds_of_wide 5 Try.f5 rfl rfl rfl rfl rfl rfl rfl ⟨rfl, rfl, rfl, rfl, rfl⟩ rfl rfl rfl rfl rfl (by kernel_rfl) Try.func5 (by kernel_rfl)
    (of_decide_eq_true (by kernel_rfl)) (by unfold Func.isWrapper; first | (rw [if_pos (by decide +kernel)]; kernel_rfl) | (rw [if_neg (by decide +kernel)]; exact ⟨rfl, rfl⟩))
    (fun os started H enc _ => FnPlaces_lifted os started H enc)
end Go.Proofs.Ythngafmnkihkgaa
