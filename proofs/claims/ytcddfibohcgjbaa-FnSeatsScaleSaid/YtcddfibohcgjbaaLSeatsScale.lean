/-
  For every code, the law FnSeatsScale returns true: twice as many votes of all give the same seats. There are no conditions.
-/
import Derived.Test.YtcddfibohcgjbaaDivQ
namespace Go.Proofs.Ytcddfibohcgjbaa
open Go.ChangeShapes Go.WideShapes Go.ChangeAt Go.RowKit
set_option maxHeartbeats 1600000 in
theorem FnSeatsScale_walk (A : Option Addr) (n c : Nat) (w : World) (h : BytsA w A n c) :
    Calls Try.prog 13 #[.slice A n c] w (LawOk w) := by
  by_cases hl : n ≤ 1048576
  case neg =>
    have hbig : (1048576 : Int) < n := by omega
    clear hl
    go_enter Try.func13, Try.ntmps13
    go_wp2
    go_ret
    exact ⟨rfl, Below.refl _ _⟩
  go_enter Try.func13, Try.ntmps13
  go_wp2_with fail
  refine (drawDivisor_any _ _ _ _ h).mono ?_
  rintro e w1 ⟨A1, c1, xs, s, m, A2, c2, ls, rfl, ⟨hx5, hox, hb1⟩, ⟨hl5, hol, _⟩⟩
  have hcap := hol.le_cap
  have cI := Lib.hid (implDivisor_any A1 A2 xs ls c1 c2 s m _ hox.ints hol.ints (by omega) (by omega) hol.le_cap)
  have cS := Lib.hid (fun (w : World) (h : Ints w A1 xs) (h2 : Ints w A2 ls) => specDivisor_any A1 A2 xs ls c1 c2 s m w h h2 (by omega) (by omega) hol.le_cap)
  have hyl := divF_len hx5 s m ls
  obtain ⟨r, hr⟩ : ∃ r, divF xs s m ls = r := ⟨_, rfl⟩
  rw [hr] at cI cS hyl
  obtain ⟨ys, b⟩ := r
  have hyl : ys.length ≤ 5 := by have : ys.length ≤ 5 := hyl; exact this
  have hself : (ys == ys) = true := by simp
  have HR := Lib.hid hr
  clear hr
  go_wp2_with fail
  refine cI.out.mono ?_
  rintro e w2 ⟨A3, c3, rfl, ho3, hb2⟩
  go_wp2_with fail
  refine (cS.out _ (hox.below hb2).ints (hol.below hb2).ints).mono ?_
  rintro e w3 ⟨A4, c4, rfl, ho4, hb3⟩
  have hB2 := hb1.trans (hb2.mono hb1.size)
  have hB3 := hB2.trans (hb3.mono hB2.size)
  have ho3 := ho3.below hb3
  have hox := (hox.below hb2).below hb3
  have hol := (hol.below hb2).below hb3
  clear cS hB2
  go_wp2_with fail
  refine (lawSame_any _ _ _ _ _ _ _ ho3.ints ho4.ints (by show ys.length ≤ _; omega) (by show ys.length ≤ _; omega)).mono ?_
  rintro e w4 ⟨rfl, n4, rfl⟩
  have hB3 := below_drewN hB3 n4
  have ho3 := ho3.drewN n4
  have ho4 := ho4.drewN n4
  have hox := hox.drewN n4
  have hol := hol.drewN n4
  clear hb2 hb3
  generalize w3.drewN n4 = w4 at *
  cases b
  case false =>
    go_wp2_with fail
    refine (lawSame_any _ _ _ _ _ _ _ ho3.ints ho4.ints (by show ys.length ≤ _; omega) (by show ys.length ≤ _; omega)).mono ?_
    rintro e w5 ⟨rfl, n5, rfl⟩
    go_wp2
    go_ret
    exact ⟨rfl, below_drewN hB3 _⟩
  obtain ⟨k, rfl, hk20, hD, hys⟩ := divF_true HR.out
  obtain ⟨dOk, hvv, hmv, hlv, hll⟩ := divOk_of hD
  have HD := Lib.hid hD
  have DO := Lib.hid dOk
  have HV := Lib.hid hvv
  have HM := Lib.hid hmv
  have HLV := Lib.hid hlv
  have HLL := Lib.hid hll
  have HY := Lib.hid hys
  clear hD dOk hvv hmv hlv hll hys
  obtain ⟨a1, ⟨a2, a2'⟩, a3⟩ := vv_iff.1 HV.out
  have HX := Lib.hid a1
  clear a1
  obtain ⟨zs, hzs⟩ : ∃ zs, zs = xs.map fun x => 2 * x := ⟨_, rfl⟩
  have hzl : zs.length = xs.length := by rw [hzs, List.length_map]
  have HZ := Lib.hid (fun (j : Nat) (x : Int) (hx : xs[j]? = some x) => (show zs[j]? = some (2 * x) from by rw [hzs, List.getElem?_map, hx]; rfl))
  have HS := Lib.hid (fun (h49 : ∀ x ∈ xs, x ≤ 49) => (show divF zs k m ls = (ys, true) from by rw [hzs]; exact div_scale HD.out HY.out hk20 h49))
  have HZL := Lib.hid hzl
  have i1 := hox.ints
  clear hzl hzs
  go_wp2
  go_loopw [11, 12] (fun o i wr => ∃ (j : Nat) (B : Option Addr) (d : Nat), j ≤ xs.length ∧ i = .int .i64 j ∧ o = .slice B j d ∧ OwnN wr w4.heap.size B j d (zs.take j) ∧ Below w4.heap.size w4 wr ∧ Hid (∀ x ∈ xs.take j, x ≤ 49)) (fun _ i _ => xs.length - (intOf i).toNat)
  case atStart => exact ⟨0, _, _, by omega, rfl, rfl, ⟨rfl, own_empty w4 (Nat.le_refl _)⟩, (Below.refl _ _).alloc (Nat.le_refl _) _, fun x hx => by simp at hx⟩
  case round =>
    obtain ⟨j, B, d, hj, rfl, rfl, hown, hbel, hall⟩ := hrel
    have hsz := hbel.size
    by_cases hlt : j < xs.length
    · obtain ⟨ad, x, rfl, hx, hc⟩ := (i1.below hbel).at_ hlt
      obtain ⟨hx0, hx1⟩ := HX.out x (mem_of_at hx.out)
      by_cases h49 : x ≤ 49
      · have hz := Lib.hid (HZ.out j x hx.out)
        have u1 : IntKind.i64.wrap (2 * x) = 2 * x := IntWalk.i64_in _ (by omega)
        go_wp2_with (at_builtin; refine wpList_app1 _ rfl (.tmp 74) (.tmp 80) rfl w4.heap.size B j d _ rfl hown hsz (by omega) _ rfl ?_; intro B' d' w5 hown' hgr' hbl')
        clear u1
        go_roundw
        case rel => exact ⟨j + 1, _, _, by omega, by go_num, rfl, by rw [take_snoc _ _ _ hz.out]; exact hown', hbel.trans hbl', bd_snoc hx.out hall.out h49⟩
        case measure => simp [intOf]; omega
      · have h50 : (49 : Int) < x := by omega
        go_wp2
        go_ret
        exact ⟨rfl, hB3.trans (hbel.mono hB3.size)⟩
    · obtain rfl : j = xs.length := by omega
      clear hlt
      have hd := HS.out (fun x hx => hall.out x (by rw [List.take_length]; exact hx))
      have hown2 : OwnN wr w4.heap.size B xs.length d zs := by
        have := hown
        rw [List.take_of_length_le (by rw [HZL.out]; exact Nat.le_refl _)] at this
        exact this
      have cX := Lib.hid (implDivisor_any B A2 zs ls d c2 k m wr hown2.2.ints (hol.below hbel).ints (by have := HZL.out; omega) (by omega) hcap)
      rw [hd, HZL.out] at cX
      clear hd hall
      go_wp2_with fail
      refine cX.out.mono ?_
      rintro e w5 ⟨A5, c5, rfl, ho5, hb5⟩
      have hB4 := hB3.trans (hbel.mono hB3.size)
      have hB5 := hB4.trans (hb5.mono hB4.size)
      have i3 := ((ho3.below hbel).below hb5).ints
      have i5 := ho5.ints
      go_wp2_with fail
      refine (lawSame_any _ _ _ _ _ _ _ i5 i3 (by show ys.length ≤ _; omega) (by show ys.length ≤ _; omega)).mono ?_
      rintro e w6 ⟨rfl, n6, rfl⟩
      go_wp2
      go_ret
      exact ⟨rfl, below_drewN hB5 _⟩
set_option maxRecDepth 100000 in
theorem FnSeatsScale_lifted (os : Os) (started : os.Started) (H : Type) (enc : TypeId × Value → H) :
    ReturnsInHanded {} Try.checked os 13 .any (Rows.fnSeatsScaleSpec.pre6 enc Try.prog Try.f13 Rows.fnSeatsScaleRow.domain false) (Rows.fnSeatsScaleSpec.post enc Try.prog Try.f13 false true false false) := by
  refine returnsInHanded_of_change (C := Try.checked) Try.own started (by kernel_rfl) Try.func13
    (ChangeSpec.witness6 (enc := enc) (C := Try.checked) false ⟨#[], #[.slice none 0 0], []⟩ 8 (by kernel_rfl) (by kernel_rfl) (by kernel_rfl) (by kernel_rfl)) ?_
  intro W base args ds gs before hval0 hW hcnd _
  have hval : ∀ (j : Nat) t v, Try.f13.params[j]? = some t → args[j]? = some v → Value.okWide Try.prog W .any base t v := hval0
  have hW' := hW
  obtain ⟨p, q, hA0, hV, rfl, hfz, hnd⟩ := hW
  have hA : DataW.TrodAll enc Try.prog W 0 (fun _ => true) true Try.f13.params.toList args.toList ds p := hA0
  rw [Try.params13] at hA hval
  obtain ⟨v0, vs0, d0, ds0, p0, q0, hargs, rfl, rfl, h0, r0⟩ := trodAll_cons hA
  obtain ⟨rfl, rfl, rfl⟩ := trodAll_nil r0
  obtain rfl : args = #[v0] := by cases args; simp_all
  obtain ⟨rfl, rfl⟩ := trodVars_none hV
  have k0 := h0
  have lt0 : ∀ x ∈ p0, x.block < W.heap.size := by obtain ⟨m, hm⟩ := k0; exact DataW.trod_lt m _ _ _ hm
  obtain ⟨a0, z0, c0, rfl, w0⟩ := openByts (hval 0 22 v0 rfl rfl) h0
  clear hA0 hval0
  refine (FnSeatsScale_walk a0 z0 c0 W w0).mono fun e W' ⟨he, bel⟩ => ?_
  subst he
  exact ⟨_, rfl, _, _, _, [], _, [], hW', trodAll_mk1 (shut_bool Try.underlying4 _), (trodAll_cons_mk (Below.trod Try.laidOut (by kernel_rfl) (of_decide_eq_true (by kernel_rfl)) k0 bel lt0) trodAll_mk0), rfl, bel.frame _, fun h => by cases h⟩
/-- The given statement. -/
theorem FnSeatsScale_holds : Rows.FnSeatsScaleSaid :=
  OpenClaim.holds_of_wide 13 Try.f13 rfl rfl rfl rfl rfl rfl rfl ⟨rfl, rfl, rfl, rfl, rfl⟩ rfl rfl rfl rfl rfl (by kernel_rfl) Try.func13 (by kernel_rfl)
    (of_decide_eq_true (by kernel_rfl)) (by unfold Func.isWrapper; first | (rw [if_pos (by decide +kernel)]; kernel_rfl) | (rw [if_neg (by decide +kernel)]; exact ⟨rfl, rfl⟩))
    (fun os started H enc _ => FnSeatsScale_lifted os started H enc)
end Go.Proofs.Ytcddfibohcgjbaa
