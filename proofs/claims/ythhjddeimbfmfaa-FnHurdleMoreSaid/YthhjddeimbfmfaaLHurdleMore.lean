/-
  For every code, the law FnHurdleMore returns true: a greater hurdle leaves fewer votes, and none strikes nothing. There are no conditions.
-/
import Derived.Test.YthhjddeimbfmfaaShareP
import Derived.Test.YthhjddeimbfmfaaDrawQ
namespace Go.Proofs.Ythhjddeimbfmfaa
open Go.ChangeShapes Go.WideShapes Go.ChangeAt Go.RowKit
set_option maxHeartbeats 1600000 in
theorem FnHurdleMore_walk (A : Option Addr) (n c : Nat) (w : World) (h : BytsA w A n c) :
    Calls Try.prog 13 #[.slice A n c] w (LawOk w) := by
  by_cases hl : n ≤ 1048576
  · go_enter Try.func13, Try.ntmps13
    go_wp2_with fail
    refine (drawHurdle_any _ _ _ _ h).mono ?_
    rintro e w1 ⟨A1, c1, xs, p, rfl, hxl, ho1, hb1⟩
    have hF := Lib.hid (rfl : hurdleF xs p = hurdleF xs p)
    have cI := Lib.hid (implHurdle_any A1 xs c1 p _ ho1.ints (by omega))
    have cS := Lib.hid (fun (w : World) (h : Ints w A1 xs) => specHurdle_any A1 xs c1 p w h (by omega))
    have hyl := hurdleF_len xs p
    obtain ⟨r, hr⟩ : ∃ r, hurdleF xs p = r := ⟨_, rfl⟩
    rw [hr] at cI cS hyl
    clear hF
    obtain ⟨ys, b⟩ := r
    have hyl : ys.length ≤ xs.length := hyl
    have hself : (ys == ys) = true := by simp
    have HR := Lib.hid hr
    clear hr
    go_wp2_with fail
    refine cI.out.mono ?_
    rintro e w2 ⟨A2, c2, rfl, ho2, hb2⟩
    go_wp2_with fail
    refine (cS.out _ (ho1.below hb2).ints).mono ?_
    rintro e w3 ⟨A3, c3, rfl, ho3, hb3⟩
    have hB2 := hb1.trans (hb2.mono hb1.size)
    have hB3 := hB2.trans (hb3.mono hB2.size)
    have ho1' := (ho1.below hb2).below hb3
    have ho2' := ho2.below hb3
    go_wp2_with fail
    refine (lawSame_any _ _ _ _ _ _ _ ho2'.ints ho3.ints (by show ys.length ≤ _; omega) (by show ys.length ≤ _; omega)).mono ?_
    rintro e w4 ⟨rfl, n4, rfl⟩
    cases b
    · go_wp2_with fail
      refine (lawSame_any _ _ _ _ _ _ _ (ho2'.drewN n4).ints (ho3.drewN n4).ints (by show ys.length ≤ _; omega) (by show ys.length ≤ _; omega)).mono ?_
      rintro e w5 ⟨rfl, n5, rfl⟩
      go_wp2
      go_ret
      exact ⟨rfl, below_drewN hB3 _⟩
    · obtain ⟨⟨hv, hp0, hp1⟩, hys⟩ := hurdleF_true HR.out
      have hvc := hurdleF_true' HR.out
      subst hys
      by_cases hpz : p = 0
      · subst hpz
        go_wp2_with fail
        refine (lawSame_any _ _ _ _ _ _ _ (ho2'.drewN n4).ints (ho3.drewN n4).ints (by show (cutV xs 0).length ≤ _; omega) (by show (cutV xs 0).length ≤ _; omega)).mono ?_
        rintro e w5 ⟨rfl, n5, rfl⟩
        go_wp2
        go_ret
        exact ⟨rfl, below_drewN hB3 _⟩
      · have hpn : (p == 0) = false := by simp [hpz]
        have hless := Lib.hid (hurdle_less hv ⟨by omega, hp1⟩ hvc)
        have hzero := Lib.hid (hurdle_zero hv)
        obtain ⟨a1, ⟨a2, a2'⟩, a3⟩ := vv_iff.1 hv
        have HX := Lib.hid a1
        clear a1
        have hlen := cutV_length xs p
        have hlen2 := cutV_length xs (p - 1)
        have HL1 := Lib.hid hlen
        have HL2 := Lib.hid hlen2
        have HM := Lib.hid (fun (k : Nat) (x : Int) (hx : xs[k]? = some x) => cutV_mono (p := p) (by omega) hx (HX.out x (mem_of_at hx)).1)
        have A2 := Lib.hid (fun (k : Nat) (x : Int) (hx : xs[k]? = some x) => cutV_at (p := p) hx)
        have A3 := Lib.hid (fun (k : Nat) (x : Int) (hx : xs[k]? = some x) => cutV_at (p := p - 1) hx)
        have hself2 : (xs == xs) = true := by simp
        have c5 := Lib.hid (implHurdle_any A1 xs c1 (p - 1) _ (ho1'.drewN n4).ints (by omega))
        rw [hless.out] at c5
        have c6 := Lib.hid (fun (w : World) (h : Ints w A1 xs) => implHurdle_any A1 xs c1 0 w h (by omega))
        rw [hzero.out] at c6
        clear hlen hlen2 hvc hv
        generalize cutV xs (p - 1) = zs at c5 HL2 A3
        generalize cutV xs p = ys at *
        go_wp2_with fail
        refine c5.out.mono ?_
        rintro e w5 ⟨A5, c5', rfl, ho5, hb5⟩
        go_wp2_with fail
        refine (c6.out _ ((ho1'.drewN n4).below hb5).ints).mono ?_
        rintro e w6 ⟨A6, c6', rfl, ho6, hb6⟩
        have hB4 := below_drewN hB3 n4
        have hB5 := hB4.trans (hb5.mono hB4.size)
        have hB6 := hB5.trans (hb6.mono hB5.size)
        have i2 := (((ho2'.drewN n4).below hb5).below hb6).ints
        have i5 := (ho5.below hb6).ints
        have i1 := (((ho1'.drewN n4).below hb5).below hb6).ints
        have i6 := ho6.ints
        have hz1 : zs.length = xs.length := HL2.out
        have hz2 : ys.length = xs.length := HL1.out
        clear hb6 hb5 hB4 hB5 ho5 ho6 ho2' ho1' ho3 hB3
        go_wp2
        go_loopw [13] (fun i wr => ∃ k m : Nat, k ≤ xs.length ∧ i = .int .i64 k ∧ wr = w6.drewN m) (fun i _ => xs.length - (intOf i).toNat)
        case atStart => exact ⟨0, 0, by omega, rfl, rfl⟩
        case round =>
          obtain ⟨k, m, hk, rfl, rfl⟩ := hrel
          by_cases hlt : k < xs.length
          · have hk1 : k < zs.length := by omega
            have hk2 : k < ys.length := by omega
            obtain ⟨ad, y, rfl, hy, hc⟩ := i2.at_ hk2
            obtain ⟨ad2, z, rfl, hz, hc2⟩ := i5.at_ hk1
            have hle : y ≤ z := by
              have hx : xs[k]? = some xs[k] := List.getElem?_eq_getElem hlt
              have e1 := A2.out k _ hx
              have e2 := A3.out k _ hx
              rw [hy.out] at e1
              rw [hz.out] at e2
              injection e1 with e1
              injection e2 with e2
              rw [e1, e2]
              exact HM.out k _ hx
            clear hz1 hz2
            have hlz : decide (z < y) = false := by simp; omega
            go_wp2
            go_quiet (fail)
            go_wp2
            go_roundw
            case rel => exact ⟨k + 1, _, by omega, by go_num, rfl⟩
            case measure => simp [intOf]; omega
          · obtain rfl : k = xs.length := by omega
            clear hlt hk
            have hle : ((zs.length : Int) == (ys.length : Int)) = true := by simp [hz1, hz2]
            have hge1 : zs.length ≤ xs.length := by omega
            clear hz1 hz2
            go_wp2_with (go_at_call 42; refine (lawSame_any _ _ _ _ _ _ _ (i6.drewN m) (i1.drewN m) (by show xs.length ≤ _; omega) (by omega)).mono ?_; rintro e w' ⟨rfl, n8, rfl⟩)
            go_ret
            exact ⟨rfl, below_drewN hB6 _⟩
  · have hbig : (1048576 : Int) < n := by omega
    clear hl
    go_enter Try.func13, Try.ntmps13
    go_wp2
    go_ret
    exact ⟨rfl, Below.refl _ _⟩
set_option maxRecDepth 100000 in
theorem FnHurdleMore_lifted (os : Os) (started : os.Started) (H : Type) (enc : TypeId × Value → H) :
    ReturnsInHanded {} Try.checked os 13 .any (Rows.fnHurdleMoreSpec.pre6 enc Try.prog Try.f13 Rows.fnHurdleMoreRow.domain false) (Rows.fnHurdleMoreSpec.post enc Try.prog Try.f13 false true false false) := by
  refine returnsInHanded_of_change (C := Try.checked) Try.own started (by kernel_rfl) Try.func13
    (ChangeSpec.witness6 (enc := enc) (C := Try.checked) false ⟨#[], #[.slice none 0 0], []⟩ 8 (by kernel_rfl) (by kernel_rfl) (by kernel_rfl) (by kernel_rfl)) ?_
  intro W base args ds gs before hval0 hW hcnd _
  have hval : ∀ (j : Nat) t v, Try.f13.params[j]? = some t → args[j]? = some v → Value.okWide Try.prog W .any base t v := hval0
  have hW' := hW
  obtain ⟨p, q, hA0, hV, rfl, hfz, hnd⟩ := hW
  have hA : DataW.TrodAll enc Try.prog W 0 (fun _ => true) true Try.f13.params.toList args.toList ds p := hA0
  rw [Try.params13] at hA hval
  obtain ⟨v0, vs0, d0, ds0, p0, q0, hargs, rfl, rfl, h0, r0⟩ := trodAll_cons hA
  obtain ⟨rfl, rfl, rfl⟩ := trodAll_nil r0
  obtain rfl : args = #[v0] := by cases args; simp_all
  obtain ⟨rfl, rfl⟩ := trodVars_none hV
  have k0 := h0
  have lt0 : ∀ x ∈ p0, x.block < W.heap.size := by obtain ⟨m, hm⟩ := k0; exact DataW.trod_lt m _ _ _ hm
  obtain ⟨a0, z0, c0, rfl, w0⟩ := openByts (hval 0 28 v0 rfl rfl) h0
  clear hA0 hval0
  refine (FnHurdleMore_walk a0 z0 c0 W w0).mono fun e W' ⟨he, bel⟩ => ?_
  subst he
  exact ⟨_, rfl, _, _, _, [], _, [], hW', trodAll_mk1 (shut_bool Try.underlying4 _), (trodAll_cons_mk (Below.trod Try.laidOut (by kernel_rfl) (of_decide_eq_true (by kernel_rfl)) k0 bel lt0) trodAll_mk0), rfl, bel.frame _, fun h => by cases h⟩
/-- The given statement. -/
theorem FnHurdleMore_holds : Rows.FnHurdleMoreSaid :=
  OpenClaim.holds_of_wide 13 Try.f13 rfl rfl rfl rfl rfl rfl rfl ⟨rfl, rfl, rfl, rfl, rfl⟩ rfl rfl rfl rfl rfl (by kernel_rfl) Try.func13 (by kernel_rfl)
    (of_decide_eq_true (by kernel_rfl)) (by unfold Func.isWrapper; first | (rw [if_pos (by decide +kernel)]; kernel_rfl) | (rw [if_neg (by decide +kernel)]; exact ⟨rfl, rfl⟩))
    (fun os started H enc _ => FnHurdleMore_lifted os started H enc)
end Go.Proofs.Ythhjddeimbfmfaa
