/-
  For every code, the law FnHurdle returns true: votes below the hurdle are struck, and no others. There are no conditions.
-/
import Derived.Test.YtcddfibohcgjbaaShareP
import Derived.Test.YtcddfibohcgjbaaDrawQ
namespace Go.Proofs.Ytcddfibohcgjbaa
open Go.ChangeShapes Go.WideShapes Go.ChangeAt Go.RowKit
set_option maxHeartbeats 1600000 in
theorem FnHurdle_walk (A : Option Addr) (n c : Nat) (w : World) (h : BytsA w A n c) :
    Calls Try.prog 3 #[.slice A n c] w (LawOk w) := by
  by_cases hl : n ≤ 1048576
  · go_enter Try.func3, Try.ntmps3
    go_wp2_with fail
    refine (drawHurdle_any _ _ _ _ h).mono ?_
    rintro e w1 ⟨A1, c1, xs, p, rfl, hxl, ho1, hb1⟩
    have hF := Lib.hid (rfl : hurdleF xs p = hurdleF xs p)
    have cI := Lib.hid (implHurdle_any A1 xs c1 p _ ho1.ints (by omega))
    have cS := Lib.hid (fun (w : World) (h : Ints w A1 xs) => specHurdle_any A1 xs c1 p w h (by omega))
    have hyl := hurdleF_len xs p
    obtain ⟨r, hr⟩ : ∃ r, hurdleF xs p = r := ⟨_, rfl⟩
    rw [hr] at cI cS hyl
    clear hF
    obtain ⟨ys, b⟩ := r
    have hyl : ys.length ≤ xs.length := hyl
    have hself : (ys == ys) = true := by simp
    have HR := Lib.hid hr
    clear hr
    go_wp2_with fail
    refine cI.out.mono ?_
    rintro e w2 ⟨A2, c2, rfl, ho2, hb2⟩
    go_wp2_with fail
    refine (cS.out _ (ho1.below hb2).ints).mono ?_
    rintro e w3 ⟨A3, c3, rfl, ho3, hb3⟩
    have hB2 := hb1.trans (hb2.mono hb1.size)
    have hB3 := hB2.trans (hb3.mono hB2.size)
    have ho1' := (ho1.below hb2).below hb3
    have ho2' := ho2.below hb3
    go_wp2_with fail
    refine (lawSame_any _ _ _ _ _ _ _ ho2'.ints ho3.ints (by show ys.length ≤ _; omega) (by show ys.length ≤ _; omega)).mono ?_
    rintro e w4 ⟨rfl, n4, rfl⟩
    cases b
    · go_wp2_with fail
      refine (lawSame_any _ _ _ _ _ _ _ (ho2'.drewN n4).ints (ho3.drewN n4).ints (by show ys.length ≤ _; omega) (by show ys.length ≤ _; omega)).mono ?_
      rintro e w5 ⟨rfl, n5, rfl⟩
      go_wp2
      go_ret
      exact ⟨rfl, below_drewN hB3 _⟩
    · obtain ⟨⟨hv, hp0, hp1⟩, hys⟩ := hurdleF_true HR.out
      subst hys
      obtain ⟨a1, ⟨a2, a2'⟩, a3⟩ := vv_iff.1 hv
      have HX := Lib.hid a1
      have hwd := Lib.hid (show ∀ x ∈ xs, -1000000000 ≤ x ∧ x ≤ 1000000000 from fun x hx => by have := a1 x hx; omega)
      have hT5 := sum_bd xs 99 (fun x hx => by have := a1 x hx; omega)
      have hps := mul_bd (a := p) (b := xs.sum) (M := 100) (N := 495) ⟨hp0, hp1⟩ ⟨by omega, by omega⟩
      obtain ⟨hps0, hps1⟩ := hps
      clear a1
      have hi1 := (ho1'.drewN n4).ints
      have hi2 := (ho2'.drewN n4).ints
      have hlen := cutV_length xs p
      have HLn := Lib.hid hlen
      go_wp2
      go_loop [9, 10] (fun i _ => ∃ k : Nat, k ≤ xs.length ∧ i = .int .i64 k) (fun i _ => xs.length - (intOf i).toNat)
      case atStart => exact ⟨0, by omega, rfl⟩
      case round =>
        obtain ⟨k, hk, rfl⟩ := hrel
        by_cases hlt : k < xs.length
        · have hlt2 : k < (cutV xs p).length := by omega
          obtain ⟨ad, x, rfl, hx, hc⟩ := hi1.at_ hlt
          obtain ⟨ad2, y, rfl, hy, hc2⟩ := hi2.at_ hlt2
          obtain ⟨hx0, hx1⟩ := HX.out x (mem_of_at hx.out)
          have hyx : y = if 100 * x < p * xs.sum then 0 else x := by
            have := hy.out
            rw [cutV_at hx.out] at this
            injection this with this
            exact this.symm
          clear hlen
          by_cases hlt3 : 100 * x < p * xs.sum
          · rw [if_pos hlt3] at hyx
            subst hyx
            go_wp2_with (go_at_call 19; refine (lawSum_any _ _ _ _ hi1 (by omega) hwd.out).mono ?_; rintro e w' ⟨rfl, rfl⟩)
            go_round
            case rel => exact ⟨k + 1, by omega, by go_num⟩
            case measure => simp [intOf]; omega
          · rw [if_neg hlt3] at hyx
            subst hyx
            have hne : (y != y) = false := by simp
            go_wp2_with (go_at_call 19; refine (lawSum_any _ _ _ _ hi1 (by omega) hwd.out).mono ?_; rintro e w' ⟨rfl, rfl⟩)
            go_round
            case rel => exact ⟨k + 1, by omega, by go_num⟩
            case measure => simp [intOf]; omega
        · obtain rfl : k = xs.length := by omega
          clear hlt hlen
          have hle : (((cutV xs p).length : Int) == (xs.length : Int)) = true := by simp [HLn.out]
          go_wp2
          go_ret
          exact ⟨rfl, below_drewN hB3 _⟩
  · have hbig : (1048576 : Int) < n := by omega
    clear hl
    go_enter Try.func3, Try.ntmps3
    go_wp2
    go_ret
    exact ⟨rfl, Below.refl _ _⟩
set_option maxRecDepth 100000 in
theorem FnHurdle_lifted (os : Os) (started : os.Started) (H : Type) (enc : TypeId × Value → H) :
    ReturnsInHanded {} Try.checked os 3 .any (Rows.fnHurdleSpec.pre6 enc Try.prog Try.f3 Rows.fnHurdleRow.domain false) (Rows.fnHurdleSpec.post enc Try.prog Try.f3 false true false false) := by
  refine returnsInHanded_of_change (C := Try.checked) Try.own started (by kernel_rfl) Try.func3
    (ChangeSpec.witness6 (enc := enc) (C := Try.checked) false ⟨#[], #[.slice none 0 0], []⟩ 8 (by kernel_rfl) (by kernel_rfl) (by kernel_rfl) (by kernel_rfl)) ?_
  intro W base args ds gs before hval0 hW hcnd _
  have hval : ∀ (j : Nat) t v, Try.f3.params[j]? = some t → args[j]? = some v → Value.okWide Try.prog W .any base t v := hval0
  have hW' := hW
  obtain ⟨p, q, hA0, hV, rfl, hfz, hnd⟩ := hW
  have hA : DataW.TrodAll enc Try.prog W 0 (fun _ => true) true Try.f3.params.toList args.toList ds p := hA0
  rw [Try.params3] at hA hval
  obtain ⟨v0, vs0, d0, ds0, p0, q0, hargs, rfl, rfl, h0, r0⟩ := trodAll_cons hA
  obtain ⟨rfl, rfl, rfl⟩ := trodAll_nil r0
  obtain rfl : args = #[v0] := by cases args; simp_all
  obtain ⟨rfl, rfl⟩ := trodVars_none hV
  have k0 := h0
  have lt0 : ∀ x ∈ p0, x.block < W.heap.size := by obtain ⟨m, hm⟩ := k0; exact DataW.trod_lt m _ _ _ hm
  obtain ⟨a0, z0, c0, rfl, w0⟩ := openByts (hval 0 22 v0 rfl rfl) h0
  clear hA0 hval0
  refine (FnHurdle_walk a0 z0 c0 W w0).mono fun e W' ⟨he, bel⟩ => ?_
  subst he
  exact ⟨_, rfl, _, _, _, [], _, [], hW', trodAll_mk1 (shut_bool Try.underlying4 _), (trodAll_cons_mk (Below.trod Try.laidOut (by kernel_rfl) (of_decide_eq_true (by kernel_rfl)) k0 bel lt0) trodAll_mk0), rfl, bel.frame _, fun h => by cases h⟩
/-- The given statement. -/
theorem FnHurdle_holds : Rows.FnHurdleSaid :=
  OpenClaim.holds_of_wide 3 Try.f3 rfl rfl rfl rfl rfl rfl rfl ⟨rfl, rfl, rfl, rfl, rfl⟩ rfl rfl rfl rfl rfl (by kernel_rfl) Try.func3 (by kernel_rfl)
    (of_decide_eq_true (by kernel_rfl)) (by unfold Func.isWrapper; first | (rw [if_pos (by decide +kernel)]; kernel_rfl) | (rw [if_neg (by decide +kernel)]; exact ⟨rfl, rfl⟩))
    (fun os started H enc _ => FnHurdle_lifted os started H enc)
end Go.Proofs.Ytcddfibohcgjbaa
