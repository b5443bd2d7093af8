/-
  For every code, the law FnRemainderOrder returns true: greater remainders come first, and equal ones by lots. There are no conditions.
-/
import Derived.Test.YtimldfknbeiadaaRemQ
import Derived.Test.YtimldfknbeiadaaBefore
namespace Go.Proofs.Ytimldfknbeiadaa
open Go.ChangeShapes Go.WideShapes Go.ChangeAt Go.RowKit
set_option maxRecDepth 100000 in
set_option maxHeartbeats 3200000 in
theorem FnRemainderOrder_walk (A : Option Addr) (n c : Nat) (w : World) (h : BytsA w A n c) :
    Calls Try.prog 7 #[.slice A n c] w (LawOk w) := by
  by_cases hl : n ≤ 1048576
  case neg =>
    have hbig : (1048576 : Int) < n := by omega
    clear hl
    go_enter Try.func7, Try.ntmps7
    go_wp2
    go_ret
    exact ⟨rfl, Below.refl _ _⟩
  go_enter Try.func7, Try.ntmps7
  go_wp2_with fail
  refine (drawRemainder_any _ _ _ _ h).mono ?_
  rintro e w1 ⟨A1, c1, xs, s, A2, c2, ls, rfl, ⟨hx5, hox, hb1⟩, ⟨hl5, hol, _⟩⟩
  have hcap := hol.le_cap
  have cI := Lib.hid (implRem_any A1 A2 xs ls c1 c2 s _ hox.ints hol.ints (by omega) (by omega) hol.le_cap)
  have cS := Lib.hid (fun (w : World) (h : Ints w A1 xs) (h2 : Ints w A2 ls) => specRem_any A1 A2 xs ls c1 c2 s w h h2 (by omega) (by omega) hol.le_cap)
  have hyl := remF_len hx5 s ls
  obtain ⟨r, hr⟩ : ∃ r, remF xs s ls = r := ⟨_, rfl⟩
  rw [hr] at cI cS hyl
  obtain ⟨ys, b⟩ := r
  have hyl : ys.length ≤ 5 := by have : ys.length ≤ 5 := hyl; exact this
  have hself : (ys == ys) = true := by simp
  have HR := Lib.hid hr
  clear hr
  go_wp2_with fail
  refine cI.out.mono ?_
  rintro e w2 ⟨A3, c3, rfl, ho3, hb2⟩
  go_wp2_with fail
  refine (cS.out _ (hox.below hb2).ints (hol.below hb2).ints).mono ?_
  rintro e w3 ⟨A4, c4, rfl, ho4, hb3⟩
  have hB2 := hb1.trans (hb2.mono hb1.size)
  have hB3 := hB2.trans (hb3.mono hB2.size)
  have ho3 := ho3.below hb3
  have hox := (hox.below hb2).below hb3
  have hol := (hol.below hb2).below hb3
  clear cS hB2
  go_wp2_with fail
  refine (lawSame_any _ _ _ _ _ _ _ ho3.ints ho4.ints (by show ys.length ≤ _; omega) (by show ys.length ≤ _; omega)).mono ?_
  rintro e w4 ⟨rfl, n4, rfl⟩
  have hB3 := below_drewN hB3 n4
  have ho3 := ho3.drewN n4
  have ho4 := ho4.drewN n4
  have hox := hox.drewN n4
  have hol := hol.drewN n4
  clear hb2 hb3
  generalize w3.drewN n4 = w4 at *
  cases b
  case false =>
    go_wp2_with fail
    refine (lawSame_any _ _ _ _ _ _ _ ho3.ints ho4.ints (by show ys.length ≤ _; omega) (by show ys.length ≤ _; omega)).mono ?_
    rintro e w5 ⟨rfl, n5, rfl⟩
    go_wp2
    go_ret
    exact ⟨rfl, below_drewN hB3 _⟩
  obtain ⟨hC, hys⟩ := remF_true HR.out
  obtain ⟨rOk, hvv⟩ := remOk_of hC
  have RF := Lib.hid (hys ▸ rOk.fin)
  have RO := Lib.hid rOk
  have HV := Lib.hid hvv
  obtain ⟨hs0, hs1⟩ := rOk.hs
  clear hC hys rOk hvv
  obtain ⟨a1, ⟨a2, a2'⟩, a3⟩ := vv_iff.1 HV.out
  have HX := Lib.hid a1
  have HW := Lib.hid (wide' a1 (by omega))
  have hT5 := sum_bd xs 99 (fun x hx => by have := a1 x hx; omega)
  have hT : xs.sum ≤ 495 := by omega
  have HYL := Lib.hid RF.out.len
  have HYB := Lib.hid RF.out.bd
  have i1 := hox.ints
  have i3 := ho3.ints
  clear a1 hT5
  have HO := Lib.hid (fun i k hi hk => rem_order RF.out (i := i) (k := k) hi hk)
  have cB := Lib.hid (fun (x y : Int) (w : World) (h : Ints w A2 ls) => before_any A2 ls c2 x y w h (by omega))
  have i2 := hol.ints
  have hTz : ¬ xs.sum = 0 := by omega
  go_wp2_with (go_at_call 23; refine (lawSum_any _ _ _ _ i1 (by omega) HW.out).mono ?_; rintro e w' ⟨rfl, rfl⟩)
  go_loopw [11, 12] (fun i _ wr => ∃ j m : Nat, j ≤ xs.length ∧ i = .int .i64 j ∧ wr = w4.drewN m) (fun i _ _ => xs.length - (intOf i).toNat)
  case atStart => exact ⟨0, 0, by omega, rfl, rfl⟩
  case round =>
    obtain ⟨j, m0, hj, rfl, rfl⟩ := hrel
    by_cases hlt : j < xs.length
    · have hk1 : j < ys.length := by have := HYL.out; omega
      obtain ⟨ad, x, rfl, hx, hc⟩ := i1.at_ hlt
      obtain ⟨ad2, y, rfl, hy, hc2⟩ := i3.at_ hk1
      obtain ⟨hx0, hx1⟩ := HX.out x (mem_of_at hx.out)
      obtain ⟨hy0, hy1⟩ := HYB.out y (mem_of_at hy.out)
      go_wp2
      go_loopw [12] (fun i wr => ∃ k2 m : Nat, k2 ≤ xs.length ∧ i = .int .i64 k2 ∧ wr = w4.drewN m) (fun i _ => xs.length - (intOf i).toNat)
      case atStart => exact ⟨0, _, by omega, rfl, rfl⟩
      case round =>
        obtain ⟨l, m1, hl2, rfl, rfl⟩ := hrel
        by_cases hlt2 : l < xs.length
        · have hk2 : l < ys.length := by have := HYL.out; omega
          obtain ⟨ad3, x2, e3, hx2, hc3⟩ := i1.at_ hlt2
          obtain rfl : ad = ad3 := by injection e3
          obtain ⟨ad4, y2, e4, hy2, hc4⟩ := i3.at_ hk2
          obtain rfl : ad2 = ad4 := by injection e4
          clear e3 e4
          obtain ⟨hx20, hx21⟩ := HX.out x2 (mem_of_at hx2.out)
          obtain ⟨hz0, hz1⟩ := HYB.out y2 (mem_of_at hy2.out)
          have O1 := HO.out j l hlt hlt2
          rw [getD_of hx.out, getD_of hy.out, getD_of hx2.out, getD_of hy2.out] at O1
          obtain ⟨p0, p1⟩ := mul_bd (a := x) (b := s) (M := 99) (N := 20) ⟨hx0, hx1⟩ ⟨hs0, hs1⟩
          obtain ⟨p2, p3⟩ := mul_bd (a := x2) (b := s) (M := 99) (N := 20) ⟨hx20, hx21⟩ ⟨hs0, hs1⟩
          obtain ⟨q, hq, q0, q1⟩ := quo_of p0 p1 a3
          obtain ⟨q', hq', q0', q1'⟩ := quo_of p2 p3 a3
          obtain ⟨r, hr, r0, r1⟩ := rem_of p0 a3
          obtain ⟨r', hr', r0', r1'⟩ := rem_of p2 a3
          rw [hq, hq', hr, hr'] at O1
          have t1 : Int.tdiv (x * s) xs.sum = q := by rw [Int.tdiv_eq_ediv_of_nonneg p0]; exact hq
          have t2 : Int.tdiv (x2 * s) xs.sum = q' := by rw [Int.tdiv_eq_ediv_of_nonneg p2]; exact hq'
          have O1 := Lib.hid O1
          have cB := Lib.hid (cB.out (l : Int) (j : Int))
          obtain ⟨bb, hbb⟩ : ∃ bb, bef ls (l : Int) (j : Int) = bb := ⟨_, rfl⟩
          rw [hbb] at cB
          have HBB := Lib.hid hbb
          have u1 : IntKind.i64.wrap (x * s) = x * s := IntWalk.i64_in _ (by omega)
          have u2 : IntKind.i64.wrap (x2 * s) = x2 * s := IntWalk.i64_in _ (by omega)
          have u3 : IntKind.i64.wrap q = q := IntWalk.i64_in _ (by omega)
          have u4 : IntKind.i64.wrap q' = q' := IntWalk.i64_in _ (by omega)
          clear hbb hq hq'
          by_cases g1 : q < y
          · have d1 : decide (q < y) = true := by simp; omega
            by_cases g2 : y2 = q'
            · subst g2
              have d2 : (y2 == y2) = true := by simp
              obtain ⟨o1, o2⟩ := O1.out g1 rfl
              have d3 : decide (r < r') = false := by simp; omega
              by_cases g3 : r' = r
              · have d4 : (r == r') = true := by simp; omega
                have hbf : bb = false := by rw [← HBB.out]; exact o2 g3
                subst hbf
                clear o2 g3
                go_wp2
                go_quiet (fail)
                go_wp2
                go_quiet (fail)
                clear u1 u2 u3 u4 t1 t2 d1 d2
                go_wp2_with (go_at_call 19; refine (cB.out _ (i2.drewN _)).mono ?_; rintro e w' ⟨rfl, rfl⟩)
                clear hr hr' d3 d4
                go_wp2
                go_roundw
                case rel =>
                  first
                    | exact ⟨l + 1, _, by omega, by go_num, rfl⟩
                    | (repeat apply Exists.intro); exact ⟨⟨l + 1, _, by omega, by go_num, rfl⟩, rfl⟩
                case measure => simp [intOf]; omega
              · have d4 : (r == r') = false := by simp; omega
                clear o2 g3
                go_wp2
                go_quiet (fail)
                go_wp2
                go_quiet (fail)
                clear u1 u2 u3 u4 t1 t2 d1 d2
                go_wp2
                clear hr hr' d3 d4
                go_wp2
                go_roundw
                case rel =>
                  first
                    | exact ⟨l + 1, _, by omega, by go_num, rfl⟩
                    | (repeat apply Exists.intro); exact ⟨⟨l + 1, _, by omega, by go_num, rfl⟩, rfl⟩
                case measure => simp [intOf]; omega
            · have d2 : (y2 == q') = false := by simp; omega
              clear g2
              go_wp2
              go_quiet (fail)
              go_wp2
              go_quiet (fail)
              clear u1 u2 u3 u4 t1 t2 d1 d2
              go_wp2
              clear hr hr'
              go_wp2
              go_roundw
              case rel =>
                first
                  | exact ⟨l + 1, _, by omega, by go_num, rfl⟩
                  | (repeat apply Exists.intro); exact ⟨⟨l + 1, _, by omega, by go_num, rfl⟩, rfl⟩
              case measure => simp [intOf]; omega
          · have d1 : decide (q < y) = false := by simp; omega
            cases d2 : (y2 == q')
            · go_wp2
              go_quiet (fail)
              go_wp2
              go_quiet (fail)
              clear u1 u2 u3 u4 t1 t2 d1 d2
              go_wp2
              clear hr hr'
              go_wp2
              go_roundw
              case rel =>
                first
                  | exact ⟨l + 1, _, by omega, by go_num, rfl⟩
                  | (repeat apply Exists.intro); exact ⟨⟨l + 1, _, by omega, by go_num, rfl⟩, rfl⟩
              case measure => simp [intOf]; omega
            · go_wp2
              go_quiet (fail)
              go_wp2
              go_quiet (fail)
              clear u1 u2 u3 u4 t1 t2 d1 d2
              go_wp2
              clear hr hr'
              go_wp2
              go_roundw
              case rel =>
                first
                  | exact ⟨l + 1, _, by omega, by go_num, rfl⟩
                  | (repeat apply Exists.intro); exact ⟨⟨l + 1, _, by omega, by go_num, rfl⟩, rfl⟩
              case measure => simp [intOf]; omega
        · obtain rfl : l = xs.length := by omega
          clear hlt2
          go_wp2
          go_roundw
          case rel =>
            first
              | exact ⟨j + 1, _, by omega, by go_num, rfl⟩
              | (repeat apply Exists.intro); exact ⟨⟨j + 1, _, by omega, by go_num, rfl⟩, rfl⟩
          case measure => simp [intOf]; omega
    · obtain rfl : j = xs.length := by omega
      clear hlt
      go_wp2
      go_ret
      exact ⟨rfl, below_drewN hB3 _⟩
set_option maxRecDepth 100000 in
theorem FnRemainderOrder_lifted (os : Os) (started : os.Started) (H : Type) (enc : TypeId × Value → H) :
    ReturnsInHanded {} Try.checked os 7 .any (Rows.fnRemainderOrderSpec.pre6 enc Try.prog Try.f7 Rows.fnRemainderOrderRow.domain false) (Rows.fnRemainderOrderSpec.post enc Try.prog Try.f7 false true false false) := by
  refine returnsInHanded_of_change (C := Try.checked) Try.own started (by kernel_rfl) Try.func7
    (ChangeSpec.witness6 (enc := enc) (C := Try.checked) false ⟨#[], #[.slice none 0 0], []⟩ 8 (by kernel_rfl) (by kernel_rfl) (by kernel_rfl) (by kernel_rfl)) ?_
  intro W base args ds gs before hval0 hW hcnd _
  have hval : ∀ (j : Nat) t v, Try.f7.params[j]? = some t → args[j]? = some v → Value.okWide Try.prog W .any base t v := hval0
  have hW' := hW
  obtain ⟨p, q, hA0, hV, rfl, hfz, hnd⟩ := hW
  have hA : DataW.TrodAll enc Try.prog W 0 (fun _ => true) true Try.f7.params.toList args.toList ds p := hA0
  rw [Try.params7] at hA hval
  obtain ⟨v0, vs0, d0, ds0, p0, q0, hargs, rfl, rfl, h0, r0⟩ := trodAll_cons hA
  obtain ⟨rfl, rfl, rfl⟩ := trodAll_nil r0
  obtain rfl : args = #[v0] := by cases args; simp_all
  obtain ⟨rfl, rfl⟩ := trodVars_none hV
  have k0 := h0
  have lt0 : ∀ x ∈ p0, x.block < W.heap.size := by obtain ⟨m, hm⟩ := k0; exact DataW.trod_lt m _ _ _ hm
  obtain ⟨a0, z0, c0, rfl, w0⟩ := openByts (hval 0 22 v0 rfl rfl) h0
  clear hA0 hval0
  refine (FnRemainderOrder_walk a0 z0 c0 W w0).mono fun e W' ⟨he, bel⟩ => ?_
  subst he
  exact ⟨_, rfl, _, _, _, [], _, [], hW', trodAll_mk1 (shut_bool Try.underlying4 _), (trodAll_cons_mk (Below.trod Try.laidOut (by kernel_rfl) (of_decide_eq_true (by kernel_rfl)) k0 bel lt0) trodAll_mk0), rfl, bel.frame _, fun h => by cases h⟩
/-- The given statement. -/
theorem FnRemainderOrder_holds : Rows.FnRemainderOrderSaid :=
  OpenClaim.holds_of_wide 7 Try.f7 rfl rfl rfl rfl rfl rfl rfl ⟨rfl, rfl, rfl, rfl, rfl⟩ rfl rfl rfl rfl rfl (by kernel_rfl) Try.func7 (by kernel_rfl)
    (of_decide_eq_true (by kernel_rfl)) (by unfold Func.isWrapper; first | (rw [if_pos (by decide +kernel)]; kernel_rfl) | (rw [if_neg (by decide +kernel)]; exact ⟨rfl, rfl⟩))
    (fun os started H enc _ => FnRemainderOrder_lifted os started H enc)
end Go.Proofs.Ytimldfknbeiadaa
