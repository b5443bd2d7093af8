/-
  For every code, the law FnSeatsNext returns true: the next seat goes to the greatest quotient, and equal ones are decided by lots. There are no conditions.
-/
import Derived.Test.YtimldfknbeiadaaNextQ
import Derived.Test.YtimldfknbeiadaaBefore
namespace Go.Proofs.Ytimldfknbeiadaa
open Go.ChangeShapes Go.WideShapes Go.ChangeAt Go.RowKit
set_option maxRecDepth 100000 in
set_option maxHeartbeats 3200000 in
theorem FnSeatsNext_walk (A : Option Addr) (n c : Nat) (w : World) (h : BytsA w A n c) :
    Calls Try.prog 8 #[.slice A n c] w (LawOk w) := by
  by_cases hl : n ≤ 1048576
  case neg =>
    have hbig : (1048576 : Int) < n := by omega
    clear hl
    go_enter Try.func8, Try.ntmps8
    go_wp2
    go_ret
    exact ⟨rfl, Below.refl _ _⟩
  go_enter Try.func8, Try.ntmps8
  go_wp2_with fail
  refine (drawNext_any _ _ _ _ h).mono ?_
  rintro e w1 ⟨A1, c1, xs, A2, c2, gs, m, A3, c3, ls, rfl, ⟨hx5, hox, hb1⟩, ⟨hg5, hog, _⟩, ⟨hl5, hol, _⟩⟩
  have cI := Lib.hid (fun (w : World) (h : Ints w A1 xs) (h' : Ints w A2 gs) (h2 : Ints w A3 ls) => implNext_any A1 A2 A3 xs gs ls c1 c2 c3 m w h h' h2 (by omega) (by omega) (by omega) hol.le_cap)
  have cS := Lib.hid (fun (w : World) (h : Ints w A1 xs) (h' : Ints w A2 gs) (h2 : Ints w A3 ls) => specNext_any A1 A2 A3 xs gs ls c1 c2 c3 m w h h' h2 (by omega) (by omega) (by omega) hol.le_cap)
  obtain ⟨r, hr⟩ : ∃ r, nextF xs gs m ls = r := ⟨_, rfl⟩
  rw [hr] at cI cS
  have HR := Lib.hid hr
  clear hr
  go_wp2_with fail
  refine (cI.out _ hox.ints hog.ints hol.ints).mono ?_
  rintro e w2 ⟨rfl, n2, rfl⟩
  go_wp2_with fail
  refine (cS.out _ (hox.drewN n2).ints (hog.drewN n2).ints (hol.drewN n2).ints).mono ?_
  rintro e w3 ⟨rfl, n3, rfl⟩
  have hB3 := below_drewN (below_drewN hb1 n2) n3
  have hox := (hox.drewN n2).drewN n3
  have hog := (hog.drewN n2).drewN n3
  have hol := (hol.drewN n2).drewN n3
  have hrr : (r != r) = false := by simp
  have hre : (r == r) = true := by simp
  clear cI cS
  generalize (w1.drewN n2).drewN n3 = w3 at *
  by_cases hr0 : 0 ≤ r
  case neg =>
    have hr1 : r < 0 := by omega
    clear hr0
    go_wp2
    go_ret
    exact ⟨rfl, hB3⟩
  obtain ⟨q, rfl, hv, hgv, hmv, hlv, hll, hno, hbest⟩ := next_true HR.out hr0
  clear hrr hre
  have hrr : ((q : Int) != (q : Int)) = false := by simp
  obtain ⟨a1, ⟨a2, a2'⟩, a3⟩ := vv_iff.1 hv
  obtain ⟨b1, b2, b3⟩ := gv_iff.1 hgv
  have hm12 := mv_iff.1 hmv
  have hm1 : 1 ≤ m := by omega
  have hm2 : m ≤ 2 := by omega
  have hgl : gs.length = xs.length := by omega
  have hqx := hbest.lt
  have hqg : q < gs.length := by omega
  have HV := Lib.hid hv
  have HG := Lib.hid hgv
  have HM := Lib.hid hmv
  have NO := Lib.hid hno
  have BE := Lib.hid hbest
  have HX := Lib.hid a1
  have HB := Lib.hid b1
  have HGL := Lib.hid hgl
  have HGS := Lib.hid b3
  have h0g : 0 < gs.length := by omega
  obtain ⟨ad, xq, rfl, hxq, hcq⟩ := hox.ints.at_ hqx
  obtain ⟨ad2, gq, rfl, hgq, hcgq⟩ := hog.ints.at_ hqg
  obtain ⟨xq0, xq1⟩ := HX.out xq (mem_of_at hxq.out)
  obtain ⟨gq0, gq1⟩ := HB.out gq (mem_of_at hgq.out)
  clear hv hgv hmv hlv hno hbest a1 b1 b2 b3 hgl hll hm12 a3

  have cB := Lib.hid (fun (x y : Int) (w : World) (h : Ints w A3 ls) => before_any A3 ls c3 x y w h (by omega))
  have i1 := hox.ints
  have i2 := hog.ints
  have i3 := hol.ints
  go_wp2
  go_loopw [9, 10, 11] (fun i _ _ wr => ∃ j m : Nat, j ≤ xs.length ∧ i = .int .i64 j ∧ wr = w3.drewN m) (fun i _ _ _ => xs.length - (intOf i).toNat)
  case atStart => exact ⟨0, 0, by omega, rfl, rfl⟩
  case round =>
    obtain ⟨j, m0, hj, rfl, rfl⟩ := hrel
    by_cases hlt : j < xs.length
    · have hk1 : j < gs.length := by have := HGL.out; omega
      obtain ⟨ad3, x, e3, hx, hc⟩ := i1.at_ hlt
      obtain rfl : ad = ad3 := by injection e3
      obtain ⟨ad4, g, e4, hg, hc2⟩ := i2.at_ hk1
      obtain rfl : ad2 = ad4 := by injection e4
      clear e3 e4
      obtain ⟨hx0, hx1⟩ := HX.out x (mem_of_at hx.out)
      obtain ⟨hg0, hg1⟩ := HB.out g (mem_of_at hg.out)
      have hge := BE.out.ge j hlt
      have hfi := BE.out.first j hlt
      rw [getD_of hx.out, getD_of hxq.out, getD_of hg.out, getD_of hgq.out] at hge hfi
      unfold dv at hge hfi
      obtain ⟨p0, p1⟩ := mul_bd (a := m) (b := g) (M := 2) (N := 20) ⟨by omega, hm2⟩ ⟨hg0, hg1⟩
      obtain ⟨p2, p3⟩ := mul_bd (a := m) (b := gq) (M := 2) (N := 20) ⟨by omega, hm2⟩ ⟨gq0, gq1⟩
      obtain ⟨p4, p5⟩ := mul_bd (a := xq) (b := m * g + 1) (M := 99) (N := 41) ⟨xq0, xq1⟩ ⟨by omega, by omega⟩
      obtain ⟨p6, p7⟩ := mul_bd (a := x) (b := m * gq + 1) (M := 99) (N := 41) ⟨hx0, hx1⟩ ⟨by omega, by omega⟩
      have u1 : IntKind.i64.wrap (m * g) = m * g := IntWalk.i64_in _ (by omega)
      have u2 : IntKind.i64.wrap (m * g + 1) = m * g + 1 := IntWalk.i64_in _ (by omega)
      have u3 : IntKind.i64.wrap (xq * (m * g + 1)) = xq * (m * g + 1) := IntWalk.i64_in _ (by omega)
      have u5 : IntKind.i64.wrap (m * gq) = m * gq := IntWalk.i64_in _ (by omega)
      have u6 : IntKind.i64.wrap (m * gq + 1) = m * gq + 1 := IntWalk.i64_in _ (by omega)
      have u7 : IntKind.i64.wrap (x * (m * gq + 1)) = x * (m * gq + 1) := IntWalk.i64_in _ (by omega)
      have cB := Lib.hid (cB.out (j : Int) (q : Int))
      obtain ⟨bb, hbb⟩ : ∃ bb, bef ls (j : Int) (q : Int) = bb := ⟨_, rfl⟩
      rw [hbb] at cB hfi
      clear hbb
      have HF := Lib.hid hfi
      have d1 : decide (xq * (m * g + 1) < x * (m * gq + 1)) = false := by simp; omega
      clear hfi
      by_cases he : x * (m * gq + 1) = xq * (m * g + 1)
      · have hbf : bb = false := HF.out he
        subst hbf
        have d2 : (xq * (m * g + 1) == x * (m * gq + 1)) = true := by simp; omega
        clear he
        go_wp2
        go_quiet (fail)
        go_wp2
        go_quiet (fail)
        clear u1 u2 u3 u5 u6 u7
        go_wp2_with (go_at_call 19; refine (cB.out _ (i3.drewN _)).mono ?_; rintro e w' ⟨rfl, rfl⟩)
        clear d1 d2
        go_roundw
        case rel =>
          first
            | exact ⟨j + 1, _, by omega, by go_num, rfl⟩
            | (repeat apply Exists.intro); exact ⟨⟨j + 1, _, by omega, by go_num, rfl⟩, rfl⟩
        case measure => simp [intOf]; omega
      · have d2 : (xq * (m * g + 1) == x * (m * gq + 1)) = false := by simp; omega
        clear he
        go_wp2
        go_quiet (fail)
        go_wp2
        go_quiet (fail)
        clear u1 u2 u3 u5 u6 u7
        go_wp2
        clear d1 d2
        go_roundw
        case rel =>
          first
            | exact ⟨j + 1, _, by omega, by go_num, rfl⟩
            | (repeat apply Exists.intro); exact ⟨⟨j + 1, _, by omega, by go_num, rfl⟩, rfl⟩
        case measure => simp [intOf]; omega
    · obtain rfl : j = xs.length := by omega
      clear hlt
      have hqi : (q : Int) < (xs.length : Int) := by omega
      go_wp2
      go_ret
      exact ⟨rfl, below_drewN hB3 _⟩
set_option maxRecDepth 100000 in
theorem FnSeatsNext_lifted (os : Os) (started : os.Started) (H : Type) (enc : TypeId × Value → H) :
    ReturnsInHanded {} Try.checked os 8 .any (Rows.fnSeatsNextSpec.pre6 enc Try.prog Try.f8 Rows.fnSeatsNextRow.domain false) (Rows.fnSeatsNextSpec.post enc Try.prog Try.f8 false true false false) := by
  refine returnsInHanded_of_change (C := Try.checked) Try.own started (by kernel_rfl) Try.func8
    (ChangeSpec.witness6 (enc := enc) (C := Try.checked) false ⟨#[], #[.slice none 0 0], []⟩ 8 (by kernel_rfl) (by kernel_rfl) (by kernel_rfl) (by kernel_rfl)) ?_
  intro W base args ds gs before hval0 hW hcnd _
  have hval : ∀ (j : Nat) t v, Try.f8.params[j]? = some t → args[j]? = some v → Value.okWide Try.prog W .any base t v := hval0
  have hW' := hW
  obtain ⟨p, q, hA0, hV, rfl, hfz, hnd⟩ := hW
  have hA : DataW.TrodAll enc Try.prog W 0 (fun _ => true) true Try.f8.params.toList args.toList ds p := hA0
  rw [Try.params8] at hA hval
  obtain ⟨v0, vs0, d0, ds0, p0, q0, hargs, rfl, rfl, h0, r0⟩ := trodAll_cons hA
  obtain ⟨rfl, rfl, rfl⟩ := trodAll_nil r0
  obtain rfl : args = #[v0] := by cases args; simp_all
  obtain ⟨rfl, rfl⟩ := trodVars_none hV
  have k0 := h0
  have lt0 : ∀ x ∈ p0, x.block < W.heap.size := by obtain ⟨m, hm⟩ := k0; exact DataW.trod_lt m _ _ _ hm
  obtain ⟨a0, z0, c0, rfl, w0⟩ := openByts (hval 0 22 v0 rfl rfl) h0
  clear hA0 hval0
  refine (FnSeatsNext_walk a0 z0 c0 W w0).mono fun e W' ⟨he, bel⟩ => ?_
  subst he
  exact ⟨_, rfl, _, _, _, [], _, [], hW', trodAll_mk1 (shut_bool Try.underlying4 _), (trodAll_cons_mk (Below.trod Try.laidOut (by kernel_rfl) (of_decide_eq_true (by kernel_rfl)) k0 bel lt0) trodAll_mk0), rfl, bel.frame _, fun h => by cases h⟩
/-- The given statement. -/
theorem FnSeatsNext_holds : Rows.FnSeatsNextSaid :=
  OpenClaim.holds_of_wide 8 Try.f8 rfl rfl rfl rfl rfl rfl rfl ⟨rfl, rfl, rfl, rfl, rfl⟩ rfl rfl rfl rfl rfl (by kernel_rfl) Try.func8 (by kernel_rfl)
    (of_decide_eq_true (by kernel_rfl)) (by unfold Func.isWrapper; first | (rw [if_pos (by decide +kernel)]; kernel_rfl) | (rw [if_neg (by decide +kernel)]; exact ⟨rfl, rfl⟩))
    (fun os started H enc _ => FnSeatsNext_lifted os started H enc)
end Go.Proofs.Ytimldfknbeiadaa
