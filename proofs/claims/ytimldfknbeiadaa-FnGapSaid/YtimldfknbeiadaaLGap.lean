/-
  For every code, the law FnGap returns true: gaps are even, and 0 for exact shares alone. There are no conditions.
-/
import Derived.Test.YtimldfknbeiadaaGapP
import Derived.Test.YtimldfknbeiadaaDrawH
import Derived.Test.YtimldfknbeiadaaGap
import Derived.Test.YtimldfknbeiadaaFair
namespace Go.Proofs.Ytimldfknbeiadaa
open Go.ChangeShapes Go.WideShapes Go.ChangeAt Go.RowKit
set_option maxRecDepth 100000 in
set_option maxHeartbeats 3200000 in
theorem FnGap_walk (A : Option Addr) (n c : Nat) (w : World) (h : BytsA w A n c) :
    Calls Try.prog 11 #[.slice A n c] w (LawOk w) := by
  by_cases hl : n ≤ 1048576
  case neg =>
    have hbig : (1048576 : Int) < n := by omega
    clear hl
    go_enter Try.func11, Try.ntmps11
    go_wp2
    go_ret
    exact ⟨rfl, Below.refl _ _⟩
  go_enter Try.func11, Try.ntmps11
  go_wp2_with fail
  refine (drawGap_any _ _ _ _ h).mono ?_
  rintro e w1 ⟨A1, c1, xs, A2, c2, gs, rfl, ⟨hx5, hox, hb1⟩, ⟨hg5, hog, _⟩, hbd⟩
  have cI := Lib.hid (fun (w : World) (h : Ints w A1 xs) (h' : Ints w A2 gs) => implGap_any A1 A2 xs gs c1 c2 w h h' (by omega) (by omega))
  have cS := Lib.hid (fun (w : World) (h : Ints w A1 xs) (h' : Ints w A2 gs) => specGap_any A1 A2 xs gs c1 c2 w h h' (by omega) (by omega))
  obtain ⟨r, hr⟩ : ∃ r, gapF xs gs = r := ⟨_, rfl⟩
  rw [hr] at cI cS
  have HR := Lib.hid hr
  clear hr
  go_wp2_with fail
  refine (cI.out _ hox.ints hog.ints).mono ?_
  rintro e w2 ⟨rfl, hb2⟩
  have hB2 := hb1.trans (hb2.mono hb1.size)
  have hox := hox.below hb2
  have hog := hog.below hb2
  go_wp2_with fail
  refine (cS.out _ hox.ints hog.ints).mono ?_
  rintro e w3 ⟨rfl, hb3⟩
  have hB3 := hB2.trans (hb3.mono hB2.size)
  have hox := hox.below hb3
  have hog := hog.below hb3
  clear cI cS hb2 hb3 hB2
  have hrr : (r != r) = false := by simp
  have hre : (r == r) = true := by simp
  by_cases hr0 : 0 ≤ r
  case neg =>
    have hr1 : r < 0 := by omega
    clear hr0
    go_wp2
    go_ret
    exact ⟨rfl, hB3⟩
  obtain ⟨hv, hgv, hrv⟩ := gapF_pos HR.out hr0
  obtain ⟨hlen, ⟨hx1, _⟩, ⟨hs0, hs1⟩, ⟨hg0, hg1⟩, hxb, hgb⟩ := valid_facts hv hgv
  have HL := Lib.hid hlen
  have HX := Lib.hid hxb
  have HG := Lib.hid hgb
  have HXW := Lib.hid (wide' hxb (by omega))
  have HGW := Lib.hid (wide' hgb (by omega))
  have hgb5 := gapL_bd (diffs xs gs) 10000 (diffs_bd hv hgv)
  rw [← hrv, diffs_length hlen] at hgb5
  have hr9 : r ≤ 50000 := by omega
  have hr2 : (r % 2 == 0) = true := by
    have h1 := gap_mod (diffs xs gs)
    rw [diffs_sum hlen, ← hrv] at h1
    simpa using h1
  have HE := Lib.hid (show (r == 0) = exactB xs gs xs.length from by rw [hrv]; exact gap_exact hlen)
  have i1 := hox.ints
  have i2 := hog.ints
  have cA := Lib.hid (fun (w : World) (h : Ints w A1 xs) => lawSum_any A1 xs c1 w h (by omega) HXW.out)
  have cB := Lib.hid (fun (w : World) (h : Ints w A2 gs) => lawSum_any A2 gs c2 w h (by omega) HGW.out)
  clear hv hgv hrv hgb5 hlen hxb hgb
  go_wp2
  go_loopw [7, 8] (fun b i wr => ∃ (j m : Nat) (bb : Bool), j ≤ xs.length ∧ i = .int .i64 j ∧ b = .bool bb ∧ Hid (bb = exactB xs gs j) ∧ wr = w3.drewN m) (fun _ i _ => xs.length - (intOf i).toNat)
  case atStart => exact ⟨0, 0, true, by omega, rfl, rfl, rfl, rfl⟩
  case round =>
    obtain ⟨j, m, bb, hj, rfl, rfl, hbb, rfl⟩ := hrel
    by_cases hlt : j < xs.length
    · have hk1 : j < gs.length := by have := HL.out; omega
      obtain ⟨ad, x, rfl, hx, hc⟩ := i1.at_ hlt
      obtain ⟨ad2, g, rfl, hg, hc2⟩ := i2.at_ hk1
      obtain ⟨hx0, hx9⟩ := HX.out x (mem_of_at hx.out)
      obtain ⟨hg2, hg3⟩ := HG.out g (mem_of_at hg.out)
      have HS := Lib.hid (exactB_snoc hx.out hg.out)
      obtain ⟨p0, p1⟩ := mul_bd (a := g) (b := xs.sum) (M := 20) (N := 495) ⟨hg2, hg3⟩ ⟨by omega, hs1⟩
      obtain ⟨p2, p3⟩ := mul_bd (a := x) (b := gs.sum) (M := 99) (N := 20) ⟨hx0, hx9⟩ ⟨hg0, hg1⟩
      cases bb
      · go_wp2
        go_quiet (fail)
        go_wp2
        go_roundw
        case rel => exact ⟨j + 1, _, _, by omega, by go_num, rfl, by show _ = _; rw [HS.out, ← hbb.out]; rfl, rfl⟩
        case measure => simp [intOf]; omega
      · have u1 : IntKind.i64.wrap (g * xs.sum) = g * xs.sum := IntWalk.i64_in _ (by omega)
        have u2 : IntKind.i64.wrap (x * gs.sum) = x * gs.sum := IntWalk.i64_in _ (by omega)
        cases hxm : (g * xs.sum == x * gs.sum)
        all_goals
          go_wp2
          go_quiet ((go_at_call 23; first | (with_reducible exact Ret.quiet_add (cA.out _ (i1.drewN _))) | (with_reducible exact Ret.quiet_add (cB.out _ (i2.drewN _)))))
          clear u1 u2
          go_wp2
          go_roundw
          case rel => exact ⟨j + 1, _, _, by omega, by go_num, rfl, by show _ = _; rw [HS.out, ← hbb.out, hxm]; rfl, rfl⟩
          case measure => simp [intOf]; omega
    · obtain rfl : j = xs.length := by omega
      clear hlt
      have hz : (r == 0) = bb := by rw [HE.out, hbb.out]
      clear hrr hre
      cases bb
      · go_wp2
        go_ret
        exact ⟨rfl, below_drewN hB3 _⟩
      · have hr00 : r = 0 := by simpa using hz
        subst hr00
        clear hz
        go_wp2
        go_ret
        exact ⟨rfl, below_drewN hB3 _⟩
set_option maxRecDepth 100000 in
theorem FnGap_lifted (os : Os) (started : os.Started) (H : Type) (enc : TypeId × Value → H) :
    ReturnsInHanded {} Try.checked os 11 .any (Rows.fnGapSpec.pre6 enc Try.prog Try.f11 Rows.fnGapRow.domain false) (Rows.fnGapSpec.post enc Try.prog Try.f11 false true false false) := by
  refine returnsInHanded_of_change (C := Try.checked) Try.own started (by kernel_rfl) Try.func11
    (ChangeSpec.witness6 (enc := enc) (C := Try.checked) false ⟨#[], #[.slice none 0 0], []⟩ 8 (by kernel_rfl) (by kernel_rfl) (by kernel_rfl) (by kernel_rfl)) ?_
  intro W base args ds gs before hval0 hW hcnd _
  have hval : ∀ (j : Nat) t v, Try.f11.params[j]? = some t → args[j]? = some v → Value.okWide Try.prog W .any base t v := hval0
  have hW' := hW
  obtain ⟨p, q, hA0, hV, rfl, hfz, hnd⟩ := hW
  have hA : DataW.TrodAll enc Try.prog W 0 (fun _ => true) true Try.f11.params.toList args.toList ds p := hA0
  rw [Try.params11] at hA hval
  obtain ⟨v0, vs0, d0, ds0, p0, q0, hargs, rfl, rfl, h0, r0⟩ := trodAll_cons hA
  obtain ⟨rfl, rfl, rfl⟩ := trodAll_nil r0
  obtain rfl : args = #[v0] := by cases args; simp_all
  obtain ⟨rfl, rfl⟩ := trodVars_none hV
  have k0 := h0
  have lt0 : ∀ x ∈ p0, x.block < W.heap.size := by obtain ⟨m, hm⟩ := k0; exact DataW.trod_lt m _ _ _ hm
  obtain ⟨a0, z0, c0, rfl, w0⟩ := openByts (hval 0 22 v0 rfl rfl) h0
  clear hA0 hval0
  refine (FnGap_walk a0 z0 c0 W w0).mono fun e W' ⟨he, bel⟩ => ?_
  subst he
  exact ⟨_, rfl, _, _, _, [], _, [], hW', trodAll_mk1 (shut_bool Try.underlying4 _), (trodAll_cons_mk (Below.trod Try.laidOut (by kernel_rfl) (of_decide_eq_true (by kernel_rfl)) k0 bel lt0) trodAll_mk0), rfl, bel.frame _, fun h => by cases h⟩
/-- The given statement. -/
theorem FnGap_holds : Rows.FnGapSaid :=
  OpenClaim.holds_of_wide 11 Try.f11 rfl rfl rfl rfl rfl rfl rfl ⟨rfl, rfl, rfl, rfl, rfl⟩ rfl rfl rfl rfl rfl (by kernel_rfl) Try.func11 (by kernel_rfl)
    (of_decide_eq_true (by kernel_rfl)) (by unfold Func.isWrapper; first | (rw [if_pos (by decide +kernel)]; kernel_rfl) | (rw [if_neg (by decide +kernel)]; exact ⟨rfl, rfl⟩))
    (fun os started H enc _ => FnGap_lifted os started H enc)
end Go.Proofs.Ytimldfknbeiadaa
