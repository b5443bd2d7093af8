/-
  For every code, the law FnGapRemainder returns true: remainders have the least gap. There are no conditions.
-/
import Derived.Test.YtimldfknbeiadaaGapP
import Derived.Test.YtimldfknbeiadaaDrawH
import Derived.Test.YtimldfknbeiadaaGap
import Derived.Test.YtimldfknbeiadaaDel
import Derived.Test.YtimldfknbeiadaaGapQ
namespace Go.Proofs.Ytimldfknbeiadaa
open Go.ChangeShapes Go.WideShapes Go.ChangeAt Go.RowKit
set_option maxRecDepth 100000 in
set_option maxHeartbeats 3200000 in
theorem FnGapRemainder_walk (A : Option Addr) (n c : Nat) (w : World) (h : BytsA w A n c) :
    Calls Try.prog 14 #[.slice A n c] w (LawOk w) := by
  by_cases hl : n ≤ 1048576
  case neg =>
    have hbig : (1048576 : Int) < n := by omega
    clear hl
    go_enter Try.func14, Try.ntmps14
    go_wp2
    go_ret
    exact ⟨rfl, Below.refl _ _⟩
  go_enter Try.func14, Try.ntmps14
  go_wp2_with fail
  refine (drawGap_any _ _ _ _ h).mono ?_
  rintro e w1 ⟨A1, c1, xs, A2, c2, gs, rfl, ⟨hx5, hox, hb1⟩, ⟨hg5, hog, _⟩, hbd⟩
  have cI := Lib.hid (fun (w : World) (h : Ints w A1 xs) (h' : Ints w A2 gs) => implGap_any A1 A2 xs gs c1 c2 w h h' (by omega) (by omega))
  have cS := Lib.hid (fun (w : World) (h : Ints w A1 xs) (h' : Ints w A2 gs) => specGap_any A1 A2 xs gs c1 c2 w h h' (by omega) (by omega))
  obtain ⟨r, hr⟩ : ∃ r, gapF xs gs = r := ⟨_, rfl⟩
  rw [hr] at cI cS
  have HR := Lib.hid hr
  clear hr
  go_wp2_with fail
  refine (cI.out _ hox.ints hog.ints).mono ?_
  rintro e w2 ⟨rfl, hb2⟩
  have hB2 := hb1.trans (hb2.mono hb1.size)
  have hox := hox.below hb2
  have hog := hog.below hb2
  go_wp2_with fail
  refine (cS.out _ hox.ints hog.ints).mono ?_
  rintro e w3 ⟨rfl, hb3⟩
  have hB3 := hB2.trans (hb3.mono hB2.size)
  have hox := hox.below hb3
  have hog := hog.below hb3
  clear cI cS hb2 hb3 hB2
  have hrr : (r != r) = false := by simp
  have hre : (r == r) = true := by simp
  by_cases hr0 : 0 ≤ r
  case neg =>
    have hr1 : r < 0 := by omega
    clear hr0
    go_wp2
    go_ret
    exact ⟨rfl, hB3⟩
  obtain ⟨hv, hgv, hrv⟩ := gapF_pos HR.out hr0
  obtain ⟨hlen, ⟨hx1, _⟩, ⟨hs0, hs1⟩, ⟨hg0, hg1⟩, hxb, hgb⟩ := valid_facts hv hgv
  have HL := Lib.hid hlen
  have HX := Lib.hid hxb
  have HG := Lib.hid hgb
  have HXW := Lib.hid (wide' hxb (by omega))
  have HGW := Lib.hid (wide' hgb (by omega))
  obtain ⟨ys, hrem, ⟨hF, hO⟩, hyv⟩ := rem_iota hv hgv
  have hyl := hF.len
  have hle := gap_least hF hO hlen
  have cX := Lib.hid (fun (A : Option Addr) (c : Nat) (w : World) (h : Ints w A1 xs) (h2 : Ints w A (iota xs.length)) (hc : (iota xs.length).length ≤ c) => implRem_any A1 A xs (iota xs.length) c1 c gs.sum w h h2 (by omega) (by rw [iota_len]; omega) hc)
  rw [hrem, iota_len] at cX
  have cY := Lib.hid (fun (A : Option Addr) (c : Nat) (w : World) (h : Ints w A1 xs) (h' : Ints w A ys) => implGap_any A1 A xs ys c1 c w h h' (by omega) (by omega))
  rw [gapF_val hv hyv] at cY
  rw [← hrv] at hle
  have cB := Lib.hid (fun (w : World) (h : Ints w A2 gs) => lawSum_any A2 gs c2 w h (by omega) HGW.out)
  obtain ⟨k, hk⟩ : ∃ k, k = gapL (diffs xs ys) := ⟨_, rfl⟩
  have hk0 : 0 ≤ k := by rw [hk]; exact gapL_nn _
  rw [← hk] at cY hle
  have HYL := Lib.hid hyl
  clear hk hv hgv hrv hrem hF hO hyv hlen hxb hgb hyl hrr hre
  go_wp2_with fail
  refine (implLots0_any xs.length _ (by omega) (by omega)).mono ?_
  rintro e w4 ⟨B4, d4, rfl, ho4, hb4⟩
  have hB4 := hB3.trans (hb4.mono hB3.size)
  have hox := hox.below hb4
  have hog := hog.below hb4
  have hcap4 := ho4.2.le_cap
  rw [iota_len] at hcap4
  go_wp2_with (go_at_call 23; refine (cB.out _ hog.ints).mono ?_; rintro e w' ⟨rfl, rfl⟩)
  refine (cX.out _ _ _ hox.ints ho4.2.ints hcap4).mono ?_
  rintro e w5 ⟨B5, d5, rfl, ho5, hb5⟩
  have hB5 := hB4.trans (hb5.mono hB4.size)
  have hox := hox.below hb5
  go_wp2_with fail
  refine (cY.out _ _ _ hox.ints ho5.ints).mono ?_
  rintro e w6 ⟨rfl, hb6⟩
  have hB6 := hB5.trans (hb6.mono hB5.size)
  go_wp2
  go_ret
  exact ⟨rfl, hB6⟩
set_option maxRecDepth 100000 in
theorem FnGapRemainder_lifted (os : Os) (started : os.Started) (H : Type) (enc : TypeId × Value → H) :
    ReturnsInHanded {} Try.checked os 14 .any (Rows.fnGapRemainderSpec.pre6 enc Try.prog Try.f14 Rows.fnGapRemainderRow.domain false) (Rows.fnGapRemainderSpec.post enc Try.prog Try.f14 false true false false) := by
  refine returnsInHanded_of_change (C := Try.checked) Try.own started (by kernel_rfl) Try.func14
    (ChangeSpec.witness6 (enc := enc) (C := Try.checked) false ⟨#[], #[.slice none 0 0], []⟩ 8 (by kernel_rfl) (by kernel_rfl) (by kernel_rfl) (by kernel_rfl)) ?_
  intro W base args ds gs before hval0 hW hcnd _
  have hval : ∀ (j : Nat) t v, Try.f14.params[j]? = some t → args[j]? = some v → Value.okWide Try.prog W .any base t v := hval0
  have hW' := hW
  obtain ⟨p, q, hA0, hV, rfl, hfz, hnd⟩ := hW
  have hA : DataW.TrodAll enc Try.prog W 0 (fun _ => true) true Try.f14.params.toList args.toList ds p := hA0
  rw [Try.params14] at hA hval
  obtain ⟨v0, vs0, d0, ds0, p0, q0, hargs, rfl, rfl, h0, r0⟩ := trodAll_cons hA
  obtain ⟨rfl, rfl, rfl⟩ := trodAll_nil r0
  obtain rfl : args = #[v0] := by cases args; simp_all
  obtain ⟨rfl, rfl⟩ := trodVars_none hV
  have k0 := h0
  have lt0 : ∀ x ∈ p0, x.block < W.heap.size := by obtain ⟨m, hm⟩ := k0; exact DataW.trod_lt m _ _ _ hm
  obtain ⟨a0, z0, c0, rfl, w0⟩ := openByts (hval 0 22 v0 rfl rfl) h0
  clear hA0 hval0
  refine (FnGapRemainder_walk a0 z0 c0 W w0).mono fun e W' ⟨he, bel⟩ => ?_
  subst he
  exact ⟨_, rfl, _, _, _, [], _, [], hW', trodAll_mk1 (shut_bool Try.underlying4 _), (trodAll_cons_mk (Below.trod Try.laidOut (by kernel_rfl) (of_decide_eq_true (by kernel_rfl)) k0 bel lt0) trodAll_mk0), rfl, bel.frame _, fun h => by cases h⟩
/-- The given statement. -/
theorem FnGapRemainder_holds : Rows.FnGapRemainderSaid :=
  OpenClaim.holds_of_wide 14 Try.f14 rfl rfl rfl rfl rfl rfl rfl ⟨rfl, rfl, rfl, rfl, rfl⟩ rfl rfl rfl rfl rfl (by kernel_rfl) Try.func14 (by kernel_rfl)
    (of_decide_eq_true (by kernel_rfl)) (by unfold Func.isWrapper; first | (rw [if_pos (by decide +kernel)]; kernel_rfl) | (rw [if_neg (by decide +kernel)]; exact ⟨rfl, rfl⟩))
    (fun os started H enc _ => FnGapRemainder_lifted os started H enc)
end Go.Proofs.Ytimldfknbeiadaa
