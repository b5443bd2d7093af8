/-
  For every code, the law FnGapSquares returns true: squares are those of gaps. There are no conditions.
-/
import Derived.Test.YtimldfknbeiadaaGapP
import Derived.Test.YtimldfknbeiadaaDrawH
import Derived.Test.YtimldfknbeiadaaGap
namespace Go.Proofs.Ytimldfknbeiadaa
open Go.ChangeShapes Go.WideShapes Go.ChangeAt Go.RowKit
set_option maxRecDepth 100000 in
set_option maxHeartbeats 3200000 in
theorem FnGapSquares_walk (A : Option Addr) (n c : Nat) (w : World) (h : BytsA w A n c) :
    Calls Try.prog 13 #[.slice A n c] w (LawOk w) := by
  by_cases hl : n ≤ 1048576
  case neg =>
    have hbig : (1048576 : Int) < n := by omega
    clear hl
    go_enter Try.func13, Try.ntmps13
    go_wp2
    go_ret
    exact ⟨rfl, Below.refl _ _⟩
  go_enter Try.func13, Try.ntmps13
  go_wp2_with fail
  refine (drawSquares_any _ _ _ _ h).mono ?_
  rintro e w1 ⟨A1, c1, xs, A2, c2, gs, rfl, ⟨hx5, hox, hb1⟩, ⟨hg5, hog, _⟩, hbd⟩
  have cI := Lib.hid (fun (w : World) (h : Ints w A1 xs) (h' : Ints w A2 gs) => implSquares_any A1 A2 xs gs c1 c2 w h h' (by omega) (by omega))
  have cS := Lib.hid (fun (w : World) (h : Ints w A1 xs) (h' : Ints w A2 gs) => specSquares_any A1 A2 xs gs c1 c2 w h h' (by omega) (by omega))
  obtain ⟨r, hr⟩ : ∃ r, sqF xs gs = r := ⟨_, rfl⟩
  rw [hr] at cI cS
  have HR := Lib.hid hr
  clear hr
  go_wp2_with fail
  refine (cI.out _ hox.ints hog.ints).mono ?_
  rintro e w2 ⟨rfl, hb2⟩
  have hB2 := hb1.trans (hb2.mono hb1.size)
  have hox := hox.below hb2
  have hog := hog.below hb2
  go_wp2_with fail
  refine (cS.out _ hox.ints hog.ints).mono ?_
  rintro e w3 ⟨rfl, hb3⟩
  have hB3 := hB2.trans (hb3.mono hB2.size)
  have hox := hox.below hb3
  have hog := hog.below hb3
  clear cI cS hb2 hb3 hB2
  have hrr : (r != r) = false := by simp
  have hre : (r == r) = true := by simp
  by_cases hr0 : 0 ≤ r
  case neg =>
    have hr1 : r < 0 := by omega
    clear hr0
    go_wp2
    go_ret
    exact ⟨rfl, hB3⟩
  obtain ⟨hv, hgv, hrv⟩ := sqF_pos HR.out hr0
  obtain ⟨hlen, ⟨hx1, _⟩, ⟨hs0, hs1⟩, ⟨hg0, hg1⟩, hxb, hgb⟩ := valid_facts hv hgv
  have HL := Lib.hid hlen
  have HX := Lib.hid hxb
  have HG := Lib.hid hgb
  have HXW := Lib.hid (wide' hxb (by omega))
  have HGW := Lib.hid (wide' hgb (by omega))
  have cG := Lib.hid (fun (w : World) (h : Ints w A1 xs) (h' : Ints w A2 gs) => implGap_any A1 A2 xs gs c1 c2 w h h' (by omega) (by omega))
  rw [gapF_val hv hgv] at cG
  have hgb5 := gapL_bd (diffs xs gs) 10000 (diffs_bd hv hgv)
  have hsb5 := sqL_bd (diffs xs gs) 10000 (diffs_bd hv hgv)
  have hq1 := sq_le_gap (diffs xs gs)
  have hq2 := gap_le_sq (diffs xs gs)
  rw [diffs_length hlen] at hgb5 hsb5 hq2
  rw [← hrv] at hsb5 hq1 hq2
  obtain ⟨k, hk⟩ : ∃ k, gapL (diffs xs gs) = k := ⟨_, rfl⟩
  rw [hk] at cG hgb5 hq1 hq2
  have hk0 : 0 ≤ k := hgb5.1
  have hk9 : k ≤ 50000 := by omega
  have hr9 : r ≤ 500000000 := by omega
  obtain ⟨p0, p1⟩ := mul_bd (a := k) (b := k) (M := 50000) (N := 50000) ⟨hk0, hk9⟩ ⟨hk0, hk9⟩
  obtain ⟨p2, p3⟩ := mul_bd (a := r) (b := (xs.length : Int)) (M := 500000000) (N := 5) ⟨hr0, hr9⟩ ⟨by omega, by omega⟩
  clear hk hv hgv hrv hlen hxb hgb hgb5 hsb5
  go_wp2_with fail
  refine (cG.out _ hox.ints hog.ints).mono ?_
  rintro e w4 ⟨rfl, hb4⟩
  go_wp2
  go_ret
  exact ⟨rfl, hB3.trans (hb4.mono hB3.size)⟩
set_option maxRecDepth 100000 in
theorem FnGapSquares_lifted (os : Os) (started : os.Started) (H : Type) (enc : TypeId × Value → H) :
    ReturnsInHanded {} Try.checked os 13 .any (Rows.fnGapSquaresSpec.pre6 enc Try.prog Try.f13 Rows.fnGapSquaresRow.domain false) (Rows.fnGapSquaresSpec.post enc Try.prog Try.f13 false true false false) := by
  refine returnsInHanded_of_change (C := Try.checked) Try.own started (by kernel_rfl) Try.func13
    (ChangeSpec.witness6 (enc := enc) (C := Try.checked) false ⟨#[], #[.slice none 0 0], []⟩ 8 (by kernel_rfl) (by kernel_rfl) (by kernel_rfl) (by kernel_rfl)) ?_
  intro W base args ds gs before hval0 hW hcnd _
  have hval : ∀ (j : Nat) t v, Try.f13.params[j]? = some t → args[j]? = some v → Value.okWide Try.prog W .any base t v := hval0
  have hW' := hW
  obtain ⟨p, q, hA0, hV, rfl, hfz, hnd⟩ := hW
  have hA : DataW.TrodAll enc Try.prog W 0 (fun _ => true) true Try.f13.params.toList args.toList ds p := hA0
  rw [Try.params13] at hA hval
  obtain ⟨v0, vs0, d0, ds0, p0, q0, hargs, rfl, rfl, h0, r0⟩ := trodAll_cons hA
  obtain ⟨rfl, rfl, rfl⟩ := trodAll_nil r0
  obtain rfl : args = #[v0] := by cases args; simp_all
  obtain ⟨rfl, rfl⟩ := trodVars_none hV
  have k0 := h0
  have lt0 : ∀ x ∈ p0, x.block < W.heap.size := by obtain ⟨m, hm⟩ := k0; exact DataW.trod_lt m _ _ _ hm
  obtain ⟨a0, z0, c0, rfl, w0⟩ := openByts (hval 0 22 v0 rfl rfl) h0
  clear hA0 hval0
  refine (FnGapSquares_walk a0 z0 c0 W w0).mono fun e W' ⟨he, bel⟩ => ?_
  subst he
  exact ⟨_, rfl, _, _, _, [], _, [], hW', trodAll_mk1 (shut_bool Try.underlying4 _), (trodAll_cons_mk (Below.trod Try.laidOut (by kernel_rfl) (of_decide_eq_true (by kernel_rfl)) k0 bel lt0) trodAll_mk0), rfl, bel.frame _, fun h => by cases h⟩
/-- The given statement. -/
theorem FnGapSquares_holds : Rows.FnGapSquaresSaid :=
  OpenClaim.holds_of_wide 13 Try.f13 rfl rfl rfl rfl rfl rfl rfl ⟨rfl, rfl, rfl, rfl, rfl⟩ rfl rfl rfl rfl rfl (by kernel_rfl) Try.func13 (by kernel_rfl)
    (of_decide_eq_true (by kernel_rfl)) (by unfold Func.isWrapper; first | (rw [if_pos (by decide +kernel)]; kernel_rfl) | (rw [if_neg (by decide +kernel)]; exact ⟨rfl, rfl⟩))
    (fun os started H enc _ => FnGapSquares_lifted os started H enc)
end Go.Proofs.Ytimldfknbeiadaa
