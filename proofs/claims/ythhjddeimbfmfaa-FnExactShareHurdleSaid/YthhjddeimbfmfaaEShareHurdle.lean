/-
  For all votes and percentages, the law FnExactShareHurdle returns true: the program's ShareHurdle returns what the reference's returns, keeps its arguments, and its result is memory of its own. There are no conditions.
-/
import Derived.Test.YthhjddeimbfmfaaShare
import Derived.Test.YthhjddeimbfmfaaCopy
import Derived.Test.YthhjddeimbfmfaaOpen
import Derived.Test.YthhjddeimbfmfaaFrame
namespace Go.Proofs.Ythhjddeimbfmfaa
open Go.ChangeShapes Go.WideShapes Go.ChangeAt Go.RowKit
theorem hurdleF_length (xs : List Int) (p : Int) (hl : xs.length ≤ 1048576) : (hurdleF xs p).1.length ≤ 1048576 := by
  unfold hurdleF; split
  · simpa [cutV_length] using hl
  · simp
theorem ShareHurdle_con (x0 : List Int) (x1 : Int) (l0 : x0.length ≤ 1048576) : ∃ r : List Int × Bool, r.1.length ≤ 1048576 ∧ Hid (∀ (A0 : Option Addr) (c0 : Nat) (w : World), Ints w A0 x0 → Calls Try.prog 21 #[.slice A0 x0.length c0, .int .i64 x1] w (NewIB w r)) ∧ Hid (∀ (A0 : Option Addr) (c0 : Nat) (w : World), Ints w A0 x0 → Calls Try.prog 22 #[.slice A0 x0.length c0, .int .i64 x1] w (NewIB w r)) :=
  ⟨hurdleF x0 x1, hurdleF_length _ _ l0, Lib.hid fun A c w h => specHurdle_any A x0 c x1 w h l0, Lib.hid fun A c w h => implHurdle_any A x0 c x1 w h l0⟩
set_option maxHeartbeats 1600000 in
theorem FnExactShareHurdle_walk (A0 : Option Addr) (x0 : List Int) (c0 : Nat) (x1 : Int) (w : World) (h0 : Ints w A0 x0) :
    Calls Try.prog 6 #[.slice A0 x0.length c0, .int .i64 x1] w (LawOk w) := by
  by_cases l0 : x0.length ≤ 1048576
  case neg =>
    have g0 : (1048576 : Int) < x0.length := by omega
    clear l0
    go_enter Try.func6, Try.ntmps6
    go_wp2
    go_ret
    exact ⟨rfl, Below.refl _ _⟩
  have e0 : (x0 == x0) = true := by simp
  obtain ⟨r, hrl, cS, cI⟩ := ShareHurdle_con x0 x1 l0
  obtain ⟨ys, b⟩ := r
  have eY : (ys == ys) = true := by simp
  have hrl : ys.length ≤ 1048576 := hrl
  go_enter Try.func6, Try.ntmps6
  go_wp2_with fail
  refine (toIntS_any _ _ _ _ h0 l0).mono ?_
  rintro e w1 ⟨B1, d1, rfl, o1, hb1⟩
  have z2 : w.heap.size ≤ w1.heap.size := hb1.size
  have hB2 := (Below.refl w.heap.size w).trans (hb1.mono (Below.refl w.heap.size w).size)
  have y2 : w.heap.size ≤ w1.heap.size := hB2.size
  have t1 : Hid (∀ k, (Value.slice B1 (x0).length d1).ownBlock = some k → w.heap.size ≤ k ∧ k < w1.heap.size) := o1.block
  go_wp2_with fail
  refine (cS.out _ _ _ o1.ints).mono ?_
  rintro e w3 ⟨B3, d3, rfl, o3, hb3⟩
  have z4 : w1.heap.size ≤ w3.heap.size := hb3.size
  have hB4 := hB2.trans (hb3.mono hB2.size)
  have y4 : w.heap.size ≤ w3.heap.size := hB4.size
  have s0_4 := o1.below hb3
  have t3 : Hid (∀ k, (Value.slice B3 (ys).length d3).ownBlock = some k → w1.heap.size ≤ k ∧ k < w3.heap.size) := o3.block
  go_wp2_with fail
  refine (toIntS_any _ _ _ _ (h0.below hB4) l0).mono ?_
  rintro e w5 ⟨B5, d5, rfl, o5, hb5⟩
  have z6 : w3.heap.size ≤ w5.heap.size := hb5.size
  have hB6 := hB4.trans (hb5.mono hB4.size)
  have y6 : w.heap.size ≤ w5.heap.size := hB6.size
  have W0_6 := o3.below hb5
  have t5 : Hid (∀ k, (Value.slice B5 (x0).length d5).ownBlock = some k → w3.heap.size ≤ k ∧ k < w5.heap.size) := o5.block
  go_wp2_with fail
  refine (cI.out _ _ _ o5.ints).mono ?_
  rintro e w7 ⟨B7, d7, rfl, o7, hb7⟩
  have z8 : w5.heap.size ≤ w7.heap.size := hb7.size
  have hB8 := hB6.trans (hb7.mono hB6.size)
  have y8 : w.heap.size ≤ w7.heap.size := hB8.size
  have W0_8 := W0_6.below hb7
  have x0_8 := o5.below hb7
  have t7 : Hid (∀ k, (Value.slice B7 (ys).length d7).ownBlock = some k → w5.heap.size ≤ k ∧ k < w7.heap.size) := o7.block
  go_wp2_with fail
  refine (lawEqI_any _ _ _ _ _ _ _ o7.ints W0_8.ints hrl hrl).mono ?_
  rintro e w9 ⟨rfl, n9, rfl⟩
  have hB10 := below_drewN hB8 n9
  have W0_10 := W0_8.drewN n9
  have x0_10 := x0_8.drewN n9
  have G0_10 := o7.drewN n9
  go_wp2_with fail
  refine (toIntS_any _ _ _ _ (h0.below hB10) l0).mono ?_
  rintro e w11 ⟨B11, d11, rfl, o11, hb11⟩
  have z12 : w7.heap.size ≤ w11.heap.size := hb11.size
  have hB12 := hB10.trans (hb11.mono hB10.size)
  have y12 : w.heap.size ≤ w11.heap.size := hB12.size
  have W0_12 := W0_10.below hb11
  have x0_12 := x0_10.below hb11
  have G0_12 := G0_10.below hb11
  have t11 : Hid (∀ k, (Value.slice B11 (x0).length d11).ownBlock = some k → w7.heap.size ≤ k ∧ k < w11.heap.size) := o11.block
  go_wp2_with fail
  refine (lawEqI_any _ _ _ _ _ _ _ x0_12.ints o11.ints l0 l0).mono ?_
  rintro e w13 ⟨rfl, n13, rfl⟩
  have hB14 := below_drewN hB12 n13
  have W0_14 := W0_12.drewN n13
  have x0_14 := x0_12.drewN n13
  have G0_14 := G0_12.drewN n13
  have t0_14 := o11.drewN n13
  go_wp2_with fail
  refine (markIntS_any _ _ _ _ _ _ _ ⟨rfl, x0_14⟩ l0 (by omega) (by omega)).mono ?_
  rintro e w15 ⟨rfl, o15, hg15⟩
  have hw15 := Btw.of_grown hg15 t5.out
  have z15 : w11.heap.size ≤ w15.heap.size := hw15.size
  have hB15 := below_btw hB14 hw15 (by omega) hB14.size
  have y15 : w.heap.size ≤ w15.heap.size := hB15.size
  have W0_15 := W0_14.btw hw15 (fun k e => by have := t3.out k e; omega)
  have G0_15 := G0_14.btw hw15 (fun k e => by have := t7.out k e; omega)
  go_wp2_with fail
  refine (lawEqI_any _ _ _ _ _ _ _ G0_15.ints W0_15.ints hrl hrl).mono ?_
  rintro e w16 ⟨rfl, n16, rfl⟩
  have hB17 := below_drewN hB15 n16
  have W0_17 := W0_15.drewN n16
  have G0_17 := G0_15.drewN n16
  go_wp2_with fail
  refine (markIntS_any _ _ _ _ _ _ _ ⟨rfl, G0_17⟩ hrl (by omega) (by omega)).mono ?_
  rintro e w18 ⟨rfl, o18, hg18⟩
  have hw18 := Btw.of_grown hg18 t7.out
  have z18 : w15.heap.size ≤ w18.heap.size := hw18.size
  have hB18 := below_btw hB17 hw18 (by omega) hB17.size
  have y18 : w.heap.size ≤ w18.heap.size := hB18.size
  have W0_18 := W0_17.btw hw18 (fun k e => by have := t3.out k e; omega)
  go_wp2_with fail
  refine (heldIntS_any _ _ _ _ _ o18.2.ints hrl (by omega) (by omega)).mono ?_
  rintro e w19 ⟨rfl, rfl⟩
  go_wp2_with fail
  refine (toIntS_any _ _ _ _ (h0.below hB18) l0).mono ?_
  rintro e w20 ⟨B20, d20, rfl, o20, hb20⟩
  have z21 : w18.heap.size ≤ w20.heap.size := hb20.size
  have hB21 := hB18.trans (hb20.mono hB18.size)
  have y21 : w.heap.size ≤ w20.heap.size := hB21.size
  have W0_21 := W0_18.below hb20
  have G0_21 := o18.2.below hb20
  have t20 : Hid (∀ k, (Value.slice B20 (x0).length d20).ownBlock = some k → w18.heap.size ≤ k ∧ k < w20.heap.size) := o20.block
  go_wp2_with fail
  refine (cI.out _ _ _ o20.ints).mono ?_
  rintro e w22 ⟨B22, d22, rfl, o22, hb22⟩
  have z23 : w20.heap.size ≤ w22.heap.size := hb22.size
  have hB23 := hB21.trans (hb22.mono hB21.size)
  have y23 : w.heap.size ≤ w22.heap.size := hB23.size
  have W0_23 := W0_21.below hb22
  have G0_23 := G0_21.below hb22
  have s0_23 := o20.below hb22
  have t22 : Hid (∀ k, (Value.slice B22 (ys).length d22).ownBlock = some k → w20.heap.size ≤ k ∧ k < w22.heap.size) := o22.block
  go_wp2_with fail
  refine (lawEqI_any _ _ _ _ _ _ _ o22.ints W0_23.ints hrl hrl).mono ?_
  rintro e w24 ⟨rfl, n24, rfl⟩
  have hB25 := below_drewN hB23 n24
  have W0_25 := W0_23.drewN n24
  have G0_25 := G0_23.drewN n24
  have H0_25 := o22.drewN n24
  go_wp2_with fail
  refine (heldIntS_any _ _ _ _ _ G0_25.ints hrl (by omega) (by omega)).mono ?_
  rintro e w26 ⟨rfl, rfl⟩
  go_wp2
  go_ret
  exact ⟨rfl, hB25⟩
set_option maxRecDepth 100000 in
theorem FnExactShareHurdle_lifted (os : Os) (started : os.Started) (H : Type) (enc : TypeId × Value → H) :
    ReturnsInHanded {} Try.checked os 6 .any (Rows.fnExactShareHurdleSpec.pre6 enc Try.prog Try.f6 Rows.fnExactShareHurdleRow.domain false) (Rows.fnExactShareHurdleSpec.post enc Try.prog Try.f6 false true false false) := by
  refine returnsInHanded_of_change (C := Try.checked) Try.own started (by kernel_rfl) Try.func6
    (ChangeSpec.witness6 (enc := enc) (C := Try.checked) false ⟨#[], #[.slice none 0 0, .int .i64 0], []⟩ 8 (by kernel_rfl) (by kernel_rfl) (by kernel_rfl) (by kernel_rfl)) ?_
  intro W base args ds gs before hval0 hW hcnd _
  have hval : ∀ (j : Nat) t v, Try.f6.params[j]? = some t → args[j]? = some v → Value.okWide Try.prog W .any base t v := hval0
  have hW' := hW
  obtain ⟨p, q, hA0, hV, rfl, hfz, hnd⟩ := hW
  have hA : DataW.TrodAll enc Try.prog W 0 (fun _ => true) true Try.f6.params.toList args.toList ds p := hA0
  rw [Try.params6] at hA hval
  obtain ⟨v0, vs0, d0, ds0, p0, q0, hargs, rfl, rfl, h0, r0⟩ := trodAll_cons hA
  obtain ⟨v1, vs1, d1, ds1, p1, q1, rfl, rfl, rfl, h1, r1⟩ := trodAll_cons r0
  obtain ⟨rfl, rfl, rfl⟩ := trodAll_nil r1
  obtain rfl : args = #[v0, v1] := by cases args; simp_all
  obtain ⟨rfl, rfl⟩ := trodVars_none hV
  have k0 := h0
  have lt0 : ∀ x ∈ p0, x.block < W.heap.size := by obtain ⟨m, hm⟩ := k0; exact DataW.trod_lt m _ _ _ hm
  obtain ⟨a0, z0, c0, rfl, w0⟩ := openInts (hval 0 22 v0 rfl rfl) h0
  obtain ⟨a1, rfl, rfl, rfl, w1⟩ := open_int Try.underlying3 (hval 1 3 v1 rfl rfl) h1
  clear hA0 hval0
  refine (FnExactShareHurdle_walk a0 z0 c0 a1 W w0).mono fun e W' ⟨he, bel⟩ => ?_
  subst he
  exact ⟨_, rfl, _, _, _, [], _, [], hW', trodAll_mk1 (shut_bool Try.underlying4 _), (trodAll_cons_mk (Below.trod Try.laidOut (by kernel_rfl) (of_decide_eq_true (by kernel_rfl)) k0 bel lt0) (trodAll_cons_mk (shut_int Try.underlying3 w1) trodAll_mk0)), rfl, bel.frame _, fun h => by cases h⟩
/-- The given statement. -/
theorem FnExactShareHurdle_holds : Rows.FnExactShareHurdleSaid :=
  OpenClaim.holds_of_wide 6 Try.f6 rfl rfl rfl rfl rfl rfl rfl ⟨rfl, rfl, rfl, rfl, rfl⟩ rfl rfl rfl rfl rfl (by kernel_rfl) Try.func6 (by kernel_rfl)
    (of_decide_eq_true (by kernel_rfl)) (by unfold Func.isWrapper; first | (rw [if_pos (by decide +kernel)]; kernel_rfl) | (rw [if_neg (by decide +kernel)]; exact ⟨rfl, rfl⟩))
    (fun os started H enc _ => FnExactShareHurdle_lifted os started H enc)
end Go.Proofs.Ythhjddeimbfmfaa
