/-
  For all votes of districts, the law FnExactDistrictVotes returns true: the program's DistrictVotes returns what the reference's returns, keeps its arguments, and its result is memory of its own. There are no conditions.
-/
import Derived.Test.YtcddfibohcgjbaaDistW
import Derived.Test.YtcddfibohcgjbaaOpenM
import Derived.Test.YtcddfibohcgjbaaMatM
import Derived.Test.YtcddfibohcgjbaaCopy
namespace Go.Proofs.Ytcddfibohcgjbaa
open Go.ChangeShapes Go.WideShapes Go.ChangeAt Go.RowKit
theorem dvF_length (xss : List (List Int)) : (dvF xss).1.length ≤ 1048576 := by
  cases h : dvB xss
  · rw [dvF_f h]; simp
  · rw [dvF_t h]
    show (tog (wid xss) xss).length ≤ _
    rw [tog_len]
    have := (dvOk_of h).wd.2
    omega
theorem DistrictVotes_con (x0 : List (List Int)) (l0 : tot x0 ≤ 1048576) : ∃ r : List Int × Bool, r.1.length ≤ 1048576 ∧ Hid (∀ (A0 : Option Addr) (c0 : Nat) (w : World), RowsI w A0 x0 → Calls Try.prog 29 #[.slice A0 x0.length c0] w (NewIB w r)) ∧ Hid (∀ (A0 : Option Addr) (c0 : Nat) (w : World), RowsI w A0 x0 → Calls Try.prog 31 #[.slice A0 x0.length c0] w (NewIB w r)) :=
  ⟨dvF x0, dvF_length _, Lib.hid fun A0 c0 w h0 => specDVotes_any A0 x0 c0 w h0 l0, Lib.hid fun A0 c0 w h0 => implDVotes_any A0 x0 c0 w h0 l0⟩
set_option maxHeartbeats 1600000 in
theorem FnExactDistrictVotes_walk (A0 : Option Addr) (x0 : List (List Int)) (c0 : Nat) (w : World) (h0 : RowsI w A0 x0) :
    Calls Try.prog 7 #[.slice A0 x0.length c0] w (LawOk w) := by
  by_cases l0 : tot x0 ≤ 1048576
  case neg =>
    go_enter Try.func7, Try.ntmps7
    go_wp2_with fail
    refine (szIntSS_f _ _ _ _ h0 l0).mono ?_
    rintro e w0 ⟨rfl, rfl⟩
    go_wp2
    go_ret
    exact ⟨rfl, Below.refl _ _⟩
  have e0 : (x0 == x0) = true := by simp
  have sl0 := sl_le l0
  obtain ⟨r, hrl, cS, cI⟩ := DistrictVotes_con x0 l0
  obtain ⟨ys, b⟩ := r
  have eY : (ys == ys) = true := by simp
  have hrl : ys.length ≤ 1048576 := hrl
  go_enter Try.func7, Try.ntmps7
  go_wp2_with fail
  refine (szIntSS_t _ _ _ _ h0 l0).mono ?_
  rintro e w0 ⟨rfl, rfl⟩
  go_wp2_with fail
  refine (toIntSS_any _ _ _ _ h0 l0).mono ?_
  rintro e w1 ⟨B1, d1, rfl, o1, hb1⟩
  have z2 : w.heap.size ≤ w1.heap.size := hb1.size
  have hB2 := (Below.refl w.heap.size w).trans (hb1.mono (Below.refl w.heap.size w).size)
  have y2 : w.heap.size ≤ w1.heap.size := hB2.size
  have i1 : OwnIn w1 w.heap.size w1.heap.size B1 d1 x0 := o1.inside
  go_wp2_with fail
  refine (cS.out _ _ _ i1.rows).mono ?_
  rintro e w3 ⟨B3, d3, rfl, o3, hb3⟩
  have z4 : w1.heap.size ≤ w3.heap.size := hb3.size
  have hB4 := hB2.trans (hb3.mono hB2.size)
  have y4 : w.heap.size ≤ w3.heap.size := hB4.size
  have s0_4 := i1.below hb3
  have t3 : Hid (∀ k, (Value.slice B3 (ys).length d3).ownBlock = some k → w1.heap.size ≤ k ∧ k < w3.heap.size) := o3.block
  go_wp2_with fail
  refine (toIntSS_any _ _ _ _ (h0.below hB4) l0).mono ?_
  rintro e w5 ⟨B5, d5, rfl, o5, hb5⟩
  have z6 : w3.heap.size ≤ w5.heap.size := hb5.size
  have hB6 := hB4.trans (hb5.mono hB4.size)
  have y6 : w.heap.size ≤ w5.heap.size := hB6.size
  have W0_6 := o3.below hb5
  have i5 : OwnIn w5 w3.heap.size w5.heap.size B5 d5 x0 := o5.inside
  go_wp2_with fail
  refine (cI.out _ _ _ i5.rows).mono ?_
  rintro e w7 ⟨B7, d7, rfl, o7, hb7⟩
  have z8 : w5.heap.size ≤ w7.heap.size := hb7.size
  have hB8 := hB6.trans (hb7.mono hB6.size)
  have y8 : w.heap.size ≤ w7.heap.size := hB8.size
  have W0_8 := W0_6.below hb7
  have x0_8 := i5.below hb7
  have t7 : Hid (∀ k, (Value.slice B7 (ys).length d7).ownBlock = some k → w5.heap.size ≤ k ∧ k < w7.heap.size) := o7.block
  go_wp2_with fail
  refine (lawEqI_any _ _ _ _ _ _ _ o7.ints W0_8.ints hrl hrl).mono ?_
  rintro e w9 ⟨rfl, n9, rfl⟩
  have hB10 := below_drewN hB8 n9
  have W0_10 := W0_8.drewN n9
  have x0_10 := x0_8.drewN n9
  have G0_10 := o7.drewN n9
  go_wp2_with fail
  refine (toIntSS_any _ _ _ _ (h0.below hB10) l0).mono ?_
  rintro e w11 ⟨B11, d11, rfl, o11, hb11⟩
  have z12 : w7.heap.size ≤ w11.heap.size := hb11.size
  have hB12 := hB10.trans (hb11.mono hB10.size)
  have y12 : w.heap.size ≤ w11.heap.size := hB12.size
  have W0_12 := W0_10.below hb11
  have x0_12 := x0_10.below hb11
  have G0_12 := G0_10.below hb11
  have i11 : OwnIn w11 w7.heap.size w11.heap.size B11 d11 x0 := o11.inside
  go_wp2_with fail
  refine (lawEqII_any _ _ _ _ _ _ _ x0_12.rows i11.rows l0 l0).mono ?_
  rintro e w13 ⟨rfl, n13, rfl⟩
  have hB14 := below_drewN hB12 n13
  have W0_14 := W0_12.drewN n13
  have x0_14 := x0_12.drewN n13
  have G0_14 := G0_12.drewN n13
  have t0_14 := i11.drewN n13
  go_wp2_with fail
  refine (markIntSS_any _ _ _ _ _ _ _ x0_14 l0 (by omega) (by omega)).mono ?_
  rintro e w15 ⟨rfl, o15, hw15⟩
  have z15 : w11.heap.size ≤ w15.heap.size := hw15.size
  have hB15 := below_btw hB14 hw15 (by omega) hB14.size
  have y15 : w.heap.size ≤ w15.heap.size := hB15.size
  have W0_15 := W0_14.btw hw15 (fun k e => by have := t3.out k e; omega)
  have G0_15 := G0_14.btw hw15 (fun k e => by have := t7.out k e; omega)
  go_wp2_with fail
  refine (lawEqI_any _ _ _ _ _ _ _ G0_15.ints W0_15.ints hrl hrl).mono ?_
  rintro e w16 ⟨rfl, n16, rfl⟩
  have hB17 := below_drewN hB15 n16
  have W0_17 := W0_15.drewN n16
  have G0_17 := G0_15.drewN n16
  go_wp2_with fail
  refine (markIntS_any _ _ _ _ _ _ _ ⟨rfl, G0_17⟩ hrl (by omega) (by omega)).mono ?_
  rintro e w18 ⟨rfl, o18, hg18⟩
  have hw18 := Btw.of_grown hg18 t7.out
  have z18 : w15.heap.size ≤ w18.heap.size := hw18.size
  have hB18 := below_btw hB17 hw18 (by omega) hB17.size
  have y18 : w.heap.size ≤ w18.heap.size := hB18.size
  have W0_18 := W0_17.btw hw18 (fun k e => by have := t3.out k e; omega)
  go_wp2_with fail
  refine (heldIntS_any _ _ _ _ _ o18.2.ints hrl (by omega) (by omega)).mono ?_
  rintro e w19 ⟨rfl, rfl⟩
  go_wp2_with fail
  refine (toIntSS_any _ _ _ _ (h0.below hB18) l0).mono ?_
  rintro e w20 ⟨B20, d20, rfl, o20, hb20⟩
  have z21 : w18.heap.size ≤ w20.heap.size := hb20.size
  have hB21 := hB18.trans (hb20.mono hB18.size)
  have y21 : w.heap.size ≤ w20.heap.size := hB21.size
  have W0_21 := W0_18.below hb20
  have G0_21 := o18.2.below hb20
  have i20 : OwnIn w20 w18.heap.size w20.heap.size B20 d20 x0 := o20.inside
  go_wp2_with fail
  refine (cI.out _ _ _ i20.rows).mono ?_
  rintro e w22 ⟨B22, d22, rfl, o22, hb22⟩
  have z23 : w20.heap.size ≤ w22.heap.size := hb22.size
  have hB23 := hB21.trans (hb22.mono hB21.size)
  have y23 : w.heap.size ≤ w22.heap.size := hB23.size
  have W0_23 := W0_21.below hb22
  have G0_23 := G0_21.below hb22
  have s0_23 := i20.below hb22
  have t22 : Hid (∀ k, (Value.slice B22 (ys).length d22).ownBlock = some k → w20.heap.size ≤ k ∧ k < w22.heap.size) := o22.block
  go_wp2_with fail
  refine (lawEqI_any _ _ _ _ _ _ _ o22.ints W0_23.ints hrl hrl).mono ?_
  rintro e w24 ⟨rfl, n24, rfl⟩
  have hB25 := below_drewN hB23 n24
  have W0_25 := W0_23.drewN n24
  have G0_25 := G0_23.drewN n24
  have H0_25 := o22.drewN n24
  go_wp2_with fail
  refine (heldIntS_any _ _ _ _ _ G0_25.ints hrl (by omega) (by omega)).mono ?_
  rintro e w26 ⟨rfl, rfl⟩
  go_wp2
  go_ret
  exact ⟨rfl, hB25⟩
set_option maxRecDepth 100000 in
theorem FnExactDistrictVotes_lifted (os : Os) (started : os.Started) (H : Type) (enc : TypeId × Value → H) :
    ReturnsInHanded {} Try.checked os 7 .any (Rows.fnExactDistrictVotesSpec.pre6 enc Try.prog Try.f7 Rows.fnExactDistrictVotesRow.domain false) (Rows.fnExactDistrictVotesSpec.post enc Try.prog Try.f7 false true false false) := by
  refine returnsInHanded_of_change (C := Try.checked) Try.own started (by kernel_rfl) Try.func7
    (ChangeSpec.witness6 (enc := enc) (C := Try.checked) false ⟨#[], #[.slice none 0 0], []⟩ 8 (by kernel_rfl) (by kernel_rfl) (by kernel_rfl) (by kernel_rfl)) ?_
  intro W base args ds gs before hval0 hW hcnd _
  have hval : ∀ (j : Nat) t v, Try.f7.params[j]? = some t → args[j]? = some v → Value.okWide Try.prog W .any base t v := hval0
  have hW' := hW
  obtain ⟨p, q, hA0, hV, rfl, hfz, hnd⟩ := hW
  have hA : DataW.TrodAll enc Try.prog W 0 (fun _ => true) true Try.f7.params.toList args.toList ds p := hA0
  rw [Try.params7] at hA hval
  obtain ⟨v0, vs0, d0, ds0, p0, q0, hargs, rfl, rfl, h0, r0⟩ := trodAll_cons hA
  obtain ⟨rfl, rfl, rfl⟩ := trodAll_nil r0
  obtain rfl : args = #[v0] := by cases args; simp_all
  obtain ⟨rfl, rfl⟩ := trodVars_none hV
  have k0 := h0
  have lt0 : ∀ x ∈ p0, x.block < W.heap.size := by obtain ⟨m, hm⟩ := k0; exact DataW.trod_lt m _ _ _ hm
  obtain ⟨a0, z0, c0, rfl, w0⟩ := openRows (hval 0 39 v0 rfl rfl) h0
  clear hA0 hval0
  refine (FnExactDistrictVotes_walk a0 z0 c0 W w0).mono fun e W' ⟨he, bel⟩ => ?_
  subst he
  exact ⟨_, rfl, _, _, _, [], _, [], hW', trodAll_mk1 (shut_bool Try.underlying4 _), (trodAll_cons_mk (Below.trod Try.laidOut (by kernel_rfl) (of_decide_eq_true (by kernel_rfl)) k0 bel lt0) trodAll_mk0), rfl, bel.frame _, fun h => by cases h⟩
/-- The given statement. -/
theorem FnExactDistrictVotes_holds : Rows.FnExactDistrictVotesSaid :=
  OpenClaim.holds_of_wide 7 Try.f7 rfl rfl rfl rfl rfl rfl rfl ⟨rfl, rfl, rfl, rfl, rfl⟩ rfl rfl rfl rfl rfl (by kernel_rfl) Try.func7 (by kernel_rfl)
    (of_decide_eq_true (by kernel_rfl)) (by unfold Func.isWrapper; first | (rw [if_pos (by decide +kernel)]; kernel_rfl) | (rw [if_neg (by decide +kernel)]; exact ⟨rfl, rfl⟩))
    (fun os started H enc _ => FnExactDistrictVotes_lifted os started H enc)
end Go.Proofs.Ytcddfibohcgjbaa
