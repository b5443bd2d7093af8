/-
  For all votes, seats, methods and lots, the law FnExactSeatsNext returns true: the program's SeatsNext returns what the reference's returns and keeps its arguments. There are no conditions.
-/
import Derived.Test.YtcddfibohcgjbaaNextS
import Derived.Test.YtcddfibohcgjbaaCopy
import Derived.Test.YtcddfibohcgjbaaOpen
import Derived.Test.YtcddfibohcgjbaaFrame
namespace Go.Proofs.Ytcddfibohcgjbaa
open Go.ChangeShapes Go.WideShapes Go.ChangeAt Go.RowKit
theorem SeatsNext_con (x0 x1 : List Int) (x2 : Int) (x3 : List Int) (l0 : x0.length ≤ 1048576) (l1 : x1.length ≤ 1048576) (l3 : x3.length ≤ 1048576) : ∃ r : Int, Hid (∀ (A0 : Option Addr) (c0 : Nat) (A1 : Option Addr) (c1 : Nat) (A3 : Option Addr) (c3 : Nat) (w : World), Ints w A0 x0 → Ints w A1 x1 → Ints w A3 x3 → x3.length ≤ c3 → Calls Try.prog 24 #[.slice A0 x0.length c0, .slice A1 x1.length c1, .int .i64 x2, .slice A3 x3.length c3] w (Bl w (.int .i64 r))) ∧ Hid (∀ (A0 : Option Addr) (c0 : Nat) (A1 : Option Addr) (c1 : Nat) (A3 : Option Addr) (c3 : Nat) (w : World), Ints w A0 x0 → Ints w A1 x1 → Ints w A3 x3 → x3.length ≤ c3 → Calls Try.prog 26 #[.slice A0 x0.length c0, .slice A1 x1.length c1, .int .i64 x2, .slice A3 x3.length c3] w (Bl w (.int .i64 r))) :=
  ⟨nextF x0 x1 x2 x3, Lib.hid fun A0 c0 A1 c1 A3 c3 w h0 h1 h3 hc => Qt.bl (specNext_any A0 A1 A3 x0 x1 x3 c0 c1 c3 x2 w h0 h1 h3 l0 l1 l3 hc), Lib.hid fun A0 c0 A1 c1 A3 c3 w h0 h1 h3 hc => Qt.bl (implNext_any A0 A1 A3 x0 x1 x3 c0 c1 c3 x2 w h0 h1 h3 l0 l1 l3 hc)⟩
set_option maxHeartbeats 1600000 in
theorem FnExactSeatsNext_walk (A0 : Option Addr) (x0 : List Int) (c0 : Nat) (A1 : Option Addr) (x1 : List Int) (c1 : Nat) (x2 : Int) (A3 : Option Addr) (x3 : List Int) (c3 : Nat) (w : World) (h0 : Ints w A0 x0) (h1 : Ints w A1 x1) (h3 : Ints w A3 x3) :
    Calls Try.prog 6 #[.slice A0 x0.length c0, .slice A1 x1.length c1, .int .i64 x2, .slice A3 x3.length c3] w (LawOk w) := by
  by_cases l0 : x0.length ≤ 1048576
  case neg =>
    have g0 : (1048576 : Int) < x0.length := by omega
    clear l0
    go_enter Try.func6, Try.ntmps6
    go_wp2
    go_ret
    exact ⟨rfl, Below.refl _ _⟩
  by_cases l1 : x1.length ≤ 1048576
  case neg =>
    have g1 : (1048576 : Int) < x1.length := by omega
    clear l1
    go_enter Try.func6, Try.ntmps6
    go_wp2
    go_ret
    exact ⟨rfl, Below.refl _ _⟩
  by_cases l3 : x3.length ≤ 1048576
  case neg =>
    have g3 : (1048576 : Int) < x3.length := by omega
    clear l3
    go_enter Try.func6, Try.ntmps6
    go_wp2
    go_ret
    exact ⟨rfl, Below.refl _ _⟩
  have e0 : (x0 == x0) = true := by simp
  have e1 : (x1 == x1) = true := by simp
  have e3 : (x3 == x3) = true := by simp
  obtain ⟨r, cS, cI⟩ := SeatsNext_con x0 x1 x2 x3 l0 l1 l3
  go_enter Try.func6, Try.ntmps6
  go_wp2_with fail
  refine (toIntS_any _ _ _ _ h0 l0).mono ?_
  rintro e w1 ⟨B1, d1, rfl, o1, hb1⟩
  have z2 : w.heap.size ≤ w1.heap.size := hb1.size
  have hB2 := (Below.refl w.heap.size w).trans (hb1.mono (Below.refl w.heap.size w).size)
  have y2 : w.heap.size ≤ w1.heap.size := hB2.size
  have t1 : Hid (∀ k, (Value.slice B1 (x0).length d1).ownBlock = some k → w.heap.size ≤ k ∧ k < w1.heap.size) := o1.block
  go_wp2_with fail
  refine (toIntS_any _ _ _ _ (h1.below hB2) l1).mono ?_
  rintro e w3 ⟨B3, d3, rfl, o3, hb3⟩
  have z4 : w1.heap.size ≤ w3.heap.size := hb3.size
  have hB4 := hB2.trans (hb3.mono hB2.size)
  have y4 : w.heap.size ≤ w3.heap.size := hB4.size
  have s0_4 := o1.below hb3
  have t3 : Hid (∀ k, (Value.slice B3 (x1).length d3).ownBlock = some k → w1.heap.size ≤ k ∧ k < w3.heap.size) := o3.block
  go_wp2_with fail
  refine (toIntS_any _ _ _ _ (h3.below hB4) l3).mono ?_
  rintro e w5 ⟨B5, d5, rfl, o5, hb5⟩
  have z6 : w3.heap.size ≤ w5.heap.size := hb5.size
  have hB6 := hB4.trans (hb5.mono hB4.size)
  have y6 : w.heap.size ≤ w5.heap.size := hB6.size
  have s0_6 := s0_4.below hb5
  have s1_6 := o3.below hb5
  have t5 : Hid (∀ k, (Value.slice B5 (x3).length d5).ownBlock = some k → w3.heap.size ≤ k ∧ k < w5.heap.size) := o5.block
  go_wp2_with fail
  refine (cS.out _ _ _ _ _ _ _ s0_6.ints s1_6.ints o5.ints o5.le_cap).mono ?_
  rintro e w7 ⟨rfl, hb7⟩
  have z8 : w5.heap.size ≤ w7.heap.size := hb7.size
  have hB8 := hB6.trans (hb7.mono hB6.size)
  have y8 : w.heap.size ≤ w7.heap.size := hB8.size
  have s0_8 := s0_6.below hb7
  have s1_8 := s1_6.below hb7
  have s3_8 := o5.below hb7
  go_wp2_with fail
  refine (toIntS_any _ _ _ _ (h0.below hB8) l0).mono ?_
  rintro e w9 ⟨B9, d9, rfl, o9, hb9⟩
  have z10 : w7.heap.size ≤ w9.heap.size := hb9.size
  have hB10 := hB8.trans (hb9.mono hB8.size)
  have y10 : w.heap.size ≤ w9.heap.size := hB10.size
  have t9 : Hid (∀ k, (Value.slice B9 (x0).length d9).ownBlock = some k → w7.heap.size ≤ k ∧ k < w9.heap.size) := o9.block
  go_wp2_with fail
  refine (toIntS_any _ _ _ _ (h1.below hB10) l1).mono ?_
  rintro e w11 ⟨B11, d11, rfl, o11, hb11⟩
  have z12 : w9.heap.size ≤ w11.heap.size := hb11.size
  have hB12 := hB10.trans (hb11.mono hB10.size)
  have y12 : w.heap.size ≤ w11.heap.size := hB12.size
  have x0_12 := o9.below hb11
  have t11 : Hid (∀ k, (Value.slice B11 (x1).length d11).ownBlock = some k → w9.heap.size ≤ k ∧ k < w11.heap.size) := o11.block
  go_wp2_with fail
  refine (toIntS_any _ _ _ _ (h3.below hB12) l3).mono ?_
  rintro e w13 ⟨B13, d13, rfl, o13, hb13⟩
  have z14 : w11.heap.size ≤ w13.heap.size := hb13.size
  have hB14 := hB12.trans (hb13.mono hB12.size)
  have y14 : w.heap.size ≤ w13.heap.size := hB14.size
  have x0_14 := x0_12.below hb13
  have x1_14 := o11.below hb13
  have t13 : Hid (∀ k, (Value.slice B13 (x3).length d13).ownBlock = some k → w11.heap.size ≤ k ∧ k < w13.heap.size) := o13.block
  go_wp2_with fail
  refine (cI.out _ _ _ _ _ _ _ x0_14.ints x1_14.ints o13.ints o13.le_cap).mono ?_
  rintro e w15 ⟨rfl, hb15⟩
  have z16 : w13.heap.size ≤ w15.heap.size := hb15.size
  have hB16 := hB14.trans (hb15.mono hB14.size)
  have y16 : w.heap.size ≤ w15.heap.size := hB16.size
  have x0_16 := x0_14.below hb15
  have x1_16 := x1_14.below hb15
  have x3_16 := o13.below hb15
  go_wp2_with fail
  refine (toIntS_any _ _ _ _ (h0.below hB16) l0).mono ?_
  rintro e w17 ⟨B17, d17, rfl, o17, hb17⟩
  have z18 : w15.heap.size ≤ w17.heap.size := hb17.size
  have hB18 := hB16.trans (hb17.mono hB16.size)
  have y18 : w.heap.size ≤ w17.heap.size := hB18.size
  have x0_18 := x0_16.below hb17
  have x1_18 := x1_16.below hb17
  have x3_18 := x3_16.below hb17
  have t17 : Hid (∀ k, (Value.slice B17 (x0).length d17).ownBlock = some k → w15.heap.size ≤ k ∧ k < w17.heap.size) := o17.block
  go_wp2_with fail
  refine (lawEqI_any _ _ _ _ _ _ _ x0_18.ints o17.ints l0 l0).mono ?_
  rintro e w19 ⟨rfl, n19, rfl⟩
  have hB20 := below_drewN hB18 n19
  have x0_20 := x0_18.drewN n19
  have x1_20 := x1_18.drewN n19
  have x3_20 := x3_18.drewN n19
  have t0_20 := o17.drewN n19
  go_wp2_with fail
  refine (toIntS_any _ _ _ _ (h1.below hB20) l1).mono ?_
  rintro e w21 ⟨B21, d21, rfl, o21, hb21⟩
  have z22 : w17.heap.size ≤ w21.heap.size := hb21.size
  have hB22 := hB20.trans (hb21.mono hB20.size)
  have y22 : w.heap.size ≤ w21.heap.size := hB22.size
  have x0_22 := x0_20.below hb21
  have x1_22 := x1_20.below hb21
  have x3_22 := x3_20.below hb21
  have t21 : Hid (∀ k, (Value.slice B21 (x1).length d21).ownBlock = some k → w17.heap.size ≤ k ∧ k < w21.heap.size) := o21.block
  go_wp2_with fail
  refine (lawEqI_any _ _ _ _ _ _ _ x1_22.ints o21.ints l1 l1).mono ?_
  rintro e w23 ⟨rfl, n23, rfl⟩
  have hB24 := below_drewN hB22 n23
  have x0_24 := x0_22.drewN n23
  have x1_24 := x1_22.drewN n23
  have x3_24 := x3_22.drewN n23
  have t1_24 := o21.drewN n23
  go_wp2_with fail
  refine (toIntS_any _ _ _ _ (h3.below hB24) l3).mono ?_
  rintro e w25 ⟨B25, d25, rfl, o25, hb25⟩
  have z26 : w21.heap.size ≤ w25.heap.size := hb25.size
  have hB26 := hB24.trans (hb25.mono hB24.size)
  have y26 : w.heap.size ≤ w25.heap.size := hB26.size
  have x0_26 := x0_24.below hb25
  have x1_26 := x1_24.below hb25
  have x3_26 := x3_24.below hb25
  have t25 : Hid (∀ k, (Value.slice B25 (x3).length d25).ownBlock = some k → w21.heap.size ≤ k ∧ k < w25.heap.size) := o25.block
  go_wp2_with fail
  refine (lawEqI_any _ _ _ _ _ _ _ x3_26.ints o25.ints l3 l3).mono ?_
  rintro e w27 ⟨rfl, n27, rfl⟩
  have hB28 := below_drewN hB26 n27
  have x0_28 := x0_26.drewN n27
  have x1_28 := x1_26.drewN n27
  have x3_28 := x3_26.drewN n27
  have t3_28 := o25.drewN n27
  go_wp2
  go_ret
  exact ⟨rfl, hB28⟩
set_option maxRecDepth 100000 in
theorem FnExactSeatsNext_lifted (os : Os) (started : os.Started) (H : Type) (enc : TypeId × Value → H) :
    ReturnsInHanded {} Try.checked os 6 .any (Rows.fnExactSeatsNextSpec.pre6 enc Try.prog Try.f6 Rows.fnExactSeatsNextRow.domain false) (Rows.fnExactSeatsNextSpec.post enc Try.prog Try.f6 false true false false) := by
  refine returnsInHanded_of_change (C := Try.checked) Try.own started (by kernel_rfl) Try.func6
    (ChangeSpec.witness6 (enc := enc) (C := Try.checked) false ⟨#[], #[.slice none 0 0, .slice none 0 0, .int .i64 0, .slice none 0 0], []⟩ 8 (by kernel_rfl) (by kernel_rfl) (by kernel_rfl) (by kernel_rfl)) ?_
  intro W base args ds gs before hval0 hW hcnd _
  have hval : ∀ (j : Nat) t v, Try.f6.params[j]? = some t → args[j]? = some v → Value.okWide Try.prog W .any base t v := hval0
  have hW' := hW
  obtain ⟨p, q, hA0, hV, rfl, hfz, hnd⟩ := hW
  have hA : DataW.TrodAll enc Try.prog W 0 (fun _ => true) true Try.f6.params.toList args.toList ds p := hA0
  rw [Try.params6] at hA hval
  obtain ⟨v0, vs0, d0, ds0, p0, q0, hargs, rfl, rfl, h0, r0⟩ := trodAll_cons hA
  obtain ⟨v1, vs1, d1, ds1, p1, q1, rfl, rfl, rfl, h1, r1⟩ := trodAll_cons r0
  obtain ⟨v2, vs2, d2, ds2, p2, q2, rfl, rfl, rfl, h2, r2⟩ := trodAll_cons r1
  obtain ⟨v3, vs3, d3, ds3, p3, q3, rfl, rfl, rfl, h3, r3⟩ := trodAll_cons r2
  obtain ⟨rfl, rfl, rfl⟩ := trodAll_nil r3
  obtain rfl : args = #[v0, v1, v2, v3] := by cases args; simp_all
  obtain ⟨rfl, rfl⟩ := trodVars_none hV
  have k0 := h0
  have lt0 : ∀ x ∈ p0, x.block < W.heap.size := by obtain ⟨m, hm⟩ := k0; exact DataW.trod_lt m _ _ _ hm
  obtain ⟨a0, z0, c0, rfl, w0⟩ := openInts (hval 0 23 v0 rfl rfl) h0
  have k1 := h1
  have lt1 : ∀ x ∈ p1, x.block < W.heap.size := by obtain ⟨m, hm⟩ := k1; exact DataW.trod_lt m _ _ _ hm
  obtain ⟨a1, z1, c1, rfl, w1⟩ := openInts (hval 1 23 v1 rfl rfl) h1
  obtain ⟨a2, rfl, rfl, rfl, w2⟩ := open_int Try.underlying3 (hval 2 3 v2 rfl rfl) h2
  have k3 := h3
  have lt3 : ∀ x ∈ p3, x.block < W.heap.size := by obtain ⟨m, hm⟩ := k3; exact DataW.trod_lt m _ _ _ hm
  obtain ⟨a3, z3, c3, rfl, w3⟩ := openInts (hval 3 23 v3 rfl rfl) h3
  clear hA0 hval0
  refine (FnExactSeatsNext_walk a0 z0 c0 a1 z1 c1 a2 a3 z3 c3 W w0 w1 w3).mono fun e W' ⟨he, bel⟩ => ?_
  subst he
  exact ⟨_, rfl, _, _, _, [], _, [], hW', trodAll_mk1 (shut_bool Try.underlying4 _), (trodAll_cons_mk (Below.trod Try.laidOut (by kernel_rfl) (of_decide_eq_true (by kernel_rfl)) k0 bel lt0) (trodAll_cons_mk (Below.trod Try.laidOut (by kernel_rfl) (of_decide_eq_true (by kernel_rfl)) k1 bel lt1) (trodAll_cons_mk (shut_int Try.underlying3 w2) (trodAll_cons_mk (Below.trod Try.laidOut (by kernel_rfl) (of_decide_eq_true (by kernel_rfl)) k3 bel lt3) trodAll_mk0)))), rfl, bel.frame _, fun h => by cases h⟩
/-- The given statement. -/
theorem FnExactSeatsNext_holds : Rows.FnExactSeatsNextSaid :=
  OpenClaim.holds_of_wide 6 Try.f6 rfl rfl rfl rfl rfl rfl rfl ⟨rfl, rfl, rfl, rfl, rfl⟩ rfl rfl rfl rfl rfl (by kernel_rfl) Try.func6 (by kernel_rfl)
    (of_decide_eq_true (by kernel_rfl)) (by unfold Func.isWrapper; first | (rw [if_pos (by decide +kernel)]; kernel_rfl) | (rw [if_neg (by decide +kernel)]; exact ⟨rfl, rfl⟩))
    (fun os started H enc _ => FnExactSeatsNext_lifted os started H enc)
end Go.Proofs.Ytcddfibohcgjbaa
