/-
  For all votes of districts, seats, further seats, methods and lots, the law FnExactDistrictLevel returns true: the program's DistrictLevel returns what the reference's returns, keeps its arguments, and its result is memory of its own. There are no conditions.
-/
import Derived.Test.YtoblhmbpobbecaaDistL
import Derived.Test.YtoblhmbpobbecaaOpenM
import Derived.Test.YtoblhmbpobbecaaMatM
import Derived.Test.YtoblhmbpobbecaaCopy
namespace Go.Proofs.Ytoblhmbpobbecaa
open Go.ChangeShapes Go.WideShapes Go.ChangeAt Go.RowKit
theorem levF_len (xss : List (List Int)) (s f m : Int) (ls : List Int) : (levF xss s f m ls).1.length ≤ 1048576 := by
  obtain ⟨r, hr⟩ : ∃ r, levC xss s f m ls = r := ⟨_, rfl⟩
  cases r
  · rw [levF_f hr]; simp
  · have hr2 := hr
    unfold levC at hr2
    rw [Bool.and_eq_true, Bool.and_eq_true, inB_iff, decide_eq_true_eq] at hr2
    obtain ⟨⟨h1, h2, h3⟩, h4⟩ := hr2
    obtain ⟨k, rfl, hk20, o⟩ := dsOk_of h1
    obtain ⟨n, rfl⟩ := Int.eq_ofNat_of_zero_le h2
    rw [levF_t hr]
    have := ((o.level (n := n) (by exact_mod_cast h4)).at_ n (Nat.le_refl _)).2.len
    show (levN _ _ _ _ _).2.length ≤ _
    rw [this, tog_len]
    have := o.dv.wd
    omega
theorem DistrictLevel_con (x0 : List (List Int)) (x1 x2 x3 : Int) (x4 : List Int) (l0 : tot x0 ≤ 1048576) (l4 : x4.length ≤ 1048576) : ∃ r : List Int × Bool, r.1.length ≤ 1048576 ∧ Hid (∀ (A0 : Option Addr) (c0 : Nat) (A4 : Option Addr) (c4 : Nat) (w : World), RowsI w A0 x0 → Ints w A4 x4 → x4.length ≤ c4 → Calls Try.prog 28 #[.slice A0 x0.length c0, .int .i64 x1, .int .i64 x2, .int .i64 x3, .slice A4 x4.length c4] w (NewIB w r)) ∧ Hid (∀ (A0 : Option Addr) (c0 : Nat) (A4 : Option Addr) (c4 : Nat) (w : World), RowsI w A0 x0 → Ints w A4 x4 → x4.length ≤ c4 → Calls Try.prog 29 #[.slice A0 x0.length c0, .int .i64 x1, .int .i64 x2, .int .i64 x3, .slice A4 x4.length c4] w (NewIB w r)) :=
  ⟨levF x0 x1 x2 x3 x4, levF_len _ _ _ _ _, Lib.hid fun A0 c0 A4 c4 w h0 h4 hc => specDL_any A0 A4 x0 x4 c0 c4 x1 x2 x3 w h0 h4 l0 l4 hc, Lib.hid fun A0 c0 A4 c4 w h0 h4 hc => implDL_any A0 A4 x0 x4 c0 c4 x1 x2 x3 w h0 h4 l0 l4 hc⟩
set_option maxHeartbeats 1600000 in
theorem FnExactDistrictLevel_walk (A0 : Option Addr) (x0 : List (List Int)) (c0 : Nat) (x1 : Int) (x2 : Int) (x3 : Int) (A4 : Option Addr) (x4 : List Int) (c4 : Nat) (w : World) (h0 : RowsI w A0 x0) (h4 : Ints w A4 x4) :
    Calls Try.prog 6 #[.slice A0 x0.length c0, .int .i64 x1, .int .i64 x2, .int .i64 x3, .slice A4 x4.length c4] w (LawOk w) := by
  by_cases l4 : x4.length ≤ 1048576
  case neg =>
    have g4 : (1048576 : Int) < x4.length := by omega
    clear l4
    go_enter Try.func6, Try.ntmps6
    go_wp2
    go_ret
    exact ⟨rfl, Below.refl _ _⟩
  by_cases l0 : tot x0 ≤ 1048576
  case neg =>
    go_enter Try.func6, Try.ntmps6
    go_wp2_with fail
    refine (szIntSS_f _ _ _ _ h0 l0).mono ?_
    rintro e w0 ⟨rfl, rfl⟩
    go_wp2
    go_ret
    exact ⟨rfl, Below.refl _ _⟩
  have e0 : (x0 == x0) = true := by simp
  have sl0 := sl_le l0
  have e4 : (x4 == x4) = true := by simp
  obtain ⟨r, hrl, cS, cI⟩ := DistrictLevel_con x0 x1 x2 x3 x4 l0 l4
  obtain ⟨ys, b⟩ := r
  have eY : (ys == ys) = true := by simp
  have hrl : ys.length ≤ 1048576 := hrl
  go_enter Try.func6, Try.ntmps6
  go_wp2_with fail
  refine (szIntSS_t _ _ _ _ h0 l0).mono ?_
  rintro e w0 ⟨rfl, rfl⟩
  go_wp2_with fail
  refine (toIntSS_any _ _ _ _ h0 l0).mono ?_
  rintro e w1 ⟨B1, d1, rfl, o1, hb1⟩
  have z2 : w.heap.size ≤ w1.heap.size := hb1.size
  have hB2 := (Below.refl w.heap.size w).trans (hb1.mono (Below.refl w.heap.size w).size)
  have y2 : w.heap.size ≤ w1.heap.size := hB2.size
  have i1 : OwnIn w1 w.heap.size w1.heap.size B1 d1 x0 := o1.inside
  go_wp2_with fail
  refine (toIntS_any _ _ _ _ (h4.below hB2) l4).mono ?_
  rintro e w3 ⟨B3, d3, rfl, o3, hb3⟩
  have z4 : w1.heap.size ≤ w3.heap.size := hb3.size
  have hB4 := hB2.trans (hb3.mono hB2.size)
  have y4 : w.heap.size ≤ w3.heap.size := hB4.size
  have s0_4 := i1.below hb3
  have t3 : Hid (∀ k, (Value.slice B3 (x4).length d3).ownBlock = some k → w1.heap.size ≤ k ∧ k < w3.heap.size) := o3.block
  go_wp2_with fail
  refine (cS.out _ _ _ _ _ s0_4.rows o3.ints o3.le_cap).mono ?_
  rintro e w5 ⟨B5, d5, rfl, o5, hb5⟩
  have z6 : w3.heap.size ≤ w5.heap.size := hb5.size
  have hB6 := hB4.trans (hb5.mono hB4.size)
  have y6 : w.heap.size ≤ w5.heap.size := hB6.size
  have s0_6 := s0_4.below hb5
  have s4_6 := o3.below hb5
  have t5 : Hid (∀ k, (Value.slice B5 (ys).length d5).ownBlock = some k → w3.heap.size ≤ k ∧ k < w5.heap.size) := o5.block
  go_wp2_with fail
  refine (toIntSS_any _ _ _ _ (h0.below hB6) l0).mono ?_
  rintro e w7 ⟨B7, d7, rfl, o7, hb7⟩
  have z8 : w5.heap.size ≤ w7.heap.size := hb7.size
  have hB8 := hB6.trans (hb7.mono hB6.size)
  have y8 : w.heap.size ≤ w7.heap.size := hB8.size
  have W0_8 := o5.below hb7
  have i7 : OwnIn w7 w5.heap.size w7.heap.size B7 d7 x0 := o7.inside
  go_wp2_with fail
  refine (toIntS_any _ _ _ _ (h4.below hB8) l4).mono ?_
  rintro e w9 ⟨B9, d9, rfl, o9, hb9⟩
  have z10 : w7.heap.size ≤ w9.heap.size := hb9.size
  have hB10 := hB8.trans (hb9.mono hB8.size)
  have y10 : w.heap.size ≤ w9.heap.size := hB10.size
  have W0_10 := W0_8.below hb9
  have x0_10 := i7.below hb9
  have t9 : Hid (∀ k, (Value.slice B9 (x4).length d9).ownBlock = some k → w7.heap.size ≤ k ∧ k < w9.heap.size) := o9.block
  go_wp2_with fail
  refine (cI.out _ _ _ _ _ x0_10.rows o9.ints o9.le_cap).mono ?_
  rintro e w11 ⟨B11, d11, rfl, o11, hb11⟩
  have z12 : w9.heap.size ≤ w11.heap.size := hb11.size
  have hB12 := hB10.trans (hb11.mono hB10.size)
  have y12 : w.heap.size ≤ w11.heap.size := hB12.size
  have W0_12 := W0_10.below hb11
  have x0_12 := x0_10.below hb11
  have x4_12 := o9.below hb11
  have t11 : Hid (∀ k, (Value.slice B11 (ys).length d11).ownBlock = some k → w9.heap.size ≤ k ∧ k < w11.heap.size) := o11.block
  go_wp2_with fail
  refine (lawEqI_any _ _ _ _ _ _ _ o11.ints W0_12.ints hrl hrl).mono ?_
  rintro e w13 ⟨rfl, n13, rfl⟩
  have hB14 := below_drewN hB12 n13
  have W0_14 := W0_12.drewN n13
  have x0_14 := x0_12.drewN n13
  have x4_14 := x4_12.drewN n13
  have G0_14 := o11.drewN n13
  go_wp2_with fail
  refine (toIntSS_any _ _ _ _ (h0.below hB14) l0).mono ?_
  rintro e w15 ⟨B15, d15, rfl, o15, hb15⟩
  have z16 : w11.heap.size ≤ w15.heap.size := hb15.size
  have hB16 := hB14.trans (hb15.mono hB14.size)
  have y16 : w.heap.size ≤ w15.heap.size := hB16.size
  have W0_16 := W0_14.below hb15
  have x0_16 := x0_14.below hb15
  have x4_16 := x4_14.below hb15
  have G0_16 := G0_14.below hb15
  have i15 : OwnIn w15 w11.heap.size w15.heap.size B15 d15 x0 := o15.inside
  go_wp2_with fail
  refine (lawEqII_any _ _ _ _ _ _ _ x0_16.rows i15.rows l0 l0).mono ?_
  rintro e w17 ⟨rfl, n17, rfl⟩
  have hB18 := below_drewN hB16 n17
  have W0_18 := W0_16.drewN n17
  have x0_18 := x0_16.drewN n17
  have x4_18 := x4_16.drewN n17
  have G0_18 := G0_16.drewN n17
  have t0_18 := i15.drewN n17
  go_wp2_with fail
  refine (toIntS_any _ _ _ _ (h4.below hB18) l4).mono ?_
  rintro e w19 ⟨B19, d19, rfl, o19, hb19⟩
  have z20 : w15.heap.size ≤ w19.heap.size := hb19.size
  have hB20 := hB18.trans (hb19.mono hB18.size)
  have y20 : w.heap.size ≤ w19.heap.size := hB20.size
  have W0_20 := W0_18.below hb19
  have x0_20 := x0_18.below hb19
  have x4_20 := x4_18.below hb19
  have G0_20 := G0_18.below hb19
  have t19 : Hid (∀ k, (Value.slice B19 (x4).length d19).ownBlock = some k → w15.heap.size ≤ k ∧ k < w19.heap.size) := o19.block
  go_wp2_with fail
  refine (lawEqI_any _ _ _ _ _ _ _ x4_20.ints o19.ints l4 l4).mono ?_
  rintro e w21 ⟨rfl, n21, rfl⟩
  have hB22 := below_drewN hB20 n21
  have W0_22 := W0_20.drewN n21
  have x0_22 := x0_20.drewN n21
  have x4_22 := x4_20.drewN n21
  have G0_22 := G0_20.drewN n21
  have t4_22 := o19.drewN n21
  go_wp2_with fail
  refine (markIntSS_any _ _ _ _ _ _ _ x0_22 l0 (by omega) (by omega)).mono ?_
  rintro e w23 ⟨rfl, o23, hw23⟩
  have z23 : w19.heap.size ≤ w23.heap.size := hw23.size
  have hB23 := below_btw hB22 hw23 (by omega) hB22.size
  have y23 : w.heap.size ≤ w23.heap.size := hB23.size
  have W0_23 := W0_22.btw hw23 (fun k e => by have := t5.out k e; omega)
  have x4_23 := x4_22.btw hw23 (fun k e => by have := t9.out k e; omega)
  have G0_23 := G0_22.btw hw23 (fun k e => by have := t11.out k e; omega)
  go_wp2_with fail
  refine (markIntS_any _ _ _ _ _ _ _ ⟨rfl, x4_23⟩ l4 (by omega) (by omega)).mono ?_
  rintro e w24 ⟨rfl, o24, hg24⟩
  have hw24 := Btw.of_grown hg24 t9.out
  have z24 : w23.heap.size ≤ w24.heap.size := hw24.size
  have hB24 := below_btw hB23 hw24 (by omega) hB23.size
  have y24 : w.heap.size ≤ w24.heap.size := hB24.size
  have W0_24 := W0_23.btw hw24 (fun k e => by have := t5.out k e; omega)
  have G0_24 := G0_23.btw hw24 (fun k e => by have := t11.out k e; omega)
  go_wp2_with fail
  refine (lawEqI_any _ _ _ _ _ _ _ G0_24.ints W0_24.ints hrl hrl).mono ?_
  rintro e w25 ⟨rfl, n25, rfl⟩
  have hB26 := below_drewN hB24 n25
  have W0_26 := W0_24.drewN n25
  have G0_26 := G0_24.drewN n25
  go_wp2_with fail
  refine (markIntS_any _ _ _ _ _ _ _ ⟨rfl, G0_26⟩ hrl (by omega) (by omega)).mono ?_
  rintro e w27 ⟨rfl, o27, hg27⟩
  have hw27 := Btw.of_grown hg27 t11.out
  have z27 : w24.heap.size ≤ w27.heap.size := hw27.size
  have hB27 := below_btw hB26 hw27 (by omega) hB26.size
  have y27 : w.heap.size ≤ w27.heap.size := hB27.size
  have W0_27 := W0_26.btw hw27 (fun k e => by have := t5.out k e; omega)
  go_wp2_with fail
  refine (heldIntS_any _ _ _ _ _ o27.2.ints hrl (by omega) (by omega)).mono ?_
  rintro e w28 ⟨rfl, rfl⟩
  go_wp2_with fail
  refine (toIntSS_any _ _ _ _ (h0.below hB27) l0).mono ?_
  rintro e w29 ⟨B29, d29, rfl, o29, hb29⟩
  have z30 : w27.heap.size ≤ w29.heap.size := hb29.size
  have hB30 := hB27.trans (hb29.mono hB27.size)
  have y30 : w.heap.size ≤ w29.heap.size := hB30.size
  have W0_30 := W0_27.below hb29
  have G0_30 := o27.2.below hb29
  have i29 : OwnIn w29 w27.heap.size w29.heap.size B29 d29 x0 := o29.inside
  go_wp2_with fail
  refine (toIntS_any _ _ _ _ (h4.below hB30) l4).mono ?_
  rintro e w31 ⟨B31, d31, rfl, o31, hb31⟩
  have z32 : w29.heap.size ≤ w31.heap.size := hb31.size
  have hB32 := hB30.trans (hb31.mono hB30.size)
  have y32 : w.heap.size ≤ w31.heap.size := hB32.size
  have W0_32 := W0_30.below hb31
  have G0_32 := G0_30.below hb31
  have s0_32 := i29.below hb31
  have t31 : Hid (∀ k, (Value.slice B31 (x4).length d31).ownBlock = some k → w29.heap.size ≤ k ∧ k < w31.heap.size) := o31.block
  go_wp2_with fail
  refine (cI.out _ _ _ _ _ s0_32.rows o31.ints o31.le_cap).mono ?_
  rintro e w33 ⟨B33, d33, rfl, o33, hb33⟩
  have z34 : w31.heap.size ≤ w33.heap.size := hb33.size
  have hB34 := hB32.trans (hb33.mono hB32.size)
  have y34 : w.heap.size ≤ w33.heap.size := hB34.size
  have W0_34 := W0_32.below hb33
  have G0_34 := G0_32.below hb33
  have s0_34 := s0_32.below hb33
  have s4_34 := o31.below hb33
  have t33 : Hid (∀ k, (Value.slice B33 (ys).length d33).ownBlock = some k → w31.heap.size ≤ k ∧ k < w33.heap.size) := o33.block
  go_wp2_with fail
  refine (lawEqI_any _ _ _ _ _ _ _ o33.ints W0_34.ints hrl hrl).mono ?_
  rintro e w35 ⟨rfl, n35, rfl⟩
  have hB36 := below_drewN hB34 n35
  have W0_36 := W0_34.drewN n35
  have G0_36 := G0_34.drewN n35
  have H0_36 := o33.drewN n35
  go_wp2_with fail
  refine (heldIntS_any _ _ _ _ _ G0_36.ints hrl (by omega) (by omega)).mono ?_
  rintro e w37 ⟨rfl, rfl⟩
  go_wp2
  go_ret
  exact ⟨rfl, hB36⟩
set_option maxRecDepth 100000 in
theorem FnExactDistrictLevel_lifted (os : Os) (started : os.Started) (H : Type) (enc : TypeId × Value → H) :
    ReturnsInHanded {} Try.checked os 6 .any (Rows.fnExactDistrictLevelSpec.pre6 enc Try.prog Try.f6 Rows.fnExactDistrictLevelRow.domain false) (Rows.fnExactDistrictLevelSpec.post enc Try.prog Try.f6 false true false false) := by
  refine returnsInHanded_of_change (C := Try.checked) Try.own started (by kernel_rfl) Try.func6
    (ChangeSpec.witness6 (enc := enc) (C := Try.checked) false ⟨#[], #[.slice none 0 0, .int .i64 0, .int .i64 0, .int .i64 0, .slice none 0 0], []⟩ 8 (by kernel_rfl) (by kernel_rfl) (by kernel_rfl) (by kernel_rfl)) ?_
  intro W base args ds gs before hval0 hW hcnd _
  have hval : ∀ (j : Nat) t v, Try.f6.params[j]? = some t → args[j]? = some v → Value.okWide Try.prog W .any base t v := hval0
  have hW' := hW
  obtain ⟨p, q, hA0, hV, rfl, hfz, hnd⟩ := hW
  have hA : DataW.TrodAll enc Try.prog W 0 (fun _ => true) true Try.f6.params.toList args.toList ds p := hA0
  rw [Try.params6] at hA hval
  obtain ⟨v0, vs0, d0, ds0, p0, q0, hargs, rfl, rfl, h0, r0⟩ := trodAll_cons hA
  obtain ⟨v1, vs1, d1, ds1, p1, q1, rfl, rfl, rfl, h1, r1⟩ := trodAll_cons r0
  obtain ⟨v2, vs2, d2, ds2, p2, q2, rfl, rfl, rfl, h2, r2⟩ := trodAll_cons r1
  obtain ⟨v3, vs3, d3, ds3, p3, q3, rfl, rfl, rfl, h3, r3⟩ := trodAll_cons r2
  obtain ⟨v4, vs4, d4, ds4, p4, q4, rfl, rfl, rfl, h4, r4⟩ := trodAll_cons r3
  obtain ⟨rfl, rfl, rfl⟩ := trodAll_nil r4
  obtain rfl : args = #[v0, v1, v2, v3, v4] := by cases args; simp_all
  obtain ⟨rfl, rfl⟩ := trodVars_none hV
  have k0 := h0
  have lt0 : ∀ x ∈ p0, x.block < W.heap.size := by obtain ⟨m, hm⟩ := k0; exact DataW.trod_lt m _ _ _ hm
  obtain ⟨a0, z0, c0, rfl, w0⟩ := openRows (hval 0 32 v0 rfl rfl) h0
  obtain ⟨a1, rfl, rfl, rfl, w1⟩ := open_int Try.underlying3 (hval 1 3 v1 rfl rfl) h1
  obtain ⟨a2, rfl, rfl, rfl, w2⟩ := open_int Try.underlying3 (hval 2 3 v2 rfl rfl) h2
  obtain ⟨a3, rfl, rfl, rfl, w3⟩ := open_int Try.underlying3 (hval 3 3 v3 rfl rfl) h3
  have k4 := h4
  have lt4 : ∀ x ∈ p4, x.block < W.heap.size := by obtain ⟨m, hm⟩ := k4; exact DataW.trod_lt m _ _ _ hm
  obtain ⟨a4, z4, c4, rfl, w4⟩ := openInts (hval 4 23 v4 rfl rfl) h4
  clear hA0 hval0
  refine (FnExactDistrictLevel_walk a0 z0 c0 a1 a2 a3 a4 z4 c4 W w0 w4).mono fun e W' ⟨he, bel⟩ => ?_
  subst he
  exact ⟨_, rfl, _, _, _, [], _, [], hW', trodAll_mk1 (shut_bool Try.underlying4 _), (trodAll_cons_mk (Below.trod Try.laidOut (by kernel_rfl) (of_decide_eq_true (by kernel_rfl)) k0 bel lt0) (trodAll_cons_mk (shut_int Try.underlying3 w1) (trodAll_cons_mk (shut_int Try.underlying3 w2) (trodAll_cons_mk (shut_int Try.underlying3 w3) (trodAll_cons_mk (Below.trod Try.laidOut (by kernel_rfl) (of_decide_eq_true (by kernel_rfl)) k4 bel lt4) trodAll_mk0))))), rfl, bel.frame _, fun h => by cases h⟩
/-- The given statement. -/
theorem FnExactDistrictLevel_holds : Rows.FnExactDistrictLevelSaid :=
  OpenClaim.holds_of_wide 6 Try.f6 rfl rfl rfl rfl rfl rfl rfl ⟨rfl, rfl, rfl, rfl, rfl⟩ rfl rfl rfl rfl rfl (by kernel_rfl) Try.func6 (by kernel_rfl)
    (of_decide_eq_true (by kernel_rfl)) (by unfold Func.isWrapper; first | (rw [if_pos (by decide +kernel)]; kernel_rfl) | (rw [if_neg (by decide +kernel)]; exact ⟨rfl, rfl⟩))
    (fun os started H enc _ => FnExactDistrictLevel_lifted os started H enc)
end Go.Proofs.Ytoblhmbpobbecaa
