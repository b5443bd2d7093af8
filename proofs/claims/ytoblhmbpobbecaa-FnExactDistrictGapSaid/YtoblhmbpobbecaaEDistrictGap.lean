/-
  For all votes of districts, seats, methods and lots, the law FnExactDistrictGap returns true: the program's DistrictGap returns what the reference's returns and keeps its arguments. There are no conditions.
-/
import Derived.Test.YtoblhmbpobbecaaDistG
import Derived.Test.YtoblhmbpobbecaaOpenM
import Derived.Test.YtoblhmbpobbecaaMatM
import Derived.Test.YtoblhmbpobbecaaCopy
namespace Go.Proofs.Ytoblhmbpobbecaa
open Go.ChangeShapes Go.WideShapes Go.ChangeAt Go.RowKit
theorem DistrictGap_con (x0 : List (List Int)) (x1 x2 : Int) (x3 : List Int) (l0 : tot x0 ≤ 1048576) (l3 : x3.length ≤ 1048576) : ∃ r : Int, Hid (∀ (A0 : Option Addr) (c0 : Nat) (A3 : Option Addr) (c3 : Nat) (w : World), RowsI w A0 x0 → Ints w A3 x3 → x3.length ≤ c3 → Calls Try.prog 17 #[.slice A0 x0.length c0, .int .i64 x1, .int .i64 x2, .slice A3 x3.length c3] w (Bl w (.int .i64 r))) ∧ Hid (∀ (A0 : Option Addr) (c0 : Nat) (A3 : Option Addr) (c3 : Nat) (w : World), RowsI w A0 x0 → Ints w A3 x3 → x3.length ≤ c3 → Calls Try.prog 20 #[.slice A0 x0.length c0, .int .i64 x1, .int .i64 x2, .slice A3 x3.length c3] w (Bl w (.int .i64 r))) :=
  ⟨dgF x0 x1 x2 x3, Lib.hid fun A0 c0 A3 c3 w h0 h3 hc => specDG_any A0 A3 x0 x3 c0 c3 x1 x2 w h0 h3 l0 l3 hc, Lib.hid fun A0 c0 A3 c3 w h0 h3 hc => implDG_any A0 A3 x0 x3 c0 c3 x1 x2 w h0 h3 l0 l3 hc⟩
set_option maxHeartbeats 1600000 in
theorem FnExactDistrictGap_walk (A0 : Option Addr) (x0 : List (List Int)) (c0 : Nat) (x1 : Int) (x2 : Int) (A3 : Option Addr) (x3 : List Int) (c3 : Nat) (w : World) (h0 : RowsI w A0 x0) (h3 : Ints w A3 x3) :
    Calls Try.prog 4 #[.slice A0 x0.length c0, .int .i64 x1, .int .i64 x2, .slice A3 x3.length c3] w (LawOk w) := by
  by_cases l3 : x3.length ≤ 1048576
  case neg =>
    have g3 : (1048576 : Int) < x3.length := by omega
    clear l3
    go_enter Try.func4, Try.ntmps4
    go_wp2
    go_ret
    exact ⟨rfl, Below.refl _ _⟩
  by_cases l0 : tot x0 ≤ 1048576
  case neg =>
    go_enter Try.func4, Try.ntmps4
    go_wp2_with fail
    refine (szIntSS_f _ _ _ _ h0 l0).mono ?_
    rintro e w0 ⟨rfl, rfl⟩
    go_wp2
    go_ret
    exact ⟨rfl, Below.refl _ _⟩
  have e0 : (x0 == x0) = true := by simp
  have sl0 := sl_le l0
  have e3 : (x3 == x3) = true := by simp
  obtain ⟨r, cS, cI⟩ := DistrictGap_con x0 x1 x2 x3 l0 l3
  go_enter Try.func4, Try.ntmps4
  go_wp2_with fail
  refine (szIntSS_t _ _ _ _ h0 l0).mono ?_
  rintro e w0 ⟨rfl, rfl⟩
  go_wp2_with fail
  refine (toIntSS_any _ _ _ _ h0 l0).mono ?_
  rintro e w1 ⟨B1, d1, rfl, o1, hb1⟩
  have z2 : w.heap.size ≤ w1.heap.size := hb1.size
  have hB2 := (Below.refl w.heap.size w).trans (hb1.mono (Below.refl w.heap.size w).size)
  have y2 : w.heap.size ≤ w1.heap.size := hB2.size
  have i1 : OwnIn w1 w.heap.size w1.heap.size B1 d1 x0 := o1.inside
  go_wp2_with fail
  refine (toIntS_any _ _ _ _ (h3.below hB2) l3).mono ?_
  rintro e w3 ⟨B3, d3, rfl, o3, hb3⟩
  have z4 : w1.heap.size ≤ w3.heap.size := hb3.size
  have hB4 := hB2.trans (hb3.mono hB2.size)
  have y4 : w.heap.size ≤ w3.heap.size := hB4.size
  have s0_4 := i1.below hb3
  have t3 : Hid (∀ k, (Value.slice B3 (x3).length d3).ownBlock = some k → w1.heap.size ≤ k ∧ k < w3.heap.size) := o3.block
  go_wp2_with fail
  refine (cS.out _ _ _ _ _ s0_4.rows o3.ints o3.le_cap).mono ?_
  rintro e w5 ⟨rfl, hb5⟩
  have z6 : w3.heap.size ≤ w5.heap.size := hb5.size
  have hB6 := hB4.trans (hb5.mono hB4.size)
  have y6 : w.heap.size ≤ w5.heap.size := hB6.size
  have s0_6 := s0_4.below hb5
  have s3_6 := o3.below hb5
  go_wp2_with fail
  refine (toIntSS_any _ _ _ _ (h0.below hB6) l0).mono ?_
  rintro e w7 ⟨B7, d7, rfl, o7, hb7⟩
  have z8 : w5.heap.size ≤ w7.heap.size := hb7.size
  have hB8 := hB6.trans (hb7.mono hB6.size)
  have y8 : w.heap.size ≤ w7.heap.size := hB8.size
  have i7 : OwnIn w7 w5.heap.size w7.heap.size B7 d7 x0 := o7.inside
  go_wp2_with fail
  refine (toIntS_any _ _ _ _ (h3.below hB8) l3).mono ?_
  rintro e w9 ⟨B9, d9, rfl, o9, hb9⟩
  have z10 : w7.heap.size ≤ w9.heap.size := hb9.size
  have hB10 := hB8.trans (hb9.mono hB8.size)
  have y10 : w.heap.size ≤ w9.heap.size := hB10.size
  have x0_10 := i7.below hb9
  have t9 : Hid (∀ k, (Value.slice B9 (x3).length d9).ownBlock = some k → w7.heap.size ≤ k ∧ k < w9.heap.size) := o9.block
  go_wp2_with fail
  refine (cI.out _ _ _ _ _ x0_10.rows o9.ints o9.le_cap).mono ?_
  rintro e w11 ⟨rfl, hb11⟩
  have z12 : w9.heap.size ≤ w11.heap.size := hb11.size
  have hB12 := hB10.trans (hb11.mono hB10.size)
  have y12 : w.heap.size ≤ w11.heap.size := hB12.size
  have x0_12 := x0_10.below hb11
  have x3_12 := o9.below hb11
  go_wp2_with fail
  refine (toIntSS_any _ _ _ _ (h0.below hB12) l0).mono ?_
  rintro e w13 ⟨B13, d13, rfl, o13, hb13⟩
  have z14 : w11.heap.size ≤ w13.heap.size := hb13.size
  have hB14 := hB12.trans (hb13.mono hB12.size)
  have y14 : w.heap.size ≤ w13.heap.size := hB14.size
  have x0_14 := x0_12.below hb13
  have x3_14 := x3_12.below hb13
  have i13 : OwnIn w13 w11.heap.size w13.heap.size B13 d13 x0 := o13.inside
  go_wp2_with fail
  refine (lawEqII_any _ _ _ _ _ _ _ x0_14.rows i13.rows l0 l0).mono ?_
  rintro e w15 ⟨rfl, n15, rfl⟩
  have hB16 := below_drewN hB14 n15
  have x0_16 := x0_14.drewN n15
  have x3_16 := x3_14.drewN n15
  have t0_16 := i13.drewN n15
  go_wp2_with fail
  refine (toIntS_any _ _ _ _ (h3.below hB16) l3).mono ?_
  rintro e w17 ⟨B17, d17, rfl, o17, hb17⟩
  have z18 : w13.heap.size ≤ w17.heap.size := hb17.size
  have hB18 := hB16.trans (hb17.mono hB16.size)
  have y18 : w.heap.size ≤ w17.heap.size := hB18.size
  have x0_18 := x0_16.below hb17
  have x3_18 := x3_16.below hb17
  have t17 : Hid (∀ k, (Value.slice B17 (x3).length d17).ownBlock = some k → w13.heap.size ≤ k ∧ k < w17.heap.size) := o17.block
  go_wp2_with fail
  refine (lawEqI_any _ _ _ _ _ _ _ x3_18.ints o17.ints l3 l3).mono ?_
  rintro e w19 ⟨rfl, n19, rfl⟩
  have hB20 := below_drewN hB18 n19
  have x0_20 := x0_18.drewN n19
  have x3_20 := x3_18.drewN n19
  have t3_20 := o17.drewN n19
  go_wp2
  go_ret
  exact ⟨rfl, hB20⟩
set_option maxRecDepth 100000 in
theorem FnExactDistrictGap_lifted (os : Os) (started : os.Started) (H : Type) (enc : TypeId × Value → H) :
    ReturnsInHanded {} Try.checked os 4 .any (Rows.fnExactDistrictGapSpec.pre6 enc Try.prog Try.f4 Rows.fnExactDistrictGapRow.domain false) (Rows.fnExactDistrictGapSpec.post enc Try.prog Try.f4 false true false false) := by
  refine returnsInHanded_of_change (C := Try.checked) Try.own started (by kernel_rfl) Try.func4
    (ChangeSpec.witness6 (enc := enc) (C := Try.checked) false ⟨#[], #[.slice none 0 0, .int .i64 0, .int .i64 0, .slice none 0 0], []⟩ 8 (by kernel_rfl) (by kernel_rfl) (by kernel_rfl) (by kernel_rfl)) ?_
  intro W base args ds gs before hval0 hW hcnd _
  have hval : ∀ (j : Nat) t v, Try.f4.params[j]? = some t → args[j]? = some v → Value.okWide Try.prog W .any base t v := hval0
  have hW' := hW
  obtain ⟨p, q, hA0, hV, rfl, hfz, hnd⟩ := hW
  have hA : DataW.TrodAll enc Try.prog W 0 (fun _ => true) true Try.f4.params.toList args.toList ds p := hA0
  rw [Try.params4] at hA hval
  obtain ⟨v0, vs0, d0, ds0, p0, q0, hargs, rfl, rfl, h0, r0⟩ := trodAll_cons hA
  obtain ⟨v1, vs1, d1, ds1, p1, q1, rfl, rfl, rfl, h1, r1⟩ := trodAll_cons r0
  obtain ⟨v2, vs2, d2, ds2, p2, q2, rfl, rfl, rfl, h2, r2⟩ := trodAll_cons r1
  obtain ⟨v3, vs3, d3, ds3, p3, q3, rfl, rfl, rfl, h3, r3⟩ := trodAll_cons r2
  obtain ⟨rfl, rfl, rfl⟩ := trodAll_nil r3
  obtain rfl : args = #[v0, v1, v2, v3] := by cases args; simp_all
  obtain ⟨rfl, rfl⟩ := trodVars_none hV
  have k0 := h0
  have lt0 : ∀ x ∈ p0, x.block < W.heap.size := by obtain ⟨m, hm⟩ := k0; exact DataW.trod_lt m _ _ _ hm
  obtain ⟨a0, z0, c0, rfl, w0⟩ := openRows (hval 0 32 v0 rfl rfl) h0
  obtain ⟨a1, rfl, rfl, rfl, w1⟩ := open_int Try.underlying3 (hval 1 3 v1 rfl rfl) h1
  obtain ⟨a2, rfl, rfl, rfl, w2⟩ := open_int Try.underlying3 (hval 2 3 v2 rfl rfl) h2
  have k3 := h3
  have lt3 : ∀ x ∈ p3, x.block < W.heap.size := by obtain ⟨m, hm⟩ := k3; exact DataW.trod_lt m _ _ _ hm
  obtain ⟨a3, z3, c3, rfl, w3⟩ := openInts (hval 3 23 v3 rfl rfl) h3
  clear hA0 hval0
  refine (FnExactDistrictGap_walk a0 z0 c0 a1 a2 a3 z3 c3 W w0 w3).mono fun e W' ⟨he, bel⟩ => ?_
  subst he
  exact ⟨_, rfl, _, _, _, [], _, [], hW', trodAll_mk1 (shut_bool Try.underlying4 _), (trodAll_cons_mk (Below.trod Try.laidOut (by kernel_rfl) (of_decide_eq_true (by kernel_rfl)) k0 bel lt0) (trodAll_cons_mk (shut_int Try.underlying3 w1) (trodAll_cons_mk (shut_int Try.underlying3 w2) (trodAll_cons_mk (Below.trod Try.laidOut (by kernel_rfl) (of_decide_eq_true (by kernel_rfl)) k3 bel lt3) trodAll_mk0)))), rfl, bel.frame _, fun h => by cases h⟩
/-- The given statement. -/
theorem FnExactDistrictGap_holds : Rows.FnExactDistrictGapSaid :=
  OpenClaim.holds_of_wide 4 Try.f4 rfl rfl rfl rfl rfl rfl rfl ⟨rfl, rfl, rfl, rfl, rfl⟩ rfl rfl rfl rfl rfl (by kernel_rfl) Try.func4 (by kernel_rfl)
    (of_decide_eq_true (by kernel_rfl)) (by unfold Func.isWrapper; first | (rw [if_pos (by decide +kernel)]; kernel_rfl) | (rw [if_neg (by decide +kernel)]; exact ⟨rfl, rfl⟩))
    (fun os started H enc _ => FnExactDistrictGap_lifted os started H enc)
end Go.Proofs.Ytoblhmbpobbecaa
