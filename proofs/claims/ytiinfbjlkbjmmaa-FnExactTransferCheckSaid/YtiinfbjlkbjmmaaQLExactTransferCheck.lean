/-
  FnExactTransferCheck: the walk of the law.
-/
import Derived.Test.YtiinfbjlkbjmmaaQExO
import Derived.Test.YtiinfbjlkbjmmaaQTraX
namespace Go.Proofs.Ytiinfbjlkbjmmaa
open Go.RowKit
open Go.ChangeShapes Go.WideShapes Go.ChangeAt
set_option maxRecDepth 100000 in
set_option maxHeartbeats 6400000 in
theorem FnExactTransferCheck_walk (A0 : Option Addr) (x0 : List (ByteArray × Int)) (c0 : Nat) (A1 : Option Addr) (x1 : List Int) (c1 : Nat) (x2 : Int) (A3 : Option Addr) (x3 : List Stz) (c3 : Nat) (w : World) (h0 : PilesL w A0 x0) (h1 : Ints w A1 x1) (h3 : StepsL w A3 x3) :
    Calls Try.prog 3 #[.slice A0 x0.length c0, .slice A1 x1.length c1, .int .i64 x2, .slice A3 x3.length c3] w (LawOk w) := by
  by_cases l1 : x1.length ≤ 1048576
  case neg =>
    have g1 : (1048576 : Int) < x1.length := by omega
    clear l1
    go_enter Try.func3, Try.ntmps3
    go_wp2
    go_ret
    exact ⟨rfl, Below.refl _ _⟩
  have cZ := Lib.hid (fun w (h : PilesL w A0 x0) => szPileS_any A0 x0 c0 1048576 w h (by omega))
  by_cases l0 : szP x0 ≤ 1048576
  case neg =>
    rw [szR_f (by omega)] at cZ
    clear l0
    go_enter Try.func3, Try.ntmps3
    go_wp2_with fail
    refine (cZ.out _ h0).mono ?_
    rintro e w1 ⟨rfl, hb1⟩
    go_wp2
    go_ret
    exact ⟨rfl, hb1⟩
  rw [szR_t l0] at cZ
  obtain ⟨L, hL⟩ : ∃ L : Nat, 1048576 - szP x0 = L := ⟨_, rfl⟩
  rw [hL] at cZ
  have hL2 : L ≤ 1048576 := by omega
  have cY := Lib.hid (fun w (h : StepsL w A3 x3) => szStepS_any A3 x3 c3 L w h hL2)
  have p0 := Lib.hid (show x0.length ≤ 1048576 by unfold szP at l0; omega)
  have s0 := Lib.hid (show ∀ p ∈ x0, p.1.size ≤ 1048576 from fun p hp => by have := szT_mem p hp; unfold szP at l0; omega)
  have p1 := Lib.hid l1
  by_cases l3 : szS x3 ≤ L
  case neg =>
    rw [szR_f (by omega)] at cY
    clear l3 hL hL2 l0
    go_enter Try.func3, Try.ntmps3
    go_wp2_with fail
    refine (cZ.out _ h0).mono ?_
    rintro e w1 ⟨rfl, hb1⟩
    go_wp2_with fail
    refine (cY.out _ (h3.below hb1)).mono ?_
    rintro e w2 ⟨rfl, hb2⟩
    go_wp2
    go_ret
    exact ⟨rfl, hb1.trans (hb2.mono hb1.size)⟩
  rw [szR_t l3] at cY
  have p3 := Lib.hid (show x3.length ≤ 1048576 by unfold szS at l3; omega)
  have s3 := Lib.hid (show ∀ s ∈ x3, s.1.length ≤ 1048576 from fun s hs => by have := szC_mem s hs; unfold szS at l3; omega)
  obtain ⟨M, hM⟩ : ∃ M : Nat, L - szS x3 = M := ⟨_, rfl⟩
  rw [hM] at cY
  obtain ⟨r, hr⟩ : ∃ r, tcF x0 x1 x2 x3 = r := ⟨_, rfl⟩
  have cS := Lib.hid (fun B0 B1 B3 d0 d1 d3 w h h1 h3 hc => specTransferCheck_any B0 B1 B3 x0 x1 x3 d0 d1 d3 x2 w h h1 h3 p0.out l1 p3.out hc)
  have cI := Lib.hid (fun B0 B1 B3 d0 d1 d3 w h h1 h3 hc => transferCheck_any B0 B1 B3 x0 x1 x3 d0 d1 d3 x2 w h h1 h3 p0.out l1 p3.out hc)
  rw [hr] at cS cI
  have HB := Below.refl w.heap.size w
  clear l3 hM hL hL2 l0 hr
  go_enter Try.func3, Try.ntmps3
  go_wp2_with fail
  refine (cZ.out _ h0).mono ?_
  rintro e w1 ⟨rfl, hb1⟩
  replace h0 := h0.below hb1
  replace h1 := h1.below hb1
  replace h3 := h3.below hb1
  replace HB := HB.trans (hb1.mono HB.size)
  clear hb1
  go_wp2_with fail
  refine (cY.out _ h3).mono ?_
  rintro e w2 ⟨rfl, hb2⟩
  replace h0 := h0.below hb2
  replace h1 := h1.below hb2
  replace h3 := h3.below hb2
  replace HB := HB.trans (hb2.mono HB.size)
  clear hb2
  clear cZ cY
  go_wp2_with fail
  refine (toPileS_any A0 x0 c0 _ (h0.piles s0.out) p0.out).mono ?_
  rintro e w3 ⟨B3, d3, rfl, s0P, hb3⟩
  replace s0P := s0P.piles
  replace h0 := h0.below hb3
  replace h1 := h1.below hb3
  replace h3 := h3.below hb3
  replace HB := HB.trans (hb3.mono HB.size)
  clear hb3
  go_wp2_with fail
  refine (toIntS_any A1 x1 c1 _ h1 p1.out).mono ?_
  rintro e w4 ⟨B4, d4, rfl, s1I, hb4⟩
  have s1Icap := s1I.le_cap
  replace s1I := s1I.ints
  replace h0 := h0.below hb4
  replace h1 := h1.below hb4
  replace h3 := h3.below hb4
  replace s0P := s0P.below hb4
  replace HB := HB.trans (hb4.mono HB.size)
  clear hb4
  go_wp2_with fail
  refine (toStepS_any A3 x3 c3 _ (h3.steps s3.out) p3.out).mono ?_
  rintro e w5 ⟨B5, d5, rfl, s3S, hb5⟩
  replace h0 := h0.below hb5
  replace h1 := h1.below hb5
  replace h3 := h3.below hb5
  replace s0P := s0P.below hb5
  replace s1I := s1I.below hb5
  replace HB := HB.trans (hb5.mono HB.size)
  clear hb5
  go_wp2_with fail
  refine (cS.out _ _ _ _ _ _ _ s0P s1I s3S s1Icap).mono ?_
  rintro e w6 ⟨rfl, hb6⟩
  replace h0 := h0.below hb6
  replace h1 := h1.below hb6
  replace h3 := h3.below hb6
  replace s0P := s0P.below hb6
  replace s1I := s1I.below hb6
  replace s3S := s3S.below hb6
  replace HB := HB.trans (hb6.mono HB.size)
  clear hb6
  clear s0P
  clear s1I
  clear s3S
  clear s1Icap
  go_wp2_with fail
  refine (toPileS_any A0 x0 c0 _ (h0.piles s0.out) p0.out).mono ?_
  rintro e w7 ⟨B7, d7, rfl, x0P, hb7⟩
  replace x0P := x0P.piles
  replace h0 := h0.below hb7
  replace h1 := h1.below hb7
  replace h3 := h3.below hb7
  replace HB := HB.trans (hb7.mono HB.size)
  clear hb7
  go_wp2_with fail
  refine (toIntS_any A1 x1 c1 _ h1 p1.out).mono ?_
  rintro e w8 ⟨B8, d8, rfl, x1I, hb8⟩
  have x1Icap := x1I.le_cap
  replace x1I := x1I.ints
  replace h0 := h0.below hb8
  replace h1 := h1.below hb8
  replace h3 := h3.below hb8
  replace x0P := x0P.below hb8
  replace HB := HB.trans (hb8.mono HB.size)
  clear hb8
  go_wp2_with fail
  refine (toStepS_any A3 x3 c3 _ (h3.steps s3.out) p3.out).mono ?_
  rintro e w9 ⟨B9, d9, rfl, x3S, hb9⟩
  replace h0 := h0.below hb9
  replace h1 := h1.below hb9
  replace h3 := h3.below hb9
  replace x0P := x0P.below hb9
  replace x1I := x1I.below hb9
  replace HB := HB.trans (hb9.mono HB.size)
  clear hb9
  go_wp2_with fail
  refine (cI.out _ _ _ _ _ _ _ x0P x1I x3S x1Icap).mono ?_
  rintro e w10 ⟨rfl, hb10⟩
  replace h0 := h0.below hb10
  replace h1 := h1.below hb10
  replace h3 := h3.below hb10
  replace x0P := x0P.below hb10
  replace x1I := x1I.below hb10
  replace x3S := x3S.below hb10
  replace HB := HB.trans (hb10.mono HB.size)
  clear hb10
  clear cS cI x1Icap
  go_wp2_with fail
  refine (toPileS_any A0 x0 c0 _ (h0.piles s0.out) p0.out).mono ?_
  rintro e w11 ⟨B11, d11, rfl, t0P, hb11⟩
  replace t0P := t0P.piles
  replace h0 := h0.below hb11
  replace h1 := h1.below hb11
  replace h3 := h3.below hb11
  replace x0P := x0P.below hb11
  replace x1I := x1I.below hb11
  replace x3S := x3S.below hb11
  replace HB := HB.trans (hb11.mono HB.size)
  clear hb11
  go_wp2_with fail
  refine (eqPileS_any _ _ x0 _ _ _ x0P t0P p0.out).mono ?_
  rintro e w12 ⟨rfl, hb12⟩
  replace h0 := h0.below hb12
  replace h1 := h1.below hb12
  replace h3 := h3.below hb12
  replace x0P := x0P.below hb12
  replace x1I := x1I.below hb12
  replace x3S := x3S.below hb12
  replace t0P := t0P.below hb12
  replace HB := HB.trans (hb12.mono HB.size)
  clear hb12
  clear x0P
  clear t0P
  go_wp2_with fail
  refine (toIntS_any A1 x1 c1 _ h1 p1.out).mono ?_
  rintro e w13 ⟨B13, d13, rfl, t1I, hb13⟩
  have t1Icap := t1I.le_cap
  replace t1I := t1I.ints
  replace h0 := h0.below hb13
  replace h1 := h1.below hb13
  replace h3 := h3.below hb13
  replace x1I := x1I.below hb13
  replace x3S := x3S.below hb13
  replace HB := HB.trans (hb13.mono HB.size)
  clear hb13
  have e1 : (x1 == x1) = true := by simp
  go_wp2_with fail
  refine (lawEqI_any _ _ _ _ _ _ _ x1I t1I p1.out p1.out).mono ?_
  rintro e w14 ⟨rfl, n1, rfl⟩
  clear x1I
  clear t1I
  replace h0 := h0.drewN n1
  replace h1 := h1.drewN n1
  replace h3 := h3.drewN n1
  replace x3S := x3S.drewN n1
  replace HB := below_drewN HB n1
  go_wp2_with fail
  refine (toStepS_any A3 x3 c3 _ (h3.steps s3.out) p3.out).mono ?_
  rintro e w15 ⟨B15, d15, rfl, t3S, hb15⟩
  replace h0 := h0.below hb15
  replace h1 := h1.below hb15
  replace h3 := h3.below hb15
  replace x3S := x3S.below hb15
  replace HB := HB.trans (hb15.mono HB.size)
  clear hb15
  go_wp2_with fail
  refine (eqStepS_any _ _ x3 _ _ _ x3S t3S p3.out).mono ?_
  rintro e w16 ⟨rfl, hb16⟩
  replace h0 := h0.below hb16
  replace h1 := h1.below hb16
  replace h3 := h3.below hb16
  replace x3S := x3S.below hb16
  replace t3S := t3S.below hb16
  replace HB := HB.trans (hb16.mono HB.size)
  clear hb16
  go_wp2
  go_ret
  exact ⟨rfl, HB⟩
set_option maxRecDepth 100000 in
theorem FnExactTransferCheck_lifted (os : Os) (started : os.Started) (H : Type) (enc : TypeId × Value → H) :
    ReturnsInHanded {} Try.checked os 3 .any (Rows.fnExactTransferCheckSpec.pre6 enc Try.prog Try.f3 Rows.fnExactTransferCheckRow.domain false) (Rows.fnExactTransferCheckSpec.post enc Try.prog Try.f3 false true false false) := by
  refine returnsInHanded_of_change (C := Try.checked) Try.own started (by kernel_rfl) Try.func3
    (ChangeSpec.witness6 (enc := enc) (C := Try.checked) false ⟨#[], #[.slice none 0 0, .slice none 0 0, .int .i64 0, .slice none 0 0], []⟩ 8 (by kernel_rfl) (by kernel_rfl) (by kernel_rfl) (by kernel_rfl)) ?_
  intro W base args ds gs before hval0 hW hcnd _
  have hval : ∀ (j : Nat) t v, Try.f3.params[j]? = some t → args[j]? = some v → Value.okWide Try.prog W .any base t v := hval0
  have hW' := hW
  obtain ⟨p, q, hA0, hV, rfl, hfz, hnd⟩ := hW
  have hA : DataW.TrodAll enc Try.prog W 0 (fun _ => true) true Try.f3.params.toList args.toList ds p := hA0
  rw [Try.params3] at hA hval
  obtain ⟨v0, vs0, d0, ds0, p0, q0, hargs, rfl, rfl, h0, r0⟩ := trodAll_cons hA
  obtain ⟨v1, vs1, d1, ds1, p1, q1, rfl, rfl, rfl, h1, r1⟩ := trodAll_cons r0
  obtain ⟨v2, vs2, d2, ds2, p2, q2, rfl, rfl, rfl, h2, r2⟩ := trodAll_cons r1
  obtain ⟨v3, vs3, d3, ds3, p3, q3, rfl, rfl, rfl, h3, r3⟩ := trodAll_cons r2
  obtain ⟨rfl, rfl, rfl⟩ := trodAll_nil r3
  obtain rfl : args = #[v0, v1, v2, v3] := by cases args; simp_all
  obtain ⟨rfl, rfl⟩ := trodVars_none hV
  have k0 := h0
  have lt0 : ∀ x ∈ p0, x.block < W.heap.size := by obtain ⟨m, hm⟩ := k0; exact DataW.trod_lt m _ _ _ hm
  obtain ⟨a0, z0, c0, rfl, w0⟩ := openPiles (hval 0 22 v0 rfl rfl) h0
  have k1 := h1
  have lt1 : ∀ x ∈ p1, x.block < W.heap.size := by obtain ⟨m, hm⟩ := k1; exact DataW.trod_lt m _ _ _ hm
  obtain ⟨a1, z1, c1, rfl, w1⟩ := openInts (hval 1 23 v1 rfl rfl) h1
  obtain ⟨a2, rfl, rfl, rfl, w2⟩ := open_int Try.underlying3 (hval 2 3 v2 rfl rfl) h2
  have k3 := h3
  have lt3 : ∀ x ∈ p3, x.block < W.heap.size := by obtain ⟨m, hm⟩ := k3; exact DataW.trod_lt m _ _ _ hm
  obtain ⟨a3, z3, c3, rfl, w3⟩ := openSteps (hval 3 24 v3 rfl rfl) h3
  clear hA0 hval0
  refine (FnExactTransferCheck_walk a0 z0 c0 a1 z1 c1 a2 a3 z3 c3 W w0 w1 w3).mono fun e W' ⟨he, bel⟩ => ?_
  subst he
  exact ⟨_, rfl, _, _, _, [], _, [], hW', trodAll_mk1 (shut_bool Try.underlying4 _), (trodAll_cons_mk (Below.trod Try.laidOut (by kernel_rfl) (of_decide_eq_true (by kernel_rfl)) k0 bel lt0) (trodAll_cons_mk (Below.trod Try.laidOut (by kernel_rfl) (of_decide_eq_true (by kernel_rfl)) k1 bel lt1) (trodAll_cons_mk (shut_int Try.underlying3 w2) (trodAll_cons_mk (Below.trod Try.laidOut (by kernel_rfl) (of_decide_eq_true (by kernel_rfl)) k3 bel lt3) trodAll_mk0)))), rfl, bel.frame _, fun h => by cases h⟩
set_option maxRecDepth 100000 in
/-- The given statement. -/
theorem FnExactTransferCheck_holds : Rows.FnExactTransferCheckSaid :=
  OpenClaim.holds_of_wide 3 Try.f3 rfl rfl rfl rfl rfl rfl rfl ⟨rfl, rfl, rfl, rfl, rfl⟩ rfl rfl rfl rfl rfl (by kernel_rfl) Try.func3 (by kernel_rfl)
    (of_decide_eq_true (by kernel_rfl)) (by unfold Func.isWrapper; first | (rw [if_pos (by decide +kernel)]; kernel_rfl) | (rw [if_neg (by decide +kernel)]; exact ⟨rfl, rfl⟩))
    (fun os started H enc _ => FnExactTransferCheck_lifted os started H enc)
end Go.Proofs.Ytiinfbjlkbjmmaa
