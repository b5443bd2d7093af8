/-
  FnExactTransferSteps: the walk of the law.
-/
import Derived.Test.YtiinfbjlkbjmmaaQExO
import Derived.Test.YtiinfbjlkbjmmaaQExTA
import Derived.Test.YtiinfbjlkbjmmaaQTraV
namespace Go.Proofs.Ytiinfbjlkbjmmaa
open Go.RowKit
open Go.ChangeShapes Go.WideShapes Go.ChangeAt
set_option maxRecDepth 100000 in
theorem slen_le : ∀ {ls : List Nat}, (∀ n ∈ ls, n ≤ 5) → slen ls ≤ 12 * ls.length := by
  intro ls
  induction ls with
  | nil => simp [slen]
  | cons m t ih =>
    intro h
    have h1 := h m (by simp)
    have h2 := ih (fun n hn => h n (by simp [hn]))
    rw [slen_cons, List.length_cons]
    omega
set_option maxRecDepth 100000 in
theorem zmark_small {k : Int} {vs : List Vsz} {m : Nat} (h : ∀ v ∈ vs, v.2.2.1.length ≤ m) : ∀ v ∈ zmark k vs, v.2.2.1.length ≤ m := by
  intro v hv
  have h1 : vkey v ∈ (zmark k vs).map vkey := List.mem_map.2 ⟨v, hv, rfl⟩
  rw [zmark_key] at h1
  obtain ⟨u, hu, e⟩ := List.mem_map.1 h1
  have e2 : u.2.2.1.length = v.2.2.1.length := congrArg (fun p => p.2.1) e
  have := h u hu
  omega
set_option maxRecDepth 100000 in
theorem eqStepN_any (A A' : Option Addr) (ss : List Stz) (n c c' : Nat) (w : World) (hn : ss.length = n) (h : StepsZ w A ss) (h' : StepsZ w A' ss) (hl : n ≤ 1048576) :
    Calls Try.prog 17 #[.slice A n c, .slice A' n c'] w (Bl w (.bool true)) := by
  subst hn
  exact eqStepS_any A A' ss c c' w h h' hl
set_option maxRecDepth 100000 in
theorem heldStepN_any (A : Option Addr) (ls : List Nat) (n c : Nat) (w : World) (hn : ls.length = n) (h : StepsZ w A (smark 1 ls)) (hl : n ≤ 1048576) (hk1 : slen ls ≤ 100000000) :
    Calls Try.prog 34 #[.slice A n c, .int .i64 1] w (Ret w (.int .i64 (1 + slen ls))) := by
  subst hn
  exact heldStepS_any A ls c 1 w h hl (by omega) (by omega)
set_option maxRecDepth 100000 in
/-- The program's steps, as a law wants them. -/
theorem newSA_z {w w' : World} {rs : List Stp} {b : Bool} {e : Ending} (h : NewSA w (rs, b) e w') (hs : ∀ s ∈ rs, s.1.length ≤ 5) :
    ∃ A c us, e = .returned (.tuple #[.slice A rs.length c, .bool b]) ∧ OwnZ w' w.heap.size w.heap.size A rs.length c us ∧ us.map spz = rs.map stz ∧ Apart (us.map vkey) ∧ us.map vlen = rs.map (fun s => s.1.length) ∧ (∀ v ∈ us, v.2.2.1.length ≤ 1048576) ∧ Below w.heap.size w w' := by
  obtain ⟨A, c, vs, rfl, ho, ev, hap, hb⟩ := h
  simp only at ev
  have e1 : (vs.map vz).map spz = rs.map stz := by
    rw [← ev, List.map_map, List.map_map]
    exact List.map_congr_left fun v _ => rfl
  have e2 : (vs.map vz).map vlen = rs.map (fun s => s.1.length) := by
    rw [← ev, List.map_map, List.map_map]
    refine List.map_congr_left fun v _ => ?_
    simp [vlen, vz, sp]
  refine ⟨A, c, vs.map vz, rfl, ho.zz, e1, by rw [keyS_z]; exact hap, e2, fun v hv => ?_, hb⟩
  have h1 : spz v ∈ rs.map stz := by rw [← e1]; exact List.mem_map.2 ⟨v, hv, rfl⟩
  obtain ⟨s, hs1, hs2⟩ := List.mem_map.1 h1
  have h2 := hs s hs1
  have h3 : (stz s).1.length = (spz v).1.length := by rw [hs2]
  simp [stz, spz] at h3
  omega
set_option maxRecDepth 100000 in
set_option maxHeartbeats 6400000 in
theorem FnExactTransferSteps_walk (A0 : Option Addr) (x0 : List (ByteArray × Int)) (c0 : Nat) (A1 : Option Addr) (x1 : List Int) (c1 : Nat) (x2 : Int) (w : World) (h0 : PilesL w A0 x0) (h1 : Ints w A1 x1) :
    Calls Try.prog 6 #[.slice A0 x0.length c0, .slice A1 x1.length c1, .int .i64 x2] w (LawOk w) := by
  by_cases l1 : x1.length ≤ 1048576
  case neg =>
    have g1 : (1048576 : Int) < x1.length := by omega
    clear l1
    go_enter Try.func6, Try.ntmps6
    go_wp2
    go_ret
    exact ⟨rfl, Below.refl _ _⟩
  have cZ := Lib.hid (fun w (h : PilesL w A0 x0) => szPileS_any A0 x0 c0 1048576 w h (by omega))
  by_cases l0 : szP x0 ≤ 1048576
  case neg =>
    rw [szR_f (by omega)] at cZ
    clear l0
    go_enter Try.func6, Try.ntmps6
    go_wp2_with fail
    refine (cZ.out _ h0).mono ?_
    rintro e w1 ⟨rfl, hb1⟩
    go_wp2
    go_ret
    exact ⟨rfl, hb1⟩
  rw [szR_t l0] at cZ
  obtain ⟨L, hL⟩ : ∃ L : Nat, 1048576 - szP x0 = L := ⟨_, rfl⟩
  rw [hL] at cZ
  have hl0 : x0.length ≤ 1048576 := by unfold szP at l0; omega
  have p0 := Lib.hid hl0
  have s0 := Lib.hid (show ∀ p ∈ x0, p.1.size ≤ 1048576 from fun p hp => by have := szT_mem p hp; unfold szP at l0; omega)
  have p1 := Lib.hid l1
  have e1 : (x1 == x1) = true := by simp
  have cS := Lib.hid (fun B0 B1 d0 d1 w h h1 hc => specTransferSteps_any B0 B1 x0 x1 d0 d1 x2 w h h1 p0.out l1 hc)
  have cI := Lib.hid (fun B0 B1 d0 d1 w h h1 hc => transferStepsA_any B0 B1 x0 x1 d0 d1 x2 w h h1 p0.out l1 hc)
  obtain ⟨hs1, hs2⟩ := tr_small x0 x1 x2
  obtain ⟨K, hK⟩ : ∃ K : Nat, 1 + 2 * x0.length = K := ⟨_, rfl⟩
  have hK1 : K ≤ 3000000 := by omega
  have cMP := Lib.hid (fun A n c base w (e : x0.length = n) h => (hK ▸ e ▸ markPileS_any A x0 x0.length c 1 base w (e.symm ▸ h) p0.out (by omega) : Calls Try.prog 31 #[.slice A n c, .int .i64 1] w (fun e w' => e = .returned (.int .i64 (K : Int)) ∧ w.grownBy w' (Value.slice A n c).ownBlock)))
  generalize trF x0 x1 x2 = r at *
  obtain ⟨rs, b⟩ := r
  have hs1 : rs.length ≤ 5 := hs1
  have hs2 : ∀ s ∈ rs, s.1.length ≤ 5 := hs2
  obtain ⟨ls, hls⟩ : ∃ ls, rs.map (fun s => s.1.length) = ls := ⟨_, rfl⟩
  have hln : ls.length = rs.length := by rw [← hls, List.length_map]
  have hsl : slen ls ≤ 60 := by
    have := slen_le (ls := ls) (fun n hn => by rw [← hls] at hn; obtain ⟨s, h1, rfl⟩ := List.mem_map.1 hn; exact hs2 s h1)
    omega
  have HLN := Lib.hid hln
  have HS2 := Lib.hid hs2
  have HLS := Lib.hid hls
  have HSN := Lib.hid (show (rs.map stz).length = rs.length from List.length_map _)
  have HB := Below.refl w.heap.size w
  clear l0 hL hl0 hK hs2 hls hln
  go_enter Try.func6, Try.ntmps6
  go_wp2_with fail
  refine (cZ.out _ h0).mono ?_
  rintro e w1 ⟨rfl, hb1⟩
  replace HB := HB.trans (hb1.mono HB.size)
  have z1 := hb1.size
  clear hb1
  go_wp2_with fail
  refine (toPileS_any A0 x0 c0 _ ((h0.below HB).piles s0.out) p0.out).mono ?_
  rintro e w2 ⟨B2, d2, rfl, s0P, hb2⟩
  replace s0P := s0P.piles
  replace HB := HB.trans (hb2.mono HB.size)
  have z2 := hb2.size
  clear hb2
  go_wp2_with fail
  refine (toIntS_any A1 x1 c1 _ (h1.below HB) p1.out).mono ?_
  rintro e w3 ⟨B3, d3, rfl, s1I, hb3⟩
  have s1Icap := s1I.le_cap
  replace s1I := s1I.ints
  replace s0P := s0P.below hb3
  replace HB := HB.trans (hb3.mono HB.size)
  have z3 := hb3.size
  clear hb3
  go_wp2_with fail
  refine (cS.out _ _ _ _ _ s0P s1I s1Icap).mono ?_
  rintro e w4 ⟨BW, dW, vW, rfl, oW, eW, hb4⟩
  have fW := oW.z eW HS2.out
  clear oW eW s1Icap
  clear s0P
  clear s1I
  replace HB := HB.trans (hb4.mono HB.size)
  have z4 := hb4.size
  clear hb4
  have HW := Below.refl w4.heap.size w4
  go_wp2_with fail
  refine (toPileS_any A0 x0 c0 _ ((h0.below HB).piles s0.out) p0.out).mono ?_
  rintro e w5 ⟨B5, d5, rfl, x0P, hb5⟩
  have tx0P := Lib.hid x0P.block
  replace HB := HB.trans (hb5.mono HB.size)
  replace HW := HW.trans (hb5.mono HW.size)
  have z5 := hb5.size
  clear hb5
  go_wp2_with fail
  refine (toIntS_any A1 x1 c1 _ (h1.below HB) p1.out).mono ?_
  rintro e w6 ⟨B6, d6, rfl, x1I, hb6⟩
  have x1Icap := x1I.le_cap
  have tx1I := Lib.hid x1I.block
  replace x0P := x0P.below hb6
  replace HB := HB.trans (hb6.mono HB.size)
  replace HW := HW.trans (hb6.mono HW.size)
  have z6 := hb6.size
  clear hb6
  go_wp2_with fail
  refine (cI.out _ _ _ _ _ x0P.piles x1I.ints x1Icap).mono ?_
  rintro e w7 hN
  obtain ⟨BG, dG, us, rfl, oG, eG, aG, lG, kG, hb7⟩ := newSA_z hN HS2.out
  clear hN x1Icap
  have AG := Lib.hid aG
  have EG := Lib.hid eG
  have LG := Lib.hid (lG.trans HLS.out)
  have KG := Lib.hid kG
  clear aG eG lG kG
  replace x0P := x0P.below hb7
  replace x1I := x1I.below hb7
  replace HB := HB.trans (hb7.mono HB.size)
  replace HW := HW.trans (hb7.mono HW.size)
  have z7 := hb7.size
  clear hb7
  go_wp2_with fail
  refine (eqStepN_any _ _ _ _ _ _ _ HSN.out (EG.out ▸ oG.z KG.out) (fW.below HW) (by omega)).mono ?_
  rintro e w8 ⟨rfl, hb8⟩
  replace x0P := x0P.below hb8
  replace x1I := x1I.below hb8
  replace oG := oG.below hb8
  replace HB := HB.trans (hb8.mono HB.size)
  replace HW := HW.trans (hb8.mono HW.size)
  have z8 := hb8.size
  clear hb8
  go_wp2_with fail
  refine (toPileS_any A0 x0 c0 _ ((h0.below HB).piles s0.out) p0.out).mono ?_
  rintro e w9 ⟨B9, d9, rfl, t0P, hb9⟩
  replace t0P := t0P.piles
  replace x0P := x0P.below hb9
  replace x1I := x1I.below hb9
  replace oG := oG.below hb9
  replace HB := HB.trans (hb9.mono HB.size)
  replace HW := HW.trans (hb9.mono HW.size)
  have z9 := hb9.size
  clear hb9
  go_wp2_with fail
  refine (eqPileS_any _ _ x0 _ _ _ x0P.piles t0P p0.out).mono ?_
  rintro e w10 ⟨rfl, hb10⟩
  replace x0P := x0P.below hb10
  replace x1I := x1I.below hb10
  replace oG := oG.below hb10
  replace t0P := t0P.below hb10
  replace HB := HB.trans (hb10.mono HB.size)
  replace HW := HW.trans (hb10.mono HW.size)
  have z10 := hb10.size
  clear hb10
  clear t0P
  go_wp2_with fail
  refine (toIntS_any A1 x1 c1 _ (h1.below HB) p1.out).mono ?_
  rintro e w11 ⟨B11, d11, rfl, t1I, hb11⟩
  have t1Icap := t1I.le_cap
  replace t1I := t1I.ints
  replace x0P := x0P.below hb11
  replace x1I := x1I.below hb11
  replace oG := oG.below hb11
  replace HB := HB.trans (hb11.mono HB.size)
  replace HW := HW.trans (hb11.mono HW.size)
  have z11 := hb11.size
  clear hb11
  go_wp2_with fail
  refine (lawEqI_any _ _ _ _ _ _ _ x1I.ints t1I p1.out p1.out).mono ?_
  rintro e w12 ⟨rfl, n12, rfl⟩
  replace x0P := x0P.drewN n12
  replace x1I := x1I.drewN n12
  replace oG := oG.drewN n12
  replace t1I := t1I.drewN n12
  replace HB := below_drewN HB n12
  replace HW := below_drewN HW n12
  have z12 : w11.heap.size ≤ (w11.drewN n12).heap.size := Nat.le_refl _
  clear t1I
  clear t1Icap
  go_wp2_with fail
  refine (cMP.out _ _ _ _ _ rfl x0P).mono ?_
  rintro e w13 ⟨rfl, hg13⟩
  have hw13 := Btw.of_grown hg13 tx0P.out
  clear hg13 x0P
  have z13 := hw13.size
  replace x1I := x1I.btw hw13 (fun k e => by have := tx1I.out k e; omega)
  replace oG := oG.btw hw13 (by omega) (by omega)
  replace HB := below_btw HB hw13 (by omega) HB.size
  replace HW := below_btw HW hw13 (by omega) HW.size
  clear hw13
  go_wp2_with fail
  refine (markIntS_any _ _ _ _ _ _ _ ⟨rfl, x1I⟩ p1.out (by omega) (by omega)).mono ?_
  rintro e w14 ⟨rfl, _, hg14⟩
  have hw14 := Btw.of_grown hg14 tx1I.out
  clear hg14 x1I
  have z14 := hw14.size
  replace oG := oG.btw hw14 (by omega) (by omega)
  replace HB := below_btw HB hw14 (by omega) HB.size
  replace HW := below_btw HW hw14 (by omega) HW.size
  clear hw14
  have p1l := p1.out
  obtain ⟨K2, hK2, hK3⟩ : ∃ K2 : Nat, (K : Int) + (x1.length : Int) = (K2 : Int) ∧ K2 ≤ 6000000 := ⟨K + x1.length, by omega, by omega⟩
  rw [hK2]
  clear p1l hK2
  go_wp2_with fail
  refine (eqStepN_any _ _ _ _ _ _ _ HSN.out (EG.out ▸ oG.z KG.out) (fW.below HW) (by omega)).mono ?_
  rintro e w15 ⟨rfl, hb15⟩
  replace oG := oG.below hb15
  replace HB := HB.trans (hb15.mono HB.size)
  replace HW := HW.trans (hb15.mono HW.size)
  have z15 := hb15.size
  clear hb15
  have zG : w6.heap.size ≤ w15.heap.size := by omega
  have cMS := markStepS_any BG us rs.length dG 1 w6.heap.size w15 oG AG.out zG (by omega) KG.out (by omega) (by rw [LG.out]; omega)
  rw [LG.out] at cMS
  go_wp2_with fail
  refine cMS.mono ?_
  rintro e w16 ⟨rfl, oM, hb16⟩
  have fM := oM.z (zmark_small KG.out)
  rw [zmark_spz, LG.out] at fM
  clear cMS oG oM
  have z16 := hb16.size
  replace HB := HB.trans (hb16.mono (by omega))
  replace HW := HW.trans (hb16.mono (by omega))
  clear hb16
  go_wp2_with fail
  refine (heldStepN_any _ _ _ _ _ HLN.out fM (by omega) (by omega)).mono ?_
  rintro e w17 ⟨rfl, rfl⟩
  go_wp2_with fail
  refine (toPileS_any A0 x0 c0 _ ((h0.below HB).piles s0.out) p0.out).mono ?_
  rintro e w18 ⟨B18, d18, rfl, s0P, hb18⟩
  replace s0P := s0P.piles
  replace fM := fM.below hb18
  replace HB := HB.trans (hb18.mono HB.size)
  replace HW := HW.trans (hb18.mono HW.size)
  have z18 := hb18.size
  clear hb18
  go_wp2_with fail
  refine (toIntS_any A1 x1 c1 _ (h1.below HB) p1.out).mono ?_
  rintro e w19 ⟨B19, d19, rfl, s1I, hb19⟩
  have s1Icap := s1I.le_cap
  replace s1I := s1I.ints
  replace fM := fM.below hb19
  replace s0P := s0P.below hb19
  replace HB := HB.trans (hb19.mono HB.size)
  replace HW := HW.trans (hb19.mono HW.size)
  have z19 := hb19.size
  clear hb19
  go_wp2_with fail
  refine (cI.out _ _ _ _ _ s0P s1I s1Icap).mono ?_
  rintro e w20 hN
  obtain ⟨BH, dH, ush, rfl, oH, eH, aH, lH, kH, hb20⟩ := newSA_z hN HS2.out
  clear hN s1Icap
  have fH := oH.z kH
  rw [eH] at fH
  clear oH eH aH lH kH
  clear s0P
  clear s1I
  replace fM := fM.below hb20
  replace HB := HB.trans (hb20.mono HB.size)
  replace HW := HW.trans (hb20.mono HW.size)
  have z20 := hb20.size
  clear hb20
  go_wp2_with fail
  refine (eqStepN_any _ _ _ _ _ _ _ HSN.out fH (fW.below HW) (by omega)).mono ?_
  rintro e w21 ⟨rfl, hb21⟩
  replace fM := fM.below hb21
  replace fH := fH.below hb21
  replace HB := HB.trans (hb21.mono HB.size)
  replace HW := HW.trans (hb21.mono HW.size)
  have z21 := hb21.size
  clear hb21
  go_wp2_with fail
  refine (heldStepN_any _ _ _ _ _ HLN.out fM (by omega) (by omega)).mono ?_
  rintro e w22 ⟨rfl, rfl⟩
  go_wp2
  go_ret
  exact ⟨rfl, HB⟩
set_option maxRecDepth 100000 in
theorem FnExactTransferSteps_lifted (os : Os) (started : os.Started) (H : Type) (enc : TypeId × Value → H) :
    ReturnsInHanded {} Try.checked os 6 .any (Rows.fnExactTransferStepsSpec.pre6 enc Try.prog Try.f6 Rows.fnExactTransferStepsRow.domain false) (Rows.fnExactTransferStepsSpec.post enc Try.prog Try.f6 false true false false) := by
  refine returnsInHanded_of_change (C := Try.checked) Try.own started (by kernel_rfl) Try.func6
    (ChangeSpec.witness6 (enc := enc) (C := Try.checked) false ⟨#[], #[.slice none 0 0, .slice none 0 0, .int .i64 0], []⟩ 8 (by kernel_rfl) (by kernel_rfl) (by kernel_rfl) (by kernel_rfl)) ?_
  intro W base args ds gs before hval0 hW hcnd _
  have hval : ∀ (j : Nat) t v, Try.f6.params[j]? = some t → args[j]? = some v → Value.okWide Try.prog W .any base t v := hval0
  have hW' := hW
  obtain ⟨p, q, hA0, hV, rfl, hfz, hnd⟩ := hW
  have hA : DataW.TrodAll enc Try.prog W 0 (fun _ => true) true Try.f6.params.toList args.toList ds p := hA0
  rw [Try.params6] at hA hval
  obtain ⟨v0, vs0, d0, ds0, p0, q0, hargs, rfl, rfl, h0, r0⟩ := trodAll_cons hA
  obtain ⟨v1, vs1, d1, ds1, p1, q1, rfl, rfl, rfl, h1, r1⟩ := trodAll_cons r0
  obtain ⟨v2, vs2, d2, ds2, p2, q2, rfl, rfl, rfl, h2, r2⟩ := trodAll_cons r1
  obtain ⟨rfl, rfl, rfl⟩ := trodAll_nil r2
  obtain rfl : args = #[v0, v1, v2] := by cases args; simp_all
  obtain ⟨rfl, rfl⟩ := trodVars_none hV
  have k0 := h0
  have lt0 : ∀ x ∈ p0, x.block < W.heap.size := by obtain ⟨m, hm⟩ := k0; exact DataW.trod_lt m _ _ _ hm
  obtain ⟨a0, z0, c0, rfl, w0⟩ := openPiles (hval 0 22 v0 rfl rfl) h0
  have k1 := h1
  have lt1 : ∀ x ∈ p1, x.block < W.heap.size := by obtain ⟨m, hm⟩ := k1; exact DataW.trod_lt m _ _ _ hm
  obtain ⟨a1, z1, c1, rfl, w1⟩ := openInts (hval 1 23 v1 rfl rfl) h1
  obtain ⟨a2, rfl, rfl, rfl, w2⟩ := open_int Try.underlying3 (hval 2 3 v2 rfl rfl) h2
  clear hA0 hval0
  refine (FnExactTransferSteps_walk a0 z0 c0 a1 z1 c1 a2 W w0 w1).mono fun e W' ⟨he, bel⟩ => ?_
  subst he
  exact ⟨_, rfl, _, _, _, [], _, [], hW', trodAll_mk1 (shut_bool Try.underlying4 _), (trodAll_cons_mk (Below.trod Try.laidOut (by kernel_rfl) (of_decide_eq_true (by kernel_rfl)) k0 bel lt0) (trodAll_cons_mk (Below.trod Try.laidOut (by kernel_rfl) (of_decide_eq_true (by kernel_rfl)) k1 bel lt1) (trodAll_cons_mk (shut_int Try.underlying3 w2) trodAll_mk0))), rfl, bel.frame _, fun h => by cases h⟩
set_option maxRecDepth 100000 in
/-- The given statement. -/
theorem FnExactTransferSteps_holds : Rows.FnExactTransferStepsSaid :=
  OpenClaim.holds_of_wide 6 Try.f6 rfl rfl rfl rfl rfl rfl rfl ⟨rfl, rfl, rfl, rfl, rfl⟩ rfl rfl rfl rfl rfl (by kernel_rfl) Try.func6 (by kernel_rfl)
    (of_decide_eq_true (by kernel_rfl)) (by unfold Func.isWrapper; first | (rw [if_pos (by decide +kernel)]; kernel_rfl) | (rw [if_neg (by decide +kernel)]; exact ⟨rfl, rfl⟩))
    (fun os started H enc _ => FnExactTransferSteps_lifted os started H enc)
end Go.Proofs.Ytiinfbjlkbjmmaa
