/-
  For every code, the law FnTransferCheck returns true: steps can be checked. There are no conditions.
-/
import Derived.Test.YtiinfbjlkbjmmaaQTraX
import Derived.Test.YtiinfbjlkbjmmaaQTraY
import Derived.Test.YtiinfbjlkbjmmaaQDrawU
namespace Go.Proofs.Ytiinfbjlkbjmmaa
open Go.ChangeShapes Go.WideShapes Go.ChangeAt Go.RowKit
set_option maxRecDepth 100000 in
set_option maxHeartbeats 3200000 in
theorem FnTransferCheck_walk (A : Option Addr) (n c : Nat) (w : World) (h : BytsA w A n c) :
    Calls Try.prog 7 #[.slice A n c] w (LawOk w) := by
  by_cases hl : n ≤ 1048576
  case neg =>
    have hbig : (1048576 : Int) < n := by omega
    clear hl
    go_enter Try.func7, Try.ntmps7
    go_wp2
    go_ret
    exact ⟨rfl, Below.refl _ _⟩
  go_enter Try.func7, Try.ntmps7
  go_wp2_with fail
  refine (drawTransferCheck_any _ _ _ _ h).mono ?_
  rintro e w1 ⟨A1, c1, ps, A2, c2, ls, s, A3, c3, ss, rfl, ⟨hpl, hop, hb1⟩, hl5, hol, hs10, hz3, hss5⟩
  have hcap := hol.le_cap
  have cI := Lib.hid (transferCheck_any A1 A2 A3 ps ls ss c1 c2 c3 s _ hop.piles hol.ints hz3 (by omega) (by omega) (by omega) hcap)
  have cS := Lib.hid (fun (w : World) (h : PilesI w A1 ps) (h2 : Ints w A2 ls) (h3 : StepsZ w A3 ss) => specTransferCheck_any A1 A2 A3 ps ls ss c1 c2 c3 s w h h2 h3 (by omega) (by omega) (by omega) hcap)
  have cT := Lib.hid (fun (w : World) (h : PilesI w A1 ps) (h2 : Ints w A2 ls) => transferSteps_any A1 A2 ps ls c1 c2 s w h h2 (by omega) (by omega) hcap)
  obtain ⟨hs1, hs2⟩ := tr_small ps ls s
  have HTC := Lib.hid (show tcF ps ls s ss = ((trF ps ls s).2 && ((trF ps ls s).1.map stz == ss)) from rfl)
  generalize tcF ps ls s ss = t at *
  generalize trF ps ls s = r at *
  obtain ⟨rs, b⟩ := r
  have hs1 : rs.length ≤ 5 := hs1
  have HS := Lib.hid hs2
  have cE : ∀ (B : Option Addr) (d : Nat) (w : World), StepsZ w B (rs.map stz) → StepsZ w A3 ss → Calls Try.prog 21 #[.slice B rs.length d, .slice A3 ss.length c3] w (Qt w (.bool (rs.map stz == ss))) := by
    intro B d w h h'
    have := lawSameSteps_any B A3 (rs.map stz) ss d c3 w h h' (by rw [List.length_map]; omega) (by omega)
    rw [List.length_map] at this
    exact this
  have cE := Lib.hid cE
  have hne : (t != t) = false := by cases t <;> rfl
  clear hs2
  go_wp2_with fail
  refine cI.out.mono ?_
  rintro e w2 ⟨rfl, hb2⟩
  have hop2 := hop.below hb2
  have hol2 := hol.below hb2
  have hz2 := hz3.below hb2
  go_wp2_with fail
  refine (cS.out _ hop2.piles hol2.ints hz2).mono ?_
  rintro e w3 ⟨rfl, hb3⟩
  have hop3 := hop2.below hb3
  have hol3 := hol2.below hb3
  have hz33 := hz2.below hb3
  have hB3 := hb1.trans ((below_down hb2 hb3).mono hb1.size)
  clear hop2 hol2 hop hol cI cS hb2 hb3 hb1 hz2 hz3
  go_wp2_with fail
  refine (cT.out _ hop3.piles hol3.ints).mono ?_
  rintro e w4 ⟨A4, c4, vs, rfl, ho4, ev4, hb4⟩
  have hz4 := ho4.z ev4 HS.out
  have hz34 := hz33.below hb4
  have hB4 := below_down hB3 hb4
  clear ho4 ev4 vs hop3 hol3 cT hb4 hB3 hz33
  generalize hE : (rs.map stz == ss) = q at *
  clear hE
  cases b
  case false =>
    obtain rfl : t = false := HTC.out
    clear HTC
    go_wp2
    go_ret
    exact ⟨rfl, hB4⟩
  case true =>
    obtain rfl : t = q := HTC.out
    clear HTC
    have heq : (t == t) = true := by cases t <;> rfl
    go_wp2_with (go_at_call 21; refine (cE.out _ _ _ (by first | exact hz4 | exact hz4.drewN _) (by first | exact hz34 | exact hz34.drewN _)).mono ?_; rintro e w' ⟨rfl, n', rfl⟩)
    all_goals first | (go_ret; exact ⟨rfl, hB4⟩) | (go_ret; exact ⟨rfl, below_drewN hB4 _⟩) | (go_ret; exact ⟨rfl, below_drewN (below_drewN hB4 _) _⟩)
set_option maxRecDepth 100000 in
theorem FnTransferCheck_lifted (os : Os) (started : os.Started) (H : Type) (enc : TypeId × Value → H) :
    ReturnsInHanded {} Try.checked os 7 .any (Rows.fnTransferCheckSpec.pre6 enc Try.prog Try.f7 Rows.fnTransferCheckRow.domain false) (Rows.fnTransferCheckSpec.post enc Try.prog Try.f7 false true false false) := by
  refine returnsInHanded_of_change (C := Try.checked) Try.own started (by kernel_rfl) Try.func7
    (ChangeSpec.witness6 (enc := enc) (C := Try.checked) false ⟨#[], #[.slice none 0 0], []⟩ 8 (by kernel_rfl) (by kernel_rfl) (by kernel_rfl) (by kernel_rfl)) ?_
  intro W base args ds gs before hval0 hW hcnd _
  have hval : ∀ (j : Nat) t v, Try.f7.params[j]? = some t → args[j]? = some v → Value.okWide Try.prog W .any base t v := hval0
  have hW' := hW
  obtain ⟨p, q, hA0, hV, rfl, hfz, hnd⟩ := hW
  have hA : DataW.TrodAll enc Try.prog W 0 (fun _ => true) true Try.f7.params.toList args.toList ds p := hA0
  rw [Try.params7] at hA hval
  obtain ⟨v0, vs0, d0, ds0, p0, q0, hargs, rfl, rfl, h0, r0⟩ := trodAll_cons hA
  obtain ⟨rfl, rfl, rfl⟩ := trodAll_nil r0
  obtain rfl : args = #[v0] := by cases args; simp_all
  obtain ⟨rfl, rfl⟩ := trodVars_none hV
  have k0 := h0
  have lt0 : ∀ x ∈ p0, x.block < W.heap.size := by obtain ⟨m, hm⟩ := k0; exact DataW.trod_lt m _ _ _ hm
  obtain ⟨a0, z0, c0, rfl, w0⟩ := openByts (hval 0 37 v0 rfl rfl) h0
  clear hA0 hval0
  refine (FnTransferCheck_walk a0 z0 c0 W w0).mono fun e W' ⟨he, bel⟩ => ?_
  subst he
  exact ⟨_, rfl, _, _, _, [], _, [], hW', trodAll_mk1 (shut_bool Try.underlying4 _), (trodAll_cons_mk (Below.trod Try.laidOut (by kernel_rfl) (of_decide_eq_true (by kernel_rfl)) k0 bel lt0) trodAll_mk0), rfl, bel.frame _, fun h => by cases h⟩
set_option maxRecDepth 100000 in
/-- The given statement. -/
theorem FnTransferCheck_holds : Rows.FnTransferCheckSaid :=
  OpenClaim.holds_of_wide 7 Try.f7 rfl rfl rfl rfl rfl rfl rfl ⟨rfl, rfl, rfl, rfl, rfl⟩ rfl rfl rfl rfl rfl (by kernel_rfl) Try.func7 (by kernel_rfl)
    (of_decide_eq_true (by kernel_rfl)) (by unfold Func.isWrapper; first | (rw [if_pos (by decide +kernel)]; kernel_rfl) | (rw [if_neg (by decide +kernel)]; exact ⟨rfl, rfl⟩))
    (fun os started H enc _ => FnTransferCheck_lifted os started H enc)
end Go.Proofs.Ytiinfbjlkbjmmaa
