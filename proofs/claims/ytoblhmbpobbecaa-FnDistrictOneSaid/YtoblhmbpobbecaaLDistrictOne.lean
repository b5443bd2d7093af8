/-
  For every code, the law FnDistrictOne returns true: a single district has no gap. There are no conditions.
-/
import Derived.Test.YtoblhmbpobbecaaDistQ
import Derived.Test.YtoblhmbpobbecaaDistE
namespace Go.Proofs.Ytoblhmbpobbecaa
open Go.ChangeShapes Go.WideShapes Go.ChangeAt Go.RowKit
set_option maxRecDepth 100000 in
set_option maxHeartbeats 1600000 in
theorem FnDistrictOne_walk (A : Option Addr) (n c : Nat) (w : World) (h : BytsA w A n c) :
    Calls Try.prog 7 #[.slice A n c] w (LawOk w) := by
  by_cases hl : n ≤ 1048576
  case neg =>
    have hbig : (1048576 : Int) < n := by omega
    clear hl
    go_enter Try.func7, Try.ntmps7
    go_wp2
    go_ret
    exact ⟨rfl, Below.refl _ _⟩
  go_enter Try.func7, Try.ntmps7
  go_wp2_with fail
  refine (drawDG_any _ _ _ _ h).mono ?_
  rintro e w1 ⟨A1, c1, vs, s, m, A2, c2, ls, rfl, hv12, hT1, ⟨hl5, hol, hb1⟩⟩
  have hxl : (vs.map fun v => v.2.2).length = vs.length := List.length_map _
  have htot : tot (vs.map fun v => v.2.2) ≤ 1048576 := by
    have := tot_small hv12 (fun v hv => (hT1.own v hv).2)
    omega
  have hcap := hol.le_cap
  have cI := Lib.hid (fun (w : World) (h : RowsI w A1 (vs.map fun v => v.2.2)) (h2 : Ints w A2 ls) => implDG_any A1 A2 _ ls c1 c2 s m w h h2 htot (by omega) hcap)
  have cS := Lib.hid (fun (w : World) (h : RowsI w A1 (vs.map fun v => v.2.2)) (h2 : Ints w A2 ls) => specDG_any A1 A2 _ ls c1 c2 s m w h h2 htot (by omega) hcap)
  rw [hxl] at cI cS
  obtain ⟨r, hr⟩ : ∃ r, dgF (vs.map fun v => v.2.2) s m ls = r := ⟨_, rfl⟩
  rw [hr] at cI cS
  have HR := Lib.hid hr
  have HXL := Lib.hid hxl
  clear hr hxl
  go_wp2_with fail
  refine (cI.out _ (hT1.rows (by omega)) hol.ints).mono ?_
  rintro e w2 ⟨rfl, hb2⟩
  have hT2 := hT1.below hb2
  have hol := hol.below hb2
  have hB2 := hb1.trans (hb2.mono hb1.size)
  go_wp2_with fail
  refine (cS.out _ (hT2.rows (by omega)) hol.ints).mono ?_
  rintro e w3 ⟨rfl, hb3⟩
  have hT3 := hT2.below hb3
  have hol := hol.below hb3
  have hB3 := hB2.trans (hb3.mono hB2.size)
  clear cI cS hT1 hT2 hb2 hb3 hB2
  have hrr : (r != r) = false := by simp
  have hre : (r == r) = true := by simp
  by_cases hr0 : 0 ≤ r
  case neg =>
    have hr1 : r < 0 := by omega
    clear hr0
    go_wp2
    go_ret
    exact ⟨rfl, hB3⟩
  obtain ⟨hC, k, rfl, o, hrv⟩ := dg_true HR.out hr0
  have hxl := HXL.out
  have hsum := o.apSum
  have hle := moreL_le (us := tog (wid (vs.map fun v => v.2.2)) (dsR (vs.map fun v => v.2.2) m ls k)) (bs := giveN (tog (wid (vs.map fun v => v.2.2)) (vs.map fun v => v.2.2)) m ls (k * (vs.map fun v => v.2.2).length)) (fun a ha => (o.gap.ba a ha).1) (fun b hb => (o.gap.bb b hb).1)
  rw [hsum, ← hrv, hxl] at hle
  have hone := o.one
  rw [← hrv, hxl] at hone
  obtain ⟨hx1, hx4⟩ := o.dv.l1
  rw [hxl] at hx1 hx4
  have hk20 := o.k20
  obtain ⟨p0, p1⟩ := mul_bd (a := (k : Int)) (b := (vs.length : Int)) (M := 20) (N := 4) ⟨by omega, by omega⟩ ⟨by omega, by omega⟩
  by_cases h1 : vs.length = 1
  · have hr00 := hone h1
    subst hr00
    have d1 : ¬ (1 : Int) < (vs.length : Int) := by omega
    clear h1 hone hrv hsum hxl o
    go_wp2
    go_ret
    exact ⟨rfl, hB3⟩
  · have d1 : (1 : Int) < (vs.length : Int) := by omega
    clear h1 hone hrv hsum hxl o
    go_wp2
    go_ret
    exact ⟨rfl, hB3⟩
set_option maxRecDepth 100000 in
theorem FnDistrictOne_lifted (os : Os) (started : os.Started) (H : Type) (enc : TypeId × Value → H) :
    ReturnsInHanded {} Try.checked os 7 .any (Rows.fnDistrictOneSpec.pre6 enc Try.prog Try.f7 Rows.fnDistrictOneRow.domain false) (Rows.fnDistrictOneSpec.post enc Try.prog Try.f7 false true false false) := by
  refine returnsInHanded_of_change (C := Try.checked) Try.own started (by kernel_rfl) Try.func7
    (ChangeSpec.witness6 (enc := enc) (C := Try.checked) false ⟨#[], #[.slice none 0 0], []⟩ 8 (by kernel_rfl) (by kernel_rfl) (by kernel_rfl) (by kernel_rfl)) ?_
  intro W base args ds gs before hval0 hW hcnd _
  have hval : ∀ (j : Nat) t v, Try.f7.params[j]? = some t → args[j]? = some v → Value.okWide Try.prog W .any base t v := hval0
  have hW' := hW
  obtain ⟨p, q, hA0, hV, rfl, hfz, hnd⟩ := hW
  have hA : DataW.TrodAll enc Try.prog W 0 (fun _ => true) true Try.f7.params.toList args.toList ds p := hA0
  rw [Try.params7] at hA hval
  obtain ⟨v0, vs0, d0, ds0, p0, q0, hargs, rfl, rfl, h0, r0⟩ := trodAll_cons hA
  obtain ⟨rfl, rfl, rfl⟩ := trodAll_nil r0
  obtain rfl : args = #[v0] := by cases args; simp_all
  obtain ⟨rfl, rfl⟩ := trodVars_none hV
  have k0 := h0
  have lt0 : ∀ x ∈ p0, x.block < W.heap.size := by obtain ⟨m, hm⟩ := k0; exact DataW.trod_lt m _ _ _ hm
  obtain ⟨a0, z0, c0, rfl, w0⟩ := openByts (hval 0 22 v0 rfl rfl) h0
  clear hA0 hval0
  refine (FnDistrictOne_walk a0 z0 c0 W w0).mono fun e W' ⟨he, bel⟩ => ?_
  subst he
  exact ⟨_, rfl, _, _, _, [], _, [], hW', trodAll_mk1 (shut_bool Try.underlying4 _), (trodAll_cons_mk (Below.trod Try.laidOut (by kernel_rfl) (of_decide_eq_true (by kernel_rfl)) k0 bel lt0) trodAll_mk0), rfl, bel.frame _, fun h => by cases h⟩
/-- The given statement. -/
theorem FnDistrictOne_holds : Rows.FnDistrictOneSaid :=
  OpenClaim.holds_of_wide 7 Try.f7 rfl rfl rfl rfl rfl rfl rfl ⟨rfl, rfl, rfl, rfl, rfl⟩ rfl rfl rfl rfl rfl (by kernel_rfl) Try.func7 (by kernel_rfl)
    (of_decide_eq_true (by kernel_rfl)) (by unfold Func.isWrapper; first | (rw [if_pos (by decide +kernel)]; kernel_rfl) | (rw [if_neg (by decide +kernel)]; exact ⟨rfl, rfl⟩))
    (fun os started H enc _ => FnDistrictOne_lifted os started H enc)
end Go.Proofs.Ytoblhmbpobbecaa
