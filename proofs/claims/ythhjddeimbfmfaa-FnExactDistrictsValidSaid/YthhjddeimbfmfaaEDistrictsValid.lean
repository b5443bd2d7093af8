/-
  For all votes of districts, the law FnExactDistrictsValid returns true: the program's DistrictsValid returns what the reference's returns and keeps its arguments. There are no conditions.
-/
import Derived.Test.YthhjddeimbfmfaaDistV
import Derived.Test.YthhjddeimbfmfaaOpenM
import Derived.Test.YthhjddeimbfmfaaMatM
namespace Go.Proofs.Ythhjddeimbfmfaa
open Go.ChangeShapes Go.WideShapes Go.ChangeAt Go.RowKit
theorem DistrictsValid_con (x0 : List (List Int)) (l0 : tot x0 ≤ 1048576) : ∃ r : Bool, Hid (∀ (A0 : Option Addr) (c0 : Nat) (w : World), RowsI w A0 x0 → Calls Try.prog 34 #[.slice A0 x0.length c0] w (Bl w (.bool r))) ∧ Hid (∀ (A0 : Option Addr) (c0 : Nat) (w : World), RowsI w A0 x0 → Calls Try.prog 36 #[.slice A0 x0.length c0] w (Bl w (.bool r))) :=
  ⟨dvB x0, Lib.hid fun A0 c0 w h0 => specDV_any A0 x0 c0 w h0 l0, Lib.hid fun A0 c0 w h0 => implDV_any A0 x0 c0 w h0 l0⟩
set_option maxHeartbeats 1600000 in
theorem FnExactDistrictsValid_walk (A0 : Option Addr) (x0 : List (List Int)) (c0 : Nat) (w : World) (h0 : RowsI w A0 x0) :
    Calls Try.prog 11 #[.slice A0 x0.length c0] w (LawOk w) := by
  by_cases l0 : tot x0 ≤ 1048576
  case neg =>
    go_enter Try.func11, Try.ntmps11
    go_wp2_with fail
    refine (szIntSS_f _ _ _ _ h0 l0).mono ?_
    rintro e w0 ⟨rfl, rfl⟩
    go_wp2
    go_ret
    exact ⟨rfl, Below.refl _ _⟩
  have e0 : (x0 == x0) = true := by simp
  have sl0 := sl_le l0
  obtain ⟨r, cS, cI⟩ := DistrictsValid_con x0 l0
  go_enter Try.func11, Try.ntmps11
  go_wp2_with fail
  refine (szIntSS_t _ _ _ _ h0 l0).mono ?_
  rintro e w0 ⟨rfl, rfl⟩
  go_wp2_with fail
  refine (toIntSS_any _ _ _ _ h0 l0).mono ?_
  rintro e w1 ⟨B1, d1, rfl, o1, hb1⟩
  have z2 : w.heap.size ≤ w1.heap.size := hb1.size
  have hB2 := (Below.refl w.heap.size w).trans (hb1.mono (Below.refl w.heap.size w).size)
  have y2 : w.heap.size ≤ w1.heap.size := hB2.size
  have i1 : OwnIn w1 w.heap.size w1.heap.size B1 d1 x0 := o1.inside
  go_wp2_with fail
  refine (cS.out _ _ _ i1.rows).mono ?_
  rintro e w3 ⟨rfl, hb3⟩
  have z4 : w1.heap.size ≤ w3.heap.size := hb3.size
  have hB4 := hB2.trans (hb3.mono hB2.size)
  have y4 : w.heap.size ≤ w3.heap.size := hB4.size
  have s0_4 := i1.below hb3
  go_wp2_with fail
  refine (toIntSS_any _ _ _ _ (h0.below hB4) l0).mono ?_
  rintro e w5 ⟨B5, d5, rfl, o5, hb5⟩
  have z6 : w3.heap.size ≤ w5.heap.size := hb5.size
  have hB6 := hB4.trans (hb5.mono hB4.size)
  have y6 : w.heap.size ≤ w5.heap.size := hB6.size
  have i5 : OwnIn w5 w3.heap.size w5.heap.size B5 d5 x0 := o5.inside
  go_wp2_with fail
  refine (cI.out _ _ _ i5.rows).mono ?_
  rintro e w7 ⟨rfl, hb7⟩
  have z8 : w5.heap.size ≤ w7.heap.size := hb7.size
  have hB8 := hB6.trans (hb7.mono hB6.size)
  have y8 : w.heap.size ≤ w7.heap.size := hB8.size
  have x0_8 := i5.below hb7
  go_wp2_with fail
  refine (toIntSS_any _ _ _ _ (h0.below hB8) l0).mono ?_
  rintro e w9 ⟨B9, d9, rfl, o9, hb9⟩
  have z10 : w7.heap.size ≤ w9.heap.size := hb9.size
  have hB10 := hB8.trans (hb9.mono hB8.size)
  have y10 : w.heap.size ≤ w9.heap.size := hB10.size
  have x0_10 := x0_8.below hb9
  have i9 : OwnIn w9 w7.heap.size w9.heap.size B9 d9 x0 := o9.inside
  go_wp2_with fail
  refine (lawEqII_any _ _ _ _ _ _ _ x0_10.rows i9.rows l0 l0).mono ?_
  rintro e w11 ⟨rfl, n11, rfl⟩
  have hB12 := below_drewN hB10 n11
  have x0_12 := x0_10.drewN n11
  have t0_12 := i9.drewN n11
  go_wp2
  go_ret
  exact ⟨rfl, hB12⟩
set_option maxRecDepth 100000 in
theorem FnExactDistrictsValid_lifted (os : Os) (started : os.Started) (H : Type) (enc : TypeId × Value → H) :
    ReturnsInHanded {} Try.checked os 11 .any (Rows.fnExactDistrictsValidSpec.pre6 enc Try.prog Try.f11 Rows.fnExactDistrictsValidRow.domain false) (Rows.fnExactDistrictsValidSpec.post enc Try.prog Try.f11 false true false false) := by
  refine returnsInHanded_of_change (C := Try.checked) Try.own started (by kernel_rfl) Try.func11
    (ChangeSpec.witness6 (enc := enc) (C := Try.checked) false ⟨#[], #[.slice none 0 0], []⟩ 8 (by kernel_rfl) (by kernel_rfl) (by kernel_rfl) (by kernel_rfl)) ?_
  intro W base args ds gs before hval0 hW hcnd _
  have hval : ∀ (j : Nat) t v, Try.f11.params[j]? = some t → args[j]? = some v → Value.okWide Try.prog W .any base t v := hval0
  have hW' := hW
  obtain ⟨p, q, hA0, hV, rfl, hfz, hnd⟩ := hW
  have hA : DataW.TrodAll enc Try.prog W 0 (fun _ => true) true Try.f11.params.toList args.toList ds p := hA0
  rw [Try.params11] at hA hval
  obtain ⟨v0, vs0, d0, ds0, p0, q0, hargs, rfl, rfl, h0, r0⟩ := trodAll_cons hA
  obtain ⟨rfl, rfl, rfl⟩ := trodAll_nil r0
  obtain rfl : args = #[v0] := by cases args; simp_all
  obtain ⟨rfl, rfl⟩ := trodVars_none hV
  have k0 := h0
  have lt0 : ∀ x ∈ p0, x.block < W.heap.size := by obtain ⟨m, hm⟩ := k0; exact DataW.trod_lt m _ _ _ hm
  obtain ⟨a0, z0, c0, rfl, w0⟩ := openRows (hval 0 39 v0 rfl rfl) h0
  clear hA0 hval0
  refine (FnExactDistrictsValid_walk a0 z0 c0 W w0).mono fun e W' ⟨he, bel⟩ => ?_
  subst he
  exact ⟨_, rfl, _, _, _, [], _, [], hW', trodAll_mk1 (shut_bool Try.underlying4 _), (trodAll_cons_mk (Below.trod Try.laidOut (by kernel_rfl) (of_decide_eq_true (by kernel_rfl)) k0 bel lt0) trodAll_mk0), rfl, bel.frame _, fun h => by cases h⟩
/-- The given statement. -/
theorem FnExactDistrictsValid_holds : Rows.FnExactDistrictsValidSaid :=
  OpenClaim.holds_of_wide 11 Try.f11 rfl rfl rfl rfl rfl rfl rfl ⟨rfl, rfl, rfl, rfl, rfl⟩ rfl rfl rfl rfl rfl (by kernel_rfl) Try.func11 (by kernel_rfl)
    (of_decide_eq_true (by kernel_rfl)) (by unfold Func.isWrapper; first | (rw [if_pos (by decide +kernel)]; kernel_rfl) | (rw [if_neg (by decide +kernel)]; exact ⟨rfl, rfl⟩))
    (fun os started H enc _ => FnExactDistrictsValid_lifted os started H enc)
end Go.Proofs.Ythhjddeimbfmfaa
