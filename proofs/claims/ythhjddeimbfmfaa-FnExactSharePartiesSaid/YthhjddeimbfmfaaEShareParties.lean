/-
  For all votes, the law FnExactShareParties returns true: the program's ShareParties returns what the reference's returns and keeps its argument. There are no conditions.
-/
import Derived.Test.YthhjddeimbfmfaaParts
import Derived.Test.YthhjddeimbfmfaaCopy
import Derived.Test.YthhjddeimbfmfaaOpen
import Derived.Test.YthhjddeimbfmfaaFrame
namespace Go.Proofs.Ythhjddeimbfmfaa
open Go.ChangeShapes Go.WideShapes Go.ChangeAt Go.RowKit
set_option maxHeartbeats 400000 in
theorem eqFrac_any (p q : Nat) (w : World) : Calls Try.prog 40 #[.agg #[.int .i64 p, .int .i64 q], .agg #[.int .i64 p, .int .i64 q]] w (Bl w (.bool true)) := by
  go_enter Try.func40, Try.ntmps40
  go_wp2
  go_ret
  exact ⟨rfl, ((Below.refl _ _).alloc (Nat.le_refl _) _).alloc (by simp) _⟩
set_option maxHeartbeats 1600000 in
theorem FnExactShareParties_walk (A : Option Addr) (xs : List Int) (c : Nat) (w : World) (h : Ints w A xs) :
    Calls Try.prog 12 #[.slice A xs.length c] w (LawOk w) := by
  by_cases hl : xs.length ≤ 1048576
  case neg =>
    have g0 : (1048576 : Int) < xs.length := by omega
    clear hl
    go_enter Try.func12, Try.ntmps12
    go_wp2
    go_ret
    exact ⟨rfl, Below.refl _ _⟩
  have hself : (xs == xs) = true := by simp
  have cS := Lib.hid (fun (A : Option Addr) (c : Nat) (w : World) (h : Ints w A xs) => specParties_any A xs c w h hl)
  have cI := Lib.hid (fun (A : Option Addr) (c : Nat) (w : World) (h : Ints w A xs) => implParties_any A xs c w h hl)
  obtain ⟨⟨⟨p, q⟩, b⟩, hr⟩ : ∃ r, r = partsF xs := ⟨_, rfl⟩
  rw [← hr] at cS cI
  clear hr
  go_enter Try.func12, Try.ntmps12
  go_wp2_with fail
  refine (toIntS_any _ _ _ _ h hl).mono ?_
  rintro e w1 ⟨B1, d1, rfl, o1, hb1⟩
  go_wp2_with fail
  refine (cS.out _ _ _ o1.ints).mono ?_
  rintro e w2 ⟨rfl, hb2⟩
  have hB2 := hb1.trans (hb2.mono hb1.size)
  go_wp2_with fail
  have hB3 := hB2.alloc hB2.size (.cells #[.int .i64 p, .int .i64 q] 45)
  refine (toIntS_any _ _ _ _ (h.below hB3) hl).mono ?_
  rintro e w4 ⟨B4, d4, rfl, o4, hb4⟩
  have k4 : w4.heap[w2.heap.size]? = some (.cells #[.int .i64 p, .int .i64 q] 45 (0, 0)) := (hb4.block w2.heap.size (by simp)).trans (heap_alloc_new w2 _)
  have hz4 := Array.getElem?_eq_some_iff.1 k4
  obtain ⟨hz4, _⟩ := hz4
  have hB4 := hB3.trans (hb4.mono hB3.size)
  go_wp2_with fail
  refine (cI.out _ _ _ o4.ints).mono ?_
  rintro e w5 ⟨rfl, hb5⟩
  have k5 : w5.heap[w2.heap.size]? = some (.cells #[.int .i64 p, .int .i64 q] 45 (0, 0)) := (hb5.block w2.heap.size hz4).trans k4
  have hz5 := hb5.size
  have hB5 := hB4.trans (hb5.mono hB4.size)
  have o5 := o4.below hb5
  have k6 : (w5.alloc (.cells #[.int .i64 p, .int .i64 q] 45)).heap[w2.heap.size]? = some (.cells #[.int .i64 p, .int .i64 q] 45 (0, 0)) := (Below.heap_alloc w5 _ _ (by omega)).trans k5
  have e0 := cell_of_row _ _ 0 _ _ _ k6
  have e1 := cell_of_row _ _ 1 _ _ _ k6
  clear k4 k5
  cases b
  all_goals
    go_wp2_with fail
    refine (eqFrac_any p q _).mono ?_
    rintro e w6 ⟨rfl, hb6⟩
    have hB5' := hB5.alloc hB5.size (.cells #[.int .i64 p, .int .i64 q] 45)
    have o6 := (o5.alloc (.cells #[.int .i64 p, .int .i64 q] 45)).below hb6
    have hB6 := hB5'.trans (hb6.mono hB5'.size)
    go_wp2_with fail
    refine (toIntS_any _ _ _ _ (h.below hB6) hl).mono ?_
    rintro e w7 ⟨B7, d7, rfl, o7, hb7⟩
    have hB7 := hB6.trans (hb7.mono hB6.size)
    have o8 := o6.below hb7
    go_wp2_with fail
    refine (lawEqI_any _ _ _ _ _ _ _ o8.ints o7.ints hl hl).mono ?_
    rintro e w8 ⟨rfl, n8, rfl⟩
    go_wp2
    go_ret
    exact ⟨rfl, below_drewN hB7 _⟩
set_option maxRecDepth 100000 in
theorem FnExactShareParties_lifted (os : Os) (started : os.Started) (H : Type) (enc : TypeId × Value → H) :
    ReturnsInHanded {} Try.checked os 12 .any (Rows.fnExactSharePartiesSpec.pre6 enc Try.prog Try.f12 Rows.fnExactSharePartiesRow.domain false) (Rows.fnExactSharePartiesSpec.post enc Try.prog Try.f12 false true false false) := by
  refine returnsInHanded_of_change (C := Try.checked) Try.own started (by kernel_rfl) Try.func12
    (ChangeSpec.witness6 (enc := enc) (C := Try.checked) false ⟨#[], #[.slice none 0 0], []⟩ 8 (by kernel_rfl) (by kernel_rfl) (by kernel_rfl) (by kernel_rfl)) ?_
  intro W base args ds gs before hval0 hW hcnd _
  have hval : ∀ (j : Nat) t v, Try.f12.params[j]? = some t → args[j]? = some v → Value.okWide Try.prog W .any base t v := hval0
  have hW' := hW
  obtain ⟨p, q, hA0, hV, rfl, hfz, hnd⟩ := hW
  have hA : DataW.TrodAll enc Try.prog W 0 (fun _ => true) true Try.f12.params.toList args.toList ds p := hA0
  rw [Try.params12] at hA hval
  obtain ⟨v0, vs0, d0, ds0, p0, q0, hargs, rfl, rfl, h0, r0⟩ := trodAll_cons hA
  obtain ⟨rfl, rfl, rfl⟩ := trodAll_nil r0
  obtain rfl : args = #[v0] := by cases args; simp_all
  obtain ⟨rfl, rfl⟩ := trodVars_none hV
  have k0 := h0
  have lt0 : ∀ x ∈ p0, x.block < W.heap.size := by obtain ⟨m, hm⟩ := k0; exact DataW.trod_lt m _ _ _ hm
  obtain ⟨a0, z0, c0, rfl, w0⟩ := openInts (hval 0 22 v0 rfl rfl) h0
  clear hA0 hval0
  refine (FnExactShareParties_walk a0 z0 c0 W w0).mono fun e W' ⟨he, bel⟩ => ?_
  subst he
  exact ⟨_, rfl, _, _, _, [], _, [], hW', trodAll_mk1 (shut_bool Try.underlying4 _), (trodAll_cons_mk (Below.trod Try.laidOut (by kernel_rfl) (of_decide_eq_true (by kernel_rfl)) k0 bel lt0) trodAll_mk0), rfl, bel.frame _, fun h => by cases h⟩
/-- The given statement. -/
theorem FnExactShareParties_holds : Rows.FnExactSharePartiesSaid :=
  OpenClaim.holds_of_wide 12 Try.f12 rfl rfl rfl rfl rfl rfl rfl ⟨rfl, rfl, rfl, rfl, rfl⟩ rfl rfl rfl rfl rfl (by kernel_rfl) Try.func12 (by kernel_rfl)
    (of_decide_eq_true (by kernel_rfl)) (by unfold Func.isWrapper; first | (rw [if_pos (by decide +kernel)]; kernel_rfl) | (rw [if_neg (by decide +kernel)]; exact ⟨rfl, rfl⟩))
    (fun os started H enc _ => FnExactShareParties_lifted os started H enc)
end Go.Proofs.Ythhjddeimbfmfaa
