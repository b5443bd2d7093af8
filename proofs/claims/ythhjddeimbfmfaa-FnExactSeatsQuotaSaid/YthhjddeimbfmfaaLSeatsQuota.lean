/-
  For all votes, seats and parties, the law FnExactSeatsQuota returns true: the program's SeatsQuota returns what the reference's returns, and its arguments stay as they were. There are no conditions.
-/
import Derived.Test.YthhjddeimbfmfaaSeats
import Derived.Test.YthhjddeimbfmfaaCopy
import Derived.Test.YthhjddeimbfmfaaOpen
namespace Go.Proofs.Ythhjddeimbfmfaa
open Go.ChangeShapes Go.WideShapes Go.ChangeAt Go.RowKit
set_option maxHeartbeats 400000 in
theorem FnExactSeatsQuota_walk (A : Option Addr) (xs : List Int) (c : Nat) (s p : Int) (w : World) (h : Ints w A xs) :
    Calls Try.prog 3 #[.slice A xs.length c, .int .i64 s, .int .i64 p] w (LawOk w) := by
  by_cases hl : xs.length ≤ 1048576
  · have hself : (xs == xs) = true := by simp
    go_enter Try.func3, Try.ntmps3
    go_wp2_with fail
    refine (toIntS_any _ _ _ _ h hl).mono ?_
    rintro e w1 ⟨A1, c1, rfl, ho1, hb1⟩
    go_wp2_with fail
    refine (specQuota_any _ _ _ _ _ _ ho1.ints hl).mono ?_
    rintro e w2 ⟨rfl, n2, rfl⟩
    go_wp2_with fail
    have hb2 := below_drewN hb1 n2
    refine (toIntS_any _ _ _ _ (h.below hb2) hl).mono ?_
    rintro e w3 ⟨A3, c3, rfl, ho3, hb3⟩
    have hb3' := hb2.trans (hb3.mono hb2.size)
    go_wp2_with fail
    refine (implQuota_any _ _ _ _ _ _ ho3.ints hl).mono ?_
    rintro e w4 ⟨rfl, n4, rfl⟩
    go_wp2_with fail
    have hb4 := below_drewN hb3' n4
    refine (toIntS_any _ _ _ _ (h.below hb4) hl).mono ?_
    rintro e w5 ⟨A5, c5, rfl, ho5, hb5⟩
    have hb5' := hb4.trans (hb5.mono hb4.size)
    go_wp2_with fail
    refine (lawEqI_any _ _ _ _ _ _ _ ((ho3.drewN n4).below hb5).ints ho5.ints hl hl).mono ?_
    rintro e w6 ⟨rfl, n6, rfl⟩
    go_wp2
    go_ret
    exact ⟨rfl, below_drewN hb5' n6⟩
  · have hbig : (1048576 : Int) < xs.length := by omega
    clear hl
    go_enter Try.func3, Try.ntmps3
    go_wp2
    go_ret
    exact ⟨rfl, Below.refl _ _⟩
set_option maxRecDepth 100000 in
theorem FnExactSeatsQuota_lifted (os : Os) (started : os.Started) (H : Type) (enc : TypeId × Value → H) :
    ReturnsInHanded {} Try.checked os 3 .any (Rows.fnExactSeatsQuotaSpec.pre6 enc Try.prog Try.f3 Rows.fnExactSeatsQuotaRow.domain false) (Rows.fnExactSeatsQuotaSpec.post enc Try.prog Try.f3 false true false false) := by
  refine returnsInHanded_of_change (C := Try.checked) Try.own started (by kernel_rfl) Try.func3
    (ChangeSpec.witness6 (enc := enc) (C := Try.checked) false ⟨#[], #[.slice none 0 0, .int .i64 0, .int .i64 0], []⟩ 8 (by kernel_rfl) (by kernel_rfl) (by kernel_rfl) (by kernel_rfl)) ?_
  intro W base args ds gs before hval0 hW hcnd _
  have hval : ∀ (j : Nat) t v, Try.f3.params[j]? = some t → args[j]? = some v → Value.okWide Try.prog W .any base t v := hval0
  have hW' := hW
  obtain ⟨p, q, hA0, hV, rfl, hfz, hnd⟩ := hW
  have hA : DataW.TrodAll enc Try.prog W 0 (fun _ => true) true Try.f3.params.toList args.toList ds p := hA0
  rw [Try.params3] at hA hval
  obtain ⟨v0, vs0, d0, ds0, p0, q0, hargs, rfl, rfl, h0, r0⟩ := trodAll_cons hA
  obtain ⟨v1, vs1, d1, ds1, p1, q1, rfl, rfl, rfl, h1, r1⟩ := trodAll_cons r0
  obtain ⟨v2, vs2, d2, ds2, p2, q2, rfl, rfl, rfl, h2, r2⟩ := trodAll_cons r1
  obtain ⟨rfl, rfl, rfl⟩ := trodAll_nil r2
  obtain rfl : args = #[v0, v1, v2] := by cases args; simp_all
  obtain ⟨rfl, rfl⟩ := trodVars_none hV
  have k0 := h0
  have lt0 : ∀ x ∈ p0, x.block < W.heap.size := by obtain ⟨m, hm⟩ := k0; exact DataW.trod_lt m _ _ _ hm
  obtain ⟨a0, z0, c0, rfl, w0⟩ := openInts (hval 0 22 v0 rfl rfl) h0
  obtain ⟨a1, rfl, rfl, rfl, w1⟩ := open_int Try.underlying3 (hval 1 3 v1 rfl rfl) h1
  obtain ⟨a2, rfl, rfl, rfl, w2⟩ := open_int Try.underlying3 (hval 2 3 v2 rfl rfl) h2
  clear hA0 hval0
  refine (FnExactSeatsQuota_walk a0 z0 c0 a1 a2 W w0).mono fun e W' ⟨he, bel⟩ => ?_
  subst he
  exact ⟨_, rfl, _, _, _, [], _, [], hW', trodAll_mk1 (shut_bool Try.underlying4 _), (trodAll_cons_mk (Below.trod Try.laidOut (by kernel_rfl) (of_decide_eq_true (by kernel_rfl)) k0 bel lt0) (trodAll_cons_mk (shut_int Try.underlying3 w1) (trodAll_cons_mk (shut_int Try.underlying3 w2) trodAll_mk0))), rfl, bel.frame _, fun h => by cases h⟩
/-- The given statement. -/
theorem FnExactSeatsQuota_holds : Rows.FnExactSeatsQuotaSaid :=
  OpenClaim.holds_of_wide 3 Try.f3 rfl rfl rfl rfl rfl rfl rfl ⟨rfl, rfl, rfl, rfl, rfl⟩ rfl rfl rfl rfl rfl (by kernel_rfl) Try.func3 (by kernel_rfl)
    (of_decide_eq_true (by kernel_rfl)) (by unfold Func.isWrapper; first | (rw [if_pos (by decide +kernel)]; kernel_rfl) | (rw [if_neg (by decide +kernel)]; exact ⟨rfl, rfl⟩))
    (fun os started H enc _ => FnExactSeatsQuota_lifted os started H enc)
end Go.Proofs.Ythhjddeimbfmfaa
