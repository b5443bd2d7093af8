/-
  For every code, the law FnQuota returns true: a share lies between two whole numbers, and these are equal if it is whole. There are no conditions.
-/
import Derived.Test.YthhjddeimbfmfaaQuotaP
import Derived.Test.YthhjddeimbfmfaaDrawQ
namespace Go.Proofs.Ythhjddeimbfmfaa
open Go.ChangeShapes Go.WideShapes Go.ChangeAt Go.RowKit
set_option maxHeartbeats 1600000 in
theorem FnQuota_walk (A : Option Addr) (n c : Nat) (w : World) (h : BytsA w A n c) :
    Calls Try.prog 5 #[.slice A n c] w (LawOk w) := by
  by_cases hl : n ≤ 1048576
  · go_enter Try.func5, Try.ntmps5
    go_wp2_with fail
    refine (drawQuota_any _ _ _ _ h).mono ?_
    rintro e w1 ⟨A1, c1, xs, s, p, rfl, hxl, ho1, hb1⟩
    go_wp2_with fail
    refine (implQuota_any _ _ _ _ _ _ ho1.ints (by omega)).mono ?_
    rintro e w2 ⟨rfl, n2, rfl⟩
    go_wp2_with fail
    refine (specQuota_any _ _ _ _ _ _ (ho1.drewN n2).ints (by omega)).mono ?_
    rintro e w3 ⟨rfl, n3, rfl⟩
    by_cases hall : vv xs = true ∧ (0 ≤ s ∧ s ≤ 20) ∧ (0 ≤ p ∧ p < xs.length)
    · obtain ⟨hv, ⟨hs0, hs1⟩, hp0, hp1⟩ := hall
      obtain ⟨pn, rfl⟩ := Int.eq_ofNat_of_zero_le hp0
      obtain ⟨ad, x, rfl, hx, hc⟩ := ho1.ints.at_ (show pn < xs.length by omega)
      have hF := quotaF_t (p := pn) hv ⟨hs0, hs1⟩ ⟨hp0, hp1⟩ (by simpa using hx.out)
      rw [hF]
      clear hF
      obtain ⟨a1, ⟨a2, a2'⟩, a3⟩ := vv_iff.1 hv
      obtain ⟨hx0, hx1⟩ := a1 x (mem_of_at hx.out)
      have hw := Lib.hid (show ∀ x ∈ xs, -1000000000 ≤ x ∧ x ≤ 1000000000 from fun x hx => by have := a1 x hx; omega)
      obtain ⟨hm0, hm1⟩ := mul_bd (M := 99) (N := 20) ⟨hx0, hx1⟩ ⟨hs0, hs1⟩
      obtain ⟨u1, u2, u3, u4, u5, u6⟩ := up_down (n := x * s) (T := xs.sum) hm0 a3
      have hT5 := sum_bd xs 99 (fun x hx => by have := a1 x hx; omega)
      have hT : xs.sum ≤ 495 := by omega
      have hlo0 : 0 ≤ x * s / xs.sum := Int.ediv_nonneg hm0 (by omega)
      have hlo1 : x * s / xs.sum ≤ x * s := Int.ediv_le_self _ hm0
      have hne : (xs.sum == 0) = false := by simp; omega
      clear a1 hT5
      have U5 := Lib.hid u5
      have U6 := Lib.hid u6
      clear u5 u6
      obtain ⟨lo, hlo⟩ : ∃ lo, lo = x * s / xs.sum := ⟨_, rfl⟩
      obtain ⟨hi, hhi⟩ : ∃ hi, hi = (x * s + xs.sum - 1) / xs.sum := ⟨_, rfl⟩
      rw [← hlo] at u1 u3 u4 U5 U6 hlo0 hlo1
      rw [← hhi] at u2 u3 u4 U5 U6
      rw [← hlo, ← hhi]
      clear hlo hhi
      have hp1 := mul_bd (a := lo) (b := xs.sum) (M := 2000) (N := 495) ⟨hlo0, by omega⟩ ⟨by omega, hT⟩
      have hp2 := mul_bd (a := hi) (b := xs.sum) (M := 2001) (N := 495) ⟨by omega, by omega⟩ ⟨by omega, hT⟩
      obtain ⟨z1, z2⟩ := hp1
      obtain ⟨z3, z4⟩ := hp2
      have hd : hi - lo ≤ 1 := u3
      have hmod := Int.emod_nonneg (x * s) (show xs.sum ≠ 0 by omega)
      have hbool : (hi == lo) = (x * s % xs.sum == 0) := by
        by_cases hz : x * s % xs.sum = 0
        · rw [U5.out hz, hz]; simp
        · rw [U6.out hz]
          rw [show (lo + 1 == lo) = false by simp; omega]
          rw [show (x * s % xs.sum == 0) = false by simp [hz]]
      have HBo := Lib.hid hbool
      clear hbool u3
      cases hb1' : (hi == lo)
      · have hb2 : (x * s % xs.sum == 0) = false := by rw [← HBo.out]; exact hb1'
        clear HBo
        go_wp2_with (go_at_call 20; refine (lawSum_any _ _ _ _ ((ho1.drewN _).ints) (by omega) hw.out).mono ?_; rintro e w' ⟨rfl, rfl⟩)
        go_ret
        exact ⟨rfl, below_drewN hb1 _⟩
      · have hb2 : (x * s % xs.sum == 0) = true := by rw [← HBo.out]; exact hb1'
        clear HBo
        go_wp2_with (go_at_call 20; refine (lawSum_any _ _ _ _ ((ho1.drewN _).ints) (by omega) hw.out).mono ?_; rintro e w' ⟨rfl, rfl⟩)
        go_ret
        exact ⟨rfl, below_drewN hb1 _⟩
    · rw [quotaF_f hall]
      go_wp2
      go_ret
      exact ⟨rfl, below_drewN hb1 _⟩
  · have hbig : (1048576 : Int) < n := by omega
    clear hl
    go_enter Try.func5, Try.ntmps5
    go_wp2
    go_ret
    exact ⟨rfl, Below.refl _ _⟩
set_option maxRecDepth 100000 in
theorem FnQuota_lifted (os : Os) (started : os.Started) (H : Type) (enc : TypeId × Value → H) :
    ReturnsInHanded {} Try.checked os 5 .any (Rows.fnQuotaSpec.pre6 enc Try.prog Try.f5 Rows.fnQuotaRow.domain false) (Rows.fnQuotaSpec.post enc Try.prog Try.f5 false true false false) := by
  refine returnsInHanded_of_change (C := Try.checked) Try.own started (by kernel_rfl) Try.func5
    (ChangeSpec.witness6 (enc := enc) (C := Try.checked) false ⟨#[], #[.slice none 0 0], []⟩ 8 (by kernel_rfl) (by kernel_rfl) (by kernel_rfl) (by kernel_rfl)) ?_
  intro W base args ds gs before hval0 hW hcnd _
  have hval : ∀ (j : Nat) t v, Try.f5.params[j]? = some t → args[j]? = some v → Value.okWide Try.prog W .any base t v := hval0
  have hW' := hW
  obtain ⟨p, q, hA0, hV, rfl, hfz, hnd⟩ := hW
  have hA : DataW.TrodAll enc Try.prog W 0 (fun _ => true) true Try.f5.params.toList args.toList ds p := hA0
  rw [Try.params5] at hA hval
  obtain ⟨v0, vs0, d0, ds0, p0, q0, hargs, rfl, rfl, h0, r0⟩ := trodAll_cons hA
  obtain ⟨rfl, rfl, rfl⟩ := trodAll_nil r0
  obtain rfl : args = #[v0] := by cases args; simp_all
  obtain ⟨rfl, rfl⟩ := trodVars_none hV
  have k0 := h0
  have lt0 : ∀ x ∈ p0, x.block < W.heap.size := by obtain ⟨m, hm⟩ := k0; exact DataW.trod_lt m _ _ _ hm
  obtain ⟨a0, z0, c0, rfl, w0⟩ := openByts (hval 0 28 v0 rfl rfl) h0
  clear hA0 hval0
  refine (FnQuota_walk a0 z0 c0 W w0).mono fun e W' ⟨he, bel⟩ => ?_
  subst he
  exact ⟨_, rfl, _, _, _, [], _, [], hW', trodAll_mk1 (shut_bool Try.underlying4 _), (trodAll_cons_mk (Below.trod Try.laidOut (by kernel_rfl) (of_decide_eq_true (by kernel_rfl)) k0 bel lt0) trodAll_mk0), rfl, bel.frame _, fun h => by cases h⟩
/-- The given statement. -/
theorem FnQuota_holds : Rows.FnQuotaSaid :=
  OpenClaim.holds_of_wide 5 Try.f5 rfl rfl rfl rfl rfl rfl rfl ⟨rfl, rfl, rfl, rfl, rfl⟩ rfl rfl rfl rfl rfl (by kernel_rfl) Try.func5 (by kernel_rfl)
    (of_decide_eq_true (by kernel_rfl)) (by unfold Func.isWrapper; first | (rw [if_pos (by decide +kernel)]; kernel_rfl) | (rw [if_neg (by decide +kernel)]; exact ⟨rfl, rfl⟩))
    (fun os started H enc _ => FnQuota_lifted os started H enc)
end Go.Proofs.Ythhjddeimbfmfaa
