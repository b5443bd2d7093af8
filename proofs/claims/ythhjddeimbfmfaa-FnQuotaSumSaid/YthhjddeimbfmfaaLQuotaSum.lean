/-
  For every code, the law FnQuotaSum returns true: shares rounded down are together at most all seats, and rounded up at least. There are no conditions.
-/
import Derived.Test.YthhjddeimbfmfaaQuotaP
import Derived.Test.YthhjddeimbfmfaaDrawQ
namespace Go.Proofs.Ythhjddeimbfmfaa
open Go.ChangeShapes Go.WideShapes Go.ChangeAt Go.RowKit
set_option maxHeartbeats 1600000 in
theorem FnQuotaSum_walk (A : Option Addr) (n c : Nat) (w : World) (h : BytsA w A n c) :
    Calls Try.prog 4 #[.slice A n c] w (LawOk w) := by
  by_cases hl : n ≤ 1048576
  · go_enter Try.func4, Try.ntmps4
    go_wp2_with fail
    refine (drawQuota_any _ _ _ _ h).mono ?_
    rintro e w1 ⟨A1, c1, xs, s, p, rfl, hxl, ho1, hb1⟩
    go_wp2_with fail
    refine (implQuota_any _ _ _ _ _ _ ho1.ints (by omega)).mono ?_
    rintro e w2 ⟨rfl, n2, rfl⟩
    go_wp2_with fail
    refine (specQuota_any _ _ _ _ _ _ (ho1.drewN n2).ints (by omega)).mono ?_
    rintro e w3 ⟨rfl, n3, rfl⟩
    by_cases hall : vv xs = true ∧ (0 ≤ s ∧ s ≤ 20) ∧ (0 ≤ p ∧ p < xs.length)
    · obtain ⟨hv, ⟨hs0, hs1⟩, hp0, hp1⟩ := hall
      obtain ⟨pn, rfl⟩ := Int.eq_ofNat_of_zero_le hp0
      obtain ⟨x, hx⟩ : ∃ x, xs[pn]? = some x := ⟨_, List.getElem?_eq_getElem (by omega)⟩
      obtain ⟨b1, b2, b3, b4, _, _⟩ := quota_bd hv ⟨hs0, hs1⟩ hx
      clear hx
      obtain ⟨hA, hB⟩ := quota_all hv ⟨hs0, hs1⟩
      generalize quotaF xs s pn = r at b1 b2 b3 b4 ⊢
      obtain ⟨lo, hi⟩ := r
      have b1' : 0 ≤ lo := b1
      clear b1 b2 b3 b4
      have HV := Lib.hid hv
      clear hv
      go_wp2
      go_loopw [10, 11, 12] (fun a b i wr => ∃ k m : Nat, k ≤ xs.length ∧ i = .int .i64 k ∧ a = .int .i64 (loS xs s k) ∧ b = .int .i64 (hiS xs s k) ∧ wr = w1.drewN m) (fun _ _ i _ => xs.length - (intOf i).toNat)
      case atStart => exact ⟨0, _, by omega, rfl, rfl, rfl, rfl⟩
      case round =>
        obtain ⟨k, m, hk, rfl, rfl, rfl, rfl⟩ := hrel
        obtain ⟨⟨d1, d2, d3, d4⟩, _, _⟩ := loS_bd HV.out ⟨hs0, hs1⟩ hk
        by_cases hlt : k < xs.length
        · obtain ⟨x, hx⟩ : ∃ x, Hid (xs[k]? = some x) := ⟨_, List.getElem?_eq_getElem hlt⟩
          obtain ⟨q1, q2, q3, q4, _, _⟩ := quota_bd HV.out ⟨hs0, hs1⟩ hx.out
          have cQ := Lib.hid (implQuota_any _ _ c1 s k _ (ho1.drewN m).ints (show xs.length ≤ 1048576 by omega))
          have e1 := Lib.hid (show loS xs s (k + 1) = loS xs s k + (quotaF xs s k).1 from rfl)
          have e2 := Lib.hid (show hiS xs s (k + 1) = hiS xs s k + (quotaF xs s k).2 from rfl)
          generalize quotaF xs s k = r2 at q1 q2 q3 q4 cQ e1 e2
          obtain ⟨l2, h2⟩ := r2
          have q1' : 0 ≤ l2 := q1
          have q2' : l2 ≤ 2000 := q2
          have q3' : 0 ≤ h2 := q3
          have q4' : h2 ≤ 2001 := q4
          clear q1 q2 q3 q4
          go_wp2_with (go_at_call 17; refine cQ.out.mono ?_; rintro e w' ⟨rfl, n4, rfl⟩)
          go_roundw
          case rel => exact ⟨k + 1, _, by omega, by go_num, by rw [e1.out], by rw [e2.out], rfl⟩
          case measure => simp [intOf]; omega
        · obtain rfl : k = xs.length := by omega
          clear hlt
          go_wp2
          go_ret
          exact ⟨rfl, below_drewN hb1 _⟩
    · rw [quotaF_f hall]
      go_wp2
      go_ret
      exact ⟨rfl, below_drewN hb1 _⟩
  · have hbig : (1048576 : Int) < n := by omega
    clear hl
    go_enter Try.func4, Try.ntmps4
    go_wp2
    go_ret
    exact ⟨rfl, Below.refl _ _⟩
set_option maxRecDepth 100000 in
theorem FnQuotaSum_lifted (os : Os) (started : os.Started) (H : Type) (enc : TypeId × Value → H) :
    ReturnsInHanded {} Try.checked os 4 .any (Rows.fnQuotaSumSpec.pre6 enc Try.prog Try.f4 Rows.fnQuotaSumRow.domain false) (Rows.fnQuotaSumSpec.post enc Try.prog Try.f4 false true false false) := by
  refine returnsInHanded_of_change (C := Try.checked) Try.own started (by kernel_rfl) Try.func4
    (ChangeSpec.witness6 (enc := enc) (C := Try.checked) false ⟨#[], #[.slice none 0 0], []⟩ 8 (by kernel_rfl) (by kernel_rfl) (by kernel_rfl) (by kernel_rfl)) ?_
  intro W base args ds gs before hval0 hW hcnd _
  have hval : ∀ (j : Nat) t v, Try.f4.params[j]? = some t → args[j]? = some v → Value.okWide Try.prog W .any base t v := hval0
  have hW' := hW
  obtain ⟨p, q, hA0, hV, rfl, hfz, hnd⟩ := hW
  have hA : DataW.TrodAll enc Try.prog W 0 (fun _ => true) true Try.f4.params.toList args.toList ds p := hA0
  rw [Try.params4] at hA hval
  obtain ⟨v0, vs0, d0, ds0, p0, q0, hargs, rfl, rfl, h0, r0⟩ := trodAll_cons hA
  obtain ⟨rfl, rfl, rfl⟩ := trodAll_nil r0
  obtain rfl : args = #[v0] := by cases args; simp_all
  obtain ⟨rfl, rfl⟩ := trodVars_none hV
  have k0 := h0
  have lt0 : ∀ x ∈ p0, x.block < W.heap.size := by obtain ⟨m, hm⟩ := k0; exact DataW.trod_lt m _ _ _ hm
  obtain ⟨a0, z0, c0, rfl, w0⟩ := openByts (hval 0 28 v0 rfl rfl) h0
  clear hA0 hval0
  refine (FnQuotaSum_walk a0 z0 c0 W w0).mono fun e W' ⟨he, bel⟩ => ?_
  subst he
  exact ⟨_, rfl, _, _, _, [], _, [], hW', trodAll_mk1 (shut_bool Try.underlying4 _), (trodAll_cons_mk (Below.trod Try.laidOut (by kernel_rfl) (of_decide_eq_true (by kernel_rfl)) k0 bel lt0) trodAll_mk0), rfl, bel.frame _, fun h => by cases h⟩
/-- The given statement. -/
theorem FnQuotaSum_holds : Rows.FnQuotaSumSaid :=
  OpenClaim.holds_of_wide 4 Try.f4 rfl rfl rfl rfl rfl rfl rfl ⟨rfl, rfl, rfl, rfl, rfl⟩ rfl rfl rfl rfl rfl (by kernel_rfl) Try.func4 (by kernel_rfl)
    (of_decide_eq_true (by kernel_rfl)) (by unfold Func.isWrapper; first | (rw [if_pos (by decide +kernel)]; kernel_rfl) | (rw [if_neg (by decide +kernel)]; exact ⟨rfl, rfl⟩))
    (fun os started H enc _ => FnQuotaSum_lifted os started H enc)
end Go.Proofs.Ythhjddeimbfmfaa
