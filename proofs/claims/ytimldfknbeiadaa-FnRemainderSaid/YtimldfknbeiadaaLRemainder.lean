/-
  For every code, the law FnRemainder returns true: all seats are given, and fairly. There are no conditions.
-/
import Derived.Test.YtimldfknbeiadaaRemQ
namespace Go.Proofs.Ytimldfknbeiadaa
open Go.ChangeShapes Go.WideShapes Go.ChangeAt Go.RowKit
set_option maxRecDepth 100000 in
set_option maxHeartbeats 3200000 in
theorem FnRemainder_walk (A : Option Addr) (n c : Nat) (w : World) (h : BytsA w A n c) :
    Calls Try.prog 10 #[.slice A n c] w (LawOk w) := by
  by_cases hl : n ≤ 1048576
  case neg =>
    have hbig : (1048576 : Int) < n := by omega
    clear hl
    go_enter Try.func10, Try.ntmps10
    go_wp2
    go_ret
    exact ⟨rfl, Below.refl _ _⟩
  go_enter Try.func10, Try.ntmps10
  go_wp2_with fail
  refine (drawRemainder_any _ _ _ _ h).mono ?_
  rintro e w1 ⟨A1, c1, xs, s, A2, c2, ls, rfl, ⟨hx5, hox, hb1⟩, ⟨hl5, hol, _⟩⟩
  have hcap := hol.le_cap
  have cI := Lib.hid (implRem_any A1 A2 xs ls c1 c2 s _ hox.ints hol.ints (by omega) (by omega) hol.le_cap)
  have cS := Lib.hid (fun (w : World) (h : Ints w A1 xs) (h2 : Ints w A2 ls) => specRem_any A1 A2 xs ls c1 c2 s w h h2 (by omega) (by omega) hol.le_cap)
  have hyl := remF_len hx5 s ls
  obtain ⟨r, hr⟩ : ∃ r, remF xs s ls = r := ⟨_, rfl⟩
  rw [hr] at cI cS hyl
  obtain ⟨ys, b⟩ := r
  have hyl : ys.length ≤ 5 := by have : ys.length ≤ 5 := hyl; exact this
  have hself : (ys == ys) = true := by simp
  have HR := Lib.hid hr
  clear hr
  go_wp2_with fail
  refine cI.out.mono ?_
  rintro e w2 ⟨A3, c3, rfl, ho3, hb2⟩
  go_wp2_with fail
  refine (cS.out _ (hox.below hb2).ints (hol.below hb2).ints).mono ?_
  rintro e w3 ⟨A4, c4, rfl, ho4, hb3⟩
  have hB2 := hb1.trans (hb2.mono hb1.size)
  have hB3 := hB2.trans (hb3.mono hB2.size)
  have ho3 := ho3.below hb3
  have hox := (hox.below hb2).below hb3
  have hol := (hol.below hb2).below hb3
  clear cS hB2
  go_wp2_with fail
  refine (lawSame_any _ _ _ _ _ _ _ ho3.ints ho4.ints (by show ys.length ≤ _; omega) (by show ys.length ≤ _; omega)).mono ?_
  rintro e w4 ⟨rfl, n4, rfl⟩
  have hB3 := below_drewN hB3 n4
  have ho3 := ho3.drewN n4
  have ho4 := ho4.drewN n4
  have hox := hox.drewN n4
  have hol := hol.drewN n4
  clear hb2 hb3
  generalize w3.drewN n4 = w4 at *
  cases b
  case false =>
    go_wp2_with fail
    refine (lawSame_any _ _ _ _ _ _ _ ho3.ints ho4.ints (by show ys.length ≤ _; omega) (by show ys.length ≤ _; omega)).mono ?_
    rintro e w5 ⟨rfl, n5, rfl⟩
    go_wp2
    go_ret
    exact ⟨rfl, below_drewN hB3 _⟩
  obtain ⟨hC, hys⟩ := remF_true HR.out
  obtain ⟨rOk, hvv⟩ := remOk_of hC
  have RF := Lib.hid (hys ▸ rOk.fin)
  have RO := Lib.hid rOk
  have HV := Lib.hid hvv
  obtain ⟨hs0, hs1⟩ := rOk.hs
  clear hC hys rOk hvv
  obtain ⟨a1, ⟨a2, a2'⟩, a3⟩ := vv_iff.1 HV.out
  have HX := Lib.hid a1
  have HW := Lib.hid (wide' a1 (by omega))
  have hT5 := sum_bd xs 99 (fun x hx => by have := a1 x hx; omega)
  have hT : xs.sum ≤ 495 := by omega
  have HYL := Lib.hid RF.out.len
  have HYB := Lib.hid RF.out.bd
  have i1 := hox.ints
  have i3 := ho3.ints
  clear a1 hT5
  have HYW := Lib.hid (wide' RF.out.bd (by omega))
  have HSum := Lib.hid RF.out.sum
  have cF := Lib.hid (fun (w : World) (h : Ints w A1 xs) (h' : Ints w A3 ys) => implFair_any A1 A3 xs ys c1 c3 w h h' (by omega) (by omega))
  rw [(RF.out.fair HV.out ⟨hs0, hs1⟩).2] at cF
  have heq : ((ys.length : Int) == (xs.length : Int)) = true := by simp [HYL.out]
  have cS := Lib.hid (lawSum_any A3 ys c3 w4 i3 (by omega) HYW.out)
  rw [HSum.out] at cS
  have hss : (s == s) = true := by simp
  go_wp2_with (first | (go_at_call 23; refine cS.out.mono ?_; rintro e w' ⟨rfl, rfl⟩) | (go_at_call 28; refine (cF.out _ i1 i3).mono ?_; rintro e w' ⟨rfl, n6, rfl⟩))
  go_ret
  exact ⟨rfl, below_drewN hB3 _⟩
set_option maxRecDepth 100000 in
theorem FnRemainder_lifted (os : Os) (started : os.Started) (H : Type) (enc : TypeId × Value → H) :
    ReturnsInHanded {} Try.checked os 10 .any (Rows.fnRemainderSpec.pre6 enc Try.prog Try.f10 Rows.fnRemainderRow.domain false) (Rows.fnRemainderSpec.post enc Try.prog Try.f10 false true false false) := by
  refine returnsInHanded_of_change (C := Try.checked) Try.own started (by kernel_rfl) Try.func10
    (ChangeSpec.witness6 (enc := enc) (C := Try.checked) false ⟨#[], #[.slice none 0 0], []⟩ 8 (by kernel_rfl) (by kernel_rfl) (by kernel_rfl) (by kernel_rfl)) ?_
  intro W base args ds gs before hval0 hW hcnd _
  have hval : ∀ (j : Nat) t v, Try.f10.params[j]? = some t → args[j]? = some v → Value.okWide Try.prog W .any base t v := hval0
  have hW' := hW
  obtain ⟨p, q, hA0, hV, rfl, hfz, hnd⟩ := hW
  have hA : DataW.TrodAll enc Try.prog W 0 (fun _ => true) true Try.f10.params.toList args.toList ds p := hA0
  rw [Try.params10] at hA hval
  obtain ⟨v0, vs0, d0, ds0, p0, q0, hargs, rfl, rfl, h0, r0⟩ := trodAll_cons hA
  obtain ⟨rfl, rfl, rfl⟩ := trodAll_nil r0
  obtain rfl : args = #[v0] := by cases args; simp_all
  obtain ⟨rfl, rfl⟩ := trodVars_none hV
  have k0 := h0
  have lt0 : ∀ x ∈ p0, x.block < W.heap.size := by obtain ⟨m, hm⟩ := k0; exact DataW.trod_lt m _ _ _ hm
  obtain ⟨a0, z0, c0, rfl, w0⟩ := openByts (hval 0 22 v0 rfl rfl) h0
  clear hA0 hval0
  refine (FnRemainder_walk a0 z0 c0 W w0).mono fun e W' ⟨he, bel⟩ => ?_
  subst he
  exact ⟨_, rfl, _, _, _, [], _, [], hW', trodAll_mk1 (shut_bool Try.underlying4 _), (trodAll_cons_mk (Below.trod Try.laidOut (by kernel_rfl) (of_decide_eq_true (by kernel_rfl)) k0 bel lt0) trodAll_mk0), rfl, bel.frame _, fun h => by cases h⟩
/-- The given statement. -/
theorem FnRemainder_holds : Rows.FnRemainderSaid :=
  OpenClaim.holds_of_wide 10 Try.f10 rfl rfl rfl rfl rfl rfl rfl ⟨rfl, rfl, rfl, rfl, rfl⟩ rfl rfl rfl rfl rfl (by kernel_rfl) Try.func10 (by kernel_rfl)
    (of_decide_eq_true (by kernel_rfl)) (by unfold Func.isWrapper; first | (rw [if_pos (by decide +kernel)]; kernel_rfl) | (rw [if_neg (by decide +kernel)]; exact ⟨rfl, rfl⟩))
    (fun os started H enc _ => FnRemainder_lifted os started H enc)
end Go.Proofs.Ytimldfknbeiadaa
