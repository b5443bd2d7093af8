/-
  For every code, the law FnFirstCounts returns true: each ballot counts once. There are no conditions.
-/
import Derived.Test.YthngafmnkihkgaaCnt
import Derived.Test.YthngafmnkihkgaaCntP
import Derived.Test.YthngafmnkihkgaaDrawF
namespace Go.Proofs.Ythngafmnkihkgaa
open Go.ChangeShapes Go.WideShapes Go.ChangeAt Go.RowKit
set_option maxHeartbeats 1600000 in
theorem FnFirstCounts_walk (A : Option Addr) (n c : Nat) (w : World) (h : BytsA w A n c) :
    Calls Try.prog 6 #[.slice A n c] w (LawOk w) := by
  by_cases hl : n ≤ 1048576
  case neg =>
    have hbig : (1048576 : Int) < n := by omega
    clear hl
    go_enter Try.func6, Try.ntmps6
    go_wp2
    go_ret
    exact ⟨rfl, Below.refl _ _⟩
  go_enter Try.func6, Try.ntmps6
  go_wp2_with fail
  refine (drawFirst_any _ _ _ _ h).mono ?_
  rintro e w1 ⟨A1, c1, ps, A2, c2, bs, rfl, ⟨hpl, hop, hb1⟩, hbl, hob⟩
  have cI := Lib.hid (implFirst_any A1 A2 ps bs c1 c2 _ hop.piles hob.bools (by omega) (by omega))
  have cS := Lib.hid (fun (w : World) (h : PilesI w A1 ps) (h2 : Bools w A2 bs) => specFirst_any A1 A2 ps bs c1 c2 w h h2 (by omega) (by omega))
  have hyl := fc_len (ps := ps) hbl
  obtain ⟨r, hr⟩ : ∃ r, fcF ps bs = r := ⟨_, rfl⟩
  rw [hr] at cI cS hyl
  obtain ⟨ys, b⟩ := r
  have hyl : ys.length ≤ 10 := by have : ys.length ≤ 10 := hyl; exact this
  have hself : (ys == ys) = true := by simp
  have HR := Lib.hid hr
  clear hr
  go_wp2_with fail
  refine cI.out.mono ?_
  rintro e w2 ⟨A3, c3, rfl, ho3, hb2⟩
  go_wp2_with fail
  refine (cS.out _ (hop.below hb2).piles (hob.below hb2).bools).mono ?_
  rintro e w3 ⟨A4, c4, rfl, ho4, hb3⟩
  have hB2 := hb1.trans (hb2.mono hb1.size)
  have hB3 := hB2.trans (hb3.mono hB2.size)
  have ho3 := ho3.below hb3
  have hop := (hop.below hb2).below hb3
  have hob := (hob.below hb2).below hb3
  clear cS hB2
  go_wp2_with fail
  refine (lawSame_any _ _ _ _ _ _ _ ho3.ints ho4.ints (by show ys.length ≤ _; omega) (by show ys.length ≤ _; omega)).mono ?_
  rintro e w4 ⟨rfl, n4, rfl⟩
  have hB3 := below_drewN hB3 n4
  have ho3 := ho3.drewN n4
  have ho4 := ho4.drewN n4
  have hop := hop.drewN n4
  have hob := hob.drewN n4
  clear hb2 hb3
  generalize w3.drewN n4 = w4 at *
  cases b
  case false =>
    go_wp2_with fail
    refine (lawSame_any _ _ _ _ _ _ _ ho3.ints ho4.ints (by show ys.length ≤ _; omega) (by show ys.length ≤ _; omega)).mono ?_
    rintro e w5 ⟨rfl, n5, rfl⟩
    go_wp2
    go_ret
    exact ⟨rfl, below_drewN hB3 _⟩
  obtain ⟨hfit, rfl⟩ := fc_true HR.out
  have hF := fitOk_of hfit
  have HF := Lib.hid hF
  have hyn := cntL_len bs (pl ps)
  have HYN := Lib.hid hyn
  have i3 := ho3.ints
  go_wp2
  go_loop [9] (fun i => ∃ k : Nat, k ≤ bs.length ∧ i = .int .i64 k) (fun i => bs.length - (intOf i).toNat)
  case atStart => exact ⟨0, by omega, rfl⟩
  case round =>
    obtain ⟨k, hk, rfl⟩ := hrel
    by_cases hlt : k < bs.length
    · have hlt2 : k < (cntL bs (pl ps)).length := by omega
      obtain ⟨ad, x, e3, hx, hc⟩ := i3.at_ hlt2
      obtain ⟨ad2, bk, e4, hy, hc2⟩ := hob.bools.at_ hlt
      have hxe : x = cntC bs k (pl ps) := by
        have := hx.out
        rw [cntL_at hlt] at this
        injection this with this
        exact this.symm
      have hx0 : 0 ≤ x := by rw [hxe]; exact (cntC_tot bs k ps HF.out.many).1
      subst e3
      subst e4
      clear hyn hlt2
      cases bk
      · clear hxe
        go_wp2
        go_round
        case rel => exact ⟨k + 1, by omega, by go_num⟩
        case measure => simp [intOf]; omega
      · have hxz : x = 0 := by
          rw [hxe]
          exact cntC_left (by rw [List.getD_eq_getElem?_getD, hy.out]; rfl)
        clear hxe hx0
        subst hxz
        go_wp2
        go_round
        case rel => exact ⟨k + 1, by omega, by go_num⟩
        case measure => simp [intOf]; omega
    · obtain rfl : k = bs.length := by omega
      clear hlt hyn
      have hle : (((cntL bs (pl ps)).length : Int) == (bs.length : Int)) = true := by simp [HYN.out]
      have cS := Lib.hid (lawSum_any A3 (cntL bs (pl ps)) c3 w4 i3 (by omega) (fun x hx => by have := cntL_mem HF.out hx; omega))
      have cT := Lib.hid (pilesTotal_any A1 ps c1 w4 hop.piles (by omega))
      rw [totF_fit hfit] at cT
      have hst := cntL_sum_le bs HF.out
      rw [HYN.out] at cS
      clear hfit hF hself i3
      generalize (cntL bs (pl ps)).sum = S at *
      generalize totM ps = T at *
      go_wp2_with (first | (go_at_call 15; refine cS.out.mono ?_; rintro e w' ⟨rfl, rfl⟩) | (go_at_call 23; refine cT.out.mono ?_; rintro e w5 ⟨rfl, hb5⟩))
      go_ret
      exact ⟨rfl, hB3.trans (hb5.mono hB3.size)⟩
set_option maxRecDepth 100000 in
theorem FnFirstCounts_lifted (os : Os) (started : os.Started) (H : Type) (enc : TypeId × Value → H) :
    ReturnsInHanded {} Try.checked os 6 .any (Rows.fnFirstCountsSpec.pre6 enc Try.prog Try.f6 Rows.fnFirstCountsRow.domain false) (Rows.fnFirstCountsSpec.post enc Try.prog Try.f6 false true false false) := by
  refine returnsInHanded_of_change (C := Try.checked) Try.own started (by kernel_rfl) Try.func6
    (ChangeSpec.witness6 (enc := enc) (C := Try.checked) false ⟨#[], #[.slice none 0 0], []⟩ 8 (by kernel_rfl) (by kernel_rfl) (by kernel_rfl) (by kernel_rfl)) ?_
  intro W base args ds gs before hval0 hW hcnd _
  have hval : ∀ (j : Nat) t v, Try.f6.params[j]? = some t → args[j]? = some v → Value.okWide Try.prog W .any base t v := hval0
  have hW' := hW
  obtain ⟨p, q, hA0, hV, rfl, hfz, hnd⟩ := hW
  have hA : DataW.TrodAll enc Try.prog W 0 (fun _ => true) true Try.f6.params.toList args.toList ds p := hA0
  rw [Try.params6] at hA hval
  obtain ⟨v0, vs0, d0, ds0, p0, q0, hargs, rfl, rfl, h0, r0⟩ := trodAll_cons hA
  obtain ⟨rfl, rfl, rfl⟩ := trodAll_nil r0
  obtain rfl : args = #[v0] := by cases args; simp_all
  obtain ⟨rfl, rfl⟩ := trodVars_none hV
  have k0 := h0
  have lt0 : ∀ x ∈ p0, x.block < W.heap.size := by obtain ⟨m, hm⟩ := k0; exact DataW.trod_lt m _ _ _ hm
  obtain ⟨a0, z0, c0, rfl, w0⟩ := openByts (hval 0 22 v0 rfl rfl) h0
  clear hA0 hval0
  refine (FnFirstCounts_walk a0 z0 c0 W w0).mono fun e W' ⟨he, bel⟩ => ?_
  subst he
  exact ⟨_, rfl, _, _, _, [], _, [], hW', trodAll_mk1 (shut_bool Try.underlying4 _), (trodAll_cons_mk (Below.trod Try.laidOut (by kernel_rfl) (of_decide_eq_true (by kernel_rfl)) k0 bel lt0) trodAll_mk0), rfl, bel.frame _, fun h => by cases h⟩
/-- The given statement. -/
theorem FnFirstCounts_holds : Rows.FnFirstCountsSaid :=
  OpenClaim.holds_of_wide 6 Try.f6 rfl rfl rfl rfl rfl rfl rfl ⟨rfl, rfl, rfl, rfl, rfl⟩ rfl rfl rfl rfl rfl (by kernel_rfl) Try.func6 (by kernel_rfl)
    (of_decide_eq_true (by kernel_rfl)) (by unfold Func.isWrapper; first | (rw [if_pos (by decide +kernel)]; kernel_rfl) | (rw [if_neg (by decide +kernel)]; exact ⟨rfl, rfl⟩))
    (fun os started H enc _ => FnFirstCounts_lifted os started H enc)
end Go.Proofs.Ythngafmnkihkgaa
