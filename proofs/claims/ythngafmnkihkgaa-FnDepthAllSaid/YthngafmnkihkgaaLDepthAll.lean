/-
  For every code, the law FnDepthAll returns true: all named candidates are counted. There are no conditions.
-/
import Derived.Test.YthngafmnkihkgaaPtsL
import Derived.Test.YthngafmnkihkgaaDrawN
namespace Go.Proofs.Ythngafmnkihkgaa
open Go.ChangeShapes Go.WideShapes Go.ChangeAt Go.RowKit
set_option maxRecDepth 100000 in
set_option maxHeartbeats 3200000 in
theorem FnDepthAll_walk (A : Option Addr) (n c : Nat) (w : World) (h : BytsA w A n c) :
    Calls Try.prog 3 #[.slice A n c] w (LawOk w) := by
  by_cases hl : n ≤ 1048576
  case neg =>
    have hbig : (1048576 : Int) < n := by omega
    clear hl
    go_enter Try.func3, Try.ntmps3
    go_wp2
    go_ret
    exact ⟨rfl, Below.refl _ _⟩
  go_enter Try.func3, Try.ntmps3
  go_wp2_with fail
  refine (drawDepth_any _ _ _ _ h).mono ?_
  rintro e w1 ⟨A1, c1, ps, n1, d1, rfl, ⟨hpl, hop, hb1⟩, hn6⟩
  have cI := Lib.hid (implDepth_any A1 ps c1 n1 d1 _ hop.piles (by omega))
  have cS := Lib.hid (fun (w : World) (h : PilesI w A1 ps) => specDepth_any A1 ps c1 n1 d1 w h (by omega) (by omega))
  have hyl := dp_len ps n1 d1 hn6
  obtain ⟨r, hr⟩ : ∃ r, dpF ps n1 d1 = r := ⟨_, rfl⟩
  rw [hr] at cI cS hyl
  obtain ⟨ys, b⟩ := r
  have hyl : ys.length ≤ 10 := by have : ys.length ≤ 10 := hyl; exact this
  have hself : (ys == ys) = true := by simp
  have HR := Lib.hid hr
  clear hr
  go_wp2_with fail
  refine cI.out.mono ?_
  rintro e w2 ⟨A3, c3, rfl, ho3, hb2⟩
  go_wp2_with fail
  refine (cS.out _ (hop.below hb2).piles).mono ?_
  rintro e w3 ⟨A4, c4, rfl, ho4, hb3⟩
  have hB2 := hb1.trans (hb2.mono hb1.size)
  have hB3 := hB2.trans (hb3.mono hB2.size)
  have ho3 := ho3.below hb3
  have hop := (hop.below hb2).below hb3
  clear cS hB2
  go_wp2_with fail
  refine (lawSame_any _ _ _ _ _ _ _ ho3.ints ho4.ints (by show ys.length ≤ _; omega) (by show ys.length ≤ _; omega)).mono ?_
  rintro e w4 ⟨rfl, n4, rfl⟩
  have hB3 := below_drewN hB3 n4
  have ho3 := ho3.drewN n4
  have ho4 := ho4.drewN n4
  have hop := hop.drewN n4
  clear hb2 hb3
  generalize w3.drewN n4 = w4 at *
  cases b
  case false =>
    go_wp2_with fail
    refine (lawSame_any _ _ _ _ _ _ _ ho3.ints ho4.ints (by show ys.length ≤ _; omega) (by show ys.length ≤ _; omega)).mono ?_
    rintro e w5 ⟨rfl, n5, rfl⟩
    go_wp2
    go_ret
    exact ⟨rfl, below_drewN hB3 _⟩
  obtain ⟨hfit, _, _⟩ := dp_true HR.out
  have HF := Lib.hid (fitOk_of hfit)
  have cX := Lib.hid (implDepth_any A1 ps c1 n1 5 w4 hop.piles (by omega))
  rw [dp_t hfit (inB_t (by omega))] at cX
  obtain ⟨zs, hzs⟩ : ∃ zs, zs = ptsA n1 (fD 5) (pl ps) := ⟨_, rfl⟩
  rw [← hzs] at cX
  have HZ := Lib.hid hzs
  have hzl : zs.length ≤ 6 := by rw [hzs, ptsA_len]; exact hn6
  have HSUM := Lib.hid (show zs.sum = lenM ps by rw [hzs]; exact depth_all HF.out)
  clear hzs hfit
  go_wp2_with fail
  refine cX.out.mono ?_
  rintro e w5 ⟨A5, c5, rfl, ho5, hb5⟩
  have hB5 := hB3.trans (hb5.mono hB3.size)
  have i5 := ho5.ints
  have hP5 := hop.piles.below hb5
  have hl12 := HF.out.len
  have cS := Lib.hid (fun w (hi : Ints w A5 zs) => lawSum_any A5 zs c5 w hi (by omega) (fun x hx => by rw [HZ.out] at hx; have := ptsA_mem (fD_bd 5) HF.out hx; omega))
  rw [HSUM.out] at cS
  clear hb5 hB3 ho3 ho4 hop ho5 cX
  go_wp2
  go_loopw [12, 13] (fun s i wr => ∃ k q : Nat, k ≤ ps.length ∧ i = .int .i64 k ∧ s = .int .i64 (lenM (ps.take k)) ∧ wr = w5.drewN q) (fun _ i _ => ps.length - (intOf i).toNat)
  case atStart => exact ⟨0, 0, by omega, rfl, rfl, rfl⟩
  case round =>
    obtain ⟨k, q, hk, rfl, rfl, rfl⟩ := hrel
    by_cases hlt : k < ps.length
    · obtain ⟨ad, s, m, rfl, hp, hs, hc0, hc1⟩ := hP5.at_ hlt
      obtain ⟨hm0, hm1⟩ : 1 ≤ m ∧ m ≤ 99 := HF.out.many _ (pmem_at hp.out)
      have hbs := bt_size (HF.out.bts _ (pmem_at hp.out))
      have hbs : s.size ≤ 5 := hbs
      obtain ⟨t0, t1⟩ := lenM_bd HF.out k
      obtain ⟨p0, p1⟩ := mul_le5 (m := (s.size : Int)) (x := m) (N := 5) (M := 99) ⟨by omega, by omega⟩ ⟨by omega, by omega⟩ (by omega)
      have hn := Lib.hid (lenM_snoc hp.out)
      obtain ⟨L, hL⟩ : ∃ L, L = lenM (ps.take k) := ⟨_, rfl⟩
      rw [← hL] at t0 t1 hn ⊢
      have v1 : IntKind.i64.wrap ((s.size : Int) * m) = (s.size : Int) * m := IntWalk.i64_in _ (by omega)
      have v2 : IntKind.i64.wrap (L + (s.size : Int) * m) = L + (s.size : Int) * m := IntWalk.i64_in _ (by omega)
      have hk0 : (0 : Int) ≤ (k : Int) := by omega
      have hk1 : (k : Int) < (ps.length : Int) := by omega
      clear hL
      go_wp2
      go_quiet (fail)
      clear v1 v2
      go_wp2
      go_roundw
      case rel => exact ⟨k + 1, _, by omega, by go_num, by rw [hn.out], rfl⟩
      case measure => simp [intOf]; omega
    · obtain rfl : k = ps.length := by omega
      clear hlt
      rw [List.take_length]
      generalize lenM ps = L at *
      have hLL : (L == L) = true := by simp
      have cS := Lib.hid (cS.out (w5.drewN q) (i5.drewN q))
      go_wp2_with (go_at_call 15; refine cS.out.mono ?_; rintro e w' ⟨rfl, rfl⟩)
      go_ret
      exact ⟨rfl, below_drewN hB5 _⟩
set_option maxRecDepth 100000 in
theorem FnDepthAll_lifted (os : Os) (started : os.Started) (H : Type) (enc : TypeId × Value → H) :
    ReturnsInHanded {} Try.checked os 3 .any (Rows.fnDepthAllSpec.pre6 enc Try.prog Try.f3 Rows.fnDepthAllRow.domain false) (Rows.fnDepthAllSpec.post enc Try.prog Try.f3 false true false false) := by
  refine returnsInHanded_of_change (C := Try.checked) Try.own started (by kernel_rfl) Try.func3
    (ChangeSpec.witness6 (enc := enc) (C := Try.checked) false ⟨#[], #[.slice none 0 0], []⟩ 8 (by kernel_rfl) (by kernel_rfl) (by kernel_rfl) (by kernel_rfl)) ?_
  intro W base args ds gs before hval0 hW hcnd _
  have hval : ∀ (j : Nat) t v, Try.f3.params[j]? = some t → args[j]? = some v → Value.okWide Try.prog W .any base t v := hval0
  have hW' := hW
  obtain ⟨p, q, hA0, hV, rfl, hfz, hnd⟩ := hW
  have hA : DataW.TrodAll enc Try.prog W 0 (fun _ => true) true Try.f3.params.toList args.toList ds p := hA0
  rw [Try.params3] at hA hval
  obtain ⟨v0, vs0, d0, ds0, p0, q0, hargs, rfl, rfl, h0, r0⟩ := trodAll_cons hA
  obtain ⟨rfl, rfl, rfl⟩ := trodAll_nil r0
  obtain rfl : args = #[v0] := by cases args; simp_all
  obtain ⟨rfl, rfl⟩ := trodVars_none hV
  have k0 := h0
  have lt0 : ∀ x ∈ p0, x.block < W.heap.size := by obtain ⟨m, hm⟩ := k0; exact DataW.trod_lt m _ _ _ hm
  obtain ⟨a0, z0, c0, rfl, w0⟩ := openByts (hval 0 22 v0 rfl rfl) h0
  clear hA0 hval0
  refine (FnDepthAll_walk a0 z0 c0 W w0).mono fun e W' ⟨he, bel⟩ => ?_
  subst he
  exact ⟨_, rfl, _, _, _, [], _, [], hW', trodAll_mk1 (shut_bool Try.underlying4 _), (trodAll_cons_mk (Below.trod Try.laidOut (by kernel_rfl) (of_decide_eq_true (by kernel_rfl)) k0 bel lt0) trodAll_mk0), rfl, bel.frame _, fun h => by cases h⟩
/-- The given statement. -/
theorem FnDepthAll_holds : Rows.FnDepthAllSaid :=
  OpenClaim.holds_of_wide 3 Try.f3 rfl rfl rfl rfl rfl rfl rfl ⟨rfl, rfl, rfl, rfl, rfl⟩ rfl rfl rfl rfl rfl (by kernel_rfl) Try.func3 (by kernel_rfl)
    (of_decide_eq_true (by kernel_rfl)) (by unfold Func.isWrapper; first | (rw [if_pos (by decide +kernel)]; kernel_rfl) | (rw [if_neg (by decide +kernel)]; exact ⟨rfl, rfl⟩))
    (fun os started H enc _ => FnDepthAll_lifted os started H enc)
end Go.Proofs.Ythngafmnkihkgaa
