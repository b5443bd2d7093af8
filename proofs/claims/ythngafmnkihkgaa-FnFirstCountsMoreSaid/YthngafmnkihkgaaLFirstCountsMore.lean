/-
  For every code and every further code, the law FnFirstCountsMore returns true: who stays loses nothing when another one leaves. There are no conditions.
-/
import Derived.Test.YthngafmnkihkgaaCntP
import Derived.Test.YthngafmnkihkgaaDrawF
import Derived.Test.YthngafmnkihkgaaBoolM
namespace Go.Proofs.Ythngafmnkihkgaa
open Go.ChangeShapes Go.WideShapes Go.ChangeAt Go.RowKit
theorem cntC_grow {left : List Bool} {ps : List (ByteArray × Int)} {n : Nat} (hF : FitOk ps n) {k i : Nat} (hk : k < left.length) (hi : i ≠ k) : cntC left i (pl ps) ≤ cntC (left.set k true) i (pl ps) :=
  cntC_more hk (fun p hp c hc => (pl_rng hF p hp c hc).1) (pl_nn hF.many) (by omega)
set_option maxHeartbeats 3200000 in
theorem FnFirstCountsMore_walk (A : Option Addr) (n c : Nat) (Am : Option Addr) (nm cm : Nat) (w : World) (h : BytsA w A n c) (_hm : BytsA w Am nm cm) :
    Calls Try.prog 4 #[.slice A n c, .slice Am nm cm] w (LawOk w) := by
  by_cases hl : n ≤ 1048576
  case neg =>
    have hbig : (1048576 : Int) < n := by omega
    clear hl
    go_enter Try.func4, Try.ntmps4
    go_wp2
    go_ret
    exact ⟨rfl, Below.refl _ _⟩
  by_cases hl2 : nm ≤ 1048576
  case neg =>
    have hbig : (1048576 : Int) < nm := by omega
    clear hl2
    go_enter Try.func4, Try.ntmps4
    go_wp2
    go_ret
    exact ⟨rfl, Below.refl _ _⟩
  go_enter Try.func4, Try.ntmps4
  go_wp2_with fail
  refine (drawFirst_any _ _ _ _ h).mono ?_
  rintro e w1 ⟨A1, c1, ps, A2, c2, bs, rfl, ⟨hpl, hop, hb1⟩, hbl, hob⟩
  have cI := Lib.hid (implFirst_any A1 A2 ps bs c1 c2 _ hop.piles hob.bools (by omega) (by omega))
  have cS := Lib.hid (fun (w : World) (h : PilesI w A1 ps) (h2 : Bools w A2 bs) => specFirst_any A1 A2 ps bs c1 c2 w h h2 (by omega) (by omega))
  have hyl := fc_len (ps := ps) hbl
  obtain ⟨r, hr⟩ : ∃ r, fcF ps bs = r := ⟨_, rfl⟩
  rw [hr] at cI cS hyl
  obtain ⟨ys, b⟩ := r
  have hyl : ys.length ≤ 10 := by have : ys.length ≤ 10 := hyl; exact this
  have hself : (ys == ys) = true := by simp
  have HR := Lib.hid hr
  clear hr
  go_wp2_with fail
  refine cI.out.mono ?_
  rintro e w2 ⟨A3, c3, rfl, ho3, hb2⟩
  go_wp2_with fail
  refine (cS.out _ (hop.below hb2).piles (hob.below hb2).bools).mono ?_
  rintro e w3 ⟨A4, c4, rfl, ho4, hb3⟩
  have hB2 := hb1.trans (hb2.mono hb1.size)
  have hB3 := hB2.trans (hb3.mono hB2.size)
  have ho3 := ho3.below hb3
  have hop := (hop.below hb2).below hb3
  have hob := (hob.below hb2).below hb3
  clear cS hB2
  go_wp2_with fail
  refine (lawSame_any _ _ _ _ _ _ _ ho3.ints ho4.ints (by show ys.length ≤ _; omega) (by show ys.length ≤ _; omega)).mono ?_
  rintro e w4 ⟨rfl, n4, rfl⟩
  have hB3 := below_drewN hB3 n4
  have ho3 := ho3.drewN n4
  have ho4 := ho4.drewN n4
  have hop := hop.drewN n4
  have hob := hob.drewN n4
  clear hb2 hb3
  generalize w3.drewN n4 = w4 at *
  cases b
  case false =>
    go_wp2_with fail
    refine (lawSame_any _ _ _ _ _ _ _ ho3.ints ho4.ints (by show ys.length ≤ _; omega) (by show ys.length ≤ _; omega)).mono ?_
    rintro e w5 ⟨rfl, n5, rfl⟩
    go_wp2
    go_ret
    exact ⟨rfl, below_drewN hB3 _⟩
  obtain ⟨hfit, hys⟩ := fc_true HR.out
  have HYS := Lib.hid hys
  clear hys
  have hF := fitOk_of hfit
  have hb1 := hF.n1
  have hb5 := hF.n5
  have hne : ¬ ((bs.length : Int) = 0) := by omega
  have hkl : nm % bs.length < bs.length := Nat.mod_lt _ (by omega)
  have hk0 : (0 : Int) ≤ (nm : Int) % (bs.length : Int) := Int.emod_nonneg _ hne
  have hk1 : (nm : Int) % (bs.length : Int) < (bs.length : Int) := Int.emod_lt_of_pos _ (by omega)
  obtain ⟨bk, hbk⟩ : ∃ b, bs[nm % bs.length]? = some b := ⟨_, List.getElem?_eq_getElem hkl⟩
  have HBK := Lib.hid hbk
  have HF := Lib.hid hF
  have HFT := Lib.hid hfit
  obtain ⟨g2, rfl, _, _⟩ := hob.form (by omega)
  clear hbk hfit hF
  go_wp2_with (at_builtin; refine wpList_appBs _ rfl (.tmp 67) (.tmp 68) rfl w4.heap.size (some ⟨w4.heap.size, 0, none⟩) 0 0 [] rfl (ownB_empty w4 (Nat.le_refl _)) (by simp) (by omega) ⟨g2, 0, none⟩ bs bs.length c2 rfl rfl (by omega) (hob.bools.alloc _) bs.length (by omega) ?_; intro A5 c5 w5 h5 hg5 hb5'; obtain ⟨g5, rfl, hg50, hg51⟩ := h5.form (by omega); have hc5 := h5.cellB HBK.out; have hf5 := h5.frozenB (nm % bs.length))
  have hb6 : Below w4.heap.size w4 (w5.setCell ⟨g5, nm % bs.length, none⟩ (.bool true)) := (((Below.refl _ w4).alloc (Nat.le_refl _) _).trans hb5').setCell hg50 _
  have ho6 := h5.setB (nm % bs.length) true
  have hz5 := hb6.size
  obtain ⟨xs, hxs⟩ : ∃ xs, xs = bs.set (nm % bs.length) true := ⟨_, rfl⟩
  rw [List.nil_append, ← hxs] at ho6
  have hxl : xs.length = bs.length := by rw [hxs]; simp
  have HXS := Lib.hid hxs
  clear hxs
  have cX := Lib.hid (implFirst_any A1 (some ⟨g5, 0, none⟩) ps xs c1 c5 (w5.setCell ⟨g5, nm % bs.length, none⟩ (.bool true)) (hop.piles.below hb6) ho6.bools (by omega) (by omega))
  rw [fc_t (by rw [hxl]; exact HFT.out), hxl] at cX
  have HXL := Lib.hid hxl
  clear hxl ho6
  obtain ⟨zs, hzs⟩ : ∃ zs, zs = cntL xs (pl ps) := ⟨_, rfl⟩
  rw [← hzs] at cX
  have HZ := Lib.hid hzs
  have hzl : zs.length = bs.length := by rw [hzs, cntL_len]; exact HXL.out
  have HZL := Lib.hid hzl
  have HYL := Lib.hid (show ys.length = bs.length by rw [HYS.out, cntL_len])
  clear hzs hzl
  generalize w5.setCell ⟨g5, nm % bs.length, none⟩ (.bool true) = w6 at *
  refine cX.out.mono ?_
  rintro e w7 ⟨A7, c7, rfl, ho7, hb7⟩
  have hB6 := hB3.trans (hb6.mono hB3.size)
  have hB7 := hB6.trans (hb7.mono hB6.size)
  have i3 := ((ho3.below hb6).below hb7).ints
  have i7 := ho7.ints
  have HCZ := Lib.hid (show ∀ i x, zs[i]? = some x → i < bs.length → x = cntC xs i (pl ps) from fun i x hx hi => by
    rw [HZ.out, cntL_at (by rw [HXL.out]; exact hi)] at hx
    injection hx with hx
    exact hx.symm)
  have HCY := Lib.hid (show ∀ i x, ys[i]? = some x → i < bs.length → x = cntC bs i (pl ps) from fun i x hx hi => by
    rw [HYS.out, cntL_at hi] at hx
    injection hx with hx
    exact hx.symm)
  have cS1 := Lib.hid (fun w (hi : Ints w A7 zs) => lawSum_any A7 zs c7 w hi (by rw [HZL.out]; omega) (fun x hx => by rw [HZ.out] at hx; have := cntL_mem HF.out hx; omega))
  have cS2 := Lib.hid (fun w (hi : Ints w A3 ys) => lawSum_any A3 ys c3 w hi (by omega) (fun x hx => by rw [HYS.out] at hx; have := cntL_mem HF.out hx; omega))
  have hle : zs.sum ≤ ys.sum := by
    rw [HZ.out, HYS.out, HXS.out]
    exact cntL_less (pl_rng HF.out) (pl_nn HF.out.many)
  clear hb7 hb6 ho3 ho4 cX hB3 hB6 h5 hc5 hf5 hb5' hob hop ho7
  go_wp2
  go_loopw [15] (fun i wr => ∃ k m : Nat, k ≤ bs.length ∧ i = .int .i64 k ∧ wr = w7.drewN m) (fun i _ => bs.length - (intOf i).toNat)
  case atStart => exact ⟨0, 0, by omega, rfl, rfl⟩
  case round =>
    obtain ⟨k, m, hk, rfl, rfl⟩ := hrel
    by_cases hlt : k < bs.length
    · have l1 : k < zs.length := by rw [HZL.out]; exact hlt
      have l2 : k < ys.length := by rw [HYL.out]; exact hlt
      obtain ⟨ad, x, e3, hx, hc⟩ := i7.at_ l1
      obtain ⟨ad2, y, e4, hy, hc2⟩ := i3.at_ l2
      have hxe := HCZ.out k x hx.out hlt
      have hye := HCY.out k y hy.out hlt
      by_cases hkk : k = nm % bs.length
      · have hne2 : ((k : Int) != (nm : Int) % (bs.length : Int)) = false := by simp; omega
        clear hxe hye hkk
        subst e3
        subst e4
        go_wp2
        go_quiet (fail)
        go_wp2
        go_roundw
        case rel => exact ⟨k + 1, _, by omega, by go_num, rfl⟩
        case measure => simp [intOf]; omega
      · have hne2 : ((k : Int) != (nm : Int) % (bs.length : Int)) = true := by simp; omega
        have hxy : ¬ x < y := by
          rw [hxe, hye, HXS.out]
          have := cntC_grow HF.out hkl hkk
          omega
        clear hxe hye hkk
        subst e3
        subst e4
        go_wp2
        go_quiet (fail)
        go_wp2
        go_roundw
        case rel => exact ⟨k + 1, _, by omega, by go_num, rfl⟩
        case measure => simp [intOf]; omega
    · obtain rfl : k = bs.length := by omega
      have l1 : ¬ bs.length < zs.length := by rw [HZL.out]; omega
      have hleq : ((zs.length : Int) == (ys.length : Int)) = true := by simp [HZL.out, HYL.out]
      have c1 := Lib.hid (cS1.out (w7.drewN m) (i7.drewN m))
      have c2 := Lib.hid (cS2.out (w7.drewN m) (i3.drewN m))
      clear cS1 cS2
      generalize zs.sum = S1 at *
      generalize ys.sum = S2 at *
      go_wp2_with (go_at_call 15; first | ((with_reducible refine c1.out.mono ?_); rintro e w' ⟨rfl, rfl⟩) | ((with_reducible refine c2.out.mono ?_); rintro e w' ⟨rfl, rfl⟩))
      go_ret
      exact ⟨rfl, below_drewN hB7 _⟩
set_option maxRecDepth 100000 in
theorem FnFirstCountsMore_lifted (os : Os) (started : os.Started) (H : Type) (enc : TypeId × Value → H) :
    ReturnsInHanded {} Try.checked os 4 .any (Rows.fnFirstCountsMoreSpec.pre6 enc Try.prog Try.f4 Rows.fnFirstCountsMoreRow.domain false) (Rows.fnFirstCountsMoreSpec.post enc Try.prog Try.f4 false true false false) := by
  refine returnsInHanded_of_change (C := Try.checked) Try.own started (by kernel_rfl) Try.func4
    (ChangeSpec.witness6 (enc := enc) (C := Try.checked) false ⟨#[], #[.slice none 0 0, .slice none 0 0], []⟩ 8 (by kernel_rfl) (by kernel_rfl) (by kernel_rfl) (by kernel_rfl)) ?_
  intro W base args ds gs before hval0 hW hcnd _
  have hval : ∀ (j : Nat) t v, Try.f4.params[j]? = some t → args[j]? = some v → Value.okWide Try.prog W .any base t v := hval0
  have hW' := hW
  obtain ⟨p, q, hA0, hV, rfl, hfz, hnd⟩ := hW
  have hA : DataW.TrodAll enc Try.prog W 0 (fun _ => true) true Try.f4.params.toList args.toList ds p := hA0
  rw [Try.params4] at hA hval
  obtain ⟨v0, vs0, d0, ds0, p0, q0, hargs, rfl, rfl, h0, r0⟩ := trodAll_cons hA
  obtain ⟨v1, vs1, d1, ds1, p1, q1, rfl, rfl, rfl, h1, r1⟩ := trodAll_cons r0
  obtain ⟨rfl, rfl, rfl⟩ := trodAll_nil r1
  obtain rfl : args = #[v0, v1] := by cases args; simp_all
  obtain ⟨rfl, rfl⟩ := trodVars_none hV
  have k0 := h0
  have lt0 : ∀ x ∈ p0, x.block < W.heap.size := by obtain ⟨m, hm⟩ := k0; exact DataW.trod_lt m _ _ _ hm
  obtain ⟨a0, z0, c0, rfl, w0⟩ := openByts (hval 0 22 v0 rfl rfl) h0
  have k1 := h1
  have lt1 : ∀ x ∈ p1, x.block < W.heap.size := by obtain ⟨m, hm⟩ := k1; exact DataW.trod_lt m _ _ _ hm
  obtain ⟨a1, z1, c1, rfl, w1⟩ := openByts (hval 1 22 v1 rfl rfl) h1
  clear hA0 hval0
  refine (FnFirstCountsMore_walk a0 z0 c0 a1 z1 c1 W w0 w1).mono fun e W' ⟨he, bel⟩ => ?_
  subst he
  exact ⟨_, rfl, _, _, _, [], _, [], hW', trodAll_mk1 (shut_bool Try.underlying4 _), (trodAll_cons_mk (Below.trod Try.laidOut (by kernel_rfl) (of_decide_eq_true (by kernel_rfl)) k0 bel lt0) (trodAll_cons_mk (Below.trod Try.laidOut (by kernel_rfl) (of_decide_eq_true (by kernel_rfl)) k1 bel lt1) trodAll_mk0)), rfl, bel.frame _, fun h => by cases h⟩
/-- The given statement. -/
theorem FnFirstCountsMore_holds : Rows.FnFirstCountsMoreSaid :=
  OpenClaim.holds_of_wide 4 Try.f4 rfl rfl rfl rfl rfl rfl rfl ⟨rfl, rfl, rfl, rfl, rfl⟩ rfl rfl rfl rfl rfl (by kernel_rfl) Try.func4 (by kernel_rfl)
    (of_decide_eq_true (by kernel_rfl)) (by unfold Func.isWrapper; first | (rw [if_pos (by decide +kernel)]; kernel_rfl) | (rw [if_neg (by decide +kernel)]; exact ⟨rfl, rfl⟩))
    (fun os started H enc _ => FnFirstCountsMore_lifted os started H enc)
end Go.Proofs.Ythngafmnkihkgaa
