/-
  For every code, the law FnLast returns true: a last place is told by full ballots. There are no conditions.
-/
import Derived.Test.YthngafmnkihkgaaLastP
import Derived.Test.YthngafmnkihkgaaDrawN
import Derived.Test.YthngafmnkihkgaaBoolM
namespace Go.Proofs.Ythngafmnkihkgaa
open Go.ChangeShapes Go.WideShapes Go.ChangeAt Go.RowKit
set_option maxRecDepth 100000 in
set_option maxHeartbeats 3200000 in
theorem FnLast_walk (A : Option Addr) (n c : Nat) (w : World) (h : BytsA w A n c) :
    Calls Try.prog 7 #[.slice A n c] w (LawOk w) := by
  by_cases hl : n ≤ 1048576
  case neg =>
    have hbig : (1048576 : Int) < n := by omega
    clear hl
    go_enter Try.func7, Try.ntmps7
    go_wp2
    go_ret
    exact ⟨rfl, Below.refl _ _⟩
  go_enter Try.func7, Try.ntmps7
  go_wp2_with fail
  refine (drawLast_any _ _ _ _ h).mono ?_
  rintro e w1 ⟨A1, c1, ps, n1, rfl, ⟨hpl, hop, hb1⟩, hn6⟩
  have cI := Lib.hid (implLast_any A1 ps c1 n1 _ hop.piles (by omega))
  have cS := Lib.hid (fun (w : World) (h : PilesI w A1 ps) => specLast_any A1 ps c1 n1 w h (by omega) (by omega))
  have hyl := laF_len ps n1 hn6
  obtain ⟨r, hr⟩ : ∃ r, laF ps n1 = r := ⟨_, rfl⟩
  rw [hr] at cI cS hyl
  obtain ⟨ys, b⟩ := r
  have hyl : ys.length ≤ 10 := by have : ys.length ≤ 10 := hyl; exact this
  have hself : (ys == ys) = true := by simp
  have HR := Lib.hid hr
  clear hr
  go_wp2_with fail
  refine cI.out.mono ?_
  rintro e w2 ⟨A3, c3, rfl, ho3, hb2⟩
  go_wp2_with fail
  refine (cS.out _ (hop.below hb2).piles).mono ?_
  rintro e w3 ⟨A4, c4, rfl, ho4, hb3⟩
  have hB2 := hb1.trans (hb2.mono hb1.size)
  have hB3 := hB2.trans (hb3.mono hB2.size)
  have ho3 := ho3.below hb3
  have hop := (hop.below hb2).below hb3
  clear cS hB2
  go_wp2_with fail
  refine (lawSame_any _ _ _ _ _ _ _ ho3.ints ho4.ints (by show ys.length ≤ _; omega) (by show ys.length ≤ _; omega)).mono ?_
  rintro e w4 ⟨rfl, n4, rfl⟩
  have hB3 := below_drewN hB3 n4
  have ho3 := ho3.drewN n4
  have ho4 := ho4.drewN n4
  have hop := hop.drewN n4
  clear hb2 hb3
  generalize w3.drewN n4 = w4 at *
  cases b
  case false =>
    go_wp2_with fail
    refine (lawSame_any _ _ _ _ _ _ _ ho3.ints ho4.ints (by show ys.length ≤ _; omega) (by show ys.length ≤ _; omega)).mono ?_
    rintro e w5 ⟨rfl, n5, rfl⟩
    go_wp2
    go_ret
    exact ⟨rfl, below_drewN hB3 _⟩
  by_cases hn2 : n1 < 2
  case pos =>
    go_wp2_with fail
    refine (lawSame_any _ _ _ _ _ _ _ ho3.ints ho4.ints (by show ys.length ≤ _; omega) (by show ys.length ≤ _; omega)).mono ?_
    rintro e w5 ⟨rfl, n5, rfl⟩
    go_wp2
    go_ret
    exact ⟨rfl, below_drewN hB3 _⟩
  obtain ⟨hfit, hys⟩ := laF_true HR.out
  have HF := Lib.hid (fitOk_of hfit)
  have HFIT := Lib.hid hfit
  have HYS := Lib.hid hys
  have hn2 : 2 ≤ n1 := by omega
  have hn5 := HF.out.n5
  have hl12 := HF.out.len
  clear hys hfit
  have hP := hop.piles
  go_wp2
  go_loop [9, 10] (fun s i => ∃ k : Nat, k ≤ ps.length ∧ i = .int .i64 k ∧ s = .int .i64 (fullM n1 (ps.take k))) (fun _ i => ps.length - (intOf i).toNat)
  case atStart => exact ⟨0, by omega, rfl, rfl⟩
  case round =>
    obtain ⟨k, hk, rfl, rfl⟩ := hrel
    by_cases hlt : k < ps.length
    · obtain ⟨ad, s, m, rfl, hp, hs, hc0, hc1⟩ := hP.at_ hlt
      obtain ⟨hm0, hm1⟩ : 1 ≤ m ∧ m ≤ 99 := HF.out.many _ (pmem_at hp.out)
      obtain ⟨t0, t1⟩ := fullM_bd HF.out k
      have hn := Lib.hid (fullM_snoc (n := n1) hp.out)
      by_cases hsn : s.size = n1
      · have hse : ((s.size : Int) == (n1 : Int)) = true := by simp [hsn]
        have hv := Lib.hid (show fullM n1 (ps.take (k + 1)) = fullM n1 (ps.take k) + m by rw [hn.out, if_pos hsn])
        clear hsn hn
        go_wp2
        go_round
        case rel => exact ⟨k + 1, by omega, by go_num, by rw [hv.out]⟩
        case measure => simp [intOf]; omega
      · have hse : ((s.size : Int) == (n1 : Int)) = false := by simp; omega
        have hv := Lib.hid (show fullM n1 (ps.take (k + 1)) = fullM n1 (ps.take k) by rw [hn.out, if_neg hsn]; omega)
        clear hsn hn
        go_wp2
        go_round
        case rel => exact ⟨k + 1, by omega, by go_num, by rw [hv.out]⟩
        case measure => simp [intOf]; omega
    · obtain rfl : k = ps.length := by omega
      clear hlt
      rw [List.take_length]
      have HSUM := Lib.hid (show ys.sum = fullM n1 ps by rw [HYS.out]; exact last_sum HF.out)
      have HYL := Lib.hid (show ys.length = n1 by rw [HYS.out, ptsA_len])
      have cS := Lib.hid (fun w (hi : Ints w A3 ys) => lawSum_any A3 ys c3 w hi (by omega) (fun x hx => by rw [HYS.out] at hx; have := ptsA_mem (fL_bd n1) HF.out hx; omega))
      rw [HSUM.out] at cS
      obtain ⟨M, hM⟩ : ∃ M, M = fullM n1 ps := ⟨_, rfl⟩
      rw [← hM] at cS ⊢
      have hMM : (M == M) = true := by simp
      clear hM
      go_wp2_with (at_make; refine wpList_makeB _ rfl _ _ rfl n1 rfl rfl (by omega) ?_; intro w5 hl5 hb5 hsz5)
      have hB5 := hB3.trans (hb5.mono hB3.size)
      have hop := hop.below hb5
      have ho3 := ho3.below hb5
      generalize hG : w4.heap.size = G at *
      have c0 := Lib.hid (implFirst_any A1 (some ⟨G, 0, none⟩) ps (List.replicate n1 false) c1 n1 w5 hop.piles hl5.bools (by omega) (by rw [List.length_replicate]; omega))
      rw [fc_t (by rw [List.length_replicate]; exact HFIT.out), List.length_replicate] at c0
      obtain ⟨fs, hfs⟩ : ∃ fs, fs = cntL (List.replicate n1 false) (pl ps) := ⟨_, rfl⟩
      rw [← hfs] at c0
      have HFS := Lib.hid hfs
      have HFL := Lib.hid (show fs.length = n1 by rw [hfs, cntL_len, List.length_replicate])
      clear hfs hb5 hG hsz5 hB3
      refine c0.out.mono ?_
      rintro e w6 ⟨A6, c6, rfl, ho6, hb6⟩
      have hB6 := hB5.trans (hb6.mono hB5.size)
      have hP := (hop.below hb6).piles
      have i3 := (ho3.below hb6).ints
      have i6 := ho6.ints
      have hTF := Lib.hid (totF_fit HFIT.out)
      have HCY := Lib.hid (show ∀ i x, ys[i]? = some x → i < n1 → x = ptsC (fL n1) i (pl ps) from fun i x hx hi => by
        rw [HYS.out, ptsA_at hi] at hx
        injection hx with hx
        exact hx.symm)
      have HCF := Lib.hid (show ∀ i x, fs[i]? = some x → i < n1 → x = cntC (List.replicate n1 false) i (pl ps) from fun i x hx hi => by
        rw [HFS.out, cntL_at (by rw [List.length_replicate]; exact hi)] at hx
        injection hx with hx
        exact hx.symm)
      clear hb6 hop ho3 ho6 hB5 c0 hl5 ho4
      go_wp2
      go_loopw [13] (fun i wr => ∃ k : Nat, k ≤ n1 ∧ i = .int .i64 k ∧ Below w6.heap.size w6 wr) (fun i _ => n1 - (intOf i).toNat)
      case atStart => exact ⟨0, by omega, rfl, Below.refl _ _⟩
      case round =>
        obtain ⟨k, hk, rfl, hbel⟩ := hrel
        by_cases hlt : k < n1
        · have l1 : k < ys.length := by rw [HYL.out]; exact hlt
          have l2 : k < fs.length := by rw [HFL.out]; exact hlt
          obtain ⟨ad, x, e3, hx, hc⟩ := (i3.below hbel).at_ l1
          obtain ⟨ad2, y, e4, hy, hc2⟩ := (i6.below hbel).at_ l2
          have hxe := HCY.out k x hx.out hlt
          have hye := HCF.out k y hy.out hlt
          have hxt : x + y ≤ totM ps := by rw [hxe, hye]; exact last_first HF.out hn2 k hlt
          have hx0 : 0 ≤ x := by rw [hxe]; exact (ptsC_bd (M := 4) (by omega) (fL_bd n1) (pl_nod HF.out) (pl_nn HF.out.many) _).1
          have hy0 : 0 ≤ y := by rw [hye]; exact (cntC_tot _ _ ps HF.out.many).1
          have hT1 := (totM_all HF.out).2
          have hPk := hP.below hbel
          have cT := Lib.hid (fun w' (hp : PilesI w' A1 ps) => pilesTotal_any A1 ps c1 w' hp (by omega))
          rw [hTF.out] at cT
          obtain ⟨T, hT⟩ : ∃ T, T = totM ps := ⟨_, rfl⟩
          rw [← hT] at hxt cT hT1
          have hd1 : decide (T < x + y) = false := by simp; omega
          have hv : IntKind.i64.wrap (x + y) = x + y := IntWalk.i64_in _ (by omega)
          clear hxe hye hT hxt hx0 hy0
          have hk0 : (0 : Int) ≤ (k : Int) := by omega
          have hk1 : (k : Int) < (ys.length : Int) := by omega
          have hk2 : (k : Int) < (fs.length : Int) := by omega
          subst e3
          subst e4
          go_wp2
          refine wp_region_held_drew (S := (fun w' => w'.cell? (ad.add k) = some (.int .i64 x) ∧ w'.cell? (ad2.add k) = some (.int .i64 y) ∧ PilesI w' A1 ps ∧ Below w6.heap.size w6 w')) (by kernel_rfl) ?_ (fun hS => ?_)
          · exact ⟨cell_drew hc, cell_drew hc2, hPk.drew, hbel.drew⟩
          refine wpAnyH_take (i := 0) (oi := ⟨some 99, _, _, _, _, _⟩) (v := ?_) rfl (by kernel_rfl) (by kernel_rfl) (by kernel_rfl) (fun _ _ _ h => h) (Or.inl ⟨by kernel_rfl, ?_⟩) hS ?_
          rotate_left
          · intro w hSw
            try dsimp only at hSw
            go_simp
            try with_reducible rfl
          try simp only [Act.put, List.setIfInBounds_toArray, List.set_cons_zero, List.set_cons_succ]
          refine wpAnyH_take (i := 1) (oi := ⟨some 100, _, _, _, _, _⟩) (v := ?_) rfl (by kernel_rfl) (by kernel_rfl) (by kernel_rfl) (fun _ _ _ h => h) (Or.inl ⟨by kernel_rfl, ?_⟩) hS ?_
          rotate_left
          · intro w hSw
            try dsimp only at hSw
            go_simp
            try with_reducible rfl
          try simp only [Act.put, List.setIfInBounds_toArray, List.set_cons_zero, List.set_cons_succ]
          refine wpAnyH_take (i := 2) (oi := ⟨some 101, _, _, _, _, _⟩) (v := ?_) rfl (by kernel_rfl) (by kernel_rfl) (by kernel_rfl) (fun _ _ _ h => h) (Or.inl ⟨by kernel_rfl, ?_⟩) hS ?_
          rotate_left
          · intro w hSw
            try dsimp only at hSw
            go_simp
            try with_reducible rfl
          try simp only [Act.put, List.setIfInBounds_toArray, List.set_cons_zero, List.set_cons_succ]
          refine wpAnyH_take (i := 3) (oi := ⟨some 102, _, _, _, _, _⟩) (v := ?_) rfl (by kernel_rfl) (by kernel_rfl) (by kernel_rfl) (fun _ _ _ h => h) (Or.inl ⟨by kernel_rfl, ?_⟩) hS ?_
          rotate_left
          · intro w hSw
            try dsimp only at hSw
            go_simp
            try with_reducible rfl
          try simp only [Act.put, List.setIfInBounds_toArray, List.set_cons_zero, List.set_cons_succ]
          refine wpAnyH_take (i := 4) (oi := ⟨some 103, _, _, _, _, _⟩) (v := ?_) rfl (by kernel_rfl) (by kernel_rfl) (by kernel_rfl) (fun _ _ _ h => h) (Or.inl ⟨by kernel_rfl, ?_⟩) hS ?_
          rotate_left
          · intro w hSw
            try dsimp only at hSw
            go_simp
            try with_reducible rfl
          try simp only [Act.put, List.setIfInBounds_toArray, List.set_cons_zero, List.set_cons_succ]
          refine wpAnyH_take (i := 5) (oi := ⟨some 104, _, _, _, _, _⟩) (v := ?_) rfl (by kernel_rfl) (by kernel_rfl) (by kernel_rfl) (fun _ _ _ h => h) (Or.inl ⟨by kernel_rfl, ?_⟩) hS ?_
          rotate_left
          · intro w hSw
            try dsimp only at hSw
            go_simp
            try with_reducible rfl
          try simp only [Act.put, List.setIfInBounds_toArray, List.set_cons_zero, List.set_cons_succ]
          refine wpAnyH_take (i := 6) (oi := ⟨some 105, _, _, _, _, _⟩) (v := ?_) rfl (by kernel_rfl) (by kernel_rfl) (by kernel_rfl) (fun _ _ _ h => h) (Or.inl ⟨by kernel_rfl, ?_⟩) hS ?_
          rotate_left
          · intro w hSw
            try dsimp only at hSw
            go_simp
            try with_reducible rfl
          try simp only [Act.put, List.setIfInBounds_toArray, List.set_cons_zero, List.set_cons_succ]
          refine wpAnyH_take (i := 7) (oi := ⟨some 106, _, _, _, _, _⟩) (v := ?_) rfl (by kernel_rfl) (by kernel_rfl) (by kernel_rfl) (fun _ _ _ h => h) (Or.inl ⟨by kernel_rfl, ?_⟩) hS ?_
          rotate_left
          · intro w hSw
            try dsimp only at hSw
            go_simp
            try with_reducible rfl
          try simp only [Act.put, List.setIfInBounds_toArray, List.set_cons_zero, List.set_cons_succ]
          refine wpAnyH_take (i := 8) (oi := ⟨some 107, _, _, _, _, _⟩) (v := ?_) rfl (by kernel_rfl) (by kernel_rfl) (by kernel_rfl) (fun _ _ _ h => h) (Or.inl ⟨by kernel_rfl, ?_⟩) hS ?_
          rotate_left
          · intro w hSw
            try dsimp only at hSw
            go_simp
            try with_reducible rfl
          try simp only [Act.put, List.setIfInBounds_toArray, List.set_cons_zero, List.set_cons_succ]
          refine wpAnyH_take (i := 9) (oi := ⟨some 108, _, _, _, _, _⟩) (v := ?_) rfl (by kernel_rfl) (by kernel_rfl) (by kernel_rfl) (fun _ _ _ h => h) (Or.inl ⟨by kernel_rfl, ?_⟩) hS ?_
          rotate_left
          · intro w hSw
            try dsimp only at hSw
            go_simp
            try with_reducible rfl
          try simp only [Act.put, List.setIfInBounds_toArray, List.set_cons_zero, List.set_cons_succ]
          refine wpAnyH_ready (rs := [10]) (by kernel_rfl) (by simp) ?_
          refine AllReadyH.cons (o := ⟨some 109, _, _, _, _, _⟩) rfl (fun K hK => ?_) AllReadyH.nil
          go_simp
          (go_at_call 23; refine (cT.out _ hS.2.2.1).mono ?_; rintro e w' ⟨rfl, hb'⟩)
          have hS0 := hS
          clear hS
          refine hK.out _ _ ⟨cell_below hb' hS0.1, cell_below hb' hS0.2.1, hS0.2.2.1.below hb', below_down hS0.2.2.2 hb'⟩ (fun hS => ?_)
          clear hK K hS0
          try simp only [Act.put, List.setIfInBounds_toArray, List.set_cons_zero, List.set_cons_succ]
          refine wpAnyH_take (i := 11) (oi := ⟨some 110, _, _, _, _, _⟩) (v := ?_) rfl (by kernel_rfl) (by kernel_rfl) (by kernel_rfl) (fun _ _ _ h => h) (Or.inl ⟨by kernel_rfl, ?_⟩) hS ?_
          rotate_left
          · intro w hSw
            try dsimp only at hSw
            go_simp
            try with_reducible rfl
          try simp only [Act.put, List.setIfInBounds_toArray, List.set_cons_zero, List.set_cons_succ]
          refine wpAnyH_done (by kernel_rfl) ?_ _
          clear hv
          go_wp2
          go_roundw
          case rel => exact ⟨k + 1, by omega, by go_num, hS.2.2.2⟩
          case measure => simp [intOf]; omega
        · obtain rfl : k = n1 := by omega
          have l1 : ¬ k < ys.length := by rw [HYL.out]; omega
          have hle : ((ys.length : Int) == (k : Int)) = true := by simp [HYL.out]
          clear hlt
          have cS := Lib.hid (cS.out wr (i3.below hbel))
          go_wp2_with (go_at_call 15; refine cS.out.mono ?_; rintro e w' ⟨rfl, rfl⟩)
          go_ret
          exact ⟨rfl, hB6.trans (hbel.mono hB6.size)⟩
set_option maxRecDepth 100000 in
theorem FnLast_lifted (os : Os) (started : os.Started) (H : Type) (enc : TypeId × Value → H) :
    ReturnsInHanded {} Try.checked os 7 .any (Rows.fnLastSpec.pre6 enc Try.prog Try.f7 Rows.fnLastRow.domain false) (Rows.fnLastSpec.post enc Try.prog Try.f7 false true false false) := by
  refine returnsInHanded_of_change (C := Try.checked) Try.own started (by kernel_rfl) Try.func7
    (ChangeSpec.witness6 (enc := enc) (C := Try.checked) false ⟨#[], #[.slice none 0 0], []⟩ 8 (by kernel_rfl) (by kernel_rfl) (by kernel_rfl) (by kernel_rfl)) ?_
  intro W base args ds gs before hval0 hW hcnd _
  have hval : ∀ (j : Nat) t v, Try.f7.params[j]? = some t → args[j]? = some v → Value.okWide Try.prog W .any base t v := hval0
  have hW' := hW
  obtain ⟨p, q, hA0, hV, rfl, hfz, hnd⟩ := hW
  have hA : DataW.TrodAll enc Try.prog W 0 (fun _ => true) true Try.f7.params.toList args.toList ds p := hA0
  rw [Try.params7] at hA hval
  obtain ⟨v0, vs0, d0, ds0, p0, q0, hargs, rfl, rfl, h0, r0⟩ := trodAll_cons hA
  obtain ⟨rfl, rfl, rfl⟩ := trodAll_nil r0
  obtain rfl : args = #[v0] := by cases args; simp_all
  obtain ⟨rfl, rfl⟩ := trodVars_none hV
  have k0 := h0
  have lt0 : ∀ x ∈ p0, x.block < W.heap.size := by obtain ⟨m, hm⟩ := k0; exact DataW.trod_lt m _ _ _ hm
  obtain ⟨a0, z0, c0, rfl, w0⟩ := openByts (hval 0 22 v0 rfl rfl) h0
  clear hA0 hval0
  refine (FnLast_walk a0 z0 c0 W w0).mono fun e W' ⟨he, bel⟩ => ?_
  subst he
  exact ⟨_, rfl, _, _, _, [], _, [], hW', trodAll_mk1 (shut_bool Try.underlying4 _), (trodAll_cons_mk (Below.trod Try.laidOut (by kernel_rfl) (of_decide_eq_true (by kernel_rfl)) k0 bel lt0) trodAll_mk0), rfl, bel.frame _, fun h => by cases h⟩
/-- The given statement. -/
theorem FnLast_holds : Rows.FnLastSaid :=
  OpenClaim.holds_of_wide 7 Try.f7 rfl rfl rfl rfl rfl rfl rfl ⟨rfl, rfl, rfl, rfl, rfl⟩ rfl rfl rfl rfl rfl (by kernel_rfl) Try.func7 (by kernel_rfl)
    (of_decide_eq_true (by kernel_rfl)) (by unfold Func.isWrapper; first | (rw [if_pos (by decide +kernel)]; kernel_rfl) | (rw [if_neg (by decide +kernel)]; exact ⟨rfl, rfl⟩))
    (fun os started H enc _ => FnLast_lifted os started H enc)
end Go.Proofs.Ythngafmnkihkgaa
