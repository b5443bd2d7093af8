/-
  For every code, the law FnDepth returns true: a greater depth counts more. There are no conditions.
-/
import Derived.Test.YthngafmnkihkgaaPtsL
import Derived.Test.YthngafmnkihkgaaDrawN
import Derived.Test.YthngafmnkihkgaaBoolM
namespace Go.Proofs.Ythngafmnkihkgaa
open Go.ChangeShapes Go.WideShapes Go.ChangeAt Go.RowKit
set_option maxRecDepth 100000 in
set_option maxHeartbeats 3200000 in
theorem FnDepth_walk (A : Option Addr) (n c : Nat) (w : World) (h : BytsA w A n c) :
    Calls Try.prog 8 #[.slice A n c] w (LawOk w) := by
  by_cases hl : n ≤ 1048576
  case neg =>
    have hbig : (1048576 : Int) < n := by omega
    clear hl
    go_enter Try.func8, Try.ntmps8
    go_wp2
    go_ret
    exact ⟨rfl, Below.refl _ _⟩
  go_enter Try.func8, Try.ntmps8
  go_wp2_with fail
  refine (drawDepth_any _ _ _ _ h).mono ?_
  rintro e w1 ⟨A1, c1, ps, n1, d1, rfl, ⟨hpl, hop, hb1⟩, hn6⟩
  have cI := Lib.hid (implDepth_any A1 ps c1 n1 d1 _ hop.piles (by omega))
  have cS := Lib.hid (fun (w : World) (h : PilesI w A1 ps) => specDepth_any A1 ps c1 n1 d1 w h (by omega) (by omega))
  have hyl := dp_len ps n1 d1 hn6
  obtain ⟨r, hr⟩ : ∃ r, dpF ps n1 d1 = r := ⟨_, rfl⟩
  rw [hr] at cI cS hyl
  obtain ⟨ys, b⟩ := r
  have hyl : ys.length ≤ 10 := by have : ys.length ≤ 10 := hyl; exact this
  have hself : (ys == ys) = true := by simp
  have HR := Lib.hid hr
  clear hr
  go_wp2_with fail
  refine cI.out.mono ?_
  rintro e w2 ⟨A3, c3, rfl, ho3, hb2⟩
  go_wp2_with fail
  refine (cS.out _ (hop.below hb2).piles).mono ?_
  rintro e w3 ⟨A4, c4, rfl, ho4, hb3⟩
  have hB2 := hb1.trans (hb2.mono hb1.size)
  have hB3 := hB2.trans (hb3.mono hB2.size)
  have ho3 := ho3.below hb3
  have hop := (hop.below hb2).below hb3
  clear cS hB2
  go_wp2_with fail
  refine (lawSame_any _ _ _ _ _ _ _ ho3.ints ho4.ints (by show ys.length ≤ _; omega) (by show ys.length ≤ _; omega)).mono ?_
  rintro e w4 ⟨rfl, n4, rfl⟩
  have hB3 := below_drewN hB3 n4
  have ho3 := ho3.drewN n4
  have ho4 := ho4.drewN n4
  have hop := hop.drewN n4
  clear hb2 hb3
  generalize w3.drewN n4 = w4 at *
  cases b
  case false =>
    go_wp2_with fail
    refine (lawSame_any _ _ _ _ _ _ _ ho3.ints ho4.ints (by show ys.length ≤ _; omega) (by show ys.length ≤ _; omega)).mono ?_
    rintro e w5 ⟨rfl, n5, rfl⟩
    go_wp2
    go_ret
    exact ⟨rfl, below_drewN hB3 _⟩
  obtain ⟨hfit, ⟨hd0, hd5⟩, hys⟩ := dp_true HR.out
  have HF := Lib.hid (fitOk_of hfit)
  have HFIT := Lib.hid hfit
  have HYS := Lib.hid hys
  have hn1 := HF.out.n1
  have hn5 := HF.out.n5
  clear hys hfit
  have c0 := Lib.hid (implDepth_any A1 ps c1 n1 0 w4 hop.piles (by omega))
  rw [dp_t HFIT.out (inB_t (by omega))] at c0
  obtain ⟨zs, hzs⟩ : ∃ zs, zs = ptsA n1 (fD 0) (pl ps) := ⟨_, rfl⟩
  rw [← hzs] at c0
  have HZ := Lib.hid hzs
  have hzl : zs.length ≤ 6 := by rw [hzs, ptsA_len]; exact hn6
  have HZS := Lib.hid (show zs.sum = 0 by rw [hzs]; exact depth_zero _ _)
  clear hzs
  go_wp2_with fail
  refine c0.out.mono ?_
  rintro e w5 ⟨A5, c5, rfl, ho5, hb5⟩
  have hB5 := hB3.trans (hb5.mono hB3.size)
  have hop := hop.below hb5
  have ho3 := ho3.below hb5
  have c0 := Lib.hid (implDepth_any A1 ps c1 n1 1 w5 hop.piles (by omega))
  rw [dp_t HFIT.out (inB_t (by omega))] at c0
  obtain ⟨os, hos⟩ : ∃ os, os = ptsA n1 (fD 1) (pl ps) := ⟨_, rfl⟩
  rw [← hos] at c0
  have HO := Lib.hid hos
  have hol : os.length ≤ 6 := by rw [hos, ptsA_len]; exact hn6
  clear hos hb5 hB3
  go_wp2_with fail
  refine c0.out.mono ?_
  rintro e w6 ⟨A6, c6, rfl, ho6, hb6⟩
  have hB6 := hB5.trans (hb6.mono hB5.size)
  have hop := hop.below hb6
  have ho3 := ho3.below hb6
  have ho5 := ho5.below hb6
  clear hb6 hB5 c0
  go_wp2_with (at_make; refine wpList_makeB _ rfl _ _ rfl n1 rfl rfl (by omega) ?_; intro w7 hl7 hb7 hsz7)
  have hB7 := hB6.trans (hb7.mono hB6.size)
  have hop := hop.below hb7
  have ho3 := ho3.below hb7
  have ho5 := ho5.below hb7
  have ho6 := ho6.below hb7
  generalize hG : w6.heap.size = G at *
  have c0 := Lib.hid (implFirst_any A1 (some ⟨G, 0, none⟩) ps (List.replicate n1 false) c1 n1 w7 hop.piles hl7.bools (by omega) (by rw [List.length_replicate]; omega))
  have hfl : fcF ps (List.replicate n1 false) = (os, true) := by
    rw [fc_t (by rw [List.length_replicate]; exact HFIT.out), HO.out, depth_first HF.out]
  rw [hfl, List.length_replicate] at c0
  clear hfl hb7 hB6 hG hsz7
  refine c0.out.mono ?_
  rintro e w8 ⟨A8, c8, rfl, ho8, hb8⟩
  have hB8 := hB7.trans (hb8.mono hB7.size)
  have hop := hop.below hb8
  have ho3 := ho3.below hb8
  have ho5 := ho5.below hb8
  have ho6 := ho6.below hb8
  clear hb8 hB7 c0 hl7
  obtain ⟨d', hd', hdl, hd0', hd5'⟩ : ∃ d' : Int, d' = max (d1 - 1) 0 ∧ d' ≤ d1 ∧ 0 ≤ d' ∧ d' ≤ 5 := ⟨_, rfl, by omega, by omega, by omega⟩
  have c0 := Lib.hid (implDepth_any A1 ps c1 n1 d' w8 hop.piles (by omega))
  rw [dp_t HFIT.out (inB_t (by omega))] at c0
  obtain ⟨ls, hls⟩ : ∃ ls, ls = ptsA n1 (fD d') (pl ps) := ⟨_, rfl⟩
  rw [← hls] at c0
  have HL := Lib.hid hls
  have hll : ls.length ≤ 6 := by rw [hls, ptsA_len]; exact hn6
  clear hls
  have i5 := ho5.ints
  have HYL := Lib.hid (show ys.length = n1 by rw [HYS.out, ptsA_len])
  have HLL := Lib.hid (show ls.length = n1 by rw [HL.out, ptsA_len])
  have HDL := Lib.hid hdl
  have HCY := Lib.hid (show ∀ i x, ys[i]? = some x → i < n1 → x = ptsC (fD d1) i (pl ps) from fun i x hx hi => by
    rw [HYS.out, ptsA_at hi] at hx
    injection hx with hx
    exact hx.symm)
  have HCL := Lib.hid (show ∀ i x, ls[i]? = some x → i < n1 → x = ptsC (fD d') i (pl ps) from fun i x hx hi => by
    rw [HL.out, ptsA_at hi] at hx
    injection hx with hx
    exact hx.symm)
  have hTF := Lib.hid (totF_fit HFIT.out)
  have hyo : ys.length ≤ 6 := by have := HYL.out; omega
  have cS := Lib.hid (fun w (hi : Ints w A5 zs) => lawSum_any A5 zs c5 w hi (by omega) (fun x hx => by rw [HZ.out] at hx; have := ptsA_mem (fD_bd 0) HF.out hx; omega))
  rw [HZS.out] at cS
  have hl12 := HF.out.len
  rcases (show d1 = 0 ∨ 1 ≤ d1 by omega) with hdz | hdz
  case inl =>
    have e : d' = 0 := by omega
    subst e
    subst hdz
    clear hd' hdl
    go_wp2_with fail
    refine c0.out.mono ?_
    rintro e w9 ⟨A9, c9, rfl, ho9, hb9⟩
    have hB9 := hB8.trans (hb9.mono hB8.size)
    have hop := hop.below hb9
    have i3 := (ho3.below hb9).ints
    have i5 := i5.below hb9
    have i6 := (ho6.below hb9).ints
    have i8 := (ho8.below hb9).ints
    have i9 := ho9.ints
    have hP := hop.piles
    clear hb9 hB8 c0 ho3 ho5 ho6 ho8 ho9 hop ho4
    go_wp2
    go_loopw [18] (fun i wr => ∃ k : Nat, k ≤ n1 ∧ i = .int .i64 k ∧ Below w9.heap.size w9 wr) (fun i _ => n1 - (intOf i).toNat)
    case atStart => exact ⟨0, by omega, rfl, Below.refl _ _⟩
    case round =>
      obtain ⟨k, hk, rfl, hbel⟩ := hrel
      by_cases hlt : k < n1
      · have l1 : k < ys.length := by rw [HYL.out]; exact hlt
        have l2 : k < ls.length := by rw [HLL.out]; exact hlt
        obtain ⟨ad, x, e3, hx, hc⟩ := (i3.below hbel).at_ l1
        obtain ⟨ad2, y, e4, hy, hc2⟩ := (i9.below hbel).at_ l2
        have hxe := HCY.out k x hx.out hlt
        have hye := HCL.out k y hy.out hlt
        have hyx : y ≤ x := by rw [hxe, hye]; exact ptsC_mono (fD_mono HDL.out) (pl_nn HF.out.many) _
        have hxt : x ≤ totM ps := by rw [hxe]; exact depth_tot HF.out _ _
        have hPk := hP.below hbel
        have cT := Lib.hid (fun w' (hp : PilesI w' A1 ps) => pilesTotal_any A1 ps c1 w' hp (by omega))
        rw [hTF.out] at cT
        obtain ⟨T, hT⟩ : ∃ T, T = totM ps := ⟨_, rfl⟩
        rw [← hT] at hxt cT
        have hd1 : decide (x < y) = false := by simp; omega
        have hd2 : decide (T < x) = false := by simp; omega
        clear hxe hye hT hyx hxt
        have hk0 : (0 : Int) ≤ (k : Int) := by omega
        have hk1 : (k : Int) < (ys.length : Int) := by omega
        have hk2 : (k : Int) < (ls.length : Int) := by omega
        subst e3
        subst e4
        go_wp2
        refine wp_region_held_drew (S := (fun w' => w'.cell? (ad.add k) = some (.int .i64 x) ∧ w'.cell? (ad2.add k) = some (.int .i64 y) ∧ PilesI w' A1 ps ∧ Below w9.heap.size w9 w')) (by kernel_rfl) ?_ (fun hS => ?_)
        · exact ⟨cell_drew hc, cell_drew hc2, hPk.drew, hbel.drew⟩
        refine wpAnyH_take (i := 0) (oi := ⟨some 103, _, _, _, _, _⟩) (v := ?_) rfl (by kernel_rfl) (by kernel_rfl) (by kernel_rfl) (fun _ _ _ h => h) (Or.inl ⟨by kernel_rfl, ?_⟩) hS ?_
        rotate_left
        · intro w hSw
          try dsimp only at hSw
          go_simp
          try with_reducible rfl
        try simp only [Act.put, List.setIfInBounds_toArray, List.set_cons_zero, List.set_cons_succ]
        refine wpAnyH_take (i := 1) (oi := ⟨some 104, _, _, _, _, _⟩) (v := ?_) rfl (by kernel_rfl) (by kernel_rfl) (by kernel_rfl) (fun _ _ _ h => h) (Or.inl ⟨by kernel_rfl, ?_⟩) hS ?_
        rotate_left
        · intro w hSw
          try dsimp only at hSw
          go_simp
          try with_reducible rfl
        try simp only [Act.put, List.setIfInBounds_toArray, List.set_cons_zero, List.set_cons_succ]
        refine wpAnyH_take (i := 2) (oi := ⟨some 105, _, _, _, _, _⟩) (v := ?_) rfl (by kernel_rfl) (by kernel_rfl) (by kernel_rfl) (fun _ _ _ h => h) (Or.inl ⟨by kernel_rfl, ?_⟩) hS ?_
        rotate_left
        · intro w hSw
          try dsimp only at hSw
          go_simp
          try with_reducible rfl
        try simp only [Act.put, List.setIfInBounds_toArray, List.set_cons_zero, List.set_cons_succ]
        refine wpAnyH_take (i := 3) (oi := ⟨some 106, _, _, _, _, _⟩) (v := ?_) rfl (by kernel_rfl) (by kernel_rfl) (by kernel_rfl) (fun _ _ _ h => h) (Or.inl ⟨by kernel_rfl, ?_⟩) hS ?_
        rotate_left
        · intro w hSw
          try dsimp only at hSw
          go_simp
          try with_reducible rfl
        try simp only [Act.put, List.setIfInBounds_toArray, List.set_cons_zero, List.set_cons_succ]
        refine wpAnyH_take (i := 4) (oi := ⟨some 107, _, _, _, _, _⟩) (v := ?_) rfl (by kernel_rfl) (by kernel_rfl) (by kernel_rfl) (fun _ _ _ h => h) (Or.inl ⟨by kernel_rfl, ?_⟩) hS ?_
        rotate_left
        · intro w hSw
          try dsimp only at hSw
          go_simp
          try with_reducible rfl
        try simp only [Act.put, List.setIfInBounds_toArray, List.set_cons_zero, List.set_cons_succ]
        refine wpAnyH_take (i := 5) (oi := ⟨some 108, _, _, _, _, _⟩) (v := ?_) rfl (by kernel_rfl) (by kernel_rfl) (by kernel_rfl) (fun _ _ _ h => h) (Or.inl ⟨by kernel_rfl, ?_⟩) hS ?_
        rotate_left
        · intro w hSw
          try dsimp only at hSw
          go_simp
          try with_reducible rfl
        try simp only [Act.put, List.setIfInBounds_toArray, List.set_cons_zero, List.set_cons_succ]
        refine wpAnyH_take (i := 6) (oi := ⟨some 109, _, _, _, _, _⟩) (v := ?_) rfl (by kernel_rfl) (by kernel_rfl) (by kernel_rfl) (fun _ _ _ h => h) (Or.inl ⟨by kernel_rfl, ?_⟩) hS ?_
        rotate_left
        · intro w hSw
          try dsimp only at hSw
          go_simp
          try with_reducible rfl
        try simp only [Act.put, List.setIfInBounds_toArray, List.set_cons_zero, List.set_cons_succ]
        refine wpAnyH_take (i := 7) (oi := ⟨some 110, _, _, _, _, _⟩) (v := ?_) rfl (by kernel_rfl) (by kernel_rfl) (by kernel_rfl) (fun _ _ _ h => h) (Or.inl ⟨by kernel_rfl, ?_⟩) hS ?_
        rotate_left
        · intro w hSw
          try dsimp only at hSw
          go_simp
          try with_reducible rfl
        try simp only [Act.put, List.setIfInBounds_toArray, List.set_cons_zero, List.set_cons_succ]
        refine wpAnyH_take (i := 8) (oi := ⟨some 111, _, _, _, _, _⟩) (v := ?_) rfl (by kernel_rfl) (by kernel_rfl) (by kernel_rfl) (fun _ _ _ h => h) (Or.inl ⟨by kernel_rfl, ?_⟩) hS ?_
        rotate_left
        · intro w hSw
          try dsimp only at hSw
          go_simp
          try with_reducible rfl
        try simp only [Act.put, List.setIfInBounds_toArray, List.set_cons_zero, List.set_cons_succ]
        refine wpAnyH_take (i := 9) (oi := ⟨some 112, _, _, _, _, _⟩) (v := ?_) rfl (by kernel_rfl) (by kernel_rfl) (by kernel_rfl) (fun _ _ _ h => h) (Or.inl ⟨by kernel_rfl, ?_⟩) hS ?_
        rotate_left
        · intro w hSw
          try dsimp only at hSw
          go_simp
          try with_reducible rfl
        try simp only [Act.put, List.setIfInBounds_toArray, List.set_cons_zero, List.set_cons_succ]
        refine wpAnyH_take (i := 10) (oi := ⟨some 113, _, _, _, _, _⟩) (v := ?_) rfl (by kernel_rfl) (by kernel_rfl) (by kernel_rfl) (fun _ _ _ h => h) (Or.inl ⟨by kernel_rfl, ?_⟩) hS ?_
        rotate_left
        · intro w hSw
          try dsimp only at hSw
          go_simp
          try with_reducible rfl
        try simp only [Act.put, List.setIfInBounds_toArray, List.set_cons_zero, List.set_cons_succ]
        refine wpAnyH_take (i := 11) (oi := ⟨some 114, _, _, _, _, _⟩) (v := ?_) rfl (by kernel_rfl) (by kernel_rfl) (by kernel_rfl) (fun _ _ _ h => h) (Or.inl ⟨by kernel_rfl, ?_⟩) hS ?_
        rotate_left
        · intro w hSw
          try dsimp only at hSw
          go_simp
          try with_reducible rfl
        try simp only [Act.put, List.setIfInBounds_toArray, List.set_cons_zero, List.set_cons_succ]
        refine wpAnyH_take (i := 12) (oi := ⟨some 115, _, _, _, _, _⟩) (v := ?_) rfl (by kernel_rfl) (by kernel_rfl) (by kernel_rfl) (fun _ _ _ h => h) (Or.inl ⟨by kernel_rfl, ?_⟩) hS ?_
        rotate_left
        · intro w hSw
          try dsimp only at hSw
          go_simp
          try with_reducible rfl
        try simp only [Act.put, List.setIfInBounds_toArray, List.set_cons_zero, List.set_cons_succ]
        refine wpAnyH_take (i := 13) (oi := ⟨some 116, _, _, _, _, _⟩) (v := ?_) rfl (by kernel_rfl) (by kernel_rfl) (by kernel_rfl) (fun _ _ _ h => h) (Or.inl ⟨by kernel_rfl, ?_⟩) hS ?_
        rotate_left
        · intro w hSw
          try dsimp only at hSw
          go_simp
          try with_reducible rfl
        try simp only [Act.put, List.setIfInBounds_toArray, List.set_cons_zero, List.set_cons_succ]
        refine wpAnyH_take (i := 14) (oi := ⟨some 117, _, _, _, _, _⟩) (v := ?_) rfl (by kernel_rfl) (by kernel_rfl) (by kernel_rfl) (fun _ _ _ h => h) (Or.inl ⟨by kernel_rfl, ?_⟩) hS ?_
        rotate_left
        · intro w hSw
          try dsimp only at hSw
          go_simp
          try with_reducible rfl
        try simp only [Act.put, List.setIfInBounds_toArray, List.set_cons_zero, List.set_cons_succ]
        refine wpAnyH_ready (rs := [15]) (by kernel_rfl) (by simp) ?_
        refine AllReadyH.cons (o := ⟨some 118, _, _, _, _, _⟩) rfl (fun K hK => ?_) AllReadyH.nil
        go_simp
        (go_at_call 23; refine (cT.out _ hS.2.2.1).mono ?_; rintro e w' ⟨rfl, hb'⟩)
        have hS0 := hS
        clear hS
        refine hK.out _ _ ⟨cell_below hb' hS0.1, cell_below hb' hS0.2.1, hS0.2.2.1.below hb', below_down hS0.2.2.2 hb'⟩ (fun hS => ?_)
        clear hK K hS0
        try simp only [Act.put, List.setIfInBounds_toArray, List.set_cons_zero, List.set_cons_succ]
        refine wpAnyH_take (i := 16) (oi := ⟨some 119, _, _, _, _, _⟩) (v := ?_) rfl (by kernel_rfl) (by kernel_rfl) (by kernel_rfl) (fun _ _ _ h => h) (Or.inl ⟨by kernel_rfl, ?_⟩) hS ?_
        rotate_left
        · intro w hSw
          try dsimp only at hSw
          go_simp
          try with_reducible rfl
        try simp only [Act.put, List.setIfInBounds_toArray, List.set_cons_zero, List.set_cons_succ]
        refine wpAnyH_take (i := 17) (oi := ⟨some 120, _, _, _, _, _⟩) (v := ?_) rfl (by kernel_rfl) (by kernel_rfl) (by kernel_rfl) (fun _ _ _ h => h) (Or.inl ⟨by kernel_rfl, ?_⟩) hS ?_
        rotate_left
        · intro w hSw
          try dsimp only at hSw
          go_simp
          try with_reducible rfl
        try simp only [Act.put, List.setIfInBounds_toArray, List.set_cons_zero, List.set_cons_succ]
        refine wpAnyH_done (by kernel_rfl) ?_ _
        go_wp2
        go_roundw
        case rel => exact ⟨k + 1, by omega, by go_num, hS.2.2.2⟩
        case measure => simp [intOf]; omega
      · obtain rfl : k = n1 := by omega
        have l1 : ¬ k < ys.length := by rw [HYL.out]; omega
        have hle : ((ys.length : Int) == (k : Int)) = true := by simp [HYL.out]
        have hoo : (os == os) = true := by simp
        clear hlt
        have cS := Lib.hid (cS.out wr (i5.below hbel))
        have j6 := i6.below hbel
        have j8 := i8.below hbel
        go_wp2_with (first | (go_at_call 15; refine cS.out.mono ?_; rintro e w' ⟨rfl, rfl⟩) | (go_at_call 14; refine (lawSame_any _ _ _ _ _ _ _ j6 j8 (by omega) (by omega)).mono ?_; rintro e w' ⟨rfl, n8, rfl⟩))
        go_ret
        exact ⟨rfl, below_drewN (hB9.trans (hbel.mono hB9.size)) _⟩
  case inr =>
    have e : d' = d1 - 1 := by omega
    subst e
    clear hd' hdl
    go_wp2_with fail
    refine c0.out.mono ?_
    rintro e w9 ⟨A9, c9, rfl, ho9, hb9⟩
    have hB9 := hB8.trans (hb9.mono hB8.size)
    have hop := hop.below hb9
    have i3 := (ho3.below hb9).ints
    have i5 := i5.below hb9
    have i6 := (ho6.below hb9).ints
    have i8 := (ho8.below hb9).ints
    have i9 := ho9.ints
    have hP := hop.piles
    clear hb9 hB8 c0 ho3 ho5 ho6 ho8 ho9 hop ho4
    go_wp2
    go_loopw [18] (fun i wr => ∃ k : Nat, k ≤ n1 ∧ i = .int .i64 k ∧ Below w9.heap.size w9 wr) (fun i _ => n1 - (intOf i).toNat)
    case atStart => exact ⟨0, by omega, rfl, Below.refl _ _⟩
    case round =>
      obtain ⟨k, hk, rfl, hbel⟩ := hrel
      by_cases hlt : k < n1
      · have l1 : k < ys.length := by rw [HYL.out]; exact hlt
        have l2 : k < ls.length := by rw [HLL.out]; exact hlt
        obtain ⟨ad, x, e3, hx, hc⟩ := (i3.below hbel).at_ l1
        obtain ⟨ad2, y, e4, hy, hc2⟩ := (i9.below hbel).at_ l2
        have hxe := HCY.out k x hx.out hlt
        have hye := HCL.out k y hy.out hlt
        have hyx : y ≤ x := by rw [hxe, hye]; exact ptsC_mono (fD_mono HDL.out) (pl_nn HF.out.many) _
        have hxt : x ≤ totM ps := by rw [hxe]; exact depth_tot HF.out _ _
        have hPk := hP.below hbel
        have cT := Lib.hid (fun w' (hp : PilesI w' A1 ps) => pilesTotal_any A1 ps c1 w' hp (by omega))
        rw [hTF.out] at cT
        obtain ⟨T, hT⟩ : ∃ T, T = totM ps := ⟨_, rfl⟩
        rw [← hT] at hxt cT
        have hd1 : decide (x < y) = false := by simp; omega
        have hd2 : decide (T < x) = false := by simp; omega
        clear hxe hye hT hyx hxt
        have hk0 : (0 : Int) ≤ (k : Int) := by omega
        have hk1 : (k : Int) < (ys.length : Int) := by omega
        have hk2 : (k : Int) < (ls.length : Int) := by omega
        subst e3
        subst e4
        go_wp2
        refine wp_region_held_drew (S := (fun w' => w'.cell? (ad.add k) = some (.int .i64 x) ∧ w'.cell? (ad2.add k) = some (.int .i64 y) ∧ PilesI w' A1 ps ∧ Below w9.heap.size w9 w')) (by kernel_rfl) ?_ (fun hS => ?_)
        · exact ⟨cell_drew hc, cell_drew hc2, hPk.drew, hbel.drew⟩
        refine wpAnyH_take (i := 0) (oi := ⟨some 103, _, _, _, _, _⟩) (v := ?_) rfl (by kernel_rfl) (by kernel_rfl) (by kernel_rfl) (fun _ _ _ h => h) (Or.inl ⟨by kernel_rfl, ?_⟩) hS ?_
        rotate_left
        · intro w hSw
          try dsimp only at hSw
          go_simp
          try with_reducible rfl
        try simp only [Act.put, List.setIfInBounds_toArray, List.set_cons_zero, List.set_cons_succ]
        refine wpAnyH_take (i := 1) (oi := ⟨some 104, _, _, _, _, _⟩) (v := ?_) rfl (by kernel_rfl) (by kernel_rfl) (by kernel_rfl) (fun _ _ _ h => h) (Or.inl ⟨by kernel_rfl, ?_⟩) hS ?_
        rotate_left
        · intro w hSw
          try dsimp only at hSw
          go_simp
          try with_reducible rfl
        try simp only [Act.put, List.setIfInBounds_toArray, List.set_cons_zero, List.set_cons_succ]
        refine wpAnyH_take (i := 2) (oi := ⟨some 105, _, _, _, _, _⟩) (v := ?_) rfl (by kernel_rfl) (by kernel_rfl) (by kernel_rfl) (fun _ _ _ h => h) (Or.inl ⟨by kernel_rfl, ?_⟩) hS ?_
        rotate_left
        · intro w hSw
          try dsimp only at hSw
          go_simp
          try with_reducible rfl
        try simp only [Act.put, List.setIfInBounds_toArray, List.set_cons_zero, List.set_cons_succ]
        refine wpAnyH_take (i := 3) (oi := ⟨some 106, _, _, _, _, _⟩) (v := ?_) rfl (by kernel_rfl) (by kernel_rfl) (by kernel_rfl) (fun _ _ _ h => h) (Or.inl ⟨by kernel_rfl, ?_⟩) hS ?_
        rotate_left
        · intro w hSw
          try dsimp only at hSw
          go_simp
          try with_reducible rfl
        try simp only [Act.put, List.setIfInBounds_toArray, List.set_cons_zero, List.set_cons_succ]
        refine wpAnyH_take (i := 4) (oi := ⟨some 107, _, _, _, _, _⟩) (v := ?_) rfl (by kernel_rfl) (by kernel_rfl) (by kernel_rfl) (fun _ _ _ h => h) (Or.inl ⟨by kernel_rfl, ?_⟩) hS ?_
        rotate_left
        · intro w hSw
          try dsimp only at hSw
          go_simp
          try with_reducible rfl
        try simp only [Act.put, List.setIfInBounds_toArray, List.set_cons_zero, List.set_cons_succ]
        refine wpAnyH_take (i := 5) (oi := ⟨some 108, _, _, _, _, _⟩) (v := ?_) rfl (by kernel_rfl) (by kernel_rfl) (by kernel_rfl) (fun _ _ _ h => h) (Or.inl ⟨by kernel_rfl, ?_⟩) hS ?_
        rotate_left
        · intro w hSw
          try dsimp only at hSw
          go_simp
          try with_reducible rfl
        try simp only [Act.put, List.setIfInBounds_toArray, List.set_cons_zero, List.set_cons_succ]
        refine wpAnyH_take (i := 6) (oi := ⟨some 109, _, _, _, _, _⟩) (v := ?_) rfl (by kernel_rfl) (by kernel_rfl) (by kernel_rfl) (fun _ _ _ h => h) (Or.inl ⟨by kernel_rfl, ?_⟩) hS ?_
        rotate_left
        · intro w hSw
          try dsimp only at hSw
          go_simp
          try with_reducible rfl
        try simp only [Act.put, List.setIfInBounds_toArray, List.set_cons_zero, List.set_cons_succ]
        refine wpAnyH_take (i := 7) (oi := ⟨some 110, _, _, _, _, _⟩) (v := ?_) rfl (by kernel_rfl) (by kernel_rfl) (by kernel_rfl) (fun _ _ _ h => h) (Or.inl ⟨by kernel_rfl, ?_⟩) hS ?_
        rotate_left
        · intro w hSw
          try dsimp only at hSw
          go_simp
          try with_reducible rfl
        try simp only [Act.put, List.setIfInBounds_toArray, List.set_cons_zero, List.set_cons_succ]
        refine wpAnyH_take (i := 8) (oi := ⟨some 111, _, _, _, _, _⟩) (v := ?_) rfl (by kernel_rfl) (by kernel_rfl) (by kernel_rfl) (fun _ _ _ h => h) (Or.inl ⟨by kernel_rfl, ?_⟩) hS ?_
        rotate_left
        · intro w hSw
          try dsimp only at hSw
          go_simp
          try with_reducible rfl
        try simp only [Act.put, List.setIfInBounds_toArray, List.set_cons_zero, List.set_cons_succ]
        refine wpAnyH_take (i := 9) (oi := ⟨some 112, _, _, _, _, _⟩) (v := ?_) rfl (by kernel_rfl) (by kernel_rfl) (by kernel_rfl) (fun _ _ _ h => h) (Or.inl ⟨by kernel_rfl, ?_⟩) hS ?_
        rotate_left
        · intro w hSw
          try dsimp only at hSw
          go_simp
          try with_reducible rfl
        try simp only [Act.put, List.setIfInBounds_toArray, List.set_cons_zero, List.set_cons_succ]
        refine wpAnyH_take (i := 10) (oi := ⟨some 113, _, _, _, _, _⟩) (v := ?_) rfl (by kernel_rfl) (by kernel_rfl) (by kernel_rfl) (fun _ _ _ h => h) (Or.inl ⟨by kernel_rfl, ?_⟩) hS ?_
        rotate_left
        · intro w hSw
          try dsimp only at hSw
          go_simp
          try with_reducible rfl
        try simp only [Act.put, List.setIfInBounds_toArray, List.set_cons_zero, List.set_cons_succ]
        refine wpAnyH_take (i := 11) (oi := ⟨some 114, _, _, _, _, _⟩) (v := ?_) rfl (by kernel_rfl) (by kernel_rfl) (by kernel_rfl) (fun _ _ _ h => h) (Or.inl ⟨by kernel_rfl, ?_⟩) hS ?_
        rotate_left
        · intro w hSw
          try dsimp only at hSw
          go_simp
          try with_reducible rfl
        try simp only [Act.put, List.setIfInBounds_toArray, List.set_cons_zero, List.set_cons_succ]
        refine wpAnyH_take (i := 12) (oi := ⟨some 115, _, _, _, _, _⟩) (v := ?_) rfl (by kernel_rfl) (by kernel_rfl) (by kernel_rfl) (fun _ _ _ h => h) (Or.inl ⟨by kernel_rfl, ?_⟩) hS ?_
        rotate_left
        · intro w hSw
          try dsimp only at hSw
          go_simp
          try with_reducible rfl
        try simp only [Act.put, List.setIfInBounds_toArray, List.set_cons_zero, List.set_cons_succ]
        refine wpAnyH_take (i := 13) (oi := ⟨some 116, _, _, _, _, _⟩) (v := ?_) rfl (by kernel_rfl) (by kernel_rfl) (by kernel_rfl) (fun _ _ _ h => h) (Or.inl ⟨by kernel_rfl, ?_⟩) hS ?_
        rotate_left
        · intro w hSw
          try dsimp only at hSw
          go_simp
          try with_reducible rfl
        try simp only [Act.put, List.setIfInBounds_toArray, List.set_cons_zero, List.set_cons_succ]
        refine wpAnyH_take (i := 14) (oi := ⟨some 117, _, _, _, _, _⟩) (v := ?_) rfl (by kernel_rfl) (by kernel_rfl) (by kernel_rfl) (fun _ _ _ h => h) (Or.inl ⟨by kernel_rfl, ?_⟩) hS ?_
        rotate_left
        · intro w hSw
          try dsimp only at hSw
          go_simp
          try with_reducible rfl
        try simp only [Act.put, List.setIfInBounds_toArray, List.set_cons_zero, List.set_cons_succ]
        refine wpAnyH_ready (rs := [15]) (by kernel_rfl) (by simp) ?_
        refine AllReadyH.cons (o := ⟨some 118, _, _, _, _, _⟩) rfl (fun K hK => ?_) AllReadyH.nil
        go_simp
        (go_at_call 23; refine (cT.out _ hS.2.2.1).mono ?_; rintro e w' ⟨rfl, hb'⟩)
        have hS0 := hS
        clear hS
        refine hK.out _ _ ⟨cell_below hb' hS0.1, cell_below hb' hS0.2.1, hS0.2.2.1.below hb', below_down hS0.2.2.2 hb'⟩ (fun hS => ?_)
        clear hK K hS0
        try simp only [Act.put, List.setIfInBounds_toArray, List.set_cons_zero, List.set_cons_succ]
        refine wpAnyH_take (i := 16) (oi := ⟨some 119, _, _, _, _, _⟩) (v := ?_) rfl (by kernel_rfl) (by kernel_rfl) (by kernel_rfl) (fun _ _ _ h => h) (Or.inl ⟨by kernel_rfl, ?_⟩) hS ?_
        rotate_left
        · intro w hSw
          try dsimp only at hSw
          go_simp
          try with_reducible rfl
        try simp only [Act.put, List.setIfInBounds_toArray, List.set_cons_zero, List.set_cons_succ]
        refine wpAnyH_take (i := 17) (oi := ⟨some 120, _, _, _, _, _⟩) (v := ?_) rfl (by kernel_rfl) (by kernel_rfl) (by kernel_rfl) (fun _ _ _ h => h) (Or.inl ⟨by kernel_rfl, ?_⟩) hS ?_
        rotate_left
        · intro w hSw
          try dsimp only at hSw
          go_simp
          try with_reducible rfl
        try simp only [Act.put, List.setIfInBounds_toArray, List.set_cons_zero, List.set_cons_succ]
        refine wpAnyH_done (by kernel_rfl) ?_ _
        go_wp2
        go_roundw
        case rel => exact ⟨k + 1, by omega, by go_num, hS.2.2.2⟩
        case measure => simp [intOf]; omega
      · obtain rfl : k = n1 := by omega
        have l1 : ¬ k < ys.length := by rw [HYL.out]; omega
        have hle : ((ys.length : Int) == (k : Int)) = true := by simp [HYL.out]
        have hoo : (os == os) = true := by simp
        clear hlt
        have cS := Lib.hid (cS.out wr (i5.below hbel))
        have j6 := i6.below hbel
        have j8 := i8.below hbel
        go_wp2_with (first | (go_at_call 15; refine cS.out.mono ?_; rintro e w' ⟨rfl, rfl⟩) | (go_at_call 14; refine (lawSame_any _ _ _ _ _ _ _ j6 j8 (by omega) (by omega)).mono ?_; rintro e w' ⟨rfl, n8, rfl⟩))
        go_ret
        exact ⟨rfl, below_drewN (hB9.trans (hbel.mono hB9.size)) _⟩
set_option maxRecDepth 100000 in
theorem FnDepth_lifted (os : Os) (started : os.Started) (H : Type) (enc : TypeId × Value → H) :
    ReturnsInHanded {} Try.checked os 8 .any (Rows.fnDepthSpec.pre6 enc Try.prog Try.f8 Rows.fnDepthRow.domain false) (Rows.fnDepthSpec.post enc Try.prog Try.f8 false true false false) := by
  refine returnsInHanded_of_change (C := Try.checked) Try.own started (by kernel_rfl) Try.func8
    (ChangeSpec.witness6 (enc := enc) (C := Try.checked) false ⟨#[], #[.slice none 0 0], []⟩ 8 (by kernel_rfl) (by kernel_rfl) (by kernel_rfl) (by kernel_rfl)) ?_
  intro W base args ds gs before hval0 hW hcnd _
  have hval : ∀ (j : Nat) t v, Try.f8.params[j]? = some t → args[j]? = some v → Value.okWide Try.prog W .any base t v := hval0
  have hW' := hW
  obtain ⟨p, q, hA0, hV, rfl, hfz, hnd⟩ := hW
  have hA : DataW.TrodAll enc Try.prog W 0 (fun _ => true) true Try.f8.params.toList args.toList ds p := hA0
  rw [Try.params8] at hA hval
  obtain ⟨v0, vs0, d0, ds0, p0, q0, hargs, rfl, rfl, h0, r0⟩ := trodAll_cons hA
  obtain ⟨rfl, rfl, rfl⟩ := trodAll_nil r0
  obtain rfl : args = #[v0] := by cases args; simp_all
  obtain ⟨rfl, rfl⟩ := trodVars_none hV
  have k0 := h0
  have lt0 : ∀ x ∈ p0, x.block < W.heap.size := by obtain ⟨m, hm⟩ := k0; exact DataW.trod_lt m _ _ _ hm
  obtain ⟨a0, z0, c0, rfl, w0⟩ := openByts (hval 0 22 v0 rfl rfl) h0
  clear hA0 hval0
  refine (FnDepth_walk a0 z0 c0 W w0).mono fun e W' ⟨he, bel⟩ => ?_
  subst he
  exact ⟨_, rfl, _, _, _, [], _, [], hW', trodAll_mk1 (shut_bool Try.underlying4 _), (trodAll_cons_mk (Below.trod Try.laidOut (by kernel_rfl) (of_decide_eq_true (by kernel_rfl)) k0 bel lt0) trodAll_mk0), rfl, bel.frame _, fun h => by cases h⟩
/-- The given statement. -/
theorem FnDepth_holds : Rows.FnDepthSaid :=
  OpenClaim.holds_of_wide 8 Try.f8 rfl rfl rfl rfl rfl rfl rfl ⟨rfl, rfl, rfl, rfl, rfl⟩ rfl rfl rfl rfl rfl (by kernel_rfl) Try.func8 (by kernel_rfl)
    (of_decide_eq_true (by kernel_rfl)) (by unfold Func.isWrapper; first | (rw [if_pos (by decide +kernel)]; kernel_rfl) | (rw [if_neg (by decide +kernel)]; exact ⟨rfl, rfl⟩))
    (fun os started H enc _ => FnDepth_lifted os started H enc)
end Go.Proofs.Ythngafmnkihkgaa
