/-
  The program's counts of a transfer.
-/
import Derived.Test.YtiinfbjlkbjmmaaQTraM
namespace Go.Proofs.Ytiinfbjlkbjmmaa
open Go.RowKit
set_option maxRecDepth 100000 in
theorem FrB.fvT {B T : Nat} {f : Fr} (h : FrB B T f) (hB : 1 ≤ B) (hB2 : B ≤ 60) (hT : T ≤ 1000) : fvN f.1 f.2 = true := by
  have h1 := h.num hB
  have h2 := h.den hB
  have h3 : T * B ≤ 1000 * 60 := Nat.mul_le_mul hT hB2
  exact fvN_iff.2 ⟨by omega, h.pos, by omega, h.cop⟩
set_option maxRecDepth 100000 in
theorem times_ok {B a b m : Nat} (hw : FrB B 1 (a, b)) (hB : 1 ≤ B) (hB2 : B ≤ 60) (hm : m ≤ 99) : redF (a * m) (b * 1) = (mulP (a, b) m, true) := by
  have h := (FrB.mul hB hw m).fvT hB hB2 (by omega)
  rw [Nat.mul_one]
  exact redF_ok h
set_option maxRecDepth 100000 in
theorem add_ok {B S T p q r t : Nat} (hx : FrB B S (p, q)) (hy : FrB B T (r, t)) (hB : 1 ≤ B) (hB2 : B ≤ 60) (hm : S + T ≤ 1000) : redF (p * t + r * q) (q * t) = (addP (p, q) (r, t), true) :=
  redF_ok ((FrB.add hB hx hy).fvT hB hB2 hm)
set_option maxRecDepth 100000 in
theorem int_fv {m : Nat} (h : m ≤ 9999999) : fvN m 1 = true := fvN_iff.2 ⟨h, by omega, by omega, by simp⟩
set_option maxRecDepth 100000 in
theorem pile_ob {w : World} {s : ByteArray} {m : Int} : Ob (w.alloc (.cells #[.string s, .int .i64 m] 70)) w.heap.size #[.string s, .int .i64 m] 70 := ob0 _ _ _
set_option maxRecDepth 100000 in
set_option maxHeartbeats 6400000 in
theorem counts_any (tb : Nat) (Aw : Option Addr) (cw gl lo : Nat) (A A2 : Option Addr) (ps : List (ByteArray × Int)) (n c d2 B : Nat) (ws : List Fr) (left : List Bool) (there seats quota : Int) (w : World) (h : PilesI w A ps) (hT : Tr w lo tb Aw cw gl A ps.length c A2 n d2 ws left there seats quota) (ho : Hid (CntOk ps ws left.length B)) :
    Calls Try.prog 81 #[.pointer (some ⟨tb, 0, none⟩)] w (fun e w' => ∃ C d, e = .returned (.slice C n d) ∧ OwnF w' w.heap.size C n d (cntT left ((pl ps).zip ws)) ∧ Below w.heap.size w w') := by
  have hl := ho.out.fit.len
  have hl5 := ho.out.fit.n5
  have hl1 := ho.out.fit.n1
  have hln := hT.lft.1
  have cR := Lib.hid (fun b w (h : Fracs w (some ⟨b, 0, none⟩) [((0 : Nat), (1 : Nat))]) => newF_len (sRepeat_any ⟨b, 0, none⟩ 0 1 n 1 w h (by omega)) (n := n) (by simp))
  have HN0 := Lib.hid (show cntT left [] = List.replicate n (0, 1) by unfold cntT; rw [hln]; rfl)
  have hb0 := (Below.refl w.heap.size w).alloc (Nat.le_refl _) (.cells #[.int .i64 0, .int .i64 1] 75)
  have hX : Fracs (w.alloc (.cells #[.int .i64 0, .int .i64 1] 75)) (some ⟨w.heap.size, 0, none⟩) [(0, 1)] := fracs_box (boxF_new w 0 1)
  have HLN := Lib.hid hln
  clear hln
  have hT0 := hT.below hb0
  have t1 := hT0.c1
  go_enter Try.func81, Try.ntmps81
  go_wp2_with fail
  generalize w.alloc (.cells #[.int .i64 0, .int .i64 1] 75) = w0 at *
  refine (cR.out _ _ hX).mono ?_
  rintro e w1 ⟨C, d, rfl, hown, hb1⟩
  have hown := hown.mono hb0.size
  have hB1 := below_down hb0 hb1
  obtain ⟨g, rfl, hg0, hg1⟩ := hown.form (by have := HLN.out; omega)
  have t0 := (hT.below hB1).c0
  clear hb0 hb1 hX hT0 cR t1
  go_wp2
  go_loopw [4, 5, 6, 7, 8, 22] (fun _ _ _ _ _ i wr => ∃ k : Nat, k ≤ ps.length ∧ i = .int .i64 k ∧ OwnF wr w.heap.size (some ⟨g, 0, none⟩) n d (cntT left (((pl ps).zip ws).take k)) ∧ Below w.heap.size w wr) (fun _ _ _ _ _ i _ => ps.length - (intOf i).toNat)
  case atStart => exact ⟨0, by omega, rfl, hown.congr HN0.out.symm, hB1⟩
  case round =>
    clear hown hB1 hg1 t0
    obtain ⟨k, hk, rfl, hown, hbel⟩ := hrel
    have hsz := hbel.size
    by_cases hlt : k < ps.length
    · obtain ⟨ad, s, m, e0, hp, hs, hc0, hc1⟩ := (h.below hbel).at_ hlt
      subst e0
      obtain ⟨hbp, hbv⟩ := ho.out.fit.bvs (pmem_at hp.out)
      have hrg := ho.out.fit.rng _ (pmem_at hp.out)
      have hcase := firstL_cases (left := left) (b := bal s) hrg
      have hff : firstF left (balP s) = firstL left (bal s) := by rw [hbp]; unfold firstF; rw [if_pos hbv]
      obtain ⟨hm0, hm1⟩ : 1 ≤ m ∧ m ≤ 99 := ho.out.fit.many _ (pmem_at hp.out)
      have hbl := balP_len s
      clear hbp hbv hrg
      have hbA := (Below.refl wr.heap.size wr).alloc (Nat.le_refl _) (.cells #[.string s, .int .i64 m] 70)
      have oP := pile_ob (w := wr) (s := s) (m := m)
      have hBA := below_down hbel hbA
      have hownA := hown.below hbA
      have hTA := hT.below hBA
      go_wp2
      generalize wr.alloc (.cells #[.string s, .int .i64 m] 70) = wx at *
      generalize wr.heap.size = bp at *
      clear hbA hown hbel hc0 hc1
      have p0 := oP.cell 0 rfl
      have p1 := oP.cell 1 rfl
      have t3 := hTA.c3
      have hLA := hTA.lft.bools
      have hzx := hBA.size
      refine wp_region_X (fun w' => Below wx.heap.size wx w') 1000 (by kernel_rfl) ?_ (fun hS => ?_)
      · exact (Below.refl _ _).drew
      refine wpAnyX_take (i := 0) (oi := ⟨some 27, _, _, _, _, _⟩) (v := ?_) rfl (by kernel_rfl) (by kernel_rfl) (by kernel_rfl) (by kernel_rfl) (fun _ _ _ h => h) (Or.inl ⟨by kernel_rfl, ?_⟩) hS ?_
      rotate_left
      · intro w hSw
        have d0 := cell_below hSw p0; have d1 := cell_below hSw p1; have d3 := cell_below hSw t3
        try dsimp only at hSw
        go_simp
        try with_reducible rfl
      try simp only [Act.put, List.setIfInBounds_toArray, List.set_cons_zero, List.set_cons_succ]
      refine wpAnyX_take (i := 2) (oi := ⟨some 29, _, _, _, _, _⟩) (v := ?_) rfl (by kernel_rfl) (by kernel_rfl) (by kernel_rfl) (by kernel_rfl) (fun _ _ _ h => h) (Or.inl ⟨by kernel_rfl, ?_⟩) hS ?_
      rotate_left
      · intro w hSw
        have d0 := cell_below hSw p0; have d1 := cell_below hSw p1; have d3 := cell_below hSw t3
        try dsimp only at hSw
        go_simp
        try with_reducible rfl
      try simp only [Act.put, List.setIfInBounds_toArray, List.set_cons_zero, List.set_cons_succ]
      refine wpAnyX_take (i := 3) (oi := ⟨some 30, _, _, _, _, _⟩) (v := ?_) rfl (by kernel_rfl) (by kernel_rfl) (by kernel_rfl) (by kernel_rfl) (fun _ _ _ h => h) (Or.inl ⟨by kernel_rfl, ?_⟩) hS ?_
      rotate_left
      · intro w hSw
        have d0 := cell_below hSw p0; have d1 := cell_below hSw p1; have d3 := cell_below hSw t3
        try dsimp only at hSw
        go_simp
        try with_reducible rfl
      try simp only [Act.put, List.setIfInBounds_toArray, List.set_cons_zero, List.set_cons_succ]
      refine wpAnyX_take (i := 4) (oi := ⟨some 31, _, _, _, _, _⟩) (v := ?_) rfl (by kernel_rfl) (by kernel_rfl) (by kernel_rfl) (by kernel_rfl) (fun _ _ _ h => h) (Or.inl ⟨by kernel_rfl, ?_⟩) hS ?_
      rotate_left
      · intro w hSw
        have d0 := cell_below hSw p0; have d1 := cell_below hSw p1; have d3 := cell_below hSw t3
        try dsimp only at hSw
        go_simp
        try with_reducible rfl
      try simp only [Act.put, List.setIfInBounds_toArray, List.set_cons_zero, List.set_cons_succ]
      refine wpAnyX_take (i := 5) (oi := ⟨some 32, _, _, _, _, _⟩) (v := ?_) rfl (by kernel_rfl) (by kernel_rfl) (by kernel_rfl) (by kernel_rfl) (fun _ _ _ h => h) (Or.inl ⟨by kernel_rfl, ?_⟩) hS ?_
      rotate_left
      · intro w hSw
        have d0 := cell_below hSw p0; have d1 := cell_below hSw p1; have d3 := cell_below hSw t3
        try dsimp only at hSw
        go_simp
        try with_reducible rfl
      try simp only [Act.put, List.setIfInBounds_toArray, List.set_cons_zero, List.set_cons_succ]
      refine wpAnyX_ready (rs := [1]) (by kernel_rfl) (by simp) ?_
      refine AllReadyX.cons (o := ⟨some 28, _, _, _, _, _⟩) rfl (fun K hK => ?_) AllReadyX.nil
      go_simp
      go_at_call 60
      refine (pileBallot_any s m _ hs).mono ?_
      rintro e w3 ⟨B5, d5, rfl, hob, hb3⟩
      have hS0 := hS
      clear hS
      refine hK.out _ _ (fun _ => below_down hS0 hb3) (fun hS => ?_)
      replace hS := hS (by kernel_rfl)
      clear hK K hS0
      try simp only [Act.put, List.setIfInBounds_toArray, List.set_cons_zero, List.set_cons_succ]
      refine wpAnyX_ready (rs := [6]) (by kernel_rfl) (by simp) ?_
      refine AllReadyX.cons (o := ⟨some 33, _, _, _, _, _⟩) rfl (fun K hK => ?_) AllReadyX.nil
      go_simp
      have cF := ballotFirst_any B5 (some ⟨gl, 0, none⟩) (balP s) left d5 n w3 hob.ints (hLA.below hS) (by omega) (by have := HLN.out; omega) hob.le_cap
      rw [HLN.out, hff] at cF
      go_at_call 92
      refine cF.mono ?_
      rintro e w4 ⟨rfl, hw4⟩
      subst hw4
      clear cF
      have hS0 := hS
      clear hS
      refine hK.out _ _ (fun _ => hS0) (fun hS => ?_)
      replace hS := hS (by kernel_rfl)
      clear hK K hS0
      try simp only [Act.put, List.setIfInBounds_toArray, List.set_cons_zero, List.set_cons_succ]
      refine wpAnyX_take (i := 7) (oi := ⟨some 6, _, _, _, _, _⟩) (v := ?_) rfl (by kernel_rfl) (by kernel_rfl) (by kernel_rfl) (by kernel_rfl) (fun _ _ _ h => h) (Or.inl ⟨by kernel_rfl, ?_⟩) hS ?_
      rotate_left
      · intro w hSw
        have d0 := cell_below hSw p0; have d1 := cell_below hSw p1; have d3 := cell_below hSw t3
        try dsimp only at hSw
        go_simp
        try with_reducible rfl
      try simp only [Act.put, List.setIfInBounds_toArray, List.set_cons_zero, List.set_cons_succ]
      refine wpAnyX_done (by kernel_rfl) ?_ _
      have hBB := below_down hBA hS
      have hownB := hownA.below hS
      have hTB := hTA.below hS
      have oPB := oP.below hS
      clear hBA hownA hTA oP p0 p1 t3 hLA hS hob
      generalize w3w : w3 = wy at *
      clear w3w
      rcases hcase with hm | ⟨f, hm, hfl⟩
      · rw [hm]
        have hq := Lib.hid (fun wt (hw : ws[k]? = some wt) => (cntT_snoc (left := left) (plzip_at hp.out hw)).trans (cntStep_miss hm))
        have hwk : ws[k]? = some (ws[k]'(by have := ho.out.len; omega)) := List.getElem?_eq_getElem _
        have hq2 := Lib.hid (hq.out _ hwk)
        clear hm hwk hq
        go_wp2
        go_roundw
        case rel => exact ⟨k + 1, by omega, by go_num, hownB.congr hq2.out.symm, hBB⟩
        case measure => simp [intOf]; omega
      · rw [hm]
        obtain ⟨adw, a, b, e1, hw1, hca, hcb⟩ := hTB.wts.fracs.at_ (k := k) (by have := ho.out.len; omega)
        subst e1
        obtain ⟨⟨p, q⟩, hx⟩ : ∃ z, (cntT left (((pl ps).zip ws).take k))[f]? = some z := ⟨_, List.getElem?_eq_getElem (by rw [cntT_len]; exact hfl)⟩
        have hfr := ho.out.cnt left k _ (List.mem_of_getElem? hx)
        have hwr := ho.out.wts _ (List.mem_of_getElem? hw1.out)
        obtain ⟨mm, rfl⟩ := Int.eq_ofNat_of_zero_le (show 0 ≤ m by omega)
        have hN := (cntT_snoc (left := left) (plzip_at hp.out hw1.out)).trans (cntStep_hit hm hx)
        rw [Int.toNat_natCast] at hN
        have hmm : mm ≤ 99 := by omega
        have hpart := FrB.mul ho.out.b1 hwr mm
        have cT := fun w => fracTimes_any a b mm 1 w (hwr.fvT ho.out.b1 ho.out.b60 (by omega)) (int_fv (by omega))
        rw [times_ok hwr ho.out.b1 ho.out.b60 hmm] at cT
        obtain ⟨⟨r1, r2⟩, hr⟩ : ∃ r, r = mulP (a, b) mm := ⟨_, rfl⟩
        rw [← hr] at cT hpart hN
        have cA := fun w => fracAdd_any p q r1 r2 w (hfr.fvT ho.out.b1 ho.out.b60 (by omega)) (hpart.fvT ho.out.b1 ho.out.b60 (by omega))
        rw [add_ok hfr hpart ho.out.b1 ho.out.b60 (by omega)] at cA
        obtain ⟨⟨u1, u2⟩, hu⟩ : ∃ r, r = addP (p, q) (r1, r2) := ⟨_, rfl⟩
        rw [← hu] at cA hN
        have cT := Lib.hid cT
        have cA := Lib.hid cA
        have HN := Lib.hid hN
        have HX := Lib.hid hx
        have hf00 : (0 : Int) ≤ (f : Int) := by omega
        have hf01 : (f : Int) < (n : Int) := by have := HLN.out; omega
        have hk0 : (0 : Int) ≤ (k : Int) := by omega
        have hk1 : (k : Int) < (ps.length : Int) := by omega
        obtain ⟨z1, z2⟩ := hownB.cell hx
        have p1 := oPB.cell 1 rfl
        have t2 := hTB.c2
        clear hm hx hfr hwr hN hpart hr hu hm0 hm1 hw1
        have hzy := hBB.size
        go_wp2
        refine wp_region_X (fun w' => Below wy.heap.size wy w') 1000 (by kernel_rfl) ?_ (fun hS => ?_)
        · exact (Below.refl _ _).drew
        refine wpAnyX_take (i := 0) (oi := ⟨some 37, _, _, _, _, _⟩) (v := ?_) rfl (by kernel_rfl) (by kernel_rfl) (by kernel_rfl) (by kernel_rfl) (fun _ _ _ h => h) (Or.inl ⟨by kernel_rfl, ?_⟩) hS ?_
        rotate_left
        · intro w hSw
          have d0 := cell_below hSw hca; have d1 := cell_below hSw hcb; have d2 := cell_below hSw t2; have d3 := cell_below hSw p1
          try dsimp only at hSw
          go_simp
          try with_reducible rfl
        try simp only [Act.put, List.setIfInBounds_toArray, List.set_cons_zero, List.set_cons_succ]
        refine wpAnyX_take (i := 1) (oi := ⟨some 38, _, _, _, _, _⟩) (v := ?_) rfl (by kernel_rfl) (by kernel_rfl) (by kernel_rfl) (by kernel_rfl) (fun _ _ _ h => h) (Or.inl ⟨by kernel_rfl, ?_⟩) hS ?_
        rotate_left
        · intro w hSw
          have d0 := cell_below hSw hca; have d1 := cell_below hSw hcb; have d2 := cell_below hSw t2; have d3 := cell_below hSw p1
          try dsimp only at hSw
          go_simp
          try with_reducible rfl
        try simp only [Act.put, List.setIfInBounds_toArray, List.set_cons_zero, List.set_cons_succ]
        refine wpAnyX_take (i := 2) (oi := ⟨some 39, _, _, _, _, _⟩) (v := ?_) rfl (by kernel_rfl) (by kernel_rfl) (by kernel_rfl) (by kernel_rfl) (fun _ _ _ h => h) (Or.inl ⟨by kernel_rfl, ?_⟩) hS ?_
        rotate_left
        · intro w hSw
          have d0 := cell_below hSw hca; have d1 := cell_below hSw hcb; have d2 := cell_below hSw t2; have d3 := cell_below hSw p1
          try dsimp only at hSw
          go_simp
          try with_reducible rfl
        try simp only [Act.put, List.setIfInBounds_toArray, List.set_cons_zero, List.set_cons_succ]
        refine wpAnyX_take (i := 3) (oi := ⟨some 40, _, _, _, _, _⟩) (v := ?_) rfl (by kernel_rfl) (by kernel_rfl) (by kernel_rfl) (by kernel_rfl) (fun _ _ _ h => h) (Or.inl ⟨by kernel_rfl, ?_⟩) hS ?_
        rotate_left
        · intro w hSw
          have d0 := cell_below hSw hca; have d1 := cell_below hSw hcb; have d2 := cell_below hSw t2; have d3 := cell_below hSw p1
          try dsimp only at hSw
          go_simp
          try with_reducible rfl
        try simp only [Act.put, List.setIfInBounds_toArray, List.set_cons_zero, List.set_cons_succ]
        refine wpAnyX_take (i := 4) (oi := ⟨some 41, _, _, _, _, _⟩) (v := ?_) rfl (by kernel_rfl) (by kernel_rfl) (by kernel_rfl) (by kernel_rfl) (fun _ _ _ h => h) (Or.inl ⟨by kernel_rfl, ?_⟩) hS ?_
        rotate_left
        · intro w hSw
          have d0 := cell_below hSw hca; have d1 := cell_below hSw hcb; have d2 := cell_below hSw t2; have d3 := cell_below hSw p1
          try dsimp only at hSw
          go_simp
          try with_reducible rfl
        try simp only [Act.put, List.setIfInBounds_toArray, List.set_cons_zero, List.set_cons_succ]
        refine wpAnyX_take (i := 5) (oi := ⟨some 42, _, _, _, _, _⟩) (v := ?_) rfl (by kernel_rfl) (by kernel_rfl) (by kernel_rfl) (by kernel_rfl) (fun _ _ _ h => h) (Or.inl ⟨by kernel_rfl, ?_⟩) hS ?_
        rotate_left
        · intro w hSw
          have d0 := cell_below hSw hca; have d1 := cell_below hSw hcb; have d2 := cell_below hSw t2; have d3 := cell_below hSw p1
          try dsimp only at hSw
          go_simp
          try with_reducible rfl
        try simp only [Act.put, List.setIfInBounds_toArray, List.set_cons_zero, List.set_cons_succ]
        refine wpAnyX_take (i := 6) (oi := ⟨some 43, _, _, _, _, _⟩) (v := ?_) rfl (by kernel_rfl) (by kernel_rfl) (by kernel_rfl) (by kernel_rfl) (fun _ _ _ h => h) (Or.inl ⟨by kernel_rfl, ?_⟩) hS ?_
        rotate_left
        · intro w hSw
          have d0 := cell_below hSw hca; have d1 := cell_below hSw hcb; have d2 := cell_below hSw t2; have d3 := cell_below hSw p1
          try dsimp only at hSw
          go_simp
          try with_reducible rfl
        try simp only [Act.put, List.setIfInBounds_toArray, List.set_cons_zero, List.set_cons_succ]
        refine wpAnyX_take (i := 7) (oi := ⟨some 44, _, _, _, _, _⟩) (v := ?_) rfl (by kernel_rfl) (by kernel_rfl) (by kernel_rfl) (by kernel_rfl) (fun _ _ _ h => h) (Or.inl ⟨by kernel_rfl, ?_⟩) hS ?_
        rotate_left
        · intro w hSw
          have d0 := cell_below hSw hca; have d1 := cell_below hSw hcb; have d2 := cell_below hSw t2; have d3 := cell_below hSw p1
          try dsimp only at hSw
          go_simp
          try with_reducible rfl
        try simp only [Act.put, List.setIfInBounds_toArray, List.set_cons_zero, List.set_cons_succ]
        refine wpAnyX_take (i := 8) (oi := ⟨some 45, _, _, _, _, _⟩) (v := ?_) rfl (by kernel_rfl) (by kernel_rfl) (by kernel_rfl) (by kernel_rfl) (fun _ _ _ h => h) (Or.inl ⟨by kernel_rfl, ?_⟩) hS ?_
        rotate_left
        · intro w hSw
          have d0 := cell_below hSw hca; have d1 := cell_below hSw hcb; have d2 := cell_below hSw t2; have d3 := cell_below hSw p1
          try dsimp only at hSw
          go_simp
          try with_reducible rfl
        try simp only [Act.put, List.setIfInBounds_toArray, List.set_cons_zero, List.set_cons_succ]
        refine wpAnyX_take (i := 9) (oi := ⟨some 46, _, _, _, _, _⟩) (v := ?_) rfl (by kernel_rfl) (by kernel_rfl) (by kernel_rfl) (by kernel_rfl) (fun _ _ _ h => h) (Or.inl ⟨by kernel_rfl, ?_⟩) hS ?_
        rotate_left
        · intro w hSw
          have d0 := cell_below hSw hca; have d1 := cell_below hSw hcb; have d2 := cell_below hSw t2; have d3 := cell_below hSw p1
          try dsimp only at hSw
          go_simp
          try with_reducible rfl
        try simp only [Act.put, List.setIfInBounds_toArray, List.set_cons_zero, List.set_cons_succ]
        refine wpAnyX_ready (rs := [10, 14]) (by kernel_rfl) (by simp) ?_
        refine AllReadyX.cons (o := ⟨some 47, _, _, _, _, _⟩) rfl (fun K hK => ?_) (AllReadyX.cons (o := ⟨some 7, _, _, _, _, _⟩) rfl (fun K hK => ?_) AllReadyX.nil)
        · go_simp
          go_at_call 109
          refine (cT.out _).mono ?_
          rintro e w7 ⟨rfl, hb7⟩
          have hS0 := hS
          clear hS
          refine hK.out _ _ (fun _ => below_down hS0 hb7) (fun hS => ?_)
          replace hS := hS (by kernel_rfl)
          clear hK K hS0
          try simp only [Act.put, List.setIfInBounds_toArray, List.set_cons_zero, List.set_cons_succ]
          refine wpAnyX_take (i := 11) (oi := ⟨some 36, _, _, _, _, _⟩) (v := ?_) rfl (by kernel_rfl) (by kernel_rfl) (by kernel_rfl) (by kernel_rfl) (fun _ _ _ h => h) (Or.inl ⟨by kernel_rfl, ?_⟩) hS ?_
          rotate_left
          · intro w hSw
            try dsimp only at hSw
            go_simp
            try with_reducible rfl
          try simp only [Act.put, List.setIfInBounds_toArray, List.set_cons_zero, List.set_cons_succ]
          refine wpAnyX_take (i := 12) (oi := ⟨some 48, _, _, _, _, _⟩) (v := ?_) rfl (by kernel_rfl) (by kernel_rfl) (by kernel_rfl) (by kernel_rfl) (fun _ _ _ h => h) (Or.inl ⟨by kernel_rfl, ?_⟩) hS ?_
          rotate_left
          · intro w hSw
            try dsimp only at hSw
            go_simp
            try with_reducible rfl
          try simp only [Act.put, List.setIfInBounds_toArray, List.set_cons_zero, List.set_cons_succ]
          refine wpAnyX_take (i := 13) (oi := ⟨some 49, _, _, _, _, _⟩) (v := ?_) rfl (by kernel_rfl) (by kernel_rfl) (by kernel_rfl) (by kernel_rfl) (fun _ _ _ h => h) (Or.inl ⟨by kernel_rfl, ?_⟩) hS ?_
          rotate_left
          · intro w hSw
            try dsimp only at hSw
            go_simp
            try with_reducible rfl
          try simp only [Act.put, List.setIfInBounds_toArray, List.set_cons_zero, List.set_cons_succ]
          refine wpAnyX_ready (rs := [14]) (by kernel_rfl) (by simp) ?_
          refine AllReadyX.cons (o := ⟨some 7, _, _, _, _, _⟩) rfl (fun K hK => ?_) AllReadyX.nil
          have hbZ := (Below.refl w7.heap.size w7).alloc (Nat.le_refl _) (.cells #[.int .i64 0, .int .i64 0] 75)
          have bD := boxF_new w7 0 0
          go_simp
          have hS0 := hS
          clear hS
          refine hK.out _ _ (fun _ => below_down hS0 hbZ) (fun hS => ?_)
          replace hS := hS (by kernel_rfl)
          clear hK K hS0
          try simp only [Act.put, List.setIfInBounds_toArray, List.set_cons_zero, List.set_cons_succ]
          have hgt : wy.heap.size ≤ w7.heap.size := hb7.size
          replace bD : BoxF (w7.alloc (.cells #[.int .i64 0, .int .i64 0] 75)) w7.heap.size 0 0 := bD
          generalize w7.alloc (.cells #[.int .i64 0, .int .i64 0] 75) = w9 at *
          generalize w7.heap.size = b7 at *
          clear hb7 hbZ
          refine wpAnyX_ready (rs := [15]) (by kernel_rfl) (by simp) ?_
          refine AllReadyX.cons (o := ⟨none, _, _, _, _, _⟩) rfl (fun K hK => ?_) AllReadyX.nil
          have f0 := bD.f0
          have f1 := bD.f1
          have x0 := bD.c0
          have x1 := bD.c1
          go_simp
          have hS0 := hS
          clear hS
          refine hK.out _ _ (fun _ => (hS0.setCell hgt _).setCell hgt _) (fun hS => ?_)
          replace hS := hS (by kernel_rfl)
          clear hK K hS0
          try simp only [Act.put, List.setIfInBounds_toArray, List.set_cons_zero, List.set_cons_succ]
          replace bD := bD.set r1 r2
          clear f0 f1 x0 x1
          refine wpAnyX_take (i := 16) (oi := ⟨some 8, _, _, _, _, _⟩) (v := ?_) rfl (by kernel_rfl) (by kernel_rfl) (by kernel_rfl) (by kernel_rfl) (fun _ _ _ h => h) (Or.inl ⟨by kernel_rfl, ?_⟩) hS ?_
          rotate_left
          · intro w hSw
            try dsimp only at hSw
            go_simp
            try with_reducible rfl
          try simp only [Act.put, List.setIfInBounds_toArray, List.set_cons_zero, List.set_cons_succ]
          refine wpAnyX_done (by kernel_rfl) ?_ _
          have hBD := below_down hBB hS
          have hownD := hownB.below hS
          have hzd := hBD.size
          clear hBB hownB hTB oPB hS
          generalize (w9.setCell ⟨b7, 0, none⟩ (.int .i64 (r1 : Int))).setCell ⟨b7, 1, none⟩ (.int .i64 (r2 : Int)) = wz at *
          have z1 := (hownD.cell HX.out).1
          have z2 := (hownD.cell HX.out).2
          have y1 := bD.c0
          have y2 := bD.c1
          go_wp2
          refine wp_region_X (fun w' => Below wz.heap.size wz w') 12 (by kernel_rfl) ?_ (fun hS => ?_)
          · exact (Below.refl _ _).drew
          refine wpAnyX_take (i := 0) (oi := ⟨some 51, _, _, _, _, _⟩) (v := ?_) rfl (by kernel_rfl) (by kernel_rfl) (by kernel_rfl) (by kernel_rfl) (fun _ _ _ h => h) (Or.inl ⟨by kernel_rfl, ?_⟩) hS ?_
          rotate_left
          · intro w hSw
            have d0 := cell_below hSw z1; have d1 := cell_below hSw z2; have d2 := cell_below hSw y1; have d3 := cell_below hSw y2
            try dsimp only at hSw
            go_simp
            try with_reducible rfl
          try simp only [Act.put, List.setIfInBounds_toArray, List.set_cons_zero, List.set_cons_succ]
          refine wpAnyX_take (i := 1) (oi := ⟨some 52, _, _, _, _, _⟩) (v := ?_) rfl (by kernel_rfl) (by kernel_rfl) (by kernel_rfl) (by kernel_rfl) (fun _ _ _ h => h) (Or.inl ⟨by kernel_rfl, ?_⟩) hS ?_
          rotate_left
          · intro w hSw
            have d0 := cell_below hSw z1; have d1 := cell_below hSw z2; have d2 := cell_below hSw y1; have d3 := cell_below hSw y2
            try dsimp only at hSw
            go_simp
            try with_reducible rfl
          try simp only [Act.put, List.setIfInBounds_toArray, List.set_cons_zero, List.set_cons_succ]
          refine wpAnyX_take (i := 2) (oi := ⟨some 53, _, _, _, _, _⟩) (v := ?_) rfl (by kernel_rfl) (by kernel_rfl) (by kernel_rfl) (by kernel_rfl) (fun _ _ _ h => h) (Or.inl ⟨by kernel_rfl, ?_⟩) hS ?_
          rotate_left
          · intro w hSw
            have d0 := cell_below hSw z1; have d1 := cell_below hSw z2; have d2 := cell_below hSw y1; have d3 := cell_below hSw y2
            try dsimp only at hSw
            go_simp
            try with_reducible rfl
          try simp only [Act.put, List.setIfInBounds_toArray, List.set_cons_zero, List.set_cons_succ]
          refine wpAnyX_take (i := 3) (oi := ⟨some 54, _, _, _, _, _⟩) (v := ?_) rfl (by kernel_rfl) (by kernel_rfl) (by kernel_rfl) (by kernel_rfl) (fun _ _ _ h => h) (Or.inl ⟨by kernel_rfl, ?_⟩) hS ?_
          rotate_left
          · intro w hSw
            have d0 := cell_below hSw z1; have d1 := cell_below hSw z2; have d2 := cell_below hSw y1; have d3 := cell_below hSw y2
            try dsimp only at hSw
            go_simp
            try with_reducible rfl
          try simp only [Act.put, List.setIfInBounds_toArray, List.set_cons_zero, List.set_cons_succ]
          refine wpAnyX_take (i := 4) (oi := ⟨some 55, _, _, _, _, _⟩) (v := ?_) rfl (by kernel_rfl) (by kernel_rfl) (by kernel_rfl) (by kernel_rfl) (fun _ _ _ h => h) (Or.inl ⟨by kernel_rfl, ?_⟩) hS ?_
          rotate_left
          · intro w hSw
            have d0 := cell_below hSw z1; have d1 := cell_below hSw z2; have d2 := cell_below hSw y1; have d3 := cell_below hSw y2
            try dsimp only at hSw
            go_simp
            try with_reducible rfl
          try simp only [Act.put, List.setIfInBounds_toArray, List.set_cons_zero, List.set_cons_succ]
          refine wpAnyX_take (i := 5) (oi := ⟨some 56, _, _, _, _, _⟩) (v := ?_) rfl (by kernel_rfl) (by kernel_rfl) (by kernel_rfl) (by kernel_rfl) (fun _ _ _ h => h) (Or.inl ⟨by kernel_rfl, ?_⟩) hS ?_
          rotate_left
          · intro w hSw
            have d0 := cell_below hSw z1; have d1 := cell_below hSw z2; have d2 := cell_below hSw y1; have d3 := cell_below hSw y2
            try dsimp only at hSw
            go_simp
            try with_reducible rfl
          try simp only [Act.put, List.setIfInBounds_toArray, List.set_cons_zero, List.set_cons_succ]
          refine wpAnyX_take (i := 6) (oi := ⟨some 57, _, _, _, _, _⟩) (v := ?_) rfl (by kernel_rfl) (by kernel_rfl) (by kernel_rfl) (by kernel_rfl) (fun _ _ _ h => h) (Or.inl ⟨by kernel_rfl, ?_⟩) hS ?_
          rotate_left
          · intro w hSw
            have d0 := cell_below hSw z1; have d1 := cell_below hSw z2; have d2 := cell_below hSw y1; have d3 := cell_below hSw y2
            try dsimp only at hSw
            go_simp
            try with_reducible rfl
          try simp only [Act.put, List.setIfInBounds_toArray, List.set_cons_zero, List.set_cons_succ]
          refine wpAnyX_ready (rs := [7]) (by kernel_rfl) (by simp) ?_
          refine AllReadyX.cons (o := ⟨some 58, _, _, _, _, _⟩) rfl (fun K hK => ?_) AllReadyX.nil
          go_simp
          go_at_call 110
          refine (cA.out _).mono ?_
          rintro e w8 ⟨rfl, hb8⟩
          have hS0 := hS
          clear hS
          refine hK.out _ _ (fun _ => below_down hS0 hb8) (fun hS => ?_)
          replace hS := hS (by kernel_rfl)
          clear hK K hS0
          try simp only [Act.put, List.setIfInBounds_toArray, List.set_cons_zero, List.set_cons_succ]
          refine wpAnyX_take (i := 8) (oi := ⟨some 50, _, _, _, _, _⟩) (v := ?_) rfl (by kernel_rfl) (by kernel_rfl) (by kernel_rfl) (by kernel_rfl) (fun _ _ _ h => h) (Or.inl ⟨by kernel_rfl, ?_⟩) hS ?_
          rotate_left
          · intro w hSw
            have d0 := cell_below hSw z1; have d1 := cell_below hSw z2; have d2 := cell_below hSw y1; have d3 := cell_below hSw y2
            try dsimp only at hSw
            go_simp
            try with_reducible rfl
          try simp only [Act.put, List.setIfInBounds_toArray, List.set_cons_zero, List.set_cons_succ]
          refine wpAnyX_take (i := 9) (oi := ⟨some 59, _, _, _, _, _⟩) (v := ?_) rfl (by kernel_rfl) (by kernel_rfl) (by kernel_rfl) (by kernel_rfl) (fun _ _ _ h => h) (Or.inl ⟨by kernel_rfl, ?_⟩) hS ?_
          rotate_left
          · intro w hSw
            have d0 := cell_below hSw z1; have d1 := cell_below hSw z2; have d2 := cell_below hSw y1; have d3 := cell_below hSw y2
            try dsimp only at hSw
            go_simp
            try with_reducible rfl
          try simp only [Act.put, List.setIfInBounds_toArray, List.set_cons_zero, List.set_cons_succ]
          refine wpAnyX_takeB (i := 10) (oi := ⟨some 60, _, _, _, _, _⟩) (v := ?_) rfl (by kernel_rfl) (by kernel_rfl) (by kernel_rfl) (by kernel_rfl) (fun _ _ _ h => h) (Or.inl ⟨by kernel_rfl, ?_⟩) (fun _ => hS) ?_
          rotate_left
          · intro w hSw
            go_simp
            try with_reducible rfl
          try simp only [Act.put, List.setIfInBounds_toArray, List.set_cons_zero, List.set_cons_succ]
          refine wpAnyX_take (i := 11) (oi := ⟨some 61, _, _, _, _, _⟩) (v := ?_) rfl (by kernel_rfl) (by kernel_rfl) (by kernel_rfl) (by kernel_rfl) (fun _ _ _ h => h) (Or.inl ⟨by kernel_rfl, ?_⟩) hS ?_
          rotate_left
          · intro w hSw
            have d0 := cell_below hSw z1; have d1 := cell_below hSw z2; have d2 := cell_below hSw y1; have d3 := cell_below hSw y2
            try dsimp only at hSw
            go_simp
            try with_reducible rfl
          try simp only [Act.put, List.setIfInBounds_toArray, List.set_cons_zero, List.set_cons_succ]
          refine wpAnyX_ready (rs := [12]) (by kernel_rfl) (by simp) ?_
          refine AllReadyX.cons (o := ⟨none, _, _, _, _, _⟩) rfl (fun K hK => ?_) AllReadyX.nil
          have hOw := hownD.below hS
          have hBw := below_down hBD hS
          have hf0 := hOw.frozen (f * 2)
          have hf1 := hOw.frozen (f * 2 + 1)
          have x1 := (hOw.cell HX.out).1
          have x2 := (hOw.cell HX.out).2
          go_simp
          refine hK.out _ _ (fun h => absurd (h.symm.trans (by kernel_rfl : _ = true)) (by decide)) (fun _ => ?_)
          clear hK K
          try simp only [Act.put, List.setIfInBounds_toArray, List.set_cons_zero, List.set_cons_succ]
          refine wpAnyX_done (by kernel_rfl) ?_ _
          go_wp2
          go_roundw
          case rel => exact ⟨k + 1, by omega, by go_num, (hOw.set f (u1, u2)).congr HN.out.symm, (hBw.setCell hg0 _).setCell hg0 _⟩
          case measure => simp [intOf]; omega
        · have hbZ : Below wy.heap.size wy (wy.alloc (.cells #[.int .i64 0, .int .i64 0] 75)).drew := ((Below.refl _ _).alloc (Nat.le_refl _) _).drew
          have bD := (boxF_new wy 0 0).drew
          go_simp
          have hS0 := hS
          clear hS
          refine hK.out _ _ (fun _ => hbZ) (fun hS => ?_)
          replace hS := hS (by kernel_rfl)
          clear hK K hS0
          try simp only [Act.put, List.setIfInBounds_toArray, List.set_cons_zero, List.set_cons_succ]
          have hgt : wy.heap.size ≤ wy.heap.size := Nat.le_refl _
          replace bD : BoxF (wy.alloc (.cells #[.int .i64 0, .int .i64 0] 75)).drew wy.heap.size 0 0 := bD
          generalize (wy.alloc (.cells #[.int .i64 0, .int .i64 0] 75)).drew = w7 at *
          clear hbZ
          refine wpAnyX_ready (rs := [10]) (by kernel_rfl) (by simp) ?_
          refine AllReadyX.cons (o := ⟨some 47, _, _, _, _, _⟩) rfl (fun K hK => ?_) AllReadyX.nil
          go_simp
          go_at_call 109
          refine (cT.out _).mono ?_
          rintro e w9 ⟨rfl, hb7⟩
          have hS0 := hS
          clear hS
          refine hK.out _ _ (fun _ => below_down hS0 hb7) (fun hS => ?_)
          replace hS := hS (by kernel_rfl)
          clear hK K hS0
          try simp only [Act.put, List.setIfInBounds_toArray, List.set_cons_zero, List.set_cons_succ]
          replace bD := bD.below hb7
          clear hb7
          refine wpAnyX_take (i := 11) (oi := ⟨some 36, _, _, _, _, _⟩) (v := ?_) rfl (by kernel_rfl) (by kernel_rfl) (by kernel_rfl) (by kernel_rfl) (fun _ _ _ h => h) (Or.inl ⟨by kernel_rfl, ?_⟩) hS ?_
          rotate_left
          · intro w hSw
            try dsimp only at hSw
            go_simp
            try with_reducible rfl
          try simp only [Act.put, List.setIfInBounds_toArray, List.set_cons_zero, List.set_cons_succ]
          refine wpAnyX_take (i := 12) (oi := ⟨some 48, _, _, _, _, _⟩) (v := ?_) rfl (by kernel_rfl) (by kernel_rfl) (by kernel_rfl) (by kernel_rfl) (fun _ _ _ h => h) (Or.inl ⟨by kernel_rfl, ?_⟩) hS ?_
          rotate_left
          · intro w hSw
            try dsimp only at hSw
            go_simp
            try with_reducible rfl
          try simp only [Act.put, List.setIfInBounds_toArray, List.set_cons_zero, List.set_cons_succ]
          refine wpAnyX_take (i := 13) (oi := ⟨some 49, _, _, _, _, _⟩) (v := ?_) rfl (by kernel_rfl) (by kernel_rfl) (by kernel_rfl) (by kernel_rfl) (fun _ _ _ h => h) (Or.inl ⟨by kernel_rfl, ?_⟩) hS ?_
          rotate_left
          · intro w hSw
            try dsimp only at hSw
            go_simp
            try with_reducible rfl
          try simp only [Act.put, List.setIfInBounds_toArray, List.set_cons_zero, List.set_cons_succ]
          refine wpAnyX_ready (rs := [15]) (by kernel_rfl) (by simp) ?_
          refine AllReadyX.cons (o := ⟨none, _, _, _, _, _⟩) rfl (fun K hK => ?_) AllReadyX.nil
          have f0 := bD.f0
          have f1 := bD.f1
          have x0 := bD.c0
          have x1 := bD.c1
          go_simp
          have hS0 := hS
          clear hS
          refine hK.out _ _ (fun _ => (hS0.setCell hgt _).setCell hgt _) (fun hS => ?_)
          replace hS := hS (by kernel_rfl)
          clear hK K hS0
          try simp only [Act.put, List.setIfInBounds_toArray, List.set_cons_zero, List.set_cons_succ]
          replace bD := bD.set r1 r2
          clear f0 f1 x0 x1
          refine wpAnyX_take (i := 16) (oi := ⟨some 8, _, _, _, _, _⟩) (v := ?_) rfl (by kernel_rfl) (by kernel_rfl) (by kernel_rfl) (by kernel_rfl) (fun _ _ _ h => h) (Or.inl ⟨by kernel_rfl, ?_⟩) hS ?_
          rotate_left
          · intro w hSw
            try dsimp only at hSw
            go_simp
            try with_reducible rfl
          try simp only [Act.put, List.setIfInBounds_toArray, List.set_cons_zero, List.set_cons_succ]
          refine wpAnyX_done (by kernel_rfl) ?_ _
          have hBD := below_down hBB hS
          have hownD := hownB.below hS
          have hzd := hBD.size
          clear hBB hownB hTB oPB hS
          generalize (w9.setCell ⟨wy.heap.size, 0, none⟩ (.int .i64 (r1 : Int))).setCell ⟨wy.heap.size, 1, none⟩ (.int .i64 (r2 : Int)) = wz at *
          have z1 := (hownD.cell HX.out).1
          have z2 := (hownD.cell HX.out).2
          have y1 := bD.c0
          have y2 := bD.c1
          go_wp2
          refine wp_region_X (fun w' => Below wz.heap.size wz w') 12 (by kernel_rfl) ?_ (fun hS => ?_)
          · exact (Below.refl _ _).drew
          refine wpAnyX_take (i := 0) (oi := ⟨some 51, _, _, _, _, _⟩) (v := ?_) rfl (by kernel_rfl) (by kernel_rfl) (by kernel_rfl) (by kernel_rfl) (fun _ _ _ h => h) (Or.inl ⟨by kernel_rfl, ?_⟩) hS ?_
          rotate_left
          · intro w hSw
            have d0 := cell_below hSw z1; have d1 := cell_below hSw z2; have d2 := cell_below hSw y1; have d3 := cell_below hSw y2
            try dsimp only at hSw
            go_simp
            try with_reducible rfl
          try simp only [Act.put, List.setIfInBounds_toArray, List.set_cons_zero, List.set_cons_succ]
          refine wpAnyX_take (i := 1) (oi := ⟨some 52, _, _, _, _, _⟩) (v := ?_) rfl (by kernel_rfl) (by kernel_rfl) (by kernel_rfl) (by kernel_rfl) (fun _ _ _ h => h) (Or.inl ⟨by kernel_rfl, ?_⟩) hS ?_
          rotate_left
          · intro w hSw
            have d0 := cell_below hSw z1; have d1 := cell_below hSw z2; have d2 := cell_below hSw y1; have d3 := cell_below hSw y2
            try dsimp only at hSw
            go_simp
            try with_reducible rfl
          try simp only [Act.put, List.setIfInBounds_toArray, List.set_cons_zero, List.set_cons_succ]
          refine wpAnyX_take (i := 2) (oi := ⟨some 53, _, _, _, _, _⟩) (v := ?_) rfl (by kernel_rfl) (by kernel_rfl) (by kernel_rfl) (by kernel_rfl) (fun _ _ _ h => h) (Or.inl ⟨by kernel_rfl, ?_⟩) hS ?_
          rotate_left
          · intro w hSw
            have d0 := cell_below hSw z1; have d1 := cell_below hSw z2; have d2 := cell_below hSw y1; have d3 := cell_below hSw y2
            try dsimp only at hSw
            go_simp
            try with_reducible rfl
          try simp only [Act.put, List.setIfInBounds_toArray, List.set_cons_zero, List.set_cons_succ]
          refine wpAnyX_take (i := 3) (oi := ⟨some 54, _, _, _, _, _⟩) (v := ?_) rfl (by kernel_rfl) (by kernel_rfl) (by kernel_rfl) (by kernel_rfl) (fun _ _ _ h => h) (Or.inl ⟨by kernel_rfl, ?_⟩) hS ?_
          rotate_left
          · intro w hSw
            have d0 := cell_below hSw z1; have d1 := cell_below hSw z2; have d2 := cell_below hSw y1; have d3 := cell_below hSw y2
            try dsimp only at hSw
            go_simp
            try with_reducible rfl
          try simp only [Act.put, List.setIfInBounds_toArray, List.set_cons_zero, List.set_cons_succ]
          refine wpAnyX_take (i := 4) (oi := ⟨some 55, _, _, _, _, _⟩) (v := ?_) rfl (by kernel_rfl) (by kernel_rfl) (by kernel_rfl) (by kernel_rfl) (fun _ _ _ h => h) (Or.inl ⟨by kernel_rfl, ?_⟩) hS ?_
          rotate_left
          · intro w hSw
            have d0 := cell_below hSw z1; have d1 := cell_below hSw z2; have d2 := cell_below hSw y1; have d3 := cell_below hSw y2
            try dsimp only at hSw
            go_simp
            try with_reducible rfl
          try simp only [Act.put, List.setIfInBounds_toArray, List.set_cons_zero, List.set_cons_succ]
          refine wpAnyX_take (i := 5) (oi := ⟨some 56, _, _, _, _, _⟩) (v := ?_) rfl (by kernel_rfl) (by kernel_rfl) (by kernel_rfl) (by kernel_rfl) (fun _ _ _ h => h) (Or.inl ⟨by kernel_rfl, ?_⟩) hS ?_
          rotate_left
          · intro w hSw
            have d0 := cell_below hSw z1; have d1 := cell_below hSw z2; have d2 := cell_below hSw y1; have d3 := cell_below hSw y2
            try dsimp only at hSw
            go_simp
            try with_reducible rfl
          try simp only [Act.put, List.setIfInBounds_toArray, List.set_cons_zero, List.set_cons_succ]
          refine wpAnyX_take (i := 6) (oi := ⟨some 57, _, _, _, _, _⟩) (v := ?_) rfl (by kernel_rfl) (by kernel_rfl) (by kernel_rfl) (by kernel_rfl) (fun _ _ _ h => h) (Or.inl ⟨by kernel_rfl, ?_⟩) hS ?_
          rotate_left
          · intro w hSw
            have d0 := cell_below hSw z1; have d1 := cell_below hSw z2; have d2 := cell_below hSw y1; have d3 := cell_below hSw y2
            try dsimp only at hSw
            go_simp
            try with_reducible rfl
          try simp only [Act.put, List.setIfInBounds_toArray, List.set_cons_zero, List.set_cons_succ]
          refine wpAnyX_ready (rs := [7]) (by kernel_rfl) (by simp) ?_
          refine AllReadyX.cons (o := ⟨some 58, _, _, _, _, _⟩) rfl (fun K hK => ?_) AllReadyX.nil
          go_simp
          go_at_call 110
          refine (cA.out _).mono ?_
          rintro e w8 ⟨rfl, hb8⟩
          have hS0 := hS
          clear hS
          refine hK.out _ _ (fun _ => below_down hS0 hb8) (fun hS => ?_)
          replace hS := hS (by kernel_rfl)
          clear hK K hS0
          try simp only [Act.put, List.setIfInBounds_toArray, List.set_cons_zero, List.set_cons_succ]
          refine wpAnyX_take (i := 8) (oi := ⟨some 50, _, _, _, _, _⟩) (v := ?_) rfl (by kernel_rfl) (by kernel_rfl) (by kernel_rfl) (by kernel_rfl) (fun _ _ _ h => h) (Or.inl ⟨by kernel_rfl, ?_⟩) hS ?_
          rotate_left
          · intro w hSw
            have d0 := cell_below hSw z1; have d1 := cell_below hSw z2; have d2 := cell_below hSw y1; have d3 := cell_below hSw y2
            try dsimp only at hSw
            go_simp
            try with_reducible rfl
          try simp only [Act.put, List.setIfInBounds_toArray, List.set_cons_zero, List.set_cons_succ]
          refine wpAnyX_take (i := 9) (oi := ⟨some 59, _, _, _, _, _⟩) (v := ?_) rfl (by kernel_rfl) (by kernel_rfl) (by kernel_rfl) (by kernel_rfl) (fun _ _ _ h => h) (Or.inl ⟨by kernel_rfl, ?_⟩) hS ?_
          rotate_left
          · intro w hSw
            have d0 := cell_below hSw z1; have d1 := cell_below hSw z2; have d2 := cell_below hSw y1; have d3 := cell_below hSw y2
            try dsimp only at hSw
            go_simp
            try with_reducible rfl
          try simp only [Act.put, List.setIfInBounds_toArray, List.set_cons_zero, List.set_cons_succ]
          refine wpAnyX_takeB (i := 10) (oi := ⟨some 60, _, _, _, _, _⟩) (v := ?_) rfl (by kernel_rfl) (by kernel_rfl) (by kernel_rfl) (by kernel_rfl) (fun _ _ _ h => h) (Or.inl ⟨by kernel_rfl, ?_⟩) (fun _ => hS) ?_
          rotate_left
          · intro w hSw
            go_simp
            try with_reducible rfl
          try simp only [Act.put, List.setIfInBounds_toArray, List.set_cons_zero, List.set_cons_succ]
          refine wpAnyX_take (i := 11) (oi := ⟨some 61, _, _, _, _, _⟩) (v := ?_) rfl (by kernel_rfl) (by kernel_rfl) (by kernel_rfl) (by kernel_rfl) (fun _ _ _ h => h) (Or.inl ⟨by kernel_rfl, ?_⟩) hS ?_
          rotate_left
          · intro w hSw
            have d0 := cell_below hSw z1; have d1 := cell_below hSw z2; have d2 := cell_below hSw y1; have d3 := cell_below hSw y2
            try dsimp only at hSw
            go_simp
            try with_reducible rfl
          try simp only [Act.put, List.setIfInBounds_toArray, List.set_cons_zero, List.set_cons_succ]
          refine wpAnyX_ready (rs := [12]) (by kernel_rfl) (by simp) ?_
          refine AllReadyX.cons (o := ⟨none, _, _, _, _, _⟩) rfl (fun K hK => ?_) AllReadyX.nil
          have hOw := hownD.below hS
          have hBw := below_down hBD hS
          have hf0 := hOw.frozen (f * 2)
          have hf1 := hOw.frozen (f * 2 + 1)
          have x1 := (hOw.cell HX.out).1
          have x2 := (hOw.cell HX.out).2
          go_simp
          refine hK.out _ _ (fun h => absurd (h.symm.trans (by kernel_rfl : _ = true)) (by decide)) (fun _ => ?_)
          clear hK K
          try simp only [Act.put, List.setIfInBounds_toArray, List.set_cons_zero, List.set_cons_succ]
          refine wpAnyX_done (by kernel_rfl) ?_ _
          go_wp2
          go_roundw
          case rel => exact ⟨k + 1, by omega, by go_num, (hOw.set f (u1, u2)).congr HN.out.symm, (hBw.setCell hg0 _).setCell hg0 _⟩
          case measure => simp [intOf]; omega
    · obtain rfl : k = ps.length := by omega
      clear hlt
      have e : ((pl ps).zip ws).take ps.length = (pl ps).zip ws := by
        apply List.take_of_length_le
        simp [pl, ho.out.len]
      rw [e] at hown
      go_wp2
      go_ret
      exact ⟨_, _, rfl, hown, hbel⟩
end Go.Proofs.Ytiinfbjlkbjmmaa
