/-
  Draws of piles, lots, seats and steps that are often right.
-/
import Derived.Test.YtiinfbjlkbjmmaaQDrawS
namespace Go.Proofs.Ytiinfbjlkbjmmaa
open Go.ChangeShapes Go.WideShapes Go.ChangeAt Go.RowKit
set_option maxRecDepth 100000 in
theorem Dr.frozen {rb : Nat} {w w' : World} (h : Dr rb w w') {a : Addr} {v : Value} (hc : w.cell? a = some v) (hne : a.block ≠ rb) (hf : w.frozen? a = false) : w'.frozen? a = false :=
  (World.frozen?_of_block (w := w) (h.block _ (World.block_lt_of_cell? w _ hc) (by omega))).trans hf
set_option maxRecDepth 100000 in
theorem results_tmp4 {fn : Func} {t u v x : Tmp} (h : fn.results = #[.tmp t, .tmp u, .tmp v, .tmp x]) (tmps : Array Value) (P : Program) (w : World) :
    (results fn tmps).run P w = .ok (.tuple #[tmps.getD t undef, tmps.getD u undef, tmps.getD v undef, tmps.getD x undef]) w := by
  simp [results, h]
def DrawnTc (w : World) (e : Ending) (w' : World) : Prop := ∃ (A : Option Addr) (c : Nat) (ps : List (ByteArray × Int)) (B : Option Addr) (d : Nat) (ls : List Int) (s : Nat) (C : Option Addr) (c3 : Nat) (ss : List Stz),
  e = .returned (.tuple #[.slice A ps.length c, .slice B ls.length d, .int .i64 s, .slice C ss.length c3]) ∧ DrewP w w' A c ps ∧ ls.length ≤ 5 ∧ OwnI w' w.heap.size B d ls ∧ s ≤ 10 ∧ StepsZ w' C ss ∧ ss.length ≤ 5
set_option maxRecDepth 100000 in
theorem drawnTc_of {w w1 w2 w' : World} {rb c d s n c3 : Nat} {A B C : Option Addr} {ps : List (ByteArray × Int)} {ls : List Int} (h : OwnP w2 w1.heap.size A ps.length c ps) (hm : ps.length ≤ 60) (h2 : OwnN w2 w1.heap.size B ls.length d ls) (hm2 : ls.length ≤ 5) (hs : s ≤ 10) (hb : Below w.heap.size w w1) (hrb : w.heap.size ≤ rb) (hr1 : rb < w1.heap.size) (hd : Dr rb w1 w2) (hd2 : Dr rb w2 w') (hW : StepsW w' w2.heap.size C n) (hn : n ≤ 5) :
    DrawnTc w (.returned (.tuple #[.slice A ps.length c, .slice B ls.length d, .int .i64 s, .slice C n c3])) w' := by
  obtain ⟨ss, rfl, hz⟩ := hW.z
  obtain ⟨_, h4⟩ := drewP_of (h.dr hd2 hr1) hm hb hrb (hd.trans hd2) (Nat.le_refl _)
  obtain ⟨_, h5⟩ := h2
  exact ⟨A, c, ps, B, d, ls, s, C, c3, ss, rfl, h4, hm2, (h5.dr hd2 hr1).mono hb.size, hs, hz, hn⟩
set_option maxRecDepth 100000 in
set_option maxHeartbeats 6400000 in
theorem drawTransferCheck_any (A : Option Addr) (n c : Nat) (w : World) (h : BytsA w A n c) : Calls Try.prog 35 #[.slice A n c] w (DrawnTc w) := by
  go_enter Try.func35, Try.ntmps35
  go_wp2_with fail
  refine (l6Open_any _ _ _ _ h.read h.len h.cap).mono ?_
  rintro e w1 ⟨rb, rfl, hrb, hrd1, hb1⟩
  have hr1 := hrd1.lt
  go_wp2_with fail
  refine (l93Transfer_any rb 0 _ hrd1 (by omega)).mono ?_
  rintro e w2 ⟨A2, m2, c2, ps, B, d, k2, ls, s, p2, rfl, hm2, hown2, hk2, hl2, hs2, hp2, hrd2, hdr2⟩
  obtain rfl := hown2.len
  obtain ⟨rfl, hl3⟩ := id hl2
  have cT := Lib.hid (specTransferSteps_any A2 B ps ls c2 d s w2 hown2.piles hl3.ints (by omega) (by omega) hl3.le_cap)
  obtain ⟨hs1, hs5⟩ := tr_small ps ls s
  have hp1 := tr_pos ps ls s
  obtain ⟨⟨rs, b⟩, hr⟩ : ∃ r, r = trF ps ls s := ⟨_, rfl⟩
  rw [← hr] at cT hs1 hs5 hp1
  clear hr
  have HEND := Lib.hid (fun (w' : World) (n : Nat) (C : Option Addr) (c3 : Nat) (hd : Dr rb w2 w') (hW : StepsW w' w2.heap.size C n) (hn : n ≤ 5) => drawnTc_of (c3 := c3) hown2 hm2 hl2 hk2 hs2 hb1 hrb hr1 hdr2 hd hW hn)
  have hs1 : rs.length ≤ 5 := hs1
  have H5 := Lib.hid hs5
  have H1 := Lib.hid hp1
  clear hs5 hp1
  go_wp2_with fail
  refine cT.out.mono ?_
  rintro e w3 ⟨C, c3, vs, rfl, ho, ev, hb3⟩
  have ev : vs.map sp = rs := ev
  have hcap := ho.le_cap
  have hW := ho.weak (fun v hv => by
    have hm : sp v ∈ rs := by rw [← ev]; exact List.mem_map_of_mem hv
    have q1 := H5.out _ hm
    have q2 := H1.out _ hm
    have q3 : v.2.2.1.length ≤ 5 := q1
    exact ⟨q2, by omega⟩)
  have hz2 := hdr2.size
  have hrl : rb < w2.heap.size := by omega
  have hD : Dr rb w2 w3 := (Dr.refl rb w2).below hb3
  have hR := hrd2.below hb3
  clear ho ev hb3 cT H5 H1 hown2 hl2 hl3 hdr2 hrd2 hrd1 hb1 h hm2 hk2 hs2
  obtain ⟨n, hn⟩ : ∃ n, n = rs.length := ⟨_, rfl⟩
  rw [← hn] at hs1 hcap hW ⊢
  clear hn
  by_cases hn : 0 < n
  · go_wp2_with fail
    refine (pick_n rb p2 _ _ hR (by omega) (by omega) (by omega)).mono ?_
    rintro e w4 ⟨k, hk, rfl, hR, hD'⟩
    have hW := hW.dr hD' hrl
    have hD := hD.trans hD'
    go_wp2_with fail
    refine (pick_n rb _ _ _ hR (by omega) (by omega) (by omega)).mono ?_
    rintro e w5 ⟨q, hq, rfl, hR, hD'⟩
    have hW := hW.dr hD' hrl
    have hD := hD.trans hD'
    have hk0 : (0 : Int) ≤ (k : Int) := by omega
    by_cases h0 : q = 0
    · subst h0
      go_wp2_with fail
      refine (pick_n rb _ _ _ hR (by omega) (by omega) (by omega)).mono ?_
      rintro e w6 ⟨u, hu, rfl, hR, hD'⟩
      have hW := hW.dr hD' hrl
      have hD := hD.trans hD'
      obtain ⟨g, rfl, hlo, hfz, hcl⟩ := hW.read hn
      obtain ⟨gb, l, c9, o, t, l0, l1, l2, h1, h2, h3, h4, h5, h6⟩ := hcl k (by omega)
      have f1 := hfz (k * 3 + 1)
      clear hcl
      go_wp2
      (try simp only [Exit.inBlock, Exit.then]); refine bodyPost_ret (results_tmp4 rfl _ _ _) rfl ?_
      exact HEND.out _ _ _ _ (hD.setCell (by exact hlo) _) (hW.setInt h2) hs1
    · have hb0 : ((q : Int) == 0) = false := by simp; omega
      by_cases h1 : q = 1
      · subst h1
        go_wp2_with fail
        refine (pick_n rb _ _ _ hR (by omega) (by omega) (by omega)).mono ?_
        rintro e w6 ⟨u, hu, rfl, hR, hD'⟩
        have hW := hW.dr hD' hrl
        have hD := hD.trans hD'
        obtain ⟨g, rfl, hlo, hfz, hcl⟩ := hW.read hn
        obtain ⟨gb, l, c9, o, t, l0, l1, l2, h1, h2, h3, h4, h5, h6⟩ := hcl k (by omega)
        have f1 := hfz (k * 3 + 2)
        clear hcl
        go_wp2
        (try simp only [Exit.inBlock, Exit.then]); refine bodyPost_ret (results_tmp4 rfl _ _ _) rfl ?_
        exact HEND.out _ _ _ _ (hD.setCell (by exact hlo) _) (hW.setInt h3) hs1
      · have hb1 : ((q : Int) == 1) = false := by simp; omega
        by_cases h2 : q = 2
        · subst h2
          obtain ⟨g, rfl, hlo, hfz, hcl⟩ := hW.read hn
          clear hcl hfz
          have hkc : (k : Int) ≤ (c3 : Int) := by omega
          have hkn : k ≤ n := by omega
          go_wp2
          (try simp only [Exit.inBlock, Exit.then]); refine bodyPost_ret (results_tmp4 rfl _ _ _) rfl ?_
          exact HEND.out _ _ _ _ hD (hW.take hkn) (by omega)
        · have hb2 : ((q : Int) == 2) = false := by simp; omega
          by_cases h3 : q = 3
          · subst h3
            obtain ⟨g, rfl, hlo, hfz, hcl⟩ := hW.read hn
            obtain ⟨gb, l, c9, o, t, l0, l1, l2, z1, z2, z3, z4, z5, z6⟩ := hcl k (by omega)
            obtain ⟨x0, hx0⟩ := z6 0 (by omega)
            obtain ⟨x1, hx1⟩ := z6 1 (by omega)
            have f0 := z5 0
            have f1 := z5 1
            have hl0 : 0 < l := by omega
            have hW := hW.drew
            have hD := hD.drew
            have hR := hR.drew
            have hkn : (k : Int) < (n : Int) := by omega
            clear hcl hfz
            go_wp2
            refine wp_region_X (fun w' => w'.cell? ⟨g, k * 3, none⟩ = some (.slice (some ⟨gb, 0, none⟩) l c9) ∧ StepsW w' w2.heap.size (some ⟨g, 0, none⟩) n ∧ Dr rb w2 w' ∧ w'.cell? ⟨gb, 0, none⟩ = some (.int .i64 x0) ∧ w'.cell? ⟨gb, 1, none⟩ = some (.int .i64 x1) ∧ w'.frozen? ⟨gb, 0, none⟩ = false ∧ w'.frozen? ⟨gb, 1, none⟩ = false) 8 (by kernel_rfl) ?_ (fun hS => ?_)
            · exact ⟨cell_drew z1, hW, hD, cell_drew hx0, cell_drew hx1, f0, f1⟩
            refine wpAnyX_take (i := 0) (oi := ⟨some 61, _, _, _, _, _⟩) (v := ?_) rfl (by kernel_rfl) (by kernel_rfl) (by kernel_rfl) (by kernel_rfl) (fun _ _ _ h => h) (Or.inl ⟨by kernel_rfl, ?_⟩) hS ?_
            rotate_left
            · intro w hSw
              try dsimp only at hSw
              go_simp
              try with_reducible rfl
            try simp only [Act.put, List.setIfInBounds_toArray, List.set_cons_zero, List.set_cons_succ]
            refine wpAnyX_take (i := 1) (oi := ⟨some 62, _, _, _, _, _⟩) (v := ?_) rfl (by kernel_rfl) (by kernel_rfl) (by kernel_rfl) (by kernel_rfl) (fun _ _ _ h => h) (Or.inl ⟨by kernel_rfl, ?_⟩) hS ?_
            rotate_left
            · intro w hSw
              try dsimp only at hSw
              go_simp
              try with_reducible rfl
            try simp only [Act.put, List.setIfInBounds_toArray, List.set_cons_zero, List.set_cons_succ]
            refine wpAnyX_take (i := 2) (oi := ⟨some 63, _, _, _, _, _⟩) (v := ?_) rfl (by kernel_rfl) (by kernel_rfl) (by kernel_rfl) (by kernel_rfl) (fun _ _ _ h => h) (Or.inl ⟨by kernel_rfl, ?_⟩) hS ?_
            rotate_left
            · intro w hSw
              try dsimp only at hSw
              go_simp
              try with_reducible rfl
            try simp only [Act.put, List.setIfInBounds_toArray, List.set_cons_zero, List.set_cons_succ]
            refine wpAnyX_take (i := 3) (oi := ⟨some 64, _, _, _, _, _⟩) (v := ?_) rfl (by kernel_rfl) (by kernel_rfl) (by kernel_rfl) (by kernel_rfl) (fun _ _ _ h => h) (Or.inl ⟨by kernel_rfl, ?_⟩) hS ?_
            rotate_left
            · intro w hSw
              try dsimp only at hSw
              go_simp
              try with_reducible rfl
            try simp only [Act.put, List.setIfInBounds_toArray, List.set_cons_zero, List.set_cons_succ]
            refine wpAnyX_take (i := 4) (oi := ⟨some 65, _, _, _, _, _⟩) (v := ?_) rfl (by kernel_rfl) (by kernel_rfl) (by kernel_rfl) (by kernel_rfl) (fun _ _ _ h => h) (Or.inl ⟨by kernel_rfl, ?_⟩) hS ?_
            rotate_left
            · intro w hSw
              try dsimp only at hSw
              go_simp
              try with_reducible rfl
            try simp only [Act.put, List.setIfInBounds_toArray, List.set_cons_zero, List.set_cons_succ]
            refine wpAnyX_take (i := 5) (oi := ⟨some 66, _, _, _, _, _⟩) (v := ?_) rfl (by kernel_rfl) (by kernel_rfl) (by kernel_rfl) (by kernel_rfl) (fun _ _ _ h => h) (Or.inl ⟨by kernel_rfl, ?_⟩) hS ?_
            rotate_left
            · intro w hSw
              try dsimp only at hSw
              go_simp
              try with_reducible rfl
            try simp only [Act.put, List.setIfInBounds_toArray, List.set_cons_zero, List.set_cons_succ]
            refine wpAnyX_ready (rs := [6]) (by kernel_rfl) (by simp) ?_
            refine AllReadyX.cons (o := ⟨some 67, _, _, _, _, _⟩) rfl (fun K hK => ?_) AllReadyX.nil
            go_simp
            (go_at_call 68; refine (l93Frac_any rb _ _ hR (by omega)).mono ?_; rintro e w7 ⟨a, b, p', rfl, hp', hR7, hD7⟩)
            have hS0 := hS
            clear hS
            refine hK.out _ _ (fun _ => ⟨hD7.cell hS0.1 (by show g ≠ rb; omega), hS0.2.1.dr hD7 hrl, hS0.2.2.1.trans hD7, hD7.cell hS0.2.2.2.1 (by show gb ≠ rb; omega), hD7.cell hS0.2.2.2.2.1 (by show gb ≠ rb; omega), hD7.frozen hS0.2.2.2.1 (by show gb ≠ rb; omega) hS0.2.2.2.2.2.1, hD7.frozen hS0.2.2.2.2.1 (by show gb ≠ rb; omega) hS0.2.2.2.2.2.2⟩) (fun hS => ?_)
            replace hS := hS (by kernel_rfl)
            clear hK K hS0
            try simp only [Act.put, List.setIfInBounds_toArray, List.set_cons_zero, List.set_cons_succ]
            refine wpAnyX_take (i := 7) (oi := ⟨some 68, _, _, _, _, _⟩) (v := ?_) rfl (by kernel_rfl) (by kernel_rfl) (by kernel_rfl) (by kernel_rfl) (fun _ _ _ h => h) (Or.inl ⟨by kernel_rfl, ?_⟩) hS ?_
            rotate_left
            · intro w hSw
              try dsimp only at hSw
              go_simp
              try with_reducible rfl
            try simp only [Act.put, List.setIfInBounds_toArray, List.set_cons_zero, List.set_cons_succ]
            refine wpAnyX_ready (rs := [8]) (by kernel_rfl) (by simp) ?_
            refine AllReadyX.cons (o := ⟨none, _, _, _, _, _⟩) rfl (fun K hK => ?_) AllReadyX.nil
            (have y0 := hS.2.2.2.1; have y1 := hS.2.2.2.2.1; have g0 := hS.2.2.2.2.2.1; have g1 := hS.2.2.2.2.2.2; have hW9 := hS.2.1; have hD9 := hS.2.2.1)
            go_simp
            refine hK.out _ _ (fun h => absurd (h.symm.trans (by kernel_rfl : _ = true)) (by decide)) (fun _ => ?_)
            clear hK K
            try simp only [Act.put, List.setIfInBounds_toArray, List.set_cons_zero, List.set_cons_succ]
            refine wpAnyX_done (by kernel_rfl) ?_ _
            go_wp2
            (try simp only [Exit.inBlock, Exit.then]); refine bodyPost_ret (results_tmp4 rfl _ _ _) rfl ?_
            exact HEND.out _ _ _ _ ((hD9.setCell (by exact z4) _).setCell (by exact z4) _) ((hW9.setInt y0).setInt (int_setInt y0 y1).choose_spec) hs1
          · have hb3 : ((q : Int) == 3) = false := by simp; omega
            go_wp2
            (try simp only [Exit.inBlock, Exit.then]); refine bodyPost_ret (results_tmp4 rfl _ _ _) rfl ?_
            exact HEND.out _ _ _ _ hD hW hs1
  · obtain rfl : n = 0 := by omega
    go_wp2
    (try simp only [Exit.inBlock, Exit.then]); refine bodyPost_ret (results_tmp4 rfl _ _ _) rfl ?_
    exact HEND.out _ _ _ _ hD hW hs1
end Go.Proofs.Ytiinfbjlkbjmmaa
