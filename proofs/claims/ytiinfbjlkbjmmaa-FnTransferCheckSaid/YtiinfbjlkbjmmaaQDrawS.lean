/-
  Draws of any fraction.
-/
import Derived.Test.YtiinfbjlkbjmmaaQDrawW
import Derived.Test.YtiinfbjlkbjmmaaQHeld
namespace Go.Proofs.Ytiinfbjlkbjmmaa
open Go.ChangeShapes Go.WideShapes Go.ChangeAt Go.RowKit
set_option maxRecDepth 100000 in
theorem wpAnyX_strong {P : Program} {md : Region.Mode} {ops : Array Oper} {Q : Exit → Act → World → Prop} {L : Nat} {S : World → Prop} (S' : World → Prop) (h : ∀ w, S' w → S w) : ∀ (fuel : Nat) (listed : Array Bool) (a : Act) (w : World), wpAnyX P md ops Q S' L fuel listed a w → wpAnyX P md ops Q S L fuel listed a w
  | 0, _, _, _, H => H
  | fuel + 1, _, _, _, H => ⟨H.1, fun i hi => wpOp_mono (fun a' w' h' => ⟨fun hl => h w' (h'.1 hl), wpAnyX_strong S' h fuel _ a' w' h'.2⟩) (H.2 i hi)⟩
set_option maxRecDepth 100000 in
set_option maxHeartbeats 1600000 in
theorem l5Of_some (x : Int) (y : Nat) (w : World) (hx0 : -1000 ≤ x) (hx1 : x ≤ 1000) (hy : y ≤ 1000) (hy0 : 0 < y) : Calls Try.prog 98 #[.int .i64 x, .int .i64 y] w (fun e w' => ∃ a b : Int, e = .returned (.agg #[.int .i64 a, .int .i64 b]) ∧ Below w.heap.size w w') := by
  by_cases hx : 0 ≤ x
  · obtain ⟨n, rfl⟩ := Int.eq_ofNat_of_zero_le hx
    exact (l5Of_any n y w (by omega) (by omega) hy0).mono fun e w' ⟨h1, h2⟩ => ⟨_, _, h1, h2⟩
  obtain ⟨n, hn, hn1, hn2⟩ : ∃ n : Nat, 0 - x = (n : Int) ∧ 1 ≤ n ∧ n ≤ 1000 := ⟨(0 - x).toNat, by omega, by omega, by omega⟩
  have hmx : max x (n : Int) = (n : Int) := by omega
  obtain ⟨G, hG⟩ : ∃ G, G = Nat.gcd n y := ⟨_, rfl⟩
  have hG0 : 0 < G := by rw [hG]; exact Nat.gcd_pos_of_pos_right _ hy0
  have cG := Lib.hid (fun (w : World) => l5Gcd_any n y w (by omega) (by omega))
  rw [← hG] at cG
  clear hG
  obtain ⟨d1, t1, hd1⟩ : ∃ d1 : Int, Int.tdiv x (G : Int) = d1 ∧ (-1000 ≤ d1 ∧ d1 ≤ 1000) := by
    refine ⟨_, rfl, ?_⟩
    have e : x = -(n : Int) := by omega
    rw [e, Int.neg_tdiv]
    obtain ⟨d, ed, hd, _⟩ := tdiv_nat n G
    rw [ed]
    omega
  obtain ⟨d2, t2, hd2, e2⟩ := tdiv_nat y G
  have q1 : IntKind.i64.wrap d1 = d1 := IntWalk.i64_in _ (by omega)
  have q2 : IntKind.i64.wrap (d2 : Int) = d2 := IntWalk.i64_in _ (by omega)
  have hgz : ¬(G : Int) = 0 := by omega
  have hgz2 : ¬G = 0 := by omega
  clear hx
  go_enter Try.func98, Try.ntmps98
  go_wp2_with (go_at_call 121; refine (cG.out _).mono ?_; rintro e w1 ⟨rfl, rfl⟩)
  refine wp_still_tail 7 (by kernel_rfl) (by kernel_rfl) ?_
  simp only [List.take_succ_cons, List.take_zero, List.drop_succ_cons, List.drop_zero]
  repeat still_step
  refine wpStill_nil ?_
  go_wp2
  (try simp only [Exit.inBlock, Exit.then])
  refine bodyPost_ret (v := .agg #[.int .i64 d1, .int .i64 d2]) ?_ rfl ⟨_, _, rfl, ?_⟩
  · simp [results, Try.f98]
    go_simp
  · exact ((Below.refl _ _).alloc (Nat.le_refl _) _).drew
def PickF (w : World) (rb p : Nat) (e : Ending) (w' : World) : Prop := ∃ (a b : Int) (p' : Nat), e = .returned (.agg #[.int .i64 a, .int .i64 b]) ∧ p' ≤ p + 5 ∧ Rd w' rb p' ∧ Dr rb w w'
set_option maxRecDepth 100000 in
theorem Ob.dr {w w' : World} {k rb : Nat} {cs : Array Value} {t : TypeId} (h : Ob w k cs t) (hd : Dr rb w w') (hne : k ≠ rb) : Ob w' k cs t := (hd.block k h.lt (by omega)).trans h
set_option maxRecDepth 100000 in
theorem ob_pick3 {w : World} {g q : Nat} {x y z : Int} {t : TypeId} (h : Ob w g #[.int .i64 x, .int .i64 y, .int .i64 z] t) (hq : q < 3) : ∃ u : Int, w.cell? ⟨g, q, none⟩ = some (.int .i64 u) := by
  rcases (show q = 0 ∨ q = 1 ∨ q = 2 by omega) with rfl | rfl | rfl
  · exact ⟨_, h.cell 0 rfl⟩
  · exact ⟨_, h.cell 1 rfl⟩
  · exact ⟨_, h.cell 2 rfl⟩
set_option maxRecDepth 100000 in
theorem pickF_end {w w' : World} {rb ob p p' : Nat} {a b : Int} (hR : Rd w' rb p') (hD : Dr rb w w') (hp : p' ≤ p + 5) (hwob : w.heap.size ≤ ob) (hne : rb < ob) (u v : Value) : PickF w rb p (.returned (.agg #[.int .i64 a, .int .i64 b])) ((w'.setCell ⟨ob, 0, none⟩ u).setCell ⟨ob, 1, none⟩ v) :=
  ⟨a, b, p', rfl, hp, (hR.setCell (by exact hne) _).setCell (by exact hne) _, (hD.setCell (by exact hwob) _).setCell (by exact hwob) _⟩
set_option maxRecDepth 100000 in
set_option maxHeartbeats 6400000 in
theorem l93Frac_any (rb p : Nat) (w : World) (h : Rd w rb p) (hp : p ≤ 100000) : Calls Try.prog 68 #[.pointer (some ⟨rb, 0, none⟩)] w (PickF w rb p) := by
  have hrb := h.lt
  go_enter Try.func68, Try.ntmps68
  go_wp2_with fail
  refine (pick_n rb p _ _ (h.alloc _) (by omega) (by omega) (by omega)).mono ?_
  rintro e w2 ⟨q0, hq0, rfl, hR, hD'⟩
  have hD := ((Dr.refl rb w).alloc (.cells #[.int .i64 0, .int .i64 0] 75)).trans hD'
  have hO := (ob0 w #[.int .i64 0, .int .i64 0] 75).dr hD' (by omega)
  generalize hob : w.heap.size = ob at hO ⊢
  have hne : rb < ob := by omega
  have hwob : w.heap.size ≤ ob := by omega
  clear hob hD'
  by_cases h0 : q0 = 0
  · subst h0
    go_wp2_with fail
    refine (pick_n rb _ _ _ hR (by omega) (by omega) (by omega)).mono ?_
    rintro e w3 ⟨q1, hq1, rfl, hR, hD'⟩
    have hD := hD.trans hD'
    have hO := hO.dr hD' (by omega)
    go_wp2_with fail
    refine (pick_n rb _ _ _ hR (by omega) (by omega) (by omega)).mono ?_
    rintro e w4 ⟨q2, hq2, rfl, hR, hD'⟩
    have hD := hD.trans hD'
    have hO := hO.dr hD' (by omega)
    have k0 := hO.cell 0 rfl
    have k1 := hO.cell 1 rfl
    have f0 := hO.fz 0
    have f1 := hO.fz 1
    go_wp2
    (try simp only [Exit.inBlock, Exit.then])
    refine bodyPost_ret (v := .agg #[.int .i64 q1, .int .i64 q2]) ?_ rfl (pickF_end hR hD (by omega) hwob hne _ _)
    simp [results, Try.f68]
    go_simp
  · have hb0 : ((q0 : Int) == 0) = false := by simp; omega
    by_cases h1 : q0 = 1
    · subst h1
      have hR := hR.drew
      have hD := hD.drew
      have hO := hO.drew
      go_wp2
      refine wp_region_X (fun _ => True) 1000 (by kernel_rfl) trivial (fun hS => ?_)
      generalize w2.drew = wc at *
      refine wpAnyX_take (i := 1) (oi := ⟨some 16, _, _, _, _, _⟩) (v := ?_) rfl (by kernel_rfl) (by kernel_rfl) (by kernel_rfl) (by kernel_rfl) (fun _ _ _ h => h) (Or.inl ⟨by kernel_rfl, ?_⟩) hS ?_
      rotate_left
      · intro w hSw
        try dsimp only at hSw
        go_simp
        try with_reducible rfl
      try simp only [Act.put, List.setIfInBounds_toArray, List.set_cons_zero, List.set_cons_succ]
      refine wpAnyX_take (i := 6) (oi := ⟨some 21, _, _, _, _, _⟩) (v := ?_) rfl (by kernel_rfl) (by kernel_rfl) (by kernel_rfl) (by kernel_rfl) (fun _ _ _ h => h) (Or.inl ⟨by kernel_rfl, ?_⟩) hS ?_
      rotate_left
      · intro w hSw
        try dsimp only at hSw
        go_simp
        try with_reducible rfl
      try simp only [Act.put, List.setIfInBounds_toArray, List.set_cons_zero, List.set_cons_succ]
      refine wpAnyX_ready (rs := [0, 2, 5]) (by kernel_rfl) (by simp) ?_
      refine AllReadyX.cons (o := ⟨some 15, _, _, _, _, _⟩) rfl (fun K hK => ?_) (AllReadyX.cons (o := ⟨some 17, _, _, _, _, _⟩) rfl (fun K hK => ?_) (AllReadyX.cons (o := ⟨some 20, _, _, _, _, _⟩) rfl (fun K hK => ?_) AllReadyX.nil))
      · go_simp
        have hb := (Below.refl wc.heap.size wc).alloc (Nat.le_refl _) (.cells #[.int .i64 9999999, .int .i64 (-9999999), .int .i64 10000000] 3)
        have hX := ob0 wc #[.int .i64 9999999, .int .i64 (-9999999), .int .i64 10000000] 3
        have hg1 : rb < wc.heap.size := hR.lt
        have hg1o : ob < wc.heap.size := hO.lt
        have hD := hD.below (hb.mono hD.size)
        have hO := hO.below hb
        have hR := hR.below hb
        have hS0 := hS
        clear hS
        refine hK.out _ _ (fun _ => trivial) (fun hS => ?_)
        replace hS := hS (by kernel_rfl)
        clear hK K hS0
        try simp only [Act.put, List.setIfInBounds_toArray, List.set_cons_zero, List.set_cons_succ]
        clear hb
        generalize wc.alloc (.cells #[.int .i64 9999999, .int .i64 (-9999999), .int .i64 10000000] 3) = v1 at *
        generalize wc.heap.size = g1 at *
        refine wpAnyX_ready (rs := [2, 5]) (by kernel_rfl) (by simp) ?_
        refine AllReadyX.cons (o := ⟨some 17, _, _, _, _, _⟩) rfl (fun K hK => ?_) (AllReadyX.cons (o := ⟨some 20, _, _, _, _, _⟩) rfl (fun K hK => ?_) AllReadyX.nil)
        · go_simp
          go_at_call 67
          refine (pick_n rb _ _ _ hR (by omega) (by omega) (by omega)).mono ?_
          rintro e v2 ⟨q1, hq1, rfl, hR, hD'⟩
          have hD := hD.trans hD'
          have hO := hO.dr hD' (by omega)
          have hq10 : (0 : Int) ≤ (q1 : Int) := by omega
          have hX := hX.dr hD' (by omega)
          have hS0 := hS
          clear hS
          refine hK.out _ _ (fun _ => trivial) (fun hS => ?_)
          replace hS := hS (by kernel_rfl)
          clear hK K hS0
          try simp only [Act.put, List.setIfInBounds_toArray, List.set_cons_zero, List.set_cons_succ]
          clear hD'
          obtain ⟨z1, hz1⟩ := ob_pick3 hX (show q1 < 3 by omega)
          refine wpAnyX_strong (fun w' => True ∧ w'.cell? ⟨g1, q1, none⟩ = some (.int .i64 z1)) (fun _ h => h.1) _ _ _ _ ?_
          replace hS := And.intro hS hz1
          refine wpAnyX_take (i := 3) (oi := ⟨some 18, _, _, _, _, _⟩) (v := ?_) rfl (by kernel_rfl) (by kernel_rfl) (by kernel_rfl) (by kernel_rfl) (fun _ _ _ h => h) (Or.inl ⟨by kernel_rfl, ?_⟩) hS ?_
          rotate_left
          · intro w hSw
            try dsimp only at hSw
            go_simp
            try with_reducible rfl
          try simp only [Act.put, List.setIfInBounds_toArray, List.set_cons_zero, List.set_cons_succ]
          refine wpAnyX_take (i := 4) (oi := ⟨some 19, _, _, _, _, _⟩) (v := ?_) rfl (by kernel_rfl) (by kernel_rfl) (by kernel_rfl) (by kernel_rfl) (fun _ _ _ h => h) (Or.inl ⟨by kernel_rfl, ?_⟩) hS ?_
          rotate_left
          · intro w hSw
            try dsimp only at hSw
            go_simp
            try with_reducible rfl
          try simp only [Act.put, List.setIfInBounds_toArray, List.set_cons_zero, List.set_cons_succ]
          refine wpAnyX_ready (rs := [5, 7]) (by kernel_rfl) (by simp) ?_
          refine AllReadyX.cons (o := ⟨some 20, _, _, _, _, _⟩) rfl (fun K hK => ?_) (AllReadyX.cons (o := ⟨some 22, _, _, _, _, _⟩) rfl (fun K hK => ?_) AllReadyX.nil)
          · go_simp
            have hb := (Below.refl v2.heap.size v2).alloc (Nat.le_refl _) (.cells #[.int .i64 1, .int .i64 10, .int .i64 9999999] 3)
            have hY := ob0 v2 #[.int .i64 1, .int .i64 10, .int .i64 9999999] 3
            have hg2 : rb < v2.heap.size := hR.lt
            have hg2o : ob < v2.heap.size := hO.lt
            have hD := hD.below (hb.mono hD.size)
            have hO := hO.below hb
            have hR := hR.below hb
            have hX := hX.below hb
            have hS0 := hS
            clear hS
            refine hK.out _ _ (fun _ => ⟨trivial, cell_below hb hS0.2⟩) (fun hS => ?_)
            replace hS := hS (by kernel_rfl)
            clear hK K hS0
            try simp only [Act.put, List.setIfInBounds_toArray, List.set_cons_zero, List.set_cons_succ]
            clear hb
            generalize v2.alloc (.cells #[.int .i64 1, .int .i64 10, .int .i64 9999999] 3) = v3 at *
            generalize v2.heap.size = g2 at *
            refine wpAnyX_ready (rs := [7]) (by kernel_rfl) (by simp) ?_
            refine AllReadyX.cons (o := ⟨some 22, _, _, _, _, _⟩) rfl (fun K hK => ?_) AllReadyX.nil
            · go_simp
              go_at_call 67
              refine (pick_n rb _ _ _ hR (by omega) (by omega) (by omega)).mono ?_
              rintro e v4 ⟨q2, hq2, rfl, hR, hD'⟩
              have hD := hD.trans hD'
              have hO := hO.dr hD' (by omega)
              have hq20 : (0 : Int) ≤ (q2 : Int) := by omega
              have hX := hX.dr hD' (by omega)
              have hY := hY.dr hD' (by omega)
              have hS0 := hS
              clear hS
              refine hK.out _ _ (fun _ => ⟨trivial, hD'.cell hS0.2 (show g1 ≠ rb by omega)⟩) (fun hS => ?_)
              replace hS := hS (by kernel_rfl)
              clear hK K hS0
              try simp only [Act.put, List.setIfInBounds_toArray, List.set_cons_zero, List.set_cons_succ]
              clear hD'
              obtain ⟨z2, hz2⟩ := ob_pick3 hY (show q2 < 3 by omega)
              refine wpAnyX_strong (fun w' => (True ∧ w'.cell? ⟨g1, q1, none⟩ = some (.int .i64 z1)) ∧ w'.cell? ⟨g2, q2, none⟩ = some (.int .i64 z2)) (fun _ h => h.1) _ _ _ _ ?_
              replace hS := And.intro hS hz2
              refine wpAnyX_take (i := 8) (oi := ⟨some 23, _, _, _, _, _⟩) (v := ?_) rfl (by kernel_rfl) (by kernel_rfl) (by kernel_rfl) (by kernel_rfl) (fun _ _ _ h => h) (Or.inl ⟨by kernel_rfl, ?_⟩) hS ?_
              rotate_left
              · intro w hSw
                try dsimp only at hSw
                go_simp
                try with_reducible rfl
              try simp only [Act.put, List.setIfInBounds_toArray, List.set_cons_zero, List.set_cons_succ]
              refine wpAnyX_take (i := 9) (oi := ⟨some 24, _, _, _, _, _⟩) (v := ?_) rfl (by kernel_rfl) (by kernel_rfl) (by kernel_rfl) (by kernel_rfl) (fun _ _ _ h => h) (Or.inl ⟨by kernel_rfl, ?_⟩) hS ?_
              rotate_left
              · intro w hSw
                try dsimp only at hSw
                go_simp
                try with_reducible rfl
              try simp only [Act.put, List.setIfInBounds_toArray, List.set_cons_zero, List.set_cons_succ]
              refine wpAnyX_take (i := 10) (oi := ⟨some 25, _, _, _, _, _⟩) (v := ?_) rfl (by kernel_rfl) (by kernel_rfl) (by kernel_rfl) (by kernel_rfl) (fun _ _ _ h => h) (Or.inl ⟨by kernel_rfl, ?_⟩) hS ?_
              rotate_left
              · intro w hSw
                try dsimp only at hSw
                go_simp
                try with_reducible rfl
              try simp only [Act.put, List.setIfInBounds_toArray, List.set_cons_zero, List.set_cons_succ]
              have k0 := hO.cell 0 rfl
              have k1 := hO.cell 1 rfl
              have f0 := hO.fz 0
              have f1 := hO.fz 1
              refine wpAnyX_ready (rs := [11]) (by kernel_rfl) (by simp) ?_
              refine AllReadyX.cons (o := ⟨none, _, _, _, _, _⟩) rfl (fun K hK => ?_) AllReadyX.nil
              go_simp
              have hS0 := hS
              clear hS
              refine hK.out _ _ (fun _ => ⟨⟨trivial, cell_farS (cell_farS hS0.1.2 (show ob ≠ g1 by omega)) (show ob ≠ g1 by omega)⟩, cell_farS (cell_farS hS0.2 (show ob ≠ g2 by omega)) (show ob ≠ g2 by omega)⟩) (fun hS => ?_)
              clear hS hK K hS0
              try simp only [Act.put, List.setIfInBounds_toArray, List.set_cons_zero, List.set_cons_succ]
              refine wpAnyX_done (by kernel_rfl) ?_ _
              go_wp2
              (try simp only [Exit.inBlock, Exit.then])
              refine bodyPost_ret (v := .agg #[.int .i64 z1, .int .i64 z2]) ?_ rfl (pickF_end hR hD (by omega) hwob hne _ _)
              simp [results, Try.f68]
              go_simp
          · go_simp
            go_at_call 67
            refine (pick_n rb _ _ _ hR (by omega) (by omega) (by omega)).mono ?_
            rintro e v5 ⟨q2, hq2, rfl, hR, hD'⟩
            have hD := hD.trans hD'
            have hO := hO.dr hD' (by omega)
            have hq20 : (0 : Int) ≤ (q2 : Int) := by omega
            have hX := hX.dr hD' (by omega)
            have hS0 := hS
            clear hS
            refine hK.out _ _ (fun _ => ⟨trivial, hD'.cell hS0.2 (show g1 ≠ rb by omega)⟩) (fun hS => ?_)
            replace hS := hS (by kernel_rfl)
            clear hK K hS0
            try simp only [Act.put, List.setIfInBounds_toArray, List.set_cons_zero, List.set_cons_succ]
            clear hD'
            refine wpAnyX_ready (rs := [5]) (by kernel_rfl) (by simp) ?_
            refine AllReadyX.cons (o := ⟨some 20, _, _, _, _, _⟩) rfl (fun K hK => ?_) AllReadyX.nil
            · go_simp
              have hb := (Below.refl v5.heap.size v5).alloc (Nat.le_refl _) (.cells #[.int .i64 1, .int .i64 10, .int .i64 9999999] 3)
              have hY := ob0 v5 #[.int .i64 1, .int .i64 10, .int .i64 9999999] 3
              have hg2 : rb < v5.heap.size := hR.lt
              have hg2o : ob < v5.heap.size := hO.lt
              have hD := hD.below (hb.mono hD.size)
              have hO := hO.below hb
              have hR := hR.below hb
              have hX := hX.below hb
              have hS0 := hS
              clear hS
              refine hK.out _ _ (fun _ => ⟨trivial, cell_below hb hS0.2⟩) (fun hS => ?_)
              replace hS := hS (by kernel_rfl)
              clear hK K hS0
              try simp only [Act.put, List.setIfInBounds_toArray, List.set_cons_zero, List.set_cons_succ]
              clear hb
              generalize v5.alloc (.cells #[.int .i64 1, .int .i64 10, .int .i64 9999999] 3) = v6 at *
              generalize v5.heap.size = g2 at *
              obtain ⟨z2, hz2⟩ := ob_pick3 hY (show q2 < 3 by omega)
              refine wpAnyX_strong (fun w' => (True ∧ w'.cell? ⟨g1, q1, none⟩ = some (.int .i64 z1)) ∧ w'.cell? ⟨g2, q2, none⟩ = some (.int .i64 z2)) (fun _ h => h.1) _ _ _ _ ?_
              replace hS := And.intro hS hz2
              refine wpAnyX_take (i := 8) (oi := ⟨some 23, _, _, _, _, _⟩) (v := ?_) rfl (by kernel_rfl) (by kernel_rfl) (by kernel_rfl) (by kernel_rfl) (fun _ _ _ h => h) (Or.inl ⟨by kernel_rfl, ?_⟩) hS ?_
              rotate_left
              · intro w hSw
                try dsimp only at hSw
                go_simp
                try with_reducible rfl
              try simp only [Act.put, List.setIfInBounds_toArray, List.set_cons_zero, List.set_cons_succ]
              refine wpAnyX_take (i := 9) (oi := ⟨some 24, _, _, _, _, _⟩) (v := ?_) rfl (by kernel_rfl) (by kernel_rfl) (by kernel_rfl) (by kernel_rfl) (fun _ _ _ h => h) (Or.inl ⟨by kernel_rfl, ?_⟩) hS ?_
              rotate_left
              · intro w hSw
                try dsimp only at hSw
                go_simp
                try with_reducible rfl
              try simp only [Act.put, List.setIfInBounds_toArray, List.set_cons_zero, List.set_cons_succ]
              refine wpAnyX_take (i := 10) (oi := ⟨some 25, _, _, _, _, _⟩) (v := ?_) rfl (by kernel_rfl) (by kernel_rfl) (by kernel_rfl) (by kernel_rfl) (fun _ _ _ h => h) (Or.inl ⟨by kernel_rfl, ?_⟩) hS ?_
              rotate_left
              · intro w hSw
                try dsimp only at hSw
                go_simp
                try with_reducible rfl
              try simp only [Act.put, List.setIfInBounds_toArray, List.set_cons_zero, List.set_cons_succ]
              have k0 := hO.cell 0 rfl
              have k1 := hO.cell 1 rfl
              have f0 := hO.fz 0
              have f1 := hO.fz 1
              refine wpAnyX_ready (rs := [11]) (by kernel_rfl) (by simp) ?_
              refine AllReadyX.cons (o := ⟨none, _, _, _, _, _⟩) rfl (fun K hK => ?_) AllReadyX.nil
              go_simp
              have hS0 := hS
              clear hS
              refine hK.out _ _ (fun _ => ⟨⟨trivial, cell_farS (cell_farS hS0.1.2 (show ob ≠ g1 by omega)) (show ob ≠ g1 by omega)⟩, cell_farS (cell_farS hS0.2 (show ob ≠ g2 by omega)) (show ob ≠ g2 by omega)⟩) (fun hS => ?_)
              clear hS hK K hS0
              try simp only [Act.put, List.setIfInBounds_toArray, List.set_cons_zero, List.set_cons_succ]
              refine wpAnyX_done (by kernel_rfl) ?_ _
              go_wp2
              (try simp only [Exit.inBlock, Exit.then])
              refine bodyPost_ret (v := .agg #[.int .i64 z1, .int .i64 z2]) ?_ rfl (pickF_end hR hD (by omega) hwob hne _ _)
              simp [results, Try.f68]
              go_simp
        · go_simp
          have hb := (Below.refl v1.heap.size v1).alloc (Nat.le_refl _) (.cells #[.int .i64 1, .int .i64 10, .int .i64 9999999] 3)
          have hY := ob0 v1 #[.int .i64 1, .int .i64 10, .int .i64 9999999] 3
          have hg2 : rb < v1.heap.size := hR.lt
          have hg2o : ob < v1.heap.size := hO.lt
          have hD := hD.below (hb.mono hD.size)
          have hO := hO.below hb
          have hR := hR.below hb
          have hX := hX.below hb
          have hS0 := hS
          clear hS
          refine hK.out _ _ (fun _ => trivial) (fun hS => ?_)
          replace hS := hS (by kernel_rfl)
          clear hK K hS0
          try simp only [Act.put, List.setIfInBounds_toArray, List.set_cons_zero, List.set_cons_succ]
          clear hb
          generalize v1.alloc (.cells #[.int .i64 1, .int .i64 10, .int .i64 9999999] 3) = v7 at *
          generalize v1.heap.size = g2 at *
          refine wpAnyX_ready (rs := [2]) (by kernel_rfl) (by simp) ?_
          refine AllReadyX.cons (o := ⟨some 17, _, _, _, _, _⟩) rfl (fun K hK => ?_) AllReadyX.nil
          · go_simp
            go_at_call 67
            refine (pick_n rb _ _ _ hR (by omega) (by omega) (by omega)).mono ?_
            rintro e v8 ⟨q1, hq1, rfl, hR, hD'⟩
            have hD := hD.trans hD'
            have hO := hO.dr hD' (by omega)
            have hq10 : (0 : Int) ≤ (q1 : Int) := by omega
            have hX := hX.dr hD' (by omega)
            have hY := hY.dr hD' (by omega)
            have hS0 := hS
            clear hS
            refine hK.out _ _ (fun _ => trivial) (fun hS => ?_)
            replace hS := hS (by kernel_rfl)
            clear hK K hS0
            try simp only [Act.put, List.setIfInBounds_toArray, List.set_cons_zero, List.set_cons_succ]
            clear hD'
            obtain ⟨z1, hz1⟩ := ob_pick3 hX (show q1 < 3 by omega)
            refine wpAnyX_strong (fun w' => True ∧ w'.cell? ⟨g1, q1, none⟩ = some (.int .i64 z1)) (fun _ h => h.1) _ _ _ _ ?_
            replace hS := And.intro hS hz1
            refine wpAnyX_take (i := 3) (oi := ⟨some 18, _, _, _, _, _⟩) (v := ?_) rfl (by kernel_rfl) (by kernel_rfl) (by kernel_rfl) (by kernel_rfl) (fun _ _ _ h => h) (Or.inl ⟨by kernel_rfl, ?_⟩) hS ?_
            rotate_left
            · intro w hSw
              try dsimp only at hSw
              go_simp
              try with_reducible rfl
            try simp only [Act.put, List.setIfInBounds_toArray, List.set_cons_zero, List.set_cons_succ]
            refine wpAnyX_take (i := 4) (oi := ⟨some 19, _, _, _, _, _⟩) (v := ?_) rfl (by kernel_rfl) (by kernel_rfl) (by kernel_rfl) (by kernel_rfl) (fun _ _ _ h => h) (Or.inl ⟨by kernel_rfl, ?_⟩) hS ?_
            rotate_left
            · intro w hSw
              try dsimp only at hSw
              go_simp
              try with_reducible rfl
            try simp only [Act.put, List.setIfInBounds_toArray, List.set_cons_zero, List.set_cons_succ]
            refine wpAnyX_ready (rs := [7]) (by kernel_rfl) (by simp) ?_
            refine AllReadyX.cons (o := ⟨some 22, _, _, _, _, _⟩) rfl (fun K hK => ?_) AllReadyX.nil
            · go_simp
              go_at_call 67
              refine (pick_n rb _ _ _ hR (by omega) (by omega) (by omega)).mono ?_
              rintro e v9 ⟨q2, hq2, rfl, hR, hD'⟩
              have hD := hD.trans hD'
              have hO := hO.dr hD' (by omega)
              have hq20 : (0 : Int) ≤ (q2 : Int) := by omega
              have hX := hX.dr hD' (by omega)
              have hY := hY.dr hD' (by omega)
              have hS0 := hS
              clear hS
              refine hK.out _ _ (fun _ => ⟨trivial, hD'.cell hS0.2 (show g1 ≠ rb by omega)⟩) (fun hS => ?_)
              replace hS := hS (by kernel_rfl)
              clear hK K hS0
              try simp only [Act.put, List.setIfInBounds_toArray, List.set_cons_zero, List.set_cons_succ]
              clear hD'
              obtain ⟨z2, hz2⟩ := ob_pick3 hY (show q2 < 3 by omega)
              refine wpAnyX_strong (fun w' => (True ∧ w'.cell? ⟨g1, q1, none⟩ = some (.int .i64 z1)) ∧ w'.cell? ⟨g2, q2, none⟩ = some (.int .i64 z2)) (fun _ h => h.1) _ _ _ _ ?_
              replace hS := And.intro hS hz2
              refine wpAnyX_take (i := 8) (oi := ⟨some 23, _, _, _, _, _⟩) (v := ?_) rfl (by kernel_rfl) (by kernel_rfl) (by kernel_rfl) (by kernel_rfl) (fun _ _ _ h => h) (Or.inl ⟨by kernel_rfl, ?_⟩) hS ?_
              rotate_left
              · intro w hSw
                try dsimp only at hSw
                go_simp
                try with_reducible rfl
              try simp only [Act.put, List.setIfInBounds_toArray, List.set_cons_zero, List.set_cons_succ]
              refine wpAnyX_take (i := 9) (oi := ⟨some 24, _, _, _, _, _⟩) (v := ?_) rfl (by kernel_rfl) (by kernel_rfl) (by kernel_rfl) (by kernel_rfl) (fun _ _ _ h => h) (Or.inl ⟨by kernel_rfl, ?_⟩) hS ?_
              rotate_left
              · intro w hSw
                try dsimp only at hSw
                go_simp
                try with_reducible rfl
              try simp only [Act.put, List.setIfInBounds_toArray, List.set_cons_zero, List.set_cons_succ]
              refine wpAnyX_take (i := 10) (oi := ⟨some 25, _, _, _, _, _⟩) (v := ?_) rfl (by kernel_rfl) (by kernel_rfl) (by kernel_rfl) (by kernel_rfl) (fun _ _ _ h => h) (Or.inl ⟨by kernel_rfl, ?_⟩) hS ?_
              rotate_left
              · intro w hSw
                try dsimp only at hSw
                go_simp
                try with_reducible rfl
              try simp only [Act.put, List.setIfInBounds_toArray, List.set_cons_zero, List.set_cons_succ]
              have k0 := hO.cell 0 rfl
              have k1 := hO.cell 1 rfl
              have f0 := hO.fz 0
              have f1 := hO.fz 1
              refine wpAnyX_ready (rs := [11]) (by kernel_rfl) (by simp) ?_
              refine AllReadyX.cons (o := ⟨none, _, _, _, _, _⟩) rfl (fun K hK => ?_) AllReadyX.nil
              go_simp
              have hS0 := hS
              clear hS
              refine hK.out _ _ (fun _ => ⟨⟨trivial, cell_farS (cell_farS hS0.1.2 (show ob ≠ g1 by omega)) (show ob ≠ g1 by omega)⟩, cell_farS (cell_farS hS0.2 (show ob ≠ g2 by omega)) (show ob ≠ g2 by omega)⟩) (fun hS => ?_)
              clear hS hK K hS0
              try simp only [Act.put, List.setIfInBounds_toArray, List.set_cons_zero, List.set_cons_succ]
              refine wpAnyX_done (by kernel_rfl) ?_ _
              go_wp2
              (try simp only [Exit.inBlock, Exit.then])
              refine bodyPost_ret (v := .agg #[.int .i64 z1, .int .i64 z2]) ?_ rfl (pickF_end hR hD (by omega) hwob hne _ _)
              simp [results, Try.f68]
              go_simp
      · go_simp
        go_at_call 67
        refine (pick_n rb _ _ _ hR (by omega) (by omega) (by omega)).mono ?_
        rintro e v10 ⟨q1, hq1, rfl, hR, hD'⟩
        have hD := hD.trans hD'
        have hO := hO.dr hD' (by omega)
        have hq10 : (0 : Int) ≤ (q1 : Int) := by omega
        have hS0 := hS
        clear hS
        refine hK.out _ _ (fun _ => trivial) (fun hS => ?_)
        replace hS := hS (by kernel_rfl)
        clear hK K hS0
        try simp only [Act.put, List.setIfInBounds_toArray, List.set_cons_zero, List.set_cons_succ]
        clear hD'
        refine wpAnyX_ready (rs := [0, 5, 7]) (by kernel_rfl) (by simp) ?_
        refine AllReadyX.cons (o := ⟨some 15, _, _, _, _, _⟩) rfl (fun K hK => ?_) (AllReadyX.cons (o := ⟨some 20, _, _, _, _, _⟩) rfl (fun K hK => ?_) (AllReadyX.cons (o := ⟨some 22, _, _, _, _, _⟩) rfl (fun K hK => ?_) AllReadyX.nil))
        · go_simp
          have hb := (Below.refl v10.heap.size v10).alloc (Nat.le_refl _) (.cells #[.int .i64 9999999, .int .i64 (-9999999), .int .i64 10000000] 3)
          have hX := ob0 v10 #[.int .i64 9999999, .int .i64 (-9999999), .int .i64 10000000] 3
          have hg1 : rb < v10.heap.size := hR.lt
          have hg1o : ob < v10.heap.size := hO.lt
          have hD := hD.below (hb.mono hD.size)
          have hO := hO.below hb
          have hR := hR.below hb
          have hS0 := hS
          clear hS
          refine hK.out _ _ (fun _ => trivial) (fun hS => ?_)
          replace hS := hS (by kernel_rfl)
          clear hK K hS0
          try simp only [Act.put, List.setIfInBounds_toArray, List.set_cons_zero, List.set_cons_succ]
          clear hb
          generalize v10.alloc (.cells #[.int .i64 9999999, .int .i64 (-9999999), .int .i64 10000000] 3) = v11 at *
          generalize v10.heap.size = g1 at *
          obtain ⟨z1, hz1⟩ := ob_pick3 hX (show q1 < 3 by omega)
          refine wpAnyX_strong (fun w' => True ∧ w'.cell? ⟨g1, q1, none⟩ = some (.int .i64 z1)) (fun _ h => h.1) _ _ _ _ ?_
          replace hS := And.intro hS hz1
          refine wpAnyX_take (i := 3) (oi := ⟨some 18, _, _, _, _, _⟩) (v := ?_) rfl (by kernel_rfl) (by kernel_rfl) (by kernel_rfl) (by kernel_rfl) (fun _ _ _ h => h) (Or.inl ⟨by kernel_rfl, ?_⟩) hS ?_
          rotate_left
          · intro w hSw
            try dsimp only at hSw
            go_simp
            try with_reducible rfl
          try simp only [Act.put, List.setIfInBounds_toArray, List.set_cons_zero, List.set_cons_succ]
          refine wpAnyX_take (i := 4) (oi := ⟨some 19, _, _, _, _, _⟩) (v := ?_) rfl (by kernel_rfl) (by kernel_rfl) (by kernel_rfl) (by kernel_rfl) (fun _ _ _ h => h) (Or.inl ⟨by kernel_rfl, ?_⟩) hS ?_
          rotate_left
          · intro w hSw
            try dsimp only at hSw
            go_simp
            try with_reducible rfl
          try simp only [Act.put, List.setIfInBounds_toArray, List.set_cons_zero, List.set_cons_succ]
          refine wpAnyX_ready (rs := [5, 7]) (by kernel_rfl) (by simp) ?_
          refine AllReadyX.cons (o := ⟨some 20, _, _, _, _, _⟩) rfl (fun K hK => ?_) (AllReadyX.cons (o := ⟨some 22, _, _, _, _, _⟩) rfl (fun K hK => ?_) AllReadyX.nil)
          · go_simp
            have hb := (Below.refl v11.heap.size v11).alloc (Nat.le_refl _) (.cells #[.int .i64 1, .int .i64 10, .int .i64 9999999] 3)
            have hY := ob0 v11 #[.int .i64 1, .int .i64 10, .int .i64 9999999] 3
            have hg2 : rb < v11.heap.size := hR.lt
            have hg2o : ob < v11.heap.size := hO.lt
            have hD := hD.below (hb.mono hD.size)
            have hO := hO.below hb
            have hR := hR.below hb
            have hX := hX.below hb
            have hS0 := hS
            clear hS
            refine hK.out _ _ (fun _ => ⟨trivial, cell_below hb hS0.2⟩) (fun hS => ?_)
            replace hS := hS (by kernel_rfl)
            clear hK K hS0
            try simp only [Act.put, List.setIfInBounds_toArray, List.set_cons_zero, List.set_cons_succ]
            clear hb
            generalize v11.alloc (.cells #[.int .i64 1, .int .i64 10, .int .i64 9999999] 3) = v12 at *
            generalize v11.heap.size = g2 at *
            refine wpAnyX_ready (rs := [7]) (by kernel_rfl) (by simp) ?_
            refine AllReadyX.cons (o := ⟨some 22, _, _, _, _, _⟩) rfl (fun K hK => ?_) AllReadyX.nil
            · go_simp
              go_at_call 67
              refine (pick_n rb _ _ _ hR (by omega) (by omega) (by omega)).mono ?_
              rintro e v13 ⟨q2, hq2, rfl, hR, hD'⟩
              have hD := hD.trans hD'
              have hO := hO.dr hD' (by omega)
              have hq20 : (0 : Int) ≤ (q2 : Int) := by omega
              have hX := hX.dr hD' (by omega)
              have hY := hY.dr hD' (by omega)
              have hS0 := hS
              clear hS
              refine hK.out _ _ (fun _ => ⟨trivial, hD'.cell hS0.2 (show g1 ≠ rb by omega)⟩) (fun hS => ?_)
              replace hS := hS (by kernel_rfl)
              clear hK K hS0
              try simp only [Act.put, List.setIfInBounds_toArray, List.set_cons_zero, List.set_cons_succ]
              clear hD'
              obtain ⟨z2, hz2⟩ := ob_pick3 hY (show q2 < 3 by omega)
              refine wpAnyX_strong (fun w' => (True ∧ w'.cell? ⟨g1, q1, none⟩ = some (.int .i64 z1)) ∧ w'.cell? ⟨g2, q2, none⟩ = some (.int .i64 z2)) (fun _ h => h.1) _ _ _ _ ?_
              replace hS := And.intro hS hz2
              refine wpAnyX_take (i := 8) (oi := ⟨some 23, _, _, _, _, _⟩) (v := ?_) rfl (by kernel_rfl) (by kernel_rfl) (by kernel_rfl) (by kernel_rfl) (fun _ _ _ h => h) (Or.inl ⟨by kernel_rfl, ?_⟩) hS ?_
              rotate_left
              · intro w hSw
                try dsimp only at hSw
                go_simp
                try with_reducible rfl
              try simp only [Act.put, List.setIfInBounds_toArray, List.set_cons_zero, List.set_cons_succ]
              refine wpAnyX_take (i := 9) (oi := ⟨some 24, _, _, _, _, _⟩) (v := ?_) rfl (by kernel_rfl) (by kernel_rfl) (by kernel_rfl) (by kernel_rfl) (fun _ _ _ h => h) (Or.inl ⟨by kernel_rfl, ?_⟩) hS ?_
              rotate_left
              · intro w hSw
                try dsimp only at hSw
                go_simp
                try with_reducible rfl
              try simp only [Act.put, List.setIfInBounds_toArray, List.set_cons_zero, List.set_cons_succ]
              refine wpAnyX_take (i := 10) (oi := ⟨some 25, _, _, _, _, _⟩) (v := ?_) rfl (by kernel_rfl) (by kernel_rfl) (by kernel_rfl) (by kernel_rfl) (fun _ _ _ h => h) (Or.inl ⟨by kernel_rfl, ?_⟩) hS ?_
              rotate_left
              · intro w hSw
                try dsimp only at hSw
                go_simp
                try with_reducible rfl
              try simp only [Act.put, List.setIfInBounds_toArray, List.set_cons_zero, List.set_cons_succ]
              have k0 := hO.cell 0 rfl
              have k1 := hO.cell 1 rfl
              have f0 := hO.fz 0
              have f1 := hO.fz 1
              refine wpAnyX_ready (rs := [11]) (by kernel_rfl) (by simp) ?_
              refine AllReadyX.cons (o := ⟨none, _, _, _, _, _⟩) rfl (fun K hK => ?_) AllReadyX.nil
              go_simp
              have hS0 := hS
              clear hS
              refine hK.out _ _ (fun _ => ⟨⟨trivial, cell_farS (cell_farS hS0.1.2 (show ob ≠ g1 by omega)) (show ob ≠ g1 by omega)⟩, cell_farS (cell_farS hS0.2 (show ob ≠ g2 by omega)) (show ob ≠ g2 by omega)⟩) (fun hS => ?_)
              clear hS hK K hS0
              try simp only [Act.put, List.setIfInBounds_toArray, List.set_cons_zero, List.set_cons_succ]
              refine wpAnyX_done (by kernel_rfl) ?_ _
              go_wp2
              (try simp only [Exit.inBlock, Exit.then])
              refine bodyPost_ret (v := .agg #[.int .i64 z1, .int .i64 z2]) ?_ rfl (pickF_end hR hD (by omega) hwob hne _ _)
              simp [results, Try.f68]
              go_simp
          · go_simp
            go_at_call 67
            refine (pick_n rb _ _ _ hR (by omega) (by omega) (by omega)).mono ?_
            rintro e v14 ⟨q2, hq2, rfl, hR, hD'⟩
            have hD := hD.trans hD'
            have hO := hO.dr hD' (by omega)
            have hq20 : (0 : Int) ≤ (q2 : Int) := by omega
            have hX := hX.dr hD' (by omega)
            have hS0 := hS
            clear hS
            refine hK.out _ _ (fun _ => ⟨trivial, hD'.cell hS0.2 (show g1 ≠ rb by omega)⟩) (fun hS => ?_)
            replace hS := hS (by kernel_rfl)
            clear hK K hS0
            try simp only [Act.put, List.setIfInBounds_toArray, List.set_cons_zero, List.set_cons_succ]
            clear hD'
            refine wpAnyX_ready (rs := [5]) (by kernel_rfl) (by simp) ?_
            refine AllReadyX.cons (o := ⟨some 20, _, _, _, _, _⟩) rfl (fun K hK => ?_) AllReadyX.nil
            · go_simp
              have hb := (Below.refl v14.heap.size v14).alloc (Nat.le_refl _) (.cells #[.int .i64 1, .int .i64 10, .int .i64 9999999] 3)
              have hY := ob0 v14 #[.int .i64 1, .int .i64 10, .int .i64 9999999] 3
              have hg2 : rb < v14.heap.size := hR.lt
              have hg2o : ob < v14.heap.size := hO.lt
              have hD := hD.below (hb.mono hD.size)
              have hO := hO.below hb
              have hR := hR.below hb
              have hX := hX.below hb
              have hS0 := hS
              clear hS
              refine hK.out _ _ (fun _ => ⟨trivial, cell_below hb hS0.2⟩) (fun hS => ?_)
              replace hS := hS (by kernel_rfl)
              clear hK K hS0
              try simp only [Act.put, List.setIfInBounds_toArray, List.set_cons_zero, List.set_cons_succ]
              clear hb
              generalize v14.alloc (.cells #[.int .i64 1, .int .i64 10, .int .i64 9999999] 3) = v15 at *
              generalize v14.heap.size = g2 at *
              obtain ⟨z2, hz2⟩ := ob_pick3 hY (show q2 < 3 by omega)
              refine wpAnyX_strong (fun w' => (True ∧ w'.cell? ⟨g1, q1, none⟩ = some (.int .i64 z1)) ∧ w'.cell? ⟨g2, q2, none⟩ = some (.int .i64 z2)) (fun _ h => h.1) _ _ _ _ ?_
              replace hS := And.intro hS hz2
              refine wpAnyX_take (i := 8) (oi := ⟨some 23, _, _, _, _, _⟩) (v := ?_) rfl (by kernel_rfl) (by kernel_rfl) (by kernel_rfl) (by kernel_rfl) (fun _ _ _ h => h) (Or.inl ⟨by kernel_rfl, ?_⟩) hS ?_
              rotate_left
              · intro w hSw
                try dsimp only at hSw
                go_simp
                try with_reducible rfl
              try simp only [Act.put, List.setIfInBounds_toArray, List.set_cons_zero, List.set_cons_succ]
              refine wpAnyX_take (i := 9) (oi := ⟨some 24, _, _, _, _, _⟩) (v := ?_) rfl (by kernel_rfl) (by kernel_rfl) (by kernel_rfl) (by kernel_rfl) (fun _ _ _ h => h) (Or.inl ⟨by kernel_rfl, ?_⟩) hS ?_
              rotate_left
              · intro w hSw
                try dsimp only at hSw
                go_simp
                try with_reducible rfl
              try simp only [Act.put, List.setIfInBounds_toArray, List.set_cons_zero, List.set_cons_succ]
              refine wpAnyX_take (i := 10) (oi := ⟨some 25, _, _, _, _, _⟩) (v := ?_) rfl (by kernel_rfl) (by kernel_rfl) (by kernel_rfl) (by kernel_rfl) (fun _ _ _ h => h) (Or.inl ⟨by kernel_rfl, ?_⟩) hS ?_
              rotate_left
              · intro w hSw
                try dsimp only at hSw
                go_simp
                try with_reducible rfl
              try simp only [Act.put, List.setIfInBounds_toArray, List.set_cons_zero, List.set_cons_succ]
              have k0 := hO.cell 0 rfl
              have k1 := hO.cell 1 rfl
              have f0 := hO.fz 0
              have f1 := hO.fz 1
              refine wpAnyX_ready (rs := [11]) (by kernel_rfl) (by simp) ?_
              refine AllReadyX.cons (o := ⟨none, _, _, _, _, _⟩) rfl (fun K hK => ?_) AllReadyX.nil
              go_simp
              have hS0 := hS
              clear hS
              refine hK.out _ _ (fun _ => ⟨⟨trivial, cell_farS (cell_farS hS0.1.2 (show ob ≠ g1 by omega)) (show ob ≠ g1 by omega)⟩, cell_farS (cell_farS hS0.2 (show ob ≠ g2 by omega)) (show ob ≠ g2 by omega)⟩) (fun hS => ?_)
              clear hS hK K hS0
              try simp only [Act.put, List.setIfInBounds_toArray, List.set_cons_zero, List.set_cons_succ]
              refine wpAnyX_done (by kernel_rfl) ?_ _
              go_wp2
              (try simp only [Exit.inBlock, Exit.then])
              refine bodyPost_ret (v := .agg #[.int .i64 z1, .int .i64 z2]) ?_ rfl (pickF_end hR hD (by omega) hwob hne _ _)
              simp [results, Try.f68]
              go_simp
        · go_simp
          have hb := (Below.refl v10.heap.size v10).alloc (Nat.le_refl _) (.cells #[.int .i64 1, .int .i64 10, .int .i64 9999999] 3)
          have hY := ob0 v10 #[.int .i64 1, .int .i64 10, .int .i64 9999999] 3
          have hg2 : rb < v10.heap.size := hR.lt
          have hg2o : ob < v10.heap.size := hO.lt
          have hD := hD.below (hb.mono hD.size)
          have hO := hO.below hb
          have hR := hR.below hb
          have hS0 := hS
          clear hS
          refine hK.out _ _ (fun _ => trivial) (fun hS => ?_)
          replace hS := hS (by kernel_rfl)
          clear hK K hS0
          try simp only [Act.put, List.setIfInBounds_toArray, List.set_cons_zero, List.set_cons_succ]
          clear hb
          generalize v10.alloc (.cells #[.int .i64 1, .int .i64 10, .int .i64 9999999] 3) = v16 at *
          generalize v10.heap.size = g2 at *
          refine wpAnyX_ready (rs := [0, 7]) (by kernel_rfl) (by simp) ?_
          refine AllReadyX.cons (o := ⟨some 15, _, _, _, _, _⟩) rfl (fun K hK => ?_) (AllReadyX.cons (o := ⟨some 22, _, _, _, _, _⟩) rfl (fun K hK => ?_) AllReadyX.nil)
          · go_simp
            have hb := (Below.refl v16.heap.size v16).alloc (Nat.le_refl _) (.cells #[.int .i64 9999999, .int .i64 (-9999999), .int .i64 10000000] 3)
            have hX := ob0 v16 #[.int .i64 9999999, .int .i64 (-9999999), .int .i64 10000000] 3
            have hg1 : rb < v16.heap.size := hR.lt
            have hg1o : ob < v16.heap.size := hO.lt
            have hD := hD.below (hb.mono hD.size)
            have hO := hO.below hb
            have hR := hR.below hb
            have hY := hY.below hb
            have hS0 := hS
            clear hS
            refine hK.out _ _ (fun _ => trivial) (fun hS => ?_)
            replace hS := hS (by kernel_rfl)
            clear hK K hS0
            try simp only [Act.put, List.setIfInBounds_toArray, List.set_cons_zero, List.set_cons_succ]
            clear hb
            generalize v16.alloc (.cells #[.int .i64 9999999, .int .i64 (-9999999), .int .i64 10000000] 3) = v17 at *
            generalize v16.heap.size = g1 at *
            obtain ⟨z1, hz1⟩ := ob_pick3 hX (show q1 < 3 by omega)
            refine wpAnyX_strong (fun w' => True ∧ w'.cell? ⟨g1, q1, none⟩ = some (.int .i64 z1)) (fun _ h => h.1) _ _ _ _ ?_
            replace hS := And.intro hS hz1
            refine wpAnyX_take (i := 3) (oi := ⟨some 18, _, _, _, _, _⟩) (v := ?_) rfl (by kernel_rfl) (by kernel_rfl) (by kernel_rfl) (by kernel_rfl) (fun _ _ _ h => h) (Or.inl ⟨by kernel_rfl, ?_⟩) hS ?_
            rotate_left
            · intro w hSw
              try dsimp only at hSw
              go_simp
              try with_reducible rfl
            try simp only [Act.put, List.setIfInBounds_toArray, List.set_cons_zero, List.set_cons_succ]
            refine wpAnyX_take (i := 4) (oi := ⟨some 19, _, _, _, _, _⟩) (v := ?_) rfl (by kernel_rfl) (by kernel_rfl) (by kernel_rfl) (by kernel_rfl) (fun _ _ _ h => h) (Or.inl ⟨by kernel_rfl, ?_⟩) hS ?_
            rotate_left
            · intro w hSw
              try dsimp only at hSw
              go_simp
              try with_reducible rfl
            try simp only [Act.put, List.setIfInBounds_toArray, List.set_cons_zero, List.set_cons_succ]
            refine wpAnyX_ready (rs := [7]) (by kernel_rfl) (by simp) ?_
            refine AllReadyX.cons (o := ⟨some 22, _, _, _, _, _⟩) rfl (fun K hK => ?_) AllReadyX.nil
            · go_simp
              go_at_call 67
              refine (pick_n rb _ _ _ hR (by omega) (by omega) (by omega)).mono ?_
              rintro e v18 ⟨q2, hq2, rfl, hR, hD'⟩
              have hD := hD.trans hD'
              have hO := hO.dr hD' (by omega)
              have hq20 : (0 : Int) ≤ (q2 : Int) := by omega
              have hY := hY.dr hD' (by omega)
              have hX := hX.dr hD' (by omega)
              have hS0 := hS
              clear hS
              refine hK.out _ _ (fun _ => ⟨trivial, hD'.cell hS0.2 (show g1 ≠ rb by omega)⟩) (fun hS => ?_)
              replace hS := hS (by kernel_rfl)
              clear hK K hS0
              try simp only [Act.put, List.setIfInBounds_toArray, List.set_cons_zero, List.set_cons_succ]
              clear hD'
              obtain ⟨z2, hz2⟩ := ob_pick3 hY (show q2 < 3 by omega)
              refine wpAnyX_strong (fun w' => (True ∧ w'.cell? ⟨g1, q1, none⟩ = some (.int .i64 z1)) ∧ w'.cell? ⟨g2, q2, none⟩ = some (.int .i64 z2)) (fun _ h => h.1) _ _ _ _ ?_
              replace hS := And.intro hS hz2
              refine wpAnyX_take (i := 8) (oi := ⟨some 23, _, _, _, _, _⟩) (v := ?_) rfl (by kernel_rfl) (by kernel_rfl) (by kernel_rfl) (by kernel_rfl) (fun _ _ _ h => h) (Or.inl ⟨by kernel_rfl, ?_⟩) hS ?_
              rotate_left
              · intro w hSw
                try dsimp only at hSw
                go_simp
                try with_reducible rfl
              try simp only [Act.put, List.setIfInBounds_toArray, List.set_cons_zero, List.set_cons_succ]
              refine wpAnyX_take (i := 9) (oi := ⟨some 24, _, _, _, _, _⟩) (v := ?_) rfl (by kernel_rfl) (by kernel_rfl) (by kernel_rfl) (by kernel_rfl) (fun _ _ _ h => h) (Or.inl ⟨by kernel_rfl, ?_⟩) hS ?_
              rotate_left
              · intro w hSw
                try dsimp only at hSw
                go_simp
                try with_reducible rfl
              try simp only [Act.put, List.setIfInBounds_toArray, List.set_cons_zero, List.set_cons_succ]
              refine wpAnyX_take (i := 10) (oi := ⟨some 25, _, _, _, _, _⟩) (v := ?_) rfl (by kernel_rfl) (by kernel_rfl) (by kernel_rfl) (by kernel_rfl) (fun _ _ _ h => h) (Or.inl ⟨by kernel_rfl, ?_⟩) hS ?_
              rotate_left
              · intro w hSw
                try dsimp only at hSw
                go_simp
                try with_reducible rfl
              try simp only [Act.put, List.setIfInBounds_toArray, List.set_cons_zero, List.set_cons_succ]
              have k0 := hO.cell 0 rfl
              have k1 := hO.cell 1 rfl
              have f0 := hO.fz 0
              have f1 := hO.fz 1
              refine wpAnyX_ready (rs := [11]) (by kernel_rfl) (by simp) ?_
              refine AllReadyX.cons (o := ⟨none, _, _, _, _, _⟩) rfl (fun K hK => ?_) AllReadyX.nil
              go_simp
              have hS0 := hS
              clear hS
              refine hK.out _ _ (fun _ => ⟨⟨trivial, cell_farS (cell_farS hS0.1.2 (show ob ≠ g1 by omega)) (show ob ≠ g1 by omega)⟩, cell_farS (cell_farS hS0.2 (show ob ≠ g2 by omega)) (show ob ≠ g2 by omega)⟩) (fun hS => ?_)
              clear hS hK K hS0
              try simp only [Act.put, List.setIfInBounds_toArray, List.set_cons_zero, List.set_cons_succ]
              refine wpAnyX_done (by kernel_rfl) ?_ _
              go_wp2
              (try simp only [Exit.inBlock, Exit.then])
              refine bodyPost_ret (v := .agg #[.int .i64 z1, .int .i64 z2]) ?_ rfl (pickF_end hR hD (by omega) hwob hne _ _)
              simp [results, Try.f68]
              go_simp
          · go_simp
            go_at_call 67
            refine (pick_n rb _ _ _ hR (by omega) (by omega) (by omega)).mono ?_
            rintro e v19 ⟨q2, hq2, rfl, hR, hD'⟩
            have hD := hD.trans hD'
            have hO := hO.dr hD' (by omega)
            have hq20 : (0 : Int) ≤ (q2 : Int) := by omega
            have hY := hY.dr hD' (by omega)
            have hS0 := hS
            clear hS
            refine hK.out _ _ (fun _ => trivial) (fun hS => ?_)
            replace hS := hS (by kernel_rfl)
            clear hK K hS0
            try simp only [Act.put, List.setIfInBounds_toArray, List.set_cons_zero, List.set_cons_succ]
            clear hD'
            obtain ⟨z2, hz2⟩ := ob_pick3 hY (show q2 < 3 by omega)
            refine wpAnyX_strong (fun w' => True ∧ w'.cell? ⟨g2, q2, none⟩ = some (.int .i64 z2)) (fun _ h => h.1) _ _ _ _ ?_
            replace hS := And.intro hS hz2
            refine wpAnyX_take (i := 8) (oi := ⟨some 23, _, _, _, _, _⟩) (v := ?_) rfl (by kernel_rfl) (by kernel_rfl) (by kernel_rfl) (by kernel_rfl) (fun _ _ _ h => h) (Or.inl ⟨by kernel_rfl, ?_⟩) hS ?_
            rotate_left
            · intro w hSw
              try dsimp only at hSw
              go_simp
              try with_reducible rfl
            try simp only [Act.put, List.setIfInBounds_toArray, List.set_cons_zero, List.set_cons_succ]
            refine wpAnyX_take (i := 9) (oi := ⟨some 24, _, _, _, _, _⟩) (v := ?_) rfl (by kernel_rfl) (by kernel_rfl) (by kernel_rfl) (by kernel_rfl) (fun _ _ _ h => h) (Or.inl ⟨by kernel_rfl, ?_⟩) hS ?_
            rotate_left
            · intro w hSw
              try dsimp only at hSw
              go_simp
              try with_reducible rfl
            try simp only [Act.put, List.setIfInBounds_toArray, List.set_cons_zero, List.set_cons_succ]
            refine wpAnyX_ready (rs := [0]) (by kernel_rfl) (by simp) ?_
            refine AllReadyX.cons (o := ⟨some 15, _, _, _, _, _⟩) rfl (fun K hK => ?_) AllReadyX.nil
            · go_simp
              have hb := (Below.refl v19.heap.size v19).alloc (Nat.le_refl _) (.cells #[.int .i64 9999999, .int .i64 (-9999999), .int .i64 10000000] 3)
              have hX := ob0 v19 #[.int .i64 9999999, .int .i64 (-9999999), .int .i64 10000000] 3
              have hg1 : rb < v19.heap.size := hR.lt
              have hg1o : ob < v19.heap.size := hO.lt
              have hD := hD.below (hb.mono hD.size)
              have hO := hO.below hb
              have hR := hR.below hb
              have hY := hY.below hb
              have hS0 := hS
              clear hS
              refine hK.out _ _ (fun _ => ⟨trivial, cell_below hb hS0.2⟩) (fun hS => ?_)
              replace hS := hS (by kernel_rfl)
              clear hK K hS0
              try simp only [Act.put, List.setIfInBounds_toArray, List.set_cons_zero, List.set_cons_succ]
              clear hb
              generalize v19.alloc (.cells #[.int .i64 9999999, .int .i64 (-9999999), .int .i64 10000000] 3) = v20 at *
              generalize v19.heap.size = g1 at *
              obtain ⟨z1, hz1⟩ := ob_pick3 hX (show q1 < 3 by omega)
              refine wpAnyX_strong (fun w' => (True ∧ w'.cell? ⟨g2, q2, none⟩ = some (.int .i64 z2)) ∧ w'.cell? ⟨g1, q1, none⟩ = some (.int .i64 z1)) (fun _ h => h.1) _ _ _ _ ?_
              replace hS := And.intro hS hz1
              refine wpAnyX_take (i := 3) (oi := ⟨some 18, _, _, _, _, _⟩) (v := ?_) rfl (by kernel_rfl) (by kernel_rfl) (by kernel_rfl) (by kernel_rfl) (fun _ _ _ h => h) (Or.inl ⟨by kernel_rfl, ?_⟩) hS ?_
              rotate_left
              · intro w hSw
                try dsimp only at hSw
                go_simp
                try with_reducible rfl
              try simp only [Act.put, List.setIfInBounds_toArray, List.set_cons_zero, List.set_cons_succ]
              refine wpAnyX_take (i := 4) (oi := ⟨some 19, _, _, _, _, _⟩) (v := ?_) rfl (by kernel_rfl) (by kernel_rfl) (by kernel_rfl) (by kernel_rfl) (fun _ _ _ h => h) (Or.inl ⟨by kernel_rfl, ?_⟩) hS ?_
              rotate_left
              · intro w hSw
                try dsimp only at hSw
                go_simp
                try with_reducible rfl
              try simp only [Act.put, List.setIfInBounds_toArray, List.set_cons_zero, List.set_cons_succ]
              refine wpAnyX_take (i := 10) (oi := ⟨some 25, _, _, _, _, _⟩) (v := ?_) rfl (by kernel_rfl) (by kernel_rfl) (by kernel_rfl) (by kernel_rfl) (fun _ _ _ h => h) (Or.inl ⟨by kernel_rfl, ?_⟩) hS ?_
              rotate_left
              · intro w hSw
                try dsimp only at hSw
                go_simp
                try with_reducible rfl
              try simp only [Act.put, List.setIfInBounds_toArray, List.set_cons_zero, List.set_cons_succ]
              have k0 := hO.cell 0 rfl
              have k1 := hO.cell 1 rfl
              have f0 := hO.fz 0
              have f1 := hO.fz 1
              refine wpAnyX_ready (rs := [11]) (by kernel_rfl) (by simp) ?_
              refine AllReadyX.cons (o := ⟨none, _, _, _, _, _⟩) rfl (fun K hK => ?_) AllReadyX.nil
              go_simp
              have hS0 := hS
              clear hS
              refine hK.out _ _ (fun _ => ⟨⟨trivial, cell_farS (cell_farS hS0.1.2 (show ob ≠ g2 by omega)) (show ob ≠ g2 by omega)⟩, cell_farS (cell_farS hS0.2 (show ob ≠ g1 by omega)) (show ob ≠ g1 by omega)⟩) (fun hS => ?_)
              clear hS hK K hS0
              try simp only [Act.put, List.setIfInBounds_toArray, List.set_cons_zero, List.set_cons_succ]
              refine wpAnyX_done (by kernel_rfl) ?_ _
              go_wp2
              (try simp only [Exit.inBlock, Exit.then])
              refine bodyPost_ret (v := .agg #[.int .i64 z1, .int .i64 z2]) ?_ rfl (pickF_end hR hD (by omega) hwob hne _ _)
              simp [results, Try.f68]
              go_simp
        · go_simp
          go_at_call 67
          refine (pick_n rb _ _ _ hR (by omega) (by omega) (by omega)).mono ?_
          rintro e v21 ⟨q2, hq2, rfl, hR, hD'⟩
          have hD := hD.trans hD'
          have hO := hO.dr hD' (by omega)
          have hq20 : (0 : Int) ≤ (q2 : Int) := by omega
          have hS0 := hS
          clear hS
          refine hK.out _ _ (fun _ => trivial) (fun hS => ?_)
          replace hS := hS (by kernel_rfl)
          clear hK K hS0
          try simp only [Act.put, List.setIfInBounds_toArray, List.set_cons_zero, List.set_cons_succ]
          clear hD'
          refine wpAnyX_ready (rs := [0, 5]) (by kernel_rfl) (by simp) ?_
          refine AllReadyX.cons (o := ⟨some 15, _, _, _, _, _⟩) rfl (fun K hK => ?_) (AllReadyX.cons (o := ⟨some 20, _, _, _, _, _⟩) rfl (fun K hK => ?_) AllReadyX.nil)
          · go_simp
            have hb := (Below.refl v21.heap.size v21).alloc (Nat.le_refl _) (.cells #[.int .i64 9999999, .int .i64 (-9999999), .int .i64 10000000] 3)
            have hX := ob0 v21 #[.int .i64 9999999, .int .i64 (-9999999), .int .i64 10000000] 3
            have hg1 : rb < v21.heap.size := hR.lt
            have hg1o : ob < v21.heap.size := hO.lt
            have hD := hD.below (hb.mono hD.size)
            have hO := hO.below hb
            have hR := hR.below hb
            have hS0 := hS
            clear hS
            refine hK.out _ _ (fun _ => trivial) (fun hS => ?_)
            replace hS := hS (by kernel_rfl)
            clear hK K hS0
            try simp only [Act.put, List.setIfInBounds_toArray, List.set_cons_zero, List.set_cons_succ]
            clear hb
            generalize v21.alloc (.cells #[.int .i64 9999999, .int .i64 (-9999999), .int .i64 10000000] 3) = v22 at *
            generalize v21.heap.size = g1 at *
            obtain ⟨z1, hz1⟩ := ob_pick3 hX (show q1 < 3 by omega)
            refine wpAnyX_strong (fun w' => True ∧ w'.cell? ⟨g1, q1, none⟩ = some (.int .i64 z1)) (fun _ h => h.1) _ _ _ _ ?_
            replace hS := And.intro hS hz1
            refine wpAnyX_take (i := 3) (oi := ⟨some 18, _, _, _, _, _⟩) (v := ?_) rfl (by kernel_rfl) (by kernel_rfl) (by kernel_rfl) (by kernel_rfl) (fun _ _ _ h => h) (Or.inl ⟨by kernel_rfl, ?_⟩) hS ?_
            rotate_left
            · intro w hSw
              try dsimp only at hSw
              go_simp
              try with_reducible rfl
            try simp only [Act.put, List.setIfInBounds_toArray, List.set_cons_zero, List.set_cons_succ]
            refine wpAnyX_take (i := 4) (oi := ⟨some 19, _, _, _, _, _⟩) (v := ?_) rfl (by kernel_rfl) (by kernel_rfl) (by kernel_rfl) (by kernel_rfl) (fun _ _ _ h => h) (Or.inl ⟨by kernel_rfl, ?_⟩) hS ?_
            rotate_left
            · intro w hSw
              try dsimp only at hSw
              go_simp
              try with_reducible rfl
            try simp only [Act.put, List.setIfInBounds_toArray, List.set_cons_zero, List.set_cons_succ]
            refine wpAnyX_ready (rs := [5]) (by kernel_rfl) (by simp) ?_
            refine AllReadyX.cons (o := ⟨some 20, _, _, _, _, _⟩) rfl (fun K hK => ?_) AllReadyX.nil
            · go_simp
              have hb := (Below.refl v22.heap.size v22).alloc (Nat.le_refl _) (.cells #[.int .i64 1, .int .i64 10, .int .i64 9999999] 3)
              have hY := ob0 v22 #[.int .i64 1, .int .i64 10, .int .i64 9999999] 3
              have hg2 : rb < v22.heap.size := hR.lt
              have hg2o : ob < v22.heap.size := hO.lt
              have hD := hD.below (hb.mono hD.size)
              have hO := hO.below hb
              have hR := hR.below hb
              have hX := hX.below hb
              have hS0 := hS
              clear hS
              refine hK.out _ _ (fun _ => ⟨trivial, cell_below hb hS0.2⟩) (fun hS => ?_)
              replace hS := hS (by kernel_rfl)
              clear hK K hS0
              try simp only [Act.put, List.setIfInBounds_toArray, List.set_cons_zero, List.set_cons_succ]
              clear hb
              generalize v22.alloc (.cells #[.int .i64 1, .int .i64 10, .int .i64 9999999] 3) = v23 at *
              generalize v22.heap.size = g2 at *
              obtain ⟨z2, hz2⟩ := ob_pick3 hY (show q2 < 3 by omega)
              refine wpAnyX_strong (fun w' => (True ∧ w'.cell? ⟨g1, q1, none⟩ = some (.int .i64 z1)) ∧ w'.cell? ⟨g2, q2, none⟩ = some (.int .i64 z2)) (fun _ h => h.1) _ _ _ _ ?_
              replace hS := And.intro hS hz2
              refine wpAnyX_take (i := 8) (oi := ⟨some 23, _, _, _, _, _⟩) (v := ?_) rfl (by kernel_rfl) (by kernel_rfl) (by kernel_rfl) (by kernel_rfl) (fun _ _ _ h => h) (Or.inl ⟨by kernel_rfl, ?_⟩) hS ?_
              rotate_left
              · intro w hSw
                try dsimp only at hSw
                go_simp
                try with_reducible rfl
              try simp only [Act.put, List.setIfInBounds_toArray, List.set_cons_zero, List.set_cons_succ]
              refine wpAnyX_take (i := 9) (oi := ⟨some 24, _, _, _, _, _⟩) (v := ?_) rfl (by kernel_rfl) (by kernel_rfl) (by kernel_rfl) (by kernel_rfl) (fun _ _ _ h => h) (Or.inl ⟨by kernel_rfl, ?_⟩) hS ?_
              rotate_left
              · intro w hSw
                try dsimp only at hSw
                go_simp
                try with_reducible rfl
              try simp only [Act.put, List.setIfInBounds_toArray, List.set_cons_zero, List.set_cons_succ]
              refine wpAnyX_take (i := 10) (oi := ⟨some 25, _, _, _, _, _⟩) (v := ?_) rfl (by kernel_rfl) (by kernel_rfl) (by kernel_rfl) (by kernel_rfl) (fun _ _ _ h => h) (Or.inl ⟨by kernel_rfl, ?_⟩) hS ?_
              rotate_left
              · intro w hSw
                try dsimp only at hSw
                go_simp
                try with_reducible rfl
              try simp only [Act.put, List.setIfInBounds_toArray, List.set_cons_zero, List.set_cons_succ]
              have k0 := hO.cell 0 rfl
              have k1 := hO.cell 1 rfl
              have f0 := hO.fz 0
              have f1 := hO.fz 1
              refine wpAnyX_ready (rs := [11]) (by kernel_rfl) (by simp) ?_
              refine AllReadyX.cons (o := ⟨none, _, _, _, _, _⟩) rfl (fun K hK => ?_) AllReadyX.nil
              go_simp
              have hS0 := hS
              clear hS
              refine hK.out _ _ (fun _ => ⟨⟨trivial, cell_farS (cell_farS hS0.1.2 (show ob ≠ g1 by omega)) (show ob ≠ g1 by omega)⟩, cell_farS (cell_farS hS0.2 (show ob ≠ g2 by omega)) (show ob ≠ g2 by omega)⟩) (fun hS => ?_)
              clear hS hK K hS0
              try simp only [Act.put, List.setIfInBounds_toArray, List.set_cons_zero, List.set_cons_succ]
              refine wpAnyX_done (by kernel_rfl) ?_ _
              go_wp2
              (try simp only [Exit.inBlock, Exit.then])
              refine bodyPost_ret (v := .agg #[.int .i64 z1, .int .i64 z2]) ?_ rfl (pickF_end hR hD (by omega) hwob hne _ _)
              simp [results, Try.f68]
              go_simp
          · go_simp
            have hb := (Below.refl v21.heap.size v21).alloc (Nat.le_refl _) (.cells #[.int .i64 1, .int .i64 10, .int .i64 9999999] 3)
            have hY := ob0 v21 #[.int .i64 1, .int .i64 10, .int .i64 9999999] 3
            have hg2 : rb < v21.heap.size := hR.lt
            have hg2o : ob < v21.heap.size := hO.lt
            have hD := hD.below (hb.mono hD.size)
            have hO := hO.below hb
            have hR := hR.below hb
            have hS0 := hS
            clear hS
            refine hK.out _ _ (fun _ => trivial) (fun hS => ?_)
            replace hS := hS (by kernel_rfl)
            clear hK K hS0
            try simp only [Act.put, List.setIfInBounds_toArray, List.set_cons_zero, List.set_cons_succ]
            clear hb
            generalize v21.alloc (.cells #[.int .i64 1, .int .i64 10, .int .i64 9999999] 3) = v24 at *
            generalize v21.heap.size = g2 at *
            obtain ⟨z2, hz2⟩ := ob_pick3 hY (show q2 < 3 by omega)
            refine wpAnyX_strong (fun w' => True ∧ w'.cell? ⟨g2, q2, none⟩ = some (.int .i64 z2)) (fun _ h => h.1) _ _ _ _ ?_
            replace hS := And.intro hS hz2
            refine wpAnyX_take (i := 8) (oi := ⟨some 23, _, _, _, _, _⟩) (v := ?_) rfl (by kernel_rfl) (by kernel_rfl) (by kernel_rfl) (by kernel_rfl) (fun _ _ _ h => h) (Or.inl ⟨by kernel_rfl, ?_⟩) hS ?_
            rotate_left
            · intro w hSw
              try dsimp only at hSw
              go_simp
              try with_reducible rfl
            try simp only [Act.put, List.setIfInBounds_toArray, List.set_cons_zero, List.set_cons_succ]
            refine wpAnyX_take (i := 9) (oi := ⟨some 24, _, _, _, _, _⟩) (v := ?_) rfl (by kernel_rfl) (by kernel_rfl) (by kernel_rfl) (by kernel_rfl) (fun _ _ _ h => h) (Or.inl ⟨by kernel_rfl, ?_⟩) hS ?_
            rotate_left
            · intro w hSw
              try dsimp only at hSw
              go_simp
              try with_reducible rfl
            try simp only [Act.put, List.setIfInBounds_toArray, List.set_cons_zero, List.set_cons_succ]
            refine wpAnyX_ready (rs := [0]) (by kernel_rfl) (by simp) ?_
            refine AllReadyX.cons (o := ⟨some 15, _, _, _, _, _⟩) rfl (fun K hK => ?_) AllReadyX.nil
            · go_simp
              have hb := (Below.refl v24.heap.size v24).alloc (Nat.le_refl _) (.cells #[.int .i64 9999999, .int .i64 (-9999999), .int .i64 10000000] 3)
              have hX := ob0 v24 #[.int .i64 9999999, .int .i64 (-9999999), .int .i64 10000000] 3
              have hg1 : rb < v24.heap.size := hR.lt
              have hg1o : ob < v24.heap.size := hO.lt
              have hD := hD.below (hb.mono hD.size)
              have hO := hO.below hb
              have hR := hR.below hb
              have hY := hY.below hb
              have hS0 := hS
              clear hS
              refine hK.out _ _ (fun _ => ⟨trivial, cell_below hb hS0.2⟩) (fun hS => ?_)
              replace hS := hS (by kernel_rfl)
              clear hK K hS0
              try simp only [Act.put, List.setIfInBounds_toArray, List.set_cons_zero, List.set_cons_succ]
              clear hb
              generalize v24.alloc (.cells #[.int .i64 9999999, .int .i64 (-9999999), .int .i64 10000000] 3) = v25 at *
              generalize v24.heap.size = g1 at *
              obtain ⟨z1, hz1⟩ := ob_pick3 hX (show q1 < 3 by omega)
              refine wpAnyX_strong (fun w' => (True ∧ w'.cell? ⟨g2, q2, none⟩ = some (.int .i64 z2)) ∧ w'.cell? ⟨g1, q1, none⟩ = some (.int .i64 z1)) (fun _ h => h.1) _ _ _ _ ?_
              replace hS := And.intro hS hz1
              refine wpAnyX_take (i := 3) (oi := ⟨some 18, _, _, _, _, _⟩) (v := ?_) rfl (by kernel_rfl) (by kernel_rfl) (by kernel_rfl) (by kernel_rfl) (fun _ _ _ h => h) (Or.inl ⟨by kernel_rfl, ?_⟩) hS ?_
              rotate_left
              · intro w hSw
                try dsimp only at hSw
                go_simp
                try with_reducible rfl
              try simp only [Act.put, List.setIfInBounds_toArray, List.set_cons_zero, List.set_cons_succ]
              refine wpAnyX_take (i := 4) (oi := ⟨some 19, _, _, _, _, _⟩) (v := ?_) rfl (by kernel_rfl) (by kernel_rfl) (by kernel_rfl) (by kernel_rfl) (fun _ _ _ h => h) (Or.inl ⟨by kernel_rfl, ?_⟩) hS ?_
              rotate_left
              · intro w hSw
                try dsimp only at hSw
                go_simp
                try with_reducible rfl
              try simp only [Act.put, List.setIfInBounds_toArray, List.set_cons_zero, List.set_cons_succ]
              refine wpAnyX_take (i := 10) (oi := ⟨some 25, _, _, _, _, _⟩) (v := ?_) rfl (by kernel_rfl) (by kernel_rfl) (by kernel_rfl) (by kernel_rfl) (fun _ _ _ h => h) (Or.inl ⟨by kernel_rfl, ?_⟩) hS ?_
              rotate_left
              · intro w hSw
                try dsimp only at hSw
                go_simp
                try with_reducible rfl
              try simp only [Act.put, List.setIfInBounds_toArray, List.set_cons_zero, List.set_cons_succ]
              have k0 := hO.cell 0 rfl
              have k1 := hO.cell 1 rfl
              have f0 := hO.fz 0
              have f1 := hO.fz 1
              refine wpAnyX_ready (rs := [11]) (by kernel_rfl) (by simp) ?_
              refine AllReadyX.cons (o := ⟨none, _, _, _, _, _⟩) rfl (fun K hK => ?_) AllReadyX.nil
              go_simp
              have hS0 := hS
              clear hS
              refine hK.out _ _ (fun _ => ⟨⟨trivial, cell_farS (cell_farS hS0.1.2 (show ob ≠ g2 by omega)) (show ob ≠ g2 by omega)⟩, cell_farS (cell_farS hS0.2 (show ob ≠ g1 by omega)) (show ob ≠ g1 by omega)⟩) (fun hS => ?_)
              clear hS hK K hS0
              try simp only [Act.put, List.setIfInBounds_toArray, List.set_cons_zero, List.set_cons_succ]
              refine wpAnyX_done (by kernel_rfl) ?_ _
              go_wp2
              (try simp only [Exit.inBlock, Exit.then])
              refine bodyPost_ret (v := .agg #[.int .i64 z1, .int .i64 z2]) ?_ rfl (pickF_end hR hD (by omega) hwob hne _ _)
              simp [results, Try.f68]
              go_simp
      · go_simp
        have hb := (Below.refl wc.heap.size wc).alloc (Nat.le_refl _) (.cells #[.int .i64 1, .int .i64 10, .int .i64 9999999] 3)
        have hY := ob0 wc #[.int .i64 1, .int .i64 10, .int .i64 9999999] 3
        have hg2 : rb < wc.heap.size := hR.lt
        have hg2o : ob < wc.heap.size := hO.lt
        have hD := hD.below (hb.mono hD.size)
        have hO := hO.below hb
        have hR := hR.below hb
        have hS0 := hS
        clear hS
        refine hK.out _ _ (fun _ => trivial) (fun hS => ?_)
        replace hS := hS (by kernel_rfl)
        clear hK K hS0
        try simp only [Act.put, List.setIfInBounds_toArray, List.set_cons_zero, List.set_cons_succ]
        clear hb
        generalize wc.alloc (.cells #[.int .i64 1, .int .i64 10, .int .i64 9999999] 3) = v26 at *
        generalize wc.heap.size = g2 at *
        refine wpAnyX_ready (rs := [0, 2]) (by kernel_rfl) (by simp) ?_
        refine AllReadyX.cons (o := ⟨some 15, _, _, _, _, _⟩) rfl (fun K hK => ?_) (AllReadyX.cons (o := ⟨some 17, _, _, _, _, _⟩) rfl (fun K hK => ?_) AllReadyX.nil)
        · go_simp
          have hb := (Below.refl v26.heap.size v26).alloc (Nat.le_refl _) (.cells #[.int .i64 9999999, .int .i64 (-9999999), .int .i64 10000000] 3)
          have hX := ob0 v26 #[.int .i64 9999999, .int .i64 (-9999999), .int .i64 10000000] 3
          have hg1 : rb < v26.heap.size := hR.lt
          have hg1o : ob < v26.heap.size := hO.lt
          have hD := hD.below (hb.mono hD.size)
          have hO := hO.below hb
          have hR := hR.below hb
          have hY := hY.below hb
          have hS0 := hS
          clear hS
          refine hK.out _ _ (fun _ => trivial) (fun hS => ?_)
          replace hS := hS (by kernel_rfl)
          clear hK K hS0
          try simp only [Act.put, List.setIfInBounds_toArray, List.set_cons_zero, List.set_cons_succ]
          clear hb
          generalize v26.alloc (.cells #[.int .i64 9999999, .int .i64 (-9999999), .int .i64 10000000] 3) = v27 at *
          generalize v26.heap.size = g1 at *
          refine wpAnyX_ready (rs := [2]) (by kernel_rfl) (by simp) ?_
          refine AllReadyX.cons (o := ⟨some 17, _, _, _, _, _⟩) rfl (fun K hK => ?_) AllReadyX.nil
          · go_simp
            go_at_call 67
            refine (pick_n rb _ _ _ hR (by omega) (by omega) (by omega)).mono ?_
            rintro e v28 ⟨q1, hq1, rfl, hR, hD'⟩
            have hD := hD.trans hD'
            have hO := hO.dr hD' (by omega)
            have hq10 : (0 : Int) ≤ (q1 : Int) := by omega
            have hY := hY.dr hD' (by omega)
            have hX := hX.dr hD' (by omega)
            have hS0 := hS
            clear hS
            refine hK.out _ _ (fun _ => trivial) (fun hS => ?_)
            replace hS := hS (by kernel_rfl)
            clear hK K hS0
            try simp only [Act.put, List.setIfInBounds_toArray, List.set_cons_zero, List.set_cons_succ]
            clear hD'
            obtain ⟨z1, hz1⟩ := ob_pick3 hX (show q1 < 3 by omega)
            refine wpAnyX_strong (fun w' => True ∧ w'.cell? ⟨g1, q1, none⟩ = some (.int .i64 z1)) (fun _ h => h.1) _ _ _ _ ?_
            replace hS := And.intro hS hz1
            refine wpAnyX_take (i := 3) (oi := ⟨some 18, _, _, _, _, _⟩) (v := ?_) rfl (by kernel_rfl) (by kernel_rfl) (by kernel_rfl) (by kernel_rfl) (fun _ _ _ h => h) (Or.inl ⟨by kernel_rfl, ?_⟩) hS ?_
            rotate_left
            · intro w hSw
              try dsimp only at hSw
              go_simp
              try with_reducible rfl
            try simp only [Act.put, List.setIfInBounds_toArray, List.set_cons_zero, List.set_cons_succ]
            refine wpAnyX_take (i := 4) (oi := ⟨some 19, _, _, _, _, _⟩) (v := ?_) rfl (by kernel_rfl) (by kernel_rfl) (by kernel_rfl) (by kernel_rfl) (fun _ _ _ h => h) (Or.inl ⟨by kernel_rfl, ?_⟩) hS ?_
            rotate_left
            · intro w hSw
              try dsimp only at hSw
              go_simp
              try with_reducible rfl
            try simp only [Act.put, List.setIfInBounds_toArray, List.set_cons_zero, List.set_cons_succ]
            refine wpAnyX_ready (rs := [7]) (by kernel_rfl) (by simp) ?_
            refine AllReadyX.cons (o := ⟨some 22, _, _, _, _, _⟩) rfl (fun K hK => ?_) AllReadyX.nil
            · go_simp
              go_at_call 67
              refine (pick_n rb _ _ _ hR (by omega) (by omega) (by omega)).mono ?_
              rintro e v29 ⟨q2, hq2, rfl, hR, hD'⟩
              have hD := hD.trans hD'
              have hO := hO.dr hD' (by omega)
              have hq20 : (0 : Int) ≤ (q2 : Int) := by omega
              have hY := hY.dr hD' (by omega)
              have hX := hX.dr hD' (by omega)
              have hS0 := hS
              clear hS
              refine hK.out _ _ (fun _ => ⟨trivial, hD'.cell hS0.2 (show g1 ≠ rb by omega)⟩) (fun hS => ?_)
              replace hS := hS (by kernel_rfl)
              clear hK K hS0
              try simp only [Act.put, List.setIfInBounds_toArray, List.set_cons_zero, List.set_cons_succ]
              clear hD'
              obtain ⟨z2, hz2⟩ := ob_pick3 hY (show q2 < 3 by omega)
              refine wpAnyX_strong (fun w' => (True ∧ w'.cell? ⟨g1, q1, none⟩ = some (.int .i64 z1)) ∧ w'.cell? ⟨g2, q2, none⟩ = some (.int .i64 z2)) (fun _ h => h.1) _ _ _ _ ?_
              replace hS := And.intro hS hz2
              refine wpAnyX_take (i := 8) (oi := ⟨some 23, _, _, _, _, _⟩) (v := ?_) rfl (by kernel_rfl) (by kernel_rfl) (by kernel_rfl) (by kernel_rfl) (fun _ _ _ h => h) (Or.inl ⟨by kernel_rfl, ?_⟩) hS ?_
              rotate_left
              · intro w hSw
                try dsimp only at hSw
                go_simp
                try with_reducible rfl
              try simp only [Act.put, List.setIfInBounds_toArray, List.set_cons_zero, List.set_cons_succ]
              refine wpAnyX_take (i := 9) (oi := ⟨some 24, _, _, _, _, _⟩) (v := ?_) rfl (by kernel_rfl) (by kernel_rfl) (by kernel_rfl) (by kernel_rfl) (fun _ _ _ h => h) (Or.inl ⟨by kernel_rfl, ?_⟩) hS ?_
              rotate_left
              · intro w hSw
                try dsimp only at hSw
                go_simp
                try with_reducible rfl
              try simp only [Act.put, List.setIfInBounds_toArray, List.set_cons_zero, List.set_cons_succ]
              refine wpAnyX_take (i := 10) (oi := ⟨some 25, _, _, _, _, _⟩) (v := ?_) rfl (by kernel_rfl) (by kernel_rfl) (by kernel_rfl) (by kernel_rfl) (fun _ _ _ h => h) (Or.inl ⟨by kernel_rfl, ?_⟩) hS ?_
              rotate_left
              · intro w hSw
                try dsimp only at hSw
                go_simp
                try with_reducible rfl
              try simp only [Act.put, List.setIfInBounds_toArray, List.set_cons_zero, List.set_cons_succ]
              have k0 := hO.cell 0 rfl
              have k1 := hO.cell 1 rfl
              have f0 := hO.fz 0
              have f1 := hO.fz 1
              refine wpAnyX_ready (rs := [11]) (by kernel_rfl) (by simp) ?_
              refine AllReadyX.cons (o := ⟨none, _, _, _, _, _⟩) rfl (fun K hK => ?_) AllReadyX.nil
              go_simp
              have hS0 := hS
              clear hS
              refine hK.out _ _ (fun _ => ⟨⟨trivial, cell_farS (cell_farS hS0.1.2 (show ob ≠ g1 by omega)) (show ob ≠ g1 by omega)⟩, cell_farS (cell_farS hS0.2 (show ob ≠ g2 by omega)) (show ob ≠ g2 by omega)⟩) (fun hS => ?_)
              clear hS hK K hS0
              try simp only [Act.put, List.setIfInBounds_toArray, List.set_cons_zero, List.set_cons_succ]
              refine wpAnyX_done (by kernel_rfl) ?_ _
              go_wp2
              (try simp only [Exit.inBlock, Exit.then])
              refine bodyPost_ret (v := .agg #[.int .i64 z1, .int .i64 z2]) ?_ rfl (pickF_end hR hD (by omega) hwob hne _ _)
              simp [results, Try.f68]
              go_simp
        · go_simp
          go_at_call 67
          refine (pick_n rb _ _ _ hR (by omega) (by omega) (by omega)).mono ?_
          rintro e v30 ⟨q1, hq1, rfl, hR, hD'⟩
          have hD := hD.trans hD'
          have hO := hO.dr hD' (by omega)
          have hq10 : (0 : Int) ≤ (q1 : Int) := by omega
          have hY := hY.dr hD' (by omega)
          have hS0 := hS
          clear hS
          refine hK.out _ _ (fun _ => trivial) (fun hS => ?_)
          replace hS := hS (by kernel_rfl)
          clear hK K hS0
          try simp only [Act.put, List.setIfInBounds_toArray, List.set_cons_zero, List.set_cons_succ]
          clear hD'
          refine wpAnyX_ready (rs := [0, 7]) (by kernel_rfl) (by simp) ?_
          refine AllReadyX.cons (o := ⟨some 15, _, _, _, _, _⟩) rfl (fun K hK => ?_) (AllReadyX.cons (o := ⟨some 22, _, _, _, _, _⟩) rfl (fun K hK => ?_) AllReadyX.nil)
          · go_simp
            have hb := (Below.refl v30.heap.size v30).alloc (Nat.le_refl _) (.cells #[.int .i64 9999999, .int .i64 (-9999999), .int .i64 10000000] 3)
            have hX := ob0 v30 #[.int .i64 9999999, .int .i64 (-9999999), .int .i64 10000000] 3
            have hg1 : rb < v30.heap.size := hR.lt
            have hg1o : ob < v30.heap.size := hO.lt
            have hD := hD.below (hb.mono hD.size)
            have hO := hO.below hb
            have hR := hR.below hb
            have hY := hY.below hb
            have hS0 := hS
            clear hS
            refine hK.out _ _ (fun _ => trivial) (fun hS => ?_)
            replace hS := hS (by kernel_rfl)
            clear hK K hS0
            try simp only [Act.put, List.setIfInBounds_toArray, List.set_cons_zero, List.set_cons_succ]
            clear hb
            generalize v30.alloc (.cells #[.int .i64 9999999, .int .i64 (-9999999), .int .i64 10000000] 3) = v31 at *
            generalize v30.heap.size = g1 at *
            obtain ⟨z1, hz1⟩ := ob_pick3 hX (show q1 < 3 by omega)
            refine wpAnyX_strong (fun w' => True ∧ w'.cell? ⟨g1, q1, none⟩ = some (.int .i64 z1)) (fun _ h => h.1) _ _ _ _ ?_
            replace hS := And.intro hS hz1
            refine wpAnyX_take (i := 3) (oi := ⟨some 18, _, _, _, _, _⟩) (v := ?_) rfl (by kernel_rfl) (by kernel_rfl) (by kernel_rfl) (by kernel_rfl) (fun _ _ _ h => h) (Or.inl ⟨by kernel_rfl, ?_⟩) hS ?_
            rotate_left
            · intro w hSw
              try dsimp only at hSw
              go_simp
              try with_reducible rfl
            try simp only [Act.put, List.setIfInBounds_toArray, List.set_cons_zero, List.set_cons_succ]
            refine wpAnyX_take (i := 4) (oi := ⟨some 19, _, _, _, _, _⟩) (v := ?_) rfl (by kernel_rfl) (by kernel_rfl) (by kernel_rfl) (by kernel_rfl) (fun _ _ _ h => h) (Or.inl ⟨by kernel_rfl, ?_⟩) hS ?_
            rotate_left
            · intro w hSw
              try dsimp only at hSw
              go_simp
              try with_reducible rfl
            try simp only [Act.put, List.setIfInBounds_toArray, List.set_cons_zero, List.set_cons_succ]
            refine wpAnyX_ready (rs := [7]) (by kernel_rfl) (by simp) ?_
            refine AllReadyX.cons (o := ⟨some 22, _, _, _, _, _⟩) rfl (fun K hK => ?_) AllReadyX.nil
            · go_simp
              go_at_call 67
              refine (pick_n rb _ _ _ hR (by omega) (by omega) (by omega)).mono ?_
              rintro e v32 ⟨q2, hq2, rfl, hR, hD'⟩
              have hD := hD.trans hD'
              have hO := hO.dr hD' (by omega)
              have hq20 : (0 : Int) ≤ (q2 : Int) := by omega
              have hY := hY.dr hD' (by omega)
              have hX := hX.dr hD' (by omega)
              have hS0 := hS
              clear hS
              refine hK.out _ _ (fun _ => ⟨trivial, hD'.cell hS0.2 (show g1 ≠ rb by omega)⟩) (fun hS => ?_)
              replace hS := hS (by kernel_rfl)
              clear hK K hS0
              try simp only [Act.put, List.setIfInBounds_toArray, List.set_cons_zero, List.set_cons_succ]
              clear hD'
              obtain ⟨z2, hz2⟩ := ob_pick3 hY (show q2 < 3 by omega)
              refine wpAnyX_strong (fun w' => (True ∧ w'.cell? ⟨g1, q1, none⟩ = some (.int .i64 z1)) ∧ w'.cell? ⟨g2, q2, none⟩ = some (.int .i64 z2)) (fun _ h => h.1) _ _ _ _ ?_
              replace hS := And.intro hS hz2
              refine wpAnyX_take (i := 8) (oi := ⟨some 23, _, _, _, _, _⟩) (v := ?_) rfl (by kernel_rfl) (by kernel_rfl) (by kernel_rfl) (by kernel_rfl) (fun _ _ _ h => h) (Or.inl ⟨by kernel_rfl, ?_⟩) hS ?_
              rotate_left
              · intro w hSw
                try dsimp only at hSw
                go_simp
                try with_reducible rfl
              try simp only [Act.put, List.setIfInBounds_toArray, List.set_cons_zero, List.set_cons_succ]
              refine wpAnyX_take (i := 9) (oi := ⟨some 24, _, _, _, _, _⟩) (v := ?_) rfl (by kernel_rfl) (by kernel_rfl) (by kernel_rfl) (by kernel_rfl) (fun _ _ _ h => h) (Or.inl ⟨by kernel_rfl, ?_⟩) hS ?_
              rotate_left
              · intro w hSw
                try dsimp only at hSw
                go_simp
                try with_reducible rfl
              try simp only [Act.put, List.setIfInBounds_toArray, List.set_cons_zero, List.set_cons_succ]
              refine wpAnyX_take (i := 10) (oi := ⟨some 25, _, _, _, _, _⟩) (v := ?_) rfl (by kernel_rfl) (by kernel_rfl) (by kernel_rfl) (by kernel_rfl) (fun _ _ _ h => h) (Or.inl ⟨by kernel_rfl, ?_⟩) hS ?_
              rotate_left
              · intro w hSw
                try dsimp only at hSw
                go_simp
                try with_reducible rfl
              try simp only [Act.put, List.setIfInBounds_toArray, List.set_cons_zero, List.set_cons_succ]
              have k0 := hO.cell 0 rfl
              have k1 := hO.cell 1 rfl
              have f0 := hO.fz 0
              have f1 := hO.fz 1
              refine wpAnyX_ready (rs := [11]) (by kernel_rfl) (by simp) ?_
              refine AllReadyX.cons (o := ⟨none, _, _, _, _, _⟩) rfl (fun K hK => ?_) AllReadyX.nil
              go_simp
              have hS0 := hS
              clear hS
              refine hK.out _ _ (fun _ => ⟨⟨trivial, cell_farS (cell_farS hS0.1.2 (show ob ≠ g1 by omega)) (show ob ≠ g1 by omega)⟩, cell_farS (cell_farS hS0.2 (show ob ≠ g2 by omega)) (show ob ≠ g2 by omega)⟩) (fun hS => ?_)
              clear hS hK K hS0
              try simp only [Act.put, List.setIfInBounds_toArray, List.set_cons_zero, List.set_cons_succ]
              refine wpAnyX_done (by kernel_rfl) ?_ _
              go_wp2
              (try simp only [Exit.inBlock, Exit.then])
              refine bodyPost_ret (v := .agg #[.int .i64 z1, .int .i64 z2]) ?_ rfl (pickF_end hR hD (by omega) hwob hne _ _)
              simp [results, Try.f68]
              go_simp
          · go_simp
            go_at_call 67
            refine (pick_n rb _ _ _ hR (by omega) (by omega) (by omega)).mono ?_
            rintro e v33 ⟨q2, hq2, rfl, hR, hD'⟩
            have hD := hD.trans hD'
            have hO := hO.dr hD' (by omega)
            have hq20 : (0 : Int) ≤ (q2 : Int) := by omega
            have hY := hY.dr hD' (by omega)
            have hS0 := hS
            clear hS
            refine hK.out _ _ (fun _ => trivial) (fun hS => ?_)
            replace hS := hS (by kernel_rfl)
            clear hK K hS0
            try simp only [Act.put, List.setIfInBounds_toArray, List.set_cons_zero, List.set_cons_succ]
            clear hD'
            obtain ⟨z2, hz2⟩ := ob_pick3 hY (show q2 < 3 by omega)
            refine wpAnyX_strong (fun w' => True ∧ w'.cell? ⟨g2, q2, none⟩ = some (.int .i64 z2)) (fun _ h => h.1) _ _ _ _ ?_
            replace hS := And.intro hS hz2
            refine wpAnyX_take (i := 8) (oi := ⟨some 23, _, _, _, _, _⟩) (v := ?_) rfl (by kernel_rfl) (by kernel_rfl) (by kernel_rfl) (by kernel_rfl) (fun _ _ _ h => h) (Or.inl ⟨by kernel_rfl, ?_⟩) hS ?_
            rotate_left
            · intro w hSw
              try dsimp only at hSw
              go_simp
              try with_reducible rfl
            try simp only [Act.put, List.setIfInBounds_toArray, List.set_cons_zero, List.set_cons_succ]
            refine wpAnyX_take (i := 9) (oi := ⟨some 24, _, _, _, _, _⟩) (v := ?_) rfl (by kernel_rfl) (by kernel_rfl) (by kernel_rfl) (by kernel_rfl) (fun _ _ _ h => h) (Or.inl ⟨by kernel_rfl, ?_⟩) hS ?_
            rotate_left
            · intro w hSw
              try dsimp only at hSw
              go_simp
              try with_reducible rfl
            try simp only [Act.put, List.setIfInBounds_toArray, List.set_cons_zero, List.set_cons_succ]
            refine wpAnyX_ready (rs := [0]) (by kernel_rfl) (by simp) ?_
            refine AllReadyX.cons (o := ⟨some 15, _, _, _, _, _⟩) rfl (fun K hK => ?_) AllReadyX.nil
            · go_simp
              have hb := (Below.refl v33.heap.size v33).alloc (Nat.le_refl _) (.cells #[.int .i64 9999999, .int .i64 (-9999999), .int .i64 10000000] 3)
              have hX := ob0 v33 #[.int .i64 9999999, .int .i64 (-9999999), .int .i64 10000000] 3
              have hg1 : rb < v33.heap.size := hR.lt
              have hg1o : ob < v33.heap.size := hO.lt
              have hD := hD.below (hb.mono hD.size)
              have hO := hO.below hb
              have hR := hR.below hb
              have hY := hY.below hb
              have hS0 := hS
              clear hS
              refine hK.out _ _ (fun _ => ⟨trivial, cell_below hb hS0.2⟩) (fun hS => ?_)
              replace hS := hS (by kernel_rfl)
              clear hK K hS0
              try simp only [Act.put, List.setIfInBounds_toArray, List.set_cons_zero, List.set_cons_succ]
              clear hb
              generalize v33.alloc (.cells #[.int .i64 9999999, .int .i64 (-9999999), .int .i64 10000000] 3) = v34 at *
              generalize v33.heap.size = g1 at *
              obtain ⟨z1, hz1⟩ := ob_pick3 hX (show q1 < 3 by omega)
              refine wpAnyX_strong (fun w' => (True ∧ w'.cell? ⟨g2, q2, none⟩ = some (.int .i64 z2)) ∧ w'.cell? ⟨g1, q1, none⟩ = some (.int .i64 z1)) (fun _ h => h.1) _ _ _ _ ?_
              replace hS := And.intro hS hz1
              refine wpAnyX_take (i := 3) (oi := ⟨some 18, _, _, _, _, _⟩) (v := ?_) rfl (by kernel_rfl) (by kernel_rfl) (by kernel_rfl) (by kernel_rfl) (fun _ _ _ h => h) (Or.inl ⟨by kernel_rfl, ?_⟩) hS ?_
              rotate_left
              · intro w hSw
                try dsimp only at hSw
                go_simp
                try with_reducible rfl
              try simp only [Act.put, List.setIfInBounds_toArray, List.set_cons_zero, List.set_cons_succ]
              refine wpAnyX_take (i := 4) (oi := ⟨some 19, _, _, _, _, _⟩) (v := ?_) rfl (by kernel_rfl) (by kernel_rfl) (by kernel_rfl) (by kernel_rfl) (fun _ _ _ h => h) (Or.inl ⟨by kernel_rfl, ?_⟩) hS ?_
              rotate_left
              · intro w hSw
                try dsimp only at hSw
                go_simp
                try with_reducible rfl
              try simp only [Act.put, List.setIfInBounds_toArray, List.set_cons_zero, List.set_cons_succ]
              refine wpAnyX_take (i := 10) (oi := ⟨some 25, _, _, _, _, _⟩) (v := ?_) rfl (by kernel_rfl) (by kernel_rfl) (by kernel_rfl) (by kernel_rfl) (fun _ _ _ h => h) (Or.inl ⟨by kernel_rfl, ?_⟩) hS ?_
              rotate_left
              · intro w hSw
                try dsimp only at hSw
                go_simp
                try with_reducible rfl
              try simp only [Act.put, List.setIfInBounds_toArray, List.set_cons_zero, List.set_cons_succ]
              have k0 := hO.cell 0 rfl
              have k1 := hO.cell 1 rfl
              have f0 := hO.fz 0
              have f1 := hO.fz 1
              refine wpAnyX_ready (rs := [11]) (by kernel_rfl) (by simp) ?_
              refine AllReadyX.cons (o := ⟨none, _, _, _, _, _⟩) rfl (fun K hK => ?_) AllReadyX.nil
              go_simp
              have hS0 := hS
              clear hS
              refine hK.out _ _ (fun _ => ⟨⟨trivial, cell_farS (cell_farS hS0.1.2 (show ob ≠ g2 by omega)) (show ob ≠ g2 by omega)⟩, cell_farS (cell_farS hS0.2 (show ob ≠ g1 by omega)) (show ob ≠ g1 by omega)⟩) (fun hS => ?_)
              clear hS hK K hS0
              try simp only [Act.put, List.setIfInBounds_toArray, List.set_cons_zero, List.set_cons_succ]
              refine wpAnyX_done (by kernel_rfl) ?_ _
              go_wp2
              (try simp only [Exit.inBlock, Exit.then])
              refine bodyPost_ret (v := .agg #[.int .i64 z1, .int .i64 z2]) ?_ rfl (pickF_end hR hD (by omega) hwob hne _ _)
              simp [results, Try.f68]
              go_simp
    · have hb1 : ((q0 : Int) == 1) = false := by simp; omega
      go_wp2_with fail
      refine (pick_n rb _ _ _ hR (by omega) (by omega) (by omega)).mono ?_
      rintro e w3 ⟨q1, hq1, rfl, hR, hD'⟩
      have hD := hD.trans hD'
      have hO := hO.dr hD' (by omega)
      obtain ⟨x, hx, hx0, hx1⟩ : ∃ x : Int, (q1 : Int) - 20 = x ∧ -1000 ≤ x ∧ x ≤ 1000 := ⟨_, rfl, by omega, by omega⟩
      go_wp2_with fail
      refine (pick_n rb _ _ _ hR (by omega) (by omega) (by omega)).mono ?_
      rintro e w4 ⟨q2, hq2, rfl, hR, hD'⟩
      have hD := hD.trans hD'
      have hO := hO.dr hD' (by omega)
      obtain ⟨y, hy, hy0, hy1⟩ : ∃ y : Nat, 1 + (q2 : Int) = (y : Int) ∧ 0 < y ∧ y ≤ 1000 := ⟨1 + q2, by omega, by omega, by omega⟩
      clear hD'
      go_wp2_with fail
      refine (l5Of_some x y _ hx0 hx1 hy1 hy0).mono ?_
      rintro e w5 ⟨a, b, rfl, hb⟩
      have hD := hD.below (hb.mono hD.size)
      have hO := hO.below hb
      have hR := hR.below hb
      have k0 := hO.cell 0 rfl
      have k1 := hO.cell 1 rfl
      have f0 := hO.fz 0
      have f1 := hO.fz 1
      go_wp2
      (try simp only [Exit.inBlock, Exit.then])
      refine bodyPost_ret (v := .agg #[.int .i64 a, .int .i64 b]) ?_ rfl (pickF_end hR hD (by omega) hwob hne _ _)
      simp [results, Try.f68]
      go_simp
end Go.Proofs.Ytiinfbjlkbjmmaa
