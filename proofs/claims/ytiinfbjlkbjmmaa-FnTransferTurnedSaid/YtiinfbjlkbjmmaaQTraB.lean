/-
  The reference's way to find who is first or last.
-/
import Derived.Test.YtiinfbjlkbjmmaaQTraC
namespace Go.Proofs.Ytiinfbjlkbjmmaa
open Go.RowKit
set_option maxRecDepth 100000 in
theorem stepHi_l {cs : List Fr} {left : List Bool} {b : Int} {p : Nat} (hp : left[p]? = some true) : stepHi cs left b (p : Int) = b := by
  unfold stepHi
  rw [atB_at hp, if_pos rfl]
set_option maxRecDepth 100000 in
theorem stepLo_l {cs : List Fr} {left : List Bool} {b : Int} {p : Nat} (hp : left[p]? = some true) : stepLo cs left b (p : Int) = b := by
  unfold stepLo
  rw [atB_at hp, if_pos rfl]
set_option maxRecDepth 100000 in
theorem stepHi_t {cs : List Fr} {left : List Bool} {q p : Nat} {x y : Fr} (hp : left[p]? = some false) (hx : cs[q]? = some x) (hy : cs[p]? = some y) (h : lessP x y = true) : stepHi cs left (q : Int) (p : Int) = (p : Int) := by
  unfold stepHi
  rw [atB_at hp, if_neg (by simp), atF_at hx, atF_at hy, if_pos (.inr h)]
set_option maxRecDepth 100000 in
theorem stepHi_f {cs : List Fr} {left : List Bool} {q p : Nat} {x y : Fr} (hp : left[p]? = some false) (hx : cs[q]? = some x) (hy : cs[p]? = some y) (h : lessP x y = false) : stepHi cs left (q : Int) (p : Int) = (q : Int) := by
  unfold stepHi
  rw [atB_at hp, if_neg (by simp), atF_at hx, atF_at hy, if_neg (by rw [h]; simp)]
set_option maxRecDepth 100000 in
theorem stepLo_t {cs : List Fr} {left : List Bool} {q p : Nat} {x y : Fr} (hp : left[p]? = some false) (hx : cs[q]? = some x) (hy : cs[p]? = some y) (h : lessP x y = false) : stepLo cs left (q : Int) (p : Int) = (p : Int) := by
  unfold stepLo
  rw [atB_at hp, if_neg (by simp), atF_at hx, atF_at hy, if_pos (.inr h)]
set_option maxRecDepth 100000 in
theorem stepLo_f {cs : List Fr} {left : List Bool} {q p : Nat} {x y : Fr} (hp : left[p]? = some false) (hx : cs[q]? = some x) (hy : cs[p]? = some y) (h : lessP x y = true) : stepLo cs left (q : Int) (p : Int) = (q : Int) := by
  unfold stepLo
  rw [atB_at hp, if_neg (by simp), atF_at hx, atF_at hy, if_neg (by rw [h]; simp)]
/-- What is asked of counts. -/
structure FrOk (cs : List Fr) (n B : Nat) : Prop where
  len : cs.length = n
  b1 : 1 ≤ B
  b60 : B ≤ 60
  all : ∀ f ∈ cs, FrB B 60 f
set_option maxRecDepth 100000 in
theorem FrOk.fv {cs : List Fr} {n B : Nat} (h : FrOk cs n B) {k : Nat} {x y : Nat} (hk : cs[k]? = some (x, y)) : fvN x y = true := (h.all _ (List.mem_of_getElem? hk)).fv h.b1 h.b60 (Nat.le_refl _)
set_option maxRecDepth 100000 in
set_option maxHeartbeats 3200000 in
theorem l15Least_any (A1 A2 A3 : Option Addr) (cs : List Fr) (left : List Bool) (lots : List Int) (B c1 c2 c3 : Nat) (w : World) (h1 : Fracs w A1 cs) (h2 : Bools w A2 left) (h3 : Ints w A3 lots) (hc : Hid (FrOk cs left.length B)) (hl : lots.length ≤ 5) (hl5 : left.length ≤ 5) (hr : Hid (∀ l ∈ lots, 0 ≤ l ∧ l < (left.length : Int))) :
    Calls Try.prog 88 #[.slice A1 left.length c1, .slice A2 left.length c2, .slice A3 lots.length c3, .bool true] w (Bl w (.int .i64 (leastT cs left lots))) := by
  go_enter Try.func88, Try.ntmps88
  go_wp2
  go_loopw [9, 10, 11] (fun b i _ wr => ∃ (k : Nat) (z : Int), k ≤ lots.length ∧ i = .int .i64 k ∧ b = .int .i64 z ∧ Hid ((lots.take k).foldl (stepLo cs left) (-1) = z) ∧ (z = -1 ∨ ∃ q : Nat, z = (q : Int) ∧ q < left.length) ∧ Below w.heap.size w wr) (fun _ i _ _ => lots.length - (intOf i).toNat)
  case atStart => exact ⟨0, -1, by omega, rfl, rfl, Lib.hid rfl, .inl rfl, Below.refl _ _⟩
  case round =>
    obtain ⟨k, z, hk, rfl, rfl, hz, hzz, hbel⟩ := hrel
    by_cases hlt : k < lots.length
    · obtain ⟨ad3, l, e3, hl', hcl⟩ := (h3.below hbel).at_ hlt
      subst e3
      have hrl := hr.out l (mem_of_at hl'.out)
      obtain ⟨p, rfl⟩ := Int.eq_ofNat_of_zero_le hrl.1
      have hp : p < left.length := by have := hrl.2; omega
      clear hrl
      obtain ⟨ad2, bk, e2, hb, hcb⟩ := (h2.below hbel).at_ hp
      subst e2
      have hS := Lib.hid (fold_snoc (f := stepLo cs left) (a := (-1 : Int)) hl'.out)
      cases bk
      · rcases hzz with rfl | ⟨q, rfl, hq⟩
        · have hN := Lib.hid (hS.out.trans (by rw [hz.out, stepLo_first (by omega) (atB_at hb.out)]))
          go_wp2
          go_roundw
          case rel => exact ⟨k + 1, (p : Int), by omega, by go_num, rfl, hN, .inr ⟨p, rfl, hp⟩, hbel⟩
          case measure => simp [intOf]; omega
        · obtain ⟨ad1, x, y, e1, hxy, cx, cy⟩ := (h1.below hbel).at_ (k := q) (by have := hc.out.len; omega)
          subst e1
          obtain ⟨ad1', x', y', e1, hxy', cx', cy'⟩ := (h1.below hbel).at_ (k := p) (by have := hc.out.len; omega)
          obtain rfl : ad1 = ad1' := by injection e1
          clear e1
          have cL := Lib.hid (fun w => specFracLess_any x y x' y' w (hc.out.fv hxy.out) (hc.out.fv hxy'.out))
          have hq0 : (0 : Int) ≤ (q : Int) := by omega
          have hq1 : (q : Int) < (left.length : Int) := by omega
          have hp0 : (0 : Int) ≤ (p : Int) := by omega
          have hp1 : (p : Int) < (left.length : Int) := by omega
          cases ht : lessP (x, y) (x', y')
          · have hN := Lib.hid (hS.out.trans (by rw [hz.out, stepLo_t hb.out hxy.out hxy'.out ht]))
            rw [ht] at cL
            clear ht
            go_wp2
            refine wp_region_X (fun w' => w'.cell? (ad1.add (q * 2)) = some (.int .i64 x) ∧ w'.cell? ⟨(ad1.add (q * 2)).block, (ad1.add (q * 2)).off + 1, none⟩ = some (.int .i64 y) ∧ w'.cell? (ad1.add (p * 2)) = some (.int .i64 x') ∧ w'.cell? ⟨(ad1.add (p * 2)).block, (ad1.add (p * 2)).off + 1, none⟩ = some (.int .i64 y') ∧ Below w.heap.size w w') 1000 (by kernel_rfl) ?_ (fun hS => ?_)
            · exact ⟨cell_drew cx, cell_drew cy, cell_drew cx', cell_drew cy', hbel.drew⟩
            refine wpAnyX_take (i := 0) (oi := ⟨some 32, _, _, _, _, _⟩) (v := ?_) rfl (by kernel_rfl) (by kernel_rfl) (by kernel_rfl) (by kernel_rfl) (fun _ _ _ h => h) (Or.inl ⟨by kernel_rfl, ?_⟩) hS ?_
            rotate_left
            · intro w hSw
              try dsimp only at hSw
              go_simp
              try with_reducible rfl
            try simp only [Act.put, List.setIfInBounds_toArray, List.set_cons_zero, List.set_cons_succ]
            refine wpAnyX_take (i := 1) (oi := ⟨some 33, _, _, _, _, _⟩) (v := ?_) rfl (by kernel_rfl) (by kernel_rfl) (by kernel_rfl) (by kernel_rfl) (fun _ _ _ h => h) (Or.inl ⟨by kernel_rfl, ?_⟩) hS ?_
            rotate_left
            · intro w hSw
              try dsimp only at hSw
              go_simp
              try with_reducible rfl
            try simp only [Act.put, List.setIfInBounds_toArray, List.set_cons_zero, List.set_cons_succ]
            refine wpAnyX_take (i := 2) (oi := ⟨some 34, _, _, _, _, _⟩) (v := ?_) rfl (by kernel_rfl) (by kernel_rfl) (by kernel_rfl) (by kernel_rfl) (fun _ _ _ h => h) (Or.inl ⟨by kernel_rfl, ?_⟩) hS ?_
            rotate_left
            · intro w hSw
              try dsimp only at hSw
              go_simp
              try with_reducible rfl
            try simp only [Act.put, List.setIfInBounds_toArray, List.set_cons_zero, List.set_cons_succ]
            refine wpAnyX_take (i := 3) (oi := ⟨some 35, _, _, _, _, _⟩) (v := ?_) rfl (by kernel_rfl) (by kernel_rfl) (by kernel_rfl) (by kernel_rfl) (fun _ _ _ h => h) (Or.inl ⟨by kernel_rfl, ?_⟩) hS ?_
            rotate_left
            · intro w hSw
              try dsimp only at hSw
              go_simp
              try with_reducible rfl
            try simp only [Act.put, List.setIfInBounds_toArray, List.set_cons_zero, List.set_cons_succ]
            refine wpAnyX_take (i := 4) (oi := ⟨some 36, _, _, _, _, _⟩) (v := ?_) rfl (by kernel_rfl) (by kernel_rfl) (by kernel_rfl) (by kernel_rfl) (fun _ _ _ h => h) (Or.inl ⟨by kernel_rfl, ?_⟩) hS ?_
            rotate_left
            · intro w hSw
              try dsimp only at hSw
              go_simp
              try with_reducible rfl
            try simp only [Act.put, List.setIfInBounds_toArray, List.set_cons_zero, List.set_cons_succ]
            refine wpAnyX_take (i := 5) (oi := ⟨some 37, _, _, _, _, _⟩) (v := ?_) rfl (by kernel_rfl) (by kernel_rfl) (by kernel_rfl) (by kernel_rfl) (fun _ _ _ h => h) (Or.inl ⟨by kernel_rfl, ?_⟩) hS ?_
            rotate_left
            · intro w hSw
              try dsimp only at hSw
              go_simp
              try with_reducible rfl
            try simp only [Act.put, List.setIfInBounds_toArray, List.set_cons_zero, List.set_cons_succ]
            refine wpAnyX_take (i := 6) (oi := ⟨some 38, _, _, _, _, _⟩) (v := ?_) rfl (by kernel_rfl) (by kernel_rfl) (by kernel_rfl) (by kernel_rfl) (fun _ _ _ h => h) (Or.inl ⟨by kernel_rfl, ?_⟩) hS ?_
            rotate_left
            · intro w hSw
              try dsimp only at hSw
              go_simp
              try with_reducible rfl
            try simp only [Act.put, List.setIfInBounds_toArray, List.set_cons_zero, List.set_cons_succ]
            refine wpAnyX_take (i := 7) (oi := ⟨some 39, _, _, _, _, _⟩) (v := ?_) rfl (by kernel_rfl) (by kernel_rfl) (by kernel_rfl) (by kernel_rfl) (fun _ _ _ h => h) (Or.inl ⟨by kernel_rfl, ?_⟩) hS ?_
            rotate_left
            · intro w hSw
              try dsimp only at hSw
              go_simp
              try with_reducible rfl
            try simp only [Act.put, List.setIfInBounds_toArray, List.set_cons_zero, List.set_cons_succ]
            refine wpAnyX_take (i := 8) (oi := ⟨some 40, _, _, _, _, _⟩) (v := ?_) rfl (by kernel_rfl) (by kernel_rfl) (by kernel_rfl) (by kernel_rfl) (fun _ _ _ h => h) (Or.inl ⟨by kernel_rfl, ?_⟩) hS ?_
            rotate_left
            · intro w hSw
              try dsimp only at hSw
              go_simp
              try with_reducible rfl
            try simp only [Act.put, List.setIfInBounds_toArray, List.set_cons_zero, List.set_cons_succ]
            refine wpAnyX_take (i := 9) (oi := ⟨some 41, _, _, _, _, _⟩) (v := ?_) rfl (by kernel_rfl) (by kernel_rfl) (by kernel_rfl) (by kernel_rfl) (fun _ _ _ h => h) (Or.inl ⟨by kernel_rfl, ?_⟩) hS ?_
            rotate_left
            · intro w hSw
              try dsimp only at hSw
              go_simp
              try with_reducible rfl
            try simp only [Act.put, List.setIfInBounds_toArray, List.set_cons_zero, List.set_cons_succ]
            refine wpAnyX_ready (rs := [10]) (by kernel_rfl) (by simp) ?_
            refine AllReadyX.cons (o := ⟨some 42, _, _, _, _, _⟩) rfl (fun K hK => ?_) AllReadyX.nil
            go_simp
            (go_at_call 89; refine (cL.out _).mono ?_; rintro e w4 ⟨rfl, hb4⟩)
            have hS0 := hS
            clear hS
            refine hK.out _ _ (fun _ => ⟨cell_below hb4 hS0.1, cell_below hb4 hS0.2.1, cell_below hb4 hS0.2.2.1, cell_below hb4 hS0.2.2.2.1, below_down hS0.2.2.2.2 hb4⟩) (fun hS => ?_)
            replace hS := hS (by kernel_rfl)
            clear hK K hS0
            try simp only [Act.put, List.setIfInBounds_toArray, List.set_cons_zero, List.set_cons_succ]
            refine wpAnyX_take (i := 11) (oi := ⟨some 43, _, _, _, _, _⟩) (v := ?_) rfl (by kernel_rfl) (by kernel_rfl) (by kernel_rfl) (by kernel_rfl) (fun _ _ _ h => h) (Or.inl ⟨by kernel_rfl, ?_⟩) hS ?_
            rotate_left
            · intro w hSw
              try dsimp only at hSw
              go_simp
              try with_reducible rfl
            try simp only [Act.put, List.setIfInBounds_toArray, List.set_cons_zero, List.set_cons_succ]
            refine wpAnyX_take (i := 12) (oi := ⟨some 44, _, _, _, _, _⟩) (v := ?_) rfl (by kernel_rfl) (by kernel_rfl) (by kernel_rfl) (by kernel_rfl) (fun _ _ _ h => h) (Or.inl ⟨by kernel_rfl, ?_⟩) hS ?_
            rotate_left
            · intro w hSw
              try dsimp only at hSw
              go_simp
              try with_reducible rfl
            try simp only [Act.put, List.setIfInBounds_toArray, List.set_cons_zero, List.set_cons_succ]
            refine wpAnyX_take (i := 13) (oi := ⟨some 31, _, _, _, _, _⟩) (v := ?_) rfl (by kernel_rfl) (by kernel_rfl) (by kernel_rfl) (by kernel_rfl) (fun _ _ _ h => h) (Or.inl ⟨by kernel_rfl, ?_⟩) hS ?_
            rotate_left
            · intro w hSw
              try dsimp only at hSw
              go_simp
              try with_reducible rfl
            try simp only [Act.put, List.setIfInBounds_toArray, List.set_cons_zero, List.set_cons_succ]
            refine wpAnyX_done (by kernel_rfl) ?_ _
            go_wp2
            go_roundw
            case rel => exact ⟨k + 1, (p : Int), by omega, by go_num, rfl, hN, .inr ⟨p, rfl, hp⟩, hS.2.2.2.2⟩
            case measure => simp [intOf]; omega
          · have hN := Lib.hid (hS.out.trans (by rw [hz.out, stepLo_f hb.out hxy.out hxy'.out ht]))
            rw [ht] at cL
            clear ht
            go_wp2
            refine wp_region_X (fun w' => w'.cell? (ad1.add (q * 2)) = some (.int .i64 x) ∧ w'.cell? ⟨(ad1.add (q * 2)).block, (ad1.add (q * 2)).off + 1, none⟩ = some (.int .i64 y) ∧ w'.cell? (ad1.add (p * 2)) = some (.int .i64 x') ∧ w'.cell? ⟨(ad1.add (p * 2)).block, (ad1.add (p * 2)).off + 1, none⟩ = some (.int .i64 y') ∧ Below w.heap.size w w') 1000 (by kernel_rfl) ?_ (fun hS => ?_)
            · exact ⟨cell_drew cx, cell_drew cy, cell_drew cx', cell_drew cy', hbel.drew⟩
            refine wpAnyX_take (i := 0) (oi := ⟨some 32, _, _, _, _, _⟩) (v := ?_) rfl (by kernel_rfl) (by kernel_rfl) (by kernel_rfl) (by kernel_rfl) (fun _ _ _ h => h) (Or.inl ⟨by kernel_rfl, ?_⟩) hS ?_
            rotate_left
            · intro w hSw
              try dsimp only at hSw
              go_simp
              try with_reducible rfl
            try simp only [Act.put, List.setIfInBounds_toArray, List.set_cons_zero, List.set_cons_succ]
            refine wpAnyX_take (i := 1) (oi := ⟨some 33, _, _, _, _, _⟩) (v := ?_) rfl (by kernel_rfl) (by kernel_rfl) (by kernel_rfl) (by kernel_rfl) (fun _ _ _ h => h) (Or.inl ⟨by kernel_rfl, ?_⟩) hS ?_
            rotate_left
            · intro w hSw
              try dsimp only at hSw
              go_simp
              try with_reducible rfl
            try simp only [Act.put, List.setIfInBounds_toArray, List.set_cons_zero, List.set_cons_succ]
            refine wpAnyX_take (i := 2) (oi := ⟨some 34, _, _, _, _, _⟩) (v := ?_) rfl (by kernel_rfl) (by kernel_rfl) (by kernel_rfl) (by kernel_rfl) (fun _ _ _ h => h) (Or.inl ⟨by kernel_rfl, ?_⟩) hS ?_
            rotate_left
            · intro w hSw
              try dsimp only at hSw
              go_simp
              try with_reducible rfl
            try simp only [Act.put, List.setIfInBounds_toArray, List.set_cons_zero, List.set_cons_succ]
            refine wpAnyX_take (i := 3) (oi := ⟨some 35, _, _, _, _, _⟩) (v := ?_) rfl (by kernel_rfl) (by kernel_rfl) (by kernel_rfl) (by kernel_rfl) (fun _ _ _ h => h) (Or.inl ⟨by kernel_rfl, ?_⟩) hS ?_
            rotate_left
            · intro w hSw
              try dsimp only at hSw
              go_simp
              try with_reducible rfl
            try simp only [Act.put, List.setIfInBounds_toArray, List.set_cons_zero, List.set_cons_succ]
            refine wpAnyX_take (i := 4) (oi := ⟨some 36, _, _, _, _, _⟩) (v := ?_) rfl (by kernel_rfl) (by kernel_rfl) (by kernel_rfl) (by kernel_rfl) (fun _ _ _ h => h) (Or.inl ⟨by kernel_rfl, ?_⟩) hS ?_
            rotate_left
            · intro w hSw
              try dsimp only at hSw
              go_simp
              try with_reducible rfl
            try simp only [Act.put, List.setIfInBounds_toArray, List.set_cons_zero, List.set_cons_succ]
            refine wpAnyX_take (i := 5) (oi := ⟨some 37, _, _, _, _, _⟩) (v := ?_) rfl (by kernel_rfl) (by kernel_rfl) (by kernel_rfl) (by kernel_rfl) (fun _ _ _ h => h) (Or.inl ⟨by kernel_rfl, ?_⟩) hS ?_
            rotate_left
            · intro w hSw
              try dsimp only at hSw
              go_simp
              try with_reducible rfl
            try simp only [Act.put, List.setIfInBounds_toArray, List.set_cons_zero, List.set_cons_succ]
            refine wpAnyX_take (i := 6) (oi := ⟨some 38, _, _, _, _, _⟩) (v := ?_) rfl (by kernel_rfl) (by kernel_rfl) (by kernel_rfl) (by kernel_rfl) (fun _ _ _ h => h) (Or.inl ⟨by kernel_rfl, ?_⟩) hS ?_
            rotate_left
            · intro w hSw
              try dsimp only at hSw
              go_simp
              try with_reducible rfl
            try simp only [Act.put, List.setIfInBounds_toArray, List.set_cons_zero, List.set_cons_succ]
            refine wpAnyX_take (i := 7) (oi := ⟨some 39, _, _, _, _, _⟩) (v := ?_) rfl (by kernel_rfl) (by kernel_rfl) (by kernel_rfl) (by kernel_rfl) (fun _ _ _ h => h) (Or.inl ⟨by kernel_rfl, ?_⟩) hS ?_
            rotate_left
            · intro w hSw
              try dsimp only at hSw
              go_simp
              try with_reducible rfl
            try simp only [Act.put, List.setIfInBounds_toArray, List.set_cons_zero, List.set_cons_succ]
            refine wpAnyX_take (i := 8) (oi := ⟨some 40, _, _, _, _, _⟩) (v := ?_) rfl (by kernel_rfl) (by kernel_rfl) (by kernel_rfl) (by kernel_rfl) (fun _ _ _ h => h) (Or.inl ⟨by kernel_rfl, ?_⟩) hS ?_
            rotate_left
            · intro w hSw
              try dsimp only at hSw
              go_simp
              try with_reducible rfl
            try simp only [Act.put, List.setIfInBounds_toArray, List.set_cons_zero, List.set_cons_succ]
            refine wpAnyX_take (i := 9) (oi := ⟨some 41, _, _, _, _, _⟩) (v := ?_) rfl (by kernel_rfl) (by kernel_rfl) (by kernel_rfl) (by kernel_rfl) (fun _ _ _ h => h) (Or.inl ⟨by kernel_rfl, ?_⟩) hS ?_
            rotate_left
            · intro w hSw
              try dsimp only at hSw
              go_simp
              try with_reducible rfl
            try simp only [Act.put, List.setIfInBounds_toArray, List.set_cons_zero, List.set_cons_succ]
            refine wpAnyX_ready (rs := [10]) (by kernel_rfl) (by simp) ?_
            refine AllReadyX.cons (o := ⟨some 42, _, _, _, _, _⟩) rfl (fun K hK => ?_) AllReadyX.nil
            go_simp
            (go_at_call 89; refine (cL.out _).mono ?_; rintro e w4 ⟨rfl, hb4⟩)
            have hS0 := hS
            clear hS
            refine hK.out _ _ (fun _ => ⟨cell_below hb4 hS0.1, cell_below hb4 hS0.2.1, cell_below hb4 hS0.2.2.1, cell_below hb4 hS0.2.2.2.1, below_down hS0.2.2.2.2 hb4⟩) (fun hS => ?_)
            replace hS := hS (by kernel_rfl)
            clear hK K hS0
            try simp only [Act.put, List.setIfInBounds_toArray, List.set_cons_zero, List.set_cons_succ]
            refine wpAnyX_take (i := 11) (oi := ⟨some 43, _, _, _, _, _⟩) (v := ?_) rfl (by kernel_rfl) (by kernel_rfl) (by kernel_rfl) (by kernel_rfl) (fun _ _ _ h => h) (Or.inl ⟨by kernel_rfl, ?_⟩) hS ?_
            rotate_left
            · intro w hSw
              try dsimp only at hSw
              go_simp
              try with_reducible rfl
            try simp only [Act.put, List.setIfInBounds_toArray, List.set_cons_zero, List.set_cons_succ]
            refine wpAnyX_take (i := 12) (oi := ⟨some 44, _, _, _, _, _⟩) (v := ?_) rfl (by kernel_rfl) (by kernel_rfl) (by kernel_rfl) (by kernel_rfl) (fun _ _ _ h => h) (Or.inl ⟨by kernel_rfl, ?_⟩) hS ?_
            rotate_left
            · intro w hSw
              try dsimp only at hSw
              go_simp
              try with_reducible rfl
            try simp only [Act.put, List.setIfInBounds_toArray, List.set_cons_zero, List.set_cons_succ]
            refine wpAnyX_take (i := 13) (oi := ⟨some 31, _, _, _, _, _⟩) (v := ?_) rfl (by kernel_rfl) (by kernel_rfl) (by kernel_rfl) (by kernel_rfl) (fun _ _ _ h => h) (Or.inl ⟨by kernel_rfl, ?_⟩) hS ?_
            rotate_left
            · intro w hSw
              try dsimp only at hSw
              go_simp
              try with_reducible rfl
            try simp only [Act.put, List.setIfInBounds_toArray, List.set_cons_zero, List.set_cons_succ]
            refine wpAnyX_done (by kernel_rfl) ?_ _
            go_wp2
            go_quiet (fail)
            go_wp2
            go_roundw
            case rel => exact ⟨k + 1, (q : Int), by omega, by go_num, rfl, hN, .inr ⟨q, rfl, hq⟩, below_drewN hS.2.2.2.2 _⟩
            case measure => simp [intOf]; omega
      · have hN := Lib.hid (hS.out.trans (by rw [hz.out, stepLo_l hb.out]))
        go_wp2
        go_roundw
        case rel => exact ⟨k + 1, z, by omega, by go_num, rfl, hN, hzz, hbel⟩
        case measure => simp [intOf]; omega
    · have hk2 : lots.length ≤ k := by omega
      clear hlt
      go_wp2
      go_ret
      refine ⟨ret_int ?_, hbel⟩
      have := hz.out
      rw [List.take_of_length_le hk2] at this
      exact this.symm
set_option maxRecDepth 100000 in
set_option maxHeartbeats 3200000 in
theorem l15Most_any (A1 A2 A3 : Option Addr) (cs : List Fr) (left : List Bool) (lots : List Int) (B c1 c2 c3 : Nat) (w : World) (h1 : Fracs w A1 cs) (h2 : Bools w A2 left) (h3 : Ints w A3 lots) (hc : Hid (FrOk cs left.length B)) (hl : lots.length ≤ 5) (hl5 : left.length ≤ 5) (hr : Hid (∀ l ∈ lots, 0 ≤ l ∧ l < (left.length : Int))) :
    Calls Try.prog 88 #[.slice A1 left.length c1, .slice A2 left.length c2, .slice A3 lots.length c3, .bool false] w (Bl w (.int .i64 (mostT cs left lots))) := by
  go_enter Try.func88, Try.ntmps88
  go_wp2
  go_loopw [9, 10, 11] (fun b i _ wr => ∃ (k : Nat) (z : Int), k ≤ lots.length ∧ i = .int .i64 k ∧ b = .int .i64 z ∧ Hid ((lots.take k).foldl (stepHi cs left) (-1) = z) ∧ (z = -1 ∨ ∃ q : Nat, z = (q : Int) ∧ q < left.length) ∧ Below w.heap.size w wr) (fun _ i _ _ => lots.length - (intOf i).toNat)
  case atStart => exact ⟨0, -1, by omega, rfl, rfl, Lib.hid rfl, .inl rfl, Below.refl _ _⟩
  case round =>
    obtain ⟨k, z, hk, rfl, rfl, hz, hzz, hbel⟩ := hrel
    by_cases hlt : k < lots.length
    · obtain ⟨ad3, l, e3, hl', hcl⟩ := (h3.below hbel).at_ hlt
      subst e3
      have hrl := hr.out l (mem_of_at hl'.out)
      obtain ⟨p, rfl⟩ := Int.eq_ofNat_of_zero_le hrl.1
      have hp : p < left.length := by have := hrl.2; omega
      clear hrl
      obtain ⟨ad2, bk, e2, hb, hcb⟩ := (h2.below hbel).at_ hp
      subst e2
      have hS := Lib.hid (fold_snoc (f := stepHi cs left) (a := (-1 : Int)) hl'.out)
      cases bk
      · rcases hzz with rfl | ⟨q, rfl, hq⟩
        · have hN := Lib.hid (hS.out.trans (by rw [hz.out, stepHi_first (by omega) (atB_at hb.out)]))
          go_wp2
          go_roundw
          case rel => exact ⟨k + 1, (p : Int), by omega, by go_num, rfl, hN, .inr ⟨p, rfl, hp⟩, hbel⟩
          case measure => simp [intOf]; omega
        · obtain ⟨ad1, x, y, e1, hxy, cx, cy⟩ := (h1.below hbel).at_ (k := q) (by have := hc.out.len; omega)
          subst e1
          obtain ⟨ad1', x', y', e1, hxy', cx', cy'⟩ := (h1.below hbel).at_ (k := p) (by have := hc.out.len; omega)
          obtain rfl : ad1 = ad1' := by injection e1
          clear e1
          have cL := Lib.hid (fun w => specFracLess_any x y x' y' w (hc.out.fv hxy.out) (hc.out.fv hxy'.out))
          have hq0 : (0 : Int) ≤ (q : Int) := by omega
          have hq1 : (q : Int) < (left.length : Int) := by omega
          have hp0 : (0 : Int) ≤ (p : Int) := by omega
          have hp1 : (p : Int) < (left.length : Int) := by omega
          cases ht : lessP (x, y) (x', y')
          · have hN := Lib.hid (hS.out.trans (by rw [hz.out, stepHi_f hb.out hxy.out hxy'.out ht]))
            rw [ht] at cL
            clear ht
            go_wp2
            go_quiet (fail)
            go_wp2
            refine wp_region_X (fun w' => w'.cell? (ad1.add (q * 2)) = some (.int .i64 x) ∧ w'.cell? ⟨(ad1.add (q * 2)).block, (ad1.add (q * 2)).off + 1, none⟩ = some (.int .i64 y) ∧ w'.cell? (ad1.add (p * 2)) = some (.int .i64 x') ∧ w'.cell? ⟨(ad1.add (p * 2)).block, (ad1.add (p * 2)).off + 1, none⟩ = some (.int .i64 y') ∧ Below w.heap.size w w') 1000 (by kernel_rfl) ?_ (fun hS => ?_)
            · exact ⟨cell_drew cx, cell_drew cy, cell_drew cx', cell_drew cy', (below_drewN hbel _).drew⟩
            refine wpAnyX_take (i := 0) (oi := ⟨some 47, _, _, _, _, _⟩) (v := ?_) rfl (by kernel_rfl) (by kernel_rfl) (by kernel_rfl) (by kernel_rfl) (fun _ _ _ h => h) (Or.inl ⟨by kernel_rfl, ?_⟩) hS ?_
            rotate_left
            · intro w hSw
              try dsimp only at hSw
              go_simp
              try with_reducible rfl
            try simp only [Act.put, List.setIfInBounds_toArray, List.set_cons_zero, List.set_cons_succ]
            refine wpAnyX_take (i := 1) (oi := ⟨some 48, _, _, _, _, _⟩) (v := ?_) rfl (by kernel_rfl) (by kernel_rfl) (by kernel_rfl) (by kernel_rfl) (fun _ _ _ h => h) (Or.inl ⟨by kernel_rfl, ?_⟩) hS ?_
            rotate_left
            · intro w hSw
              try dsimp only at hSw
              go_simp
              try with_reducible rfl
            try simp only [Act.put, List.setIfInBounds_toArray, List.set_cons_zero, List.set_cons_succ]
            refine wpAnyX_take (i := 2) (oi := ⟨some 49, _, _, _, _, _⟩) (v := ?_) rfl (by kernel_rfl) (by kernel_rfl) (by kernel_rfl) (by kernel_rfl) (fun _ _ _ h => h) (Or.inl ⟨by kernel_rfl, ?_⟩) hS ?_
            rotate_left
            · intro w hSw
              try dsimp only at hSw
              go_simp
              try with_reducible rfl
            try simp only [Act.put, List.setIfInBounds_toArray, List.set_cons_zero, List.set_cons_succ]
            refine wpAnyX_take (i := 3) (oi := ⟨some 50, _, _, _, _, _⟩) (v := ?_) rfl (by kernel_rfl) (by kernel_rfl) (by kernel_rfl) (by kernel_rfl) (fun _ _ _ h => h) (Or.inl ⟨by kernel_rfl, ?_⟩) hS ?_
            rotate_left
            · intro w hSw
              try dsimp only at hSw
              go_simp
              try with_reducible rfl
            try simp only [Act.put, List.setIfInBounds_toArray, List.set_cons_zero, List.set_cons_succ]
            refine wpAnyX_take (i := 4) (oi := ⟨some 51, _, _, _, _, _⟩) (v := ?_) rfl (by kernel_rfl) (by kernel_rfl) (by kernel_rfl) (by kernel_rfl) (fun _ _ _ h => h) (Or.inl ⟨by kernel_rfl, ?_⟩) hS ?_
            rotate_left
            · intro w hSw
              try dsimp only at hSw
              go_simp
              try with_reducible rfl
            try simp only [Act.put, List.setIfInBounds_toArray, List.set_cons_zero, List.set_cons_succ]
            refine wpAnyX_take (i := 5) (oi := ⟨some 52, _, _, _, _, _⟩) (v := ?_) rfl (by kernel_rfl) (by kernel_rfl) (by kernel_rfl) (by kernel_rfl) (fun _ _ _ h => h) (Or.inl ⟨by kernel_rfl, ?_⟩) hS ?_
            rotate_left
            · intro w hSw
              try dsimp only at hSw
              go_simp
              try with_reducible rfl
            try simp only [Act.put, List.setIfInBounds_toArray, List.set_cons_zero, List.set_cons_succ]
            refine wpAnyX_take (i := 6) (oi := ⟨some 53, _, _, _, _, _⟩) (v := ?_) rfl (by kernel_rfl) (by kernel_rfl) (by kernel_rfl) (by kernel_rfl) (fun _ _ _ h => h) (Or.inl ⟨by kernel_rfl, ?_⟩) hS ?_
            rotate_left
            · intro w hSw
              try dsimp only at hSw
              go_simp
              try with_reducible rfl
            try simp only [Act.put, List.setIfInBounds_toArray, List.set_cons_zero, List.set_cons_succ]
            refine wpAnyX_take (i := 7) (oi := ⟨some 54, _, _, _, _, _⟩) (v := ?_) rfl (by kernel_rfl) (by kernel_rfl) (by kernel_rfl) (by kernel_rfl) (fun _ _ _ h => h) (Or.inl ⟨by kernel_rfl, ?_⟩) hS ?_
            rotate_left
            · intro w hSw
              try dsimp only at hSw
              go_simp
              try with_reducible rfl
            try simp only [Act.put, List.setIfInBounds_toArray, List.set_cons_zero, List.set_cons_succ]
            refine wpAnyX_take (i := 8) (oi := ⟨some 55, _, _, _, _, _⟩) (v := ?_) rfl (by kernel_rfl) (by kernel_rfl) (by kernel_rfl) (by kernel_rfl) (fun _ _ _ h => h) (Or.inl ⟨by kernel_rfl, ?_⟩) hS ?_
            rotate_left
            · intro w hSw
              try dsimp only at hSw
              go_simp
              try with_reducible rfl
            try simp only [Act.put, List.setIfInBounds_toArray, List.set_cons_zero, List.set_cons_succ]
            refine wpAnyX_take (i := 9) (oi := ⟨some 56, _, _, _, _, _⟩) (v := ?_) rfl (by kernel_rfl) (by kernel_rfl) (by kernel_rfl) (by kernel_rfl) (fun _ _ _ h => h) (Or.inl ⟨by kernel_rfl, ?_⟩) hS ?_
            rotate_left
            · intro w hSw
              try dsimp only at hSw
              go_simp
              try with_reducible rfl
            try simp only [Act.put, List.setIfInBounds_toArray, List.set_cons_zero, List.set_cons_succ]
            refine wpAnyX_take (i := 10) (oi := ⟨some 57, _, _, _, _, _⟩) (v := ?_) rfl (by kernel_rfl) (by kernel_rfl) (by kernel_rfl) (by kernel_rfl) (fun _ _ _ h => h) (Or.inl ⟨by kernel_rfl, ?_⟩) hS ?_
            rotate_left
            · intro w hSw
              try dsimp only at hSw
              go_simp
              try with_reducible rfl
            try simp only [Act.put, List.setIfInBounds_toArray, List.set_cons_zero, List.set_cons_succ]
            refine wpAnyX_ready (rs := [11]) (by kernel_rfl) (by simp) ?_
            refine AllReadyX.cons (o := ⟨some 58, _, _, _, _, _⟩) rfl (fun K hK => ?_) AllReadyX.nil
            go_simp
            (go_at_call 89; refine (cL.out _).mono ?_; rintro e w4 ⟨rfl, hb4⟩)
            have hS0 := hS
            clear hS
            refine hK.out _ _ (fun _ => ⟨cell_below hb4 hS0.1, cell_below hb4 hS0.2.1, cell_below hb4 hS0.2.2.1, cell_below hb4 hS0.2.2.2.1, below_down hS0.2.2.2.2 hb4⟩) (fun hS => ?_)
            replace hS := hS (by kernel_rfl)
            clear hK K hS0
            try simp only [Act.put, List.setIfInBounds_toArray, List.set_cons_zero, List.set_cons_succ]
            refine wpAnyX_take (i := 12) (oi := ⟨some 59, _, _, _, _, _⟩) (v := ?_) rfl (by kernel_rfl) (by kernel_rfl) (by kernel_rfl) (by kernel_rfl) (fun _ _ _ h => h) (Or.inl ⟨by kernel_rfl, ?_⟩) hS ?_
            rotate_left
            · intro w hSw
              try dsimp only at hSw
              go_simp
              try with_reducible rfl
            try simp only [Act.put, List.setIfInBounds_toArray, List.set_cons_zero, List.set_cons_succ]
            refine wpAnyX_take (i := 13) (oi := ⟨some 46, _, _, _, _, _⟩) (v := ?_) rfl (by kernel_rfl) (by kernel_rfl) (by kernel_rfl) (by kernel_rfl) (fun _ _ _ h => h) (Or.inl ⟨by kernel_rfl, ?_⟩) hS ?_
            rotate_left
            · intro w hSw
              try dsimp only at hSw
              go_simp
              try with_reducible rfl
            try simp only [Act.put, List.setIfInBounds_toArray, List.set_cons_zero, List.set_cons_succ]
            refine wpAnyX_done (by kernel_rfl) ?_ _
            go_wp2
            go_roundw
            case rel => exact ⟨k + 1, (q : Int), by omega, by go_num, rfl, hN, .inr ⟨q, rfl, hq⟩, hS.2.2.2.2⟩
            case measure => simp [intOf]; omega
          · have hN := Lib.hid (hS.out.trans (by rw [hz.out, stepHi_t hb.out hxy.out hxy'.out ht]))
            rw [ht] at cL
            clear ht
            go_wp2
            go_quiet (fail)
            go_wp2
            refine wp_region_X (fun w' => w'.cell? (ad1.add (q * 2)) = some (.int .i64 x) ∧ w'.cell? ⟨(ad1.add (q * 2)).block, (ad1.add (q * 2)).off + 1, none⟩ = some (.int .i64 y) ∧ w'.cell? (ad1.add (p * 2)) = some (.int .i64 x') ∧ w'.cell? ⟨(ad1.add (p * 2)).block, (ad1.add (p * 2)).off + 1, none⟩ = some (.int .i64 y') ∧ Below w.heap.size w w') 1000 (by kernel_rfl) ?_ (fun hS => ?_)
            · exact ⟨cell_drew cx, cell_drew cy, cell_drew cx', cell_drew cy', (below_drewN hbel _).drew⟩
            refine wpAnyX_take (i := 0) (oi := ⟨some 47, _, _, _, _, _⟩) (v := ?_) rfl (by kernel_rfl) (by kernel_rfl) (by kernel_rfl) (by kernel_rfl) (fun _ _ _ h => h) (Or.inl ⟨by kernel_rfl, ?_⟩) hS ?_
            rotate_left
            · intro w hSw
              try dsimp only at hSw
              go_simp
              try with_reducible rfl
            try simp only [Act.put, List.setIfInBounds_toArray, List.set_cons_zero, List.set_cons_succ]
            refine wpAnyX_take (i := 1) (oi := ⟨some 48, _, _, _, _, _⟩) (v := ?_) rfl (by kernel_rfl) (by kernel_rfl) (by kernel_rfl) (by kernel_rfl) (fun _ _ _ h => h) (Or.inl ⟨by kernel_rfl, ?_⟩) hS ?_
            rotate_left
            · intro w hSw
              try dsimp only at hSw
              go_simp
              try with_reducible rfl
            try simp only [Act.put, List.setIfInBounds_toArray, List.set_cons_zero, List.set_cons_succ]
            refine wpAnyX_take (i := 2) (oi := ⟨some 49, _, _, _, _, _⟩) (v := ?_) rfl (by kernel_rfl) (by kernel_rfl) (by kernel_rfl) (by kernel_rfl) (fun _ _ _ h => h) (Or.inl ⟨by kernel_rfl, ?_⟩) hS ?_
            rotate_left
            · intro w hSw
              try dsimp only at hSw
              go_simp
              try with_reducible rfl
            try simp only [Act.put, List.setIfInBounds_toArray, List.set_cons_zero, List.set_cons_succ]
            refine wpAnyX_take (i := 3) (oi := ⟨some 50, _, _, _, _, _⟩) (v := ?_) rfl (by kernel_rfl) (by kernel_rfl) (by kernel_rfl) (by kernel_rfl) (fun _ _ _ h => h) (Or.inl ⟨by kernel_rfl, ?_⟩) hS ?_
            rotate_left
            · intro w hSw
              try dsimp only at hSw
              go_simp
              try with_reducible rfl
            try simp only [Act.put, List.setIfInBounds_toArray, List.set_cons_zero, List.set_cons_succ]
            refine wpAnyX_take (i := 4) (oi := ⟨some 51, _, _, _, _, _⟩) (v := ?_) rfl (by kernel_rfl) (by kernel_rfl) (by kernel_rfl) (by kernel_rfl) (fun _ _ _ h => h) (Or.inl ⟨by kernel_rfl, ?_⟩) hS ?_
            rotate_left
            · intro w hSw
              try dsimp only at hSw
              go_simp
              try with_reducible rfl
            try simp only [Act.put, List.setIfInBounds_toArray, List.set_cons_zero, List.set_cons_succ]
            refine wpAnyX_take (i := 5) (oi := ⟨some 52, _, _, _, _, _⟩) (v := ?_) rfl (by kernel_rfl) (by kernel_rfl) (by kernel_rfl) (by kernel_rfl) (fun _ _ _ h => h) (Or.inl ⟨by kernel_rfl, ?_⟩) hS ?_
            rotate_left
            · intro w hSw
              try dsimp only at hSw
              go_simp
              try with_reducible rfl
            try simp only [Act.put, List.setIfInBounds_toArray, List.set_cons_zero, List.set_cons_succ]
            refine wpAnyX_take (i := 6) (oi := ⟨some 53, _, _, _, _, _⟩) (v := ?_) rfl (by kernel_rfl) (by kernel_rfl) (by kernel_rfl) (by kernel_rfl) (fun _ _ _ h => h) (Or.inl ⟨by kernel_rfl, ?_⟩) hS ?_
            rotate_left
            · intro w hSw
              try dsimp only at hSw
              go_simp
              try with_reducible rfl
            try simp only [Act.put, List.setIfInBounds_toArray, List.set_cons_zero, List.set_cons_succ]
            refine wpAnyX_take (i := 7) (oi := ⟨some 54, _, _, _, _, _⟩) (v := ?_) rfl (by kernel_rfl) (by kernel_rfl) (by kernel_rfl) (by kernel_rfl) (fun _ _ _ h => h) (Or.inl ⟨by kernel_rfl, ?_⟩) hS ?_
            rotate_left
            · intro w hSw
              try dsimp only at hSw
              go_simp
              try with_reducible rfl
            try simp only [Act.put, List.setIfInBounds_toArray, List.set_cons_zero, List.set_cons_succ]
            refine wpAnyX_take (i := 8) (oi := ⟨some 55, _, _, _, _, _⟩) (v := ?_) rfl (by kernel_rfl) (by kernel_rfl) (by kernel_rfl) (by kernel_rfl) (fun _ _ _ h => h) (Or.inl ⟨by kernel_rfl, ?_⟩) hS ?_
            rotate_left
            · intro w hSw
              try dsimp only at hSw
              go_simp
              try with_reducible rfl
            try simp only [Act.put, List.setIfInBounds_toArray, List.set_cons_zero, List.set_cons_succ]
            refine wpAnyX_take (i := 9) (oi := ⟨some 56, _, _, _, _, _⟩) (v := ?_) rfl (by kernel_rfl) (by kernel_rfl) (by kernel_rfl) (by kernel_rfl) (fun _ _ _ h => h) (Or.inl ⟨by kernel_rfl, ?_⟩) hS ?_
            rotate_left
            · intro w hSw
              try dsimp only at hSw
              go_simp
              try with_reducible rfl
            try simp only [Act.put, List.setIfInBounds_toArray, List.set_cons_zero, List.set_cons_succ]
            refine wpAnyX_take (i := 10) (oi := ⟨some 57, _, _, _, _, _⟩) (v := ?_) rfl (by kernel_rfl) (by kernel_rfl) (by kernel_rfl) (by kernel_rfl) (fun _ _ _ h => h) (Or.inl ⟨by kernel_rfl, ?_⟩) hS ?_
            rotate_left
            · intro w hSw
              try dsimp only at hSw
              go_simp
              try with_reducible rfl
            try simp only [Act.put, List.setIfInBounds_toArray, List.set_cons_zero, List.set_cons_succ]
            refine wpAnyX_ready (rs := [11]) (by kernel_rfl) (by simp) ?_
            refine AllReadyX.cons (o := ⟨some 58, _, _, _, _, _⟩) rfl (fun K hK => ?_) AllReadyX.nil
            go_simp
            (go_at_call 89; refine (cL.out _).mono ?_; rintro e w4 ⟨rfl, hb4⟩)
            have hS0 := hS
            clear hS
            refine hK.out _ _ (fun _ => ⟨cell_below hb4 hS0.1, cell_below hb4 hS0.2.1, cell_below hb4 hS0.2.2.1, cell_below hb4 hS0.2.2.2.1, below_down hS0.2.2.2.2 hb4⟩) (fun hS => ?_)
            replace hS := hS (by kernel_rfl)
            clear hK K hS0
            try simp only [Act.put, List.setIfInBounds_toArray, List.set_cons_zero, List.set_cons_succ]
            refine wpAnyX_take (i := 12) (oi := ⟨some 59, _, _, _, _, _⟩) (v := ?_) rfl (by kernel_rfl) (by kernel_rfl) (by kernel_rfl) (by kernel_rfl) (fun _ _ _ h => h) (Or.inl ⟨by kernel_rfl, ?_⟩) hS ?_
            rotate_left
            · intro w hSw
              try dsimp only at hSw
              go_simp
              try with_reducible rfl
            try simp only [Act.put, List.setIfInBounds_toArray, List.set_cons_zero, List.set_cons_succ]
            refine wpAnyX_take (i := 13) (oi := ⟨some 46, _, _, _, _, _⟩) (v := ?_) rfl (by kernel_rfl) (by kernel_rfl) (by kernel_rfl) (by kernel_rfl) (fun _ _ _ h => h) (Or.inl ⟨by kernel_rfl, ?_⟩) hS ?_
            rotate_left
            · intro w hSw
              try dsimp only at hSw
              go_simp
              try with_reducible rfl
            try simp only [Act.put, List.setIfInBounds_toArray, List.set_cons_zero, List.set_cons_succ]
            refine wpAnyX_done (by kernel_rfl) ?_ _
            go_wp2
            go_roundw
            case rel => exact ⟨k + 1, (p : Int), by omega, by go_num, rfl, hN, .inr ⟨p, rfl, hp⟩, hS.2.2.2.2⟩
            case measure => simp [intOf]; omega
      · have hN := Lib.hid (hS.out.trans (by rw [hz.out, stepHi_l hb.out]))
        go_wp2
        go_roundw
        case rel => exact ⟨k + 1, z, by omega, by go_num, rfl, hN, hzz, hbel⟩
        case measure => simp [intOf]; omega
    · have hk2 : lots.length ≤ k := by omega
      clear hlt
      go_wp2
      go_ret
      refine ⟨ret_int ?_, hbel⟩
      have := hz.out
      rw [List.take_of_length_le hk2] at this
      exact this.symm
end Go.Proofs.Ytiinfbjlkbjmmaa
