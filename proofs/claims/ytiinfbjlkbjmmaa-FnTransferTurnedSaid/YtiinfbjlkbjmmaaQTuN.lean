/-
  PilesTurn: two candidates are exchanged on all ballots.
-/
import Derived.Test.YtiinfbjlkbjmmaaQTuM
import Derived.Test.YtiinfbjlkbjmmaaQHeld
import Derived.Test.YtiinfbjlkbjmmaaQTraP
namespace Go.Proofs.Ytiinfbjlkbjmmaa
open Go.RowKit
/-- The first j of b are exchanged. -/
def swst (x y : Nat) (b : List Int) (j : Nat) : List Int := (b.take j).map (sw x y) ++ b.drop j
set_option maxRecDepth 100000 in
theorem swst_len (x y : Nat) (b : List Int) (j : Nat) : (swst x y b j).length = b.length := by unfold swst; simp; omega
set_option maxRecDepth 100000 in
theorem swst_zero (x y : Nat) (b : List Int) : swst x y b 0 = b := by simp [swst]
set_option maxRecDepth 100000 in
theorem swst_all (x y : Nat) (b : List Int) : swst x y b b.length = b.map (sw x y) := by simp [swst]
set_option maxRecDepth 100000 in
theorem swst_at {x y : Nat} {b : List Int} {j : Nat} {z : Int} (h : b[j]? = some z) : (swst x y b j)[j]? = some z := by
  have hj := (List.getElem?_eq_some_iff.1 h).1
  unfold swst
  rw [List.getElem?_append_right (by rw [List.length_map, List.length_take]; omega), List.length_map, List.length_take, Nat.min_eq_left (by omega), Nat.sub_self, List.getElem?_drop]
  exact h
set_option maxRecDepth 100000 in
theorem swst_set {x y : Nat} {b : List Int} {j : Nat} {z : Int} (h : b[j]? = some z) : (swst x y b j).set j (sw x y z) = swst x y b (j + 1) := by
  have hj := (List.getElem?_eq_some_iff.1 h).1
  have hz := (List.getElem?_eq_some_iff.1 h).2
  unfold swst
  rw [List.set_append_right _ _ (by rw [List.length_map, List.length_take]; omega), List.length_map, List.length_take, Nat.min_eq_left (by omega), Nat.sub_self, List.drop_eq_getElem_cons hj, List.set_cons_zero, take_snoc b j z h, List.map_append]
  simp
set_option maxRecDepth 100000 in
theorem swst_same {x y : Nat} {b : List Int} {j : Nat} {z : Int} (h : b[j]? = some z) (e : sw x y z = z) : swst x y b j = swst x y b (j + 1) := by
  rw [← swst_set h, e]
  refine List.ext_getElem? fun i => ?_
  rw [List.getElem?_set]
  split
  · rename_i hi
    subst hi
    rw [swst_at h, if_pos (by rw [swst_len]; exact (List.getElem?_eq_some_iff.1 h).1)]
  · rfl
set_option maxRecDepth 100000 in
theorem btw_low {B : Nat} {w w' : World} (hb : Below B w w') : Btw B w.heap.size w w' := ⟨hb.os, hb.tape, hb.output, hb.size, fun k hk h => h.elim (fun h => hb.block k h) (fun h => absurd hk (by omega))⟩
set_option maxRecDepth 100000 in
set_option maxHeartbeats 6400000 in
theorem pilesTurn_any (A : Option Addr) (ps : List (ByteArray × Int)) (c x y : Nat) (w : World) (h : PilesI w A ps) (hv : Hid (psv ps = true)) (hx : x < 5) (hy : y < 5) :
    Calls Try.prog 29 #[.slice A ps.length c, .int .i64 x, .int .i64 y] w (NewPB w (sortP (ps.map (tuT x y)))) := by
  have hl := psv_len hv.out
  have cV := Lib.hid (pilesValid_any A ps c w h (by omega))
  rw [hv.out] at cV
  go_enter Try.func29, Try.ntmps29
  go_wp2_with (go_at_call 56; refine cV.out.mono ?_; rintro e w1 ⟨rfl, hb1⟩)
  clear cV
  go_loopw [8, 10, 11, 12, 13, 35, 43] (fun o _ _ _ _ i _ wr => ∃ (k : Nat) (C : Option Addr) (e : Nat), k ≤ ps.length ∧ i = .int .i64 k ∧ o = .slice C k e ∧ OwnP wr w.heap.size C k e ((ps.take k).map (tuT x y)) ∧ Below w.heap.size w wr) (fun _ _ _ _ _ i _ _ => ps.length - (intOf i).toNat)
  case atStart => exact ⟨0, _, _, by omega, rfl, rfl, OwnP.nil _ _, hb1⟩
  case round =>
    clear hb1
    obtain ⟨k, C, e, hk, rfl, rfl, hown, hbel⟩ := hrel
    by_cases hlt : k < ps.length
    · obtain ⟨ad, s, m, rfl, hp, hs, hc0, hc1⟩ := (h.below hbel).at_ hlt
      have hpv := pv_iff.1 (psv_mem hv.out (List.mem_of_getElem? hp.out))
      have hbt : bt s = true := hpv.1
      have HTK := Lib.hid (show (ps.take (k + 1)).map (tuT x y) = (ps.take k).map (tuT x y) ++ [(unbal ((bal s).map (sw x y)), m)] by rw [take_snoc _ _ _ hp.out, List.map_append]; rfl)
      have hbv : Hid (bv ((bal s).map (sw x y)) 5 = true) := Lib.hid (bv_sw (by omega) (by omega) hbt)
      have hbl := (bv_len (show bv (bal s) 5 = true from hbt)).1
      have hus := unbal_size ((bal s).map (sw x y))
      rw [List.length_map] at hus
      go_wp2_with fail
      refine (pileBallot_any s m _ hs).mono ?_
      rintro e2 w2 ⟨B, dd, rfl, ho, hb2⟩
      rw [balP_t hbt] at ho ⊢
      have q1 := (ob0 wr #[.string s, .int .i64 m] 70).below hb2
      have z1 := q1.cell 1 rfl
      have hzr : wr.heap.size < w2.heap.size := q1.lt
      have hcb := ho.le_cap
      have ho2 : OwnI w2 (wr.heap.size + 1) B dd (bal s) := ho.mono (by simp)
      have hB1 : Below wr.heap.size wr (wr.alloc (.cells #[.string s, .int .i64 m] 70)) := (Below.refl _ wr).alloc (Nat.le_refl _) _
      have hown2 := (hown.below hB1).below hb2
      have hB2 := below_down (below_down hbel hB1) hb2
      have hblk : ∀ q, (Value.slice C k e).ownBlock = some q → q < wr.heap.size := fun q hq => (hown.block q hq).2
      have hbase := hbel.size
      clear hown hbel hB1 hb2 q1 ho hc0 hc1
      obtain ⟨gp, hgp⟩ : ∃ gp, wr.heap.size = gp := ⟨_, rfl⟩
      rw [hgp] at z1 hzr ho2 hblk hbase ⊢
      obtain ⟨b, hb⟩ : ∃ b, bal s = b := ⟨_, rfl⟩
      rw [hb] at HTK hbv hbl hus ho2 hcb ⊢
      clear hb hgp hpv hbt hp
      obtain ⟨wo, rfl⟩ : ∃ wo : World, wo = wr := ⟨_, rfl⟩
      have HBL := Lib.hid hblk
      have HUS := Lib.hid hus
      have HCB := Lib.hid hcb
      clear hblk hus hcb
      go_wp2
      go_loopw [12, 13, 43] (fun _ _ i wr => ∃ j : Nat, j ≤ b.length ∧ i = .int .i64 j ∧ OwnN wr (gp + 1) B b.length dd (swst x y b j) ∧ Below (gp + 1) w2 wr) (fun _ _ i _ => b.length - (intOf i).toNat)
      case atStart => exact ⟨0, by omega, rfl, ⟨swst_len x y b 0, by rw [swst_zero]; exact ho2⟩, Below.refl _ _⟩
      case round =>
        clear ho2
        obtain ⟨j, hj, rfl, hO, hbt⟩ := hrel
        by_cases hltj : j < b.length
        · obtain ⟨z, hz⟩ : ∃ z, b[j]? = some z := ⟨_, List.getElem?_eq_getElem hltj⟩
          obtain ⟨gb, rfl, hgb0, hgb1⟩ := hO.form (by omega)
          have hcz := hO.cellX (swst_at (x := x) (y := y) hz)
          have hfz := hO.frozenX j
          have HZ := Lib.hid hz
          clear hz
          by_cases h1 : z = (x : Int)
          · have hbz : (z == (x : Int)) = true := by simpa using h1
            have hst := Lib.hid (show (swst x y b j).set j (y : Int) = swst x y b (j + 1) by rw [← swst_set HZ.out]; congr 1; unfold sw; rw [if_pos h1])
            clear h1
            go_wp2
            go_roundw
            case rel => exact ⟨j + 1, by omega, by go_num, (hO.setX j y).congr hst.out, hbt.setCell hgb0 _⟩
            case measure => simp [intOf]; omega
          · have hbz : (z == (x : Int)) = false := by simpa using h1
            by_cases h2 : z = (y : Int)
            · have hbz2 : (z == (y : Int)) = true := by simpa using h2
              have hst := Lib.hid (show (swst x y b j).set j (x : Int) = swst x y b (j + 1) by rw [← swst_set HZ.out]; congr 1; unfold sw; rw [if_neg h1, if_pos h2])
              clear h1 h2
              go_wp2
              go_roundw
              case rel => exact ⟨j + 1, by omega, by go_num, (hO.setX j x).congr hst.out, hbt.setCell hgb0 _⟩
              case measure => simp [intOf]; omega
            · have hbz2 : (z == (y : Int)) = false := by simpa using h2
              have hst := Lib.hid (swst_same HZ.out (show sw x y z = z by unfold sw; rw [if_neg h1, if_neg h2]))
              clear h1 h2
              go_wp2
              go_roundw
              case rel => exact ⟨j + 1, by omega, by go_num, hO.congr hst.out, hbt⟩
              case measure => simp [intOf]; omega
        · obtain rfl : j = b.length := by omega
          have hO3 := hO.congr (swst_all x y b)
          have hown3 := hown2.btw (btw_low hbt) (fun q hq => .inl (by have := HBL.out q hq; omega))
          have z3 : wr.cell? ⟨gp, 1, none⟩ = some (.int .i64 m) := (World.cell?_of_block (w := w2) (hbt.block gp (by omega))).trans z1
          have hB3 := hB2.trans (hbt.mono (by omega))
          have hzp : gp < wr.heap.size := by have := World.block_lt_of_cell? wr _ z3; simpa using this
          clear hltj hO hown2 z1 hB2 hbt
          have cT := Lib.hid (fun w h => implText_any B (b.map (sw x y)) dd w h hbv (by rw [List.length_map]; exact HCB.out))
          rw [List.length_map] at cT
          have hD3 := hown3.drew
          have hI3 : Ints wr.drew B (b.map (sw x y)) := hO3.2.ints
          have hB3d := hB3.drew
          have HBL2 := Lib.hid (fun q hq => HBL.out q hq)
          go_wp2
          refine wp_region_X (fun w' => w'.cell? ⟨gp, 1, none⟩ = some (.int .i64 m)) 1000 (by kernel_rfl) ?_ (fun hS => ?_)
          · exact cell_drew z3
          refine wpAnyX_take (i := 0) (oi := ⟨some 64, _, _, _, _, _⟩) (v := ?_) rfl (by kernel_rfl) (by kernel_rfl) (by kernel_rfl) (by kernel_rfl) (fun _ _ _ h => h) (Or.inl ⟨by kernel_rfl, ?_⟩) hS ?_
          rotate_left
          · intro w hSw
            try dsimp only at hSw
            go_simp
            try with_reducible rfl
          try simp only [Act.put, List.setIfInBounds_toArray, List.set_cons_zero, List.set_cons_succ]
          refine wpAnyX_take (i := 1) (oi := ⟨some 65, _, _, _, _, _⟩) (v := ?_) rfl (by kernel_rfl) (by kernel_rfl) (by kernel_rfl) (by kernel_rfl) (fun _ _ _ h => h) (Or.inl ⟨by kernel_rfl, ?_⟩) hS ?_
          rotate_left
          · intro w hSw
            try dsimp only at hSw
            go_simp
            try with_reducible rfl
          try simp only [Act.put, List.setIfInBounds_toArray, List.set_cons_zero, List.set_cons_succ]
          refine wpAnyX_take (i := 3) (oi := ⟨some 67, _, _, _, _, _⟩) (v := ?_) rfl (by kernel_rfl) (by kernel_rfl) (by kernel_rfl) (by kernel_rfl) (fun _ _ _ h => h) (Or.inl ⟨by kernel_rfl, ?_⟩) hS ?_
          rotate_left
          · intro w hSw
            try dsimp only at hSw
            go_simp
            try with_reducible rfl
          try simp only [Act.put, List.setIfInBounds_toArray, List.set_cons_zero, List.set_cons_succ]
          refine wpAnyX_take (i := 4) (oi := ⟨some 68, _, _, _, _, _⟩) (v := ?_) rfl (by kernel_rfl) (by kernel_rfl) (by kernel_rfl) (by kernel_rfl) (fun _ _ _ h => h) (Or.inl ⟨by kernel_rfl, ?_⟩) hS ?_
          rotate_left
          · intro w hSw
            try dsimp only at hSw
            go_simp
            try with_reducible rfl
          try simp only [Act.put, List.setIfInBounds_toArray, List.set_cons_zero, List.set_cons_succ]
          refine wpAnyX_ready (rs := [2]) (by kernel_rfl) (by simp) ?_
          refine AllReadyX.cons (o := ⟨some 66, _, _, _, _, _⟩) rfl (fun K hK => ?_) AllReadyX.nil
          go_simp
          (go_at_call 61; refine (cT.out _ hI3).mono ?_; rintro e7 w7 ⟨rfl, hb7⟩; have hz7 := hb7.size)
          have hS0 := hS
          clear hS
          refine hK.out _ _ (fun _ => (cell_below hb7 hS0)) (fun hS => ?_)
          replace hS := hS (by kernel_rfl)
          clear hK K hS0
          try simp only [Act.put, List.setIfInBounds_toArray, List.set_cons_zero, List.set_cons_succ]
          refine wpAnyX_take (i := 5) (oi := ⟨some 69, _, _, _, _, _⟩) (v := ?_) rfl (by kernel_rfl) (by kernel_rfl) (by kernel_rfl) (by kernel_rfl) (fun _ _ _ h => h) (Or.inl ⟨by kernel_rfl, ?_⟩) hS ?_
          rotate_left
          · intro w hSw
            try dsimp only at hSw
            go_simp
            try with_reducible rfl
          try simp only [Act.put, List.setIfInBounds_toArray, List.set_cons_zero, List.set_cons_succ]
          refine wpAnyX_ready (rs := [6]) (by kernel_rfl) (by simp) ?_
          refine AllReadyX.cons (o := ⟨some 70, _, _, _, _, _⟩) rfl (fun K hK => ?_) AllReadyX.nil
          have h7 := (hD3.below hb7).alloc (.cells #[.string (unbal (b.map (sw x y))), .int .i64 m] 70)
          have hN := newPile w7 (unbal (b.map (sw x y))) m (by have := HUS.out; omega)
          have hB7 := (hB3d.trans (hb7.mono hB3d.size)).alloc (hB3d.trans (hb7.mono hB3d.size)).size (.cells #[.string (unbal (b.map (sw x y))), .int .i64 m] 70)
          go_simp
          have hS0 := hS
          clear hS
          refine hK.out _ _ (fun _ => (cell_below ((Below.refl _ _).alloc (Nat.le_refl _) _) hS0)) (fun hS => ?_)
          replace hS := hS (by kernel_rfl)
          clear hK K hS0
          try simp only [Act.put, List.setIfInBounds_toArray, List.set_cons_zero, List.set_cons_succ]
          refine wpAnyX_ready (rs := [7]) (by kernel_rfl) (by simp) ?_
          refine AllReadyX.cons (o := ⟨some 71, _, _, _, _, _⟩) rfl (fun K hK => ?_) AllReadyX.nil
          (refine step_appPs _ rfl (.tmp 64) (.tmp 70) rfl w.heap.size C k e _ (by simp [Act.eval]) h7 hB7.size (by omega) ⟨w7.heap.size, 0, none⟩ [(unbal (b.map (sw x y)), m)] 1 1 (by simp [Act.eval]) rfl (by omega) hN (k + 1) (by omega) ?_; intro A9 c9 w9 h9 hg9 hb9)
          have hS0 := hS
          clear hS
          refine hK.out _ _ (fun _ => ((World.cell?_of_block (hg9.block gp (by simp at hz7 ⊢; omega) (fun e => by have := HBL2.out gp e.symm; omega))).trans hS0)) (fun hS => ?_)
          replace hS := hS (by kernel_rfl)
          clear hK K hS0
          try simp only [Act.put, List.setIfInBounds_toArray, List.set_cons_zero, List.set_cons_succ]
          refine wpAnyX_take (i := 8) (oi := ⟨some 8, _, _, _, _, _⟩) (v := ?_) rfl (by kernel_rfl) (by kernel_rfl) (by kernel_rfl) (by kernel_rfl) (fun _ _ _ h => h) (Or.inl ⟨by kernel_rfl, ?_⟩) hS ?_
          rotate_left
          · intro w hSw
            try dsimp only at hSw
            go_simp
            try with_reducible rfl
          try simp only [Act.put, List.setIfInBounds_toArray, List.set_cons_zero, List.set_cons_succ]
          refine wpAnyX_done (by kernel_rfl) ?_ _
          go_wp2
          go_roundw
          case rel => exact ⟨k + 1, A9, c9, by omega, by go_num, rfl, h9.congr HTK.out.symm, hB7.trans hb9⟩
          case measure => simp [intOf]; omega
    · obtain rfl : k = ps.length := by omega
      clear hlt
      rw [List.take_length] at hown
      go_wp2_with fail
      have hA1 : Below wr.heap.size wr (wr.alloc (.cells #[.slice C ps.length e] 28)) := (Below.refl _ wr).alloc (Nat.le_refl _) _
      have hcg := (ob0 wr #[.slice C ps.length e] 28).cell 0 rfl
      refine (pilesOf_any wr.heap.size C (ps.map (tuT x y)) e 1 _ (by rw [List.length_map]; exact hcg) (hown.piles.below hA1) (Lib.hid (turned_nodup hx hy hv.out)) (Lib.hid (fun p hp => by obtain ⟨q, hq, rfl⟩ := List.mem_map.1 hp; exact tuT_pv hx hy (psv_mem hv.out hq))) (by rw [List.length_map]; exact hl)).mono ?_
      rintro e9 w9 ⟨A9, c9, rfl, h9, hb9⟩
      have hB9 := (below_down hbel hA1).trans (hb9.mono (below_down hbel hA1).size)
      have hsz9 := (below_down hbel hA1).size
      clear hcg
      go_wp2
      go_ret2
      exact ⟨A9, c9, rfl, h9.mono hsz9, hB9⟩
end Go.Proofs.Ytiinfbjlkbjmmaa
