/-
  For every code, the law FnDistrictVotes returns true: votes of districts add up. There are no conditions.
-/
import Derived.Test.YtcddfibohcgjbaaDistP
import Derived.Test.YtcddfibohcgjbaaDistW
import Derived.Deep.RegionHeld3
namespace Go.Proofs.Ytcddfibohcgjbaa
open Go.ChangeShapes Go.WideShapes Go.ChangeAt Go.RowKit
theorem cell_belowD {w w' : World} (hb : Below w.heap.size w w') {p : Addr} {u : Value} (h : w.cell? p = some u) : w'.cell? p = some u := (hb.cell (World.block_lt_of_cell? w _ h)).trans h
/-- append of rows in a region that draws its order. -/
theorem step_appTN (w : World) {ops : Array Oper} {o : Oper} {a : Act} {K : Act → World → Prop} {Q : Exit → Act → World → Prop} {E : Prop}
    (hg : o.guard = none) (s x : Operand) (ho : o.op = .call { callee := .builtin .append, args := #[s, x], argTypes := #[39, 39] })
    (base bi : Nat) (A : Option Addr) (n c : Nat) (vs : List Row) (hs : a.eval s = .slice A n c) (hown : OwnT w base bi A n c vs) (hbase : base ≤ w.heap.size) (hn : n ≤ 1048576)
    (ad : Addr) (us : List Row) (l cc : Nat) (hx : a.eval x = .slice (some ad) l cc) (hl : us.length = l) (hl2 : l ≤ 1048576) (hc : ∀ j u, (us.map rv)[j]? = some u → w.cell? (ad.add j) = some u) (hu : ∀ v ∈ us, OwnI w bi v.1 v.2.1 v.2.2 ∧ v.2.2.length ≤ 10) (m : Nat) (hm : n + l = m)
    (hK : ∀ A' c' w', OwnT w' base bi A' m c' (vs ++ us) → w.grownBy w' (Value.slice A n c).ownBlock → Below base w w' → K (a.put o.dst (.slice A' m c')) w') :
    if Region.wanted o (yielded ops a.tmps) = true then Oper.wp Try.prog o a w K Q else E := by
  have hw : Region.wanted o (yielded ops a.tmps) = true := by simp [Region.wanted, hg]
  rw [if_pos hw]
  subst hm
  obtain ⟨i0, hi, hz0, hz1, hz2⟩ := info_parts infoRow
  refine wp_append_own w s x 39 ho base 23 i0 (.slice none 0 0) 1 24 Try.underlying39 hi hz0 hz1 hz2 rfl (by omega) _ _ _ hs hown.row ad l cc (us.map rv) hx (by simp [hl]) hc ?_ (by simp only [maxLen]; omega) (by omega) hbase ?_
  · intro u hu'
    obtain ⟨v, _, rfl⟩ := List.mem_map.1 hu'
    rfl
  · intro v' w' h1 h2 _
    obtain ⟨A', c', rfl⟩ := row_form h1
    have hb := below_of_grown h2 hbase (fun k hk => (World.ownsRow.lt hown.row k hk).1)
    refine hK A' c' w' ⟨by simp [hown.len, hl], by simpa using h1, fun v hv => ?_⟩ h2 hb
    rcases List.mem_append.1 hv with hv | hv
    · exact ⟨(hown.own v hv).1.grownT hown.row h2, (hown.own v hv).2⟩
    · exact ⟨(hu v hv).1.grownT hown.row h2, (hu v hv).2⟩
theorem own_emptyT2 (w : World) (o : Obj) {bi : Nat} : OwnT ((w.alloc o).alloc (.cells #[] 23)) w.heap.size bi (some ⟨w.heap.size + 1, 0, none⟩) 0 0 [] := by
  have := own_emptyT (w.alloc o) (base := w.heap.size) (bi := bi) (by simp)
  simpa using this
theorem cell_grown {w w' : World} {row : Option Nat} (hg : w.grownBy w' row) {p : Addr} {u : Value} (h : w.cell? p = some u) (hne : some p.block ≠ row) : w'.cell? p = some u :=
  (World.cell?_of_block (w := w) (hg.block _ (World.block_lt_of_cell? w _ h) hne)).trans h
theorem one_row {w : World} {ad : Addr} {v : Row} (h : w.cell? ad = some (rv v)) : ∀ j u, ([v].map rv)[j]? = some u → w.cell? (ad.add j) = some u := by
  intro j u hj
  match j, hj with
  | 0, hj =>
    simp at hj
    subst hj
    rw [show ad.add 0 = ad from by unfold Addr.add; simp]
    exact h
/-- All votes of all rows. -/
def sumR (xss : List (List Int)) : Int := (xss.map List.sum).sum
theorem sumR_snoc {xss : List (List Int)} {k : Nat} {xs : List Int} (h : xss[k]? = some xs) : sumR (xss.take (k + 1)) = sumR (xss.take k) + xs.sum := by
  unfold sumR
  rw [take_snoc xss k xs h, List.map_append, sum_append]; simp
theorem sumR_bd {xss : List (List Int)} (h : DvOk xss) (k : Nat) : 0 ≤ sumR (xss.take k) ∧ sumR (xss.take k) ≤ 2000 := by
  have hz : ∀ xs ∈ xss, 0 ≤ xs.sum ∧ xs.sum ≤ 495 := fun xs hx => by
    obtain ⟨a1, ⟨_, a2⟩, a3⟩ := vv_iff.1 (h.row xs hx)
    have := sum_bd xs 99 (fun x hx => by have := a1 x hx; omega)
    omega
  have h1 := sum_bd ((xss.take k).map List.sum) 495 (fun x hx => by
    obtain ⟨p, hp, rfl⟩ := List.mem_map.1 hx
    have := hz p (List.mem_of_mem_take hp); omega)
  have h2 := sum_nonneg ((xss.take k).map List.sum) (fun x hx => by
    obtain ⟨p, hp, rfl⟩ := List.mem_map.1 hx
    exact (hz p (List.mem_of_mem_take hp)).1)
  have h3 : ((xss.take k).map List.sum).length ≤ 4 := by have := h.l1; simp; omega
  unfold sumR
  omega
set_option maxRecDepth 100000 in
set_option maxHeartbeats 3200000 in
theorem FnDistrictVotes_walk (A : Option Addr) (n c : Nat) (w : World) (h : BytsA w A n c) :
    Calls Try.prog 8 #[.slice A n c] w (LawOk w) := by
  by_cases hl : n ≤ 1048576
  case neg =>
    have hbig : (1048576 : Int) < n := by omega
    clear hl
    go_enter Try.func8, Try.ntmps8
    go_wp2
    go_ret
    exact ⟨rfl, Below.refl _ _⟩
  go_enter Try.func8, Try.ntmps8
  go_wp2_with fail
  refine (drawDVotes_any _ _ _ _ h).mono ?_
  rintro e w1 ⟨A1, c1, vs, rfl, hv12, hT1, hb1⟩
  have hxl : (vs.map fun v => v.2.2).length = vs.length := List.length_map _
  have htot : tot (vs.map fun v => v.2.2) ≤ 1048576 := by
    have := tot_small hv12 (fun v hv => by have := (hT1.own v hv).2; omega)
    omega
  have cI := Lib.hid (fun (w : World) (h : RowsI w A1 (vs.map fun v => v.2.2)) => implDVotes_any A1 _ c1 w h htot)
  have cS := Lib.hid (fun (w : World) (h : RowsI w A1 (vs.map fun v => v.2.2)) => specDVotes_any A1 _ c1 w h htot)
  rw [hxl] at cI cS
  have hyl : (dvF (vs.map fun v => v.2.2)).1.length ≤ 10 := by
    unfold dvF
    split
    · next hd =>
      have := (dvOk_of hd).wd
      simp only [tog_len]
      omega
    · simp
  obtain ⟨r, hr⟩ : ∃ r, dvF (vs.map fun v => v.2.2) = r := ⟨_, rfl⟩
  rw [hr] at cI cS hyl
  obtain ⟨ys, b⟩ := r
  have hyl : ys.length ≤ 10 := by have : ys.length ≤ 10 := hyl; exact this
  have hself : (ys == ys) = true := by simp
  have HR := Lib.hid hr
  have HXL := Lib.hid hxl
  clear hr hxl
  go_wp2_with fail
  refine (cI.out _ (hT1.rows (by omega))).mono ?_
  rintro e w2 ⟨A3, c3, rfl, ho3, hb2⟩
  have hT2 := hT1.below hb2
  have hB2 := hb1.trans (hb2.mono hb1.size)
  go_wp2_with fail
  refine (cS.out _ (hT2.rows (by omega))).mono ?_
  rintro e w3 ⟨A4, c4, rfl, ho4, hb3⟩
  have hT3 := hT2.below hb3
  have hB3 := hB2.trans (hb3.mono hB2.size)
  have ho3 := ho3.below hb3
  clear cI cS hT1 hT2 hb2 hb3 hB2
  go_wp2_with fail
  refine (lawSame_any _ _ _ _ _ _ _ ho3.ints ho4.ints (by show ys.length ≤ _; omega) (by show ys.length ≤ _; omega)).mono ?_
  rintro e w4 ⟨rfl, n4, rfl⟩
  have hB3 := below_drewN hB3 n4
  have ho3 := ho3.drewN n4
  have ho4 := ho4.drewN n4
  have hT4 : OwnT (w3.drewN n4) w.heap.size w.heap.size A1 vs.length c1 vs := hT3.below (below_drewN (Below.refl _ _) n4)
  clear hT3
  generalize w3.drewN n4 = w4 at *
  cases b
  case false =>
    go_wp2_with fail
    refine (lawSame_any _ _ _ _ _ _ _ ho3.ints ho4.ints (by show ys.length ≤ _; omega) (by show ys.length ≤ _; omega)).mono ?_
    rintro e w5 ⟨rfl, n5, rfl⟩
    go_wp2
    go_ret
    exact ⟨rfl, below_drewN hB3 _⟩
  obtain ⟨hdv, hys⟩ : dvB (vs.map fun v => v.2.2) = true ∧ ys = tog (wid (vs.map fun v => v.2.2)) (vs.map fun v => v.2.2) := by
    have := HR.out
    unfold dvF at this
    split at this
    · next hd => injection this with h1 _; exact ⟨hd, h1.symm⟩
    · injection this with _ h2; cases h2
  have HD := Lib.hid (dvOk_of hdv)
  have HSUM := Lib.hid (show ys.sum = sumR (vs.map fun v => v.2.2) by rw [hys]; exact tog_sum HD.out.len)
  have hd14 := HD.out.l1
  rw [HXL.out] at hd14
  obtain ⟨hd1, hd4⟩ := hd14
  obtain ⟨v0, vt, hvv⟩ : ∃ v0 vt, vs = v0 :: vt := by
    cases vs with
    | nil => simp at hd1
    | cons a t => exact ⟨a, t, rfl⟩
  have HROT := Lib.hid (show dvF ((vt ++ [v0]).map fun v => v.2.2) = (ys, true) by
    have e : (vs.map fun v => v.2.2) = v0.2.2 :: (vt.map fun v => v.2.2) := by rw [hvv]; rfl
    rw [e] at hdv
    obtain ⟨r1, r2⟩ := dv_rot hdv
    rw [List.map_append, List.map_singleton, dvF_t r1, r2, hys, e])
  have HVV := Lib.hid hvv
  have HYS := Lib.hid hys
  clear hvv hys hdv
  have hR4 := hT4.rows (by omega)
  go_wp2
  go_loop [8, 9] (fun s i => ∃ k : Nat, k ≤ vs.length ∧ i = .int .i64 k ∧ s = .int .i64 (sumR ((vs.map fun v => v.2.2).take k))) (fun _ i => vs.length - (intOf i).toNat)
  case atStart => exact ⟨0, by omega, rfl, rfl⟩
  case round =>
    obtain ⟨k, hk, rfl, rfl⟩ := hrel
    by_cases hlt : k < vs.length
    · obtain ⟨ad, xs, B, d, rfl, hx, hc, hi⟩ := hR4.at_ (k := k) (by rw [HXL.out]; exact hlt)
      have hxv := HD.out.row xs (List.mem_of_getElem? hx.out)
      obtain ⟨a1, ⟨_, a2⟩, a3⟩ := vv_iff.1 hxv
      have cS := Lib.hid (lawSum_any B xs d w4 hi (by omega) (fun x hx => by have := a1 x hx; omega))
      have hs1 := sum_bd xs 99 (fun x hx => by have := a1 x hx; omega)
      obtain ⟨t0, t1⟩ := sumR_bd HD.out k
      have hn := Lib.hid (sumR_snoc hx.out)
      clear a1 hxv
      generalize xs.sum = X at *
      go_wp2_with (go_at_call 19; refine cS.out.mono ?_; rintro e w' ⟨rfl, rfl⟩)
      go_round
      case rel => exact ⟨k + 1, by omega, by go_num, by rw [hn.out]⟩
      case measure => simp [intOf]; omega
    · obtain rfl : k = vs.length := by omega
      clear hlt
      have e0 : ((vs.map fun v => v.2.2).take vs.length) = vs.map fun v => v.2.2 := by rw [← HXL.out, List.take_length]
      rw [e0]
      clear e0
      have cS := Lib.hid (fun w (hi : Ints w A3 ys) => lawSum_any A3 ys c3 w hi (by omega) (fun x hx => by
        rw [HYS.out] at hx
        have := (vv_iff.1 HD.out.all).1 x hx
        omega))
      rw [HSUM.out] at cS
      obtain ⟨M, hM⟩ : ∃ M, M = sumR (vs.map fun v => v.2.2) := ⟨_, rfl⟩
      rw [← hM] at cS ⊢
      have hMM : (M == M) = true := by simp
      clear hM hR4
      obtain ⟨B0, d0, x0⟩ := v0
      obtain ⟨g1, rfl, hg10, hg11, _⟩ := hT4.cells (by omega)
      have hcel : ∀ j u, (vs.map rv)[j]? = some u → w4.cell? ((⟨g1, 0, none⟩ : Addr).add j) = some u := fun j u hu => World.ownsRow.cells hT4.row (g := g1) rfl j u hu
      have hc0 : w4.cell? ⟨g1, 0, none⟩ = some (.slice B0 x0.length d0) := by
        have := hcel 0 _ (by rw [HVV.out]; rfl)
        rwa [show (⟨g1, 0, none⟩ : Addr).add 0 = ⟨g1, 0, none⟩ from by unfold Addr.add; simp] at this
      have hown0 := hT4.own (B0, d0, x0) (by rw [HVV.out]; simp)
      have HTL := Lib.hid (show ∀ j u, (vt.map rv)[j]? = some u → w4.cell? ((⟨g1, 1, none⟩ : Addr).add j) = some u from fun j u hu => by
        have := hcel (j + 1) u (by rw [HVV.out]; simpa using hu)
        rw [add_row] at this
        rw [show (⟨g1, 1, none⟩ : Addr).add j = ⟨g1, j + 1, none⟩ from by unfold Addr.add; split <;> simp_all [Nat.add_comm]]
        exact this)
      have HTO := Lib.hid (show ∀ v ∈ vt, OwnI w4 w.heap.size v.1 v.2.1 v.2.2 ∧ v.2.2.length ≤ 10 from fun v hv => hT4.own v (by rw [HVV.out]; simp [hv]))
      have hvl : Hid (vt.length = vs.length - 1) := by show _ = _; rw [HVV.out]; simp
      have hcap : vs.length ≤ c1 := by
        rcases hT4.row.2 with ⟨hv, h0⟩ | ⟨g, cap, cur, hv, hb, hg, h1, _⟩
        · omega
        · injection hv with _ _ hc
          omega
      have cX := Lib.hid (fun (A : Option Addr) (c : Nat) (w : World) (h : RowsI w A ((vt ++ [(B0, d0, x0)]).map fun v => v.2.2)) => implDVotes_any A _ c w h (by
        have := tot_small (vs := vt ++ [(B0, d0, x0)]) (n := 12) (by simp; have := hvl.out; omega) (fun v hv => by
          rcases List.mem_append.1 hv with hv | hv
          · exact (HTO.out v hv).2
          · simp at hv; subst hv; exact hown0.2)
        omega))
      rw [HROT.out, show ((vt ++ [(B0, d0, x0)]).map fun v => v.2.2).length = vs.length from by have := hvl.out; simp; omega] at cX
      have X1 : Below w4.heap.size w4 ((w4.alloc (.cells #[] 23)).drew) := ((Below.refl _ w4).alloc (Nat.le_refl _) _).drew
      have X2 : Below w4.heap.size w4 (((w4.alloc (.cells #[] 23)).drew).alloc (.cells #[.slice B0 x0.length d0] 23)) := X1.alloc (by simp) _
      have X4 : Below w4.heap.size w4 ((w4.alloc (.cells #[.slice B0 x0.length d0] 23)).drew) := ((Below.refl _ w4).alloc (Nat.le_refl _) _).drew
      have X3 : Below w4.heap.size w4 (((w4.alloc (.cells #[.slice B0 x0.length d0] 23)).drew).alloc (.cells #[] 23)) := X4.alloc (by simp) _
      have Y1 : OwnT ((w4.alloc (.cells #[] 23)).drew) w4.heap.size w.heap.size (some ⟨w4.heap.size, 0, none⟩) 0 0 [] := (own_emptyT w4 (Nat.le_refl _)).drew'
      have Y2 : OwnT (((w4.alloc (.cells #[] 23)).drew).alloc (.cells #[.slice B0 x0.length d0] 23)) w4.heap.size w.heap.size (some ⟨w4.heap.size, 0, none⟩) 0 0 [] := Y1.alloc _
      have Y3 : OwnT (((w4.alloc (.cells #[.slice B0 x0.length d0] 23)).drew).alloc (.cells #[] 23)) w4.heap.size w.heap.size (some ⟨w4.heap.size + 1, 0, none⟩) 0 0 [] := (own_emptyT2 w4 _).drew'
      have N1 : ∀ w' : World, (w'.alloc (.cells #[.slice B0 x0.length d0] 23)).cell? ⟨w'.heap.size, 0, none⟩ = some (.slice B0 x0.length d0) := fun w' => cell_of_row _ w'.heap.size 0 #[.slice B0 x0.length d0] 23 (0, 0) (heap_alloc_new w' _)
      have HN := Lib.hid N1
      clear N1
      have N2 : (((w4.alloc (.cells #[] 23)).drew).alloc (.cells #[.slice B0 x0.length d0] 23)).cell? ⟨w4.heap.size + 1, 0, none⟩ = some (.slice B0 x0.length d0) := by
        have := HN.out ((w4.alloc (.cells #[] 23)).drew)
        simpa using this
      have N3 : (((w4.alloc (.cells #[.slice B0 x0.length d0] 23)).drew).alloc (.cells #[] 23)).cell? ⟨w4.heap.size, 0, none⟩ = some (.slice B0 x0.length d0) := cell_alloc (cell_drew (HN.out w4)) _
      clear hcel
      have hi0 : (0 : Int) < (vs.length : Int) := by omega
      have hi1 : (1 : Int) ≤ (vs.length : Int) := by omega
      have hi2 : 0 < vs.length := by omega
      have hi3 : (1 : Int) ≤ (c1 : Int) := by omega
      by_cases hc1' : c1 = 1
      · have hvt : vt = [] := List.eq_nil_of_length_eq_zero (by have := hvl.out; omega)
        have HVT := Lib.hid hvt
        clear hvt
        rw [HVT.out] at cX
        go_wp2
        go_region_held3 (fun w' => w'.cell? ⟨g1, 0, none⟩ = some (.slice B0 x0.length d0)) (first | exact hc0 | exact cell_drew hc0 | exact cell_belowD X1 hc0 | exact cell_belowD X2 hc0 | exact cell_belowD X4 hc0 | exact cell_belowD X3 hc0 | exact cell_belowD b3 hc0 | exact cell_belowD (b3.alloc b3.size _) hc0 | exact cell_belowD b8 hc0 | exact cell_belowD b9 hc0 | fail)
          (first
            | (refine step_appTN _ rfl (.tmp 62) (.tmp 64) rfl w4.heap.size w.heap.size (some ⟨w4.heap.size, 0, none⟩) 0 0 [] (by simp [Act.eval]) Y1 (by simp) (by omega) ⟨g1, 0, none⟩ [] (vs.length - 1) (c1 - 1) (by simp [Act.eval] <;> omega) (by simp; omega) (by omega) (fun j u hj => by simp at hj) (fun v hv => by simp at hv) (vs.length - 1) (by omega) ?_; intro A3' c3' w3' h3' hg3' hb3'; have b3 := X1.trans hb3')
            | (refine step_appTN _ rfl (.tmp 62) (.tmp 64) rfl w4.heap.size w.heap.size (some ⟨w4.heap.size, 0, none⟩) 0 0 [] (by simp [Act.eval]) Y2 (by simp; omega) (by omega) ⟨g1, 0, none⟩ [] (vs.length - 1) (c1 - 1) (by simp [Act.eval] <;> omega) (by simp; omega) (by omega) (fun j u hj => by simp at hj) (fun v hv => by simp at hv) (vs.length - 1) (by omega) ?_; intro A3' c3' w3' h3' hg3' hb3'; have b3 := X2.trans hb3'; have p3 := cell_grown hg3' N2 (by simp [Value.ownBlock]))
            | (refine step_appTN _ rfl (.tmp 62) (.tmp 64) rfl w4.heap.size w.heap.size (some ⟨w4.heap.size + 1, 0, none⟩) 0 0 [] (by simp [Act.eval]) Y3 (by simp; omega) (by omega) ⟨g1, 0, none⟩ [] (vs.length - 1) (c1 - 1) (by simp [Act.eval] <;> omega) (by simp; omega) (by omega) (fun j u hj => by simp at hj) (fun v hv => by simp at hv) (vs.length - 1) (by omega) ?_; intro A3' c3' w3' h3' hg3' hb3'; have b3 := X3.trans hb3'; have p3 := cell_grown hg3' N3 (by simp [Value.ownBlock]))
            | (refine step_appTN _ rfl (.tmp 65) (.tmp 69) rfl w4.heap.size w.heap.size A3' (vs.length - 1) c3' ([] ++ []) (by simp [Act.eval]) (h3'.alloc _) (by have := b3.size; simp; omega) (by omega) ⟨w3'.heap.size, 0, none⟩ [(B0, d0, x0)] 1 1 (by simp [Act.eval]) rfl (by omega) (one_row (HN.out w3')) (fun v hv => by simp at hv; subst hv; exact ⟨(hown0.1.below b3).alloc _, hown0.2⟩) vs.length (by omega) ?_; intro A8 c8 w8 h8 hg8 hb8; have b8 := (b3.alloc b3.size _).trans hb8)
            | (refine step_appTN _ rfl (.tmp 65) (.tmp 69) rfl w4.heap.size w.heap.size A3' (vs.length - 1) c3' ([] ++ []) (by simp [Act.eval]) h3' b3.size (by omega) ⟨w4.heap.size + 1, 0, none⟩ [(B0, d0, x0)] 1 1 (by simp [Act.eval]) rfl (by omega) (one_row p3) (fun v hv => by simp at hv; subst hv; exact ⟨hown0.1.below b3, hown0.2⟩) vs.length (by omega) ?_; intro A8 c8 w8 h8 hg8 hb8; have b8 := b3.trans hb8)
            | (refine step_appTN _ rfl (.tmp 65) (.tmp 69) rfl w4.heap.size w.heap.size A3' (vs.length - 1) c3' ([] ++ []) (by simp [Act.eval]) h3' b3.size (by omega) ⟨w4.heap.size, 0, none⟩ [(B0, d0, x0)] 1 1 (by simp [Act.eval]) rfl (by omega) (one_row p3) (fun v hv => by simp at hv; subst hv; exact ⟨hown0.1.below b3, hown0.2⟩) vs.length (by omega) ?_; intro A8 c8 w8 h8 hg8 hb8; have b8 := b3.trans hb8)
            | (go_at_call 31; refine (cX.out A8 c8 _ (h8.rows (by omega))).mono ?_; rintro e w9 ⟨A9, c9, rfl, ho9, hb9⟩; have b9 := b8.trans (hb9.mono b8.size)))
        all_goals
          have i3 := (ho3.below b9).ints
          have i9 := ho9.ints
          have hB9 := hB3.trans (b9.mono hB3.size)
          go_wp2_with (first | (go_at_call 18; refine (lawSame_any _ _ _ _ _ _ _ i9 i3 (by show ys.length ≤ _; omega) (by omega)).mono ?_; rintro e w10 ⟨rfl, n10, rfl⟩) | (go_at_call 19; refine (cS.out _ (i3.drewN _)).mono ?_; rintro e w' ⟨rfl, rfl⟩))
          go_ret
          exact ⟨rfl, below_drewN hB9 _⟩
      · have hc2' : ¬ 1 = c1 := fun e => hc1' e.symm
        go_wp2
        go_region_held3 (fun w' => w'.cell? ⟨g1, 0, none⟩ = some (.slice B0 x0.length d0)) (first | exact hc0 | exact cell_drew hc0 | exact cell_belowD X1 hc0 | exact cell_belowD X2 hc0 | exact cell_belowD X4 hc0 | exact cell_belowD X3 hc0 | exact cell_belowD b3 hc0 | exact cell_belowD (b3.alloc b3.size _) hc0 | exact cell_belowD b8 hc0 | exact cell_belowD b9 hc0 | fail)
          (first
            | (refine step_appTN _ rfl (.tmp 62) (.tmp 64) rfl w4.heap.size w.heap.size (some ⟨w4.heap.size, 0, none⟩) 0 0 [] (by simp [Act.eval]) Y1 (by simp) (by omega) ⟨g1, 1, none⟩ vt (vs.length - 1) (c1 - 1) (by simp [Act.eval]) hvl.out (by omega) (fun j u hj => cell_belowD X1 (HTL.out j u hj)) (fun v hv => ⟨(HTO.out v hv).1.below X1, (HTO.out v hv).2⟩) (vs.length - 1) (by omega) ?_; intro A3' c3' w3' h3' hg3' hb3'; have b3 := X1.trans hb3')
            | (refine step_appTN _ rfl (.tmp 62) (.tmp 64) rfl w4.heap.size w.heap.size (some ⟨w4.heap.size, 0, none⟩) 0 0 [] (by simp [Act.eval]) Y2 (by simp; omega) (by omega) ⟨g1, 1, none⟩ vt (vs.length - 1) (c1 - 1) (by simp [Act.eval]) hvl.out (by omega) (fun j u hj => cell_belowD X2 (HTL.out j u hj)) (fun v hv => ⟨(HTO.out v hv).1.below X2, (HTO.out v hv).2⟩) (vs.length - 1) (by omega) ?_; intro A3' c3' w3' h3' hg3' hb3'; have b3 := X2.trans hb3'; have p3 := cell_grown hg3' N2 (by simp [Value.ownBlock]))
            | (refine step_appTN _ rfl (.tmp 62) (.tmp 64) rfl w4.heap.size w.heap.size (some ⟨w4.heap.size + 1, 0, none⟩) 0 0 [] (by simp [Act.eval]) Y3 (by simp; omega) (by omega) ⟨g1, 1, none⟩ vt (vs.length - 1) (c1 - 1) (by simp [Act.eval]) hvl.out (by omega) (fun j u hj => cell_belowD X3 (HTL.out j u hj)) (fun v hv => ⟨(HTO.out v hv).1.below X3, (HTO.out v hv).2⟩) (vs.length - 1) (by omega) ?_; intro A3' c3' w3' h3' hg3' hb3'; have b3 := X3.trans hb3'; have p3 := cell_grown hg3' N3 (by simp [Value.ownBlock]))
            | (refine step_appTN _ rfl (.tmp 65) (.tmp 69) rfl w4.heap.size w.heap.size A3' (vs.length - 1) c3' ([] ++ vt) (by simp [Act.eval]) (h3'.alloc _) (by have := b3.size; simp; omega) (by omega) ⟨w3'.heap.size, 0, none⟩ [(B0, d0, x0)] 1 1 (by simp [Act.eval]) rfl (by omega) (one_row (HN.out w3')) (fun v hv => by simp at hv; subst hv; exact ⟨(hown0.1.below b3).alloc _, hown0.2⟩) vs.length (by omega) ?_; intro A8 c8 w8 h8 hg8 hb8; have b8 := (b3.alloc b3.size _).trans hb8)
            | (refine step_appTN _ rfl (.tmp 65) (.tmp 69) rfl w4.heap.size w.heap.size A3' (vs.length - 1) c3' ([] ++ vt) (by simp [Act.eval]) h3' b3.size (by omega) ⟨w4.heap.size + 1, 0, none⟩ [(B0, d0, x0)] 1 1 (by simp [Act.eval]) rfl (by omega) (one_row p3) (fun v hv => by simp at hv; subst hv; exact ⟨hown0.1.below b3, hown0.2⟩) vs.length (by omega) ?_; intro A8 c8 w8 h8 hg8 hb8; have b8 := b3.trans hb8)
            | (refine step_appTN _ rfl (.tmp 65) (.tmp 69) rfl w4.heap.size w.heap.size A3' (vs.length - 1) c3' ([] ++ vt) (by simp [Act.eval]) h3' b3.size (by omega) ⟨w4.heap.size, 0, none⟩ [(B0, d0, x0)] 1 1 (by simp [Act.eval]) rfl (by omega) (one_row p3) (fun v hv => by simp at hv; subst hv; exact ⟨hown0.1.below b3, hown0.2⟩) vs.length (by omega) ?_; intro A8 c8 w8 h8 hg8 hb8; have b8 := b3.trans hb8)
            | (go_at_call 31; refine (cX.out A8 c8 _ (h8.rows (by omega))).mono ?_; rintro e w9 ⟨A9, c9, rfl, ho9, hb9⟩; have b9 := b8.trans (hb9.mono b8.size)))
        all_goals
          have i3 := (ho3.below b9).ints
          have i9 := ho9.ints
          have hB9 := hB3.trans (b9.mono hB3.size)
          go_wp2_with (first | (go_at_call 18; refine (lawSame_any _ _ _ _ _ _ _ i9 i3 (by show ys.length ≤ _; omega) (by omega)).mono ?_; rintro e w10 ⟨rfl, n10, rfl⟩) | (go_at_call 19; refine (cS.out _ (i3.drewN _)).mono ?_; rintro e w' ⟨rfl, rfl⟩))
          go_ret
          exact ⟨rfl, below_drewN hB9 _⟩
set_option maxRecDepth 100000 in
theorem FnDistrictVotes_lifted (os : Os) (started : os.Started) (H : Type) (enc : TypeId × Value → H) :
    ReturnsInHanded {} Try.checked os 8 .any (Rows.fnDistrictVotesSpec.pre6 enc Try.prog Try.f8 Rows.fnDistrictVotesRow.domain false) (Rows.fnDistrictVotesSpec.post enc Try.prog Try.f8 false true false false) := by
  refine returnsInHanded_of_change (C := Try.checked) Try.own started (by kernel_rfl) Try.func8
    (ChangeSpec.witness6 (enc := enc) (C := Try.checked) false ⟨#[], #[.slice none 0 0], []⟩ 8 (by kernel_rfl) (by kernel_rfl) (by kernel_rfl) (by kernel_rfl)) ?_
  intro W base args ds gs before hval0 hW hcnd _
  have hval : ∀ (j : Nat) t v, Try.f8.params[j]? = some t → args[j]? = some v → Value.okWide Try.prog W .any base t v := hval0
  have hW' := hW
  obtain ⟨p, q, hA0, hV, rfl, hfz, hnd⟩ := hW
  have hA : DataW.TrodAll enc Try.prog W 0 (fun _ => true) true Try.f8.params.toList args.toList ds p := hA0
  rw [Try.params8] at hA hval
  obtain ⟨v0, vs0, d0, ds0, p0, q0, hargs, rfl, rfl, h0, r0⟩ := trodAll_cons hA
  obtain ⟨rfl, rfl, rfl⟩ := trodAll_nil r0
  obtain rfl : args = #[v0] := by cases args; simp_all
  obtain ⟨rfl, rfl⟩ := trodVars_none hV
  have k0 := h0
  have lt0 : ∀ x ∈ p0, x.block < W.heap.size := by obtain ⟨m, hm⟩ := k0; exact DataW.trod_lt m _ _ _ hm
  obtain ⟨a0, z0, c0, rfl, w0⟩ := openByts (hval 0 22 v0 rfl rfl) h0
  clear hA0 hval0
  refine (FnDistrictVotes_walk a0 z0 c0 W w0).mono fun e W' ⟨he, bel⟩ => ?_
  subst he
  exact ⟨_, rfl, _, _, _, [], _, [], hW', trodAll_mk1 (shut_bool Try.underlying4 _), (trodAll_cons_mk (Below.trod Try.laidOut (by kernel_rfl) (of_decide_eq_true (by kernel_rfl)) k0 bel lt0) trodAll_mk0), rfl, bel.frame _, fun h => by cases h⟩
/-- The given statement. -/
theorem FnDistrictVotes_holds : Rows.FnDistrictVotesSaid :=
  OpenClaim.holds_of_wide 8 Try.f8 rfl rfl rfl rfl rfl rfl rfl ⟨rfl, rfl, rfl, rfl, rfl⟩ rfl rfl rfl rfl rfl (by kernel_rfl) Try.func8 (by kernel_rfl)
    (of_decide_eq_true (by kernel_rfl)) (by unfold Func.isWrapper; first | (rw [if_pos (by decide +kernel)]; kernel_rfl) | (rw [if_neg (by decide +kernel)]; exact ⟨rfl, rfl⟩))
    (fun os started H enc _ => FnDistrictVotes_lifted os started H enc)
end Go.Proofs.Ytcddfibohcgjbaa
