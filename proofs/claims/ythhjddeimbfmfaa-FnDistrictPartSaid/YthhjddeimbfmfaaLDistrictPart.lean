/-
  For every code, the law FnDistrictPart returns true: all districts have the same parties. There are no conditions.
-/
import Derived.Test.YthhjddeimbfmfaaDistP
import Derived.Test.YthhjddeimbfmfaaDistV
import Derived.Test.YthhjddeimbfmfaaDivisS
namespace Go.Proofs.Ythhjddeimbfmfaa
open Go.ChangeShapes Go.WideShapes Go.ChangeAt Go.RowKit
set_option maxRecDepth 100000 in
set_option maxHeartbeats 3200000 in
theorem FnDistrictPart_walk (A : Option Addr) (n c : Nat) (B : Option Addr) (n' c' : Nat) (w : World) (h : BytsA w A n c) (h' : BytsA w B n' c') :
    Calls Try.prog 14 #[.slice A n c, .slice B n' c'] w (LawOk w) := by
  by_cases hl : n ≤ 1048576
  case neg =>
    have hbig : (1048576 : Int) < n := by omega
    clear hl
    go_enter Try.func14, Try.ntmps14
    go_wp2
    go_ret
    exact ⟨rfl, Below.refl _ _⟩
  by_cases hl' : n' ≤ 1048576
  case neg =>
    have hbig : (1048576 : Int) < n' := by omega
    clear hl'
    go_enter Try.func14, Try.ntmps14
    go_wp2
    go_ret
    exact ⟨rfl, Below.refl _ _⟩
  go_enter Try.func14, Try.ntmps14
  go_wp2_with fail
  refine (drawDValid_any _ _ _ _ h).mono ?_
  rintro e w1 ⟨A1, c1, vs, rfl, hv12, hT1, hb1⟩
  have hxl : (vs.map fun v => v.2.2).length = vs.length := List.length_map _
  have htot : tot (vs.map fun v => v.2.2) ≤ 1048576 := by
    have := tot_small hv12 (fun v hv => by have := (hT1.own v hv).2; omega)
    omega
  have cI := Lib.hid (fun (w : World) (h : RowsI w A1 (vs.map fun v => v.2.2)) => implDV_any A1 _ c1 w h htot)
  have cS := Lib.hid (fun (w : World) (h : RowsI w A1 (vs.map fun v => v.2.2)) => specDV_any A1 _ c1 w h htot)
  rw [hxl] at cI cS
  obtain ⟨r, hr⟩ : ∃ r, dvB (vs.map fun v => v.2.2) = r := ⟨_, rfl⟩
  rw [hr] at cI cS
  have HR := Lib.hid hr
  clear hr
  go_wp2_with fail
  refine (cI.out _ (hT1.rows (by omega))).mono ?_
  rintro e w2 ⟨rfl, hb2⟩
  have hT2 := hT1.below hb2
  have hB2 := hb1.trans (hb2.mono hb1.size)
  go_wp2_with fail
  refine (cS.out _ (hT2.rows (by omega))).mono ?_
  rintro e w3 ⟨rfl, hb3⟩
  have hT3 := hT2.below hb3
  have hB3 := hB2.trans (hb3.mono hB2.size)
  clear cI cS hT1 hT2 hb2 hb3 hB2
  cases r
  case false =>
    go_wp2
    go_ret
    exact ⟨rfl, hB3⟩
  obtain ⟨⟨hd1, hd4⟩, hd2, _⟩ := dvB_iff.1 HR.out
  rw [hxl] at hd1 hd4
  have HXL := Lib.hid hxl
  have HD2 := Lib.hid hd2
  clear hd2 hxl
  obtain ⟨k, hk, hkl⟩ : ∃ k : Nat, (n' : Int) % (vs.length : Int) = (k : Int) ∧ k < vs.length := ⟨n' % vs.length, rfl, Nat.mod_lt _ (by omega)⟩
  have hlz : ¬ (vs.length : Int) = 0 := by omega
  obtain ⟨g1, rfl, hg1b, hg1l, _⟩ := hT3.cells (by omega)
  obtain ⟨v, hv⟩ : ∃ v, vs[k]? = some v := ⟨_, List.getElem?_eq_getElem hkl⟩
  obtain ⟨Bk, dk, xk⟩ := v
  have hcel : ∀ j u, (vs.map rv)[j]? = some u → w3.cell? ((⟨g1, 0, none⟩ : Addr).add j) = some u := fun j u hu => World.ownsRow.cells hT3.row (g := g1) rfl j u hu
  have HC := Lib.hid hcel
  have hoB := (hT3.own _ (List.mem_of_getElem? hv)).1
  have hxk1 : 0 < xk.length := by
    have := (vv_iff.1 (HD2.out xk (List.mem_map.2 ⟨_, List.mem_of_getElem? hv, rfl⟩)).1).2.1
    omega
  have hoB : OwnI w3 w.heap.size Bk dk xk := hoB
  have h5B : xk.length ≤ 5 := (vv_iff.1 (HD2.out xk (List.mem_map.2 ⟨_, List.mem_of_getElem? hv, rfl⟩)).1).2.1.2
  obtain ⟨gk, rfl, hgkb, hgkl⟩ := hoB.form hxk1
  have HV := Lib.hid hv
  clear hv hcel
  have hcc : 1 ≤ c1 := by
    rcases hT3.row.2 with ⟨hv, h0⟩ | ⟨g, cap, cur, hv, _, _, h1, _⟩
    · omega
    · injection hv with _ _ hc
      omega
  have h1c : (1 : Int) ≤ (c1 : Int) := by omega
  by_cases hone : vs.length = 1
  · have d1 : ((vs.length : Int) == 1) = true := by simp; omega
    clear hone
    go_wp2_with (at_builtin; first | (refine wpList_appTN _ rfl (.tmp 39) (.tmp 40) rfl w3.heap.size w.heap.size _ 0 _ [] rfl (own_emptyT w3 (Nat.le_refl _)) (by simp) (by omega) _ vs _ _ rfl rfl (by omega) (fun j u hu => cell_alloc (HC.out j u hu) _) (hT3.alloc _).own ?_; intro A5 c5 w5 hT5 hb5; rw [Nat.zero_add, List.nil_append] at hT5; have hb35 : Below w3.heap.size w3 w5 := ((Below.refl _ _).alloc (Nat.le_refl _) _).trans hb5; have hT35 := hT3.below hb35; have hc5 := World.ownsRow.cells hT35.row (g := g1) rfl k _ (by rw [List.getElem?_map, HV.out]; rfl); rw [add_row] at hc5; have hc5 : w5.cell? ⟨g1, k, none⟩ = some (.slice (some ⟨gk, 0, none⟩) xk.length dk) := hc5; have hc5 := cell_alloc hc5 (.cells #[] 3); have hi5 := (hoB.below hb35).ints) | (refine wpList_appN _ rfl (.tmp 44) (.tmp 48) rfl w5.heap.size _ 0 _ [] rfl ⟨rfl, own_empty w5 (Nat.le_refl _)⟩ (by simp) (by omega) _ xk _ _ rfl rfl (by omega) (hi5.alloc _) ?_; intro A6 d6 w6 ho6 hg6 hb6; rw [Nat.zero_add, List.nil_append] at ho6; have hz6 := hb6.size; simp at hz6) | (refine wpList_app1 _ rfl (.tmp 49) (.tmp 50) rfl w5.heap.size A6 xk.length d6 xk rfl ho6 (by omega) (by omega) _ rfl ?_; intro A7 d7 w7 ho7 hg7 hb7; have hb57 : Below w5.heap.size w5 w7 := (((Below.refl _ _).alloc (Nat.le_refl _) _).trans hb6).trans hb7; have hT7 := hT5.below hb57; obtain ⟨g5, rfl, hg5b, hg5l, _⟩ := hT7.cells (by omega); obtain ⟨v7, hc7, hf7⟩ := hT7.cellAt hkl))
    have hz57 := hb57.size
    have hz35 := hb35.size
    have hb37 := hb35.trans (hb57.mono hz35)
    have hT8 := hT7.set (by omega) k (⟨ho7.1, ho7.2.mono (by have := hB3.size; omega)⟩ : OwnN w7 w.heap.size A7 (xk.length + 1) d7 (xk ++ [1])) (by omega)
    have hb38 := hb37.setCell (p := ⟨g5, k, none⟩) (by show w3.heap.size ≤ g5; omega) (.slice A7 (xk.length + 1) d7)
    have hV8 := hT3.below hb38
    have hB8 := hB3.trans (hb38.mono hB3.size)
    clear hc7 hf7 hc5 hb57 hb37 hb38 hb35 hb5 hb6 hb7 hg6 hg7 ho6 ho7 hT35 hT7 hT5 hi5
    generalize w7.setCell ⟨g5, k, none⟩ (.slice A7 (xk.length + 1) d7) = w8 at *
    have hR8 := hV8.rows (by omega)
    have hX8 := hT8.rows (by omega)
    have htot2 : tot ((vs.set k (A7, d7, xk ++ [1])).map fun v => v.2.2) ≤ 1048576 := by
      have := tot_small (vs := vs.set k (A7, d7, xk ++ [1])) (n := 12) (by simpa using hv12) (fun v hv => (hT8.own v hv).2)
      omega
    have htot3 : tot ((vs.map fun v => v.2.2).take 1) ≤ 1048576 := by
      have := tot_small (vs := vs.take 1) (n := 12) (by simp; omega) (fun v hv => (hV8.own v (List.mem_of_mem_take hv)).2)
      rw [List.map_take] at this
      omega
    have cF := Lib.hid (fun (w : World) (h : RowsI w (some ⟨g1, 0, none⟩) ((vs.map fun v => v.2.2).take 1)) => implDV_any (some ⟨g1, 0, none⟩) _ c1 w h htot3)
    have hl1 : ((vs.map fun v => v.2.2).take 1).length = 1 := by simp; omega
    rw [hl1, dv_first HR.out] at cF
    have cX := Lib.hid (fun (w : World) (h : RowsI w (some ⟨g5, 0, none⟩) ((vs.set k (A7, d7, xk ++ [1])).map fun v => v.2.2)) => implDV_any (some ⟨g5, 0, none⟩) _ c5 w h htot2)
    have hl2 : ((vs.set k (A7, d7, xk ++ [1])).map fun v => v.2.2).length = vs.length := by simp
    rw [hl2] at cX
    have hR1 := Lib.hid (hR8.take 1)
    clear hl1 hl2 htot2 htot3
    go_wp2_with (go_at_call 36; refine (cF.out _ hR1.out).mono ?_; rintro e w9 ⟨rfl, hb9⟩)
    go_ret
    exact ⟨rfl, hB8.trans (hb9.mono hB8.size)⟩
  · have d1 : ((vs.length : Int) == 1) = false := by simp; omega
    go_wp2_with (at_builtin; first | (refine wpList_appTN _ rfl (.tmp 39) (.tmp 40) rfl w3.heap.size w.heap.size _ 0 _ [] rfl (own_emptyT w3 (Nat.le_refl _)) (by simp) (by omega) _ vs _ _ rfl rfl (by omega) (fun j u hu => cell_alloc (HC.out j u hu) _) (hT3.alloc _).own ?_; intro A5 c5 w5 hT5 hb5; rw [Nat.zero_add, List.nil_append] at hT5; have hb35 : Below w3.heap.size w3 w5 := ((Below.refl _ _).alloc (Nat.le_refl _) _).trans hb5; have hT35 := hT3.below hb35; have hc5 := World.ownsRow.cells hT35.row (g := g1) rfl k _ (by rw [List.getElem?_map, HV.out]; rfl); rw [add_row] at hc5; have hc5 : w5.cell? ⟨g1, k, none⟩ = some (.slice (some ⟨gk, 0, none⟩) xk.length dk) := hc5; have hc5 := cell_alloc hc5 (.cells #[] 3); have hi5 := (hoB.below hb35).ints) | (refine wpList_appN _ rfl (.tmp 44) (.tmp 48) rfl w5.heap.size _ 0 _ [] rfl ⟨rfl, own_empty w5 (Nat.le_refl _)⟩ (by simp) (by omega) _ xk _ _ rfl rfl (by omega) (hi5.alloc _) ?_; intro A6 d6 w6 ho6 hg6 hb6; rw [Nat.zero_add, List.nil_append] at ho6; have hz6 := hb6.size; simp at hz6) | (refine wpList_app1 _ rfl (.tmp 49) (.tmp 50) rfl w5.heap.size A6 xk.length d6 xk rfl ho6 (by omega) (by omega) _ rfl ?_; intro A7 d7 w7 ho7 hg7 hb7; have hb57 : Below w5.heap.size w5 w7 := (((Below.refl _ _).alloc (Nat.le_refl _) _).trans hb6).trans hb7; have hT7 := hT5.below hb57; obtain ⟨g5, rfl, hg5b, hg5l, _⟩ := hT7.cells (by omega); obtain ⟨v7, hc7, hf7⟩ := hT7.cellAt hkl))
    have hz57 := hb57.size
    have hz35 := hb35.size
    have hb37 := hb35.trans (hb57.mono hz35)
    have hT8 := hT7.set (by omega) k (⟨ho7.1, ho7.2.mono (by have := hB3.size; omega)⟩ : OwnN w7 w.heap.size A7 (xk.length + 1) d7 (xk ++ [1])) (by omega)
    have hb38 := hb37.setCell (p := ⟨g5, k, none⟩) (by show w3.heap.size ≤ g5; omega) (.slice A7 (xk.length + 1) d7)
    have hV8 := hT3.below hb38
    have hB8 := hB3.trans (hb38.mono hB3.size)
    clear hc7 hf7 hc5 hb57 hb37 hb38 hb35 hb5 hb6 hb7 hg6 hg7 ho6 ho7 hT35 hT7 hT5 hi5
    generalize w7.setCell ⟨g5, k, none⟩ (.slice A7 (xk.length + 1) d7) = w8 at *
    have hR8 := hV8.rows (by omega)
    have hX8 := hT8.rows (by omega)
    have htot2 : tot ((vs.set k (A7, d7, xk ++ [1])).map fun v => v.2.2) ≤ 1048576 := by
      have := tot_small (vs := vs.set k (A7, d7, xk ++ [1])) (n := 12) (by simpa using hv12) (fun v hv => (hT8.own v hv).2)
      omega
    have htot3 : tot ((vs.map fun v => v.2.2).take 1) ≤ 1048576 := by
      have := tot_small (vs := vs.take 1) (n := 12) (by simp; omega) (fun v hv => (hV8.own v (List.mem_of_mem_take hv)).2)
      rw [List.map_take] at this
      omega
    have cF := Lib.hid (fun (w : World) (h : RowsI w (some ⟨g1, 0, none⟩) ((vs.map fun v => v.2.2).take 1)) => implDV_any (some ⟨g1, 0, none⟩) _ c1 w h htot3)
    have hl1 : ((vs.map fun v => v.2.2).take 1).length = 1 := by simp; omega
    rw [hl1, dv_first HR.out] at cF
    have cX := Lib.hid (fun (w : World) (h : RowsI w (some ⟨g5, 0, none⟩) ((vs.set k (A7, d7, xk ++ [1])).map fun v => v.2.2)) => implDV_any (some ⟨g5, 0, none⟩) _ c5 w h htot2)
    have hl2 : ((vs.set k (A7, d7, xk ++ [1])).map fun v => v.2.2).length = vs.length := by simp
    rw [hl2] at cX
    have hR1 := Lib.hid (hR8.take 1)
    clear hl1 hl2 htot2 htot3
    have hpart : dvB ((vs.set k (A7, d7, xk ++ [1])).map fun v => v.2.2) = false := by
      rw [List.map_set]
      exact dv_part HR.out (by have := HXL.out; omega) (by rw [List.getElem?_map, HV.out]; rfl)
    rw [hpart] at cX
    clear hpart
    go_wp2_with fail
    refine (cX.out _ hX8).mono ?_
    rintro e w9 ⟨rfl, hb9⟩
    go_wp2_with (go_at_call 36; refine (cF.out _ (hR1.out.below hb9)).mono ?_; rintro e w10 ⟨rfl, hb10⟩)
    go_ret
    have hB9 := hB8.trans (hb9.mono hB8.size)
    exact ⟨rfl, hB9.trans (hb10.mono hB9.size)⟩
set_option maxRecDepth 100000 in
theorem FnDistrictPart_lifted (os : Os) (started : os.Started) (H : Type) (enc : TypeId × Value → H) :
    ReturnsInHanded {} Try.checked os 14 .any (Rows.fnDistrictPartSpec.pre6 enc Try.prog Try.f14 Rows.fnDistrictPartRow.domain false) (Rows.fnDistrictPartSpec.post enc Try.prog Try.f14 false true false false) := by
  refine returnsInHanded_of_change (C := Try.checked) Try.own started (by kernel_rfl) Try.func14
    (ChangeSpec.witness6 (enc := enc) (C := Try.checked) false ⟨#[], #[.slice none 0 0, .slice none 0 0], []⟩ 8 (by kernel_rfl) (by kernel_rfl) (by kernel_rfl) (by kernel_rfl)) ?_
  intro W base args ds gs before hval0 hW hcnd _
  have hval : ∀ (j : Nat) t v, Try.f14.params[j]? = some t → args[j]? = some v → Value.okWide Try.prog W .any base t v := hval0
  have hW' := hW
  obtain ⟨p, q, hA0, hV, rfl, hfz, hnd⟩ := hW
  have hA : DataW.TrodAll enc Try.prog W 0 (fun _ => true) true Try.f14.params.toList args.toList ds p := hA0
  rw [Try.params14] at hA hval
  obtain ⟨v0, vs0, d0, ds0, p0, q0, hargs, rfl, rfl, h0, r0⟩ := trodAll_cons hA
  obtain ⟨v1, vs1, d1, ds1, p1, q1, rfl, rfl, rfl, h1, r1⟩ := trodAll_cons r0
  obtain ⟨rfl, rfl, rfl⟩ := trodAll_nil r1
  obtain rfl : args = #[v0, v1] := by cases args; simp_all
  obtain ⟨rfl, rfl⟩ := trodVars_none hV
  have k0 := h0
  have lt0 : ∀ x ∈ p0, x.block < W.heap.size := by obtain ⟨m, hm⟩ := k0; exact DataW.trod_lt m _ _ _ hm
  obtain ⟨a0, z0, c0, rfl, w0⟩ := openByts (hval 0 28 v0 rfl rfl) h0
  have k1 := h1
  have lt1 : ∀ x ∈ p1, x.block < W.heap.size := by obtain ⟨m, hm⟩ := k1; exact DataW.trod_lt m _ _ _ hm
  obtain ⟨a1, z1, c1, rfl, w1⟩ := openByts (hval 1 28 v1 rfl rfl) h1
  clear hA0 hval0
  refine (FnDistrictPart_walk a0 z0 c0 a1 z1 c1 W w0 w1).mono fun e W' ⟨he, bel⟩ => ?_
  subst he
  exact ⟨_, rfl, _, _, _, [], _, [], hW', trodAll_mk1 (shut_bool Try.underlying4 _), (trodAll_cons_mk (Below.trod Try.laidOut (by kernel_rfl) (of_decide_eq_true (by kernel_rfl)) k0 bel lt0) (trodAll_cons_mk (Below.trod Try.laidOut (by kernel_rfl) (of_decide_eq_true (by kernel_rfl)) k1 bel lt1) trodAll_mk0)), rfl, bel.frame _, fun h => by cases h⟩
/-- The given statement. -/
theorem FnDistrictPart_holds : Rows.FnDistrictPartSaid :=
  OpenClaim.holds_of_wide 14 Try.f14 rfl rfl rfl rfl rfl rfl rfl ⟨rfl, rfl, rfl, rfl, rfl⟩ rfl rfl rfl rfl rfl (by kernel_rfl) Try.func14 (by kernel_rfl)
    (of_decide_eq_true (by kernel_rfl)) (by unfold Func.isWrapper; first | (rw [if_pos (by decide +kernel)]; kernel_rfl) | (rw [if_neg (by decide +kernel)]; exact ⟨rfl, rfl⟩))
    (fun os started H enc _ => FnDistrictPart_lifted os started H enc)
end Go.Proofs.Ythhjddeimbfmfaa
