/-
  For every code, the law FnPartiesScale returns true: only shares count. There are no conditions.
-/
import Derived.Test.YtcddfibohcgjbaaPartsP
import Derived.Test.YtcddfibohcgjbaaDrawP
import Derived.Test.YtcddfibohcgjbaaDivP
import Derived.Test.YtcddfibohcgjbaaDivisS
namespace Go.Proofs.Ytcddfibohcgjbaa
open Go.ChangeShapes Go.WideShapes Go.ChangeAt Go.RowKit
theorem vv_two {xs : List Int} (hv : vv xs = true) (h : ∀ x ∈ xs, x ≤ 49) : vv (xs.map fun x => 2 * x) = true := by
  obtain ⟨a1, a2, a3⟩ := vv_iff.1 hv
  refine vv_iff.2 ⟨fun y hy => ?_, by simpa using a2, ?_⟩
  · obtain ⟨x, hx, rfl⟩ := List.mem_map.1 hy
    have := a1 x hx; have := h x hx; omega
  · have e : (xs.map fun x => 2 * x) = xs.map fun x => x * 2 := List.map_congr_left fun x _ => Int.mul_comm _ _
    rw [e, sum_scale]; omega
theorem sqL_two (xs : List Int) : sqL (xs.map fun x => 2 * x) = 4 * sqL xs := by
  induction xs with
  | nil => simp [sqL]
  | cons a t ih =>
    have e1 : sqL (a :: t) = a * a + sqL t := by simp [sqL]
    have e2 : sqL ((a :: t).map fun x => 2 * x) = (2 * a) * (2 * a) + sqL (t.map fun x => 2 * x) := by simp [sqL]
    rw [e1, e2, ih]
    have : (2 * a) * (2 * a) = 4 * (a * a) := by rw [show (4 : Int) = 2 * 2 from rfl]; ac_rfl
    omega
theorem parts_two {xs : List Int} {p q : Nat} (hr : partsF xs = ((p, q), true)) (h : mostL xs ≤ 49) : partsF (xs.map fun x => 2 * x) = ((p, q), true) := by
  have hv := (parts_law hr).1
  obtain ⟨T, Q, hT, hQ, _, _, hQ1, _⟩ := parts_facts hv
  rw [partsF_t hv hT hQ] at hr
  have hv2 := vv_two hv (fun x hx => by have := mostL_ge xs x hx; omega)
  have e : (xs.map fun x => 2 * x) = xs.map fun x => x * 2 := List.map_congr_left fun x _ => Int.mul_comm _ _
  have hT2 : (xs.map fun x => 2 * x).sum = ((2 * T : Nat) : Int) := by rw [e, sum_scale, hT]; push_cast; omega
  have hQ2 : sqL (xs.map fun x => 2 * x) = ((4 * Q : Nat) : Int) := by rw [sqL_two, hQ]; push_cast; rfl
  rw [partsF_t hv2 hT2 hQ2]
  have e4 : 2 * T * (2 * T) = 4 * (T * T) := by rw [show 4 = 2 * 2 from rfl]; ac_rfl
  rw [e4, Nat.gcd_mul_left, Nat.mul_div_mul_left _ _ (by omega), Nat.mul_div_mul_left _ _ (by omega)]
  exact hr
theorem parts_nil {xs : List Int} {p q : Nat} (hr : partsF xs = ((p, q), true)) (h : xs.length ≠ 5) : partsF (xs ++ [0]) = ((p, q), true) := by
  have hv := (parts_law hr).1
  obtain ⟨T, Q, hT, hQ, _⟩ := parts_facts hv
  rw [partsF_t hv hT hQ] at hr
  obtain ⟨a1, a2, a3⟩ := vv_iff.1 hv
  have hs : (xs ++ [(0 : Int)]).sum = xs.sum := by rw [sum_append]; simp
  have hq : sqL (xs ++ [(0 : Int)]) = sqL xs := by unfold sqL; rw [List.map_append, sum_append]; simp
  have hv2 : vv (xs ++ [0]) = true := vv_iff.2 ⟨fun y hy => by
    rcases List.mem_append.1 hy with hy | hy
    · exact a1 y hy
    · simp at hy; omega, by simp; omega, by rw [hs]; exact a3⟩
  rw [partsF_t hv2 (hs.trans hT) (hq.trans hQ)]
  exact hr
theorem own_empty' (w : World) (o : Obj) {base : Nat} (hb : base ≤ w.heap.size + 1) : OwnI ((w.alloc o).alloc (.cells #[] 3)) base (some ⟨w.heap.size + 1, 0, none⟩) 0 [] := by
  have := own_empty (w.alloc o) (base := base) (by simp; omega)
  simpa using this
theorem blk_keep {w w' : World} {g : Nat} {o : Obj} (h : w.heap[g]? = some o) (hb : Below w.heap.size w w') : w'.heap[g]? = some o :=
  (hb.block g (Array.getElem?_eq_some_iff.1 h).1).trans h
theorem blk_alloc {w : World} {g : Nat} {o : Obj} (h : w.heap[g]? = some o) (o' : Obj) : (w.alloc o').heap[g]? = some o :=
  blk_keep h ((Below.refl _ _).alloc (Nat.le_refl _) _)
set_option maxRecDepth 100000 in
set_option maxHeartbeats 1600000 in
theorem FnPartiesScale_walk (A : Option Addr) (n c : Nat) (w : World) (h : BytsA w A n c) :
    Calls Try.prog 5 #[.slice A n c] w (LawOk w) := by
  by_cases hl : n ≤ 1048576
  case neg =>
    have hbig : (1048576 : Int) < n := by omega
    clear hl
    go_enter Try.func5, Try.ntmps5
    go_wp2
    go_ret
    exact ⟨rfl, Below.refl _ _⟩
  go_enter Try.func5, Try.ntmps5
  go_wp2_with fail
  refine (drawParties_any _ _ _ _ h).mono ?_
  rintro e w1 ⟨A1, c1, xs, rfl, ⟨hx5, hox, hb1⟩⟩
  have cS := Lib.hid (fun (w : World) (h : Ints w A1 xs) => specParties_any A1 xs c1 w h (by omega))
  have cI := Lib.hid (fun (w : World) (h : Ints w A1 xs) => implParties_any A1 xs c1 w h (by omega))
  obtain ⟨⟨⟨p, q⟩, b⟩, hr⟩ : ∃ r, r = partsF xs := ⟨_, rfl⟩
  rw [← hr] at cS cI
  have HR := Lib.hid hr.symm
  clear hr
  go_wp2_with fail
  refine (cI.out _ hox.ints).mono ?_
  rintro e w2 ⟨rfl, hb2⟩
  have hB2 := hb1.trans (hb2.mono hb1.size)
  have hB3 := hB2.alloc hB2.size (.cells #[.int .i64 p, .int .i64 q] 33)
  have ho3 := (hox.below hb2).alloc (.cells #[.int .i64 p, .int .i64 q] 33)
  go_wp2_with fail
  refine (cS.out _ ho3.ints).mono ?_
  rintro e w4 ⟨rfl, hb4⟩
  have k4 := blk_keep (heap_alloc_new w2 (.cells #[.int .i64 p, .int .i64 q] 33)) hb4
  have hB4 := hB3.trans (hb4.mono hB3.size)
  have hB5 := hB4.alloc hB4.size (.cells #[.int .i64 p, .int .i64 q] 33)
  have ho5 := (ho3.below hb4).alloc (.cells #[.int .i64 p, .int .i64 q] 33)
  have k5 := blk_alloc k4 (.cells #[.int .i64 p, .int .i64 q] 33)
  have e0 := cell_of_row _ _ 0 _ _ _ k5
  have e1 := cell_of_row _ _ 1 _ _ _ k5
  clear k4 cS cI
  cases b
  case false =>
    clear k5
    go_wp2
    go_ret
    exact ⟨rfl, hB5⟩
  obtain ⟨hv, _⟩ := parts_law HR.out
  obtain ⟨a1, ⟨a2, a2'⟩, a3⟩ := vv_iff.1 hv
  have HX := Lib.hid a1
  have K5 := Lib.hid k5
  clear a1 a3 hv k5
  obtain ⟨zs, hzs⟩ : ∃ zs, zs = xs.map fun x => 2 * x := ⟨_, rfl⟩
  have hzl : zs.length = xs.length := by rw [hzs, List.length_map]
  have HZ := Lib.hid (fun (j : Nat) (x : Int) (hx : xs[j]? = some x) => (show zs[j]? = some (2 * x) from by rw [hzs, List.getElem?_map, hx]; rfl))
  obtain ⟨⟨⟨p2, q2⟩, b2⟩, hr2⟩ : ∃ r, r = partsF zs := ⟨_, rfl⟩
  have HP2 := Lib.hid (fun (hm : mostL xs ≤ 49) => (show ((p2, q2), b2) = ((p, q), true) from by rw [hr2, hzs]; exact parts_two HR.out hm))
  obtain ⟨⟨⟨p3, q3⟩, b3⟩, hr3⟩ : ∃ r, r = partsF (xs ++ [0]) := ⟨_, rfl⟩
  have HP3 := Lib.hid (fun (hm : xs.length ≠ 5) => (show ((p3, q3), b3) = ((p, q), true) from by rw [hr3]; exact parts_nil HR.out hm))
  have HR2 := Lib.hid hr2.symm
  have HR3 := Lib.hid hr3.symm
  have HZL := Lib.hid hzl
  have i5 := ho5.ints
  clear hzl hzs hr2 hr3 ho3
  go_wp2_with fail
  go_loopw [8, 9] (fun o i wr => ∃ (j : Nat) (B : Option Addr) (d : Nat), j ≤ xs.length ∧ i = .int .i64 j ∧ o = .slice B j d ∧ OwnN wr (w4.alloc (.cells #[.int .i64 p, .int .i64 q] 33)).heap.size B j d (zs.take j) ∧ Below (w4.alloc (.cells #[.int .i64 p, .int .i64 q] 33)).heap.size (w4.alloc (.cells #[.int .i64 p, .int .i64 q] 33)) wr) (fun _ i _ => xs.length - (intOf i).toNat)
  case atStart => exact ⟨0, _, _, by omega, rfl, rfl, ⟨rfl, own_empty' w4 _ (by simp)⟩, (Below.refl _ _).alloc (Nat.le_refl _) _⟩
  case round =>
    generalize w4.alloc (.cells #[.int .i64 p, .int .i64 q] 33) = w5 at *
    obtain ⟨j, B, d, hj, rfl, rfl, hown, hbel⟩ := hrel
    have hsz := hbel.size
    by_cases hlt : j < xs.length
    · obtain ⟨ad, x, rfl, hx, hc⟩ := (i5.below hbel).at_ hlt
      obtain ⟨hx0, hx1⟩ := HX.out x (mem_of_at hx.out)
      have hz := Lib.hid (HZ.out j x hx.out)
      have u1 : IntKind.i64.wrap (2 * x) = 2 * x := IntWalk.i64_in _ (by omega)
      go_wp2_with (at_builtin; refine wpList_app1 _ rfl (.tmp 56) (.tmp 62) rfl w5.heap.size B j d _ rfl hown hsz (by omega) _ rfl ?_; intro B' d' w6 hown' hgr' hbl')
      clear u1
      go_roundw
      case rel => exact ⟨j + 1, _, _, by omega, by go_num, rfl, by rw [take_snoc _ _ _ hz.out]; exact hown', hbel.trans hbl'⟩
      case measure => simp [intOf]; omega
    · obtain rfl : j = xs.length := by omega
      clear hlt
      have hown2 : OwnN wr w5.heap.size B xs.length d zs := by
        have := hown
        rw [List.take_of_length_le (by rw [HZL.out]; exact Nat.le_refl _)] at this
        exact this
      have cX := implParties_any B zs d wr hown2.2.ints (by have := HZL.out; omega)
      rw [HR2.out, HZL.out] at cX
      have cX := Lib.hid cX
      go_wp2_with fail
      refine cX.out.mono ?_
      rintro e w6 ⟨rfl, hb6⟩
      have hB6 := (hB5.trans (hbel.mono hB5.size)).trans (hb6.mono (hB5.trans (hbel.mono hB5.size)).size)
      have hB7 := hB6.alloc hB6.size (.cells #[.int .i64 p2, .int .i64 q2] 33)
      have k7 := blk_alloc (blk_keep (blk_keep K5.out hbel) hb6) (.cells #[.int .i64 p2, .int .i64 q2] 33)
      have j7 := heap_alloc_new w6 (.cells #[.int .i64 p2, .int .i64 q2] 33)
      have ho7 := ((ho5.below hbel).below hb6).alloc (.cells #[.int .i64 p2, .int .i64 q2] 33)
      have K7 := Lib.hid k7
      have J7 := Lib.hid j7
      have h0x : 0 < xs.length := by omega
      obtain ⟨gx, rfl, _, _⟩ := ho7.form h0x
      clear k7 j7 cX hown hown2 e0 e1
      go_wp2_with (at_builtin; first | (refine wpList_appN _ rfl (.tmp 70) (.tmp 71) rfl (w6.alloc (.cells #[.int .i64 p2, .int .i64 q2] 33)).heap.size _ 0 _ [] rfl ⟨rfl, own_empty' w6 _ (by simp)⟩ (by simp) (by omega) _ xs _ _ rfl rfl (by omega) (ho7.ints.alloc _) ?_; intro B8 d8 w8 hown8 hgr8 hbl8; rw [Nat.zero_add, List.nil_append] at hown8) | (refine wpList_app1 _ rfl (.tmp 72) (.tmp 73) rfl (w6.alloc (.cells #[.int .i64 p2, .int .i64 q2] 33)).heap.size B8 xs.length d8 xs rfl hown8 (by have := hbl8.size; simp at this; simp; omega) (by omega) _ rfl ?_; intro B9 d9 w9 hown9 hgr9 hbl9))
      have b79 := ((Below.refl (w6.alloc (.cells #[.int .i64 p2, .int .i64 q2] 33)).heap.size (w6.alloc (.cells #[.int .i64 p2, .int .i64 q2] 33))).alloc (Nat.le_refl _) _ |>.trans hbl8).trans hbl9
      have cZ := implParties_any B9 (xs ++ [0]) d9 w9 hown9.2.ints (by simp; omega)
      rw [HR3.out, hown9.1] at cZ
      have cZ := Lib.hid cZ
      have hB9 := hB7.trans (b79.mono hB7.size)
      have k9 := blk_keep K7.out b79
      have j9 := blk_keep J7.out b79
      have ho9 := ho7.below b79
      clear hgr8 hgr9 hbl8 hbl9 hown8 hown9 b79
      go_wp2_with fail
      refine cZ.out.mono ?_
      rintro e w10 ⟨rfl, hb10⟩
      have hB10 := hB9.trans (hb10.mono hB9.size)
      have hB11 := hB10.alloc hB10.size (.cells #[.int .i64 p3, .int .i64 q3] 33)
      have k11 := blk_alloc (blk_keep k9 hb10) (.cells #[.int .i64 p3, .int .i64 q3] 33)
      have j11 := blk_alloc (blk_keep j9 hb10) (.cells #[.int .i64 p3, .int .i64 q3] 33)
      have ho11 := ((ho9.below hb10).alloc (.cells #[.int .i64 p3, .int .i64 q3] 33)).ints
      have e0 := cell_of_row _ _ 0 _ _ _ k11
      have e1 := cell_of_row _ _ 1 _ _ _ k11
      have f0 := cell_of_row _ _ 0 _ _ _ j11
      have f1 := cell_of_row _ _ 1 _ _ _ j11
      obtain ⟨M, hM⟩ : ∃ M, mostL xs = M := ⟨_, rfl⟩
      have cM := Lib.hid (fun (w : World) (h : Ints w (some ⟨gx, 0, none⟩) xs) => lawMost_any (some ⟨gx, 0, none⟩) xs c1 w h (by omega))
      rw [hM] at cM HP2
      clear k9 j9 k11 j11 cZ hM
      by_cases h49 : M ≤ 49
      · have h2 := HP2.out h49
        injection h2 with h2 h2b
        injection h2 with h2 h2c
        subst h2 h2b h2c
        have d1 : decide (49 < M) = false := by simp; omega
        by_cases hl5 : xs.length = 5
        · have d2 : ((xs.length : Int) == 5) = true := by simp; omega
          clear hl5
          go_wp2_with (go_at_call 23; refine (cM.out _ ho11).mono ?_; rintro e w' ⟨rfl, rfl⟩)
          go_ret
          exact ⟨rfl, hB11⟩
        · have d2 : ((xs.length : Int) == 5) = false := by simp; omega
          have h3 := HP3.out hl5
          injection h3 with h3 h3b
          injection h3 with h3 h3c
          subst h3 h3b h3c
          clear hl5
          go_wp2_with (go_at_call 23; refine (cM.out _ ho11).mono ?_; rintro e w' ⟨rfl, rfl⟩)
          go_ret
          exact ⟨rfl, hB11⟩
      · have d1 : decide (49 < M) = true := by simp; omega
        have hM49 : (49 : Int) < M := by omega
        clear h49
        by_cases hl5 : xs.length = 5
        · have d2 : ((xs.length : Int) == 5) = true := by simp; omega
          clear hl5
          go_wp2_with (go_at_call 23; refine (cM.out _ ho11).mono ?_; rintro e w' ⟨rfl, rfl⟩)
          go_ret
          exact ⟨rfl, hB11⟩
        · have d2 : ((xs.length : Int) == 5) = false := by simp; omega
          have h3 := HP3.out hl5
          injection h3 with h3 h3b
          injection h3 with h3 h3c
          subst h3 h3b h3c
          clear hl5
          go_wp2_with (go_at_call 23; refine (cM.out _ ho11).mono ?_; rintro e w' ⟨rfl, rfl⟩)
          go_ret
          exact ⟨rfl, hB11⟩
set_option maxRecDepth 100000 in
theorem FnPartiesScale_lifted (os : Os) (started : os.Started) (H : Type) (enc : TypeId × Value → H) :
    ReturnsInHanded {} Try.checked os 5 .any (Rows.fnPartiesScaleSpec.pre6 enc Try.prog Try.f5 Rows.fnPartiesScaleRow.domain false) (Rows.fnPartiesScaleSpec.post enc Try.prog Try.f5 false true false false) := by
  refine returnsInHanded_of_change (C := Try.checked) Try.own started (by kernel_rfl) Try.func5
    (ChangeSpec.witness6 (enc := enc) (C := Try.checked) false ⟨#[], #[.slice none 0 0], []⟩ 8 (by kernel_rfl) (by kernel_rfl) (by kernel_rfl) (by kernel_rfl)) ?_
  intro W base args ds gs before hval0 hW hcnd _
  have hval : ∀ (j : Nat) t v, Try.f5.params[j]? = some t → args[j]? = some v → Value.okWide Try.prog W .any base t v := hval0
  have hW' := hW
  obtain ⟨p, q, hA0, hV, rfl, hfz, hnd⟩ := hW
  have hA : DataW.TrodAll enc Try.prog W 0 (fun _ => true) true Try.f5.params.toList args.toList ds p := hA0
  rw [Try.params5] at hA hval
  obtain ⟨v0, vs0, d0, ds0, p0, q0, hargs, rfl, rfl, h0, r0⟩ := trodAll_cons hA
  obtain ⟨rfl, rfl, rfl⟩ := trodAll_nil r0
  obtain rfl : args = #[v0] := by cases args; simp_all
  obtain ⟨rfl, rfl⟩ := trodVars_none hV
  have k0 := h0
  have lt0 : ∀ x ∈ p0, x.block < W.heap.size := by obtain ⟨m, hm⟩ := k0; exact DataW.trod_lt m _ _ _ hm
  obtain ⟨a0, z0, c0, rfl, w0⟩ := openByts (hval 0 22 v0 rfl rfl) h0
  clear hA0 hval0
  refine (FnPartiesScale_walk a0 z0 c0 W w0).mono fun e W' ⟨he, bel⟩ => ?_
  subst he
  exact ⟨_, rfl, _, _, _, [], _, [], hW', trodAll_mk1 (shut_bool Try.underlying4 _), (trodAll_cons_mk (Below.trod Try.laidOut (by kernel_rfl) (of_decide_eq_true (by kernel_rfl)) k0 bel lt0) trodAll_mk0), rfl, bel.frame _, fun h => by cases h⟩
/-- The given statement. -/
theorem FnPartiesScale_holds : Rows.FnPartiesScaleSaid :=
  OpenClaim.holds_of_wide 5 Try.f5 rfl rfl rfl rfl rfl rfl rfl ⟨rfl, rfl, rfl, rfl, rfl⟩ rfl rfl rfl rfl rfl (by kernel_rfl) Try.func5 (by kernel_rfl)
    (of_decide_eq_true (by kernel_rfl)) (by unfold Func.isWrapper; first | (rw [if_pos (by decide +kernel)]; kernel_rfl) | (rw [if_neg (by decide +kernel)]; exact ⟨rfl, rfl⟩))
    (fun os started H enc _ => FnPartiesScale_lifted os started H enc)
end Go.Proofs.Ytcddfibohcgjbaa
