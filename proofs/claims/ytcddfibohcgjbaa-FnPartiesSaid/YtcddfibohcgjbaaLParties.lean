/-
  For every code, the law FnParties returns true: parties count as at most so many equal ones, and equal ones as many as they are. There are no conditions.
-/
import Derived.Test.YtcddfibohcgjbaaPartsP
import Derived.Test.YtcddfibohcgjbaaDrawP
namespace Go.Proofs.Ytcddfibohcgjbaa
open Go.ChangeShapes Go.WideShapes Go.ChangeAt Go.RowKit
set_option maxHeartbeats 1600000 in
theorem FnParties_walk (A : Option Addr) (n c : Nat) (w : World) (h : BytsA w A n c) :
    Calls Try.prog 4 #[.slice A n c] w (LawOk w) := by
  by_cases hl : n ≤ 1048576
  case neg =>
    have hbig : (1048576 : Int) < n := by omega
    clear hl
    go_enter Try.func4, Try.ntmps4
    go_wp2
    go_ret
    exact ⟨rfl, Below.refl _ _⟩
  go_enter Try.func4, Try.ntmps4
  go_wp2_with fail
  refine (drawParties_any _ _ _ _ h).mono ?_
  rintro e w1 ⟨A1, c1, xs, rfl, ⟨hx5, hox, hb1⟩⟩
  have cS := Lib.hid (fun (w : World) (h : Ints w A1 xs) => specParties_any A1 xs c1 w h (by omega))
  have cI := Lib.hid (fun (w : World) (h : Ints w A1 xs) => implParties_any A1 xs c1 w h (by omega))
  obtain ⟨⟨⟨p, q⟩, b⟩, hr⟩ : ∃ r, r = partsF xs := ⟨_, rfl⟩
  rw [← hr] at cS cI
  have HR := Lib.hid hr.symm
  clear hr
  go_wp2_with fail
  refine (cI.out _ hox.ints).mono ?_
  rintro e w2 ⟨rfl, hb2⟩
  have hB2 := hb1.trans (hb2.mono hb1.size)
  have hB3 := hB2.alloc hB2.size (.cells #[.int .i64 p, .int .i64 q] 33)
  have ho3 := (hox.below hb2).alloc (.cells #[.int .i64 p, .int .i64 q] 33)
  go_wp2_with fail
  refine (cS.out _ ho3.ints).mono ?_
  rintro e w4 ⟨rfl, hb4⟩
  have k4 : w4.heap[w2.heap.size]? = some (.cells #[.int .i64 p, .int .i64 q] 33 (0, 0)) := (hb4.block w2.heap.size (by simp)).trans (heap_alloc_new w2 _)
  have hz4 := Array.getElem?_eq_some_iff.1 k4
  obtain ⟨hz4, _⟩ := hz4
  have hB4 := hB3.trans (hb4.mono hB3.size)
  have hB5 := hB4.alloc hB4.size (.cells #[.int .i64 p, .int .i64 q] 33)
  have ho5 := (ho3.below hb4).alloc (.cells #[.int .i64 p, .int .i64 q] 33)
  have k6 : (w4.alloc (.cells #[.int .i64 p, .int .i64 q] 33)).heap[w2.heap.size]? = some (.cells #[.int .i64 p, .int .i64 q] 33 (0, 0)) := (Below.heap_alloc w4 _ _ (by omega)).trans k4
  have e0 := cell_of_row _ _ 0 _ _ _ k6
  have e1 := cell_of_row _ _ 1 _ _ _ k6
  clear k4 k6
  cases b
  case false =>
    go_wp2
    go_ret
    exact ⟨rfl, hB5⟩
  obtain ⟨hv, nn, hpn, hn5, l1, l2, l3, l4, hsm⟩ := parts_law HR.out
  have HPN := Lib.hid hpn
  have HSM := Lib.hid hsm
  obtain ⟨a1, ⟨a2, a2'⟩, a3⟩ := vv_iff.1 hv
  have HX := Lib.hid a1
  have i5 := ho5.ints
  have cM := Lib.hid (fun (w : World) (h : Ints w A1 xs) => lawMost_any A1 xs c1 w h (by omega))
  have i1 : (q : Int) ≤ (p : Int) := by omega
  have i2 : (p : Int) ≤ (nn : Int) * (q : Int) := by exact_mod_cast l2
  obtain ⟨m0, m1⟩ := mul_bd (a := (nn : Int)) (b := (q : Int)) (M := 5) (N := 49005) ⟨by omega, by omega⟩ ⟨by omega, by omega⟩
  clear hpn hsm hv a1 a3 ho3 ho5 l2
  go_wp2
  go_loopw [8, 9, 10] (fun n sm i wr => ∃ (j m : Nat) (bb : Bool), j ≤ xs.length ∧ i = .int .i64 j ∧ n = .int .i64 (posN (xs.take j)) ∧ sm = .bool bb ∧ Hid (bb = sameB xs j) ∧ wr = (w4.alloc (.cells #[.int .i64 p, .int .i64 q] 33)).drewN m) (fun _ _ i _ => xs.length - (intOf i).toNat)
  case atStart => exact ⟨0, 0, true, by omega, rfl, rfl, rfl, rfl, rfl⟩
  case round =>
    obtain ⟨j, m, bb, hj, rfl, rfl, rfl, hbb, rfl⟩ := hrel
    by_cases hlt : j < xs.length
    · obtain ⟨ad, x, rfl, hx, hc⟩ := i5.at_ hlt
      have hpb := posN_bd (xs.take j)
      obtain ⟨hpb0, hpb1⟩ := hpb
      have hlk : (xs.take j).length ≤ j := List.length_take_le _ _
      have HP := Lib.hid (posN_snoc hx.out)
      have HS := Lib.hid (sameB_snoc hx.out)
      by_cases h0 : 0 < x
      · have HP : Hid (posN (xs.take (j + 1)) = posN (xs.take j) + 1) := by show _ = _; rw [HP.out, if_pos h0]
        have HS : Hid (sameB xs (j + 1) = (bb && (x == mostL xs))) := by show _ = _; rw [HS.out, ← hbb.out]; simp [h0]
        cases bb
        · go_wp2
          go_quiet (fail)
          go_wp2
          go_roundw
          case rel => exact ⟨j + 1, _, _, by omega, by go_num, by rw [HP.out], rfl, HS.out.symm, rfl⟩
          case measure => simp [intOf]; omega
        · cases hxm : (x == mostL xs)
          all_goals
            go_wp2
            go_quiet ((go_at_call 23; exact Ret.quiet_add (cM.out _ (i5.drewN _))))
            go_wp2
            go_roundw
            case rel => exact ⟨j + 1, _, _, by omega, by go_num, by rw [HP.out], rfl, by show _ = _; rw [HS.out, hxm]; rfl, rfl⟩
            case measure => simp [intOf]; omega
      · have HP : Hid (posN (xs.take (j + 1)) = posN (xs.take j)) := by show _ = _; rw [HP.out, if_neg h0, Int.add_zero]
        have HS : Hid (sameB xs (j + 1) = bb) := by show _ = _; rw [HS.out, ← hbb.out]; simp [h0]
        go_wp2
        go_roundw
        case rel => exact ⟨j + 1, _, _, by omega, by go_num, by rw [HP.out], rfl, HS.out.symm, rfl⟩
        case measure => simp [intOf]; omega
    · obtain rfl : j = xs.length := by omega
      clear hlt
      have hP : posN (xs.take xs.length) = nn := by rw [List.take_length]; exact HPN.out
      rw [hP]
      clear hP
      have i4 : (nn : Int) ≤ 5 := by omega
      have e0' : ((w4.alloc (.cells #[.int .i64 p, .int .i64 q] 33)).drewN m).cell? ⟨w2.heap.size, 0, none⟩ = some (.int .i64 p) := e0
      have e1' : ((w4.alloc (.cells #[.int .i64 p, .int .i64 q] 33)).drewN m).cell? ⟨w2.heap.size, 1, none⟩ = some (.int .i64 q) := e1
      have hBm := below_drewN hB5 m
      clear e0 e1
      generalize (w4.alloc (.cells #[.int .i64 p, .int .i64 q] 33)).drewN m = w9 at *
      cases bb
      · go_wp2
        go_ret
        exact ⟨rfl, hBm⟩
      · obtain ⟨h1, h2⟩ := HSM.out hbb.out.symm
        subst h1
        subst h2
        have e1'' : w9.cell? ⟨w2.heap.size, 1, none⟩ = some (.int .i64 1) := e1'
        clear e1' hb4 hB5 hB4 hB3
        go_wp2
        go_ret
        exact ⟨rfl, hBm⟩
set_option maxRecDepth 100000 in
theorem FnParties_lifted (os : Os) (started : os.Started) (H : Type) (enc : TypeId × Value → H) :
    ReturnsInHanded {} Try.checked os 4 .any (Rows.fnPartiesSpec.pre6 enc Try.prog Try.f4 Rows.fnPartiesRow.domain false) (Rows.fnPartiesSpec.post enc Try.prog Try.f4 false true false false) := by
  refine returnsInHanded_of_change (C := Try.checked) Try.own started (by kernel_rfl) Try.func4
    (ChangeSpec.witness6 (enc := enc) (C := Try.checked) false ⟨#[], #[.slice none 0 0], []⟩ 8 (by kernel_rfl) (by kernel_rfl) (by kernel_rfl) (by kernel_rfl)) ?_
  intro W base args ds gs before hval0 hW hcnd _
  have hval : ∀ (j : Nat) t v, Try.f4.params[j]? = some t → args[j]? = some v → Value.okWide Try.prog W .any base t v := hval0
  have hW' := hW
  obtain ⟨p, q, hA0, hV, rfl, hfz, hnd⟩ := hW
  have hA : DataW.TrodAll enc Try.prog W 0 (fun _ => true) true Try.f4.params.toList args.toList ds p := hA0
  rw [Try.params4] at hA hval
  obtain ⟨v0, vs0, d0, ds0, p0, q0, hargs, rfl, rfl, h0, r0⟩ := trodAll_cons hA
  obtain ⟨rfl, rfl, rfl⟩ := trodAll_nil r0
  obtain rfl : args = #[v0] := by cases args; simp_all
  obtain ⟨rfl, rfl⟩ := trodVars_none hV
  have k0 := h0
  have lt0 : ∀ x ∈ p0, x.block < W.heap.size := by obtain ⟨m, hm⟩ := k0; exact DataW.trod_lt m _ _ _ hm
  obtain ⟨a0, z0, c0, rfl, w0⟩ := openByts (hval 0 22 v0 rfl rfl) h0
  clear hA0 hval0
  refine (FnParties_walk a0 z0 c0 W w0).mono fun e W' ⟨he, bel⟩ => ?_
  subst he
  exact ⟨_, rfl, _, _, _, [], _, [], hW', trodAll_mk1 (shut_bool Try.underlying4 _), (trodAll_cons_mk (Below.trod Try.laidOut (by kernel_rfl) (of_decide_eq_true (by kernel_rfl)) k0 bel lt0) trodAll_mk0), rfl, bel.frame _, fun h => by cases h⟩
/-- The given statement. -/
theorem FnParties_holds : Rows.FnPartiesSaid :=
  OpenClaim.holds_of_wide 4 Try.f4 rfl rfl rfl rfl rfl rfl rfl ⟨rfl, rfl, rfl, rfl, rfl⟩ rfl rfl rfl rfl rfl (by kernel_rfl) Try.func4 (by kernel_rfl)
    (of_decide_eq_true (by kernel_rfl)) (by unfold Func.isWrapper; first | (rw [if_pos (by decide +kernel)]; kernel_rfl) | (rw [if_neg (by decide +kernel)]; exact ⟨rfl, rfl⟩))
    (fun os started H enc _ => FnParties_lifted os started H enc)
end Go.Proofs.Ytcddfibohcgjbaa
