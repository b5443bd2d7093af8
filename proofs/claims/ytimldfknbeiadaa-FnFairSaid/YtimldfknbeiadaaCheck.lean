/-
  Checked seats of the program and of the reference.
-/
import Derived.Test.YtimldfknbeiadaaFair
namespace Go.Proofs.Ytimldfknbeiadaa
open Go.RowKit
/-- The quotient that party i had ahead of its last seat is at least that of party j. -/
def okAt (xs gs : List Int) (m : Int) (i j : Nat) : Bool :=
  !(decide (0 < gs.getD i 0) && decide (xs.getD i 0 * dv (gs.getD j 0) m < xs.getD j 0 * dv (gs.getD i 0 - 1) m))
def checkF (xs gs : List Int) (m : Int) : Bool := vv xs && gv gs xs.length && mv m && (List.range xs.length).all fun i => (List.range xs.length).all fun j => okAt xs gs m i j
theorem checkF_t {xs gs : List Int} {m : Int} (hv : vv xs = true) (hg : gv gs xs.length = true) (hm : mv m = true) :
    checkF xs gs m = (List.range xs.length).all fun i => (List.range xs.length).all fun j => okAt xs gs m i j := by simp [checkF, hv, hg, hm]
theorem okAt_z {xs gs : List Int} {m : Int} {i j : Nat} {g : Int} (hg : gs[i]? = some g) (h : ¬0 < g) : okAt xs gs m i j = true := by simp [okAt, hg, h]
theorem okAt_t {xs gs : List Int} {m : Int} {i j : Nat} {x y g e : Int} (hx : xs[i]? = some x) (hy : xs[j]? = some y) (hg : gs[i]? = some g) (he : gs[j]? = some e) (h : ¬x * dv e m < y * dv (g - 1) m) : okAt xs gs m i j = true := by
  simp [okAt, hx, hy, hg, he]; omega
theorem okAt_f {xs gs : List Int} {m : Int} {i j : Nat} {x y g e : Int} (hx : xs[i]? = some x) (hy : xs[j]? = some y) (hg : gs[i]? = some g) (he : gs[j]? = some e) (h0 : 0 < g) (h : x * dv e m < y * dv (g - 1) m) : okAt xs gs m i j = false := by
  simp [okAt, hx, hy, hg, he, h0, h]
theorem dv_bd {s m : Int} (hm : m = 1 ∨ m = 2) (h0 : 0 ≤ s) (h1 : s ≤ 20) : 0 ≤ dv s m ∧ dv s m ≤ 41 := by
  rcases hm with rfl | rfl <;> unfold dv <;> omega
theorem all2_f {n : Nat} {f : Nat → Nat → Bool} {i j : Nat} (hi : i < n) (hj : j < n) (h : f i j = false) : ((List.range n).all fun i => (List.range n).all fun j => f i j) = false := all_range_f hi (all_range_f hj h)
theorem all2_t {n : Nat} {f : Nat → Nat → Bool} (h : ∀ i, i < n → ∀ j, j < n → f i j = true) : ((List.range n).all fun i => (List.range n).all fun j => f i j) = true := all_range_t fun i hi => all_range_t fun j hj => h i hi j hj
set_option maxHeartbeats 1600000 in
theorem implCheck_any (A A' : Option Addr) (xs gs : List Int) (c c' : Nat) (m : Int) (w : World) (h : Ints w A xs) (h' : Ints w A' gs) (hl : xs.length ≤ 1048576) (hl' : gs.length ≤ 1048576) :
    Calls Try.prog 24 #[.slice A xs.length c, .slice A' gs.length c', .int .i64 m] w (Qt w (.bool (checkF xs gs m))) := by
  cases hall : vv xs && gv gs xs.length
  · have hq := Lib.hid (show checkF xs gs m = false from by simp [checkF, hall])
    go_enter Try.func24, Try.ntmps24
    go_wp2_with (go_at_call 56; refine (seatsValid_any _ _ _ _ _ _ _ h h' hl hl').mono ?_; rintro e w' ⟨rfl, rfl⟩)
    go_ret
    exact ⟨ret_bool hq.out.symm, 0, rfl⟩
  cases hmv : mv m
  · have hq := Lib.hid (show checkF xs gs m = false from by simp [checkF, hmv])
    go_enter Try.func24, Try.ntmps24
    go_wp2_with (first | (go_at_call 56; refine (seatsValid_any _ _ _ _ _ _ _ h h' hl hl').mono ?_; rintro e w' ⟨rfl, rfl⟩) | (go_at_call 57; refine (isMethod_any _ _).mono ?_; rintro e w' ⟨rfl, rfl⟩))
    go_ret
    exact ⟨ret_bool hq.out.symm, 0, rfl⟩
  have hh : vv xs = true ∧ gv gs xs.length = true := by simpa using hall
  obtain ⟨hv, hg⟩ := hh
  have hq := Lib.hid (checkF_t hv hg hmv)
  have HM := Lib.hid (mv_iff.1 hmv)
  obtain ⟨hlen, ⟨hl1, hl5⟩, _, _, hxb, hgb⟩ := valid_facts' hv hg
  have HL := Lib.hid hlen
  have HX := Lib.hid hxb
  have HG := Lib.hid hgb
  clear hxb hgb hlen
  go_enter Try.func24, Try.ntmps24
  go_wp2_with (first | (go_at_call 56; refine (seatsValid_any _ _ _ _ _ _ _ h h' hl hl').mono ?_; rintro e w' ⟨rfl, rfl⟩) | (go_at_call 57; refine (isMethod_any _ _).mono ?_; rintro e w' ⟨rfl, rfl⟩))
  go_loopw [7, 8, 21, 28] (fun _ _ i _ wr => ∃ k n : Nat, k ≤ gs.length ∧ i = .int .i64 k ∧ Hid (∀ i, i < k → ∀ j, j < xs.length → okAt xs gs m i j = true) ∧ wr = w.drewN n) (fun _ _ i _ _ => gs.length - (intOf i).toNat)
  case atStart => exact ⟨0, 0, by omega, rfl, fun j hj => by omega, rfl⟩
  case round =>
    obtain ⟨k, n, hk, rfl, hf, rfl⟩ := hrel
    by_cases hlt : k < gs.length
    · obtain ⟨ad', g, rfl, hgx, hc'⟩ := h'.at_ hlt
      have hkx : k < xs.length := by have := HL.out; omega
      obtain ⟨ad, x, rfl, hx, hc⟩ := h.at_ hkx
      obtain ⟨hg0, hg1⟩ := HG.out g (mem_of_at hgx.out)
      obtain ⟨hx0, hx1⟩ := HX.out x (mem_of_at hx.out)
      go_wp2
      obtain ⟨wo, rfl⟩ : ∃ wo : World, wo = w.drewN n := ⟨_, rfl⟩
      go_loopw [9, 28] (fun _ i wr => ∃ k2 n2 : Nat, k2 ≤ gs.length ∧ i = .int .i64 k2 ∧ Hid (∀ j, j < k2 → okAt xs gs m k j = true) ∧ wr = w.drewN n2) (fun _ i _ => gs.length - (intOf i).toNat)
      case atStart => exact ⟨0, _, by omega, rfl, fun j hj => by omega, rfl⟩
      case round =>
        obtain ⟨k2, n2, hk2, rfl, hf2, rfl⟩ := hrel
        by_cases hlt2 : k2 < gs.length
        · have hkx2 : k2 < xs.length := by have := HL.out; omega
          by_cases hz : 0 < g
          · obtain ⟨ad'', e, e1, hex, hce⟩ := h'.at_ hlt2
            obtain rfl : ad' = ad'' := by injection e1
            obtain ⟨ad2, y, e2, hy, hcy⟩ := h.at_ hkx2
            obtain rfl : ad = ad2 := by injection e2
            clear e1 e2
            obtain ⟨he0, he1⟩ := HG.out e (mem_of_at hex.out)
            obtain ⟨hy0, hy1⟩ := HX.out y (mem_of_at hy.out)
            obtain ⟨hd0, hd1⟩ := dv_bd HM.out he0 he1
            obtain ⟨hd2, hd3⟩ := dv_bd HM.out (show 0 ≤ g - 1 by omega) (by omega)
            obtain ⟨hm0, hm1⟩ := mul_bd ⟨hx0, hx1⟩ ⟨hd0, hd1⟩
            obtain ⟨hm2, hm3⟩ := mul_bd ⟨hy0, hy1⟩ ⟨hd2, hd3⟩
            have cD := Lib.hid (fun (w : World) (s : Int) (h0 : 0 ≤ s) (h1 : s ≤ 20) => divisor_any s m w (by omega) (by omega) HM.out)
            have q1 : IntKind.i64.wrap (x * dv e m) = x * dv e m := IntWalk.i64_in _ (by omega)
            have q2 : IntKind.i64.wrap (y * dv (g - 1) m) = y * dv (g - 1) m := IntWalk.i64_in _ (by omega)
            have q3 : IntKind.i64.wrap (g - 1) = g - 1 := IntWalk.i64_in _ (by omega)
            have hg3 : 0 ≤ g - 1 := by omega
            by_cases hc2 : x * dv e m < y * dv (g - 1) m
            · go_wp2
              go_quiet ((go_at_call 58; exact Ret.quiet_add (cD.out _ _ (by omega) (by omega))))
              clear q1 q2 q3
              go_wp2
              go_ret
              exact ⟨ret_bool (by rw [hq.out, all2_f hkx hkx2 (okAt_f hx.out hy.out hgx.out hex.out hz hc2)]), _, World.drewN_drewN _ _ _⟩
            · go_wp2
              go_quiet ((go_at_call 58; exact Ret.quiet_add (cD.out _ _ (by omega) (by omega))))
              clear q1 q2 q3
              go_wp2
              go_roundw
              case rel => exact ⟨k2 + 1, _, by omega, by go_num, fun j hj => by
                rcases Nat.lt_succ_iff_lt_or_eq.1 hj with hj | rfl
                · exact hf2.out j hj
                · exact okAt_t hx.out hy.out hgx.out hex.out (by omega), rfl⟩
              case measure => simp [intOf]; omega
          · have hd : decide ((0 : Int) < g) = false := by simpa using hz
            go_wp2
            go_quiet (fail)
            go_wp2
            go_roundw
            case rel => exact ⟨k2 + 1, _, by omega, by go_num, fun j hj => by
              rcases Nat.lt_succ_iff_lt_or_eq.1 hj with hj | rfl
              · exact hf2.out j hj
              · exact okAt_z hgx.out (by omega), rfl⟩
            case measure => simp [intOf]; omega
        · obtain rfl : k2 = gs.length := by omega
          clear hlt2
          go_wp2
          go_roundw
          case rel => exact ⟨k + 1, _, by omega, by go_num, fun i hi j hj => by
            rcases Nat.lt_succ_iff_lt_or_eq.1 hi with hi | rfl
            · exact hf.out i hi j hj
            · exact hf2.out j (by have := HL.out; omega), rfl⟩
          case measure => simp [intOf]; omega
    · obtain rfl : k = gs.length := by omega
      clear hlt
      go_wp2
      go_ret
      exact ⟨ret_bool (by rw [hq.out, all2_t (fun i hi j hj => hf.out i (by have := HL.out; omega) j hj)]), _, rfl⟩
end Go.Proofs.Ytimldfknbeiadaa
