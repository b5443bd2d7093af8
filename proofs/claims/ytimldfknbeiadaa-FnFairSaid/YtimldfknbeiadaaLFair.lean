/-
  For every code, the law FnFair returns true: fair seats are shares, rounded down or up. There are no conditions.
-/
import Derived.Test.YtimldfknbeiadaaGapP
import Derived.Test.YtimldfknbeiadaaDrawH
import Derived.Test.YtimldfknbeiadaaFair
import Derived.Test.YtimldfknbeiadaaGapQ
namespace Go.Proofs.Ytimldfknbeiadaa
open Go.ChangeShapes Go.WideShapes Go.ChangeAt Go.RowKit
set_option maxRecDepth 100000 in
set_option maxHeartbeats 3200000 in
theorem FnFair_walk (A : Option Addr) (n c : Nat) (w : World) (h : BytsA w A n c) :
    Calls Try.prog 12 #[.slice A n c] w (LawOk w) := by
  by_cases hl : n ≤ 1048576
  case neg =>
    have hbig : (1048576 : Int) < n := by omega
    clear hl
    go_enter Try.func12, Try.ntmps12
    go_wp2
    go_ret
    exact ⟨rfl, Below.refl _ _⟩
  go_enter Try.func12, Try.ntmps12
  go_wp2_with fail
  refine (drawFair_any _ _ _ _ h).mono ?_
  rintro e w1 ⟨A1, c1, xs, A2, c2, gs, rfl, ⟨hx5, hox, hb1⟩, ⟨hg5, hog, _⟩, hbd⟩
  have cI := Lib.hid (fun (w : World) (h : Ints w A1 xs) (h' : Ints w A2 gs) => implFair_any A1 A2 xs gs c1 c2 w h h' (by omega) (by omega))
  have cS := Lib.hid (fun (w : World) (h : Ints w A1 xs) (h' : Ints w A2 gs) => specFair_any A1 A2 xs gs c1 c2 w h h' (by omega) (by omega))
  obtain ⟨r, hr⟩ : ∃ r, fairF xs gs = r := ⟨_, rfl⟩
  rw [hr] at cI cS
  have HR := Lib.hid hr
  clear hr
  have hrr : (r != r) = false := by cases r <;> rfl
  go_wp2_with fail
  refine (cI.out _ hox.ints hog.ints).mono ?_
  rintro e w2 ⟨rfl, n2, rfl⟩
  go_wp2_with fail
  refine (cS.out _ (hox.drewN n2).ints (hog.drewN n2).ints).mono ?_
  rintro e w3 ⟨rfl, n3, rfl⟩
  have hB3 := below_drewN (below_drewN hb1 n2) n3
  have hox := (hox.drewN n2).drewN n3
  have hog := (hog.drewN n2).drewN n3
  clear cI cS
  generalize (w1.drewN n2).drewN n3 = w3 at *
  have HGW := Lib.hid (show ∀ x ∈ gs, -1000000000 ≤ x ∧ x ≤ 1000000000 from fun x hx => by have := hbd.out x hx; omega)
  have cB := Lib.hid (fun (w : World) (h : Ints w A2 gs) => lawSum_any A2 gs c2 w h (by omega) HGW.out)
  have cQ := Lib.hid (fun (j : Int) (w : World) (h : Ints w A1 xs) => implQuota_any A1 xs c1 gs.sum j w h (by omega))
  have HE := Lib.hid (fair_law (xs := xs) (gs := gs))
  have i1 := hox.ints
  have i2 := hog.ints
  by_cases hle : gs.length = xs.length
  case neg =>
    have hlb : ((gs.length : Int) == (xs.length : Int)) = false := by simp; omega
    have hrf : r = false := by rw [← HR.out]; exact fair_len hle
    subst hrf
    clear hle
    go_wp2_with (go_at_call 23; refine (cB.out _ i2).mono ?_; rintro e w' ⟨rfl, rfl⟩)
    go_loopw [8, 9, 10, 11] (fun b i _ _ wr => ∃ (j m : Nat), j ≤ xs.length ∧ i = .int .i64 j ∧ b = .bool false ∧ wr = w3.drewN m) (fun _ i _ _ _ => xs.length - (intOf i).toNat)
    case atStart => exact ⟨0, 0, by omega, rfl, rfl, rfl⟩
    case round =>
      obtain ⟨j, m, hj, rfl, rfl, rfl⟩ := hrel
      by_cases hlt : j < xs.length
      · by_cases hlg : j < gs.length
        · have hlti : (j : Int) < (xs.length : Int) := by omega
          have hlgi : (j : Int) < (gs.length : Int) := by omega
          go_wp2_with (go_at_call 34; refine (cQ.out _ _ (i1.drewN _)).mono ?_; rintro e w' ⟨rfl, n9, rfl⟩)
          go_roundw
          case rel => exact ⟨j + 1, _, by omega, by go_num, rfl, rfl⟩
          case measure => simp [intOf]; omega
        · have hlgi : ¬ (j : Int) < (gs.length : Int) := by omega
          go_wp2
          go_ret
          exact ⟨rfl, below_drewN hB3 _⟩
      · have hlti : ¬ (j : Int) < (xs.length : Int) := by omega
        go_wp2
        go_ret
        exact ⟨rfl, below_drewN hB3 _⟩
  have hlb : ((gs.length : Int) == (xs.length : Int)) = true := by simp; omega
  have HL := Lib.hid hle
  clear hle
  obtain ⟨b0, hb0⟩ : ∃ b0, decide ((0 : Int) < xs.length) = b0 := ⟨_, rfl⟩
  have HB0 := Lib.hid hb0
  clear hb0
  by_cases hx0 : 0 < xs.length
  case neg =>
    have hxe : xs.length = 0 := by omega
    have hrf : r = false := by rw [← HR.out]; exact fair_none hxe
    subst hrf
    obtain rfl : xs = [] := List.eq_nil_of_length_eq_zero hxe
    obtain rfl : gs = [] := List.eq_nil_of_length_eq_zero (by have := HL.out; omega)
    clear hxe hx0 hlb HB0 HE cQ
    go_wp2_with (go_at_call 23; refine (cB.out _ i2).mono ?_; rintro e w' ⟨rfl, rfl⟩)
    refine wp_loop_rounds 1 ?_
    rw [rounds_succ]
    go_wp2
    go_ret
    exact ⟨rfl, hB3⟩
  have hxi : (0 : Int) < (xs.length : Int) := by omega
  go_wp2_with (go_at_call 23; refine (cB.out _ i2).mono ?_; rintro e w' ⟨rfl, rfl⟩)
  go_loopw [8, 9, 10, 11] (fun b i _ _ wr => ∃ (j m : Nat) (bb : Bool), j ≤ xs.length ∧ i = .int .i64 j ∧ b = .bool bb ∧ Hid (bb = okB xs gs j) ∧ wr = w3.drewN m) (fun _ i _ _ _ => xs.length - (intOf i).toNat)
  case atStart => exact ⟨0, 0, true, by omega, rfl, rfl, rfl, rfl⟩
  case round =>
    obtain ⟨j, m, bb, hj, rfl, rfl, hbb, rfl⟩ := hrel
    by_cases hlt : j < xs.length
    · have hk1 : j < gs.length := by have := HL.out; omega
      obtain ⟨ad2, g, rfl, hg, hc2⟩ := i2.at_ hk1
      have HS := Lib.hid (okB_snoc (xs := xs) hg.out)
      have cQ := Lib.hid (cQ.out (j : Int))
      obtain ⟨lo, hlo⟩ : ∃ lo, (quotaF xs gs.sum (j : Int)).1 = lo := ⟨_, rfl⟩
      obtain ⟨hi, hhi⟩ : ∃ hi, (quotaF xs gs.sum (j : Int)).2 = hi := ⟨_, rfl⟩
      rw [hlo, hhi] at cQ HS
      clear hlo hhi
      cases bb
      · go_wp2_with (go_at_call 34; refine (cQ.out _ (i1.drewN _)).mono ?_; rintro e w' ⟨rfl, n9, rfl⟩)
        go_roundw
        case rel => exact ⟨j + 1, _, _, by omega, by go_num, rfl, by show _ = _; rw [HS.out, ← hbb.out]; rfl, rfl⟩
        case measure => simp [intOf]; omega
      · by_cases h1 : 0 ≤ lo <;> by_cases h2 : lo ≤ g <;> by_cases h3 : g ≤ hi
        all_goals
          go_wp2_with (go_at_call 34; refine (cQ.out _ (i1.drewN _)).mono ?_; rintro e w' ⟨rfl, n9, rfl⟩)
          go_roundw
          case rel => exact ⟨j + 1, _, _, by omega, by go_num, rfl, by show _ = _; rw [HS.out, ← hbb.out]; simp [h1, h2, h3], rfl⟩
          case measure => simp [intOf]; omega
    · obtain rfl : j = xs.length := by omega
      clear hlt
      have hz : r = bb := by rw [← HR.out, hbb.out]; exact HE.out HL.out hx0
      subst hz
      cases r
      · go_wp2
        go_ret
        exact ⟨rfl, below_drewN hB3 _⟩
      · go_wp2
        go_ret
        exact ⟨rfl, below_drewN hB3 _⟩
set_option maxRecDepth 100000 in
theorem FnFair_lifted (os : Os) (started : os.Started) (H : Type) (enc : TypeId × Value → H) :
    ReturnsInHanded {} Try.checked os 12 .any (Rows.fnFairSpec.pre6 enc Try.prog Try.f12 Rows.fnFairRow.domain false) (Rows.fnFairSpec.post enc Try.prog Try.f12 false true false false) := by
  refine returnsInHanded_of_change (C := Try.checked) Try.own started (by kernel_rfl) Try.func12
    (ChangeSpec.witness6 (enc := enc) (C := Try.checked) false ⟨#[], #[.slice none 0 0], []⟩ 8 (by kernel_rfl) (by kernel_rfl) (by kernel_rfl) (by kernel_rfl)) ?_
  intro W base args ds gs before hval0 hW hcnd _
  have hval : ∀ (j : Nat) t v, Try.f12.params[j]? = some t → args[j]? = some v → Value.okWide Try.prog W .any base t v := hval0
  have hW' := hW
  obtain ⟨p, q, hA0, hV, rfl, hfz, hnd⟩ := hW
  have hA : DataW.TrodAll enc Try.prog W 0 (fun _ => true) true Try.f12.params.toList args.toList ds p := hA0
  rw [Try.params12] at hA hval
  obtain ⟨v0, vs0, d0, ds0, p0, q0, hargs, rfl, rfl, h0, r0⟩ := trodAll_cons hA
  obtain ⟨rfl, rfl, rfl⟩ := trodAll_nil r0
  obtain rfl : args = #[v0] := by cases args; simp_all
  obtain ⟨rfl, rfl⟩ := trodVars_none hV
  have k0 := h0
  have lt0 : ∀ x ∈ p0, x.block < W.heap.size := by obtain ⟨m, hm⟩ := k0; exact DataW.trod_lt m _ _ _ hm
  obtain ⟨a0, z0, c0, rfl, w0⟩ := openByts (hval 0 22 v0 rfl rfl) h0
  clear hA0 hval0
  refine (FnFair_walk a0 z0 c0 W w0).mono fun e W' ⟨he, bel⟩ => ?_
  subst he
  exact ⟨_, rfl, _, _, _, [], _, [], hW', trodAll_mk1 (shut_bool Try.underlying4 _), (trodAll_cons_mk (Below.trod Try.laidOut (by kernel_rfl) (of_decide_eq_true (by kernel_rfl)) k0 bel lt0) trodAll_mk0), rfl, bel.frame _, fun h => by cases h⟩
/-- The given statement. -/
theorem FnFair_holds : Rows.FnFairSaid :=
  OpenClaim.holds_of_wide 12 Try.f12 rfl rfl rfl rfl rfl rfl rfl ⟨rfl, rfl, rfl, rfl, rfl⟩ rfl rfl rfl rfl rfl (by kernel_rfl) Try.func12 (by kernel_rfl)
    (of_decide_eq_true (by kernel_rfl)) (by unfold Func.isWrapper; first | (rw [if_pos (by decide +kernel)]; kernel_rfl) | (rw [if_neg (by decide +kernel)]; exact ⟨rfl, rfl⟩))
    (fun os started H enc _ => FnFair_lifted os started H enc)
end Go.Proofs.Ytimldfknbeiadaa
