/-
  For every code, the law FnRunoffEnd returns true: a runoff ends with a majority or with the last one there. There are no conditions.
-/
import Derived.Test.YthngafmnkihkgaaRunJ
import Derived.Test.YthngafmnkihkgaaRunK
import Derived.Test.YthngafmnkihkgaaRunL
import Derived.Test.YthngafmnkihkgaaDrawR
namespace Go.Proofs.Ythngafmnkihkgaa
open Go.ChangeShapes Go.WideShapes Go.ChangeAt Go.RowKit
theorem roundsF_le {ps : List Pl} {lots : List Int} (k : Nat) : ∀ left : List Bool, (roundsF ps lots k left).length ≤ k := by
  induction k with
  | zero => intro left; simp [roundsF]
  | succ k ih =>
    intro left
    simp only [roundsF]
    split
    · simp
    · simp only [List.length_cons]
      have := ih (left.set (leastF (cntL left ps) left lots).toNat true)
      omega
theorem rrF_le (ps : List (ByteArray × Int)) (ls : List Int) : (rrF ps ls).1.length ≤ ls.length := by
  unfold rrF
  split
  · exact roundsF_le _ _
  · simp
theorem rrF_true {ps : List (ByteArray × Int)} {ls : List Int} {rs : List (List Int × Int)} (h : rrF ps ls = (rs, true)) : lv ls = true ∧ fitV ps ls.length = true ∧ rs = roundsF (pl ps) ls ls.length (List.replicate ls.length false) := by
  unfold rrF at h
  split at h
  · next hc =>
    simp only [Bool.and_eq_true] at hc
    injection h with h1
    exact ⟨hc.1, hc.2, h1.symm⟩
  · injection h with _ h2
    cases h2
set_option maxRecDepth 100000 in
set_option maxHeartbeats 3200000 in
theorem FnRunoffEnd_walk (A : Option Addr) (n c : Nat) (w : World) (h : BytsA w A n c) :
    Calls Try.prog 9 #[.slice A n c] w (LawOk w) := by
  by_cases hl : n ≤ 1048576
  case neg =>
    have hbig : (1048576 : Int) < n := by omega
    clear hl
    go_enter Try.func9, Try.ntmps9
    go_wp2
    go_ret
    exact ⟨rfl, Below.refl _ _⟩
  go_enter Try.func9, Try.ntmps9
  go_wp2_with fail
  refine (drawRunoffRounds_any _ _ _ _ h).mono ?_
  rintro e w1 ⟨A1, c1, ps, A2, c2, ls, rfl, ⟨hpl, hop, hb1⟩, hl5, hol⟩
  have hcap := hol.le_cap
  have cI := Lib.hid (runoffRounds_any A1 A2 ps ls c1 c2 _ hop.piles hol.ints (by omega) (by omega) hcap)
  have cS := Lib.hid (fun (w : World) (h : PilesI w A1 ps) (h2 : Ints w A2 ls) => specRunoffRounds_any A1 A2 ps ls c1 c2 w h h2 (by omega) (by omega) hcap)
  have hrl := rrF_le ps ls
  obtain ⟨r, hr⟩ : ∃ r, rrF ps ls = r := ⟨_, rfl⟩
  rw [hr] at cI cS hrl
  obtain ⟨rs, b⟩ := r
  have hrl : rs.length ≤ 5 := by have : rs.length ≤ ls.length := hrl; omega
  have HR := Lib.hid hr
  clear hr
  go_wp2_with fail
  refine cI.out.mono ?_
  rintro e w2 ⟨A3, c3, rfl, ho3, hc3, hb2⟩
  go_wp2_with fail
  refine (cS.out _ (hop.below hb2).piles (hol.below hb2).ints).mono ?_
  rintro e w3 ⟨A4, c4, rfl, ho4, hc4, hb3⟩
  have hB2 := hb1.trans (hb2.mono hb1.size)
  have hB3 := hB2.trans (hb3.mono hB2.size)
  have ho3 := ho3.below hb3
  clear cS cI hB2 hb2 hb3 hc3 hc4
  go_wp2_with fail
  refine (lawSameRounds_any A3 A4 rs c3 c4 w3 ho3 ho4 (by omega)).mono ?_
  rintro e w4 ⟨rfl, n4, rfl⟩
  have hB3 := below_drewN hB3 n4
  have ho3 := ho3.drewN n4
  have ho4 := ho4.drewN n4
  generalize w3.drewN n4 = w4 at *
  cases b
  case false =>
    go_wp2_with fail
    refine (lawSameRounds_any A3 A4 rs c3 c4 w4 ho3 ho4 (by omega)).mono ?_
    rintro e w5 ⟨rfl, n5, rfl⟩
    go_wp2
    go_ret
    exact ⟨rfl, below_drewN hB3 _⟩
  obtain ⟨hlv, hfit, hrs⟩ := rrF_true HR.out
  have HF := Lib.hid (fitOk_of hfit)
  have hlast := rounds_last (ps := pl ps) hlv ls.length (List.replicate ls.length false) (by simp) (thereL_rep _)
  rw [← hrs] at hlast
  have hcnt := rounds_cnt (ps := pl ps) (lots := ls) ls.length (List.replicate ls.length false)
  rw [← hrs] at hcnt
  have HL := Lib.hid hlast
  have HC := Lib.hid hcnt
  clear hlast hcnt hrs hfit hlv
  go_wp2
  go_loopw [9, 10] (fun i _ wr => ∃ k m : Nat, k ≤ rs.length ∧ i = .int .i64 k ∧ wr = w4.drewN m) (fun i _ _ => rs.length - (intOf i).toNat)
  case atStart => exact ⟨0, 0, by omega, rfl, rfl⟩
  case round =>
    obtain ⟨k, m, hk, rfl, rfl⟩ := hrel
    by_cases hlt : k < rs.length
    · obtain ⟨ad, B, d, xs, o, rfl, hr, hx5, hxd, hx, hc0, hc1⟩ := ho3.at_ hlt
      have hl := HL.out k _ hr.out
      have hbd : ∀ x ∈ xs, 0 ≤ x ∧ x ≤ 1188 := by
        obtain ⟨l', h1, h2⟩ := HC.out _ (List.mem_of_getElem? hr.out)
        have h2 : xs = cntL l' (pl ps) := h2
        rw [h2]
        exact cnt_bds HF.out l'
      have cM := Lib.hid (fun m => lawMost_any B xs d (w4.drewN m) (hx.drewN m) (by omega) (Lib.hid hbd))
      have cU := Lib.hid (fun m => lawSum_any B xs d (w4.drewN m) (hx.drewN m) (by omega) (fun x hx => by have := hbd x hx; omega))
      have hM := mostL_bd (cs := xs) (M := 1188) (by omega) (fun x hx => (hbd x hx).2)
      have hl : (decide (xs.sum < 2 * mostL xs) || decide (k + 1 = ls.length)) = decide (k + 1 = rs.length) := hl
      clear hbd
      generalize mostL xs = M at *
      generalize xs.sum = S at *
      have hk1 : ((k : Int) == (rs.length : Int) - 1) = decide (k + 1 = rs.length) := by
        rw [Bool.eq_iff_iff]; simp; omega
      have hk2 : ((k : Int) == (ls.length : Int) - 1) = decide (k + 1 = ls.length) := by
        rw [Bool.eq_iff_iff]; simp; omega
      by_cases hSM : S < 2 * M
      · have hd : decide (S < 2 * M) = true := by simpa using hSM
        rw [hd, Bool.true_or] at hl
        rw [← hl] at hk1
        clear hl hk2
        go_wp2
        go_quiet (first | (go_at_call 31; exact Ret.quiet_add (cM.out _)) | (go_at_call 15; exact Ret.quiet_add (cU.out _)))
        go_wp2
        go_roundw
        case rel => exact ⟨k + 1, _, by omega, by go_num, rfl⟩
        case measure => simp [intOf]; omega
      · have hd : decide (S < 2 * M) = false := by simpa using hSM
        rw [hd, Bool.false_or] at hl
        rw [← hl] at hk1
        clear hSM
        cases hke : decide (k + 1 = ls.length)
        · rw [hke] at hk1 hk2
          clear hl hke
          go_wp2
          go_quiet (first | (go_at_call 31; exact Ret.quiet_add (cM.out _)) | (go_at_call 15; exact Ret.quiet_add (cU.out _)))
          go_wp2
          go_roundw
          case rel => exact ⟨k + 1, _, by omega, by go_num, rfl⟩
          case measure => simp [intOf]; omega
        · rw [hke] at hk1 hk2
          clear hl hke
          go_wp2
          go_quiet (first | (go_at_call 31; exact Ret.quiet_add (cM.out _)) | (go_at_call 15; exact Ret.quiet_add (cU.out _)))
          go_wp2
          go_roundw
          case rel => exact ⟨k + 1, _, by omega, by go_num, rfl⟩
          case measure => simp [intOf]; omega
    · obtain rfl : k = rs.length := by omega
      clear hlt
      go_wp2
      go_ret
      exact ⟨rfl, below_drewN hB3 _⟩
set_option maxRecDepth 100000 in
theorem FnRunoffEnd_lifted (os : Os) (started : os.Started) (H : Type) (enc : TypeId × Value → H) :
    ReturnsInHanded {} Try.checked os 9 .any (Rows.fnRunoffEndSpec.pre6 enc Try.prog Try.f9 Rows.fnRunoffEndRow.domain false) (Rows.fnRunoffEndSpec.post enc Try.prog Try.f9 false true false false) := by
  refine returnsInHanded_of_change (C := Try.checked) Try.own started (by kernel_rfl) Try.func9
    (ChangeSpec.witness6 (enc := enc) (C := Try.checked) false ⟨#[], #[.slice none 0 0], []⟩ 8 (by kernel_rfl) (by kernel_rfl) (by kernel_rfl) (by kernel_rfl)) ?_
  intro W base args ds gs before hval0 hW hcnd _
  have hval : ∀ (j : Nat) t v, Try.f9.params[j]? = some t → args[j]? = some v → Value.okWide Try.prog W .any base t v := hval0
  have hW' := hW
  obtain ⟨p, q, hA0, hV, rfl, hfz, hnd⟩ := hW
  have hA : DataW.TrodAll enc Try.prog W 0 (fun _ => true) true Try.f9.params.toList args.toList ds p := hA0
  rw [Try.params9] at hA hval
  obtain ⟨v0, vs0, d0, ds0, p0, q0, hargs, rfl, rfl, h0, r0⟩ := trodAll_cons hA
  obtain ⟨rfl, rfl, rfl⟩ := trodAll_nil r0
  obtain rfl : args = #[v0] := by cases args; simp_all
  obtain ⟨rfl, rfl⟩ := trodVars_none hV
  have k0 := h0
  have lt0 : ∀ x ∈ p0, x.block < W.heap.size := by obtain ⟨m, hm⟩ := k0; exact DataW.trod_lt m _ _ _ hm
  obtain ⟨a0, z0, c0, rfl, w0⟩ := openByts (hval 0 22 v0 rfl rfl) h0
  clear hA0 hval0
  refine (FnRunoffEnd_walk a0 z0 c0 W w0).mono fun e W' ⟨he, bel⟩ => ?_
  subst he
  exact ⟨_, rfl, _, _, _, [], _, [], hW', trodAll_mk1 (shut_bool Try.underlying4 _), (trodAll_cons_mk (Below.trod Try.laidOut (by kernel_rfl) (of_decide_eq_true (by kernel_rfl)) k0 bel lt0) trodAll_mk0), rfl, bel.frame _, fun h => by cases h⟩
/-- The given statement. -/
theorem FnRunoffEnd_holds : Rows.FnRunoffEndSaid :=
  OpenClaim.holds_of_wide 9 Try.f9 rfl rfl rfl rfl rfl rfl rfl ⟨rfl, rfl, rfl, rfl, rfl⟩ rfl rfl rfl rfl rfl (by kernel_rfl) Try.func9 (by kernel_rfl)
    (of_decide_eq_true (by kernel_rfl)) (by unfold Func.isWrapper; first | (rw [if_pos (by decide +kernel)]; kernel_rfl) | (rw [if_neg (by decide +kernel)]; exact ⟨rfl, rfl⟩))
    (fun os started H enc _ => FnRunoffEnd_lifted os started H enc)
end Go.Proofs.Ythngafmnkihkgaa
