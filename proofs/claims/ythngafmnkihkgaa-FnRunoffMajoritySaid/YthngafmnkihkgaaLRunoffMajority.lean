/-
  For every code, the law FnRunoffMajority returns true: who has a majority wins at once. There are no conditions.
-/
import Derived.Test.YthngafmnkihkgaaRunV
import Derived.Test.YthngafmnkihkgaaRunL
import Derived.Test.YthngafmnkihkgaaCntP
import Derived.Test.YthngafmnkihkgaaDrawR
namespace Go.Proofs.Ythngafmnkihkgaa
open Go.ChangeShapes Go.WideShapes Go.ChangeAt Go.RowKit
theorem rwF_valid {ps : List (ByteArray × Int)} {lots : List Int} (h : (lv lots && fitV ps lots.length) = true) : ∃ q : Nat, rwF ps lots = (q : Int) ∧ q < lots.length := by
  have h2 := h
  simp only [Bool.and_eq_true] at h2
  obtain ⟨init, hrs, _, _⟩ := rounds_form0 (ps := pl ps) h2.1
  have hl := (lv_iff.1 h2.1).2.1
  rw [rw_t h, hrs, winF_form]
  obtain ⟨l1, b, l2, e, hb, _, _⟩ := greatP_split (outSet (cntL (leftSet (List.replicate lots.length false) (init.map Prod.snd)) (pl ps)) (init.map Prod.snd)) (ls := lots) (by have := (lv_iff.1 h2.1).1; omega)
  rw [hb]
  have := hl b (by rw [e]; simp)
  exact ⟨b.toNat, by omega, by omega⟩
theorem greatP_at {cs lots : List Int} (hv : lv lots = true) : ∃ q : Nat, greatP cs lots = (q : Int) ∧ q < lots.length := by
  have hl := (lv_iff.1 hv).2.1
  obtain ⟨l1, b, l2, e, hb, _, _⟩ := greatP_split cs (ls := lots) (by have := (lv_iff.1 hv).1; omega)
  rw [hb]
  have := hl b (by rw [e]; simp)
  exact ⟨b.toNat, by omega, by omega⟩
theorem mostL_ge {cs : List Int} {x : Int} (h : x ∈ cs) : x ≤ mostL cs := (le_foldl_max cs 0).2 x h
/-- Who has a majority wins at once. -/
theorem major_at {ps : List (ByteArray × Int)} {lots : List Int} (h : (lv lots && fitV ps lots.length) = true) {x : Int} (hx : x ∈ cntL (List.replicate lots.length false) (pl ps)) (hs : (cntL (List.replicate lots.length false) (pl ps)).sum < 2 * x) :
    roundsF (pl ps) lots lots.length (List.replicate lots.length false) = [(cntL (List.replicate lots.length false) (pl ps), -1)] ∧ rwF ps lots = greatP (cntL (List.replicate lots.length false) (pl ps)) lots := by
  have h2 := h
  simp only [Bool.and_eq_true] at h2
  have hl := (lv_iff.1 h2.1).1.1
  obtain ⟨m, hm⟩ : ∃ m, lots.length = m + 1 := ⟨lots.length - 1, by omega⟩
  have hd : doneF (cntL (List.replicate lots.length false) (pl ps)) (List.replicate lots.length false) = true := by
    have := mostL_ge hx
    unfold doneF
    rw [Bool.or_eq_true]
    right
    simp
    omega
  have hr : roundsF (pl ps) lots lots.length (List.replicate lots.length false) = [(cntL (List.replicate lots.length false) (pl ps), -1)] := by
    conv => lhs; rw [show roundsF (pl ps) lots lots.length (List.replicate lots.length false) = roundsF (pl ps) lots (m + 1) (List.replicate lots.length false) by rw [← hm]]
    exact roundsF_done hd
  refine ⟨hr, ?_⟩
  rw [rw_t h, hr]
  exact winF_form [] _ _ _
set_option maxRecDepth 100000 in
set_option maxHeartbeats 3200000 in
theorem FnRunoffMajority_walk (A : Option Addr) (n c : Nat) (w : World) (h : BytsA w A n c) :
    Calls Try.prog 10 #[.slice A n c] w (LawOk w) := by
  by_cases hl : n ≤ 1048576
  case neg =>
    have hbig : (1048576 : Int) < n := by omega
    clear hl
    go_enter Try.func10, Try.ntmps10
    go_wp2
    go_ret
    exact ⟨rfl, Below.refl _ _⟩
  go_enter Try.func10, Try.ntmps10
  go_wp2_with fail
  refine (drawRunoffWinner_any _ _ _ _ h).mono ?_
  rintro e w1 ⟨A1, c1, ps, A2, c2, ls, rfl, ⟨hpl, hop, hb1⟩, hl5, hol⟩
  have hcap := hol.le_cap
  have cI := Lib.hid (runoffWinner_any A1 A2 ps ls c1 c2 _ hop.piles hol.ints (by omega) (by omega) hcap)
  have cS := Lib.hid (fun (w : World) (h : PilesI w A1 ps) (h2 : Ints w A2 ls) => specRunoffWinner_any A1 A2 ps ls c1 c2 w h h2 (by omega) (by omega) hcap)
  cases hv : (lv ls && fitV ps ls.length)
  case false =>
    rw [rw_f hv] at cI cS
    go_wp2_with fail
    refine cI.out.mono ?_
    rintro e w2 ⟨rfl, hb2⟩
    go_wp2_with fail
    refine (cS.out _ (hop.below hb2).piles (hol.below hb2).ints).mono ?_
    rintro e w3 ⟨rfl, hb3⟩
    go_wp2
    go_ret
    exact ⟨rfl, hb1.trans ((below_down hb2 hb3).mono hb1.size)⟩
  case true =>
    obtain ⟨q, hq, hql⟩ := rwF_valid hv
    have HW := Lib.hid hq
    rw [hq] at cI cS
    have hv2 := hv
    simp only [Bool.and_eq_true] at hv2
    obtain ⟨hlv, hfit⟩ := hv2
    have HF := Lib.hid (fitOk_of hfit)
    have HLV := Lib.hid hlv
    have HFIT := Lib.hid hfit
    have hqq : ((q : Int) != (q : Int)) = false := by simp
    have cR := Lib.hid (fun (w : World) (h : PilesI w A1 ps) (h2 : Ints w A2 ls) => runoffRounds_any A1 A2 ps ls c1 c2 w h h2 (by omega) (by omega) hcap)
    have cP := Lib.hid (fun (w : World) (h : PilesI w A1 ps) (h2 : Ints w A2 ls) => pluralityWinner_any A1 A2 ps ls c1 c2 w h h2 (by omega) (by omega) hcap (Lib.hid hlv) (Lib.hid hfit))
    have cC := Lib.hid (fun (w : World) A (h : PilesI w A1 ps) (h2 : Bools w A (List.replicate ls.length false)) => implFirst_any A1 A ps (List.replicate ls.length false) c1 ls.length w h h2 (by omega) (by simp; omega))
    have hfc : fcF ps (List.replicate ls.length false) = (cntL (List.replicate ls.length false) (pl ps), true) := fc_t (by rw [List.length_replicate]; exact hfit)
    rw [hfc, List.length_replicate] at cC
    rw [rr_t hv] at cR
    have hrl := rounds_le5 (ps := pl ps) (lots := ls) ls.length (List.replicate ls.length false)
    have HMJ := Lib.hid (fun x hx hs => major_at hv (x := x) hx hs)
    obtain ⟨p, hp, hpl2⟩ := greatP_at (cs := cntL (List.replicate ls.length false) (pl ps)) hlv
    rw [hp] at cP
    have HP := Lib.hid hp
    have hcl : (cntL (List.replicate ls.length false) (pl ps)).length = ls.length := by rw [cntL_len, List.length_replicate]
    have HCB := Lib.hid (cnt_bds HF.out (List.replicate ls.length false))
    have HCL := Lib.hid hcl
    rw [hp] at HMJ
    clear hfc hv hlv hfit hp hq
    generalize cntL (List.replicate ls.length false) (pl ps) = cs at *
    generalize roundsF (pl ps) ls ls.length (List.replicate ls.length false) = rs at *
    generalize rwF ps ls = W at *
    have hrl5 : rs.length ≤ 5 := by omega
    have hcl5 : cs.length ≤ 5 := by omega
    have hpc : p < cs.length := by omega
    clear hcl hrl
    go_wp2_with fail
    refine cI.out.mono ?_
    rintro e w2 ⟨rfl, hb2⟩
    have hop2 := hop.below hb2
    have hol2 := hol.below hb2
    go_wp2_with fail
    refine (cS.out _ hop2.piles hol2.ints).mono ?_
    rintro e w3 ⟨rfl, hb3⟩
    have hop3 := hop2.below hb3
    have hol3 := hol2.below hb3
    have hB3 := hb1.trans ((below_down hb2 hb3).mono hb1.size)
    clear hop2 hol2 hop hol cI cS hb2 hb3 hb1
    go_wp2_with (at_make; refine wpList_makeB _ rfl _ _ rfl ls.length rfl rfl (by omega) ?_; intro w4 hown hb4 hsz4)
    have hop4 := hop3.below hb4
    have hol4 := hol3.below hb4
    have hB4 := hB3.trans (hb4.mono hB3.size)
    refine (cC.out _ _ hop4.piles hown.bools).mono ?_
    rintro e w5 ⟨A5, c5, rfl, ho5, hb5⟩
    have hop5 := hop4.below hb5
    have hol5 := hol4.below hb5
    have hB5 := hB4.trans (hb5.mono hB4.size)
    clear hop4 hol4 hop3 hol3 hown cC hb4 hb5 hB4 hB3 hsz4
    go_wp2_with fail
    refine (cP.out _ hop5.piles hol5.ints).mono ?_
    rintro e w6 ⟨rfl, hb6⟩
    have hop6 := hop5.below hb6
    have hol6 := hol5.below hb6
    have hB6 := hB5.trans (hb6.mono hB5.size)
    have ho6 := ho5.below hb6
    clear hop5 hol5 ho5 hb6 hB5 cP
    go_wp2_with fail
    refine (cR.out _ hop6.piles hol6.ints).mono ?_
    rintro e w7 ⟨A7, c7, rfl, ho7, hc7, hb7⟩
    have hB7 := hB6.trans (hb7.mono hB6.size)
    have ho5 := ho6.below hb7
    clear hop6 hol6 ho6 hb7 hB6 cR
    obtain ⟨ad, x, rfl, hx, hcx⟩ := ho5.ints.at_ hpc
    obtain ⟨hx0, hx1⟩ := HCB.out x (mem_of_at hx.out)
    have cU := Lib.hid (fun m => lawSum_any (some ad) cs c5 (w7.drewN m) (ho5.ints.drewN m) (by omega) (fun x hx => by have := HCB.out x hx; omega))
    have HMX := Lib.hid (fun hs => HMJ.out x (mem_of_at hx.out) hs)
    generalize cs.sum = S at *
    have hp0 : (0 : Int) ≤ (p : Int) := by omega
    have hp1 : (p : Int) < (cs.length : Int) := by omega
    by_cases hS : 2 * x ≤ S
    · have hd : decide (2 * x ≤ S) = true := by simpa using hS
      go_wp2
      go_quiet ((go_at_call 15; exact Ret.quiet (cU.out _)))
      go_wp2
      go_ret
      exact ⟨rfl, below_drewN hB7 _⟩
    · have hd : decide (2 * x ≤ S) = false := by simpa using hS
      obtain ⟨hr, hw⟩ := HMX.out (by omega)
      have hqp : ((q : Int) == (p : Int)) = true := by rw [← HW.out, hw]; simp
      have hrl : ((rs.length : Int) == 1) = true := by rw [hr]; rfl
      clear hr hw
      go_wp2
      go_quiet ((go_at_call 15; exact Ret.quiet (cU.out _)))
      go_wp2
      go_ret
      exact ⟨rfl, below_drewN hB7 _⟩
set_option maxRecDepth 100000 in
theorem FnRunoffMajority_lifted (os : Os) (started : os.Started) (H : Type) (enc : TypeId × Value → H) :
    ReturnsInHanded {} Try.checked os 10 .any (Rows.fnRunoffMajoritySpec.pre6 enc Try.prog Try.f10 Rows.fnRunoffMajorityRow.domain false) (Rows.fnRunoffMajoritySpec.post enc Try.prog Try.f10 false true false false) := by
  refine returnsInHanded_of_change (C := Try.checked) Try.own started (by kernel_rfl) Try.func10
    (ChangeSpec.witness6 (enc := enc) (C := Try.checked) false ⟨#[], #[.slice none 0 0], []⟩ 8 (by kernel_rfl) (by kernel_rfl) (by kernel_rfl) (by kernel_rfl)) ?_
  intro W base args ds gs before hval0 hW hcnd _
  have hval : ∀ (j : Nat) t v, Try.f10.params[j]? = some t → args[j]? = some v → Value.okWide Try.prog W .any base t v := hval0
  have hW' := hW
  obtain ⟨p, q, hA0, hV, rfl, hfz, hnd⟩ := hW
  have hA : DataW.TrodAll enc Try.prog W 0 (fun _ => true) true Try.f10.params.toList args.toList ds p := hA0
  rw [Try.params10] at hA hval
  obtain ⟨v0, vs0, d0, ds0, p0, q0, hargs, rfl, rfl, h0, r0⟩ := trodAll_cons hA
  obtain ⟨rfl, rfl, rfl⟩ := trodAll_nil r0
  obtain rfl : args = #[v0] := by cases args; simp_all
  obtain ⟨rfl, rfl⟩ := trodVars_none hV
  have k0 := h0
  have lt0 : ∀ x ∈ p0, x.block < W.heap.size := by obtain ⟨m, hm⟩ := k0; exact DataW.trod_lt m _ _ _ hm
  obtain ⟨a0, z0, c0, rfl, w0⟩ := openByts (hval 0 22 v0 rfl rfl) h0
  clear hA0 hval0
  refine (FnRunoffMajority_walk a0 z0 c0 W w0).mono fun e W' ⟨he, bel⟩ => ?_
  subst he
  exact ⟨_, rfl, _, _, _, [], _, [], hW', trodAll_mk1 (shut_bool Try.underlying4 _), (trodAll_cons_mk (Below.trod Try.laidOut (by kernel_rfl) (of_decide_eq_true (by kernel_rfl)) k0 bel lt0) trodAll_mk0), rfl, bel.frame _, fun h => by cases h⟩
/-- The given statement. -/
theorem FnRunoffMajority_holds : Rows.FnRunoffMajoritySaid :=
  OpenClaim.holds_of_wide 10 Try.f10 rfl rfl rfl rfl rfl rfl rfl ⟨rfl, rfl, rfl, rfl, rfl⟩ rfl rfl rfl rfl rfl (by kernel_rfl) Try.func10 (by kernel_rfl)
    (of_decide_eq_true (by kernel_rfl)) (by unfold Func.isWrapper; first | (rw [if_pos (by decide +kernel)]; kernel_rfl) | (rw [if_neg (by decide +kernel)]; exact ⟨rfl, rfl⟩))
    (fun os started H enc _ => FnRunoffMajority_lifted os started H enc)
end Go.Proofs.Ythngafmnkihkgaa
