/-
  For every code, the law FnSeatsNextCheck returns true: the next seat keeps the check. There are no conditions.
-/
import Derived.Test.YtimldfknbeiadaaNextQ
namespace Go.Proofs.Ytimldfknbeiadaa
open Go.ChangeShapes Go.WideShapes Go.ChangeAt Go.RowKit
set_option maxRecDepth 100000 in
set_option maxHeartbeats 3200000 in
theorem FnSeatsNextCheck_walk (A : Option Addr) (n c : Nat) (w : World) (h : BytsA w A n c) :
    Calls Try.prog 9 #[.slice A n c] w (LawOk w) := by
  by_cases hl : n ≤ 1048576
  case neg =>
    have hbig : (1048576 : Int) < n := by omega
    clear hl
    go_enter Try.func9, Try.ntmps9
    go_wp2
    go_ret
    exact ⟨rfl, Below.refl _ _⟩
  go_enter Try.func9, Try.ntmps9
  go_wp2_with fail
  refine (drawNext_any _ _ _ _ h).mono ?_
  rintro e w1 ⟨A1, c1, xs, A2, c2, gs, m, A3, c3, ls, rfl, ⟨hx5, hox, hb1⟩, ⟨hg5, hog, _⟩, ⟨hl5, hol, _⟩⟩
  have cI := Lib.hid (fun (w : World) (h : Ints w A1 xs) (h' : Ints w A2 gs) (h2 : Ints w A3 ls) => implNext_any A1 A2 A3 xs gs ls c1 c2 c3 m w h h' h2 (by omega) (by omega) (by omega) hol.le_cap)
  have cS := Lib.hid (fun (w : World) (h : Ints w A1 xs) (h' : Ints w A2 gs) (h2 : Ints w A3 ls) => specNext_any A1 A2 A3 xs gs ls c1 c2 c3 m w h h' h2 (by omega) (by omega) (by omega) hol.le_cap)
  obtain ⟨r, hr⟩ : ∃ r, nextF xs gs m ls = r := ⟨_, rfl⟩
  rw [hr] at cI cS
  have HR := Lib.hid hr
  clear hr
  go_wp2_with fail
  refine (cI.out _ hox.ints hog.ints hol.ints).mono ?_
  rintro e w2 ⟨rfl, n2, rfl⟩
  go_wp2_with fail
  refine (cS.out _ (hox.drewN n2).ints (hog.drewN n2).ints (hol.drewN n2).ints).mono ?_
  rintro e w3 ⟨rfl, n3, rfl⟩
  have hB3 := below_drewN (below_drewN hb1 n2) n3
  have hox := (hox.drewN n2).drewN n3
  have hog := (hog.drewN n2).drewN n3
  have hol := (hol.drewN n2).drewN n3
  have hrr : (r != r) = false := by simp
  have hre : (r == r) = true := by simp
  clear cI cS
  generalize (w1.drewN n2).drewN n3 = w3 at *
  by_cases hr0 : 0 ≤ r
  case neg =>
    have hr1 : r < 0 := by omega
    clear hr0
    go_wp2
    go_ret
    exact ⟨rfl, hB3⟩
  obtain ⟨q, rfl, hv, hgv, hmv, hlv, hll, hno, hbest⟩ := next_true HR.out hr0
  clear hrr hre
  have hrr : ((q : Int) != (q : Int)) = false := by simp
  obtain ⟨a1, ⟨a2, a2'⟩, a3⟩ := vv_iff.1 hv
  obtain ⟨b1, b2, b3⟩ := gv_iff.1 hgv
  have hm12 := mv_iff.1 hmv
  have hm1 : 1 ≤ m := by omega
  have hm2 : m ≤ 2 := by omega
  have hgl : gs.length = xs.length := by omega
  have hqx := hbest.lt
  have hqg : q < gs.length := by omega
  have HV := Lib.hid hv
  have HG := Lib.hid hgv
  have HM := Lib.hid hmv
  have NO := Lib.hid hno
  have BE := Lib.hid hbest
  have HX := Lib.hid a1
  have HB := Lib.hid b1
  have HGL := Lib.hid hgl
  have HGS := Lib.hid b3
  have h0g : 0 < gs.length := by omega
  obtain ⟨ad, xq, rfl, hxq, hcq⟩ := hox.ints.at_ hqx
  obtain ⟨ad2, gq, rfl, hgq, hcgq⟩ := hog.ints.at_ hqg
  obtain ⟨xq0, xq1⟩ := HX.out xq (mem_of_at hxq.out)
  obtain ⟨gq0, gq1⟩ := HB.out gq (mem_of_at hgq.out)
  clear hv hgv hmv hlv hno hbest a1 b1 b2 b3 hgl hll hm12 a3

  have HN := Lib.hid (fun hs hc => next_check HV.out HG.out HM.out NO.out BE.out hgq.out hs hc)
  obtain ⟨gb0, gb1⟩ : 0 ≤ gs.sum ∧ gs.sum ≤ 20 := ⟨sum_nonneg gs (fun x hx => (HB.out x hx).1), HGS.out⟩
  have HGW := Lib.hid (wide' HB.out (by omega))
  go_wp2_with (at_builtin; refine wpList_appN _ rfl (.tmp 40) (.tmp 41) rfl w3.heap.size _ 0 _ [] rfl ⟨rfl, own_empty w3 (Nat.le_refl _)⟩ (by simp) (by omega) _ gs _ _ rfl rfl (by omega) (hog.ints.alloc _) ?_; intro B5 d5 w5 hown5 hgr5 hbl5; obtain ⟨hlen5, hown5⟩ := hown5; have hown5 := hown5.congr (List.nil_append gs); obtain ⟨g5, rfl, hg5b, hg5l⟩ := hown5.form h0g; have hc5 := hown5.cell hgq.out; have hf5 := hown5.frozen q)
  have hb5 : Below w3.heap.size w3 w5 := ((Below.refl _ _).alloc (Nat.le_refl _) _).trans hbl5
  have hb7 := hb5.setCell (p := ⟨g5, q, none⟩) hg5b (.int .i64 (gq + 1))
  have hox7 := (hox.ints.below hb7)
  have hog7 := (hog.ints.below hb7)
  have hown7 := hown5.set q (gq + 1)
  have hB7 := hB3.trans (hb7.mono hB3.size)
  have cA := Lib.hid (fun (w : World) (h : Ints w (some ad) xs) (h' : Ints w (some ad2) gs) => implCheck_any (some ad) (some ad2) xs gs c1 c2 m w h h' (by omega) (by omega))
  have cZ := Lib.hid (fun (w : World) (h : Ints w (some ad) xs) (h' : Ints w (some ⟨g5, 0, none⟩) (gs.set q (gq + 1))) => implCheck_any (some ad) (some ⟨g5, 0, none⟩) xs (gs.set q (gq + 1)) c1 d5 m w h h' (by omega) (by simp; omega))
  have hzl : (gs.set q (gq + 1)).length = gs.length := by simp
  rw [hzl] at cZ
  clear hc5 hf5 hb5 hb7 hown5 hgr5 hbl5 hcq hcgq hzl hlen5 hg5l
  generalize w5.setCell ⟨g5, q, none⟩ (.int .i64 (gq + 1)) = w7 at *
  obtain ⟨r, hr⟩ : ∃ r, checkF xs gs m = r := ⟨_, rfl⟩
  rw [hr] at cA
  have HR2 := Lib.hid hr
  clear hr
  have i7 := hown7.ints
  cases r
  case false =>
    go_wp2_with (go_at_call 24; refine (cA.out _ hox7 hog7).mono ?_; rintro e w' ⟨rfl, n9, rfl⟩)
    go_ret
    exact ⟨rfl, below_drewN hB7 _⟩
  by_cases hs20 : gs.sum = 20
  · have d1 : (gs.sum == 20) = true := by simp; omega
    clear hs20
    go_wp2_with (first | (go_at_call 24; refine (cA.out _ hox7 hog7).mono ?_; rintro e w' ⟨rfl, n9, rfl⟩) | (go_at_call 23; refine (lawSum_any _ _ _ _ (hog7.drewN _) (by omega) HGW.out).mono ?_; rintro e w' ⟨rfl, rfl⟩))
    go_ret
    exact ⟨rfl, below_drewN hB7 _⟩
  · have d1 : (gs.sum == 20) = false := by simp; omega
    have hZ := HN.out (by omega) HR2.out
    rw [hZ] at cZ
    clear hZ hs20
    go_wp2_with fail
    refine (cA.out _ hox7 hog7).mono ?_
    rintro e w' ⟨rfl, n9, rfl⟩
    go_wp2_with (first | (go_at_call 23; refine (lawSum_any _ _ _ _ (hog7.drewN _) (by omega) HGW.out).mono ?_; rintro e w' ⟨rfl, rfl⟩) | (go_at_call 24; refine (cZ.out _ (hox7.drewN _) (i7.drewN _)).mono ?_; rintro e w' ⟨rfl, n10, rfl⟩))
    go_ret
    exact ⟨rfl, below_drewN hB7 _⟩
set_option maxRecDepth 100000 in
theorem FnSeatsNextCheck_lifted (os : Os) (started : os.Started) (H : Type) (enc : TypeId × Value → H) :
    ReturnsInHanded {} Try.checked os 9 .any (Rows.fnSeatsNextCheckSpec.pre6 enc Try.prog Try.f9 Rows.fnSeatsNextCheckRow.domain false) (Rows.fnSeatsNextCheckSpec.post enc Try.prog Try.f9 false true false false) := by
  refine returnsInHanded_of_change (C := Try.checked) Try.own started (by kernel_rfl) Try.func9
    (ChangeSpec.witness6 (enc := enc) (C := Try.checked) false ⟨#[], #[.slice none 0 0], []⟩ 8 (by kernel_rfl) (by kernel_rfl) (by kernel_rfl) (by kernel_rfl)) ?_
  intro W base args ds gs before hval0 hW hcnd _
  have hval : ∀ (j : Nat) t v, Try.f9.params[j]? = some t → args[j]? = some v → Value.okWide Try.prog W .any base t v := hval0
  have hW' := hW
  obtain ⟨p, q, hA0, hV, rfl, hfz, hnd⟩ := hW
  have hA : DataW.TrodAll enc Try.prog W 0 (fun _ => true) true Try.f9.params.toList args.toList ds p := hA0
  rw [Try.params9] at hA hval
  obtain ⟨v0, vs0, d0, ds0, p0, q0, hargs, rfl, rfl, h0, r0⟩ := trodAll_cons hA
  obtain ⟨rfl, rfl, rfl⟩ := trodAll_nil r0
  obtain rfl : args = #[v0] := by cases args; simp_all
  obtain ⟨rfl, rfl⟩ := trodVars_none hV
  have k0 := h0
  have lt0 : ∀ x ∈ p0, x.block < W.heap.size := by obtain ⟨m, hm⟩ := k0; exact DataW.trod_lt m _ _ _ hm
  obtain ⟨a0, z0, c0, rfl, w0⟩ := openByts (hval 0 22 v0 rfl rfl) h0
  clear hA0 hval0
  refine (FnSeatsNextCheck_walk a0 z0 c0 W w0).mono fun e W' ⟨he, bel⟩ => ?_
  subst he
  exact ⟨_, rfl, _, _, _, [], _, [], hW', trodAll_mk1 (shut_bool Try.underlying4 _), (trodAll_cons_mk (Below.trod Try.laidOut (by kernel_rfl) (of_decide_eq_true (by kernel_rfl)) k0 bel lt0) trodAll_mk0), rfl, bel.frame _, fun h => by cases h⟩
/-- The given statement. -/
theorem FnSeatsNextCheck_holds : Rows.FnSeatsNextCheckSaid :=
  OpenClaim.holds_of_wide 9 Try.f9 rfl rfl rfl rfl rfl rfl rfl ⟨rfl, rfl, rfl, rfl, rfl⟩ rfl rfl rfl rfl rfl (by kernel_rfl) Try.func9 (by kernel_rfl)
    (of_decide_eq_true (by kernel_rfl)) (by unfold Func.isWrapper; first | (rw [if_pos (by decide +kernel)]; kernel_rfl) | (rw [if_neg (by decide +kernel)]; exact ⟨rfl, rfl⟩))
    (fun os started H enc _ => FnSeatsNextCheck_lifted os started H enc)
end Go.Proofs.Ytimldfknbeiadaa
