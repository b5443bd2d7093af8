/-
  For all codes, the law FnTransferTurned returns true: candidates are treated alike. There are no conditions.
-/
import Derived.Test.YtiinfbjlkbjmmaaQTuN
import Derived.Test.YtiinfbjlkbjmmaaQTuW
import Derived.Test.YtiinfbjlkbjmmaaQDrawT
namespace Go.Proofs.Ytiinfbjlkbjmmaa
open Go.ChangeShapes Go.WideShapes Go.ChangeAt Go.RowKit
set_option maxRecDepth 100000 in
set_option maxHeartbeats 1600000 in
theorem FnTransferTurned_walk (A : Option Addr) (n c : Nat) (Am : Option Addr) (nm cm : Nat) (w : World) (h : BytsA w A n c) (hm : BytsA w Am nm cm) :
    Calls Try.prog 5 #[.slice A n c, .slice Am nm cm] w (LawOk w) := by
  have hcm : nm ≤ 9223372036854775807 := by have h1 := hm.len; have h2 := hm.cap; unfold maxLen at h2; omega
  by_cases hl : n ≤ 1048576
  case neg =>
    have hbig : (1048576 : Int) < n := by omega
    clear hl
    go_enter Try.func5, Try.ntmps5
    go_wp2
    go_ret
    exact ⟨rfl, Below.refl _ _⟩
  by_cases hl2 : nm ≤ 1048576
  case neg =>
    have hbig : (1048576 : Int) < nm := by omega
    clear hl2
    go_enter Try.func5, Try.ntmps5
    go_wp2
    go_ret
    exact ⟨rfl, Below.refl _ _⟩
  go_enter Try.func5, Try.ntmps5
  go_wp2_with fail
  refine (drawTransferWinners_any _ _ _ _ h).mono ?_
  rintro e w1 ⟨A1, c1, ps, A2, c2, ls, s, rfl, ⟨hpl, hop, hb1⟩, hl5, hol, hs10⟩
  have hcap := hol.le_cap
  have cI := Lib.hid (fun (w : World) (h : PilesI w A1 ps) (h2 : Ints w A2 ls) => transferWinners_any A1 A2 ps ls c1 c2 s w h h2 (by omega) (by omega) hcap)
  have cS := Lib.hid (fun (w : World) (h : PilesI w A1 ps) (h2 : Ints w A2 ls) => specTransferWinners_any A1 A2 ps ls c1 c2 s w h h2 (by omega) (by omega) hcap)
  have hwl := winT_len (trF ps ls s).1
  have hwl2 := (tr_small ps ls s).1
  have HTF := Lib.hid (fun hok : trOk ps ls s = false => show winT (trF ps ls s).1 = [] by rw [tr_f hok]; rfl)
  have HLAW := Lib.hid (fun (x y : Nat) (ps2 : List (ByteArray × Int)) (hok : trOk ps ls s = true) hx hy hv2 hp => turn_law (x := x) (y := y) (ps2 := ps2) hok hx hy hv2 hp)
  generalize winT (trF ps ls s).1 = ws at *
  have hw5 : ws.length ≤ 5 := by omega
  clear hwl hwl2
  have cE : Hid (∀ (B B' : Option Addr) (d d' : Nat) (w : World), Ints w B ws → Ints w B' ws → Calls Try.prog 28 #[.slice B ws.length d, .slice B' ws.length d'] w (Qt w (.bool true))) := Lib.hid (by
    intro B B' d d' w h h'
    have := lawSame_any B B' ws ws d d' w h h' (by omega) (by omega)
    rwa [show (ws == ws) = true by simp] at this)
  go_wp2_with fail
  refine (cI.out _ hop.piles hol.ints).mono ?_
  rintro e w2 ⟨A3, c3, rfl, ho3, hb2⟩
  have hop2 := hop.below hb2
  have hol2 := hol.below hb2
  go_wp2_with fail
  refine (cS.out _ hop2.piles hol2.ints).mono ?_
  rintro e w3 ⟨A4, c4, rfl, ho4, hb3⟩
  have hop3 := hop2.below hb3
  have hol3 := hol2.below hb3
  have hI3 := ho3.ints.below hb3
  have hI4 := ho4.ints
  have hB3 := hb1.trans ((below_down hb2 hb3).mono hb1.size)
  clear hop hol hop2 hol2 ho3 ho4 hb1 hb2 hb3 cI cS
  by_cases hw0 : ws.length = 0
  · obtain rfl : ws = [] := List.eq_nil_of_length_eq_zero hw0
    clear hw0
    go_wp2_with (go_at_call 28; refine (cE.out _ _ _ _ _ (by first | exact hI3 | exact hI3.drewN _) (by first | exact hI4 | exact hI4.drewN _)).mono ?_; rintro e w' ⟨rfl, n', rfl⟩)
    go_ret
    exact ⟨rfl, below_drewN hB3 _⟩
  · have hz2 : ¬ ws = [] := fun e => hw0 (by rw [e]; rfl)
    have hz : ((ws.length : Int) == 0) = false := by simpa using hw0
    have hok : trOk ps ls s = true := by
      cases hc : trOk ps ls s
      · exact absurd (HTF.out hc) hz2
      · rfl
    obtain ⟨hlv, hfit, hsn, _⟩ := trOk_iff.1 hok
    have hl1 : 1 ≤ ls.length := by omega
    have hne : ¬ ((ls.length : Int) = 0) := by omega
    have hnil : ¬ ls = [] := fun e => by rw [e] at hl1; simp at hl1
    clear hw0
    go_wp2_with (go_at_call 28; refine (cE.out _ _ _ _ _ (by first | exact hI3 | exact hI3.drewN _) (by first | exact hI4 | exact hI4.drewN _)).mono ?_; rintro e w' ⟨rfl, n', rfl⟩)
    obtain ⟨X, hX, hXl⟩ : ∃ X : Nat, (nm : Int) % (ls.length : Int) = (X : Int) ∧ X < ls.length := ⟨nm % ls.length, rfl, Nat.mod_lt _ hl1⟩
    obtain ⟨Y, hY, hYl⟩ : ∃ Y : Nat, (nm : Int) / 7 % (ls.length : Int) = (Y : Int) ∧ Y < ls.length := ⟨nm / 7 % ls.length, rfl, Nat.mod_lt _ hl1⟩
    rw [hX, hY]
    have hpsv := (fitV_iff.1 hfit).1
    have hx5 : X < 5 := by omega
    have hy5 : Y < 5 := by omega
    have cP := Lib.hid (fun w (h : PilesI w A1 ps) => pilesTurn_any A1 ps c1 X Y w h (Lib.hid hpsv) hx5 hy5)
    have hnd := turned_nodup hx5 hy5 hpsv
    have hp2 := sortP_perm hnd
    have hv2 := sortP_psv hnd (fun p hp => by obtain ⟨q, hq, rfl⟩ := List.mem_map.1 hp; exact tuT_pv hx5 hy5 (psv_mem hpsv hq)) (by rw [List.length_map]; exact psv_len hpsv)
    have hlaw := HLAW.out X Y _ hok hXl hYl hv2 hp2
    have hl2' := psv_len hv2
    generalize sortP (ps.map (tuT X Y)) = ps2 at *
    have cTl := Lib.hid (fun w (h : Ints w A2 ls) => turnedAll_any A2 ls c2 X Y w h (by omega))
    have cTw := Lib.hid (fun w (h : Ints w A3 ws) => turnedAll_any A3 ws c3 X Y w h (by omega))
    have hlm : (ls.map (sw X Y)).length ≤ 5 := by rw [List.length_map]; exact hl5
    have hwm : (ws.map (sw X Y)).length ≤ 5 := by rw [List.length_map]; exact hw5
    generalize ls.map (sw X Y) = ls2 at *
    generalize ws.map (sw X Y) = ws2 at *
    have cW := Lib.hid (fun A5 A6 c5 c6 w h h2 hc => hlaw ▸ transferWinners_any A5 A6 ps2 ls2 c5 c6 s w h h2 (by omega) (by omega) hc)
    have cE2 : Hid (∀ (B B' : Option Addr) (d d' : Nat) (w : World), Ints w B ws2 → Ints w B' ws2 → Calls Try.prog 28 #[.slice B ws2.length d, .slice B' ws2.length d'] w (Qt w (.bool true))) := Lib.hid (by
      intro B B' d d' w h h'
      have := lawSame_any B B' ws2 ws2 d d' w h h' (by omega) (by omega)
      rwa [show (ws2 == ws2) = true by simp] at this)
    clear hlaw hp2 hv2 hnd hpsv hX hY hok hlv hfit hsn hz hz2 hne hnil HTF HLAW cE hI4
    have hop4 := hop3.drewN n'
    have hol4 := hol3.ints.drewN n'
    have hI4 := hI3.drewN n'
    have hB4 := below_drewN hB3 n'
    clear hop3 hol3 hI3 hB3
    refine (cP.out _ hop4.piles).mono ?_
    rintro e w5 ⟨A5, c5, rfl, ho5, hb5⟩
    have hol5 := hol4.below hb5
    have hI5 := hI4.below hb5
    have hB5 := hB4.trans (hb5.mono hB4.size)
    clear hol4 hI4 hB4 hop4 hb5 cP
    go_wp2_with fail
    refine (cTl.out _ hol5).mono ?_
    rintro e w6 ⟨A6, c6, rfl, ho6, hb6⟩
    have hI6 := hI5.below hb6
    have hP6 := ho5.piles.below hb6
    have hB6 := hB5.trans (hb6.mono hB5.size)
    clear hol5 hI5 ho5 hB5 hb6 cTl
    go_wp2_with fail
    refine (cW.out _ _ _ _ _ hP6 ho6.ints ho6.le_cap).mono ?_
    rintro e w7 ⟨A7, c7, rfl, ho7, hb7⟩
    have hI7 := hI6.below hb7
    have hB7 := hB6.trans (hb7.mono hB6.size)
    clear hP6 ho6 hI6 hB6 hb7 cW
    go_wp2_with fail
    refine (cTw.out _ hI7).mono ?_
    rintro e w8 ⟨A8, c8, rfl, ho8, hb8⟩
    have ho78 := ho7.ints.below hb8
    have hB8 := hB7.trans (hb8.mono hB7.size)
    clear hI7 hB7 ho7 hb8 cTw
    go_wp2_with fail
    refine (cE2.out _ _ _ _ _ ho78 ho8.ints).mono ?_
    rintro e w9 ⟨rfl, n9, rfl⟩
    go_wp2
    go_ret
    exact ⟨rfl, below_drewN hB8 _⟩
set_option maxRecDepth 100000 in
theorem FnTransferTurned_lifted (os : Os) (started : os.Started) (H : Type) (enc : TypeId × Value → H) :
    ReturnsInHanded {} Try.checked os 5 .any (Rows.fnTransferTurnedSpec.pre6 enc Try.prog Try.f5 Rows.fnTransferTurnedRow.domain false) (Rows.fnTransferTurnedSpec.post enc Try.prog Try.f5 false true false false) := by
  refine returnsInHanded_of_change (C := Try.checked) Try.own started (by kernel_rfl) Try.func5
    (ChangeSpec.witness6 (enc := enc) (C := Try.checked) false ⟨#[], #[.slice none 0 0, .slice none 0 0], []⟩ 8 (by kernel_rfl) (by kernel_rfl) (by kernel_rfl) (by kernel_rfl)) ?_
  intro W base args ds gs before hval0 hW hcnd _
  have hval : ∀ (j : Nat) t v, Try.f5.params[j]? = some t → args[j]? = some v → Value.okWide Try.prog W .any base t v := hval0
  have hW' := hW
  obtain ⟨p, q, hA0, hV, rfl, hfz, hnd⟩ := hW
  have hA : DataW.TrodAll enc Try.prog W 0 (fun _ => true) true Try.f5.params.toList args.toList ds p := hA0
  rw [Try.params5] at hA hval
  obtain ⟨v0, vs0, d0, ds0, p0, q0, hargs, rfl, rfl, h0, r0⟩ := trodAll_cons hA
  obtain ⟨v1, vs1, d1, ds1, p1, q1, rfl, rfl, rfl, h1, r1⟩ := trodAll_cons r0
  obtain ⟨rfl, rfl, rfl⟩ := trodAll_nil r1
  obtain rfl : args = #[v0, v1] := by cases args; simp_all
  obtain ⟨rfl, rfl⟩ := trodVars_none hV
  have k0 := h0
  have lt0 : ∀ x ∈ p0, x.block < W.heap.size := by obtain ⟨m, hm⟩ := k0; exact DataW.trod_lt m _ _ _ hm
  obtain ⟨a0, z0, c0, rfl, w0⟩ := openByts (hval 0 37 v0 rfl rfl) h0
  have k1 := h1
  have lt1 : ∀ x ∈ p1, x.block < W.heap.size := by obtain ⟨m, hm⟩ := k1; exact DataW.trod_lt m _ _ _ hm
  obtain ⟨a1, z1, c1, rfl, w1⟩ := openByts (hval 1 37 v1 rfl rfl) h1
  clear hA0 hval0
  refine (FnTransferTurned_walk a0 z0 c0 a1 z1 c1 W w0 w1).mono fun e W' ⟨he, bel⟩ => ?_
  subst he
  exact ⟨_, rfl, _, _, _, [], _, [], hW', trodAll_mk1 (shut_bool Try.underlying4 _), (trodAll_cons_mk (Below.trod Try.laidOut (by kernel_rfl) (of_decide_eq_true (by kernel_rfl)) k0 bel lt0) (trodAll_cons_mk (Below.trod Try.laidOut (by kernel_rfl) (of_decide_eq_true (by kernel_rfl)) k1 bel lt1) trodAll_mk0)), rfl, bel.frame _, fun h => by cases h⟩
set_option maxRecDepth 100000 in
/-- The given statement. -/
theorem FnTransferTurned_holds : Rows.FnTransferTurnedSaid :=
  OpenClaim.holds_of_wide 5 Try.f5 rfl rfl rfl rfl rfl rfl rfl ⟨rfl, rfl, rfl, rfl, rfl⟩ rfl rfl rfl rfl rfl (by kernel_rfl) Try.func5 (by kernel_rfl)
    (of_decide_eq_true (by kernel_rfl)) (by unfold Func.isWrapper; first | (rw [if_pos (by decide +kernel)]; kernel_rfl) | (rw [if_neg (by decide +kernel)]; exact ⟨rfl, rfl⟩))
    (fun os started H enc _ => FnTransferTurned_lifted os started H enc)
end Go.Proofs.Ytiinfbjlkbjmmaa
