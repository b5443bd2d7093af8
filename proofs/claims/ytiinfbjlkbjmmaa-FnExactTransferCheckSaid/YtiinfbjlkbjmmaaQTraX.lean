/-
  TransferCheck: the reference's.
-/
import Derived.Test.YtiinfbjlkbjmmaaQTraV
namespace Go.Proofs.Ytiinfbjlkbjmmaa
open Go.RowKit
set_option maxRecDepth 100000 in
set_option maxHeartbeats 3200000 in
theorem specTransferCheck_any (A A2 A3 : Option Addr) (ps : List (ByteArray × Int)) (lots : List Int) (xs : List Stz) (c c2 c3 : Nat) (s : Int) (w : World) (h : PilesI w A ps) (h2 : Ints w A2 lots) (h3 : StepsZ w A3 xs) (hl : ps.length ≤ 1048576) (hl2 : lots.length ≤ 1048576) (hl3 : xs.length ≤ 1048576) (hcap : lots.length ≤ c2) :
    Calls Try.prog 10 #[.slice A ps.length c, .slice A2 lots.length c2, .int .i64 s, .slice A3 xs.length c3] w (Bl w (.bool (tcF ps lots s xs))) := by
  have cT := Lib.hid (specTransferSteps_any A A2 ps lots c c2 s w h h2 hl hl2 hcap)
  obtain ⟨hs1, hs2⟩ := tr_small ps lots s
  unfold tcF
  generalize trF ps lots s = r at *
  obtain ⟨rs, b⟩ := r
  have hs1 : rs.length ≤ 5 := hs1
  have HS := Lib.hid hs2
  clear hs2
  cases b
  · go_enter Try.func10, Try.ntmps10
    go_wp2_with (go_at_call 20; refine cT.out.mono ?_; rintro e w1 ⟨B, d, vs, rfl, ho, ev, hb1⟩)
    go_ret
    exact ⟨rfl, hb1⟩
  · go_enter Try.func10, Try.ntmps10
    go_wp2_with fail
    refine cT.out.mono ?_
    rintro e w1 ⟨A', d, vs, rfl, ho, ev, hb1⟩
    have h' := ho.z ev HS.out
    have h31 := h3.below hb1
    obtain ⟨ys, hys⟩ : ∃ ys, ys = rs.map stz := ⟨_, rfl⟩
    have hyl : rs.length = ys.length := by rw [hys, List.length_map]
    rw [← hys] at h'
    have HY := Lib.hid hys
    clear hys ho ev
    have hyl5 : ys.length ≤ 5 := by omega
    have HYL := Lib.hid hyl
    by_cases hlen : ys.length = xs.length
    · have hne : (((rs.length : Int)) != (xs.length : Int)) = false := by simp; omega
      have HL := Lib.hid hlen
      clear hlen
      clear hyl
      go_wp2
      go_loopw [11] (fun i wr => ∃ k n : Nat, k ≤ xs.length ∧ i = .int .i64 k ∧ Hid (xs.take k = ys.take k) ∧ wr = w1.drewN n) (fun i _ => xs.length - (intOf i).toNat)
      case atStart => exact ⟨0, 0, by omega, rfl, rfl, rfl⟩
      case round =>
        obtain ⟨k, n, hk, rfl, heq, rfl⟩ := hrel
        by_cases hlt : k < xs.length
        · have hlt' : k < ys.length := by have := HL.out; omega
          have hlt2 : k < rs.length := by have := HYL.out; omega
          obtain ⟨ad, B, d1, fs, o, t, rfl, hx, hf5, hfd, hfs, hc0, hc1, hc2⟩ := h31.at_ hlt
          obtain ⟨ad', B', d', gs, p, u, rfl, hy, hg5, hgd, hgs, hc0', hc1', hc2'⟩ := h'.at_ hlt'
          have cS := Lib.hid (fun m => l15Same_any B B' fs gs d1 d' (w1.drewN m) (hfs.drewN m) (hgs.drewN m) hf5 hg5)
          have hne3 : (fs, o, t) ≠ (gs, p, u) → (rs.map stz == xs) = false := by
            intro e1
            rw [← HY.out]
            simp
            intro e
            rw [← e] at hx
            have := hx.out.symm.trans hy.out
            injection this with this
            exact e1 this
          have HN := Lib.hid hne3
          clear hne3
          by_cases hop : o = p
          · subst hop
            have hb : (o != o) = false := by simp
            by_cases htu : t = u
            · subst htu
              have hb2 : (t != t) = false := by simp
              cases hb3 : (fs == gs)
              · rw [hb3] at cS
                have HN2 := Lib.hid (HN.out (by intro e; injection e with e; simp [e] at hb3))
                clear hb3
                go_wp2
                go_quiet ((go_at_call 38; exact Qt.quiet_add (cS.out _)))
                go_wp2
                go_ret
                exact ⟨ret_bool (by simpa using HN2.out), below_drewN (below_drewN hb1 _) _⟩
              · rw [hb3] at cS
                have hfg : fs = gs := by simpa using hb3
                have heq2 := Lib.hid (show xs.take (k + 1) = ys.take (k + 1) by rw [take_snoc _ _ _ hx.out, take_snoc _ _ _ hy.out, heq.out, hfg])
                clear hfg hb3 heq
                go_wp2
                go_quiet ((go_at_call 38; exact Qt.quiet_add (cS.out _)))
                go_wp2
                go_roundw
                case rel => exact ⟨k + 1, _, by omega, by go_num, heq2, rfl⟩
                case measure => simp [intOf]; omega
            · have hb2 : (t != u) = true := by simp [htu]
              have HN2 := Lib.hid (HN.out (by intro e; injection e with _ e; injection e with _ e; exact htu e))
              clear htu
              go_wp2
              go_quiet (fail)
              go_wp2
              go_ret
              exact ⟨ret_bool (by simpa using HN2.out), below_drewN (below_drewN hb1 _) _⟩
          · have hb : (o != p) = true := by simp [hop]
            have HN2 := Lib.hid (HN.out (by intro e; injection e with _ e; injection e with e _; exact hop e))
            clear hop
            go_wp2
            go_quiet (fail)
            go_wp2
            go_ret
            exact ⟨ret_bool (by simpa using HN2.out), below_drewN (below_drewN hb1 _) _⟩
        · have h2 : xs.length ≤ k := by omega
          clear hlt
          go_wp2
          go_ret
          refine ⟨ret_bool ?_, below_drewN hb1 _⟩
          have := heq.out
          rw [List.take_of_length_le (by omega), List.take_of_length_le (by have := HL.out; omega)] at this
          rw [← HY.out]
          simp [this]
    · have hne : (((rs.length : Int)) != (xs.length : Int)) = true := by simp; omega
      have HE := Lib.hid (show (rs.map stz == xs) = false by rw [← HY.out]; simp; intro e; exact absurd (by rw [e]) hlen)
      clear hlen hyl
      go_wp2
      go_ret
      exact ⟨ret_bool (by simpa using HE.out), hb1⟩
end Go.Proofs.Ytiinfbjlkbjmmaa
