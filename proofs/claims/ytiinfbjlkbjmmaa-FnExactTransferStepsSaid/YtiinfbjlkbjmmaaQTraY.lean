/-
  Comparing steps of any numbers: the laws' own, the reference's.
-/
import Derived.Test.YtiinfbjlkbjmmaaQTraZ
namespace Go.Proofs.Ytiinfbjlkbjmmaa
open Go.RowKit
set_option maxRecDepth 100000 in
set_option maxHeartbeats 3200000 in
theorem lawSameSteps_any (A A' : Option Addr) (xs ys : List Stz) (c c' : Nat) (w : World) (h : StepsZ w A xs) (h' : StepsZ w A' ys) (hl : xs.length ≤ 1048576) (hl' : ys.length ≤ 1048576) :
    Calls Try.prog 21 #[.slice A xs.length c, .slice A' ys.length c'] w (Qt w (.bool (xs == ys))) := by
  by_cases hlen : xs.length = ys.length
  · have hne : (((xs.length : Int)) != (ys.length : Int)) = false := by simp [hlen]
    have HL := Lib.hid hlen
    clear hlen
    go_enter Try.func21, Try.ntmps21
    go_wp2
    go_loopw [5] (fun i wr => ∃ k n : Nat, k ≤ xs.length ∧ i = .int .i64 k ∧ Hid (xs.take k = ys.take k) ∧ wr = w.drewN n) (fun i _ => xs.length - (intOf i).toNat)
    case atStart => exact ⟨0, 0, by omega, rfl, rfl, rfl⟩
    case round =>
      obtain ⟨k, n, hk, rfl, heq, rfl⟩ := hrel
      by_cases hlt : k < xs.length
      · have hlt' : k < ys.length := by have := HL.out; omega
        obtain ⟨ad, B, d, fs, o, t, rfl, hx, hf5, hfd, hfs, hc0, hc1, hc2⟩ := h.at_ hlt
        obtain ⟨ad', B', d', gs, p, u, rfl, hy, hg5, hgd, hgs, hc0', hc1', hc2'⟩ := h'.at_ hlt'
        have cS := Lib.hid (fun m => lawSameFracs_any B B' fs gs d d' (w.drewN m) (hfs.drewN m) (hgs.drewN m) hf5 hg5)
        have hne3 : (fs, o, t) ≠ (gs, p, u) → xs ≠ ys := by
          intro e1 e
          rw [e] at hx
          have := hx.out.symm.trans hy.out
          injection this with this
          exact e1 this
        have HN := Lib.hid hne3
        clear hne3
        by_cases hop : o = p
        · subst hop
          have hb : (o != o) = false := by simp
          by_cases htu : t = u
          · subst htu
            have hb2 : (t != t) = false := by simp
            cases hb3 : (fs == gs)
            · rw [hb3] at cS
              go_wp2
              go_quiet ((go_at_call 54; exact Qt.quiet_add (cS.out _)))
              go_wp2
              go_ret
              exact ⟨ret_bool (by simpa using HN.out (by intro e; injection e with e; simp [e] at hb3)), _, World.drewN_drewN _ _ _⟩
            · rw [hb3] at cS
              have hfg : fs = gs := by simpa using hb3
              have heq2 := Lib.hid (show xs.take (k + 1) = ys.take (k + 1) by rw [take_snoc _ _ _ hx.out, take_snoc _ _ _ hy.out, heq.out, hfg])
              clear hfg hb3 heq
              go_wp2
              go_quiet ((go_at_call 54; exact Qt.quiet_add (cS.out _)))
              go_wp2
              go_roundw
              case rel => exact ⟨k + 1, _, by omega, by go_num, heq2, rfl⟩
              case measure => simp [intOf]; omega
          · have hb2 : (t != u) = true := by simp [htu]
            have HN2 := Lib.hid (HN.out (by intro e; injection e with _ e; injection e with _ e; exact htu e))
            clear htu
            go_wp2
            go_quiet (fail)
            go_wp2
            go_ret
            exact ⟨ret_bool (by simpa using HN2.out), _, World.drewN_drewN _ _ _⟩
        · have hb : (o != p) = true := by simp [hop]
          have HN2 := Lib.hid (HN.out (by intro e; injection e with _ e; injection e with e _; exact hop e))
          clear hop
          go_wp2
          go_quiet (fail)
          go_wp2
          go_ret
          exact ⟨ret_bool (by simpa using HN2.out), _, World.drewN_drewN _ _ _⟩
      · have h2 : xs.length ≤ k := by omega
        clear hlt
        go_wp2
        go_ret
        refine ⟨ret_bool ?_, _, rfl⟩
        have := heq.out
        rw [List.take_of_length_le (by omega), List.take_of_length_le (by have := HL.out; omega)] at this
        simp [this]
  · have hne : (((xs.length : Int)) != (ys.length : Int)) = true := by simp; omega
    go_enter Try.func21, Try.ntmps21
    go_wp2
    go_ret
    exact ⟨ret_bool (by simp; intro e; exact absurd (by rw [e]) hlen), 0, rfl⟩
end Go.Proofs.Ytiinfbjlkbjmmaa
