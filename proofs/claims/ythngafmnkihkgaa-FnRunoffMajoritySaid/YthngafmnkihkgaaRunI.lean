/-
  All rounds of a runoff, with the checks: the reference's.
-/
import Derived.Test.YthngafmnkihkgaaRunR
import Derived.Test.YthngafmnkihkgaaLots
namespace Go.Proofs.Ythngafmnkihkgaa
open Go.RowKit
def rrF (ps : List (ByteArray × Int)) (lots : List Int) : List (List Int × Int) × Bool :=
  if (lv lots && fitV ps lots.length) = true then (roundsF (pl ps) lots lots.length (List.replicate lots.length false), true) else ([], false)
theorem rr_f {ps : List (ByteArray × Int)} {lots : List Int} (h : (lv lots && fitV ps lots.length) = false) : rrF ps lots = ([], false) := by
  unfold rrF
  rw [if_neg (by rw [h]; simp)]
theorem rr_t {ps : List (ByteArray × Int)} {lots : List Int} (h : (lv lots && fitV ps lots.length) = true) : rrF ps lots = (roundsF (pl ps) lots lots.length (List.replicate lots.length false), true) := by
  unfold rrF
  rw [if_pos h]
set_option maxRecDepth 100000 in
set_option maxHeartbeats 1600000 in
theorem specRunoffRounds_any (A A2 : Option Addr) (ps : List (ByteArray × Int)) (lots : List Int) (c c2 : Nat) (w : World) (h : PilesI w A ps) (h2 : Ints w A2 lots) (hl : ps.length ≤ 1048576) (hl2 : lots.length ≤ 1000000) (hcap : lots.length ≤ c2) :
    Calls Try.prog 29 #[.slice A ps.length c, .slice A2 lots.length c2] w (NewRB w (rrF ps lots)) := by
  have cV := Lib.hid (specLotsValid_any A2 lots c2 w h2 (by omega) hcap)
  have cF := Lib.hid (fun m => l3Fits_any A ps c lots.length (w.drewN m) (h.drewN m) hl (by omega) (by omega))
  cases hv : lv lots
  · rw [hv] at cV
    have hq := Lib.hid (rr_f (ps := ps) (lots := lots) (by rw [hv]; rfl))
    go_enter Try.func29, Try.ntmps29
    go_wp2_with (go_at_call 59; refine cV.out.mono ?_; rintro e w1 ⟨rfl, m1, rfl⟩)
    go_ret2
    exact newRB_mk (own_emptyR _ (bi := w.heap.size) (by simp)) (by rw [hq.out]; rfl) ((below_drewN (Below.refl _ _) _).alloc (by simp) _)
  · rw [hv] at cV
    cases hf : fitV ps lots.length
    · have hq := Lib.hid (rr_f (ps := ps) (lots := lots) (by rw [hf, hv]; rfl))
      rw [hf] at cF
      go_enter Try.func29, Try.ntmps29
      go_wp2_with (first | (go_at_call 59; refine cV.out.mono ?_; rintro e w1 ⟨rfl, m1, rfl⟩) | (go_at_call 43; refine (cF.out _).mono ?_; rintro e w1 ⟨rfl, hb1⟩))
      go_ret2
      have hb0 := (below_drewN (Below.refl w.heap.size w) m1).trans hb1
      exact newRB_mk (own_emptyR _ (bi := w.heap.size) hb0.size) (by rw [hq.out]; rfl) (hb0.alloc hb0.size _)
    · have hq := Lib.hid (rr_t (ps := ps) (lots := lots) (by rw [hf, hv]; rfl))
      have hF := Lib.hid (fitOk_of hf)
      have HV := Lib.hid hv
      rw [hf] at cF
      go_enter Try.func29, Try.ntmps29
      go_wp2_with (first | (go_at_call 59; refine cV.out.mono ?_; rintro e w1 ⟨rfl, m1, rfl⟩) | (go_at_call 43; refine (cF.out _).mono ?_; rintro e w1 ⟨rfl, hb1⟩; have hb0 := (below_drewN (Below.refl w.heap.size w) m1).trans hb1) | (go_at_call 60; refine (l12Rounds_any A A2 ps lots c c2 w1 (h.below hb0) (h2.below hb0) hF HV).mono ?_; rintro e w2 ⟨B, d, rfl, hr, hd, hb2⟩))
      go_ret2
      exact ⟨B, d, by rw [hq.out]; rfl, by rw [hq.out]; exact hr, by rw [hq.out]; exact hd, below_down hb0 hb2⟩
end Go.Proofs.Ythngafmnkihkgaa
