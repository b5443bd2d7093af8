/-
  The laws' own functions on slices of ints: a copy, marks written and read.
-/
import Derived.Test.YthhjddeimbfmfaaSmall
namespace Go.Proofs.Ythhjddeimbfmfaa
open Go.RowKit
set_option maxHeartbeats 400000 in
theorem toIntS_any (A : Option Addr) (xs : List Int) (c : Nat) (w : World) (h : Ints w A xs) (hl : xs.length ≤ 1048576) :
    Calls Try.prog 16 #[.slice A xs.length c] w (NewI w xs) := by
  go_enter Try.func16, Try.ntmps16
  go_wp2_with (at_make; refine wpList_makeI _ rfl _ _ rfl xs.length rfl rfl (by omega) ?_; intro w1 hown hb hsz)
  go_loopw [4] (fun i wr => ∃ k : Nat, k ≤ xs.length ∧ i = .int .i64 k ∧ OwnI wr w.heap.size (some ⟨w.heap.size, 0, none⟩) xs.length (fill xs k) ∧ Below w.heap.size w wr) (fun i _ => xs.length - (intOf i).toNat)
  case atStart => exact ⟨0, by omega, rfl, by rw [fill_zero]; assumption, by assumption⟩
  case round =>
    obtain ⟨k, hk, rfl, hown, hbel⟩ := hrel
    by_cases hlt : k < xs.length
    · obtain ⟨ad, x, rfl, hx, hc⟩ := (h.below hbel).at_ hlt
      have hc2 := hown.cell (fill_at xs hlt)
      have hf2 := hown.frozen k
      go_wp2
      go_roundw
      case rel => exact ⟨k + 1, by omega, by go_num, (hown.set k x).congr (fill_set xs hx.out), hbel.setCell (Nat.le_refl _) _⟩
      case measure => simp [intOf]; omega
    · obtain rfl : k = xs.length := by omega
      clear hlt
      go_wp2
      go_ret
      exact ⟨_, _, rfl, hown.congr (fill_all xs), hbel⟩
end Go.Proofs.Ythhjddeimbfmfaa
