/-
  The law's own small functions on rounds and counts.
-/
import Derived.Test.YthngafmnkihkgaaRunO
namespace Go.Proofs.Ythngafmnkihkgaa
open Go.RowKit
set_option maxHeartbeats 800000 in
theorem lawMost_any (A : Option Addr) (xs : List Int) (c : Nat) (w : World) (h : Ints w A xs) (hl : xs.length ≤ 1048576) (hb : Hid (∀ x ∈ xs, 0 ≤ x ∧ x ≤ 1188)) :
    Calls Try.prog 31 #[.slice A xs.length c] w (Ret w (.int .i64 (mostL xs))) := by
  go_enter Try.func31, Try.ntmps31
  go_wp2
  go_loop [3, 4] (fun t i => ∃ k : Nat, k ≤ xs.length ∧ i = .int .i64 k ∧ t = .int .i64 (mostL (xs.take k))) (fun _ i => xs.length - (intOf i).toNat)
  case atStart => exact ⟨0, by omega, rfl, rfl⟩
  case round =>
    obtain ⟨k, hk, rfl, rfl⟩ := hrel
    by_cases hlt : k < xs.length
    · obtain ⟨ad, x, rfl, hx, hc⟩ := h.at_ hlt
      obtain ⟨hx0, hx1⟩ := hb.out x (mem_of_at hx.out)
      have ht := Lib.hid (mostL_snoc hx.out)
      have ht1 := mostL_bd (cs := xs.take k) (M := 1188) (by omega) (fun x hx => (hb.out x (mem_take hx)).2)
      generalize mostL (xs.take k) = T at *
      by_cases hxt : T < x
      · go_wp2
        go_round
        case rel => exact ⟨k + 1, by omega, by go_num, by rw [ht.out]; exact val_int (by omega)⟩
        case measure => simp [intOf]; omega
      · go_wp2
        go_round
        case rel => exact ⟨k + 1, by omega, by go_num, by rw [ht.out]; exact val_int (by omega)⟩
        case measure => simp [intOf]; omega
    · obtain rfl : k = xs.length := by omega
      clear hlt
      rw [List.take_length]
      go_wp2
      go_ret
      exact ⟨ret_int rfl, rfl⟩
set_option maxRecDepth 100000 in
set_option maxHeartbeats 1600000 in
theorem lawSameRounds_any (A A' : Option Addr) (rs : List (List Int × Int)) (c c' : Nat) (w : World) (h : RoundsI w A rs) (h' : RoundsI w A' rs) (hl : rs.length ≤ 1048576) :
    Calls Try.prog 30 #[.slice A rs.length c, .slice A' rs.length c'] w (Qt w (.bool true)) := by
  go_enter Try.func30, Try.ntmps30
  go_wp2
  go_loopw [5] (fun i wr => ∃ k m : Nat, k ≤ rs.length ∧ i = .int .i64 k ∧ wr = w.drewN m) (fun i _ => rs.length - (intOf i).toNat)
  case atStart => exact ⟨0, 0, by omega, rfl, rfl⟩
  case round =>
    obtain ⟨k, m, hk, rfl, rfl⟩ := hrel
    by_cases hlt : k < rs.length
    · obtain ⟨ad, B, d, xs, o, rfl, hr, hx5, hxd, hx, hc0, hc1⟩ := h.at_ hlt
      obtain ⟨ad', B', d', xs', o', rfl, hr', hx5', hxd', hx', hc0', hc1'⟩ := h'.at_ hlt
      have he := hr'.out
      rw [hr.out] at he
      injection he with he
      injection he with he1 he2
      subst he1
      subst he2
      have cS := Lib.hid (fun m => lawSame_any B B' xs xs d d' (w.drewN m) (hx.drewN m) (hx'.drewN m) (by omega) (by omega))
      rw [show (xs == xs) = true by simp] at cS
      have hoo : (o != o) = false := by simp
      go_wp2
      go_quiet ((go_at_call 14; exact Qt.quiet_add (cS.out _)))
      go_wp2
      go_roundw
      case rel => exact ⟨k + 1, _, by omega, by go_num, rfl⟩
      case measure => simp [intOf]; omega
    · obtain rfl : k = rs.length := by omega
      clear hlt
      go_wp2
      go_ret
      exact ⟨rfl, _, rfl⟩
end Go.Proofs.Ythngafmnkihkgaa
