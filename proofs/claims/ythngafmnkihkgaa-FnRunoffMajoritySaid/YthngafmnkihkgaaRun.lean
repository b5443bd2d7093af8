/-
  When a round of a runoff is the last one, and who leaves: both sides.
-/
import Derived.Test.YthngafmnkihkgaaRunP
import Derived.Test.YthngafmnkihkgaaBoolM
namespace Go.Proofs.Ythngafmnkihkgaa
open Go.RowKit
theorem atB_at {left : List Bool} {q : Nat} {b : Bool} (h : left[q]? = some b) : atB left (q : Int) = b := by
  unfold atB
  rw [Int.toNat_natCast, List.getD_eq_getElem?_getD, h]; rfl
set_option maxHeartbeats 1600000 in
theorem runoffDone_any (A A' : Option Addr) (cs : List Int) (left : List Bool) (c c' : Nat) (w : World) (h : Ints w A cs) (h' : Bools w A' left) (hlen : Hid (left.length = cs.length)) (hn1 : 1 ≤ cs.length) (hn5 : cs.length ≤ 5) (hb : Hid (∀ x ∈ cs, 0 ≤ x ∧ x ≤ 1188)) :
    Calls Try.prog 58 #[.slice A cs.length c, .slice A' left.length c'] w (Ret w (.bool (doneF cs left))) := by
  have hD := Lib.hid (show doneF cs left = ((thereL left == 1) || decide (cs.sum < 2 * mostL cs)) from rfl)
  go_enter Try.func58, Try.ntmps58
  go_wp2
  go_loop [5, 6, 7, 8, 11] (fun s t _ _ i => ∃ k : Nat, k ≤ cs.length ∧ i = .int .i64 k ∧ s = .int .i64 (cs.take k).sum ∧ t = .int .i64 (thereL (left.take k))) (fun _ _ _ _ i => cs.length - (intOf i).toNat)
  case atStart => exact ⟨0, by omega, rfl, rfl, rfl⟩
  case round =>
    obtain ⟨k, hk, rfl, rfl, rfl⟩ := hrel
    have hs1 := sum_bd (cs.take k) 1188 (fun x hx => by have := hb.out x (mem_take hx); omega)
    have hlk : (cs.take k).length ≤ k := List.length_take_le _ _
    have ht1 := thereL_bd (left.take k)
    have htk : (left.take k).length ≤ k := List.length_take_le _ _
    by_cases hlt : k < cs.length
    · obtain ⟨ad, x, rfl, hx, hc⟩ := h.at_ hlt
      have hlt2 : k < left.length := by have := hlen.out; omega
      obtain ⟨ad2, b, rfl, hy, hc2⟩ := h'.at_ hlt2
      obtain ⟨hx0, hx1⟩ := hb.out x (mem_of_at hx.out)
      have hn := Lib.hid (sum_snoc _ _ _ hx.out)
      have ht := Lib.hid (thereL_snoc hy.out)
      generalize (cs.take k).sum = S at *
      generalize thereL (left.take k) = T at *
      cases b
      · go_wp2
        go_round
        case rel => exact ⟨k + 1, by omega, by go_num, by rw [hn.out], by rw [ht.out]; rfl⟩
        case measure => simp [intOf]; omega
      · go_wp2
        go_round
        case rel => exact ⟨k + 1, by omega, by go_num, by rw [hn.out], by rw [ht.out]; exact val_int (by simp)⟩
        case measure => simp [intOf]; omega
    · obtain rfl : k = cs.length := by omega
      clear hlt hlk htk
      have e1 : cs.take cs.length = cs := List.take_length
      have e2 : left.take cs.length = left := by rw [← hlen.out, List.take_length]
      rw [e1, e2] at *
      clear e1 e2
      have hM := mostL_bd (M := 1188) (by omega) (fun x hx => (hb.out x hx).2)
      have cM := Lib.hid (sMax_any A cs c w h (by omega) (by omega))
      rw [maxL_most (by omega) (fun x hx => (hb.out x hx).1)] at cM
      generalize cs.sum = S at *
      generalize thereL left = T at *
      generalize mostL cs = M at *
      obtain ⟨hM0, hM1⟩ := hM
      cases hT : (T == 1)
      · rw [hT] at hD
        go_wp2_with (go_at_call 80; refine cM.out.mono ?_; rintro e w' ⟨rfl, rfl⟩)
        go_ret
        exact ⟨ret_bool (by rw [hD.out]; rfl), rfl⟩
      · rw [hT] at hD
        go_wp2
        go_ret
        exact ⟨ret_bool (by rw [hD.out]; rfl), rfl⟩
set_option maxHeartbeats 800000 in
theorem l12Many_any (A : Option Addr) (left : List Bool) (c : Nat) (w : World) (h : Bools w A left) (hn5 : left.length ≤ 5) :
    Calls Try.prog 90 #[.slice A left.length c] w (Ret w (.int .i64 (thereL left))) := by
  go_enter Try.func90, Try.ntmps90
  go_wp2
  go_loop [3, 4] (fun t i => ∃ k : Nat, k ≤ left.length ∧ i = .int .i64 k ∧ t = .int .i64 (thereL (left.take k))) (fun _ i => left.length - (intOf i).toNat)
  case atStart => exact ⟨0, by omega, rfl, rfl⟩
  case round =>
    obtain ⟨k, hk, rfl, rfl⟩ := hrel
    have ht1 := thereL_bd (left.take k)
    have htk : (left.take k).length ≤ k := List.length_take_le _ _
    by_cases hlt : k < left.length
    · obtain ⟨ad2, b, rfl, hy, hc2⟩ := h.at_ hlt
      have ht := Lib.hid (thereL_snoc hy.out)
      generalize thereL (left.take k) = T at *
      cases b
      · go_wp2
        go_round
        case rel => exact ⟨k + 1, by omega, by go_num, by rw [ht.out]; rfl⟩
        case measure => simp [intOf]; omega
      · go_wp2
        go_round
        case rel => exact ⟨k + 1, by omega, by go_num, by rw [ht.out]; exact val_int (by simp)⟩
        case measure => simp [intOf]; omega
    · obtain rfl : k = left.length := by omega
      clear hlt
      go_wp2
      go_ret
      exact ⟨ret_int rfl, rfl⟩
set_option maxHeartbeats 1600000 in
theorem l12Done_any (A A' : Option Addr) (cs : List Int) (left : List Bool) (c c' : Nat) (w : World) (h : Ints w A cs) (h' : Bools w A' left) (hlen : Hid (left.length = cs.length)) (hn5 : cs.length ≤ 5) (hb : Hid (∀ x ∈ cs, 0 ≤ x ∧ x ≤ 1188)) :
    Calls Try.prog 82 #[.slice A cs.length c, .slice A' left.length c'] w (Ret w (.bool (doneF cs left))) := by
  have hD := Lib.hid (show doneF cs left = ((thereL left == 1) || decide (cs.sum < 2 * mostL cs)) from rfl)
  have cM := Lib.hid (l12Many_any A' left c' w h' (by have := hlen.out; omega))
  go_enter Try.func82, Try.ntmps82
  go_wp2
  go_loop [5, 6, 7] (fun s t i => ∃ k : Nat, k ≤ cs.length ∧ i = .int .i64 k ∧ s = .int .i64 (cs.take k).sum ∧ t = .int .i64 (mostL (cs.take k))) (fun _ _ i => cs.length - (intOf i).toNat)
  case atStart => exact ⟨0, by omega, rfl, rfl, rfl⟩
  case round =>
    obtain ⟨k, hk, rfl, rfl, rfl⟩ := hrel
    have hs1 := sum_bd (cs.take k) 1188 (fun x hx => by have := hb.out x (mem_take hx); omega)
    have hlk : (cs.take k).length ≤ k := List.length_take_le _ _
    have ht1 := mostL_bd (cs := cs.take k) (M := 1188) (by omega) (fun x hx => (hb.out x (mem_take hx)).2)
    by_cases hlt : k < cs.length
    · obtain ⟨ad, x, rfl, hx, hc⟩ := h.at_ hlt
      obtain ⟨hx0, hx1⟩ := hb.out x (mem_of_at hx.out)
      have hn := Lib.hid (sum_snoc _ _ _ hx.out)
      have ht := Lib.hid (mostL_snoc hx.out)
      generalize (cs.take k).sum = S at *
      generalize mostL (cs.take k) = T at *
      by_cases hxt : T < x
      · go_wp2
        go_round
        case rel => exact ⟨k + 1, by omega, by go_num, by rw [hn.out], by rw [ht.out]; exact val_int (by omega)⟩
        case measure => simp [intOf]; omega
      · go_wp2
        go_round
        case rel => exact ⟨k + 1, by omega, by go_num, by rw [hn.out], by rw [ht.out]; exact val_int (by omega)⟩
        case measure => simp [intOf]; omega
    · obtain rfl : k = cs.length := by omega
      clear hlt hlk hs1 ht1
      have hs1 := sum_bd cs 1188 (fun x hx => by have := hb.out x hx; omega)
      have ht1 := mostL_bd (cs := cs) (M := 1188) (by omega) (fun x hx => (hb.out x hx).2)
      rw [List.take_length]
      generalize cs.sum = S at *
      generalize thereL left = T at *
      generalize mostL cs = M at *
      obtain ⟨hM0, hM1⟩ := ht1
      by_cases hd : S < 2 * M
      · go_wp2
        go_ret
        exact ⟨ret_bool (by rw [hD.out]; simp [hd]), rfl⟩
      · have hd2 : decide (S < 2 * M) = false := by simpa using hd
        go_wp2_with (go_at_call 90; refine cM.out.mono ?_; rintro e w' ⟨rfl, rfl⟩)
        go_ret
        exact ⟨ret_bool (by rw [hD.out, hd2]; simp), rfl⟩
end Go.Proofs.Ythngafmnkihkgaa
