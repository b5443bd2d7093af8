/-
  Gaps and squares of the program and of the reference.
-/
import Derived.Test.YtimldfknbeiadaaDiff
namespace Go.Proofs.Ytimldfknbeiadaa
open Go.RowKit
set_option maxHeartbeats 400000 in
theorem specGap_any (A A' : Option Addr) (xs gs : List Int) (c c' : Nat) (w : World) (h : Ints w A xs) (h' : Ints w A' gs) (hl : xs.length ≤ 1048576) (hl' : gs.length ≤ 1048576) :
    Calls Try.prog 31 #[.slice A xs.length c, .slice A' gs.length c'] w (Bl w (.int .i64 (gapF xs gs))) := by
  cases hv : vv xs
  · have hq := Lib.hid (show gapF xs gs = -1 from by simp [gapF, hv])
    go_enter Try.func31, Try.ntmps31
    go_wp2_with (go_at_call 43; refine (l21Votes_any _ _ _ _ h hl).mono ?_; rintro e w' ⟨rfl, rfl⟩)
    go_ret
    exact ⟨ret_int hq.out.symm, Below.refl _ _⟩
  cases hg : gv gs xs.length
  · have hq := Lib.hid (show gapF xs gs = -1 from by simp [gapF, hg])
    go_enter Try.func31, Try.ntmps31
    go_wp2_with (first | (go_at_call 43; refine (l21Votes_any _ _ _ _ h hl).mono ?_; rintro e w' ⟨rfl, rfl⟩) | (go_at_call 60; refine (l21Given_any _ _ _ _ _ h' hl').mono ?_; rintro e w' ⟨rfl, rfl⟩))
    go_ret
    exact ⟨ret_int hq.out.symm, Below.refl _ _⟩
  have hq := Lib.hid (show gapF xs gs = gapL (diffs xs gs) from by simp [gapF, hv, hg])
  have HB := Lib.hid (diffs_bd hv hg)
  have hdl : (diffs xs gs).length ≤ 5 := by have := valid_facts hv hg; rw [diffs_length this.1]; omega
  go_enter Try.func31, Try.ntmps31
  go_wp2_with (first | (go_at_call 43; refine (l21Votes_any _ _ _ _ h hl).mono ?_; rintro e w' ⟨rfl, rfl⟩) | (go_at_call 60; refine (l21Given_any _ _ _ _ _ h' hl').mono ?_; rintro e w' ⟨rfl, rfl⟩) | (go_at_call 62; refine (l23Diffs_any _ _ _ _ _ _ _ h h' hv hg).mono ?_; rintro e w1 ⟨A1, c1, rfl, hown, hbel⟩))
  have hi := hown.ints
  generalize diffs xs gs = ds at hi hdl HB hq hown
  go_loopw [6, 7] (fun n i wr => ∃ k m : Nat, k ≤ ds.length ∧ i = .int .i64 k ∧ n = .int .i64 (gapL (ds.take k)) ∧ wr = w1.drewN m) (fun _ i _ => ds.length - (intOf i).toNat)
  case atStart => exact ⟨0, 0, by omega, rfl, rfl, rfl⟩
  case round =>
    obtain ⟨k, m, hk, rfl, rfl, rfl⟩ := hrel
    have hbd := gapL_bd (ds.take k) 10000 (fun x hx => HB.out x (mem_take hx))
    have hlk : (ds.take k).length ≤ k := List.length_take_le _ _
    by_cases hlt : k < ds.length
    · obtain ⟨ad, x, rfl, hx, hc⟩ := hi.at_ hlt
      obtain ⟨hx0, hx1⟩ := HB.out x (mem_of_at hx.out)
      by_cases hs : 0 ≤ x
      all_goals
        have q1 : IntKind.i64.wrap (0 - x) = 0 - x := IntWalk.i64_in _ (by omega)
        have q3 : IntKind.i64.wrap (-x) = -x := IntWalk.i64_in _ (by omega)
        have q2 : IntKind.i64.wrap (gapL (ds.take k) + x) = gapL (ds.take k) + x := IntWalk.i64_in _ (by omega)
        have q4 : IntKind.i64.wrap (gapL (ds.take k) + -x) = gapL (ds.take k) + -x := IntWalk.i64_in _ (by omega)
        go_wp2
        go_quiet (fail)
        clear q1 q2 q3 q4
        go_wp2
        go_roundw
        case rel => exact ⟨k + 1, _, by omega, by go_num, by rw [gapL_snoc _ _ _ hx.out]; exact val_int (by omega), rfl⟩
        case measure => simp [intOf]; omega
    · have h2 : ds.length ≤ k := by omega
      clear hlt
      go_wp2
      go_ret
      exact ⟨ret_int (by rw [hq.out, List.take_of_length_le (by omega)]), below_drewN (by assumption) _⟩
set_option maxHeartbeats 400000 in
theorem specSquares_any (A A' : Option Addr) (xs gs : List Int) (c c' : Nat) (w : World) (h : Ints w A xs) (h' : Ints w A' gs) (hl : xs.length ≤ 1048576) (hl' : gs.length ≤ 1048576) :
    Calls Try.prog 37 #[.slice A xs.length c, .slice A' gs.length c'] w (Bl w (.int .i64 (sqF xs gs))) := by
  cases hv : vv xs
  · have hq := Lib.hid (show sqF xs gs = -1 from by simp [sqF, hv])
    go_enter Try.func37, Try.ntmps37
    go_wp2_with (go_at_call 43; refine (l21Votes_any _ _ _ _ h hl).mono ?_; rintro e w' ⟨rfl, rfl⟩)
    go_ret
    exact ⟨ret_int hq.out.symm, Below.refl _ _⟩
  cases hg : gv gs xs.length
  · have hq := Lib.hid (show sqF xs gs = -1 from by simp [sqF, hg])
    go_enter Try.func37, Try.ntmps37
    go_wp2_with (first | (go_at_call 43; refine (l21Votes_any _ _ _ _ h hl).mono ?_; rintro e w' ⟨rfl, rfl⟩) | (go_at_call 60; refine (l21Given_any _ _ _ _ _ h' hl').mono ?_; rintro e w' ⟨rfl, rfl⟩))
    go_ret
    exact ⟨ret_int hq.out.symm, Below.refl _ _⟩
  have hq := Lib.hid (show sqF xs gs = sqL (diffs xs gs) from by simp [sqF, hv, hg])
  have HB := Lib.hid (diffs_bd hv hg)
  have hdl : (diffs xs gs).length ≤ 5 := by have := valid_facts hv hg; rw [diffs_length this.1]; omega
  go_enter Try.func37, Try.ntmps37
  go_wp2_with (first | (go_at_call 43; refine (l21Votes_any _ _ _ _ h hl).mono ?_; rintro e w' ⟨rfl, rfl⟩) | (go_at_call 60; refine (l21Given_any _ _ _ _ _ h' hl').mono ?_; rintro e w' ⟨rfl, rfl⟩) | (go_at_call 62; refine (l23Diffs_any _ _ _ _ _ _ _ h h' hv hg).mono ?_; rintro e w1 ⟨A1, c1, rfl, hown, hbel⟩))
  have hi := hown.ints
  generalize diffs xs gs = ds at hi hdl HB hq hown
  go_loopw [6, 7] (fun n i wr => ∃ k m : Nat, k ≤ ds.length ∧ i = .int .i64 k ∧ n = .int .i64 (sqL (ds.take k)) ∧ wr = w1.drewN m) (fun _ i _ => ds.length - (intOf i).toNat)
  case atStart => exact ⟨0, 0, by omega, rfl, rfl, rfl⟩
  case round =>
    obtain ⟨k, m, hk, rfl, rfl, rfl⟩ := hrel
    have hbd := sqL_bd (ds.take k) 10000 (fun x hx => HB.out x (mem_take hx))
    have hlk : (ds.take k).length ≤ k := List.length_take_le _ _
    by_cases hlt : k < ds.length
    · obtain ⟨ad, x, rfl, hx, hc⟩ := hi.at_ hlt
      obtain ⟨hx0, hx1⟩ := HB.out x (mem_of_at hx.out)
      obtain ⟨hm0, hm1⟩ := sq_bd (M := 10000) ⟨hx0, hx1⟩
      have q1 : IntKind.i64.wrap (x * x) = x * x := IntWalk.i64_in _ (by omega)
      have q2 : IntKind.i64.wrap (sqL (ds.take k) + x * x) = sqL (ds.take k) + x * x := IntWalk.i64_in _ (by omega)
      go_wp2
      go_quiet (fail)
      clear q1 q2
      go_wp2
      go_roundw
      case rel => exact ⟨k + 1, _, by omega, by go_num, by rw [sqL_snoc _ _ _ hx.out], rfl⟩
      case measure => simp [intOf]; omega
    · have h2 : ds.length ≤ k := by omega
      clear hlt
      go_wp2
      go_ret
      exact ⟨ret_int (by rw [hq.out, List.take_of_length_le (by omega)]), below_drewN (by assumption) _⟩
set_option maxHeartbeats 400000 in
theorem implSquares_any (A A' : Option Addr) (xs gs : List Int) (c c' : Nat) (w : World) (h : Ints w A xs) (h' : Ints w A' gs) (hl : xs.length ≤ 1048576) (hl' : gs.length ≤ 1048576) :
    Calls Try.prog 36 #[.slice A xs.length c, .slice A' gs.length c'] w (Bl w (.int .i64 (sqF xs gs))) := by
  cases hall : vv xs && gv gs xs.length
  · have hq := Lib.hid (show sqF xs gs = -1 from by simp [sqF, hall])
    go_enter Try.func36, Try.ntmps36
    go_wp2_with (go_at_call 56; refine (seatsValid_any _ _ _ _ _ _ _ h h' hl hl').mono ?_; rintro e w' ⟨rfl, rfl⟩)
    go_ret
    exact ⟨ret_int hq.out.symm, Below.refl _ _⟩
  · have hq := Lib.hid (show sqF xs gs = sqL (diffs xs gs) from by simp [sqF, hall])
    have hh : vv xs = true ∧ gv gs xs.length = true := by simpa using hall
    obtain ⟨hv, hg⟩ := hh
    have HB := Lib.hid (diffs_bd hv hg)
    have hdl : (diffs xs gs).length ≤ 5 := by have := valid_facts hv hg; rw [diffs_length this.1]; omega
    go_enter Try.func36, Try.ntmps36
    go_wp2_with (first | (go_at_call 56; refine (seatsValid_any _ _ _ _ _ _ _ h h' hl hl').mono ?_; rintro e w' ⟨rfl, rfl⟩) | (go_at_call 61; refine (differences_any _ _ _ _ _ _ _ h h' hv hg).mono ?_; rintro e w1 ⟨A1, c1, rfl, hown, hbel⟩))
    have hi := hown.ints
    generalize diffs xs gs = ds at hi hdl HB hq hown
    go_loop [5, 16] (fun n i => ∃ k : Nat, k ≤ ds.length ∧ i = .int .i64 k ∧ n = .int .i64 (sqL (ds.take k))) (fun _ i => ds.length - (intOf i).toNat)
    case atStart => exact ⟨0, by omega, rfl, rfl⟩
    case round =>
      obtain ⟨k, hk, rfl, rfl⟩ := hrel
      have hbd := sqL_bd (ds.take k) 10000 (fun x hx => HB.out x (mem_take hx))
      have hlk : (ds.take k).length ≤ k := List.length_take_le _ _
      by_cases hlt : k < ds.length
      · obtain ⟨ad, x, rfl, hx, hc⟩ := hi.at_ hlt
        obtain ⟨hx0, hx1⟩ := HB.out x (mem_of_at hx.out)
        obtain ⟨hm0, hm1⟩ := sq_bd (M := 10000) ⟨hx0, hx1⟩
        go_wp2
        go_round
        case rel => exact ⟨k + 1, by omega, by go_num, by rw [sqL_snoc _ _ _ hx.out]⟩
        case measure => simp [intOf]; omega
      · have h2 : ds.length ≤ k := by omega
        clear hlt
        go_wp2
        go_ret
        exact ⟨ret_int (by rw [hq.out, List.take_of_length_le (by omega)]), by assumption⟩
end Go.Proofs.Ytimldfknbeiadaa
