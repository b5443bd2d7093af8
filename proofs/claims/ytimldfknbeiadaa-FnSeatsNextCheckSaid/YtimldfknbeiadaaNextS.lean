/-
  The next seat of the reference, with the checks of its arguments.
-/
import Derived.Test.YtimldfknbeiadaaNext
namespace Go.Proofs.Ytimldfknbeiadaa
open Go.RowKit
set_option maxHeartbeats 1600000 in
theorem specNext_any (A A' A2 : Option Addr) (xs gs ls : List Int) (c c' c2 : Nat) (m : Int) (w : World) (h : Ints w A xs) (h' : Ints w A' gs) (h2 : Ints w A2 ls) (hl1 : xs.length ≤ 1048576) (hl2 : gs.length ≤ 1048576) (hl3 : ls.length ≤ 1048576) (hcap : ls.length ≤ c2) :
    Calls Try.prog 27 #[.slice A xs.length c, .slice A' gs.length c', .int .i64 m, .slice A2 ls.length c2] w (Qt w (.int .i64 (nextF xs gs m ls))) := by
  cases hv : vv xs
  · have hq := Lib.hid (show nextF xs gs m ls = -1 from by simp [nextF, hv])
    go_enter Try.func27, Try.ntmps27
    go_wp2_with (go_at_call 43; refine (l21Votes_any _ _ _ _ h hl1).mono ?_; rintro e w' ⟨rfl, rfl⟩)
    go_ret
    exact ⟨ret_int hq.out.symm, 0, rfl⟩
  cases hg : gv gs xs.length
  · have hq := Lib.hid (show nextF xs gs m ls = -1 from by simp [nextF, hg])
    go_enter Try.func27, Try.ntmps27
    go_wp2_with (first | (go_at_call 43; refine (l21Votes_any _ _ _ _ h hl1).mono ?_; rintro e w' ⟨rfl, rfl⟩) | (go_at_call 60; refine (l21Given_any _ _ _ _ _ h' hl2).mono ?_; rintro e w' ⟨rfl, rfl⟩))
    go_ret
    exact ⟨ret_int hq.out.symm, 0, rfl⟩
  cases hmv : mv m
  · have hq := Lib.hid (show nextF xs gs m ls = -1 from by simp [nextF, hmv])
    go_enter Try.func27, Try.ntmps27
    go_wp2_with (first | (go_at_call 43; refine (l21Votes_any _ _ _ _ h hl1).mono ?_; rintro e w' ⟨rfl, rfl⟩) | (go_at_call 60; refine (l21Given_any _ _ _ _ _ h' hl2).mono ?_; rintro e w' ⟨rfl, rfl⟩) | (go_at_call 45; refine (l21Method_any _ _).mono ?_; rintro e w' ⟨rfl, rfl⟩))
    go_ret
    exact ⟨ret_int hq.out.symm, 0, rfl⟩
  cases hlv : lv ls
  · have hq := Lib.hid (show nextF xs gs m ls = -1 from by simp [nextF, hlv])
    go_enter Try.func27, Try.ntmps27
    go_wp2_with (first | (go_at_call 43; refine (l21Votes_any _ _ _ _ h hl1).mono ?_; rintro e w' ⟨rfl, rfl⟩) | (go_at_call 60; refine (l21Given_any _ _ _ _ _ h' hl2).mono ?_; rintro e w' ⟨rfl, rfl⟩) | (go_at_call 45; refine (l21Method_any _ _).mono ?_; rintro e w' ⟨rfl, rfl⟩) | (go_at_call 46; refine (specLotsValid_any _ _ _ _ h2 hl3 hcap).mono ?_; rintro e w' ⟨rfl, m1, rfl⟩))
    go_ret
    exact ⟨ret_int hq.out.symm, _, rfl⟩
  by_cases hll : ls.length = xs.length
  · have o := Lib.hid (nextOk_of hv hg hmv hlv hll)
    have hq := Lib.hid (show nextF xs gs m ls = nextP xs gs m ls from by simp [nextF, hv, hg, hmv, hlv, hll])
    have hge : ((ls.length : Int) != (xs.length : Int)) = false := by simp [hll]
    clear hll
    go_enter Try.func27, Try.ntmps27
    go_wp2_with (first | (go_at_call 43; refine (l21Votes_any _ _ _ _ h hl1).mono ?_; rintro e w' ⟨rfl, rfl⟩) | (go_at_call 60; refine (l21Given_any _ _ _ _ _ h' hl2).mono ?_; rintro e w' ⟨rfl, rfl⟩) | (go_at_call 45; refine (l21Method_any _ _).mono ?_; rintro e w' ⟨rfl, rfl⟩) | (go_at_call 46; refine (specLotsValid_any _ _ _ _ h2 hl3 hcap).mono ?_; rintro e w' ⟨rfl, m1, rfl⟩) | (go_at_call 47; refine (l21Next_any _ _ _ _ _ _ _ _ _ _ _ _ _ _ (h.drewN m1) (h'.drewN m1) (h2.drewN m1) o rfl rfl rfl).mono ?_; rintro e w' ⟨rfl, m2, rfl⟩))
    go_ret
    exact ⟨ret_int hq.out.symm, _, rfl⟩
  · have hq := Lib.hid (show nextF xs gs m ls = -1 from by
      have : ((ls.length : Int) == (xs.length : Int)) = false := by simp; omega
      simp only [nextF, this]; simp)
    have hne : ((ls.length : Int) != (xs.length : Int)) = true := by simp; omega
    clear hll
    go_enter Try.func27, Try.ntmps27
    go_wp2_with (first | (go_at_call 43; refine (l21Votes_any _ _ _ _ h hl1).mono ?_; rintro e w' ⟨rfl, rfl⟩) | (go_at_call 60; refine (l21Given_any _ _ _ _ _ h' hl2).mono ?_; rintro e w' ⟨rfl, rfl⟩) | (go_at_call 45; refine (l21Method_any _ _).mono ?_; rintro e w' ⟨rfl, rfl⟩) | (go_at_call 46; refine (specLotsValid_any _ _ _ _ h2 hl3 hcap).mono ?_; rintro e w' ⟨rfl, m1, rfl⟩))
    go_ret
    exact ⟨ret_int hq.out.symm, _, rfl⟩
end Go.Proofs.Ytimldfknbeiadaa
