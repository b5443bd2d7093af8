/-
  Fair seats and checked seats of the program and of the reference.
-/
import Derived.Test.YtimldfknbeiadaaSeats
import Derived.Test.YtimldfknbeiadaaFrame
namespace Go.Proofs.Ytimldfknbeiadaa
open Go.RowKit
theorem all_range_t {n : Nat} {f : Nat → Bool} (h : ∀ j, j < n → f j = true) : (List.range n).all f = true := by simpa using h
theorem all_range_f {n : Nat} {f : Nat → Bool} {j : Nat} (hj : j < n) (h : f j = false) : (List.range n).all f = false := by
  cases hh : (List.range n).all f with
  | false => rfl
  | true => simp at hh; exact absurd (hh j hj) (by simp [h])
theorem all_range_iff {n : Nat} {f : Nat → Bool} : (List.range n).all f = true ↔ ∀ j, j < n → f j = true := by simp
/-- What valid votes and seats give. -/
theorem valid_facts' {xs gs : List Int} (hv : vv xs = true) (hg : gv gs xs.length = true) :
    gs.length = xs.length ∧ (1 ≤ xs.length ∧ xs.length ≤ 5) ∧ (1 ≤ xs.sum ∧ xs.sum ≤ 495) ∧ (0 ≤ gs.sum ∧ gs.sum ≤ 20) ∧ (∀ x ∈ xs, 0 ≤ x ∧ x ≤ 99) ∧ (∀ x ∈ gs, 0 ≤ x ∧ x ≤ 20) := by
  obtain ⟨a1, a2, a3⟩ := vv_iff.1 hv
  obtain ⟨b1, b2, b3⟩ := gv_iff.1 hg
  have := sum_bd xs 99 (fun x hx => by have := a1 x hx; omega)
  have := sum_nonneg gs (fun x hx => (b1 x hx).1)
  exact ⟨by omega, a2, by omega, by omega, a1, b1⟩
theorem wide' {xs : List Int} {M : Int} (h : ∀ x ∈ xs, 0 ≤ x ∧ x ≤ M) (hM : M ≤ 1000000000) : ∀ x ∈ xs, -1000000000 ≤ x ∧ x ≤ 1000000000 := fun x hx => by have := h x hx; omega
/-- The seats of party j are its share, rounded down or up. -/
def fairAt (xs gs : List Int) (j : Nat) : Bool := inB (gs.getD j 0) (quotaF xs gs.sum j).1 (quotaF xs gs.sum j).2
def fairF (xs gs : List Int) : Bool := vv xs && gv gs xs.length && (List.range xs.length).all (fairAt xs gs)
theorem fairF_t {xs gs : List Int} (hv : vv xs = true) (hg : gv gs xs.length = true) : fairF xs gs = (List.range xs.length).all (fairAt xs gs) := by simp [fairF, hv, hg]
set_option maxHeartbeats 400000 in
theorem implFair_any (A A' : Option Addr) (xs gs : List Int) (c c' : Nat) (w : World) (h : Ints w A xs) (h' : Ints w A' gs) (hl : xs.length ≤ 1048576) (hl' : gs.length ≤ 1048576) :
    Calls Try.prog 28 #[.slice A xs.length c, .slice A' gs.length c'] w (Qt w (.bool (fairF xs gs))) := by
  cases hall : vv xs && gv gs xs.length
  · have hq := Lib.hid (show fairF xs gs = false from by simp [fairF, hall])
    go_enter Try.func28, Try.ntmps28
    go_wp2_with (go_at_call 56; refine (seatsValid_any _ _ _ _ _ _ _ h h' hl hl').mono ?_; rintro e w' ⟨rfl, rfl⟩)
    go_ret
    exact ⟨ret_bool hq.out.symm, 0, rfl⟩
  · have hh : vv xs = true ∧ gv gs xs.length = true := by simpa using hall
    obtain ⟨hv, hg⟩ := hh
    have hq := Lib.hid (fairF_t hv hg)
    obtain ⟨hlen, ⟨hl1, hl5⟩, ⟨hs0, hs1⟩, ⟨hg0, hg1⟩, hxb, hgb⟩ := valid_facts' hv hg
    have HL := Lib.hid hlen
    have HG := Lib.hid (wide' hgb (by omega))
    clear hxb hgb hlen
    go_enter Try.func28, Try.ntmps28
    go_wp2_with (go_at_call 56; refine (seatsValid_any _ _ _ _ _ _ _ h h' hl hl').mono ?_; rintro e w' ⟨rfl, rfl⟩)
    go_loopw [15] (fun i wr => ∃ k m : Nat, k ≤ gs.length ∧ i = .int .i64 k ∧ Hid (∀ j, j < k → fairAt xs gs j = true) ∧ wr = w.drewN m) (fun i _ => gs.length - (intOf i).toNat)
    case atStart => exact ⟨0, 0, by omega, rfl, fun j hj => by omega, rfl⟩
    case round =>
      obtain ⟨k, m, hk, rfl, hf, rfl⟩ := hrel
      by_cases hlt : k < gs.length
      · obtain ⟨ad, g, rfl, hgx, hc⟩ := h'.at_ hlt
        have hat := Lib.hid (show fairAt xs gs k = inB g (quotaF xs gs.sum k).1 (quotaF xs gs.sum k).2 from by simp [fairAt, hgx.out])
        have cS := Lib.hid (implSum_any _ _ c' _ (h'.drewN m) hl' HG.out)
        have cQ := Lib.hid (implQuota_any _ _ c gs.sum k _ (h.drewN m) hl)
        generalize quotaF xs gs.sum k = r at hat cQ
        obtain ⟨lo, hi⟩ := r
        by_cases h0 : lo ≤ g
        · by_cases h1 : g ≤ hi
          · go_wp2_with (first | (go_at_call 50; refine cS.out.mono ?_; rintro e w' ⟨rfl, rfl⟩) | (go_at_call 34; refine cQ.out.mono ?_; rintro e w' ⟨rfl, n2, rfl⟩))
            go_roundw
            case rel => exact ⟨k + 1, _, by omega, by go_num, fun j hj => by
              rcases Nat.lt_succ_iff_lt_or_eq.1 hj with hj | rfl
              · exact hf.out j hj
              · rw [hat.out]; exact inB_t ⟨h0, h1⟩, rfl⟩
            case measure => simp [intOf]; omega
          · go_wp2_with (first | (go_at_call 50; refine cS.out.mono ?_; rintro e w' ⟨rfl, rfl⟩) | (go_at_call 34; refine cQ.out.mono ?_; rintro e w' ⟨rfl, n2, rfl⟩))
            go_ret
            exact ⟨ret_bool (by rw [hq.out, all_range_f (by have := HL.out; omega) (hat.out.trans (inB_f (by omega)))]), _, rfl⟩
        · go_wp2_with (first | (go_at_call 50; refine cS.out.mono ?_; rintro e w' ⟨rfl, rfl⟩) | (go_at_call 34; refine cQ.out.mono ?_; rintro e w' ⟨rfl, n2, rfl⟩))
          go_ret
          exact ⟨ret_bool (by rw [hq.out, all_range_f (by have := HL.out; omega) (hat.out.trans (inB_f (by omega)))]), _, rfl⟩
      · obtain rfl : k = gs.length := by omega
        clear hlt
        go_wp2
        go_ret
        exact ⟨ret_bool (by rw [hq.out, all_range_t (fun j hj => hf.out j (by have := HL.out; omega))]), _, rfl⟩
set_option maxHeartbeats 400000 in
theorem specFair_any (A A' : Option Addr) (xs gs : List Int) (c c' : Nat) (w : World) (h : Ints w A xs) (h' : Ints w A' gs) (hl : xs.length ≤ 1048576) (hl' : gs.length ≤ 1048576) :
    Calls Try.prog 33 #[.slice A xs.length c, .slice A' gs.length c'] w (Qt w (.bool (fairF xs gs))) := by
  cases hv : vv xs
  · have hq := Lib.hid (show fairF xs gs = false from by simp [fairF, hv])
    go_enter Try.func33, Try.ntmps33
    go_wp2_with (go_at_call 43; refine (l21Votes_any _ _ _ _ h hl).mono ?_; rintro e w' ⟨rfl, rfl⟩)
    go_ret
    exact ⟨ret_bool hq.out.symm, 0, rfl⟩
  cases hg : gv gs xs.length
  · have hq := Lib.hid (show fairF xs gs = false from by simp [fairF, hg])
    go_enter Try.func33, Try.ntmps33
    go_wp2_with (first | (go_at_call 43; refine (l21Votes_any _ _ _ _ h hl).mono ?_; rintro e w' ⟨rfl, rfl⟩) | (go_at_call 60; refine (l21Given_any _ _ _ _ _ h' hl').mono ?_; rintro e w' ⟨rfl, rfl⟩))
    go_ret
    exact ⟨ret_bool hq.out.symm, 0, rfl⟩
  have hq := Lib.hid (fairF_t hv hg)
  obtain ⟨hlen, ⟨hl1, hl5⟩, ⟨hs0, hs1⟩, ⟨hg0, hg1⟩, hxb, hgb⟩ := valid_facts' hv hg
  have HL := Lib.hid hlen
  have HG := Lib.hid (wide' hgb (by omega))
  clear hxb hgb hlen
  go_enter Try.func33, Try.ntmps33
  go_wp2_with (first | (go_at_call 43; refine (l21Votes_any _ _ _ _ h hl).mono ?_; rintro e w' ⟨rfl, rfl⟩) | (go_at_call 60; refine (l21Given_any _ _ _ _ _ h' hl').mono ?_; rintro e w' ⟨rfl, rfl⟩))
  go_loopw [5] (fun i wr => ∃ k m : Nat, k ≤ xs.length ∧ i = .int .i64 k ∧ Hid (∀ j, j < k → fairAt xs gs j = true) ∧ wr = w.drewN m) (fun i _ => xs.length - (intOf i).toNat)
  case atStart => exact ⟨0, 0, by omega, rfl, fun j hj => by omega, rfl⟩
  case round =>
    obtain ⟨k, m, hk, rfl, hf, rfl⟩ := hrel
    by_cases hlt : k < xs.length
    · have hkg : k < gs.length := by have := HL.out; omega
      obtain ⟨ad, g, rfl, hgx, hc⟩ := h'.at_ hkg
      have hat := Lib.hid (show fairAt xs gs k = inB g (quotaF xs gs.sum k).1 (quotaF xs gs.sum k).2 from by simp [fairAt, hgx.out])
      have cS := Lib.hid (l22Sum_any _ _ c' _ (h'.drewN m) hl' HG.out)
      have cQ := Lib.hid (specQuota_any _ _ c gs.sum k _ (h.drewN m) hl)
      generalize quotaF xs gs.sum k = r at hat cQ
      obtain ⟨lo, hi⟩ := r
      cases hb : inB g lo hi
      · go_wp2_with (first | (go_at_call 52; refine cS.out.mono ?_; rintro e w' ⟨rfl, rfl⟩) | (go_at_call 63; refine cQ.out.mono ?_; rintro e w' ⟨rfl, n2, rfl⟩) | (go_at_call 44; refine (l6In_any _ _ _ _).mono ?_; rintro e w' ⟨rfl, rfl⟩))
        go_ret
        exact ⟨ret_bool (by rw [hq.out, all_range_f hlt (hat.out.trans hb)]), _, rfl⟩
      · go_wp2_with (first | (go_at_call 52; refine cS.out.mono ?_; rintro e w' ⟨rfl, rfl⟩) | (go_at_call 63; refine cQ.out.mono ?_; rintro e w' ⟨rfl, n2, rfl⟩) | (go_at_call 44; refine (l6In_any _ _ _ _).mono ?_; rintro e w' ⟨rfl, rfl⟩))
        go_roundw
        case rel => exact ⟨k + 1, _, by omega, by go_num, fun j hj => by
          rcases Nat.lt_succ_iff_lt_or_eq.1 hj with hj | rfl
          · exact hf.out j hj
          · rw [hat.out]; exact hb, rfl⟩
        case measure => simp [intOf]; omega
    · obtain rfl : k = xs.length := by omega
      clear hlt
      go_wp2
      go_ret
      exact ⟨ret_bool (by rw [hq.out, all_range_t (fun j hj => hf.out j hj)]), _, rfl⟩
end Go.Proofs.Ytimldfknbeiadaa
