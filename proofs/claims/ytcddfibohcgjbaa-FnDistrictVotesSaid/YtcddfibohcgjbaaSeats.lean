/-
  Seats: which votes and seats are valid; quotas.
-/
import Derived.Test.YtcddfibohcgjbaaSmall
namespace Go.Proofs.Ytcddfibohcgjbaa
open Go.RowKit
theorem gv_f {gs : List Int} {n x : Int} (h : x ∈ gs) (hx : ¬(0 ≤ x ∧ x ≤ 20)) : gv gs n = false := by simp [gv, allB_f h hx]
set_option maxHeartbeats 400000 in
theorem l21Given_any (A : Option Addr) (xs : List Int) (c : Nat) (n : Int) (w : World) (h : Ints w A xs) (hl : xs.length ≤ 1048576) :
    Calls Try.prog 55 #[.slice A xs.length c, .int .i64 n] w (Ret w (.bool (gv xs n))) := by
  go_enter Try.func55, Try.ntmps55
  go_wp2
  go_loop [5, 6] (fun n i => ∃ k : Nat, k ≤ xs.length ∧ i = .int .i64 k ∧ n = .int .i64 (xs.take k).sum ∧ Hid (∀ x ∈ xs.take k, 0 ≤ x ∧ x ≤ 20)) (fun _ i => xs.length - (intOf i).toNat)
  case atStart => exact ⟨0, by omega, rfl, rfl, by simp [Hid]⟩
  case round =>
    obtain ⟨k, hk, rfl, rfl, hall⟩ := hrel
    have hbd := sum_bd (xs.take k) 20 (fun x hx => by have := hall.out x hx; omega)
    have hlk : (xs.take k).length ≤ k := List.length_take_le _ _
    by_cases hlt : k < xs.length
    · obtain ⟨ad, x, rfl, hx, hc⟩ := h.at_ hlt
      by_cases hxb : 0 ≤ x ∧ x ≤ 20
      · have hb := inB_t hxb
        obtain ⟨hx0, hx1⟩ := hxb
        go_wp2_with (go_at_call 51; refine (l6In_any _ _ _ _).mono ?_; rintro e w' ⟨rfl, rfl⟩)
        go_round
        case rel => exact ⟨k + 1, by omega, by go_num, by rw [sum_snoc _ _ _ hx.out], bd_snoc hx.out hall.out ⟨hx0, hx1⟩⟩
        case measure => simp [intOf]; omega
      · have hb := inB_f hxb
        have hf := Lib.hid (gv_f (n := n) (mem_of_at hx.out) hxb)
        clear hxb
        go_wp2_with (go_at_call 51; refine (l6In_any _ _ _ _).mono ?_; rintro e w' ⟨rfl, rfl⟩)
        go_ret
        exact ⟨ret_bool hf.out.symm, rfl⟩
    · obtain rfl : k = xs.length := by omega
      clear hlt
      have e1 := Lib.hid (List.take_length (l := xs))
      have hv := Lib.hid (show gv xs n = ((((xs.length : Int)) == n) && decide (xs.sum ≤ 20)) from by
        have := hall.out
        rw [e1.out] at this
        simp [gv, allB_iff.2 this])
      cases hb : (((xs.length : Int)) == n)
      · go_wp2
        go_ret
        exact ⟨ret_bool (by rw [hv.out, hb]; rfl), rfl⟩
      · go_wp2
        go_ret
        exact ⟨ret_bool (by rw [hv.out, hb]; simp), rfl⟩
set_option maxHeartbeats 400000 in
theorem seatsValid_any (A A' : Option Addr) (xs gs : List Int) (c c' : Nat) (w : World) (h : Ints w A xs) (h' : Ints w A' gs) (hl : xs.length ≤ 1048576) (hl' : gs.length ≤ 1048576) :
    Calls Try.prog 59 #[.slice A xs.length c, .slice A' gs.length c'] w (Ret w (.bool (vv xs && gv gs xs.length))) := by
  go_enter Try.func59, Try.ntmps59
  go_wp2
  go_loop [6, 9] (fun _ i => ∃ k : Nat, k ≤ gs.length ∧ i = .int .i64 k ∧ Hid (∀ x ∈ gs.take k, 0 ≤ x ∧ x ≤ 20)) (fun _ i => gs.length - (intOf i).toNat)
  case atStart => exact ⟨0, by omega, rfl, by simp [Hid]⟩
  case round =>
    obtain ⟨k, hk, rfl, hall⟩ := hrel
    by_cases hlt : k < gs.length
    · obtain ⟨ad, x, rfl, hx, hc⟩ := h'.at_ hlt
      by_cases hx0 : 0 ≤ x
      · by_cases hx1 : x ≤ 20
        · go_wp2
          go_round
          case rel => exact ⟨k + 1, by omega, by go_num, bd_snoc hx.out hall.out ⟨hx0, hx1⟩⟩
          case measure => simp [intOf]; omega
        · have hf := Lib.hid (gv_f (n := xs.length) (mem_of_at hx.out) (fun hh => hx1 hh.2))
          go_wp2
          go_ret
          exact ⟨ret_bool (by rw [hf.out]; simp), rfl⟩
      · have hf := Lib.hid (gv_f (n := xs.length) (mem_of_at hx.out) (fun hh => hx0 hh.1))
        go_wp2
        go_ret
        exact ⟨ret_bool (by rw [hf.out]; simp), rfl⟩
    · obtain rfl : k = gs.length := by omega
      clear hlt
      have e1 := Lib.hid (List.take_length (l := gs))
      have hv := Lib.hid (show gv gs xs.length = ((((gs.length : Int)) == (xs.length : Int)) && decide (gs.sum ≤ 20)) from by
        have := hall.out
        rw [e1.out] at this
        simp only [gv, allB_iff.2 this, Bool.true_and])
      cases hvv : vv xs
      · go_wp2_with (go_at_call 48; refine (votesValid_any _ _ _ _ h hl).mono ?_; rintro e w' ⟨rfl, rfl⟩)
        go_ret
        exact ⟨ret_bool (by simp [hvv]), rfl⟩
      · cases hb : (((gs.length : Int)) == (xs.length : Int))
        · go_wp2_with (go_at_call 48; refine (votesValid_any _ _ _ _ h hl).mono ?_; rintro e w' ⟨rfl, rfl⟩)
          go_ret
          exact ⟨ret_bool (by rw [hv.out, hb]; simp), rfl⟩
        · have hbd : ∀ x ∈ gs, -1000000000 ≤ x ∧ x ≤ 1000000000 := fun x hx => by
            have := hall.out x (by rw [e1.out]; exact hx)
            omega
          have HB := Lib.hid hbd
          clear hbd
          go_wp2_with (first | (go_at_call 48; refine (votesValid_any _ _ _ _ h hl).mono ?_; rintro e w' ⟨rfl, rfl⟩) | (go_at_call 49; refine (implSum_any _ _ _ _ h' hl' HB.out).mono ?_; rintro e w' ⟨rfl, rfl⟩))
          go_ret
          exact ⟨ret_bool (by rw [hv.out, hb]; simp [hvv]), rfl⟩
/-- A share, rounded down and up; -1 twice if an argument is invalid. -/
def quotaF (xs : List Int) (s p : Int) : Int × Int :=
  if vv xs = true ∧ (0 ≤ s ∧ s ≤ 20) ∧ (0 ≤ p ∧ p < xs.length) then (xs.getD p.toNat 0 * s / xs.sum, (xs.getD p.toNat 0 * s + xs.sum - 1) / xs.sum) else (-1, -1)
theorem quotaF_t {xs : List Int} {s p x : Int} (hv : vv xs = true) (hs : 0 ≤ s ∧ s ≤ 20) (hp : 0 ≤ p ∧ p < xs.length) (hx : xs[p.toNat]? = some x) : quotaF xs s p = (x * s / xs.sum, (x * s + xs.sum - 1) / xs.sum) := by
  rw [quotaF, if_pos ⟨hv, hs, hp⟩]; simp [hx]
theorem quotaF_f {xs : List Int} {s p : Int} (h : ¬(vv xs = true ∧ (0 ≤ s ∧ s ≤ 20) ∧ (0 ≤ p ∧ p < xs.length))) : quotaF xs s p = (-1, -1) := by
  rw [quotaF, if_neg h]
theorem mul_bd {a b M N : Int} (ha : 0 ≤ a ∧ a ≤ M) (hb : 0 ≤ b ∧ b ≤ N) : 0 ≤ a * b ∧ a * b ≤ M * N :=
  ⟨Int.mul_nonneg ha.1 hb.1, Int.mul_le_mul ha.2 hb.2 hb.1 (by omega)⟩
end Go.Proofs.Ytcddfibohcgjbaa
