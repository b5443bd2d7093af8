/-
  Who comes before whom, of the laws' own function.
-/
import Derived.Test.YtimldfknbeiadaaDivP
namespace Go.Proofs.Ytimldfknbeiadaa
open Go.RowKit
theorem bef_hit {ls : List Int} {k : Nat} {l x y : Int} (h : ls[k]? = some l) (hn : (ls.take k).find? (fun l => l == x || l == y) = none) (hl : (l == x || l == y) = true) : bef ls x y = (l == x && x != y) := by
  unfold bef
  have e : ls = ls.take k ++ l :: ls.drop (k + 1) := by
    have hk := (List.getElem?_eq_some_iff.1 h).1
    have h2 : ls[k] = l := (List.getElem?_eq_some_iff.1 h).2
    rw [← h2, ← List.drop_eq_getElem_cons hk, List.take_append_drop]
  have f : ls.find? (fun l => l == x || l == y) = some l := by
    rw [e, List.find?_append, hn]
    simp only [Option.none_or, List.find?_cons, hl]
  rw [f]
theorem bef_none {ls : List Int} {x y : Int} (hn : ls.find? (fun l => l == x || l == y) = none) : bef ls x y = false := by unfold bef; rw [hn]
theorem find_snoc {ls : List Int} {k : Nat} {l : Int} {f : Int → Bool} (h : ls[k]? = some l) (hn : (ls.take k).find? f = none) (hl : f l = false) : (ls.take (k + 1)).find? f = none := by
  rw [take_snoc _ _ _ h, List.find?_append, hn]; simp [hl]
set_option maxHeartbeats 400000 in
theorem before_any (A : Option Addr) (ls : List Int) (c : Nat) (x y : Int) (w : World) (h : Ints w A ls) (hl : ls.length ≤ 1048576) :
    Calls Try.prog 19 #[.slice A ls.length c, .int .i64 x, .int .i64 y] w (Ret w (.bool (bef ls x y))) := by
  go_enter Try.func19, Try.ntmps19
  go_wp2
  go_loop [7] (fun i => ∃ k : Nat, k ≤ ls.length ∧ i = .int .i64 k ∧ Hid ((ls.take k).find? (fun l => l == x || l == y) = none)) (fun i => ls.length - (intOf i).toNat)
  case atStart => exact ⟨0, by omega, rfl, rfl⟩
  case round =>
    obtain ⟨k, hk, rfl, hn⟩ := hrel
    by_cases hlt : k < ls.length
    · obtain ⟨ad, l, rfl, hx, hc⟩ := h.at_ hlt
      cases e1 : (l == x)
      · cases e2 : (l == y)
        · go_wp2
          go_round
          case rel => exact ⟨k + 1, by omega, by go_num, find_snoc hx.out hn.out (by rw [e1, e2]; rfl)⟩
          case measure => simp [intOf]; omega
        · have hb := Lib.hid (bef_hit hx.out hn.out (by rw [e1, e2]; rfl))
          go_wp2
          go_ret
          exact ⟨ret_bool (by rw [hb.out, e1]; rfl), rfl⟩
      · have hb := Lib.hid (bef_hit hx.out hn.out (by rw [e1]; rfl))
        cases e3 : (x != y)
        · go_wp2
          go_ret
          exact ⟨ret_bool (by rw [hb.out, e1, e3]; rfl), rfl⟩
        · go_wp2
          go_ret
          exact ⟨ret_bool (by rw [hb.out, e1, e3]; rfl), rfl⟩
    · obtain rfl : k = ls.length := by omega
      clear hlt
      have hb := Lib.hid (bef_none (ls := ls) (x := x) (y := y) (by have := hn.out; rwa [List.take_length] at this))
      go_wp2
      go_ret
      exact ⟨ret_bool hb.out.symm, rfl⟩
end Go.Proofs.Ytimldfknbeiadaa
