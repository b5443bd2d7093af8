/-
  The laws' own functions on slices of ints: a copy, marks written and read.
-/
import Derived.Test.YtiinfbjlkbjmmaaQBase
namespace Go.Proofs.Ytiinfbjlkbjmmaa
open Go.RowKit
set_option maxRecDepth 100000 in
set_option maxHeartbeats 400000 in
theorem toIntS_any (A : Option Addr) (xs : List Int) (c : Nat) (w : World) (h : Ints w A xs) (hl : xs.length ≤ 1048576) :
    Calls Try.prog 12 #[.slice A xs.length c] w (NewI w xs) := by
  go_enter Try.func12, Try.ntmps12
  go_wp2_with (at_make; refine wpList_makeI _ rfl _ _ rfl xs.length rfl rfl (by omega) ?_; intro w1 hown hb hsz)
  go_loopw [4] (fun i wr => ∃ k : Nat, k ≤ xs.length ∧ i = .int .i64 k ∧ OwnI wr w.heap.size (some ⟨w.heap.size, 0, none⟩) xs.length (fill xs k) ∧ Below w.heap.size w wr) (fun i _ => xs.length - (intOf i).toNat)
  case atStart => exact ⟨0, by omega, rfl, by rw [fill_zero]; assumption, by assumption⟩
  case round =>
    obtain ⟨k, hk, rfl, hown, hbel⟩ := hrel
    by_cases hlt : k < xs.length
    · obtain ⟨ad, x, rfl, hx, hc⟩ := (h.below hbel).at_ hlt
      have hc2 := hown.cell (fill_at xs hlt)
      have hf2 := hown.frozen k
      go_wp2
      go_roundw
      case rel => exact ⟨k + 1, by omega, by go_num, (hown.set k x).congr (fill_set xs hx.out), hbel.setCell (Nat.le_refl _) _⟩
      case measure => simp [intOf]; omega
    · obtain rfl : k = xs.length := by omega
      clear hlt
      go_wp2
      go_ret
      exact ⟨_, _, rfl, hown.congr (fill_all xs), hbel⟩
/-- The numbers k, k + 1 and so on. -/
def marks (k : Int) : Nat → List Int
  | 0 => []
  | n + 1 => marks k n ++ [k + n]
set_option maxRecDepth 100000 in
theorem marks_length (k : Int) (n : Nat) : (marks k n).length = n := by
  induction n with
  | zero => rfl
  | succ n ih => simp [marks, ih]
set_option maxRecDepth 100000 in
theorem marks_at (k : Int) {n j : Nat} (hj : j < n) : (marks k n)[j]? = some (k + j) := by
  induction n with
  | zero => omega
  | succ n ih =>
    unfold marks
    by_cases h : j < n
    · rw [List.getElem?_append_left (by rw [marks_length]; exact h)]; exact ih h
    · obtain rfl : j = n := by omega
      rw [List.getElem?_append_right (by rw [marks_length]; omega), marks_length]; simp
/-- The first j numbers are marked, the others are as they were. -/
def marked (xs : List Int) (k : Int) (j : Nat) : List Int := marks k j ++ xs.drop j
set_option maxRecDepth 100000 in
theorem marked_set (xs : List Int) (k : Int) {j : Nat} (hj : j < xs.length) : (marked xs k j).set j (k + j) = marked xs k (j + 1) := by
  unfold marked
  rw [List.set_append_right _ _ (by rw [marks_length]; omega), marks_length, Nat.sub_self, List.drop_eq_getElem_cons hj]
  simp only [marks, List.append_assoc, List.set_cons_zero, List.cons_append, List.nil_append]
set_option maxRecDepth 100000 in
theorem marked_all (xs : List Int) (k : Int) : marked xs k xs.length = marks k xs.length := by simp [marked]
set_option maxRecDepth 100000 in
theorem marked_length (xs : List Int) (k : Int) {j : Nat} (hj : j ≤ xs.length) : (marked xs k j).length = xs.length := by simp [marked, marks_length]; omega
/-- It has marked its own slice, and changed nothing else. -/
def Marks (w : World) (base : Nat) (A : Option Addr) (n c : Nat) (k : Int) (e : Ending) (w' : World) : Prop :=
  e = .returned (.int .i64 (k + n)) ∧ OwnN w' base A n c (marks k n) ∧ w.grownBy w' (Value.slice A n c).ownBlock
set_option maxRecDepth 100000 in
set_option maxHeartbeats 400000 in
theorem markIntS_any (A : Option Addr) (xs : List Int) (n c : Nat) (k : Int) (base : Nat) (w : World) (h : OwnN w base A n c xs) (hl : n ≤ 1048576) (hk0 : 0 ≤ k) (hk1 : k ≤ 1000000000) :
    Calls Try.prog 32 #[.slice A n c, .int .i64 k] w (Marks w base A n c k) := by
  obtain ⟨rfl, h⟩ := h
  by_cases h0 : 0 < xs.length
  · obtain ⟨g, rfl, hg0, hg1⟩ := h.form h0
    go_enter Try.func32, Try.ntmps32
    go_wp2
    go_loopw [1, 5] (fun m i wr => ∃ j : Nat, j ≤ xs.length ∧ i = .int .i64 j ∧ m = .int .i64 (k + j) ∧ OwnI wr base (some ⟨g, 0, none⟩) c (marked xs k j) ∧ w.grownBy wr (some g)) (fun _ i _ => xs.length - (intOf i).toNat)
    case atStart => exact ⟨0, by omega, rfl, by go_num, by simpa [marked, marks] using h, grown_refl _ _⟩
    case round =>
      obtain ⟨j, hj, rfl, rfl, hown, hgr⟩ := hrel
      by_cases hlt : j < xs.length
      · have hfr := hown.frozen j
        obtain ⟨y, hy⟩ : ∃ y, Hid ((marked xs k j)[j]? = some y) := ⟨_, List.getElem?_eq_getElem (by rw [marked_length _ _ hj]; exact hlt)⟩
        have hc := hown.cell hy.out
        go_wp2
        go_roundw
        case rel => exact ⟨j + 1, by omega, by go_num, by go_num, (hown.set j (k + j)).congr (marked_set xs k hlt), grown_setCell hgr _ _⟩
        case measure => simp [intOf]; omega
      · obtain rfl : j = xs.length := by omega
        clear hlt
        go_wp2
        go_ret
        exact ⟨ret_int (by omega), ⟨marks_length _ _, hown.congr (marked_all xs k)⟩, hgr⟩
  · have hx : xs = [] := List.eq_nil_of_length_eq_zero (by omega)
    subst hx
    go_enter Try.func32, Try.ntmps32
    go_wp2
    refine wp_loop_rounds 1 ?_
    rw [rounds_succ]
    go_wp2
    go_ret
    exact ⟨ret_int (by simp), ⟨rfl, h⟩, grown_refl _ _⟩
end Go.Proofs.Ytiinfbjlkbjmmaa
