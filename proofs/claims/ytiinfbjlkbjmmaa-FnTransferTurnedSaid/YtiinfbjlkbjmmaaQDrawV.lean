/-
  Votes that are drawn.
-/
import Derived.Test.YtiinfbjlkbjmmaaQDraw
import Derived.Test.YtiinfbjlkbjmmaaQLots
namespace Go.Proofs.Ytiinfbjlkbjmmaa
open Go.RowKit
set_option maxRecDepth 100000 in
theorem lit4 (w : World) (a b c d : Int) (q : Nat) (h : (q : Int) < 4) : ∃ v : Int, (w.alloc (.cells #[.int .i64 a, .int .i64 b, .int .i64 c, .int .i64 d] 3)).cell? ⟨w.heap.size, q, none⟩ = some (.int .i64 v) := by
  rw [cell_of_row _ w.heap.size q _ _ (0, 0) (heap_alloc_new w _)]
  have : q = 0 ∨ q = 1 ∨ q = 2 ∨ q = 3 := by omega
  rcases this with rfl | rfl | rfl | rfl <;> exact ⟨_, rfl⟩
set_option maxRecDepth 100000 in
theorem lit3 (w : World) (a b c : Int) (q : Nat) (h : (q : Int) < 3) : ∃ v : Int, (w.alloc (.cells #[.int .i64 a, .int .i64 b, .int .i64 c] 3)).cell? ⟨w.heap.size, q, none⟩ = some (.int .i64 v) := by
  rw [cell_of_row _ w.heap.size q _ _ (0, 0) (heap_alloc_new w _)]
  have : q = 0 ∨ q = 1 ∨ q = 2 := by omega
  rcases this with rfl | rfl | rfl <;> exact ⟨_, rfl⟩
set_option maxRecDepth 100000 in
theorem lit5 (w : World) (a b c d e : Int) (q : Nat) (h : (q : Int) < 5) : ∃ v : Int, (w.alloc (.cells #[.int .i64 a, .int .i64 b, .int .i64 c, .int .i64 d, .int .i64 e] 3)).cell? ⟨w.heap.size, q, none⟩ = some (.int .i64 v) := by
  rw [cell_of_row _ w.heap.size q _ _ (0, 0) (heap_alloc_new w _)]
  have : q = 0 ∨ q = 1 ∨ q = 2 ∨ q = 3 ∨ q = 4 := by omega
  rcases this with rfl | rfl | rfl | rfl | rfl <;> exact ⟨_, rfl⟩
set_option maxRecDepth 100000 in
theorem OwnN.drew' {w : World} {base : Nat} {A : Option Addr} {n c : Nat} {xs : List Int} (h : OwnN w base A n c xs) : OwnN w.drew base A n c xs := h
set_option maxRecDepth 100000 in
theorem Rd.drew {w : World} {rb p : Nat} (h : Rd w rb p) : Rd w.drew rb p := ⟨h.ex, h.le⟩
set_option maxRecDepth 100000 in
theorem OwnN.cellN {w : World} {base g n c : Nat} {xs : List Int} (h : OwnN w base (some ⟨g, 0, none⟩) n c xs) {k : Nat} (hk : k < n) : ∃ x, w.cell? ⟨g, k, none⟩ = some (.int .i64 x) :=
  ⟨_, h.2.cell (List.getElem?_eq_getElem (by rw [h.1]; exact hk))⟩
set_option maxRecDepth 100000 in
theorem OwnN.setN {w : World} {base g n c : Nat} {xs : List Int} (h : OwnN w base (some ⟨g, 0, none⟩) n c xs) (k : Nat) (x : Int) : OwnN (w.setCell ⟨g, k, none⟩ (.int .i64 x)) base (some ⟨g, 0, none⟩) n c (xs.set k x) :=
  ⟨by rw [List.length_set]; exact h.1, h.2.set k x⟩
set_option maxRecDepth 100000 in
theorem OwnN.form {w : World} {base n c : Nat} {A : Option Addr} {xs : List Int} (h : OwnN w base A n c xs) (hn : 0 < n) : ∃ g, A = some ⟨g, 0, none⟩ ∧ base ≤ g ∧ g < w.heap.size := h.2.form (by rw [h.1]; exact hn)
end Go.Proofs.Ytiinfbjlkbjmmaa
