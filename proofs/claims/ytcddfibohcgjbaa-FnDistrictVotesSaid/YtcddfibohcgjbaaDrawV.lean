/-
  Votes that are drawn.
-/
import Derived.Test.YtcddfibohcgjbaaDraw
import Derived.Test.YtcddfibohcgjbaaApp
namespace Go.Proofs.Ytcddfibohcgjbaa
open Go.RowKit
theorem lit4 (w : World) (a b c d : Int) (q : Nat) (h : (q : Int) < 4) : ∃ v : Int, (w.alloc (.cells #[.int .i64 a, .int .i64 b, .int .i64 c, .int .i64 d] 3)).cell? ⟨w.heap.size, q, none⟩ = some (.int .i64 v) := by
  rw [cell_of_row _ w.heap.size q _ _ (0, 0) (heap_alloc_new w _)]
  have : q = 0 ∨ q = 1 ∨ q = 2 ∨ q = 3 := by omega
  rcases this with rfl | rfl | rfl | rfl <;> exact ⟨_, rfl⟩
theorem lit3 (w : World) (a b c : Int) (q : Nat) (h : (q : Int) < 3) : ∃ v : Int, (w.alloc (.cells #[.int .i64 a, .int .i64 b, .int .i64 c] 3)).cell? ⟨w.heap.size, q, none⟩ = some (.int .i64 v) := by
  rw [cell_of_row _ w.heap.size q _ _ (0, 0) (heap_alloc_new w _)]
  have : q = 0 ∨ q = 1 ∨ q = 2 := by omega
  rcases this with rfl | rfl | rfl <;> exact ⟨_, rfl⟩
theorem lit5 (w : World) (a b c d e : Int) (q : Nat) (h : (q : Int) < 5) : ∃ v : Int, (w.alloc (.cells #[.int .i64 a, .int .i64 b, .int .i64 c, .int .i64 d, .int .i64 e] 3)).cell? ⟨w.heap.size, q, none⟩ = some (.int .i64 v) := by
  rw [cell_of_row _ w.heap.size q _ _ (0, 0) (heap_alloc_new w _)]
  have : q = 0 ∨ q = 1 ∨ q = 2 ∨ q = 3 ∨ q = 4 := by omega
  rcases this with rfl | rfl | rfl | rfl | rfl <;> exact ⟨_, rfl⟩
theorem OwnN.drew' {w : World} {base : Nat} {A : Option Addr} {n c : Nat} {xs : List Int} (h : OwnN w base A n c xs) : OwnN w.drew base A n c xs := h
theorem Rd.drew {w : World} {rb p : Nat} (h : Rd w rb p) : Rd w.drew rb p := ⟨h.ex, h.le⟩
theorem OwnN.cellN {w : World} {base g n c : Nat} {xs : List Int} (h : OwnN w base (some ⟨g, 0, none⟩) n c xs) {k : Nat} (hk : k < n) : ∃ x, w.cell? ⟨g, k, none⟩ = some (.int .i64 x) :=
  ⟨_, h.2.cell (List.getElem?_eq_getElem (by rw [h.1]; exact hk))⟩
theorem OwnN.setN {w : World} {base g n c : Nat} {xs : List Int} (h : OwnN w base (some ⟨g, 0, none⟩) n c xs) (k : Nat) (x : Int) : OwnN (w.setCell ⟨g, k, none⟩ (.int .i64 x)) base (some ⟨g, 0, none⟩) n c (xs.set k x) :=
  ⟨by rw [List.length_set]; exact h.1, h.2.set k x⟩
theorem OwnN.form {w : World} {base n c : Nat} {A : Option Addr} {xs : List Int} (h : OwnN w base A n c xs) (hn : 0 < n) : ∃ g, A = some ⟨g, 0, none⟩ ∧ base ≤ g ∧ g < w.heap.size := h.2.form (by rw [h.1]; exact hn)
set_option maxHeartbeats 1600000 in
theorem l92Votes_any (rb p n : Nat) (w : World) (h : Rd w rb p) (hp : p ≤ 900000) (hn : n ≤ 100) :
    Calls Try.prog 46 #[.pointer (some ⟨rb, 0, none⟩), .int .i64 n] w (DrawI w rb p 500 n) := by
  have hrb := h.lt
  go_enter Try.func46, Try.ntmps46
  go_wp2
  go_loopw [5, 6] (fun o i wr => ∃ (k : Nat) (A : Option Addr) (c : Nat) (xs : List Int) (p' : Nat), k ≤ n ∧ i = .int .i64 k ∧ o = .slice A k c ∧ OwnN wr w.heap.size A k c xs ∧ p' ≤ p + k ∧ Rd wr rb p' ∧ Dr rb w wr) (fun _ i _ => n - (intOf i).toNat)
  case atStart => exact ⟨0, _, _, [], p, by omega, rfl, rfl, ⟨rfl, own_empty w (Nat.le_refl _)⟩, by omega, h.alloc _, (Dr.refl _ _).alloc _⟩
  case round =>
    obtain ⟨k, A, c, xs, p', hk, rfl, rfl, hown, hp', hrd, hdr⟩ := hrel
    by_cases hlt : k < n
    · have hsz := hdr.size
      go_wp2_with (first | (go_at_call 47; refine (pick_n rb p' _ _ hrd (by omega) (by omega) (by omega)).mono ?_; rintro e w2 ⟨q, hq, rfl, hrd2, hdr2⟩) | (at_builtin; refine wpList_app1 _ rfl (.tmp 14) (.tmp 17) rfl w.heap.size A k c _ rfl (hown.dr hdr2 hrb) (by have := hdr2.size; omega) (by omega) _ rfl ?_; intro A' c' w' hown' hgr' hbl'))
      go_roundw
      case rel => exact ⟨k + 1, _, _, _, p' + 1, by omega, by go_num, rfl, hown', by omega, hrd2.below' hbl' hrb, (hdr.trans hdr2).below hbl'⟩
      case measure => simp [intOf]; omega
    · obtain rfl : k = n := by omega
      clear hlt
      go_upto_if 21 with (go_at_call 47; refine (pick_n rb p' _ _ hrd (by omega) (by omega) (by omega)).mono ?_; rintro e w2 ⟨q, hq, rfl, hrd2, hdr2⟩)
      have hown2 := hown.dr hdr2 hrb
      have hdr3 := hdr.trans hdr2
      clear hown hrd hdr hdr2
      by_cases hq2 : q = 0
      · subst hq2
        go_wp2
        go_loopw [7] (fun i wr => ∃ (m : Nat) (ys : List Int) (p2 : Nat), m ≤ k ∧ i = .int .i64 m ∧ OwnN wr w.heap.size A k c ys ∧ p2 ≤ p' + 1 + m ∧ Rd wr rb p2 ∧ Dr rb w wr) (fun i _ => k - (intOf i).toNat)
        case atStart => exact ⟨0, xs, p' + 1, by omega, rfl, hown2, by omega, hrd2, hdr3⟩
        case round =>
          obtain ⟨m, ys, p2, hm, rfl, hown, hp2, hrd, hdr⟩ := hrel
          by_cases hlt : m < k
          · obtain ⟨g, rfl, hg0, hg1⟩ := hown.form (by omega)
            have hsz := hdr.size
            go_wp2_with (go_at_call 47; refine (pick_n rb p2 _ _ (hrd.alloc _) (by omega) (by omega) (by omega)).mono ?_; rintro e w3 ⟨q4, hq4, rfl, hrd3, hdr4⟩; obtain ⟨v, hv⟩ := lit4 wr 0 10 20 10 q4 hq4; have hv3 := hdr4.cell hv (by simp; omega); have hown3 := (hown.alloc' _).dr hdr4 hrb; obtain ⟨x3, hc3⟩ := hown3.cellN hlt; have hf3 := hown3.2.frozen m)
            go_roundw
            case rel =>
              repeat apply Exists.intro
              exact ⟨⟨m + 1, _, p2 + 1, by omega, by go_num, hown3.setN m _, by omega, hrd3.setCell (by simp; omega) _, ((hdr.alloc _).trans hdr4).setCell (by simp; omega) _⟩, rfl⟩
            case measure => simp [intOf]; omega
          · obtain rfl : m = k := by omega
            clear hlt hown2 hrd2 hdr3
            have hsz := hdr.size
            by_cases hk0 : m = 0
            · subst hk0
              go_wp2
              go_ret
              exact ⟨_, _, _, p2, rfl, hown, by omega, hrd, hdr⟩
            · have hk1 : 0 < m := by omega
              obtain ⟨g, hA, hg0, hg1⟩ := hown.form hk1
              subst hA
              have hki : (0 : Int) < (m : Int) := by omega
              go_wp2_with fail
              refine (pick_n rb p2 _ _ hrd (by omega) (by omega) (by omega)).mono ?_
              rintro e w3 ⟨q4, hq4, rfl, hrd3, hdr3⟩
              by_cases hq0 : q4 = 0
              · subst hq0
                go_wp2_with fail
                refine (pick_n rb (p2 + 1) _ _ hrd3 (by omega) (by omega) (by omega)).mono ?_
                rintro e w4 ⟨q5, hq5, rfl, hrd4, hdr4⟩
                go_wp2_with fail
                refine (pick_n rb (p2 + 2) _ _ (hrd4.alloc _) (by omega) (by omega) (by omega)).mono ?_
                rintro e w5 ⟨q6, hq6, rfl, hrd5, hdr5⟩
                have hz3 := hdr3.size
                have hz4 := hdr4.size
                obtain ⟨v, hv⟩ := lit3 w4 (-1) 99 100 q6 hq6
                have hv5 := hdr5.cell hv (by simp; omega)
                have hown5 := (((hown.dr hdr3 hrb).dr hdr4 hrb).alloc' _).dr hdr5 hrb
                have hq5k : q5 < m := by omega
                obtain ⟨x5, hc5⟩ := hown5.cellN hq5k
                have hf5 := hown5.2.frozen q5
                go_wp2
                go_ret
                exact ⟨_, _, _, p2 + 3, rfl, hown5.setN q5 _, by omega, hrd5.setCell (by simp; omega) _, ((((hdr.trans hdr3).trans hdr4).alloc _).trans hdr5).setCell (by simp; omega) _⟩
              · have hqb : ((q4 : Int) == 0) = false := by simp; omega
                go_wp2
                go_ret
                exact ⟨_, _, _, p2 + 1, rfl, hown.dr hdr3 hrb, by omega, hrd3, hdr.trans hdr3⟩
      · have hqb2 : ((q : Int) == 0) = false := by simp; omega
        have hown := hown2
        have hrd := hrd2
        have hdr := hdr3
        obtain ⟨p2, hp2⟩ : ∃ p2, p2 = p' + 1 := ⟨_, rfl⟩
        rw [← hp2] at hrd
        have hp2' : p2 ≤ p + k + 1 := by omega
        clear hp2 hown2 hrd2 hdr3
        have hsz := hdr.size
        by_cases hk0 : k = 0
        · subst hk0
          go_wp2
          go_ret
          exact ⟨_, _, _, p2, rfl, hown, by omega, hrd, hdr⟩
        · have hk1 : 0 < k := by omega
          obtain ⟨g, hA, hg0, hg1⟩ := hown.form hk1
          subst hA
          have hki : (0 : Int) < (k : Int) := by omega
          go_wp2_with fail
          refine (pick_n rb p2 _ _ hrd (by omega) (by omega) (by omega)).mono ?_
          rintro e w3 ⟨q4, hq4, rfl, hrd3, hdr3⟩
          by_cases hq0 : q4 = 0
          · subst hq0
            go_wp2_with fail
            refine (pick_n rb (p2 + 1) _ _ hrd3 (by omega) (by omega) (by omega)).mono ?_
            rintro e w4 ⟨q5, hq5, rfl, hrd4, hdr4⟩
            go_wp2_with fail
            refine (pick_n rb (p2 + 2) _ _ (hrd4.alloc _) (by omega) (by omega) (by omega)).mono ?_
            rintro e w5 ⟨q6, hq6, rfl, hrd5, hdr5⟩
            have hz3 := hdr3.size
            have hz4 := hdr4.size
            obtain ⟨v, hv⟩ := lit3 w4 (-1) 99 100 q6 hq6
            have hv5 := hdr5.cell hv (by simp; omega)
            have hown5 := (((hown.dr hdr3 hrb).dr hdr4 hrb).alloc' _).dr hdr5 hrb
            have hq5k : q5 < k := by omega
            obtain ⟨x5, hc5⟩ := hown5.cellN hq5k
            have hf5 := hown5.2.frozen q5
            go_wp2
            go_ret
            exact ⟨_, _, _, p2 + 3, rfl, hown5.setN q5 _, by omega, hrd5.setCell (by simp; omega) _, ((((hdr.trans hdr3).trans hdr4).alloc _).trans hdr5).setCell (by simp; omega) _⟩
          · have hqb : ((q4 : Int) == 0) = false := by simp; omega
            go_wp2
            go_ret
            exact ⟨_, _, _, p2 + 1, rfl, hown.dr hdr3 hrb, by omega, hrd3, hdr.trans hdr3⟩
end Go.Proofs.Ytcddfibohcgjbaa
