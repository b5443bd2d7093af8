/-
  Districts: votes of all districts together; which districts are valid.
-/
import Derived.Test.YtcddfibohcgjbaaMat
import Derived.Test.YtcddfibohcgjbaaSeats
import Derived.StillTailTactics
namespace Go.Proofs.Ytcddfibohcgjbaa
open Go.RowKit
/-- The sum of column j. -/
def col (xss : List (List Int)) (j : Nat) : Int := (xss.map fun xs => xs.getD j 0).sum
theorem col_snoc {xss : List (List Int)} {i : Nat} {xs : List Int} (h : xss[i]? = some xs) (j : Nat) : col (xss.take (i + 1)) j = col (xss.take i) j + xs.getD j 0 := by
  unfold col; rw [take_snoc xss i xs h, List.map_append, sum_append]; simp
/-- The sums of n columns. -/
def tog (n : Nat) (xss : List (List Int)) : List Int := (List.range n).map (col xss)
/-- The same in the middle of the work: the first k columns of row i are added. -/
def mix (n : Nat) (xss : List (List Int)) (i k : Nat) : List Int := (List.range n).map fun j => col (xss.take (if j < k then i + 1 else i)) j
theorem mix_length (n : Nat) (xss : List (List Int)) (i k : Nat) : (mix n xss i k).length = n := by simp [mix]
theorem mix_at (n : Nat) (xss : List (List Int)) (i : Nat) {k : Nat} (hk : k < n) : (mix n xss i k)[k]? = some (col (xss.take i) k) := by simp [mix, hk]
theorem mix_set {n : Nat} {xss : List (List Int)} {i k : Nat} {xs : List Int} {x : Int} (h : xss[i]? = some xs) (hx : xs[k]? = some x) : (mix n xss i k).set k (col (xss.take i) k + x) = mix n xss i (k + 1) := by
  have hc : col (xss.take i) k + x = col (xss.take (i + 1)) k := by rw [col_snoc h]; simp [hx]
  rw [hc]
  apply List.ext_getElem
  · simp [mix]
  · intro j h1 h2
    rw [List.getElem_set]
    by_cases hjk : k = j
    · subst hjk; simp [mix]
    · rw [if_neg hjk]
      have e : (j < k) = (j < k + 1) := by simp; omega
      simp [mix, e]
theorem mix_start (n : Nat) (xss : List (List Int)) (i : Nat) : mix n xss i 0 = tog n (xss.take i) := by simp [mix, tog]
theorem mix_end (n : Nat) (xss : List (List Int)) (i : Nat) : mix n xss i n = tog n (xss.take (i + 1)) := by
  unfold mix tog
  apply List.map_congr_left
  intro j hj
  have : j < n := by simpa using hj
  rw [if_pos this]
theorem tog_none (n : Nat) : tog n [] = List.replicate n 0 := by
  apply List.ext_getElem
  · simp [tog]
  · intro i h1 h2; simp [tog, col]
theorem col_bd (M : Int) (xss : List (List Int)) (h : ∀ xs ∈ xss, ∀ x ∈ xs, 0 ≤ x ∧ x ≤ M) (hM : 0 ≤ M) (j : Nat) : 0 ≤ col xss j ∧ col xss j ≤ M * xss.length := by
  induction xss with
  | nil => simp [col]
  | cons xs t ih =>
    have h2 := ih (fun ys hy => h ys (by simp [hy]))
    have e : col (xs :: t) j = xs.getD j 0 + col t j := by simp [col]
    have h1 : 0 ≤ xs.getD j 0 ∧ xs.getD j 0 ≤ M := by
      by_cases hj : j < xs.length
      · have := h xs (by simp) _ (List.getElem_mem hj)
        simpa [hj] using this
      · have : xs[j]? = none := List.getElem?_eq_none (by omega)
        simp [this, hM]
    have : M * ((t.length + 1 : Nat) : Int) = M * t.length + M := by push_cast; rw [Int.mul_add, Int.mul_one]
    rw [e]; simp only [List.length_cons]; omega
set_option maxHeartbeats 1600000 in
theorem together_any (A : Option Addr) (xss : List (List Int)) (c n : Nat) (w : World) (h : RowsI w A xss) (h0 : 0 < xss.length) (hl : xss.length ≤ 1000) (hn : n ≤ 1000)
    (hr : Hid (∀ xs ∈ xss, xs.length = n)) (hb : Hid (∀ xs ∈ xss, ∀ x ∈ xs, 0 ≤ x ∧ x ≤ 1000000)) :
    Calls Try.prog 67 #[.slice A xss.length c] w (NewI w (tog n xss)) := by
  obtain ⟨ad0, ys0, B0, d0, rfl, hx0, hc0, hi0⟩ := h.at_ h0
  have hc0' : w.cell? ad0 = some (.slice B0 ys0.length d0) := by have := hc0; rwa [show ad0.add 0 = ad0 from by unfold Addr.add; simp] at this
  obtain rfl : ys0.length = n := hr.out ys0 (List.mem_of_getElem? hx0.out)
  obtain ⟨n, hn'⟩ : ∃ n, n = ys0.length := ⟨_, rfl⟩
  rw [← hn'] at hc0' hc0 hr hn ⊢
  clear hn'
  go_enter Try.func67, Try.ntmps67
  go_wp2_with (at_make; refine wpList_makeI _ rfl _ _ rfl n rfl rfl (by omega) ?_; intro w1 hown hbel hsz)
  go_loopw [15] (fun i wr => ∃ k : Nat, k ≤ xss.length ∧ i = .int .i64 k ∧ OwnI wr w.heap.size (some ⟨w.heap.size, 0, none⟩) n (tog n (xss.take k)) ∧ Below w.heap.size w wr) (fun i _ => xss.length - (intOf i).toNat)
  case atStart => exact ⟨0, by omega, rfl, by simpa [tog_none] using ‹OwnI _ _ _ _ _›, by assumption⟩
  case round =>
    obtain ⟨k, hk, rfl, hown, hbel⟩ := hrel
    by_cases hlt : k < xss.length
    · have hR := h.below hbel
      obtain ⟨ad, xs, B, d, e1, hx, hc, hi⟩ := hR.at_ hlt
      obtain rfl : ad0 = ad := by injection e1
      clear e1
      have hxn := Lib.hid (hr.out xs (List.mem_of_getElem? hx.out))
      have hxb := Lib.hid (hb.out xs (List.mem_of_getElem? hx.out))
      have hiw : Ints w B xs := by
        obtain ⟨ad', e, hh⟩ := h.read h0
        obtain rfl : ad0 = ad' := by injection e
        obtain ⟨B', c', q1, q2⟩ := hh k xs hx.out
        rw [hbel.cell (World.block_lt_of_cell? w _ q1), q1] at hc
        injection hc with hc
        injection hc with e1 e2
        subst e1
        exact q2
      clear hi
      go_wp2
      obtain ⟨wo, hwo⟩ : ∃ wo : World, wo = wr := ⟨_, rfl⟩
      subst hwo
      go_loopw [21] (fun i wr => ∃ j : Nat, j ≤ xs.length ∧ i = .int .i64 j ∧ OwnI wr w.heap.size (some ⟨w.heap.size, 0, none⟩) n (mix n xss k j) ∧ Below w.heap.size w wr) (fun i _ => xs.length - (intOf i).toNat)
      case atStart => exact ⟨0, by omega, rfl, by rw [mix_start]; exact hown, hbel⟩
      case round =>
        obtain ⟨j, hj, rfl, hown2, hbel2⟩ := hrel
        by_cases hlt2 : j < xs.length
        · have hjn : j < n := by have := hxn.out; omega
          obtain ⟨ad2, x, rfl, hx2, hcx⟩ := (hiw.below hbel2).at_ hlt2
          obtain ⟨hb0, hb1⟩ := hxb.out x (mem_of_at hx2.out)
          have hcb := col_bd 1000000 (xss.take k) (fun ys hy => hb.out ys (List.mem_of_mem_take hy)) (by omega) j
          have hlk : (xss.take k).length ≤ k := List.length_take_le _ _
          have hco := hown2.cell (mix_at n xss k hjn)
          have hfo := hown2.frozen j
          go_wp2
          go_roundw
          case rel => exact ⟨j + 1, by omega, by go_num, (hown2.set j _).congr (mix_set hx.out hx2.out), hbel2.setCell (Nat.le_refl _) _⟩
          case measure => simp [intOf]; omega
        · obtain rfl : j = xs.length := by omega
          clear hlt2
          go_wp2
          go_roundw
          case rel => exact ⟨k + 1, by omega, by go_num, hown2.congr (by rw [hxn.out, mix_end]), hbel2⟩
          case measure => simp [intOf]; omega
    · obtain rfl : k = xss.length := by omega
      clear hlt
      go_wp2
      go_ret
      rw [List.take_length] at hown
      have hlen : (tog n xss).length = n := by simp [tog]
      exact newI_of hlen hown hbel
set_option maxHeartbeats 1600000 in
theorem l24Votes_any (A : Option Addr) (xss : List (List Int)) (c n : Nat) (w : World) (h : RowsI w A xss) (h0 : 0 < xss.length) (hl : xss.length ≤ 1000) (hn : n ≤ 1000)
    (hr : Hid (∀ xs ∈ xss, xs.length = n)) (hb : Hid (∀ xs ∈ xss, ∀ x ∈ xs, 0 ≤ x ∧ x ≤ 1000000)) :
    Calls Try.prog 65 #[.slice A xss.length c] w (NewI w (tog n xss)) := by
  obtain ⟨ad0, ys0, B0, d0, rfl, hx0, hc0, hi0⟩ := h.at_ h0
  have hc0' : w.cell? ad0 = some (.slice B0 ys0.length d0) := by have := hc0; rwa [show ad0.add 0 = ad0 from by unfold Addr.add; simp] at this
  obtain rfl : ys0.length = n := hr.out ys0 (List.mem_of_getElem? hx0.out)
  obtain ⟨n, hn'⟩ : ∃ n, n = ys0.length := ⟨_, rfl⟩
  rw [← hn'] at hc0' hc0 hr hn ⊢
  clear hn'
  go_enter Try.func65, Try.ntmps65
  go_wp2_with (at_make; refine wpList_makeI _ rfl _ _ rfl n rfl rfl (by omega) ?_; intro w1 hown hbel hsz)
  go_loopw [4] (fun i wr => ∃ k : Nat, k ≤ xss.length ∧ i = .int .i64 k ∧ OwnI wr w.heap.size (some ⟨w.heap.size, 0, none⟩) n (tog n (xss.take k)) ∧ Below w.heap.size w wr) (fun i _ => xss.length - (intOf i).toNat)
  case atStart => exact ⟨0, by omega, rfl, by simpa [tog_none] using ‹OwnI _ _ _ _ _›, by assumption⟩
  case round =>
    obtain ⟨k, hk, rfl, hown, hbel⟩ := hrel
    by_cases hlt : k < xss.length
    · have hR := h.below hbel
      obtain ⟨ad, xs, B, d, e1, hx, hc, hi⟩ := hR.at_ hlt
      obtain rfl : ad0 = ad := by injection e1
      clear e1
      have hxn := Lib.hid (hr.out xs (List.mem_of_getElem? hx.out))
      have hxb := Lib.hid (hb.out xs (List.mem_of_getElem? hx.out))
      obtain ⟨hcw, hiw⟩ : w.cell? (ad0.add k) = some (.slice B xs.length d) ∧ Ints w B xs := by
        obtain ⟨ad', e, hh⟩ := h.read h0
        obtain rfl : ad0 = ad' := by injection e
        obtain ⟨B', c', q1, q2⟩ := hh k xs hx.out
        have hc1 := hc
        rw [hbel.cell (World.block_lt_of_cell? w _ q1), q1] at hc1
        injection hc1 with hc1
        injection hc1 with e1 _ e3
        subst e1
        subst e3
        exact ⟨q1, q2⟩
      clear hi
      go_wp2
      obtain ⟨wo, hwo⟩ : ∃ wo : World, wo = wr := ⟨_, rfl⟩
      subst hwo
      go_loopw [5] (fun i wr => ∃ j : Nat, j ≤ n ∧ i = .int .i64 j ∧ OwnI wr w.heap.size (some ⟨w.heap.size, 0, none⟩) n (mix n xss k j) ∧ Below w.heap.size w wr) (fun i _ => n - (intOf i).toNat)
      case atStart => exact ⟨0, by omega, rfl, by rw [mix_start]; exact hown, hbel⟩
      case round =>
        obtain ⟨j, hj, rfl, hown2, hbel2⟩ := hrel
        by_cases hjn : j < n
        · have hlt2 : j < xs.length := by have := hxn.out; omega
          obtain ⟨ad2, x, rfl, hx2, hcx⟩ := (hiw.below hbel2).at_ hlt2
          obtain ⟨hb0, hb1⟩ := hxb.out x (mem_of_at hx2.out)
          have hcb := col_bd 1000000 (xss.take k) (fun ys hy => hb.out ys (List.mem_of_mem_take hy)) (by omega) j
          have hlk : (xss.take k).length ≤ k := List.length_take_le _ _
          have hco := hown2.cell (mix_at n xss k hjn)
          have hfo := hown2.frozen j
          have hcr := (hbel2.cell (World.block_lt_of_cell? w _ hcw)).trans hcw
          have q1 : IntKind.i64.wrap (col (xss.take k) j + x) = col (xss.take k) j + x := IntWalk.i64_in _ (by omega)
          clear hcw hc
          go_wp2
          refine wp_still_tail 14 (by kernel_rfl) (by kernel_rfl) ?_
          simp only [List.take_succ_cons, List.take_zero, List.drop_succ_cons, List.drop_zero]
          repeat still_step
          refine wpStill_nil ?_
          clear q1
          go_wp2
          go_roundw
          case rel => exact ⟨j + 1, by omega, by go_num, (hown2.set j _).congr (mix_set hx.out hx2.out), hbel2.drew.setCell (Nat.le_refl _) _⟩
          case measure => simp [intOf]; omega
        · obtain rfl : j = n := by omega
          clear hjn
          go_wp2
          go_roundw
          case rel => exact ⟨k + 1, by omega, by go_num, hown2.congr (by rw [mix_end]), hbel2⟩
          case measure => simp [intOf]; omega
    · obtain rfl : k = xss.length := by omega
      clear hlt
      go_wp2
      go_ret
      rw [List.take_length] at hown
      have hlen : (tog n xss).length = n := by simp [tog]
      exact newI_of hlen hown hbel
end Go.Proofs.Ytcddfibohcgjbaa
