/-
  As how many equal parties some parties count, of the program and of the reference.
-/
import Derived.Test.YtcddfibohcgjbaaFrac
import Derived.Test.YtcddfibohcgjbaaDiff
namespace Go.Proofs.Ytcddfibohcgjbaa
open Go.RowKit
theorem redF_t {x y : Nat} (hx : x ≤ 9999999) (h1 : 1 ≤ y) (hy : y ≤ 9999999) : redF x y = ((x / Nat.gcd x y, y / Nat.gcd x y), true) := by
  have hg : 0 < Nat.gcd x y := Nat.gcd_pos_of_pos_right _ h1
  have hv : fvN (x / Nat.gcd x y) (y / Nat.gcd x y) = true := by
    have a1 := Nat.div_le_self x (Nat.gcd x y)
    have a2 := Nat.div_le_self y (Nat.gcd x y)
    have a3 : 1 ≤ y / Nat.gcd x y := Nat.div_pos (Nat.le_of_dvd h1 (Nat.gcd_dvd_right x y)) hg
    have a4 : Nat.gcd (x / Nat.gcd x y) (y / Nat.gcd x y) = 1 := by
      rw [Nat.gcd_div (Nat.gcd_dvd_left x y) (Nat.gcd_dvd_right x y)]
      exact Nat.div_self hg
    simp [fvN, a4, a3]
    omega
  unfold redF
  rw [if_pos hv]
def partsF (xs : List Int) : (Nat × Nat) × Bool :=
  if vv xs = true then ((xs.sum.toNat * xs.sum.toNat / Nat.gcd (xs.sum.toNat * xs.sum.toNat) (sqL xs).toNat, (sqL xs).toNat / Nat.gcd (xs.sum.toNat * xs.sum.toNat) (sqL xs).toNat), true) else ((0, 0), false)
theorem partsF_f {xs : List Int} (h : vv xs = false) : partsF xs = ((0, 0), false) := by unfold partsF; rw [h]; rfl
theorem partsF_t {xs : List Int} (h : vv xs = true) {T Q : Nat} (hT : xs.sum = T) (hQ : sqL xs = Q) : partsF xs = ((T * T / Nat.gcd (T * T) Q, Q / Nat.gcd (T * T) Q), true) := by
  unfold partsF; rw [if_pos h, hT, hQ]; rfl
theorem sqL_nonneg (t : List Int) : 0 ≤ sqL t := by
  induction t with
  | nil => simp [sqL]
  | cons a t ih =>
    have e : sqL (a :: t) = a * a + sqL t := by simp [sqL]
    have h2 : 0 ≤ a * a := by
      rcases Int.le_total 0 a with h | h
      · exact Int.mul_nonneg h h
      · have := Int.mul_nonneg (show 0 ≤ -a by omega) (show 0 ≤ -a by omega)
        rwa [Int.neg_mul_neg] at this
    omega
theorem sq_pos {xs : List Int} (h : ∀ x ∈ xs, 0 ≤ x) (hs : 0 < xs.sum) : 0 < sqL xs := by
  induction xs with
  | nil => simp at hs
  | cons a t ih =>
    have e : sqL (a :: t) = a * a + sqL t := by simp [sqL]
    have h0 := h a (by simp)
    have ht := sqL_nonneg t
    rcases Int.lt_or_eq_of_le h0 with ha | ha
    · have := Int.mul_pos ha ha
      omega
    · subst ha
      have h3 := ih (fun x hx => h x (by simp [hx])) (by simpa using hs)
      simp only [Int.mul_zero] at e
      omega
/-- The numbers that both work with. -/
theorem parts_facts {xs : List Int} (hv : vv xs = true) : ∃ T Q : Nat, xs.sum = T ∧ sqL xs = Q ∧ T ≤ 495 ∧ T * T ≤ 245025 ∧ 1 ≤ Q ∧ Q ≤ 49005 := by
  obtain ⟨hb, ⟨hl1, hl5⟩, hs⟩ := vv_iff.1 hv
  have h1 := sum_bd xs 99 (fun x hx => by have := hb x hx; omega)
  have h2 := sqL_bd xs 99 (fun x hx => by have := hb x hx; omega)
  have h3 := sq_pos (fun x hx => (hb x hx).1) hs
  obtain ⟨T, hT⟩ := Int.eq_ofNat_of_zero_le (show 0 ≤ xs.sum by omega)
  obtain ⟨Q, hQ⟩ := Int.eq_ofNat_of_zero_le (show 0 ≤ sqL xs by omega)
  have hT5 : T ≤ 495 := by omega
  exact ⟨T, Q, hT, hQ, hT5, Nat.mul_le_mul hT5 hT5, by omega, by omega⟩
set_option maxHeartbeats 800000 in
theorem implParties_any (A : Option Addr) (xs : List Int) (c : Nat) (w : World) (h : Ints w A xs) (hl : xs.length ≤ 1048576) :
    Calls Try.prog 21 #[.slice A xs.length c] w (FracR w (partsF xs)) := by
  have h' := h.alloc (.cells #[.int .i64 0, .int .i64 0] 33)
  cases hv : vv xs
  · have hq := Lib.hid (partsF_f hv)
    go_enter Try.func21, Try.ntmps21
    go_wp2_with (go_at_call 48; refine (votesValid_any _ _ _ _ h' hl).mono ?_; rintro e w' ⟨rfl, rfl⟩)
    (try simp only [Exit.inBlock, Exit.then])
    refine bodyPost_ret (v := .tuple #[.agg #[.int .i64 0, .int .i64 0], .bool false]) ?_ rfl ⟨?_, ?_⟩
    · rw [results_cell_tmp rfl]; go_simp
    · rw [hq.out]; rfl
    · exact (Below.refl _ _).alloc (Nat.le_refl _) _
  · obtain ⟨T, Q, hT, hQ, hT5, hT2, hQ1, hQ5⟩ := parts_facts hv
    have hq := Lib.hid (partsF_t hv hT hQ)
    have hb := (vv_iff.1 hv).1
    have HX := Lib.hid hb
    have HB := Lib.hid (show ∀ x ∈ xs, -1000000000 ≤ x ∧ x ≤ 1000000000 from fun x hx => by have := HX.out x hx; omega)
    have hn5 := (vv_iff.1 hv).2.1.2
    have HQ := Lib.hid hQ
    have cS := Lib.hid (fun (w : World) (h : Ints w A xs) => implSum_any A xs c w h hl HB.out)
    rw [hT] at cS
    have cF := Lib.hid (fun (w : World) => fracOf_any (T * T) Q w)
    have hfr : fracOfF (T * T) Q = ((T * T / Nat.gcd (T * T) Q, Q / Nat.gcd (T * T) Q), true) := by
      unfold fracOfF
      rw [if_pos ⟨by omega, hQ1, by omega⟩, redF_t (by omega) hQ1 (by omega)]
    rw [hfr] at cF
    obtain ⟨d1, hd1⟩ : ∃ d, d = T * T / Nat.gcd (T * T) Q := ⟨_, rfl⟩
    obtain ⟨d2, hd2⟩ : ∃ d, d = Q / Nat.gcd (T * T) Q := ⟨_, rfl⟩
    obtain ⟨T2, hTT⟩ : ∃ T2, T2 = T * T := ⟨_, rfl⟩
    have eTT : (T : Int) * (T : Int) = (T2 : Int) := by rw [hTT]; push_cast; rfl
    rw [← hd1, ← hd2] at cF hq
    rw [← hTT] at cF hT2
    have qT : IntKind.i64.wrap ((T : Int) * (T : Int)) = T2 := by rw [eTT]; exact IntWalk.i64_in _ (by omega)
    clear eTT
    clear hfr hd1 hd2 hTT hT hQ hb
    go_enter Try.func21, Try.ntmps21
    go_wp2_with (go_at_call 48; refine (votesValid_any _ _ _ _ h' hl).mono ?_; rintro e w' ⟨rfl, rfl⟩)
    go_loop [4, 6, 13] (fun n _ i => ∃ k : Nat, k ≤ xs.length ∧ i = .int .i64 k ∧ n = .int .i64 (sqL (xs.take k))) (fun _ _ i => xs.length - (intOf i).toNat)
    case atStart => exact ⟨0, by omega, rfl, rfl⟩
    case round =>
      obtain ⟨k, hk, rfl, rfl⟩ := hrel
      by_cases hlt : k < xs.length
      · obtain ⟨ad, x, rfl, hx, hc⟩ := h'.at_ hlt
        obtain ⟨hx0, hx1⟩ := HX.out x (mem_of_at hx.out)
        obtain ⟨hm0, hm1⟩ := mul_bd (M := 99) (N := 99) ⟨hx0, hx1⟩ ⟨hx0, hx1⟩
        obtain ⟨hn0, hn1⟩ := sqL_bd (xs.take k) 99 (fun x hx => by have := HX.out x (mem_take hx); omega)
        have hlk : (xs.take k).length ≤ k := List.length_take_le _ _
        go_wp2
        go_round
        case rel => exact ⟨k + 1, by omega, by go_num, by rw [sqL_snoc _ _ _ hx.out]⟩
        case measure => simp [intOf]; omega
      · obtain rfl : k = xs.length := by omega
        clear hlt
        rw [List.take_length, HQ.out]
        go_wp2_with (first | (go_at_call 49; refine (cS.out _ h').mono ?_; rintro e w' ⟨rfl, rfl⟩) | (go_at_call 53; refine (cF.out _).mono ?_; rintro e w2 ⟨rfl, hb2⟩; have hk1 : w2.heap[w.heap.size]? = some (.cells #[.int .i64 0, .int .i64 0] 33 (0, 0)) := (hb2.block w.heap.size (by simp)).trans (heap_alloc_new w _); have c0 := cell_of_row w2 _ 0 _ _ _ hk1; have c1 := cell_of_row w2 _ 1 _ _ _ hk1; have f0 := frozen_of_row w2 _ 0 _ _ hk1; have f1 := frozen_of_row w2 _ 1 _ _ hk1))
        (try simp only [Exit.inBlock, Exit.then])
        refine bodyPost_ret (v := .tuple #[.agg #[.int .i64 d1, .int .i64 d2], .bool true]) ?_ rfl ⟨?_, ?_⟩
        · rw [results_cell_tmp rfl]; go_simp
        · rw [hq.out]
        · have hbw : Below w.heap.size w w2 := ((Below.refl _ _).alloc (Nat.le_refl _) _).trans (hb2.mono (by simp))
          exact Below.setCell (Below.setCell hbw (show w.heap.size ≤ (⟨w.heap.size, 0, none⟩ : Addr).block from Nat.le_refl _) _) (show w.heap.size ≤ (⟨w.heap.size, 1, none⟩ : Addr).block from Nat.le_refl _) _
set_option maxHeartbeats 800000 in
theorem specParties_any (A : Option Addr) (xs : List Int) (c : Nat) (w : World) (h : Ints w A xs) (hl : xs.length ≤ 1048576) :
    Calls Try.prog 22 #[.slice A xs.length c] w (FracR w (partsF xs)) := by
  have h' := h.alloc (.cells #[.int .i64 0, .int .i64 0] 33)
  cases hv : vv xs
  · have hq := Lib.hid (partsF_f hv)
    go_enter Try.func22, Try.ntmps22
    go_wp2_with (go_at_call 50; refine (l21Votes_any _ _ _ _ h' hl).mono ?_; rintro e w' ⟨rfl, rfl⟩)
    (try simp only [Exit.inBlock, Exit.then])
    refine bodyPost_ret (v := .tuple #[.agg #[.int .i64 0, .int .i64 0], .bool false]) ?_ rfl ⟨?_, ?_⟩
    · rw [results_cell_tmp rfl]; go_simp
    · rw [hq.out]; rfl
    · exact (Below.refl _ _).alloc (Nat.le_refl _) _
  · obtain ⟨T, Q, hT, hQ, hT5, hT2, hQ1, hQ5⟩ := parts_facts hv
    have hq := Lib.hid (partsF_t hv hT hQ)
    have HX := Lib.hid (vv_iff.1 hv).1
    have HB := Lib.hid (show ∀ x ∈ xs, -1000000000 ≤ x ∧ x ≤ 1000000000 from fun x hx => by have := HX.out x hx; omega)
    have hn5 := (vv_iff.1 hv).2.1.2
    have HQ := Lib.hid hQ
    have cS := Lib.hid (fun (w : World) (h : Ints w A xs) => l22Sum_any A xs c w h hl HB.out)
    rw [hT] at cS
    have cF := Lib.hid (fun (w : World) => l5Of_any (T * T) Q w (by omega) (by omega) hQ1)
    obtain ⟨d1, hd1⟩ : ∃ d, d = T * T / Nat.gcd (T * T) Q := ⟨_, rfl⟩
    obtain ⟨d2, hd2⟩ : ∃ d, d = Q / Nat.gcd (T * T) Q := ⟨_, rfl⟩
    obtain ⟨T2, hTT⟩ : ∃ T2, T2 = T * T := ⟨_, rfl⟩
    have eTT : (T : Int) * (T : Int) = (T2 : Int) := by rw [hTT]; push_cast; rfl
    rw [← hd1, ← hd2] at cF hq
    rw [← hTT] at cF hT2
    have qT : IntKind.i64.wrap ((T : Int) * (T : Int)) = T2 := by rw [eTT]; exact IntWalk.i64_in _ (by omega)
    clear eTT hd1 hd2 hTT hT hQ
    go_enter Try.func22, Try.ntmps22
    go_wp2_with (go_at_call 50; refine (l21Votes_any _ _ _ _ h' hl).mono ?_; rintro e w' ⟨rfl, rfl⟩)
    go_loopw [4, 5] (fun n i wr => ∃ k m : Nat, k ≤ xs.length ∧ i = .int .i64 k ∧ n = .int .i64 (sqL (xs.take k)) ∧ wr = (w.alloc (.cells #[.int .i64 0, .int .i64 0] 33)).drewN m) (fun _ i _ => xs.length - (intOf i).toNat)
    case atStart => exact ⟨0, 0, by omega, rfl, rfl, rfl⟩
    case round =>
      obtain ⟨k, m, hk, rfl, rfl, rfl⟩ := hrel
      by_cases hlt : k < xs.length
      · obtain ⟨ad, x, rfl, hx, hc⟩ := h'.at_ hlt
        obtain ⟨hx0, hx1⟩ := HX.out x (mem_of_at hx.out)
        obtain ⟨hm0, hm1⟩ := mul_bd (M := 99) (N := 99) ⟨hx0, hx1⟩ ⟨hx0, hx1⟩
        obtain ⟨hn0, hn1⟩ := sqL_bd (xs.take k) 99 (fun x hx => by have := HX.out x (mem_take hx); omega)
        have hlk : (xs.take k).length ≤ k := List.length_take_le _ _
        have hsn := Lib.hid (sqL_snoc _ _ _ hx.out)
        have q1 : IntKind.i64.wrap (x * x) = x * x := IntWalk.i64_in _ (by omega)
        have q2 : IntKind.i64.wrap (sqL (xs.take k) + x * x) = sqL (xs.take k) + x * x := IntWalk.i64_in _ (by omega)
        go_wp2
        go_quiet (fail)
        clear q1 q2
        go_wp2
        go_roundw
        case rel => exact ⟨k + 1, _, by omega, by go_num, by rw [hsn.out], rfl⟩
        case measure => simp [intOf]; omega
      · obtain rfl : k = xs.length := by omega
        clear hlt
        rw [List.take_length, HQ.out]
        go_wp2_with (first | (go_at_call 52; refine (cS.out _ (h'.drewN m)).mono ?_; rintro e w' ⟨rfl, rfl⟩) | (go_at_call 54; refine (cF.out _).mono ?_; rintro e w2 ⟨rfl, hb2⟩; have hk1 : w2.heap[w.heap.size]? = some (.cells #[.int .i64 0, .int .i64 0] 33 (0, 0)) := (hb2.block w.heap.size (by simp)).trans (heap_alloc_new w _); have c0 := cell_of_row w2 _ 0 _ _ _ hk1; have c1 := cell_of_row w2 _ 1 _ _ _ hk1; have f0 := frozen_of_row w2 _ 0 _ _ hk1; have f1 := frozen_of_row w2 _ 1 _ _ hk1))
        (try simp only [Exit.inBlock, Exit.then])
        refine bodyPost_ret (v := .tuple #[.agg #[.int .i64 d1, .int .i64 d2], .bool true]) ?_ rfl ⟨?_, ?_⟩
        · rw [results_cell_tmp rfl]; go_simp
        · rw [hq.out]
        · have hbw : Below w.heap.size w w2 := (below_drewN ((Below.refl _ _).alloc (Nat.le_refl _) _) m).trans (hb2.mono (by simp))
          exact Below.setCell (Below.setCell hbw (show w.heap.size ≤ (⟨w.heap.size, 0, none⟩ : Addr).block from Nat.le_refl _) _) (show w.heap.size ≤ (⟨w.heap.size, 1, none⟩ : Addr).block from Nat.le_refl _) _
end Go.Proofs.Ytcddfibohcgjbaa
