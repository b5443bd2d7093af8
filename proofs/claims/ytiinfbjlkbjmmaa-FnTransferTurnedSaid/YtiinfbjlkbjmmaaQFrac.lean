/-
  Fractions: the greatest common divisor, lowest terms.
-/
import Derived.Test.YtiinfbjlkbjmmaaQBase
import Derived.Test.YtiinfbjlkbjmmaaQFrame
import Derived.Laws.ResultCell
namespace Go.Proofs.Ytiinfbjlkbjmmaa
open Go.RowKit
set_option maxRecDepth 100000 in
theorem gcd_step (x y : Nat) : Nat.gcd y (x % y) = Nat.gcd x y := by
  rw [Nat.gcd_comm x y, Nat.gcd_rec y x, Nat.gcd_comm]
set_option maxRecDepth 100000 in
theorem tmod_nat (x y : Nat) (hy : 0 < y) : ∃ r : Nat, Int.tmod (x : Int) (y : Int) = (r : Int) ∧ r < y ∧ Hid (Nat.gcd y r = Nat.gcd x y) := ⟨x % y, rfl, Nat.mod_lt _ hy, gcd_step x y⟩
set_option maxRecDepth 100000 in
set_option maxHeartbeats 400000 in
theorem gcd_any (a b : Nat) (w : World) (ha : a ≤ 1000000000000000) (hb : b ≤ 1000000000000000) : Calls Try.prog 126 #[.int .i64 a, .int .i64 b] w (Qt w (.int .i64 (Nat.gcd a b))) := by
  go_enter Try.func126, Try.ntmps126
  go_wp2
  go_loopw [0, 1] (fun u v wr => ∃ x y m : Nat, u = .int .i64 x ∧ v = .int .i64 y ∧ x ≤ 1000000000000000 ∧ y ≤ 1000000000000000 ∧ Hid (Nat.gcd x y = Nat.gcd a b) ∧ wr = w.drewN m) (fun _ v _ => (intOf v).toNat)
  case atStart => exact ⟨a, b, 0, rfl, rfl, ha, hb, rfl, rfl⟩
  case round =>
    obtain ⟨x, y, m, rfl, rfl, hx, hy, hg, rfl⟩ := hrel
    by_cases hy0 : 0 < y
    · obtain ⟨r, t, hr, hg2⟩ := tmod_nat x y hy0
      have q1 : IntKind.i64.wrap (r : Int) = r := IntWalk.i64_in _ (by omega)
      have hyn : ((y : Int) != 0) = true := by simp; omega
      have hyz : ¬(y : Int) = 0 := by omega
      go_wp2
      go_quiet (fail)
      clear t q1
      go_wp2
      go_roundw
      case rel => exact ⟨y, r, _, rfl, rfl, hy, by omega, hg2.out.trans hg.out, by first | rfl | exact World.drewN_drewN _ _ _⟩
      case measure => simp [intOf]; omega
    · obtain rfl : y = 0 := by omega
      clear hy0
      have hq := Lib.hid (show x = Nat.gcd a b from by rw [← hg.out]; simp)
      go_wp2
      go_ret
      exact ⟨ret_int (by rw [← hq.out]), _, rfl⟩
set_option maxRecDepth 100000 in
set_option maxHeartbeats 400000 in
theorem l5Gcd_any (a b : Nat) (w : World) (ha : a ≤ 1000000000000000) (hb : b ≤ 1000000000000000) : Calls Try.prog 121 #[.int .i64 a, .int .i64 b] w (Ret w (.int .i64 (Nat.gcd a b))) := by
  go_enter Try.func121, Try.ntmps121
  go_wp2
  go_loop [0, 1, 5] (fun u v _ => ∃ x y : Nat, u = .int .i64 x ∧ v = .int .i64 y ∧ x ≤ 1000000000000000 ∧ y ≤ 1000000000000000 ∧ Hid (Nat.gcd x y = Nat.gcd a b)) (fun _ v _ => (intOf v).toNat)
  case atStart => exact ⟨a, b, rfl, rfl, ha, hb, rfl⟩
  case round =>
    obtain ⟨x, y, rfl, rfl, hx, hy, hg⟩ := hrel
    by_cases hy0 : 0 < y
    · obtain ⟨r, t, hr, hg2⟩ := tmod_nat x y hy0
      have q1 : IntKind.i64.wrap (r : Int) = r := IntWalk.i64_in _ (by omega)
      have hyz : ¬(y : Int) = 0 := by omega
      have hyp : (0 : Int) < y := by omega
      go_wp2
      go_round
      case rel => exact ⟨y, r, rfl, rfl, hy, by omega, hg2.out.trans hg.out⟩
      case measure => simp [intOf]; omega
    · obtain rfl : y = 0 := by omega
      clear hy0
      have hq := Lib.hid (show x = Nat.gcd a b from by rw [← hg.out]; simp)
      go_wp2
      go_ret
      exact ⟨ret_int (by rw [← hq.out]), rfl⟩
/-- A fraction in lowest terms whose numbers are in range. -/
def fvN (x y : Nat) : Bool := decide (x ≤ 9999999) && decide (1 ≤ y) && decide (y ≤ 9999999) && (Nat.gcd x y == 1)
def fracV (x y : Nat) : Value := .agg #[.int .i64 x, .int .i64 y]
set_option maxRecDepth 100000 in
set_option maxHeartbeats 400000 in
theorem fracValid_any (x y : Nat) (w : World) (hx : x ≤ 1000000000000000) (hy : y ≤ 1000000000000000) : Calls Try.prog 111 #[.agg #[.int .i64 x, .int .i64 y]] w (Bl w (.bool (fvN x y))) := by
  have hx0 : (-9999999 : Int) ≤ x := by omega
  by_cases h1 : x ≤ 9999999
  · by_cases h2 : 1 ≤ y
    · by_cases h3 : y ≤ 9999999
      · obtain ⟨G, hG⟩ : ∃ G, G = Nat.gcd x y := ⟨_, rfl⟩
        have hq := Lib.hid (show fvN x y = ((G : Int) == 1) from by
          rw [hG]; simp [fvN, h1, h2, h3]
          rw [Bool.eq_iff_iff]; simp; omega)
        have cG := Lib.hid (fun (w : World) => gcd_any x y w hx hy)
        rw [← hG] at cG
        clear hG
        go_enter Try.func111, Try.ntmps111
        go_wp2_with (go_at_call 126; refine (cG.out _).mono ?_; rintro e w1 ⟨rfl, m1, rfl⟩)
        go_ret
        exact ⟨ret_bool hq.out.symm, below_drewN ((Below.refl _ _).alloc (Nat.le_refl _) _) _⟩
      · have hq := Lib.hid (show fvN x y = false from by simp [fvN, h3])
        go_enter Try.func111, Try.ntmps111
        go_wp2
        go_ret
        exact ⟨ret_bool hq.out.symm, (Below.refl _ _).alloc (Nat.le_refl _) _⟩
    · have hq := Lib.hid (show fvN x y = false from by simp [fvN, h2])
      go_enter Try.func111, Try.ntmps111
      go_wp2
      go_ret
      exact ⟨ret_bool hq.out.symm, (Below.refl _ _).alloc (Nat.le_refl _) _⟩
  · have hq := Lib.hid (show fvN x y = false from by simp [fvN, h1])
    go_enter Try.func111, Try.ntmps111
    go_wp2
    go_ret
    exact ⟨ret_bool hq.out.symm, (Below.refl _ _).alloc (Nat.le_refl _) _⟩
set_option maxRecDepth 100000 in
theorem tdiv_nat (x g : Nat) : ∃ d : Nat, Int.tdiv (x : Int) (g : Int) = (d : Int) ∧ d ≤ x ∧ Hid (d = x / g) := ⟨x / g, rfl, Nat.div_le_self _ _, rfl⟩
set_option maxRecDepth 100000 in
set_option maxHeartbeats 400000 in
theorem l5Of_any (x y : Nat) (w : World) (hx : x ≤ 1000000000000000) (hy : y ≤ 1000000000000000) (hy0 : 0 < y) : Calls Try.prog 98 #[.int .i64 x, .int .i64 y] w (Bl w (.agg #[.int .i64 (x / Nat.gcd x y : Nat), .int .i64 (y / Nat.gcd x y : Nat)])) := by
  obtain ⟨G, hG⟩ : ∃ G, G = Nat.gcd x y := ⟨_, rfl⟩
  have hG0 : 0 < G := by rw [hG]; exact Nat.gcd_pos_of_pos_right _ hy0
  have cG := Lib.hid (fun (w : World) => l5Gcd_any x y w hx hy)
  rw [← hG] at cG ⊢
  clear hG
  obtain ⟨d1, t1, hd1, e1⟩ := tdiv_nat x G
  obtain ⟨d2, t2, hd2, e2⟩ := tdiv_nat y G
  rw [← e1.out, ← e2.out]
  have q1 : IntKind.i64.wrap (d1 : Int) = d1 := IntWalk.i64_in _ (by omega)
  have q2 : IntKind.i64.wrap (d2 : Int) = d2 := IntWalk.i64_in _ (by omega)
  have hgz : ¬(G : Int) = 0 := by omega
  have hgz2 : ¬G = 0 := by omega
  go_enter Try.func98, Try.ntmps98
  go_wp2_with (go_at_call 121; refine (cG.out _).mono ?_; rintro e w1 ⟨rfl, rfl⟩)
  refine wp_still_tail 7 (by kernel_rfl) (by kernel_rfl) ?_
  simp only [List.take_succ_cons, List.take_zero, List.drop_succ_cons, List.drop_zero]
  repeat still_step
  refine wpStill_nil ?_
  go_wp2
  (try simp only [Exit.inBlock, Exit.then])
  refine bodyPost_ret (v := .agg #[.int .i64 d1, .int .i64 d2]) ?_ rfl ⟨rfl, ?_⟩
  · simp [results, Try.f98]
    go_simp
  · exact ((Below.refl _ _).alloc (Nat.le_refl _) _).drew
/-- A fraction in lowest terms, if it is in range. -/
def redF (x y : Nat) : (Nat × Nat) × Bool := if fvN (x / Nat.gcd x y) (y / Nat.gcd x y) = true then ((x / Nat.gcd x y, y / Nat.gcd x y), true) else ((0, 0), false)
set_option maxRecDepth 100000 in
theorem redF_of {x y G d1 d2 : Nat} (hG : G = Nat.gcd x y) (h1 : d1 = x / G) (h2 : d2 = y / G) : redF x y = if fvN d1 d2 = true then ((d1, d2), true) else ((0, 0), false) := by
  subst hG
  subst h1
  subst h2
  rfl
def FracR (w : World) (r : (Nat × Nat) × Bool) (e : Ending) (w' : World) : Prop := e = .returned (.tuple #[.agg #[.int .i64 r.1.1, .int .i64 r.1.2], .bool r.2]) ∧ Below w.heap.size w w'
set_option maxRecDepth 100000 in
set_option maxHeartbeats 400000 in
theorem reduced_any (x y : Nat) (w : World) (hx : x ≤ 1000000000000000) (hy : y ≤ 1000000000000000) (hy0 : 0 < y) : Calls Try.prog 125 #[.int .i64 x, .int .i64 y] w (FracR w (redF x y)) := by
  obtain ⟨G, hG⟩ : ∃ G, G = Nat.gcd x y := ⟨_, rfl⟩
  have hG0 : 0 < G := by rw [hG]; exact Nat.gcd_pos_of_pos_right _ hy0
  have cG := Lib.hid (fun (w : World) => gcd_any x y w hx hy)
  rw [← hG] at cG
  obtain ⟨d1, t1, hd1, e1⟩ := tdiv_nat x G
  obtain ⟨d2, t2, hd2, e2⟩ := tdiv_nat y G
  have hr := Lib.hid (redF_of hG e1.out e2.out)
  clear hG
  have q1 : IntKind.i64.wrap (d1 : Int) = d1 := IntWalk.i64_in _ (by omega)
  have q2 : IntKind.i64.wrap (d2 : Int) = d2 := IntWalk.i64_in _ (by omega)
  have hgz : ¬(G : Int) = 0 := by omega
  have hgz2 : ¬G = 0 := by omega
  have cV := Lib.hid (fun (w : World) => fracValid_any d1 d2 w (by omega) (by omega))
  go_enter Try.func125, Try.ntmps125
  go_wp2_with (go_at_call 126; refine (cG.out _).mono ?_; rintro e w1 ⟨rfl, m1, rfl⟩)
  go_region
  clear t1 t2 q1 q2
  cases hv : fvN d1 d2
  all_goals
    go_wp2_with (go_at_call 111; refine (cV.out _).mono ?_; rintro e w2 ⟨rfl, hb2⟩; have hk1 : w2.heap[w.heap.size]? = some (.cells #[.int .i64 0, .int .i64 0] 75 (0, 0)) := (hb2.block w.heap.size (by simp; omega)).trans (heap_alloc2_old w _ _); have hk2 : w2.heap[w.heap.size + 1]? = some (.cells #[.int .i64 d1, .int .i64 d2] 75 (0, 0)) := (hb2.block (w.heap.size + 1) (by simp)).trans (heap_alloc2_new w _ _); have c0 := cell_of_row w2 _ 0 _ _ _ hk1; have c1 := cell_of_row w2 _ 1 _ _ _ hk1; have c2 := cell_of_row w2 _ 0 _ _ _ hk2; have c3 := cell_of_row w2 _ 1 _ _ _ hk2; have f0 := frozen_of_row w2 _ 0 _ _ hk1; have f1 := frozen_of_row w2 _ 1 _ _ hk1)
  · (try simp only [Exit.inBlock, Exit.then])
    refine bodyPost_ret (v := .tuple #[.agg #[.int .i64 0, .int .i64 0], .bool false]) ?_ rfl ⟨?_, ?_⟩
    · rw [results_cell_tmp rfl]; go_simp
    · rw [hr.out, hv]; rfl
    · have hbw : Below w.heap.size w w2 := by
        refine Below.trans ?_ (Below.mono hb2 ?_)
        · repeat (first | exact Below.refl _ _ | apply Below.drew | apply below_drewN | refine Below.alloc ?_ (by simp) _)
        · simp; omega
      exact Below.setCell (Below.setCell hbw (show w.heap.size ≤ (⟨w.heap.size, 0, none⟩ : Addr).block from Nat.le_refl _) _) (show w.heap.size ≤ (⟨w.heap.size, 1, none⟩ : Addr).block from Nat.le_refl _) _
  · (try simp only [Exit.inBlock, Exit.then])
    refine bodyPost_ret (v := .tuple #[.agg #[.int .i64 d1, .int .i64 d2], .bool true]) ?_ rfl ⟨?_, ?_⟩
    · rw [results_cell_tmp rfl]; go_simp
    · rw [hr.out, hv]; rfl
    · have hbw : Below w.heap.size w w2 := by
        refine Below.trans ?_ (Below.mono hb2 ?_)
        · repeat (first | exact Below.refl _ _ | apply Below.drew | apply below_drewN | refine Below.alloc ?_ (by simp) _)
        · simp; omega
      exact Below.setCell (Below.setCell hbw (show w.heap.size ≤ (⟨w.heap.size, 0, none⟩ : Addr).block from Nat.le_refl _) _) (show w.heap.size ≤ (⟨w.heap.size, 1, none⟩ : Addr).block from Nat.le_refl _) _
def fracOfF (x y : Nat) : (Nat × Nat) × Bool := if x ≤ 9999999 ∧ 1 ≤ y ∧ y ≤ 9999999 then redF x y else ((0, 0), false)
set_option maxRecDepth 100000 in
set_option maxHeartbeats 400000 in
theorem fracOf_any (x y : Nat) (w : World) : Calls Try.prog 112 #[.int .i64 x, .int .i64 y] w (FracR w (fracOfF x y)) := by
  have hx0 : (-9999999 : Int) ≤ x := by omega
  by_cases hall : x ≤ 9999999 ∧ 1 ≤ y ∧ y ≤ 9999999
  · obtain ⟨h1, h2, h3⟩ := hall
    have hq := Lib.hid (show fracOfF x y = redF x y from if_pos ⟨h1, h2, h3⟩)
    have cR := Lib.hid (fun (w : World) => reduced_any x y w (by omega) (by omega) h2)
    obtain ⟨⟨⟨d1, d2⟩, b⟩, hr⟩ : ∃ r, r = redF x y := ⟨_, rfl⟩
    rw [← hr] at cR hq
    clear hr
    go_enter Try.func112, Try.ntmps112
    go_wp2_with (go_at_call 125; refine (cR.out _).mono ?_; rintro e w2 ⟨rfl, hb2⟩; have hk1 : w2.heap[w.heap.size]? = some (.cells #[.int .i64 0, .int .i64 0] 75 (0, 0)) := (hb2.block w.heap.size (by simp)).trans (heap_alloc_new w _); have c0 := cell_of_row w2 _ 0 _ _ _ hk1; have c1 := cell_of_row w2 _ 1 _ _ _ hk1; have f0 := frozen_of_row w2 _ 0 _ _ hk1; have f1 := frozen_of_row w2 _ 1 _ _ hk1)
    (try simp only [Exit.inBlock, Exit.then])
    refine bodyPost_ret (v := .tuple #[.agg #[.int .i64 d1, .int .i64 d2], .bool b]) ?_ rfl ⟨?_, ?_⟩
    · rw [results_cell_tmp rfl]; go_simp
    · rw [hq.out]
    · have hbw : Below w.heap.size w w2 := ((Below.refl _ _).alloc (Nat.le_refl _) _).trans (hb2.mono (by simp))
      exact Below.setCell (Below.setCell hbw (show w.heap.size ≤ (⟨w.heap.size, 0, none⟩ : Addr).block from Nat.le_refl _) _) (show w.heap.size ≤ (⟨w.heap.size, 1, none⟩ : Addr).block from Nat.le_refl _) _
  · have hq := Lib.hid (show fracOfF x y = ((0, 0), false) from if_neg hall)
    by_cases h1 : x ≤ 9999999
    · by_cases h2 : 1 ≤ y
      · have h3 : 9999999 < y := by omega
        clear hall
        go_enter Try.func112, Try.ntmps112
        go_wp2
        (try simp only [Exit.inBlock, Exit.then])
        refine bodyPost_ret (v := .tuple #[.agg #[.int .i64 0, .int .i64 0], .bool false]) ?_ rfl ⟨?_, ?_⟩
        · rw [results_cell_tmp rfl]; go_simp
        · rw [hq.out]; rfl
        · exact (Below.refl _ _).alloc (Nat.le_refl _) _
      · clear hall
        go_enter Try.func112, Try.ntmps112
        go_wp2
        (try simp only [Exit.inBlock, Exit.then])
        refine bodyPost_ret (v := .tuple #[.agg #[.int .i64 0, .int .i64 0], .bool false]) ?_ rfl ⟨?_, ?_⟩
        · rw [results_cell_tmp rfl]; go_simp
        · rw [hq.out]; rfl
        · exact (Below.refl _ _).alloc (Nat.le_refl _) _
    · clear hall
      go_enter Try.func112, Try.ntmps112
      go_wp2
      (try simp only [Exit.inBlock, Exit.then])
      refine bodyPost_ret (v := .tuple #[.agg #[.int .i64 0, .int .i64 0], .bool false]) ?_ rfl ⟨?_, ?_⟩
      · rw [results_cell_tmp rfl]; go_simp
      · rw [hq.out]; rfl
      · exact (Below.refl _ _).alloc (Nat.le_refl _) _
end Go.Proofs.Ytiinfbjlkbjmmaa
