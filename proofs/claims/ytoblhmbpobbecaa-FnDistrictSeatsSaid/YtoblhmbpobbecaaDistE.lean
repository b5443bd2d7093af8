/-
  Draws of districts, seats, a method and lots.
-/
import Derived.Test.YtoblhmbpobbecaaDistP
import Derived.Test.YtoblhmbpobbecaaLotsE
namespace Go.Proofs.Ytoblhmbpobbecaa
open Go.ChangeShapes Go.WideShapes Go.ChangeAt Go.RowKit
def DrawnDS (w : World) (e : Ending) (w' : World) : Prop := ∃ (A : Option Addr) (c : Nat) (vs : List Row) (s m : Int) (A2 : Option Addr) (c2 : Nat) (ls : List Int),
  e = .returned (.tuple #[.slice A vs.length c, .int .i64 s, .int .i64 m, .slice A2 ls.length c2]) ∧ vs.length ≤ 12 ∧ OwnT w' w.heap.size w.heap.size A vs.length c vs ∧ DrewI w w' A2 c2 ls
theorem drawnDS_of {w w1 w2 w' : World} {rb n c n2 c2 : Nat} {A A2 : Option Addr} {vs : List Row} {ls : List Int} {s m : Int} (h : OwnT w' w1.heap.size w1.heap.size A n c vs) (hn : n ≤ 12) (h2 : OwnN w' w2.heap.size A2 n2 c2 ls) (hn2 : n2 ≤ 5) (hb : Below w.heap.size w w1) (hrb : w.heap.size ≤ rb) (hd : Dr rb w1 w') (hz : w1.heap.size ≤ w2.heap.size) :
    DrawnDS w (.returned (.tuple #[.slice A n c, .int .i64 s, .int .i64 m, .slice A2 n2 c2])) w' := by
  obtain ⟨rfl, h5⟩ := drewI_of h2 hn2 hb hrb hd hz
  obtain rfl := h.len
  exact ⟨A, c, vs, s, m, A2, c2, ls, rfl, hn, ⟨h.len, (h.mono hb.size).row, fun v hv => ⟨(h.own v hv).1.mono hb.size, (h.own v hv).2⟩⟩, h5⟩
set_option maxRecDepth 100000 in
set_option maxHeartbeats 1600000 in
theorem drawDS_any (A : Option Addr) (n c : Nat) (w : World) (h : BytsA w A n c) : Calls Try.prog 32 #[.slice A n c] w (DrawnDS w) := by
  go_enter Try.func32, Try.ntmps32
  go_wp2_with fail
  refine (l6Open_any _ _ _ _ h.read h.len h.cap).mono ?_
  rintro e w1 ⟨rb, rfl, hrb, hrd1, hb1⟩
  have hrb1 := hrd1.lt
  go_wp2_with fail
  refine (l93Districts_any rb 0 _ hrd1 (by omega)).mono ?_
  rintro e w2 ⟨A2, c2, vs, m2, p2, rfl, hm2, hT2, hp2, hrd2, hdr2, hRb⟩
  have hrb2 := hrd2.lt
  have hz2 := hdr2.size
  obtain ⟨N, hN1, hN5, hN⟩ : ∃ N : Nat, 1 ≤ N ∧ N ≤ 5 ∧ ((m2 = 0 ∧ N = 3) ∨ (0 < m2 ∧ ∃ v, vs[0]? = some v ∧ v.2.2.length = N)) := by
    by_cases h0 : m2 = 0
    · exact ⟨3, by omega, by omega, .inl ⟨h0, rfl⟩⟩
    · have hv := List.getElem?_eq_getElem (l := vs) (i := 0) (by rw [hT2.len]; omega)
      have := hRb _ (List.mem_of_getElem? hv)
      exact ⟨_, this.1, this.2, .inr ⟨by omega, _, hv, rfl⟩⟩
  rcases hN with ⟨rfl, rfl⟩ | ⟨hm0, v, hv, hvl⟩
  · go_wp2_with fail
    refine (l91Lots_any rb p2 3 _ hrd2 (by omega) (by omega) (by omega)).mono ?_
    rintro e w5 ⟨A5, c5, ls, m5, p5, rfl, hm5, hl5, hp5, hrd5, hdr5⟩
    have hT5 := hT2.dr hdr5 hrb1 hrb1
    have hd5 := hdr2.trans hdr5
    clear hrd2
    go_wp2_with fail
    refine (pick_n rb p5 _ _ hrd5 (by omega) (by omega) (by omega)).mono ?_
    rintro e w6 ⟨q6, hq6, rfl, hrd6, hdr6⟩
    have hT6 := hT5.dr hdr6 hrb1 hrb1
    have hl6 := hl5.dr hdr6 hrb2
    have hd6 := hd5.trans hdr6
    have hrb6 := hrd6.lt
    by_cases hq0 : q6 = 0
    · subst hq0
      go_wp2_with fail
      go_region_with (first
        | (go_at_call 62; (with_reducible refine (pick_n rb (p5 + 1) _ _ ((hrd6.alloc _).drew) (by omega) (by omega) (by omega)).mono ?_); rintro e w7 ⟨q7, hq7, rfl, hrd7, hdr7⟩; obtain ⟨v, hv⟩ := lit3 w6 (-1) 20 21 q7 hq7; have hv7 := hdr7.cell (a := ⟨w6.heap.size, q7, none⟩) (v := .int .i64 v) hv (by simp; omega))
        | (go_at_call 62; (with_reducible refine (pick_n rb (p5 + 1) _ _ (hrd6.drew) (by omega) (by omega) (by omega)).mono ?_); rintro e w7 ⟨q7, hq7, rfl, hrd7, hdr7⟩; obtain ⟨v, hv⟩ := lit3 w7 (-1) 20 21 q7 hq7)
        | (go_at_call 62; (with_reducible refine (pick_n rb (p5 + 2) _ _ hrd7 (by omega) (by omega) (by omega)).mono ?_); rintro e w8 ⟨q8, hq8, rfl, hrd8, hdr8⟩; have hv8 := hdr8.cell hv7 (by simp; omega))
        | (go_at_call 62; (with_reducible refine (pick_n rb (p5 + 2) _ _ hrd7 (by omega) (by omega) (by omega)).mono ?_); rintro e w8 ⟨q8, hq8, rfl, hrd8, hdr8⟩; obtain ⟨v', hv'⟩ := lit3 w8 (-1) 20 21 q7 hq7)
        | (go_at_call 62; (with_reducible refine (pick_n rb (p5 + 2) _ _ (hrd7.alloc _) (by omega) (by omega) (by omega)).mono ?_); rintro e w8 ⟨q8, hq8, rfl, hrd8, hdr8⟩; have hv8 := hdr8.cell (a := ⟨w7.heap.size, q7, none⟩) (v := .int .i64 v) hv (by have := hrd7.lt; simp; omega)))
      all_goals go_wp2
      all_goals first
        | (refine bodyPost_ret (v := .tuple #[.slice A2 0 c2, .int .i64 v, .int .i64 q8, .slice A5 m5 c5]) ?_ rfl (drawnDS_of (((hT6.alloc _).drew').dr hdr7 hrb1 hrb1 |>.dr hdr8 hrb1 hrb1) hm2 (((hl6.alloc' _).drew'.dr hdr7 hrb2).dr hdr8 hrb2) (by omega) hb1 hrb ((((hd6.alloc _).drew).trans hdr7).trans hdr8) hz2); simp [results, Try.results32, go_sem]; done)
        | (refine bodyPost_ret (v := .tuple #[.slice A2 0 c2, .int .i64 v', .int .i64 q8, .slice A5 m5 c5]) ?_ rfl (drawnDS_of (((hT6.drew').dr hdr7 hrb1 hrb1 |>.dr hdr8 hrb1 hrb1).alloc _) hm2 ((((hl6.drew').dr hdr7 hrb2).dr hdr8 hrb2).alloc' _) (by omega) hb1 hrb ((((hd6.drew).trans hdr7).trans hdr8).alloc _) hz2); simp [results, Try.results32, go_sem]; done)
        | (refine bodyPost_ret (v := .tuple #[.slice A2 0 c2, .int .i64 v, .int .i64 q8, .slice A5 m5 c5]) ?_ rfl (drawnDS_of (((hT6.drew').dr hdr7 hrb1 hrb1).alloc _ |>.dr hdr8 hrb1 hrb1) hm2 ((((hl6.drew').dr hdr7 hrb2).alloc' _).dr hdr8 hrb2) (by omega) hb1 hrb ((((hd6.drew).trans hdr7).alloc _).trans hdr8) hz2); simp [results, Try.results32, go_sem]; done)
    · have hqb : ((q6 : Int) == 0) = false := by simp; omega
      go_wp2_with fail
      refine (pick_n rb (p5 + 1) _ _ hrd6 (by omega) (by omega) (by omega)).mono ?_
      rintro e w7 ⟨q7, hq7, rfl, hrd7, hdr7⟩
      go_wp2_with fail
      refine (pick_n rb (p5 + 2) _ _ hrd7 (by omega) (by omega) (by omega)).mono ?_
      rintro e w8 ⟨q8, hq8, rfl, hrd8, hdr8⟩
      go_wp2
      refine bodyPost_ret (v := .tuple #[.slice A2 0 c2, .int .i64 q7, .int .i64 (1 + q8), .slice A5 m5 c5]) ?_ rfl (drawnDS_of ((hT6.dr hdr7 hrb1 hrb1).dr hdr8 hrb1 hrb1) hm2 ((hl6.dr hdr7 hrb2).dr hdr8 hrb2) (by omega) hb1 hrb ((hd6.trans hdr7).trans hdr8) hz2); simp [results, Try.results32, go_sem]
  · obtain ⟨B, d, xs⟩ := v
    have hvl : xs.length = N := hvl
    subst hvl
    obtain ⟨g, rfl, hgb, hgl, _⟩ := hT2.cells hm0
    have hc0 := World.ownsRow.cells hT2.row (g := g) rfl 0 (.slice B xs.length d) (by rw [List.getElem?_map, hv]; rfl)
    rw [add_row] at hc0
    have hm0i : (0 : Int) < (m2 : Int) := by omega
    clear hv
    go_wp2_with fail
    refine (l91Lots_any rb p2 xs.length _ hrd2 (by omega) hN1 hN5).mono ?_
    rintro e w5 ⟨A5, c5, ls, m5, p5, rfl, hm5, hl5, hp5, hrd5, hdr5⟩
    have hT5 := hT2.dr hdr5 hrb1 hrb1
    have hd5 := hdr2.trans hdr5
    clear hrd2 hc0
    go_wp2_with fail
    refine (pick_n rb p5 _ _ hrd5 (by omega) (by omega) (by omega)).mono ?_
    rintro e w6 ⟨q6, hq6, rfl, hrd6, hdr6⟩
    have hT6 := hT5.dr hdr6 hrb1 hrb1
    have hl6 := hl5.dr hdr6 hrb2
    have hd6 := hd5.trans hdr6
    have hrb6 := hrd6.lt
    by_cases hq0 : q6 = 0
    · subst hq0
      go_wp2_with fail
      go_region_with (first
        | (go_at_call 62; (with_reducible refine (pick_n rb (p5 + 1) _ _ ((hrd6.alloc _).drew) (by omega) (by omega) (by omega)).mono ?_); rintro e w7 ⟨q7, hq7, rfl, hrd7, hdr7⟩; obtain ⟨v, hv⟩ := lit3 w6 (-1) 20 21 q7 hq7; have hv7 := hdr7.cell (a := ⟨w6.heap.size, q7, none⟩) (v := .int .i64 v) hv (by simp; omega))
        | (go_at_call 62; (with_reducible refine (pick_n rb (p5 + 1) _ _ (hrd6.drew) (by omega) (by omega) (by omega)).mono ?_); rintro e w7 ⟨q7, hq7, rfl, hrd7, hdr7⟩; obtain ⟨v, hv⟩ := lit3 w7 (-1) 20 21 q7 hq7)
        | (go_at_call 62; (with_reducible refine (pick_n rb (p5 + 2) _ _ hrd7 (by omega) (by omega) (by omega)).mono ?_); rintro e w8 ⟨q8, hq8, rfl, hrd8, hdr8⟩; have hv8 := hdr8.cell hv7 (by simp; omega))
        | (go_at_call 62; (with_reducible refine (pick_n rb (p5 + 2) _ _ hrd7 (by omega) (by omega) (by omega)).mono ?_); rintro e w8 ⟨q8, hq8, rfl, hrd8, hdr8⟩; obtain ⟨v', hv'⟩ := lit3 w8 (-1) 20 21 q7 hq7)
        | (go_at_call 62; (with_reducible refine (pick_n rb (p5 + 2) _ _ (hrd7.alloc _) (by omega) (by omega) (by omega)).mono ?_); rintro e w8 ⟨q8, hq8, rfl, hrd8, hdr8⟩; have hv8 := hdr8.cell (a := ⟨w7.heap.size, q7, none⟩) (v := .int .i64 v) hv (by have := hrd7.lt; simp; omega)))
      all_goals go_wp2
      all_goals first
        | (refine bodyPost_ret (v := .tuple #[.slice (some ⟨g, 0, none⟩) m2 c2, .int .i64 v, .int .i64 q8, .slice A5 m5 c5]) ?_ rfl (drawnDS_of (((hT6.alloc _).drew').dr hdr7 hrb1 hrb1 |>.dr hdr8 hrb1 hrb1) hm2 (((hl6.alloc' _).drew'.dr hdr7 hrb2).dr hdr8 hrb2) (by omega) hb1 hrb ((((hd6.alloc _).drew).trans hdr7).trans hdr8) hz2); simp [results, Try.results32, go_sem]; done)
        | (refine bodyPost_ret (v := .tuple #[.slice (some ⟨g, 0, none⟩) m2 c2, .int .i64 v', .int .i64 q8, .slice A5 m5 c5]) ?_ rfl (drawnDS_of (((hT6.drew').dr hdr7 hrb1 hrb1 |>.dr hdr8 hrb1 hrb1).alloc _) hm2 ((((hl6.drew').dr hdr7 hrb2).dr hdr8 hrb2).alloc' _) (by omega) hb1 hrb ((((hd6.drew).trans hdr7).trans hdr8).alloc _) hz2); simp [results, Try.results32, go_sem]; done)
        | (refine bodyPost_ret (v := .tuple #[.slice (some ⟨g, 0, none⟩) m2 c2, .int .i64 v, .int .i64 q8, .slice A5 m5 c5]) ?_ rfl (drawnDS_of (((hT6.drew').dr hdr7 hrb1 hrb1).alloc _ |>.dr hdr8 hrb1 hrb1) hm2 ((((hl6.drew').dr hdr7 hrb2).alloc' _).dr hdr8 hrb2) (by omega) hb1 hrb ((((hd6.drew).trans hdr7).alloc _).trans hdr8) hz2); simp [results, Try.results32, go_sem]; done)
    · have hqb : ((q6 : Int) == 0) = false := by simp; omega
      go_wp2_with fail
      refine (pick_n rb (p5 + 1) _ _ hrd6 (by omega) (by omega) (by omega)).mono ?_
      rintro e w7 ⟨q7, hq7, rfl, hrd7, hdr7⟩
      go_wp2_with fail
      refine (pick_n rb (p5 + 2) _ _ hrd7 (by omega) (by omega) (by omega)).mono ?_
      rintro e w8 ⟨q8, hq8, rfl, hrd8, hdr8⟩
      go_wp2
      refine bodyPost_ret (v := .tuple #[.slice (some ⟨g, 0, none⟩) m2 c2, .int .i64 q7, .int .i64 (1 + q8), .slice A5 m5 c5]) ?_ rfl (drawnDS_of ((hT6.dr hdr7 hrb1 hrb1).dr hdr8 hrb1 hrb1) hm2 ((hl6.dr hdr7 hrb2).dr hdr8 hrb2) (by omega) hb1 hrb ((hd6.trans hdr7).trans hdr8) hz2); simp [results, Try.results32, go_sem]
set_option maxHeartbeats 400000 in
theorem drawDG_any (A : Option Addr) (n c : Nat) (w : World) (h : BytsA w A n c) : Calls Try.prog 31 #[.slice A n c] w (DrawnDS w) := by
  go_enter Try.func31, Try.ntmps31
  go_wp2_with fail
  refine (drawDS_any _ _ _ _ h).mono ?_
  rintro e w1 ⟨A1, c1, vs, s, m, A2, c2, ls, rfl, h1, h2, h3⟩
  go_wp2
  refine bodyPost_ret (v := .tuple #[.slice A1 vs.length c1, .int .i64 s, .int .i64 m, .slice A2 ls.length c2]) ?_ rfl ⟨A1, c1, vs, s, m, A2, c2, ls, rfl, h1, h2, h3⟩
  simp [results, Try.results31, go_sem]
end Go.Proofs.Ytoblhmbpobbecaa
