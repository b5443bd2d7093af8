/-
  Marks written into and read from slices of slices of ints.
-/
import Derived.Test.YtoblhmbpobbecaaMat
namespace Go.Proofs.Ytoblhmbpobbecaa
open Go.RowKit
/-- Owned, and all of it lies in blocks from lo to hi. -/
def OwnIn (w : World) (lo hi : Nat) (A : Option Addr) (c : Nat) (xss : List (List Int)) : Prop :=
  ∃ R, OwnRows w lo A xss.length c R xss ∧ (∀ b, A.map (·.block) = some b → lo ≤ b ∧ b < hi) ∧ ∀ j b, j < xss.length → (R j).1.map (·.block) = some b → lo ≤ b ∧ b < hi
theorem OwnRows.blocks {w : World} {base n c : Nat} {A : Option Addr} {R : Nat → Option Addr × Nat} {xss : List (List Int)} (h : OwnRows w base A n c R xss) :
    (∀ b, A.map (·.block) = some b → base ≤ b ∧ b < w.heap.size) ∧ ∀ j b, j < n → (R j).1.map (·.block) = some b → base ≤ b ∧ b < w.heap.size := by
  refine ⟨fun b hb => World.ownsRow.lt h.row b (by rw [ownBlock_slice]; exact hb), fun j b hj hb => ?_⟩
  have hj' : j < xss.length := by rw [h.len]; exact hj
  exact (h.own j _ (List.getElem?_eq_getElem hj')).block b (by rw [ownBlock_slice]; exact hb)
theorem OwnII.inside {w : World} {base : Nat} {A : Option Addr} {c : Nat} {xss : List (List Int)} (h : OwnII w base A c xss) : OwnIn w base w.heap.size A c xss :=
  h.elim fun R h => ⟨R, h, h.blocks.1, h.blocks.2⟩
section
variable {w w' : World} {lo hi c : Nat} {A : Option Addr} {xss : List (List Int)}
theorem OwnIn.rows (h : OwnIn w lo hi A c xss) : RowsI w A xss := h.elim fun _ h => h.1.rows
theorem OwnIn.below (h : OwnIn w lo hi A c xss) (hb : Below w.heap.size w w') : OwnIn w' lo hi A c xss := h.elim fun R h => ⟨R, h.1.below hb, h.2⟩
theorem OwnIn.drewN (h : OwnIn w lo hi A c xss) (m : Nat) : OwnIn (w.drewN m) lo hi A c xss := h.elim fun R h => ⟨R, h.1.drewN m, h.2⟩
theorem OwnIn.btw {lo' hi' : Nat} (h : OwnIn w lo hi A c xss) (hg : Btw lo' hi' w w') (hd : hi ≤ lo' ∨ hi' ≤ lo) : OwnIn w' lo hi A c xss := by
  obtain ⟨R, h1, h2, h3⟩ := h
  refine ⟨R, ⟨h1.len, ?_, fun j xs hx => ?_, h1.apart⟩, h2, h3⟩
  · refine ⟨h1.row.1, ?_⟩
    rcases h1.row.2 with hh | ⟨g, cap, cur, hv, hb, hgg, r⟩
    · exact .inl hh
    · refine .inr ⟨g, cap, cur, hv, hb, ?_, r⟩
      have := h2 g (by injection hv with hA; rw [hA]; rfl)
      rw [hg.block g (Array.getElem?_eq_some_iff.1 hgg).1 (by omega)]
      exact hgg
  · exact (h1.own j xs hx).btw hg (fun k hk => by
      have := h3 j k (List.getElem?_eq_some_iff.1 hx).1 (by rw [ownBlock_slice] at hk; exact hk)
      omega)
end
def sl (xss : List (List Int)) : Nat := (xss.map List.length).sum
theorem sl_le {xss : List (List Int)} {L : Nat} (h : tot xss ≤ L) : sl xss ≤ L := by unfold tot at h; unfold sl; omega
theorem sl_take {xss : List (List Int)} {k : Nat} {xs : List Int} (h : xss[k]? = some xs) : sl (xss.take (k + 1)) = sl (xss.take k) + xs.length := tot_take h
theorem sl_take_le (xss : List (List Int)) (k : Nat) : sl (xss.take k) ≤ sl xss := tot_take_le xss k
/-- The rows hold the numbers k, k + 1 and so on, up to row i; the others are as they were. -/
def mkd (k : Int) (xss : List (List Int)) (i : Nat) : List (List Int) := (List.range xss.length).map fun j => if j < i then marks (k + sl (xss.take j)) (xss.getD j []).length else xss.getD j []
def marksR (k : Int) (xss : List (List Int)) : List (List Int) := mkd k xss xss.length
theorem mkd_length (k : Int) (xss : List (List Int)) (i : Nat) : (mkd k xss i).length = xss.length := by simp [mkd]
theorem mkd_zero (k : Int) (xss : List (List Int)) : mkd k xss 0 = xss := by
  apply List.ext_getElem
  · simp [mkd]
  · intro i h1 h2; simp [mkd, h2]
theorem mkd_at (k : Int) {xss : List (List Int)} {i : Nat} {xs : List Int} (h : xss[i]? = some xs) : (mkd k xss i)[i]? = some xs := by
  obtain ⟨hi, rfl⟩ := List.getElem?_eq_some_iff.1 h
  simp [mkd, hi]
theorem mkd_set (k : Int) {xss : List (List Int)} {i : Nat} {xs : List Int} (h : xss[i]? = some xs) : (mkd k xss i).set i (marks (k + sl (xss.take i)) xs.length) = mkd k xss (i + 1) := by
  obtain ⟨hi, rfl⟩ := List.getElem?_eq_some_iff.1 h
  apply List.ext_getElem
  · simp [mkd]
  · intro j h1 h2
    rw [List.getElem_set]
    by_cases hij : i = j
    · subst hij; simp [mkd, hi]
    · rw [if_neg hij]
      have e : (j < i) = (j < i + 1) := by simp; omega
      simp [mkd, e]
theorem marksR_at (k : Int) {xss : List (List Int)} {i : Nat} {xs : List Int} (h : xss[i]? = some xs) : (marksR k xss)[i]? = some (marks (k + sl (xss.take i)) xs.length) := by
  obtain ⟨hi, rfl⟩ := List.getElem?_eq_some_iff.1 h
  simp [marksR, mkd, hi]
theorem OwnRows.mark {w w' : World} {base n c : Nat} {A : Option Addr} {R : Nat → Option Addr × Nat} {yss : List (List Int)} (h : OwnRows w base A n c R yss) {i : Nat} {ys zs : List Int}
    (hy : yss[i]? = some ys) (hl : zs.length = ys.length) (ho : OwnI w' base (R i).1 (R i).2 zs) (hg : w.grownBy w' (Value.slice (R i).1 ys.length (R i).2).ownBlock) : OwnRows w' base A n c R (yss.set i zs) := by
  have hin := (List.getElem?_eq_some_iff.1 hy).1
  refine ⟨by simp [h.len], ?_, fun j xs hx => ?_, h.apart⟩
  · have e : (List.range n).map (rval R yss) = (List.range n).map (rval R (yss.set i zs)) := by
      apply List.map_congr_left
      intro j hj
      by_cases hij : i = j
      · subst hij
        obtain ⟨_, rfl⟩ := List.getElem?_eq_some_iff.1 hy
        simp [rval, hin, hl]
      · simp [rval, List.getElem?_set, hij]
    rw [← e]
    have hsize : w.heap.size ≤ w'.heap.size := hg.size
    refine ⟨h.row.1, ?_⟩
    rcases h.row.2 with hh | ⟨g, cap, cur, hv, hb, hgg, r⟩
    · exact .inl hh
    · refine .inr ⟨g, cap, cur, hv, hb, ?_, r⟩
      rw [hg.block g (Array.getElem?_eq_some_iff.1 hgg).1 (fun e => by
        rcases (h.own i ys hy).2 with ⟨hv2, _⟩ | ⟨g2, cap2, cur2, hv2, _, hgg2, _⟩
        · rw [hv2] at e; cases e
        · rw [hv2] at e
          have e' : g = g2 := by simpa [Value.ownBlock] using e
          subst e'
          rw [hgg] at hgg2
          injection hgg2 with hgg2
          injection hgg2 with _ ht
          exact absurd ht (by decide))]
      exact hgg
  · by_cases hij : i = j
    · subst hij
      rw [List.getElem?_set_self hin] at hx
      injection hx with hx
      subst hx
      exact ho
    · rw [List.getElem?_set_ne hij] at hx
      have hj := (List.getElem?_eq_some_iff.1 hx).1
      rw [h.len] at hj hin
      refine (h.own j xs hx).grown hg (fun k hk e => ?_)
      rw [ownBlock_slice] at hk e
      rcases Nat.lt_or_gt_of_ne hij with hlt | hgt
      · exact h.apart i j hlt hj k hk e
      · exact h.apart j i hgt hin k e hk
def MarksR (w : World) (lo hi : Nat) (A : Option Addr) (c : Nat) (k : Int) (xss : List (List Int)) (e : Ending) (w' : World) : Prop :=
  e = .returned (.int .i64 (k + sl xss)) ∧ OwnIn w' lo hi A c (marksR k xss) ∧ Btw lo hi w w'
set_option maxHeartbeats 1600000 in
theorem markIntSS_any (A : Option Addr) (xss : List (List Int)) (c : Nat) (k : Int) (lo hi : Nat) (w : World) (h : OwnIn w lo hi A c xss) (hl : tot xss ≤ 1048576) (hk0 : 0 ≤ k) (hk1 : k ≤ 100000000) :
    Calls Try.prog 25 #[.slice A xss.length c, .int .i64 k] w (MarksR w lo hi A c k xss) := by
  obtain ⟨R, h1, h2, h3⟩ := h
  have HT := Lib.hid hl
  have hxl := tot_len hl
  have hsl := sl_le hl
  clear hl
  have H3 := Lib.hid h3
  have H2 := Lib.hid h2
  clear h2 h3
  go_enter Try.func25, Try.ntmps25
  go_wp2
  go_loopw [1, 5] (fun m i wr => ∃ j : Nat, j ≤ xss.length ∧ i = .int .i64 j ∧ m = .int .i64 (k + sl (xss.take j)) ∧ OwnRows wr lo A xss.length c R (mkd k xss j) ∧ Btw lo hi w wr) (fun _ i _ => xss.length - (intOf i).toNat)
  case atStart => exact ⟨0, by omega, rfl, val_int (by simp [sl]), by rw [mkd_zero]; exact h1, Btw.refl _ _ _⟩
  case round =>
    obtain ⟨j, hj, rfl, rfl, hown, hbt⟩ := hrel
    have hst := sl_take_le xss j
    by_cases hlt : j < xss.length
    · obtain ⟨xs, hx⟩ : ∃ xs, Hid (xss[j]? = some xs) := ⟨_, List.getElem?_eq_getElem hlt⟩
      obtain ⟨ad, ys, B, d, rfl, hy, hc, hint⟩ := hown.rows.at_ (k := j) (by rw [mkd_length]; exact hlt)
      have hyx : ys = xs := by
        have := hy.out
        rw [mkd_at k hx.out] at this
        injection this with this
        exact this.symm
      subst hyx
      have hcell : wr.cell? (ad.add j) = some (.slice (R j).1 ys.length (R j).2) := by
        rcases hown.row.2 with ⟨hv, h0⟩ | ⟨g, cap, cur, hv, _⟩
        · omega
        · injection hv with hA
          injection hA with hA
          subst hA
          exact World.ownsRow.cells hown.row (g := g) rfl j _ (by simp [rval, mkd_at k hx.out, hlt])
      rw [hc] at hcell
      injection hcell with hcell
      injection hcell with e1 _ e2
      subst e1
      subst e2
      have hlx := tot_row hx.out HT.out
      have ho := hown.own j ys (mkd_at k hx.out)
      have hbl := Lib.hid (fun b hb => H3.out j b hlt (by rw [ownBlock_slice] at hb; exact hb) : ∀ b, (Value.slice (R j).1 ys.length (R j).2).ownBlock = some b → lo ≤ b ∧ b < hi)
      have hsn := Lib.hid (sl_take hx.out)
      have cS := Lib.hid (markIntS_any (R j).1 ys ys.length (R j).2 (k + sl (xss.take j)) lo wr ⟨rfl, ho⟩ hlx (by omega) (by omega))
      go_wp2_with (go_at_call 26; refine cS.out.mono ?_; rintro e w2 ⟨rfl, ho2, hg2⟩)
      go_roundw
      case rel => exact ⟨j + 1, by omega, by go_num, val_int (by rw [hsn.out]; omega), by rw [← mkd_set k hx.out]; exact hown.mark (mkd_at k hx.out) (marks_length _ _) ho2.2 hg2, hbt.trans (Btw.of_grown hg2 hbl.out)⟩
      case measure => simp [intOf]; omega
    · obtain rfl : j = xss.length := by omega
      clear hlt
      go_wp2
      go_ret
      refine ⟨ret_int (by rw [List.take_length]), ⟨R, ?_, H2.out, fun j b hj hb => H3.out j b (by simpa [marksR, mkd_length] using hj) hb⟩, hbt⟩
      rw [show (marksR k xss).length = xss.length from mkd_length _ _ _]
      exact hown
set_option maxHeartbeats 1600000 in
theorem heldIntSS_any (A : Option Addr) (xss : List (List Int)) (c : Nat) (k : Int) (w : World) (h : RowsI w A (marksR k xss)) (hl : tot xss ≤ 1048576) (hk0 : 0 ≤ k) (hk1 : k ≤ 100000000) :
    Calls Try.prog 27 #[.slice A xss.length c, .int .i64 k] w (Ret w (.int .i64 (k + sl xss))) := by
  have HT := Lib.hid hl
  have hxl := tot_len hl
  have hsl := sl_le hl
  clear hl
  go_enter Try.func27, Try.ntmps27
  go_wp2
  go_loop [1, 5] (fun m i => ∃ j : Nat, j ≤ xss.length ∧ i = .int .i64 j ∧ m = .int .i64 (k + sl (xss.take j))) (fun _ i => xss.length - (intOf i).toNat)
  case atStart => exact ⟨0, by omega, rfl, val_int (by simp [sl])⟩
  case round =>
    obtain ⟨j, hj, rfl, rfl⟩ := hrel
    have hst := sl_take_le xss j
    by_cases hlt : j < xss.length
    · obtain ⟨xs, hx⟩ : ∃ xs, Hid (xss[j]? = some xs) := ⟨_, List.getElem?_eq_getElem hlt⟩
      obtain ⟨ad, ys, B, d, rfl, hy, hc, hi⟩ := h.at_ (k := j) (by rw [show (marksR k xss).length = xss.length from mkd_length _ _ _]; exact hlt)
      have hyx : ys = marks (k + sl (xss.take j)) xs.length := by
        have := hy.out
        rw [marksR_at k hx.out] at this
        injection this with this
        exact this.symm
      subst hyx
      rw [marks_length] at hc
      have hlx := tot_row hx.out HT.out
      have hsn := Lib.hid (sl_take hx.out)
      have cS := Lib.hid (heldIntS_any B xs.length d (k + sl (xss.take j)) w hi hlx (by omega) (by omega))
      go_wp2_with (go_at_call 30; refine cS.out.mono ?_; rintro e w2 ⟨rfl, rfl⟩)
      go_round
      case rel => exact ⟨j + 1, by omega, by go_num, val_int (by rw [hsn.out]; omega)⟩
      case measure => simp [intOf]; omega
    · obtain rfl : j = xss.length := by omega
      clear hlt
      go_wp2
      go_ret
      exact ⟨ret_int (by first | rfl | rw [List.take_length]), rfl⟩
end Go.Proofs.Ytoblhmbpobbecaa
