/-
  Slices of slices of ints: what reads as a list of lists; what the call owns; the laws' own functions on them.
-/
import Derived.Test.YtcddfibohcgjbaaCopy
import Derived.Test.YtcddfibohcgjbaaFrame
namespace Go.Proofs.Ytcddfibohcgjbaa
open Go.RowKit
/-- The slice of slices at A reads as xss. -/
structure RowsI (w : World) (A : Option Addr) (xss : List (List Int)) : Prop where
  len : xss.length ≤ maxLen
  lens : ∀ xs ∈ xss, xs.length ≤ maxLen
  read : 0 < xss.length → ∃ ad, A = some ad ∧ ∀ j xs, xss[j]? = some xs → ∃ B c, w.cell? (ad.add j) = some (.slice B xs.length c) ∧ Ints w B xs
section
variable {w w' : World} {A : Option Addr} {xss : List (List Int)}
theorem RowsI.at_ (h : RowsI w A xss) {k : Nat} (hk : k < xss.length) :
    ∃ ad xs B c, A = some ad ∧ Hid (xss[k]? = some xs) ∧ w.cell? (ad.add k) = some (.slice B xs.length c) ∧ Ints w B xs := by
  obtain ⟨ad, e, hc⟩ := h.read (by omega)
  obtain ⟨B, c, h1, h2⟩ := hc k _ (List.getElem?_eq_getElem hk)
  exact ⟨ad, xss[k], B, c, e, List.getElem?_eq_getElem hk, h1, h2⟩
theorem RowsI.below (h : RowsI w A xss) (hb : Below w.heap.size w w') : RowsI w' A xss := by
  refine ⟨h.len, h.lens, fun hn => ?_⟩
  obtain ⟨ad, e, hc⟩ := h.read hn
  refine ⟨ad, e, fun j xs hx => ?_⟩
  obtain ⟨B, c, h1, h2⟩ := hc j xs hx
  exact ⟨B, c, (hb.cell (World.block_lt_of_cell? w _ h1)).trans h1, h2.below hb⟩
theorem RowsI.drewN (h : RowsI w A xss) (n : Nat) : RowsI (w.drewN n) A xss := ⟨h.len, h.lens, h.read⟩
theorem RowsI.drew (h : RowsI w A xss) : RowsI w.drew A xss := ⟨h.len, h.lens, h.read⟩
theorem RowsI.nil (w : World) (A : Option Addr) : RowsI w A [] := ⟨by simp, by simp, fun h => absurd h (by simp)⟩
theorem RowsI.take (h : RowsI w A xss) (k : Nat) : RowsI w A (xss.take k) := by
  refine ⟨by have := h.len; simp; omega, fun xs hx => h.lens xs (List.mem_of_mem_take hx), fun hn => ?_⟩
  obtain ⟨ad, e, hc⟩ := h.read (by simp at hn; omega)
  refine ⟨ad, e, fun j x hx => hc j x ?_⟩
  rw [List.getElem?_take] at hx
  split at hx
  · exact hx
  · cases hx
end
theorem infoRow : (Try.prog.info? 23).map (fun i => (i.zero, i.size, i.bytes)) = some (some (.slice none 0 0), 1, 24) := by kernel_rfl
def rval (R : Nat → Option Addr × Nat) (xss : List (List Int)) (j : Nat) : Value := .slice (R j).1 (xss.getD j []).length (R j).2
/-- The call owns the slice, all of its rows, and no two rows lie in one block. -/
structure OwnRows (w : World) (base : Nat) (A : Option Addr) (n c : Nat) (R : Nat → Option Addr × Nat) (xss : List (List Int)) : Prop where
  len : xss.length = n
  row : w.ownsRow base 23 1 (.slice A n c) n ((List.range n).map (rval R xss))
  own : ∀ j xs, xss[j]? = some xs → OwnI w base (R j).1 (R j).2 xs
  apart : ∀ i j, i < j → j < n → ∀ b, (R i).1.map (·.block) = some b → (R j).1.map (·.block) ≠ some b
def OwnII (w : World) (base : Nat) (A : Option Addr) (c : Nat) (xss : List (List Int)) : Prop := ∃ R, OwnRows w base A xss.length c R xss
theorem ownBlock_slice (A : Option Addr) (n c : Nat) : (Value.slice A n c).ownBlock = A.map (·.block) := by cases A <;> rfl
section
variable {w w' : World} {base n c : Nat} {A : Option Addr} {R : Nat → Option Addr × Nat} {xss : List (List Int)}
theorem OwnRows.rows (h : OwnRows w base A n c R xss) : RowsI w A xss := by
  refine ⟨?_, fun xs hx => ?_, fun hn => ?_⟩
  · rcases h.row.2 with ⟨hv, h0⟩ | ⟨g, cap, cur, hv, _, _, h1, h2, _⟩ <;> have := h.len <;> omega
  · obtain ⟨j, hj⟩ := List.getElem?_of_mem hx
    exact (h.own j xs hj).len
  rcases h.row.2 with ⟨hv, h0⟩ | ⟨g, cap, cur, hv, _⟩
  · have := h.len; omega
  · injection hv with hA
    subst hA
    refine ⟨_, rfl, fun j xs hx => ⟨(R j).1, (R j).2, ?_, (h.own j xs hx).ints⟩⟩
    have hj := (List.getElem?_eq_some_iff.1 hx).1
    refine World.ownsRow.cells h.row (g := g) rfl j _ ?_
    have hjn : j < n := by have := h.len; omega
    simp [rval, hx, hjn]
theorem OwnRows.below (h : OwnRows w base A n c R xss) (hb : Below w.heap.size w w') : OwnRows w' base A n c R xss :=
  ⟨h.len, World.ownsRow.kept h.row (row := none) ⟨hb.os, hb.tape, hb.output, hb.size, fun k hk _ => hb.block k hk⟩ (by cases hv : (Value.slice A n c).ownBlock <;> simp),
    fun j xs hx => (h.own j xs hx).below hb, h.apart⟩
theorem OwnRows.drewN (h : OwnRows w base A n c R xss) (m : Nat) : OwnRows (w.drewN m) base A n c R xss := ⟨h.len, h.row, h.own, h.apart⟩
theorem OwnII.rows (h : OwnII w base A c xss) : RowsI w A xss := h.elim fun _ h => h.rows
theorem OwnII.below (h : OwnII w base A c xss) (hb : Below w.heap.size w w') : OwnII w' base A c xss := h.elim fun R h => ⟨R, h.below hb⟩
theorem OwnII.drewN (h : OwnII w base A c xss) (m : Nat) : OwnII (w.drewN m) base A c xss := h.elim fun R h => ⟨R, h.drewN m⟩
end
/-- It returns a new slice of new slices that reads as xss; nothing that was there has turned. -/
def NewII (w : World) (xss : List (List Int)) (e : Ending) (w' : World) : Prop := ∃ A c, e = .returned (.slice A xss.length c) ∧ OwnII w' w.heap.size A c xss ∧ Below w.heap.size w w'
/-- How many values a slice of slices holds. -/
def tot (xss : List (List Int)) : Nat := xss.length + (xss.map List.length).sum
theorem sumL_append (xs ys : List Nat) : (xs ++ ys).sum = xs.sum + ys.sum := by
  induction xs with
  | nil => simp
  | cons a t ih => simp only [List.cons_append, List.sum_cons, ih]; omega
theorem tot_take {xss : List (List Int)} {k : Nat} {xs : List Int} (h : xss[k]? = some xs) : ((xss.take (k + 1)).map List.length).sum = ((xss.take k).map List.length).sum + xs.length := by
  rw [take_snoc xss k xs h, List.map_append, sumL_append]; simp
theorem tot_take_le (xss : List (List Int)) (k : Nat) : ((xss.take k).map List.length).sum ≤ (xss.map List.length).sum := by
  have : xss.take k ++ xss.drop k = xss := List.take_append_drop k xss
  have h2 : (xss.map List.length).sum = ((xss.take k).map List.length).sum + ((xss.drop k).map List.length).sum := by
    rw [← sumL_append, ← List.map_append, this]
  omega
theorem row_le {xss : List (List Int)} {k : Nat} {xs : List Int} (h : xss[k]? = some xs) : xs.length ≤ (xss.map List.length).sum := by
  have := tot_take h
  have := tot_take_le xss (k + 1)
  omega
set_option maxHeartbeats 400000 in
theorem szIntS_any (A : Option Addr) (n c : Nat) (L : Nat) (w : World) (hn : n ≤ maxLen) (hL : L ≤ 1048576) :
    Calls Try.prog 63 #[.slice A n c, .int .i64 L] w (Ret w (.int .i64 (if n ≤ L then (L : Int) - n else -1))) := by
  unfold maxLen at hn
  by_cases h : n ≤ L
  · rw [if_pos h]
    go_enter Try.func63, Try.ntmps63
    go_wp2
    go_ret
    exact ⟨rfl, rfl⟩
  · rw [if_neg h]
    go_enter Try.func63, Try.ntmps63
    go_wp2
    go_ret
    exact ⟨rfl, rfl⟩
def szV (L : Nat) (t : Nat) : Int := if t ≤ L then (L : Int) - t else -1
set_option maxHeartbeats 400000 in
theorem szIntSS_any (A : Option Addr) (xss : List (List Int)) (c : Nat) (L : Nat) (l : Int) (hl : l = L) (w : World) (h : RowsI w A xss) (hL : L ≤ 1048576) :
    Calls Try.prog 28 #[.slice A xss.length c, .int .i64 l] w (Ret w (.int .i64 (szV L (tot xss)))) := by
  subst hl
  have hxl := h.len
  unfold maxLen at hxl
  by_cases h0 : xss.length ≤ L
  · go_enter Try.func28, Try.ntmps28
    go_wp2
    go_loop [1, 5] (fun l i => ∃ k : Nat, k ≤ xss.length ∧ i = .int .i64 k ∧ l = .int .i64 ((L : Int) - xss.length - ((xss.take k).map List.length).sum) ∧ Hid (xss.length + ((xss.take k).map List.length).sum ≤ L)) (fun _ i => xss.length - (intOf i).toNat)
    case atStart => exact ⟨0, by omega, rfl, by simp, by simp [Hid]; omega⟩
    case round =>
      obtain ⟨k, hk, rfl, rfl, hp⟩ := hrel
      have hpo := hp.out
      by_cases hlt : k < xss.length
      · obtain ⟨ad, xs, B, d, rfl, hx1, hc, hi⟩ := h.at_ hlt
        have hst := Lib.hid (tot_take hx1.out)
        have hle := h.lens xs (List.mem_of_getElem? hx1.out)
        obtain ⟨P, hP⟩ : ∃ P : Nat, ((xss.take k).map List.length).sum = P := ⟨_, rfl⟩
        rw [hP] at hpo hst ⊢
        clear hP
        obtain ⟨M, hM⟩ : ∃ M : Nat, M = L - xss.length - P := ⟨_, rfl⟩
        have hMi : ((L : Int) - xss.length - P) = (M : Int) := by omega
        rw [hMi]
        by_cases hfit : xs.length ≤ M
        · have cS := Lib.hid (szIntS_any B xs.length d M w hle (by omega))
          rw [if_pos hfit] at cS
          have HM := Lib.hid hM
          clear hM hMi
          go_wp2_with (go_at_call 63; refine cS.out.mono ?_; rintro e w' ⟨rfl, rfl⟩)
          go_round
          case rel => exact ⟨k + 1, by omega, by go_num, val_int (by rw [hst.out]; have := HM.out; omega), by show _ ≤ _; rw [hst.out]; have := HM.out; omega⟩
          case measure => simp [intOf]; omega
        · have cS := Lib.hid (szIntS_any B xs.length d M w hle (by omega))
          rw [if_neg hfit] at cS
          have hv := Lib.hid (show szV L (tot xss) = -1 from by
            have h1 := hst.out
            have h2 := tot_take_le xss (k + 1)
            unfold szV tot; rw [if_neg (by omega)])
          clear hM hMi
          go_wp2_with (go_at_call 63; refine cS.out.mono ?_; rintro e w' ⟨rfl, rfl⟩)
          go_ret
          exact ⟨ret_int hv.out.symm, rfl⟩
      · obtain rfl : k = xss.length := by omega
        clear hlt
        have hv := Lib.hid (show szV L (tot xss) = (L : Int) - xss.length - ((xss.take xss.length).map List.length).sum from by
          rw [List.take_length] at hpo ⊢
          unfold szV tot; rw [if_pos hpo]; omega)
        go_wp2
        go_ret
        exact ⟨ret_int (by rw [hv.out]; simp), rfl⟩
  · have hv := Lib.hid (show szV L (tot xss) = -1 from by unfold szV tot; rw [if_neg (by omega)])
    go_enter Try.func28, Try.ntmps28
    go_wp2
    go_ret
    exact ⟨ret_int hv.out.symm, rfl⟩
theorem szV_t {t : Nat} (h : t ≤ 1048576) : szV 1048576 t = 1048576 - (t : Int) := by
  unfold szV
  rw [if_pos h]
  omega
theorem szV_f {L t : Nat} (h : ¬t ≤ L) : szV L t = -1 := by
  unfold szV
  rw [if_neg h]
theorem lim20 : (1048576 : Int) = ((1048576 : Nat) : Int) := by omega
theorem szIntSS_t (A : Option Addr) (xss : List (List Int)) (c : Nat) (w : World) (h : RowsI w A xss) (hl : tot xss ≤ 1048576) :
    Calls Try.prog 28 #[.slice A xss.length c, .int .i64 1048576] w (Ret w (.int .i64 (1048576 - (tot xss : Int)))) := by
  have := szIntSS_any A xss c 1048576 1048576 lim20 w h (by omega)
  rw [szV_t hl] at this
  exact this
theorem szIntSS_f (A : Option Addr) (xss : List (List Int)) (c : Nat) (w : World) (h : RowsI w A xss) (hl : ¬tot xss ≤ 1048576) :
    Calls Try.prog 28 #[.slice A xss.length c, .int .i64 1048576] w (Ret w (.int .i64 (-1))) := by
  have := szIntSS_any A xss c 1048576 1048576 lim20 w h (by omega)
  rw [szV_f hl] at this
  exact this
/-- 'make([][]int, n)'. -/
theorem wpList_makeR (w : World) {ops : Array Oper} {rest : List Oper} {o : Oper} {a : Act} {Q : Exit → Act → World → Prop}
    (hg : o.guard = none) (l c : Operand) (hop : o.op = Op.makeSlice 39 l c) (n : Nat) (hl : a.eval l = .int .i64 n) (hc : a.eval c = .int .i64 n) (hn : n ≤ 1099511627776)
    (hK : ∀ w', OwnRows w' w.heap.size (some ⟨w.heap.size, 0, none⟩) n n (fun _ => (none, 0)) (List.replicate n []) → Below w.heap.size w w' → w.heap.size < w'.heap.size → wpList Try.prog ops Q rest (a.put o.dst (.slice (some ⟨w.heap.size, 0, none⟩) n n)) w') :
    wpList Try.prog ops Q (o :: rest) a w := by
  obtain ⟨i0, hi, hz0, hz1, hz2⟩ := info_parts infoRow
  refine wpList_make_full w hg l c 39 hop w.heap.size 23 i0 _ 1 Try.underlying39 hi hz0 hz1 .i64 .i64 n n n hl hc rfl rfl (by rw [hz2]; omega) (by simp only [maxLen]; omega) (Nat.le_refl _) ?_
  intro w' hown hgr
  have e : (madeCells (Value.slice none 0 0).cells (n * 1)).toList = (List.range n).map (rval (fun _ => (none, 0)) (List.replicate n [])) := by
    apply List.ext_getElem
    · simp [madeCells, Value.cells]
    · intro i h1 h2
      have hin : i < n := by simpa using h2
      simp [madeCells, Value.cells, Nat.mod_one, rval, hin]
  have hown' : OwnRows w' w.heap.size (some ⟨w.heap.size, 0, none⟩) n n (fun _ => (none, 0)) (List.replicate n []) :=
    ⟨by simp, e ▸ hown, fun j xs hx => by
      obtain ⟨_, hh⟩ := List.getElem?_eq_some_iff.1 hx
      rw [List.getElem_replicate] at hh
      subst hh
      exact OwnI.nil _ _, fun i j _ _ b hb => by simp at hb⟩
  refine hK w' hown' ⟨hgr.os, hgr.tape, hgr.output, hgr.size, fun k hk => hgr.block k hk (by simp)⟩ ?_
  rcases hown.2 with ⟨hv, _⟩ | ⟨g, cap, cur, hv, hb, hgg, _⟩
  · cases hv
  · injection hv with hA
    injection hA with hA
    injection hA with hA
    subst hA
    exact (Array.getElem?_eq_some_iff.1 hgg).1
theorem OwnRows.block {w : World} {base n c g : Nat} {R : Nat → Option Addr × Nat} {xss : List (List Int)} (h : OwnRows w base (some ⟨g, 0, none⟩) n c R xss) : base ≤ g ∧ g < w.heap.size ∧ ∃ cur, w.heap[g]? = some (.cells cur 23 (0, 0)) := by
  rcases h.row.2 with ⟨hv, _⟩ | ⟨g', cap, cur, hv, hb, hgg, _⟩
  · cases hv
  · injection hv with hA
    injection hA with hA
    injection hA with hA
    subst hA
    exact ⟨hb, (Array.getElem?_eq_some_iff.1 hgg).1, cur, hgg⟩
/-- An owned slice of ints stays so when a row of slices is written. -/
theorem OwnI.setRow {w : World} {base c g k : Nat} {A : Option Addr} {xs : List Int} (h : OwnI w base A c xs) {cur : Array Value} (hg : w.heap[g]? = some (.cells cur 23 (0, 0))) (u : Value) : OwnI (w.setCell ⟨g, k, none⟩ u) base A c xs := by
  refine ⟨h.1, ?_⟩
  rcases h.2 with h2 | ⟨g', cap, cur', hv, hb, hgg, r⟩
  · exact .inl h2
  · refine .inr ⟨g', cap, cur', hv, hb, ?_, r⟩
    rw [Below.heap_setCell _ _ _ _ (by
      rintro rfl
      rw [hg] at hgg
      injection hgg with hgg
      injection hgg with _ ht
      exact absurd ht (by decide))]
    exact hgg
theorem OwnRows.cellAt {w : World} {base n c g : Nat} {R : Nat → Option Addr × Nat} {xss : List (List Int)} (h : OwnRows w base (some ⟨g, 0, none⟩) n c R xss) {k : Nat} (hk : k < n) : w.cell? ⟨g, k, none⟩ = some (rval R xss k) := by
  rw [World.ownsRow.cellAt h.row k (by omega)]; simp [hk]
theorem OwnRows.frozenAt {w : World} {base n c g : Nat} {R : Nat → Option Addr × Nat} {xss : List (List Int)} (h : OwnRows w base (some ⟨g, 0, none⟩) n c R xss) (k : Nat) : w.frozen? ⟨g, k, none⟩ = false := World.ownsRow.frozenAt h.row k
/-- A new row is put where there was none. -/
theorem OwnRows.put {w w1 : World} {base n c g : Nat} {R : Nat → Option Addr × Nat} {xss : List (List Int)} (h : OwnRows w base (some ⟨g, 0, none⟩) n c R xss) (hb : Below w.heap.size w w1)
    {k : Nat} (hk : k < n) {A1 : Option Addr} {c1 : Nat} {xs : List Int} (ho : OwnI w1 w.heap.size A1 c1 xs) :
    OwnRows (w1.setCell ⟨g, k, none⟩ (.slice A1 xs.length c1)) base (some ⟨g, 0, none⟩) n c (fun j => if j = k then (A1, c1) else R j) (xss.set k xs) := by
  have h1 := h.below hb
  obtain ⟨hbg, hgl, cur, hcur⟩ := h.block
  obtain ⟨_, _, cur1, hcur1⟩ := h1.block
  refine ⟨by simp [h.len], ?_, fun j ys hy => ?_, fun i j hij hj b hbi => ?_⟩
  · have hs := (World.ownsRow.stored h1.row k (.slice A1 xs.length c1)).1
    have e : ((List.range n).map (rval R xss)).set k (.slice A1 xs.length c1) = (List.range n).map (rval (fun j => if j = k then (A1, c1) else R j) (xss.set k xs)) := by
      apply List.ext_getElem
      · simp
      · intro i hi1 hi2
        have hin : i < n := by simpa using hi2
        have hkx : k < xss.length := by rw [h.len]; exact hk
        rw [List.getElem_set]
        by_cases hik : k = i
        · subst hik
          simp [rval, hkx]
        · have hik' : ¬i = k := fun e => hik e.symm
          simp [rval, hik, hik', List.getElem?_set]
    exact e ▸ hs
  · by_cases hjk : j = k
    · subst hjk
      have : ys = xs := by
        rw [List.getElem?_set_self (by rw [h.len]; exact hk)] at hy
        injection hy with hy
        exact hy.symm
      subst this
      simp only [if_true]
      exact (ho.setRow hcur1 _).mono (by omega)
    · rw [List.getElem?_set_ne (fun e => hjk e.symm)] at hy
      simp only [hjk, if_false]
      exact (h1.own j ys hy).setRow hcur1 _
  · have hA1 : ∀ b, A1.map (·.block) = some b → w.heap.size ≤ b := fun b hb' => (ho.block b (by rw [ownBlock_slice]; exact hb')).1
    have hold : ∀ j b, j < n → (R j).1.map (·.block) = some b → b < w.heap.size := fun j b hj hb' => by
      have hj' : j < xss.length := by rw [h.len]; exact hj
      exact ((h.own j _ (List.getElem?_eq_getElem hj')).block b (by rw [ownBlock_slice]; exact hb')).2
    by_cases hik : i = k
    · have hjk : ¬j = k := by omega
      simp only [hik, if_true] at hbi
      simp only [hjk, if_false]
      intro hbj
      have := hA1 b hbi
      have := hold j b hj hbj
      omega
    · simp only [hik, if_false] at hbi
      by_cases hjk : j = k
      · simp only [hjk, if_true]
        intro hbj
        have := hA1 b hbj
        have := hold i b (by omega) hbi
        omega
      · simp only [hjk, if_false]
        exact h.apart i j hij hj b hbi
/-- The first k rows, then none. -/
def fillS (xss : List (List Int)) (k : Nat) : List (List Int) := xss.take k ++ List.replicate (xss.length - k) []
theorem fillS_zero (xss : List (List Int)) : fillS xss 0 = List.replicate xss.length [] := by simp [fillS]
theorem fillS_all (xss : List (List Int)) : fillS xss xss.length = xss := by simp [fillS]
theorem fillS_set (xss : List (List Int)) {k : Nat} {xs : List Int} (hx : xss[k]? = some xs) : (fillS xss k).set k xs = fillS xss (k + 1) := by
  have hk := (List.getElem?_eq_some_iff.1 hx).1
  unfold fillS
  rw [List.set_append_right _ _ (by simp; omega), List.length_take, Nat.min_eq_left (by omega), Nat.sub_self, take_snoc xss k xs hx]
  obtain ⟨m, hm⟩ : ∃ m, xss.length - k = m + 1 := ⟨xss.length - k - 1, by omega⟩
  rw [hm, show xss.length - (k + 1) = m from by omega, List.replicate_succ]
  simp
theorem OwnRows.congr {w : World} {base n c : Nat} {A : Option Addr} {R : Nat → Option Addr × Nat} {xss yss : List (List Int)} (h : OwnRows w base A n c R xss) (e : xss = yss) : OwnRows w base A n c R yss := e ▸ h
theorem tot_row {xss : List (List Int)} {k : Nat} {xs : List Int} (h : xss[k]? = some xs) (hl : tot xss ≤ 1048576) : xs.length ≤ 1048576 := by
  have := row_le h
  unfold tot at hl
  omega
theorem tot_len {xss : List (List Int)} (hl : tot xss ≤ 1048576) : xss.length ≤ 1048576 := by unfold tot at hl; omega
set_option maxHeartbeats 400000 in
theorem toIntSS_any (A : Option Addr) (xss : List (List Int)) (c : Nat) (w : World) (h : RowsI w A xss) (hl : tot xss ≤ 1048576) :
    Calls Try.prog 30 #[.slice A xss.length c] w (NewII w xss) := by
  have HT := Lib.hid hl
  have hxl := tot_len hl
  clear hl
  go_enter Try.func30, Try.ntmps30
  go_wp2_with (at_make; refine wpList_makeR _ rfl _ _ rfl xss.length rfl rfl (by omega) ?_; intro w1 hown hb hsz)
  go_loopw [4] (fun i wr => ∃ (k : Nat) (R : Nat → Option Addr × Nat), k ≤ xss.length ∧ i = .int .i64 k ∧ OwnRows wr w.heap.size (some ⟨w.heap.size, 0, none⟩) xss.length xss.length R (fillS xss k) ∧ Below w.heap.size w wr) (fun i _ => xss.length - (intOf i).toNat)
  case atStart => exact ⟨0, _, by omega, rfl, by rw [fillS_zero]; assumption, by assumption⟩
  case round =>
    obtain ⟨k, R, hk, rfl, hown, hbel⟩ := hrel
    by_cases hlt : k < xss.length
    · obtain ⟨ad, xs, B, d, rfl, hx, hc, hi⟩ := (h.below hbel).at_ hlt
      have cS := Lib.hid (toIntS_any B xs d wr hi (tot_row hx.out HT.out))
      go_wp2_with (go_at_call 25; refine cS.out.mono ?_; rintro e w2 ⟨A2, c2, rfl, ho2, hb2⟩; have hc2 := (hown.below hb2).cellAt hlt; have hf2 := (hown.below hb2).frozenAt k)
      go_roundw
      case rel => exact ⟨k + 1, _, by omega, by go_num, (hown.put hb2 hlt ho2).congr (fillS_set xss hx.out), (hbel.trans (hb2.mono hbel.size)).setCell (Nat.le_refl _) _⟩
      case measure => simp [intOf]; omega
    · obtain rfl : k = xss.length := by omega
      clear hlt
      go_wp2
      go_ret
      exact ⟨_, _, rfl, ⟨R, hown.congr (fillS_all xss)⟩, hbel⟩
set_option maxHeartbeats 400000 in
theorem lawEqII_any (A A' : Option Addr) (xss yss : List (List Int)) (c c' : Nat) (w : World) (h : RowsI w A xss) (h' : RowsI w A' yss) (hl : tot xss ≤ 1048576) (hl' : tot yss ≤ 1048576) :
    Calls Try.prog 32 #[.slice A xss.length c, .slice A' yss.length c'] w (Qt w (.bool (xss == yss))) := by
  have HT := Lib.hid hl
  have HT' := Lib.hid hl'
  have hxl := tot_len hl
  have hyl := tot_len hl'
  clear hl hl'
  by_cases hlen : xss.length = yss.length
  · have hne : (((xss.length : Int)) != (yss.length : Int)) = false := by simp [hlen]
    have HL := Lib.hid hlen
    clear hlen
    go_enter Try.func32, Try.ntmps32
    go_wp2
    go_loopw [5] (fun i wr => ∃ k n : Nat, k ≤ xss.length ∧ i = .int .i64 k ∧ Hid (xss.take k = yss.take k) ∧ wr = w.drewN n) (fun i _ => xss.length - (intOf i).toNat)
    case atStart => exact ⟨0, 0, by omega, rfl, rfl, rfl⟩
    case round =>
      obtain ⟨k, n, hk, rfl, heq, rfl⟩ := hrel
      by_cases hlt : k < xss.length
      · have hlt' : k < yss.length := by have := HL.out; omega
        obtain ⟨ad, xs, B, d, rfl, hx, hc, hi⟩ := h.at_ hlt
        obtain ⟨ad', ys, B', d', rfl, hy, hc', hi'⟩ := h'.at_ hlt'
        have cS := Lib.hid (fun m => lawEqI_any B B' xs ys d d' (w.drewN m) hi hi' (tot_row hx.out HT.out) (tot_row hy.out HT'.out))
        cases hb : (xs == ys)
        · go_wp2
          go_quiet ((go_at_call 27; exact Qt.quiet_add (cS.out _)))
          go_wp2
          go_ret
          refine ⟨ret_bool ?_, _, World.drewN_drewN _ _ _⟩
          have hne2 : xs ≠ ys := by simpa using hb
          simp
          intro e
          rw [e] at hx
          have := hx.out.symm.trans hy.out
          simp at this
          exact absurd this hne2
        · have hxy : xs = ys := by simpa using hb
          subst hxy
          go_wp2
          go_quiet ((go_at_call 27; exact Qt.quiet_add (cS.out _)))
          go_wp2
          go_roundw
          case rel => exact ⟨k + 1, _, by omega, by go_num, by show _ = _; rw [take_snoc _ _ _ hx.out, take_snoc _ _ _ hy.out, heq.out], rfl⟩
          case measure => simp [intOf]; omega
      · have h2 : xss.length ≤ k := by omega
        clear hlt
        go_wp2
        go_ret
        refine ⟨ret_bool ?_, _, rfl⟩
        have := heq.out
        rw [List.take_of_length_le (by omega), List.take_of_length_le (by have := HL.out; omega)] at this
        simp [this]
  · have hne : (((xss.length : Int)) != (yss.length : Int)) = true := by simp; omega
    go_enter Try.func32, Try.ntmps32
    go_wp2
    go_ret
    exact ⟨ret_bool (by simp; intro e; exact absurd (by rw [e]) hlen), 0, rfl⟩
theorem OwnRows.mark {w w' : World} {base n c : Nat} {A : Option Addr} {R : Nat → Option Addr × Nat} {yss : List (List Int)} (h : OwnRows w base A n c R yss) {i : Nat} {ys zs : List Int}
    (hy : yss[i]? = some ys) (hl : zs.length = ys.length) (ho : OwnI w' base (R i).1 (R i).2 zs) (hg : w.grownBy w' (Value.slice (R i).1 ys.length (R i).2).ownBlock) : OwnRows w' base A n c R (yss.set i zs) := by
  have hin := (List.getElem?_eq_some_iff.1 hy).1
  refine ⟨by simp [h.len], ?_, fun j xs hx => ?_, h.apart⟩
  · have e : (List.range n).map (rval R yss) = (List.range n).map (rval R (yss.set i zs)) := by
      apply List.map_congr_left
      intro j hj
      by_cases hij : i = j
      · subst hij
        obtain ⟨_, rfl⟩ := List.getElem?_eq_some_iff.1 hy
        simp [rval, hin, hl]
      · simp [rval, List.getElem?_set, hij]
    rw [← e]
    have hsize : w.heap.size ≤ w'.heap.size := hg.size
    refine ⟨h.row.1, ?_⟩
    rcases h.row.2 with hh | ⟨g, cap, cur, hv, hb, hgg, r⟩
    · exact .inl hh
    · refine .inr ⟨g, cap, cur, hv, hb, ?_, r⟩
      rw [hg.block g (Array.getElem?_eq_some_iff.1 hgg).1 (fun e => by
        rcases (h.own i ys hy).2 with ⟨hv2, _⟩ | ⟨g2, cap2, cur2, hv2, _, hgg2, _⟩
        · rw [hv2] at e; cases e
        · rw [hv2] at e
          have e' : g = g2 := by simpa [Value.ownBlock] using e
          subst e'
          rw [hgg] at hgg2
          injection hgg2 with hgg2
          injection hgg2 with _ ht
          exact absurd ht (by decide))]
      exact hgg
  · by_cases hij : i = j
    · subst hij
      rw [List.getElem?_set_self hin] at hx
      injection hx with hx
      subst hx
      exact ho
    · rw [List.getElem?_set_ne hij] at hx
      have hj := (List.getElem?_eq_some_iff.1 hx).1
      rw [h.len] at hj hin
      refine (h.own j xs hx).grown hg (fun k hk e => ?_)
      rw [ownBlock_slice] at hk e
      rcases Nat.lt_or_gt_of_ne hij with hlt | hgt
      · exact h.apart i j hlt hj k hk e
      · exact h.apart j i hgt hin k e hk
end Go.Proofs.Ytcddfibohcgjbaa
