/-
  Slices of piles: what reads as a list of piles; what the call owns.
-/
import Derived.Test.YthngafmnkihkgaaBal
import Derived.Deep.Slices
namespace Go.Proofs.Ythngafmnkihkgaa
open Go.RowKit
theorem add_two (a : Addr) (k m : Nat) : (a.add k).add m = a.add (k + m) := Go.Deep.add_add a k m
/-- The slice of piles at A reads as ps. -/
structure PilesI (w : World) (A : Option Addr) (ps : List (ByteArray × Int)) : Prop where
  small : ∀ p ∈ ps, p.1.size ≤ 1048576
  read : 0 < ps.length → ∃ ad, A = some ad ∧ ∀ j p, ps[j]? = some p → w.cell? (ad.add (j * 2)) = some (.string p.1) ∧ w.cell? (ad.add (j * 2 + 1)) = some (.int .i64 p.2)
section
variable {w w' : World} {A : Option Addr} {ps : List (ByteArray × Int)}
theorem PilesI.at_ (h : PilesI w A ps) {k : Nat} (hk : k < ps.length) :
    ∃ ad s m, A = some ad ∧ Hid (ps[k]? = some (s, m)) ∧ s.size ≤ 1048576 ∧ w.cell? (ad.add (k * 2)) = some (.string s) ∧ w.cell? ⟨(ad.add (k * 2)).block, (ad.add (k * 2)).off + 1, none⟩ = some (.int .i64 m) := by
  obtain ⟨ad, e, hc⟩ := h.read (by omega)
  obtain ⟨h1, h2⟩ := hc k ps[k] (List.getElem?_eq_getElem hk)
  exact ⟨ad, ps[k].1, ps[k].2, e, List.getElem?_eq_getElem hk, h.small _ (List.getElem_mem hk), h1, (add_two ad (k * 2) 1).symm ▸ h2⟩
/-- The text of a pile, the address known. -/
theorem PilesI.at_p {ad : Addr} (h : PilesI w (some ad) ps) {k : Nat} (hk : k < ps.length) :
    ∃ s m, Hid (ps[k]? = some (s, m)) ∧ w.cell? (ad.add (k * 2)) = some (.string s) := by
  obtain ⟨ad', e, hc⟩ := h.read (by omega)
  injection e with e
  subst e
  exact ⟨ps[k].1, ps[k].2, List.getElem?_eq_getElem hk, (hc k ps[k] (List.getElem?_eq_getElem hk)).1⟩
theorem PilesI.keep (h : PilesI w A ps) (hk : ∀ ad, A = some ad → 0 < ps.length → ad.block < w.heap.size → w'.heap[ad.block]? = w.heap[ad.block]?) : PilesI w' A ps := by
  refine ⟨h.small, fun hn => ?_⟩
  obtain ⟨ad, e, hc⟩ := h.read hn
  refine ⟨ad, e, fun j p hp => ?_⟩
  obtain ⟨h1, h2⟩ := hc j p hp
  have hlt := World.block_lt_of_cell? w _ h1
  rw [block_add] at hlt
  have hb := hk ad e hn hlt
  exact ⟨(World.cell?_of_block (w := w) (by rw [block_add]; exact hb)).trans h1, (World.cell?_of_block (w := w) (by rw [block_add]; exact hb)).trans h2⟩
theorem PilesI.below (h : PilesI w A ps) (hb : Below w.heap.size w w') : PilesI w' A ps := h.keep fun _ _ _ hlt => hb.block _ hlt
theorem PilesI.drewN (h : PilesI w A ps) (n : Nat) : PilesI (w.drewN n) A ps := ⟨h.small, h.read⟩
theorem PilesI.drew (h : PilesI w A ps) : PilesI w.drew A ps := ⟨h.small, h.read⟩
theorem PilesI.alloc (h : PilesI w A ps) (o : Obj) : PilesI (w.alloc o) A ps := h.keep fun _ _ _ hlt => Below.heap_alloc w o _ hlt
theorem PilesI.nil (w : World) (A : Option Addr) : PilesI w A [] := ⟨by simp, fun h => absurd h (by simp)⟩
end
/-- The cells of piles. -/
def pcs (ps : List (ByteArray × Int)) : List Value := ps.flatMap fun p => [.string p.1, .int .i64 p.2]
theorem pcs_len (ps : List (ByteArray × Int)) : (pcs ps).length = ps.length * 2 := by
  induction ps with
  | nil => rfl
  | cons p t ih => simp only [pcs, List.flatMap_cons, List.length_append, List.length_cons, List.length_nil] at ih ⊢; omega
theorem pcs_app (ps qs : List (ByteArray × Int)) : pcs (ps ++ qs) = pcs ps ++ pcs qs := by simp [pcs]
theorem pcs_at {ps : List (ByteArray × Int)} {k : Nat} {p : ByteArray × Int} (h : ps[k]? = some p) : (pcs ps)[k * 2]? = some (.string p.1) ∧ (pcs ps)[k * 2 + 1]? = some (.int .i64 p.2) := by
  induction ps generalizing k with
  | nil => simp at h
  | cons q t ih =>
    have e : pcs (q :: t) = .string q.1 :: .int .i64 q.2 :: pcs t := rfl
    cases k with
    | zero =>
      simp at h
      subst h
      rw [e]
      exact ⟨rfl, rfl⟩
    | succ k =>
      simp at h
      obtain ⟨h1, h2⟩ := ih h
      rw [e, show (k + 1) * 2 = k * 2 + 1 + 1 by omega]
      exact ⟨by rw [List.getElem?_cons_succ, List.getElem?_cons_succ]; exact h1, by rw [List.getElem?_cons_succ, List.getElem?_cons_succ]; exact h2⟩
theorem pcs_take (ps : List (ByteArray × Int)) (k : Nat) : (pcs ps).take (k * 2) = pcs (ps.take k) := by
  induction ps generalizing k with
  | nil => simp [pcs]
  | cons q t ih =>
    have e : pcs (q :: t) = .string q.1 :: .int .i64 q.2 :: pcs t := rfl
    cases k with
    | zero => simp [pcs]
    | succ k =>
      rw [e, show (k + 1) * 2 = k * 2 + 1 + 1 by omega, List.take_succ_cons, List.take_succ_cons, ih k]
      rfl
/-- The call owns the slice of piles. -/
structure OwnP (w : World) (base : Nat) (A : Option Addr) (n c : Nat) (ps : List (ByteArray × Int)) : Prop where
  len : ps.length = n
  small : ∀ p ∈ ps, p.1.size ≤ 1048576
  row : w.ownsRow base 31 2 (.slice A n c) n (pcs ps)
theorem infoPile : (Try.prog.info? 31).map (fun i => (i.zero, i.size, i.bytes)) = some (some (.agg #[.string ⟨#[]⟩, .int .i64 0]), 2, 24) := by kernel_rfl
section
variable {w w' : World} {base n c : Nat} {A : Option Addr} {ps : List (ByteArray × Int)}
theorem OwnP.piles (h : OwnP w base A n c ps) : PilesI w A ps := by
  refine ⟨h.small, fun hn => ?_⟩
  have hl := h.len
  rcases h.row.2 with ⟨hv, h0⟩ | ⟨g, cap, cur, hv, _⟩
  · omega
  · injection hv with hA
    subst hA
    refine ⟨_, rfl, fun j p hp => ?_⟩
    obtain ⟨h1, h2⟩ := pcs_at hp
    exact ⟨World.ownsRow.cells h.row (g := g) rfl _ _ h1, World.ownsRow.cells h.row (g := g) rfl _ _ h2⟩
theorem OwnP.alloc (h : OwnP w base A n c ps) (o : Obj) : OwnP (w.alloc o) base A n c ps := ⟨h.len, h.small, World.ownsRow.alloc h.row o⟩
theorem OwnP.drewN (h : OwnP w base A n c ps) (m : Nat) : OwnP (w.drewN m) base A n c ps := ⟨h.len, h.small, h.row⟩
theorem OwnP.drew (h : OwnP w base A n c ps) : OwnP w.drew base A n c ps := ⟨h.len, h.small, h.row⟩
theorem OwnP.below (h : OwnP w base A n c ps) (hb : Below w.heap.size w w') : OwnP w' base A n c ps :=
  ⟨h.len, h.small, World.ownsRow.kept h.row (row := none) ⟨hb.os, hb.tape, hb.output, hb.size, fun k hk _ => hb.block k hk⟩ (by cases hv : (Value.slice A n c).ownBlock <;> simp)⟩
theorem OwnP.mono (h : OwnP w base A n c ps) {b : Nat} (hb : b ≤ base) : OwnP w b A n c ps := by
  refine ⟨h.len, h.small, h.row.1, ?_⟩
  rcases h.row.2 with h2 | ⟨g, cap, cur, hv, hg, r⟩
  · exact .inl h2
  · exact .inr ⟨g, cap, cur, hv, by omega, r⟩
theorem OwnP.grown {row : Option Nat} (h : OwnP w base A n c ps) (hg : w.grownBy w' row) (hr : ∀ k, row = some k → (Value.slice A n c).ownBlock ≠ some k) : OwnP w' base A n c ps :=
  ⟨h.len, h.small, World.ownsRow.kept h.row hg (by
    cases hv : (Value.slice A n c).ownBlock with
    | none => exact .inl rfl
    | some b => exact .inr (fun e => hr b e.symm hv))⟩
theorem OwnP.block (h : OwnP w base A n c ps) : ∀ k, (Value.slice A n c).ownBlock = some k → base ≤ k ∧ k < w.heap.size := World.ownsRow.lt h.row
theorem OwnP.le_cap (h : OwnP w base A n c ps) : n ≤ c := by
  rcases h.row.2 with ⟨hv, h0⟩ | ⟨g, cap, cur, hv, hb, hg, h1, _⟩
  · omega
  · injection hv with _ _ hc
    omega
theorem OwnP.form (h : OwnP w base A n c ps) (hn : 0 < n) : ∃ g, A = some ⟨g, 0, none⟩ ∧ base ≤ g ∧ g < w.heap.size := by
  rcases h.row.2 with ⟨hv, h0⟩ | ⟨g, cap, cur, hv, hb, hg, _⟩
  · omega
  · injection hv with hA
    exact ⟨g, hA, hb, (Array.getElem?_eq_some_iff.1 hg).1⟩
theorem OwnP.congr {qs : List (ByteArray × Int)} (h : OwnP w base A n c ps) (e : ps = qs) : OwnP w base A n c qs := e ▸ h
theorem OwnP.nil (w : World) (base : Nat) : OwnP w base none 0 0 [] := ⟨rfl, by simp, World.ownsRow_nil w base _ _⟩
theorem OwnP.empty (w : World) {base : Nat} (hb : base ≤ w.heap.size) : OwnP (w.alloc (.cells #[] 31)) base (some ⟨w.heap.size, 0, none⟩) 0 0 [] :=
  ⟨rfl, by simp, World.ownsRow_made w #[] 0 hb (by simp [maxLen]) (by simp)⟩
theorem OwnP.btw {lo hi : Nat} (h : OwnP w base A n c ps) (hg : Btw lo hi w w') (hr : ∀ k, (Value.slice A n c).ownBlock = some k → k < lo ∨ hi ≤ k) : OwnP w' base A n c ps := by
  refine ⟨h.len, h.small, h.row.1, ?_⟩
  rcases h.row.2 with h2 | ⟨g, cap, cur, hv, hb, hgg, r⟩
  · exact .inl h2
  · refine .inr ⟨g, cap, cur, hv, hb, ?_, r⟩
    rw [hg.block g (Array.getElem?_eq_some_iff.1 hgg).1 (hr g (by rw [hv]; rfl))]
    exact hgg
theorem OwnP.takeN (h : OwnP w base A n c ps) {k : Nat} (hk : k ≤ n) (hA : 0 < n) : OwnP w base A k c (ps.take k) := by
  have hl := h.len
  refine ⟨by simp; omega, fun p hp => h.small p (List.mem_of_mem_take hp), ?_⟩
  rcases h.row.2 with ⟨hv, h0⟩ | ⟨g, cap, cur, hv, hb, hg, h1, h2, h3, h4⟩
  · omega
  · injection hv with hA hB hC
    subst hA
    subst hC
    refine ⟨by rw [pcs_len]; simp; omega, .inr ⟨g, c, cur, rfl, hb, hg, by omega, h2, h3, ?_⟩⟩
    rw [← pcs_take, ← h4, List.take_take, Nat.min_eq_left (by omega)]
end
end Go.Proofs.Ythngafmnkihkgaa
