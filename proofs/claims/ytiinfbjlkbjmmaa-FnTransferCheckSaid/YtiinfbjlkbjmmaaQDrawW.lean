/-
  Steps of some numbers, of which an integer may be written over.
-/
import Derived.Test.YtiinfbjlkbjmmaaQDrawT
import Derived.Test.YtiinfbjlkbjmmaaQTraL
import Derived.Test.YtiinfbjlkbjmmaaQTraZ
namespace Go.Proofs.Ytiinfbjlkbjmmaa
open Go.ChangeShapes Go.WideShapes Go.ChangeAt Go.RowKit
set_option maxRecDepth 100000 in
theorem tr_pos (ps : List (ByteArray × Int)) (lots : List Int) (s : Int) : ∀ st ∈ (trF ps lots s).1, 1 ≤ st.1.length := by
  cases h : trOk ps lots s
  · rw [tr_f h]; simp
  · rw [tr_t h]
    unfold startT
    have h2 := trOk_iff.1 h
    have := stepsT_small (ps := pl ps) (lots := lots) (q := quoT (totM ps).toNat s.toNat) lots.length (List.replicate lots.length false) (List.replicate ps.length (1, 1)) s.toNat
    rw [List.length_replicate] at this
    exact fun st hst => by have := this.2 st hst; omega
set_option maxRecDepth 100000 in
theorem cell_farS {w : World} {p : Addr} {u : Value} (h : w.cell? p = some u) {a : Addr} {v : Value} (hne : a.block ≠ p.block) : (w.setCell a v).cell? p = some u :=
  (World.cell?_setCell_other w _ _ _ (fun e => hne (by rw [e]))).trans h
set_option maxRecDepth 100000 in
/-- An integer is written over an integer: what else there is, is as it was. -/
theorem cell_setInt {w : World} {a b : Addr} {z z' : Int} {v : Value} (hc : w.cell? a = some (.int .i64 z)) (hb : w.cell? b = some v) :
    (w.setCell a (.int .i64 z')).cell? b = some v ∨ ((∃ y, v = .int .i64 y) ∧ (w.setCell a (.int .i64 z')).cell? b = some (.int .i64 z')) := by
  by_cases e : a = b
  · subst e
    rw [hc] at hb
    injection hb with hb
    exact .inr ⟨⟨z, hb.symm⟩, World.cell?_setCell_same w _ _ hc⟩
  · exact .inl ((World.cell?_setCell_other w _ _ _ e).trans hb)
set_option maxRecDepth 100000 in
theorem int_setInt {w : World} {a b : Addr} {z z' y : Int} (hc : w.cell? a = some (.int .i64 z)) (hb : w.cell? b = some (.int .i64 y)) : ∃ x, (w.setCell a (.int .i64 z')).cell? b = some (.int .i64 x) := by
  rcases cell_setInt (z' := z') hc hb with h | ⟨_, h⟩
  · exact ⟨_, h⟩
  · exact ⟨_, h⟩
set_option maxRecDepth 100000 in
theorem slice_setInt {w : World} {a b : Addr} {z z' : Int} {B : Option Addr} {l c : Nat} (hc : w.cell? a = some (.int .i64 z)) (hb : w.cell? b = some (.slice B l c)) : (w.setCell a (.int .i64 z')).cell? b = some (.slice B l c) := by
  rcases cell_setInt (z' := z') hc hb with h | ⟨⟨_, h⟩, _⟩
  · exact h
  · cases h
/-- n steps of some numbers, all in blocks from lo on. -/
structure StepsW (w : World) (lo : Nat) (A : Option Addr) (n : Nat) : Prop where
  read : 0 < n → ∃ g, A = some ⟨g, 0, none⟩ ∧ lo ≤ g ∧ (∀ i, w.frozen? ⟨g, i, none⟩ = false) ∧ ∀ j, j < n → ∃ (gb l c : Nat) (o t : Int), 1 ≤ l ∧ l ≤ 1048576 ∧ l ≤ c ∧ w.cell? ⟨g, j * 3, none⟩ = some (.slice (some ⟨gb, 0, none⟩) l c) ∧ w.cell? ⟨g, j * 3 + 1, none⟩ = some (.int .i64 o) ∧ w.cell? ⟨g, j * 3 + 2, none⟩ = some (.int .i64 t) ∧ lo ≤ gb ∧ (∀ i, w.frozen? ⟨gb, i, none⟩ = false) ∧ ∀ i, i < l * 2 → ∃ z, w.cell? ⟨gb, i, none⟩ = some (.int .i64 z)
section
variable {w w' : World} {lo n : Nat} {A : Option Addr}
set_option maxRecDepth 100000 in
theorem StepsW.keep (h : StepsW w lo A n) (hk : ∀ k, lo ≤ k → k < w.heap.size → w'.heap[k]? = w.heap[k]?) : StepsW w' lo A n := by
  refine ⟨fun hn => ?_⟩
  obtain ⟨g, e, hlo, hz, hc⟩ := h.read hn
  have one : ∀ {b : Addr} {v : Value}, lo ≤ b.block → w.cell? b = some v → w'.cell? b = some v := fun hb hv => (World.cell?_of_block (w := w) (hk _ hb (World.block_lt_of_cell? w _ hv))).trans hv
  have fz : ∀ {b : Nat} {v : Value} {i0 : Nat}, lo ≤ b → w.cell? ⟨b, i0, none⟩ = some v → (∀ i, w.frozen? ⟨b, i, none⟩ = false) → ∀ i, w'.frozen? ⟨b, i, none⟩ = false := by
    intro b v i0 hb hv hf i
    have hbk : b < w.heap.size := World.block_lt_of_cell? w ⟨b, i0, none⟩ hv
    exact (World.frozen?_of_block (w := w) (a := ⟨b, i, none⟩) (hk b hb hbk)).trans (hf i)
  obtain ⟨_, _, _, _, _, _, _, _, h2, _⟩ := hc 0 hn
  refine ⟨g, e, hlo, fz hlo h2 hz, fun j hj => ?_⟩
  obtain ⟨gb, l, c, o, t, h0, h00, h1, h2, h3, h4, h5, h6, h7⟩ := hc j hj
  obtain ⟨z0, hz0⟩ := h7 0 (by omega)
  refine ⟨gb, l, c, o, t, h0, h00, h1, one hlo h2, one hlo h3, one hlo h4, h5, fz h5 hz0 h6, fun i hi => ?_⟩
  obtain ⟨z, hz⟩ := h7 i hi
  exact ⟨z, one h5 hz⟩
set_option maxRecDepth 100000 in
theorem StepsW.below (h : StepsW w lo A n) (hb : Below w.heap.size w w') : StepsW w' lo A n := h.keep fun _ _ hk => hb.block _ hk
set_option maxRecDepth 100000 in
theorem StepsW.dr {rb : Nat} (h : StepsW w lo A n) (hd : Dr rb w w') (hr : rb < lo) : StepsW w' lo A n := h.keep fun _ hl hk => hd.block _ hk (by omega)
set_option maxRecDepth 100000 in
theorem StepsW.drew (h : StepsW w lo A n) : StepsW w.drew lo A n := ⟨h.read⟩
set_option maxRecDepth 100000 in
theorem StepsW.setInt {a : Addr} {z z' : Int} (h : StepsW w lo A n) (hc : w.cell? a = some (.int .i64 z)) : StepsW (w.setCell a (.int .i64 z')) lo A n := by
  refine ⟨fun hn => ?_⟩
  obtain ⟨g, e, hlo, hfz, hr⟩ := h.read hn
  refine ⟨g, e, hlo, fun i => by rw [World.frozen?_setCell]; exact hfz i, fun j hj => ?_⟩
  obtain ⟨gb, l, c, o, t, h0, h00, h1, h2, h3, h4, h5, h6, h7⟩ := hr j hj
  obtain ⟨o', h3⟩ := int_setInt (z' := z') hc h3
  obtain ⟨t', h4⟩ := int_setInt (z' := z') hc h4
  refine ⟨gb, l, c, o', t', h0, h00, h1, slice_setInt hc h2, h3, h4, h5, fun i => by rw [World.frozen?_setCell]; exact h6 i, fun i hi => ?_⟩
  obtain ⟨z, hz⟩ := h7 i hi
  exact int_setInt hc hz
set_option maxRecDepth 100000 in
theorem StepsW.take {k : Nat} (h : StepsW w lo A n) (hk : k ≤ n) : StepsW w lo A k := by
  refine ⟨fun hn => ?_⟩
  obtain ⟨g, e, hlo, hfz, hr⟩ := h.read (by omega)
  exact ⟨g, e, hlo, hfz, fun j hj => hr j (by omega)⟩
set_option maxRecDepth 100000 in
theorem ints_pick (w : World) (g l : Nat) : (∀ i, i < l * 2 → ∃ z : Int, w.cell? ⟨g, i, none⟩ = some (.int .i64 z)) → ∃ fs : List (Int × Int), fs.length = l ∧ ∀ j f, fs[j]? = some f → w.cell? ((⟨g, 0, none⟩ : Addr).add (j * 2)) = some (.int .i64 f.1) ∧ w.cell? ((⟨g, 0, none⟩ : Addr).add (j * 2 + 1)) = some (.int .i64 f.2) := by
  induction l with
  | zero => exact fun _ => ⟨[], rfl, fun j f hf => by simp at hf⟩
  | succ l ih =>
    intro h
    obtain ⟨fs, h1, h2⟩ := ih (fun i hi => h i (by omega))
    obtain ⟨x, hx⟩ := h (l * 2) (by omega)
    obtain ⟨y, hy⟩ := h (l * 2 + 1) (by omega)
    refine ⟨fs ++ [(x, y)], by simp [h1], fun j f hf => ?_⟩
    rcases Nat.lt_or_ge j l with hj | hj
    · rw [List.getElem?_append_left (by omega)] at hf
      exact h2 j f hf
    · have hjl : j < l + 1 := by
        have := (List.getElem?_eq_some_iff.1 hf).1
        simp [h1] at this
        omega
      obtain rfl : j = l := by omega
      rw [List.getElem?_append_right (by omega), h1, Nat.sub_self] at hf
      simp at hf
      subst hf
      rw [add_row, add_row]
      exact ⟨hx, hy⟩
set_option maxRecDepth 100000 in
theorem steps_pick (P : Nat → Stz → Prop) (n : Nat) : (∀ j, j < n → ∃ s, P j s) → ∃ ss : List Stz, ss.length = n ∧ ∀ j s, ss[j]? = some s → P j s := by
  induction n with
  | zero => exact fun _ => ⟨[], rfl, fun j f hf => by simp at hf⟩
  | succ n ih =>
    intro h
    obtain ⟨ss, h1, h2⟩ := ih (fun i hi => h i (by omega))
    obtain ⟨x, hx⟩ := h n (by omega)
    refine ⟨ss ++ [x], by simp [h1], fun j f hf => ?_⟩
    rcases Nat.lt_or_ge j n with hj | hj
    · rw [List.getElem?_append_left (by omega)] at hf
      exact h2 j f hf
    · have hjl : j < n + 1 := by
        have := (List.getElem?_eq_some_iff.1 hf).1
        simp [h1] at this
        omega
      obtain rfl : j = n := by omega
      rw [List.getElem?_append_right (by omega), h1, Nat.sub_self] at hf
      simp at hf
      subst hf
      exact hx
set_option maxRecDepth 100000 in
theorem StepsW.z (h : StepsW w lo A n) : ∃ ss : List Stz, ss.length = n ∧ StepsZ w A ss := by
  by_cases hn : 0 < n
  · obtain ⟨g, e, hlo, hfz, hr⟩ := h.read hn
    obtain ⟨ss, h1, h2⟩ := steps_pick (fun j r => ∃ B c, r.1.length ≤ 1048576 ∧ r.1.length ≤ c ∧ w.cell? ((⟨g, 0, none⟩ : Addr).add (j * 3)) = some (.slice B r.1.length c) ∧ FracsZ w B r.1 ∧ w.cell? ((⟨g, 0, none⟩ : Addr).add (j * 3 + 1)) = some (.int .i64 r.2.1) ∧ w.cell? ((⟨g, 0, none⟩ : Addr).add (j * 3 + 2)) = some (.int .i64 r.2.2)) n (fun j hj => by
      obtain ⟨gb, l, c, o, t, h0, h00, h1, h2, h3, h4, h5, h6, h7⟩ := hr j hj
      obtain ⟨fs, hf1, hf2⟩ := ints_pick w gb l h7
      subst hf1
      exact ⟨(fs, o, t), some ⟨gb, 0, none⟩, c, h00, h1, by rw [add_row]; exact h2, fun _ => ⟨_, rfl, hf2⟩, by rw [add_row]; exact h3, by rw [add_row]; exact h4⟩)
    exact ⟨ss, h1, ⟨fun _ => ⟨_, e, h2⟩⟩⟩
  · obtain rfl : n = 0 := by omega
    exact ⟨[], rfl, StepsZ.nil w A⟩
set_option maxRecDepth 100000 in
theorem OwnS.weak {c : Nat} {vs : List Vst} (h : OwnS w lo lo A n c vs) (hl : ∀ v ∈ vs, 1 ≤ v.2.2.1.length ∧ v.2.2.1.length ≤ 1048576) : StepsW w lo A n := by
  refine ⟨fun hn => ?_⟩
  obtain ⟨g, hA, hlo⟩ : ∃ g, A = some ⟨g, 0, none⟩ ∧ lo ≤ g := by
    rcases h.row.2 with ⟨hv, h0⟩ | ⟨g, cap, cur, hv, hb, _⟩
    · omega
    · injection hv with hA
      exact ⟨g, hA, hb⟩
  subst hA
  refine ⟨g, rfl, hlo, fun i => World.ownsRow.frozenAt h.row i, fun j hj => ?_⟩
  have hj' : j < vs.length := by rw [h.len]; exact hj
  have hm := List.getElem_mem hj'
  have hv := List.getElem?_eq_getElem hj'
  generalize vs[j] = v at *
  obtain ⟨l0, l1⟩ := hl v hm
  have ho := h.own v hm
  obtain ⟨q1, q2, q3⟩ := scs_at hv
  have e1 := World.ownsRow.cells h.row (g := g) rfl _ _ q1
  have e2 := World.ownsRow.cells h.row (g := g) rfl _ _ q2
  have e3 := World.ownsRow.cells h.row (g := g) rfl _ _ q3
  rw [add_row] at e1 e2 e3
  obtain ⟨gb, hgb, hgl, _⟩ := ho.form (by omega)
  rw [hgb] at ho e1
  refine ⟨gb, _, _, _, _, l0, l1, ho.le_cap, e1, e2, e3, hgl, fun i => ho.frozen i, fun i hi => ?_⟩
  have hi2 : i < (fcs v.2.2.1).length := by rw [fcs_len]; exact hi
  have hcl := ho.fracs.cells i _ (List.getElem?_eq_getElem hi2)
  rw [add_row] at hcl
  obtain ⟨k, f, _, hk⟩ := fcs_at_inv (List.getElem?_eq_getElem hi2)
  rcases hk with ⟨_, hk⟩ | ⟨_, hk⟩
  · exact ⟨_, hcl.trans (by rw [hk])⟩
  · exact ⟨_, hcl.trans (by rw [hk])⟩
end
end Go.Proofs.Ytiinfbjlkbjmmaa
