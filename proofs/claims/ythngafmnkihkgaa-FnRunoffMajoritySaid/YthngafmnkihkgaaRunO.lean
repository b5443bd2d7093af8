/-
  Slices of rounds: what can be read, what the call owns.
-/
import Derived.Test.YthngafmnkihkgaaRunS
import Derived.Test.YthngafmnkihkgaaPilesV
namespace Go.Proofs.Ythngafmnkihkgaa
open Go.RowKit
/-- The slice of rounds at A reads as rs. -/
structure RoundsI (w : World) (A : Option Addr) (rs : List (List Int × Int)) : Prop where
  lens : ∀ r ∈ rs, r.1.length ≤ 5
  read : 0 < rs.length → ∃ ad, A = some ad ∧ ∀ j r, rs[j]? = some r → ∃ B c, r.1.length ≤ c ∧ w.cell? (ad.add (j * 2)) = some (.slice B r.1.length c) ∧ Ints w B r.1 ∧ w.cell? (ad.add (j * 2 + 1)) = some (.int .i64 r.2)
section
variable {w w' : World} {A : Option Addr} {rs : List (List Int × Int)}
theorem RoundsI.at_ (h : RoundsI w A rs) {k : Nat} (hk : k < rs.length) :
    ∃ ad B c xs o, A = some ad ∧ Hid (rs[k]? = some (xs, o)) ∧ xs.length ≤ 5 ∧ xs.length ≤ c ∧ Ints w B xs ∧ w.cell? (ad.add (k * 2)) = some (.slice B xs.length c) ∧ w.cell? ⟨(ad.add (k * 2)).block, (ad.add (k * 2)).off + 1, none⟩ = some (.int .i64 o) := by
  obtain ⟨ad, e, hc⟩ := h.read (by omega)
  obtain ⟨B, c, h0, h1, h2, h3⟩ := hc k rs[k] (List.getElem?_eq_getElem hk)
  exact ⟨ad, B, c, rs[k].1, rs[k].2, e, List.getElem?_eq_getElem hk, h.lens _ (List.getElem_mem hk), h0, h2, h1, (add_two ad (k * 2) 1).symm ▸ h3⟩
theorem RoundsI.below (h : RoundsI w A rs) (hb : Below w.heap.size w w') : RoundsI w' A rs := by
  refine ⟨h.lens, fun hn => ?_⟩
  obtain ⟨ad, e, hc⟩ := h.read hn
  refine ⟨ad, e, fun j r hr => ?_⟩
  obtain ⟨B, c, h0, h1, h2, h3⟩ := hc j r hr
  exact ⟨B, c, h0, cell_below hb h1, h2.below hb, cell_below hb h3⟩
theorem RoundsI.drewN (h : RoundsI w A rs) (n : Nat) : RoundsI (w.drewN n) A rs := ⟨h.lens, h.read⟩
theorem RoundsI.nil (w : World) (A : Option Addr) : RoundsI w A [] := ⟨by simp, fun h => absurd h (by simp)⟩
end
/-- A round: where its counts lie, their capacity, the counts, who leaves. -/
abbrev Rnd := Option Addr × Nat × List Int × Int
def rp (v : Rnd) : List Int × Int := (v.2.2.1, v.2.2.2)
def rcs (vs : List Rnd) : List Value := vs.flatMap fun v => [.slice v.1 v.2.2.1.length v.2.1, .int .i64 v.2.2.2]
theorem rcs_len (vs : List Rnd) : (rcs vs).length = vs.length * 2 := by
  induction vs with
  | nil => rfl
  | cons p t ih => simp only [rcs, List.flatMap_cons, List.length_append, List.length_cons, List.length_nil] at ih ⊢; omega
theorem rcs_app (vs us : List Rnd) : rcs (vs ++ us) = rcs vs ++ rcs us := by simp [rcs]
theorem rcs_one {vs : List Rnd} : ∀ u ∈ rcs vs, u.oneCell' = true := by
  intro u hu
  simp only [rcs, List.mem_flatMap] at hu
  obtain ⟨p, _, hp⟩ := hu
  simp at hp
  rcases hp with rfl | rfl <;> rfl
theorem rcs_at {vs : List Rnd} {k : Nat} {v : Rnd} (h : vs[k]? = some v) : (rcs vs)[k * 2]? = some (.slice v.1 v.2.2.1.length v.2.1) ∧ (rcs vs)[k * 2 + 1]? = some (.int .i64 v.2.2.2) := by
  induction vs generalizing k with
  | nil => simp at h
  | cons q t ih =>
    have e : rcs (q :: t) = .slice q.1 q.2.2.1.length q.2.1 :: .int .i64 q.2.2.2 :: rcs t := rfl
    cases k with
    | zero =>
      simp at h
      subst h
      rw [e]
      exact ⟨rfl, rfl⟩
    | succ k =>
      simp at h
      obtain ⟨h1, h2⟩ := ih h
      rw [e, show (k + 1) * 2 = k * 2 + 1 + 1 by omega]
      exact ⟨by rw [List.getElem?_cons_succ, List.getElem?_cons_succ]; exact h1, by rw [List.getElem?_cons_succ, List.getElem?_cons_succ]; exact h2⟩
/-- The call owns the slice of rounds and the counts in it. -/
structure OwnR (w : World) (base bi : Nat) (A : Option Addr) (n c : Nat) (vs : List Rnd) : Prop where
  len : vs.length = n
  row : w.ownsRow base 53 2 (.slice A n c) n (rcs vs)
  own : ∀ v ∈ vs, OwnI w bi v.1 v.2.1 v.2.2.1 ∧ v.2.2.1.length ≤ 5 ∧ v.2.2.1.length ≤ v.2.1
theorem infoRound : (Try.prog.info? 53).map (fun i => (i.zero, i.size, i.bytes)) = some (some (.agg #[.slice none 0 0, .int .i64 0]), 2, 32) := by kernel_rfl
/-- Two owned slices of unlike elements lie in two blocks. -/
theorem own_ne {w : World} {base base' n n' c c' k k' : Nat} {A A' : Option Addr} {T T' : Nat} {xs ys : List Value} (h : w.ownsRow base T k (.slice A n c) n xs) (h' : w.ownsRow base' T' k' (.slice A' n' c') n' ys) (hT : T ≠ T') {g : Nat} (e : (Value.slice A n c).ownBlock = some g) : (Value.slice A' n' c').ownBlock ≠ some g := by
  intro e'
  rcases h.2 with ⟨hv, _⟩ | ⟨g1, cap, cur, hv, _, hg, _⟩
  · rw [hv] at e; cases e
  rcases h'.2 with ⟨hv', _⟩ | ⟨g2, cap', cur', hv', _, hg', _⟩
  · rw [hv'] at e'; cases e'
  rw [hv] at e
  rw [hv'] at e'
  injection e with e
  injection e' with e'
  have e : g1 = g := e
  have e' : g2 = g := e'
  subst e
  subst e'
  rw [hg] at hg'
  injection hg' with hg'
  injection hg' with _ ht
  exact hT ht
section
variable {w w' : World} {base bi n c : Nat} {A : Option Addr} {vs : List Rnd}
theorem OwnR.rounds (h : OwnR w base bi A n c vs) : RoundsI w A (vs.map rp) := by
  refine ⟨fun r hr => ?_, fun hn => ?_⟩
  · obtain ⟨v, hv, rfl⟩ := List.mem_map.1 hr
    exact (h.own v hv).2.1
  · have hl := h.len
    simp at hn
    rcases h.row.2 with ⟨hv, h0⟩ | ⟨g, cap, cur, hv, _⟩
    · omega
    · injection hv with hA
      subst hA
      refine ⟨_, rfl, fun j r hr => ?_⟩
      rw [List.getElem?_map] at hr
      cases hv : vs[j]? with
      | none => rw [hv] at hr; cases hr
      | some v =>
        rw [hv] at hr
        injection hr with hr
        subst hr
        obtain ⟨h1, h2⟩ := rcs_at hv
        have ho := h.own v (List.mem_of_getElem? hv)
        exact ⟨v.1, v.2.1, ho.2.2, World.ownsRow.cells h.row (g := g) rfl _ _ h1, ho.1.ints, World.ownsRow.cells h.row (g := g) rfl _ _ h2⟩
theorem OwnR.mono (h : OwnR w base bi A n c vs) {b : Nat} (hb : b ≤ base) : OwnR w b bi A n c vs := by
  refine ⟨h.len, ⟨h.row.1, ?_⟩, h.own⟩
  rcases h.row.2 with h2 | ⟨g, cap, cur, hv, hg, r⟩
  · exact .inl h2
  · exact .inr ⟨g, cap, cur, hv, by omega, r⟩
theorem OwnR.below (h : OwnR w base bi A n c vs) (hb : Below w.heap.size w w') : OwnR w' base bi A n c vs :=
  ⟨h.len, World.ownsRow.kept h.row (row := none) ⟨hb.os, hb.tape, hb.output, hb.size, fun k hk _ => hb.block k hk⟩ (by cases hv : (Value.slice A n c).ownBlock <;> simp), fun v hv => ⟨(h.own v hv).1.below hb, (h.own v hv).2⟩⟩
theorem OwnR.alloc (h : OwnR w base bi A n c vs) (o : Obj) : OwnR (w.alloc o) base bi A n c vs := h.below ((Below.refl _ _).alloc (Nat.le_refl _) o)
theorem OwnR.drewN (h : OwnR w base bi A n c vs) (m : Nat) : OwnR (w.drewN m) base bi A n c vs := ⟨h.len, h.row, fun v hv => ⟨(h.own v hv).1.drewN m, (h.own v hv).2⟩⟩
/-- A truth is written into a slice of truths. -/
theorem OwnR.setB {base' g n' c' : Nat} {bs : List Bool} (h : OwnR w base bi A n c vs) (hb : OwnB w base' (some ⟨g, 0, none⟩) n' c' bs) (k : Nat) (b : Bool) : OwnR (w.setCell ⟨g, k, none⟩ (.bool b)) base bi A n c vs := by
  have hg := grown_setCell (grown_refl w (some g)) k (.bool b)
  refine ⟨h.len, World.ownsRow.kept h.row hg ?_, fun v hv => ⟨(h.own v hv).1.grown hg ?_, (h.own v hv).2⟩⟩
  · cases hv : (Value.slice A n c).ownBlock with
    | none => exact .inl rfl
    | some x => exact .inr (fun e => by injection e with e; subst e; exact own_ne hb.2 h.row (by decide) rfl hv)
  · intro x hx e
    injection hx with hx
    subst hx
    exact own_ne hb.2 (h.own v hv).1 (by decide) rfl e
end
theorem own_emptyR (w : World) {base bi : Nat} (hb : base ≤ w.heap.size) : OwnR (w.alloc (.cells #[] 53)) base bi (some ⟨w.heap.size, 0, none⟩) 0 0 [] :=
  ⟨rfl, World.ownsRow_made w #[] 0 hb (by simp [maxLen]) (by simp), fun v hv => by simp at hv⟩
theorem own_nilR (w : World) (base bi : Nat) : OwnR w base bi none 0 0 [] := ⟨rfl, World.ownsRow_nil w base _ _, fun v hv => by simp at hv⟩
/-- 'append(out, round)': the round lies in a new block of two cells. -/
theorem wpList_appR1 (w : World) {ops : Array Oper} {rest : List Oper} {o : Oper} {a : Act} {Q : Exit → Act → World → Prop}
    (hg : o.guard = none) (s x : Operand) (ho : o.op = .call { callee := .builtin .append, args := #[s, x], argTypes := #[48, 48] })
    (base bi : Nat) (A : Option Addr) (n c : Nat) (vs : List Rnd) (hs : a.eval s = .slice A n c) (hown : OwnR w base bi A n c vs) (hbase : base ≤ w.heap.size) (hn : n ≤ 1048570)
    (B : Option Addr) (l d : Nat) (xs : List Int) (r : Int) (hv : OwnN w bi B l d xs) (h5 : l ≤ 5) (hd : l ≤ d) (hx : a.eval x = .slice (some ⟨w.heap.size, 0, none⟩) 1 1)
    (hK : ∀ A' c' w', OwnR w' base bi A' (n + 1) c' (vs ++ [(B, d, xs, r)]) → w.grownBy w' (Value.slice A n c).ownBlock → Below base w w' → wpList Try.prog ops Q rest (a.put o.dst (.slice A' (n + 1) c')) w') :
    wpList Try.prog ops Q (o :: rest) a (w.alloc (.cells #[.slice B l d, .int .i64 r] 53)) := by
  obtain ⟨rfl, hv⟩ := hv
  obtain ⟨i0, hi, hz0, hz1, hz2⟩ := info_parts infoRound
  refine wpList_append_own _ hg s x 48 ho base 53 i0 (.agg #[.slice none 0 0, .int .i64 0]) 2 32 Try.underlying48 hi hz0 hz1 hz2 rfl (by omega) _ _ _ hs (hown.alloc _).row ⟨w.heap.size, 0, none⟩ 1 1 (rcs [(B, d, xs, r)]) hx rfl ?_ rcs_one (by simp only [maxLen]; omega) (by omega) (by simp; omega) ?_
  · intro j u hj
    match j, hj with
    | 0, hj =>
      simp [rcs] at hj
      subst hj
      exact cell_of_row _ w.heap.size 0 #[.slice B xs.length d, .int .i64 r] 53 (0, 0) (heap_alloc_new w _)
    | 1, hj =>
      simp [rcs] at hj
      subst hj
      exact cell_of_row _ w.heap.size 1 #[.slice B xs.length d, .int .i64 r] 53 (0, 0) (heap_alloc_new w _)
  · intro v' w' h1 h2 _
    obtain ⟨A', c', rfl⟩ := row_form h1
    have h3 : w.grownBy w' (Value.slice A n c).ownBlock :=
      ⟨h2.os, h2.tape, h2.output, by have := h2.size; simp at this; omega, fun k hk hne => (h2.block k (heap_lt hk _) hne).trans (Below.heap_alloc w _ k hk)⟩
    have hcnt : ∀ {B' : Option Addr} {d' : Nat} {ys : List Int}, OwnI w bi B' d' ys → OwnI w' bi B' d' ys := fun ho => ho.grown h3 (fun k hk e => own_ne hown.row ho (by decide) hk e)
    refine hK A' c' w' ⟨by simp [hown.len], by rw [rcs_app]; exact h1, fun v hv' => ?_⟩ h3 (below_of_grown h3 hbase (fun k hk => (World.ownsRow.lt hown.row k hk).1))
    rcases List.mem_append.1 hv' with hv' | hv'
    · exact ⟨hcnt (hown.own v hv').1, (hown.own v hv').2⟩
    · simp at hv'
      subst hv'
      exact ⟨hcnt hv, h5, hd⟩
/-- A slice of truths is as it was when a round is appended. -/
theorem OwnB.grownR {w w' : World} {base base' bi n n' c c' : Nat} {A A' : Option Addr} {bs : List Bool} {vs : List Rnd} (h : OwnB w base' A' n' c' bs) (hr : OwnR w base bi A n c vs) (hg : w.grownBy w' (Value.slice A n c).ownBlock) : OwnB w' base' A' n' c' bs :=
  h.grownB hg (fun _ hk e => own_ne hr.row h.2 (by decide) hk e)
end Go.Proofs.Ythngafmnkihkgaa
