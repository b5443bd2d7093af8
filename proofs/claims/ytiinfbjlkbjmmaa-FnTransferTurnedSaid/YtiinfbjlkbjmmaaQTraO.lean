/-
  Slices of steps: what can be read, what the call owns.
-/
import Derived.Test.YtiinfbjlkbjmmaaQTraW
namespace Go.Proofs.Ytiinfbjlkbjmmaa
open Go.RowKit
/-- The slice of steps at A reads as rs. -/
structure StepsI (w : World) (A : Option Addr) (rs : List Stp) : Prop where
  read : 0 < rs.length → ∃ ad, A = some ad ∧ ∀ j r, rs[j]? = some r → ∃ B c, r.1.length ≤ c ∧ w.cell? (ad.add (j * 3)) = some (.slice B r.1.length c) ∧ Fracs w B r.1 ∧ w.cell? (ad.add (j * 3 + 1)) = some (.int .i64 r.2.1) ∧ w.cell? (ad.add (j * 3 + 2)) = some (.int .i64 r.2.2)
section
variable {w w' : World} {A : Option Addr} {rs : List Stp}
set_option maxRecDepth 100000 in
theorem StepsI.at_ (h : StepsI w A rs) {k : Nat} (hk : k < rs.length) :
    ∃ ad B c xs o t, A = some ad ∧ Hid (rs[k]? = some (xs, o, t)) ∧ xs.length ≤ c ∧ Fracs w B xs ∧ w.cell? (ad.add (k * 3)) = some (.slice B xs.length c) ∧ w.cell? ⟨(ad.add (k * 3)).block, (ad.add (k * 3)).off + 1, none⟩ = some (.int .i64 o) ∧ w.cell? ⟨(ad.add (k * 3)).block, (ad.add (k * 3)).off + 2, none⟩ = some (.int .i64 t) := by
  obtain ⟨ad, e, hc⟩ := h.read (by omega)
  obtain ⟨B, c, h0, h1, h2, h3, h4⟩ := hc k rs[k] (List.getElem?_eq_getElem hk)
  exact ⟨ad, B, c, rs[k].1, rs[k].2.1, rs[k].2.2, e, List.getElem?_eq_getElem hk, h0, h2, h1, (add_two ad (k * 3) 1).symm ▸ h3, (add_two ad (k * 3) 2).symm ▸ h4⟩
set_option maxRecDepth 100000 in
theorem StepsI.below (h : StepsI w A rs) (hb : Below w.heap.size w w') : StepsI w' A rs := by
  refine ⟨fun hn => ?_⟩
  obtain ⟨ad, e, hc⟩ := h.read hn
  refine ⟨ad, e, fun j r hr => ?_⟩
  obtain ⟨B, c, h0, h1, h2, h3, h4⟩ := hc j r hr
  exact ⟨B, c, h0, cell_below hb h1, h2.below hb, cell_below hb h3, cell_below hb h4⟩
set_option maxRecDepth 100000 in
theorem StepsI.drewN (h : StepsI w A rs) (n : Nat) : StepsI (w.drewN n) A rs := ⟨h.read⟩
set_option maxRecDepth 100000 in
theorem StepsI.drew (h : StepsI w A rs) : StepsI w.drew A rs := ⟨h.read⟩
set_option maxRecDepth 100000 in
theorem StepsI.nil (w : World) (A : Option Addr) : StepsI w A [] := ⟨fun h => absurd h (by simp)⟩
end
/-- A step: where its counts lie, their capacity, the counts, the candidate, what happens. -/
abbrev Vst := Option Addr × Nat × List Fr × Int × Int
def sp (v : Vst) : Stp := (v.2.2.1, v.2.2.2.1, v.2.2.2.2)
def scs (vs : List Vst) : List Value := vs.flatMap fun v => [.slice v.1 v.2.2.1.length v.2.1, .int .i64 v.2.2.2.1, .int .i64 v.2.2.2.2]
set_option maxRecDepth 100000 in
theorem scs_len (vs : List Vst) : (scs vs).length = vs.length * 3 := by
  induction vs with
  | nil => rfl
  | cons p t ih => simp only [scs, List.flatMap_cons, List.length_append, List.length_cons, List.length_nil] at ih ⊢; omega
set_option maxRecDepth 100000 in
theorem scs_app (vs us : List Vst) : scs (vs ++ us) = scs vs ++ scs us := by simp [scs]
set_option maxRecDepth 100000 in
theorem scs_one {vs : List Vst} : ∀ u ∈ scs vs, u.oneCell' = true := by
  intro u hu
  simp only [scs, List.mem_flatMap] at hu
  obtain ⟨p, _, hp⟩ := hu
  simp at hp
  rcases hp with rfl | rfl | rfl <;> rfl
set_option maxRecDepth 100000 in
theorem scs_at {vs : List Vst} {k : Nat} {v : Vst} (h : vs[k]? = some v) : (scs vs)[k * 3]? = some (.slice v.1 v.2.2.1.length v.2.1) ∧ (scs vs)[k * 3 + 1]? = some (.int .i64 v.2.2.2.1) ∧ (scs vs)[k * 3 + 2]? = some (.int .i64 v.2.2.2.2) := by
  induction vs generalizing k with
  | nil => simp at h
  | cons q t ih =>
    have e : scs (q :: t) = .slice q.1 q.2.2.1.length q.2.1 :: .int .i64 q.2.2.2.1 :: .int .i64 q.2.2.2.2 :: scs t := rfl
    cases k with
    | zero =>
      simp at h
      subst h
      rw [e]
      exact ⟨rfl, rfl, rfl⟩
    | succ k =>
      simp at h
      obtain ⟨h1, h2, h3⟩ := ih h
      rw [e, show (k + 1) * 3 = k * 3 + 1 + 1 + 1 by omega]
      exact ⟨by simpa only [List.getElem?_cons_succ] using h1, by simpa only [List.getElem?_cons_succ] using h2, by simpa only [List.getElem?_cons_succ] using h3⟩
/-- The call owns the slice of steps and the counts in it (from bi on). -/
structure OwnS (w : World) (base bi : Nat) (A : Option Addr) (n c : Nat) (vs : List Vst) : Prop where
  len : vs.length = n
  row : w.ownsRow base 68 3 (.slice A n c) n (scs vs)
  own : ∀ v ∈ vs, OwnF w bi v.1 v.2.2.1.length v.2.1 v.2.2.1
set_option maxRecDepth 100000 in
theorem infoStep : (Try.prog.info? 68).map (fun i => (i.zero, i.size, i.bytes)) = some (some (.agg #[.slice none 0 0, .int .i64 0, .int .i64 0]), 3, 40) := by kernel_rfl
section
variable {w w' : World} {base bi n c : Nat} {A : Option Addr} {vs : List Vst}
set_option maxRecDepth 100000 in
theorem OwnS.steps (h : OwnS w base bi A n c vs) : StepsI w A (vs.map sp) := by
  refine ⟨fun hn => ?_⟩
  have hl := h.len
  simp at hn
  rcases h.row.2 with ⟨hv, h0⟩ | ⟨g, cap, cur, hv, _⟩
  · omega
  · injection hv with hA
    subst hA
    refine ⟨_, rfl, fun j r hr => ?_⟩
    rw [List.getElem?_map] at hr
    cases hv : vs[j]? with
    | none => rw [hv] at hr; cases hr
    | some v =>
      rw [hv] at hr
      injection hr with hr
      subst hr
      obtain ⟨h1, h2, h3⟩ := scs_at hv
      have ho := h.own v (List.mem_of_getElem? hv)
      exact ⟨v.1, v.2.1, ho.le_cap, World.ownsRow.cells h.row (g := g) rfl _ _ h1, ho.fracs, World.ownsRow.cells h.row (g := g) rfl _ _ h2, World.ownsRow.cells h.row (g := g) rfl _ _ h3⟩
set_option maxRecDepth 100000 in
theorem OwnS.below (h : OwnS w base bi A n c vs) (hb : Below w.heap.size w w') : OwnS w' base bi A n c vs :=
  ⟨h.len, World.ownsRow.kept h.row (row := none) ⟨hb.os, hb.tape, hb.output, hb.size, fun k hk _ => hb.block k hk⟩ (by cases hv : (Value.slice A n c).ownBlock <;> simp), fun v hv => (h.own v hv).below hb⟩
set_option maxRecDepth 100000 in
theorem OwnS.alloc (h : OwnS w base bi A n c vs) (o : Obj) : OwnS (w.alloc o) base bi A n c vs := h.below ((Below.refl _ _).alloc (Nat.le_refl _) o)
set_option maxRecDepth 100000 in
theorem OwnS.drewN (h : OwnS w base bi A n c vs) (m : Nat) : OwnS (w.drewN m) base bi A n c vs := ⟨h.len, h.row, fun v hv => (h.own v hv).drewN m⟩
set_option maxRecDepth 100000 in
theorem OwnS.le_cap (h : OwnS w base bi A n c vs) : n ≤ c := by
  rcases h.row.2 with ⟨hv, h0⟩ | ⟨g, cap, cur, hv, hb, hg, h1, _⟩
  · omega
  · injection hv with _ _ hc
    omega
set_option maxRecDepth 100000 in
theorem OwnS.mono (h : OwnS w base bi A n c vs) {b b' : Nat} (hb : b ≤ base) (hb' : b' ≤ bi) : OwnS w b b' A n c vs := by
  refine ⟨h.len, ⟨h.row.1, ?_⟩, fun v hv => (h.own v hv).mono hb'⟩
  rcases h.row.2 with h2 | ⟨g, cap, cur, hv, hg, r⟩
  · exact .inl h2
  · exact .inr ⟨g, cap, cur, hv, by omega, r⟩
set_option maxRecDepth 100000 in
/-- Blocks between lo and hi have turned, and all of the steps lies elsewhere. -/
theorem OwnS.btw {lo hi : Nat} (h : OwnS w base bi A n c vs) (hg : Btw lo hi w w') (hb : hi ≤ base) (hi' : hi ≤ bi) : OwnS w' base bi A n c vs := by
  refine ⟨h.len, ⟨h.row.1, ?_⟩, fun v hv => (h.own v hv).btw hg (fun k hk => .inr (by have := ((h.own v hv).block k hk).1; omega))⟩
  rcases h.row.2 with h2 | ⟨g, cap, cur, hv, hgb, hgg, r⟩
  · exact .inl h2
  · refine .inr ⟨g, cap, cur, hv, hgb, ?_, r⟩
    rw [hg.block g (Array.getElem?_eq_some_iff.1 hgg).1 (.inr (by omega))]
    exact hgg
set_option maxRecDepth 100000 in
/-- A truth is written into a slice of truths. -/
theorem OwnS.setB {base' g n' c' : Nat} {bs : List Bool} (h : OwnS w base bi A n c vs) (hb : OwnB w base' (some ⟨g, 0, none⟩) n' c' bs) (k : Nat) (b : Bool) : OwnS (w.setCell ⟨g, k, none⟩ (.bool b)) base bi A n c vs := by
  have hg := grown_setCell (grown_refl w (some g)) k (.bool b)
  refine ⟨h.len, World.ownsRow.kept h.row hg ?_, fun v hv => (h.own v hv).grown hg ?_⟩
  · cases hv : (Value.slice A n c).ownBlock with
    | none => exact .inl rfl
    | some x => exact .inr (fun e => by injection e with e; subst e; exact own_ne hb.2 h.row (by decide) rfl hv)
  · intro x hx e
    injection hx with hx
    subst hx
    exact own_ne hb.2 (h.own v hv).row (by decide) rfl e
end
set_option maxRecDepth 100000 in
theorem own_emptyS (w : World) {base bi : Nat} (hb : base ≤ w.heap.size) : OwnS (w.alloc (.cells #[] 68)) base bi (some ⟨w.heap.size, 0, none⟩) 0 0 [] :=
  ⟨rfl, World.ownsRow_made w #[] 0 hb (by simp [maxLen]) (by simp), fun v hv => by simp at hv⟩
set_option maxRecDepth 100000 in
theorem own_nilS (w : World) (base bi : Nat) : OwnS w base bi none 0 0 [] := ⟨rfl, World.ownsRow_nil w base _ _, fun v hv => by simp at hv⟩
set_option maxRecDepth 100000 in
/-- 'append(out, step)': the step lies in a new block of three cells. -/
theorem wpList_appS1 (w : World) {ops : Array Oper} {rest : List Oper} {o : Oper} {a : Act} {Q : Exit → Act → World → Prop}
    (hg : o.guard = none) (s x : Operand) (ho : o.op = .call { callee := .builtin .append, args := #[s, x], argTypes := #[31, 31] })
    (base bi : Nat) (A : Option Addr) (n c : Nat) (vs : List Vst) (hs : a.eval s = .slice A n c) (hown : OwnS w base bi A n c vs) (hbase : base ≤ w.heap.size) (hn : n ≤ 1048570)
    (B : Option Addr) (l d : Nat) (xs : List Fr) (r t : Int) (hv : OwnF w bi B l d xs) (hx : a.eval x = .slice (some ⟨w.heap.size, 0, none⟩) 1 1)
    (hK : ∀ A' c' w', OwnS w' base bi A' (n + 1) c' (vs ++ [(B, d, xs, r, t)]) → w.grownBy w' (Value.slice A n c).ownBlock → Below base w w' → wpList Try.prog ops Q rest (a.put o.dst (.slice A' (n + 1) c')) w') :
    wpList Try.prog ops Q (o :: rest) a (w.alloc (.cells #[.slice B l d, .int .i64 r, .int .i64 t] 68)) := by
  have hl := hv.len
  subst hl
  obtain ⟨i0, hi, hz0, hz1, hz2⟩ := info_parts infoStep
  refine wpList_append_own _ hg s x 31 ho base 68 i0 (.agg #[.slice none 0 0, .int .i64 0, .int .i64 0]) 3 40 Try.underlying31 hi hz0 hz1 hz2 rfl (by omega) _ _ _ hs (hown.alloc _).row ⟨w.heap.size, 0, none⟩ 1 1 (scs [(B, d, xs, r, t)]) hx rfl ?_ scs_one (by simp only [maxLen]; omega) (by omega) (by simp; omega) ?_
  · intro j u hj
    match j, hj with
    | 0, hj =>
      simp [scs] at hj
      subst hj
      exact cell_of_row _ w.heap.size 0 #[.slice B xs.length d, .int .i64 r, .int .i64 t] 68 (0, 0) (heap_alloc_new w _)
    | 1, hj =>
      simp [scs] at hj
      subst hj
      exact cell_of_row _ w.heap.size 1 #[.slice B xs.length d, .int .i64 r, .int .i64 t] 68 (0, 0) (heap_alloc_new w _)
    | 2, hj =>
      simp [scs] at hj
      subst hj
      exact cell_of_row _ w.heap.size 2 #[.slice B xs.length d, .int .i64 r, .int .i64 t] 68 (0, 0) (heap_alloc_new w _)
  · intro v' w' h1 h2 _
    obtain ⟨A', c', rfl⟩ := row_form h1
    have h3 : w.grownBy w' (Value.slice A n c).ownBlock :=
      ⟨h2.os, h2.tape, h2.output, by have := h2.size; simp at this; omega, fun k hk hne => (h2.block k (heap_lt hk _) hne).trans (Below.heap_alloc w _ k hk)⟩
    have hcnt : ∀ {B' : Option Addr} {m d' : Nat} {ys : List Fr}, OwnF w bi B' m d' ys → OwnF w' bi B' m d' ys := fun ho => ho.grown h3 (fun k hk e => own_ne hown.row ho.row (by decide) hk e)
    refine hK A' c' w' ⟨by simp [hown.len], by rw [scs_app]; exact h1, fun v hv' => ?_⟩ h3 (below_of_grown h3 hbase (fun k hk => (World.ownsRow.lt hown.row k hk).1))
    rcases List.mem_append.1 hv' with hv' | hv'
    · exact hcnt (hown.own v hv')
    · simp at hv'
      subst hv'
      exact hcnt hv
set_option maxRecDepth 100000 in
/-- What else the call owns is as it was when a step is appended. -/
theorem OwnB.grownS {w w' : World} {base base' bi n n' c c' : Nat} {A A' : Option Addr} {bs : List Bool} {vs : List Vst} (h : OwnB w base' A' n' c' bs) (hr : OwnS w base bi A n c vs) (hg : w.grownBy w' (Value.slice A n c).ownBlock) : OwnB w' base' A' n' c' bs :=
  h.grownB hg (fun _ hk e => own_ne hr.row h.2 (by decide) hk e)
set_option maxRecDepth 100000 in
theorem OwnF.grownS {w w' : World} {base base' bi n n' c c' : Nat} {A A' : Option Addr} {fs : List Fr} {vs : List Vst} (h : OwnF w base' A' n' c' fs) (hr : OwnS w base bi A n c vs) (hg : w.grownBy w' (Value.slice A n c).ownBlock) : OwnF w' base' A' n' c' fs :=
  h.grown hg (fun _ hk e => own_ne hr.row h.row (by decide) hk e)
/-- It returns the steps, and b. -/
def NewSB (w : World) (r : List Stp × Bool) (e : Ending) (w' : World) : Prop := ∃ A c vs, e = .returned (.tuple #[.slice A r.1.length c, .bool r.2]) ∧ OwnS w' w.heap.size w.heap.size A r.1.length c vs ∧ vs.map sp = r.1 ∧ Below w.heap.size w w'
def NewS (w : World) (rs : List Stp) (e : Ending) (w' : World) : Prop := ∃ A c vs, e = .returned (.slice A rs.length c) ∧ OwnS w' w.heap.size w.heap.size A rs.length c vs ∧ vs.map sp = rs ∧ Below w.heap.size w w'
set_option maxRecDepth 100000 in
theorem newS_of {w w' : World} {rs : List Stp} {A : Option Addr} {n c : Nat} {vs : List Vst} (ho : OwnS w' w.heap.size w.heap.size A n c vs) (e : vs.map sp = rs) (hb : Below w.heap.size w w') : NewS w rs (.returned (.slice A n c)) w' := by
  have hl := ho.len
  have hn : rs.length = n := by rw [← e, List.length_map, hl]
  subst hn
  exact ⟨A, c, vs, rfl, ho, e, hb⟩
set_option maxRecDepth 100000 in
theorem newSB_of {w w' : World} {r : List Stp × Bool} {A : Option Addr} {n c : Nat} {b : Bool} {vs : List Vst} (ho : OwnS w' w.heap.size w.heap.size A n c vs) (e : r = (vs.map sp, b)) (hb : Below w.heap.size w w') : NewSB w r (.returned (.tuple #[.slice A n c, .bool b])) w' := by
  subst e
  have hl := ho.len
  have hn : (vs.map sp).length = n := by rw [List.length_map, hl]
  subst hn
  exact ⟨A, c, vs, rfl, ho, rfl, hb⟩
end Go.Proofs.Ytiinfbjlkbjmmaa
