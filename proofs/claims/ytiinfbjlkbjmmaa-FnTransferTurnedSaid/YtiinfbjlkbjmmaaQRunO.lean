/-
  Slices of rounds: what can be read, what the call owns.
-/
import Derived.Test.YtiinfbjlkbjmmaaQPilesF
import Derived.Test.YtiinfbjlkbjmmaaQPilesV
import Derived.Test.YtiinfbjlkbjmmaaQLots
namespace Go.Proofs.Ytiinfbjlkbjmmaa
open Go.RowKit
/-- The slice of rounds at A reads as rs. -/
structure RoundsI (w : World) (A : Option Addr) (rs : List (List Int × Int)) : Prop where
  lens : ∀ r ∈ rs, r.1.length ≤ 5
  read : 0 < rs.length → ∃ ad, A = some ad ∧ ∀ j r, rs[j]? = some r → ∃ B c, r.1.length ≤ c ∧ w.cell? (ad.add (j * 2)) = some (.slice B r.1.length c) ∧ Ints w B r.1 ∧ w.cell? (ad.add (j * 2 + 1)) = some (.int .i64 r.2)
section
variable {w w' : World} {A : Option Addr} {rs : List (List Int × Int)}
set_option maxRecDepth 100000 in
theorem RoundsI.at_ (h : RoundsI w A rs) {k : Nat} (hk : k < rs.length) :
    ∃ ad B c xs o, A = some ad ∧ Hid (rs[k]? = some (xs, o)) ∧ xs.length ≤ 5 ∧ xs.length ≤ c ∧ Ints w B xs ∧ w.cell? (ad.add (k * 2)) = some (.slice B xs.length c) ∧ w.cell? ⟨(ad.add (k * 2)).block, (ad.add (k * 2)).off + 1, none⟩ = some (.int .i64 o) := by
  obtain ⟨ad, e, hc⟩ := h.read (by omega)
  obtain ⟨B, c, h0, h1, h2, h3⟩ := hc k rs[k] (List.getElem?_eq_getElem hk)
  exact ⟨ad, B, c, rs[k].1, rs[k].2, e, List.getElem?_eq_getElem hk, h.lens _ (List.getElem_mem hk), h0, h2, h1, (add_two ad (k * 2) 1).symm ▸ h3⟩
set_option maxRecDepth 100000 in
theorem RoundsI.below (h : RoundsI w A rs) (hb : Below w.heap.size w w') : RoundsI w' A rs := by
  refine ⟨h.lens, fun hn => ?_⟩
  obtain ⟨ad, e, hc⟩ := h.read hn
  refine ⟨ad, e, fun j r hr => ?_⟩
  obtain ⟨B, c, h0, h1, h2, h3⟩ := hc j r hr
  exact ⟨B, c, h0, cell_below hb h1, h2.below hb, cell_below hb h3⟩
set_option maxRecDepth 100000 in
theorem RoundsI.drewN (h : RoundsI w A rs) (n : Nat) : RoundsI (w.drewN n) A rs := ⟨h.lens, h.read⟩
set_option maxRecDepth 100000 in
theorem RoundsI.nil (w : World) (A : Option Addr) : RoundsI w A [] := ⟨by simp, fun h => absurd h (by simp)⟩
end
/-- A round: where its counts lie, their capacity, the counts, who leaves. -/
abbrev Rnd := Option Addr × Nat × List Int × Int
def rp (v : Rnd) : List Int × Int := (v.2.2.1, v.2.2.2)
def rcs (vs : List Rnd) : List Value := vs.flatMap fun v => [.slice v.1 v.2.2.1.length v.2.1, .int .i64 v.2.2.2]
set_option maxRecDepth 100000 in
theorem rcs_len (vs : List Rnd) : (rcs vs).length = vs.length * 2 := by
  induction vs with
  | nil => rfl
  | cons p t ih => simp only [rcs, List.flatMap_cons, List.length_append, List.length_cons, List.length_nil] at ih ⊢; omega
set_option maxRecDepth 100000 in
theorem rcs_app (vs us : List Rnd) : rcs (vs ++ us) = rcs vs ++ rcs us := by simp [rcs]
set_option maxRecDepth 100000 in
theorem rcs_one {vs : List Rnd} : ∀ u ∈ rcs vs, u.oneCell' = true := by
  intro u hu
  simp only [rcs, List.mem_flatMap] at hu
  obtain ⟨p, _, hp⟩ := hu
  simp at hp
  rcases hp with rfl | rfl <;> rfl
set_option maxRecDepth 100000 in
theorem rcs_at {vs : List Rnd} {k : Nat} {v : Rnd} (h : vs[k]? = some v) : (rcs vs)[k * 2]? = some (.slice v.1 v.2.2.1.length v.2.1) ∧ (rcs vs)[k * 2 + 1]? = some (.int .i64 v.2.2.2) := by
  induction vs generalizing k with
  | nil => simp at h
  | cons q t ih =>
    have e : rcs (q :: t) = .slice q.1 q.2.2.1.length q.2.1 :: .int .i64 q.2.2.2 :: rcs t := rfl
    cases k with
    | zero =>
      simp at h
      subst h
      rw [e]
      exact ⟨rfl, rfl⟩
    | succ k =>
      simp at h
      obtain ⟨h1, h2⟩ := ih h
      rw [e, show (k + 1) * 2 = k * 2 + 1 + 1 by omega]
      exact ⟨by rw [List.getElem?_cons_succ, List.getElem?_cons_succ]; exact h1, by rw [List.getElem?_cons_succ, List.getElem?_cons_succ]; exact h2⟩
/-- The call owns the slice of rounds and the counts in it. -/
structure OwnR (w : World) (base bi : Nat) (A : Option Addr) (n c : Nat) (vs : List Rnd) : Prop where
  len : vs.length = n
  row : w.ownsRow base 96 2 (.slice A n c) n (rcs vs)
  own : ∀ v ∈ vs, OwnI w bi v.1 v.2.1 v.2.2.1 ∧ v.2.2.1.length ≤ 5 ∧ v.2.2.1.length ≤ v.2.1
set_option maxRecDepth 100000 in
theorem infoRound : (Try.prog.info? 96).map (fun i => (i.zero, i.size, i.bytes)) = some (some (.agg #[.slice none 0 0, .int .i64 0]), 2, 32) := by kernel_rfl
set_option maxRecDepth 100000 in
/-- Two owned slices of unlike elements lie in two blocks. -/
theorem own_ne {w : World} {base base' n n' c c' k k' : Nat} {A A' : Option Addr} {T T' : Nat} {xs ys : List Value} (h : w.ownsRow base T k (.slice A n c) n xs) (h' : w.ownsRow base' T' k' (.slice A' n' c') n' ys) (hT : T ≠ T') {g : Nat} (e : (Value.slice A n c).ownBlock = some g) : (Value.slice A' n' c').ownBlock ≠ some g := by
  intro e'
  rcases h.2 with ⟨hv, _⟩ | ⟨g1, cap, cur, hv, _, hg, _⟩
  · rw [hv] at e; cases e
  rcases h'.2 with ⟨hv', _⟩ | ⟨g2, cap', cur', hv', _, hg', _⟩
  · rw [hv'] at e'; cases e'
  rw [hv] at e
  rw [hv'] at e'
  injection e with e
  injection e' with e'
  have e : g1 = g := e
  have e' : g2 = g := e'
  subst e
  subst e'
  rw [hg] at hg'
  injection hg' with hg'
  injection hg' with _ ht
  exact hT ht
section
variable {w w' : World} {base bi n c : Nat} {A : Option Addr} {vs : List Rnd}
set_option maxRecDepth 100000 in
theorem OwnR.rounds (h : OwnR w base bi A n c vs) : RoundsI w A (vs.map rp) := by
  refine ⟨fun r hr => ?_, fun hn => ?_⟩
  · obtain ⟨v, hv, rfl⟩ := List.mem_map.1 hr
    exact (h.own v hv).2.1
  · have hl := h.len
    simp at hn
    rcases h.row.2 with ⟨hv, h0⟩ | ⟨g, cap, cur, hv, _⟩
    · omega
    · injection hv with hA
      subst hA
      refine ⟨_, rfl, fun j r hr => ?_⟩
      rw [List.getElem?_map] at hr
      cases hv : vs[j]? with
      | none => rw [hv] at hr; cases hr
      | some v =>
        rw [hv] at hr
        injection hr with hr
        subst hr
        obtain ⟨h1, h2⟩ := rcs_at hv
        have ho := h.own v (List.mem_of_getElem? hv)
        exact ⟨v.1, v.2.1, ho.2.2, World.ownsRow.cells h.row (g := g) rfl _ _ h1, ho.1.ints, World.ownsRow.cells h.row (g := g) rfl _ _ h2⟩
set_option maxRecDepth 100000 in
theorem OwnR.mono (h : OwnR w base bi A n c vs) {b : Nat} (hb : b ≤ base) : OwnR w b bi A n c vs := by
  refine ⟨h.len, ⟨h.row.1, ?_⟩, h.own⟩
  rcases h.row.2 with h2 | ⟨g, cap, cur, hv, hg, r⟩
  · exact .inl h2
  · exact .inr ⟨g, cap, cur, hv, by omega, r⟩
set_option maxRecDepth 100000 in
theorem OwnR.below (h : OwnR w base bi A n c vs) (hb : Below w.heap.size w w') : OwnR w' base bi A n c vs :=
  ⟨h.len, World.ownsRow.kept h.row (row := none) ⟨hb.os, hb.tape, hb.output, hb.size, fun k hk _ => hb.block k hk⟩ (by cases hv : (Value.slice A n c).ownBlock <;> simp), fun v hv => ⟨(h.own v hv).1.below hb, (h.own v hv).2⟩⟩
set_option maxRecDepth 100000 in
theorem OwnR.alloc (h : OwnR w base bi A n c vs) (o : Obj) : OwnR (w.alloc o) base bi A n c vs := h.below ((Below.refl _ _).alloc (Nat.le_refl _) o)
set_option maxRecDepth 100000 in
theorem OwnR.drewN (h : OwnR w base bi A n c vs) (m : Nat) : OwnR (w.drewN m) base bi A n c vs := ⟨h.len, h.row, fun v hv => ⟨(h.own v hv).1.drewN m, (h.own v hv).2⟩⟩
set_option maxRecDepth 100000 in
/-- A truth is written into a slice of truths. -/
theorem OwnR.setB {base' g n' c' : Nat} {bs : List Bool} (h : OwnR w base bi A n c vs) (hb : OwnB w base' (some ⟨g, 0, none⟩) n' c' bs) (k : Nat) (b : Bool) : OwnR (w.setCell ⟨g, k, none⟩ (.bool b)) base bi A n c vs := by
  have hg := grown_setCell (grown_refl w (some g)) k (.bool b)
  refine ⟨h.len, World.ownsRow.kept h.row hg ?_, fun v hv => ⟨(h.own v hv).1.grown hg ?_, (h.own v hv).2⟩⟩
  · cases hv : (Value.slice A n c).ownBlock with
    | none => exact .inl rfl
    | some x => exact .inr (fun e => by injection e with e; subst e; exact own_ne hb.2 h.row (by decide) rfl hv)
  · intro x hx e
    injection hx with hx
    subst hx
    exact own_ne hb.2 (h.own v hv).1 (by decide) rfl e
end
set_option maxRecDepth 100000 in
theorem own_emptyR (w : World) {base bi : Nat} (hb : base ≤ w.heap.size) : OwnR (w.alloc (.cells #[] 96)) base bi (some ⟨w.heap.size, 0, none⟩) 0 0 [] :=
  ⟨rfl, World.ownsRow_made w #[] 0 hb (by simp [maxLen]) (by simp), fun v hv => by simp at hv⟩
set_option maxRecDepth 100000 in
theorem own_nilR (w : World) (base bi : Nat) : OwnR w base bi none 0 0 [] := ⟨rfl, World.ownsRow_nil w base _ _, fun v hv => by simp at hv⟩
set_option maxRecDepth 100000 in
/-- 'append(out, round)': the round lies in a new block of two cells. -/
theorem wpList_appR1 (w : World) {ops : Array Oper} {rest : List Oper} {o : Oper} {a : Act} {Q : Exit → Act → World → Prop}
    (hg : o.guard = none) (s x : Operand) (ho : o.op = .call { callee := .builtin .append, args := #[s, x], argTypes := #[92, 92] })
    (base bi : Nat) (A : Option Addr) (n c : Nat) (vs : List Rnd) (hs : a.eval s = .slice A n c) (hown : OwnR w base bi A n c vs) (hbase : base ≤ w.heap.size) (hn : n ≤ 1048570)
    (B : Option Addr) (l d : Nat) (xs : List Int) (r : Int) (hv : OwnN w bi B l d xs) (h5 : l ≤ 5) (hd : l ≤ d) (hx : a.eval x = .slice (some ⟨w.heap.size, 0, none⟩) 1 1)
    (hK : ∀ A' c' w', OwnR w' base bi A' (n + 1) c' (vs ++ [(B, d, xs, r)]) → w.grownBy w' (Value.slice A n c).ownBlock → Below base w w' → wpList Try.prog ops Q rest (a.put o.dst (.slice A' (n + 1) c')) w') :
    wpList Try.prog ops Q (o :: rest) a (w.alloc (.cells #[.slice B l d, .int .i64 r] 96)) := by
  obtain ⟨rfl, hv⟩ := hv
  obtain ⟨i0, hi, hz0, hz1, hz2⟩ := info_parts infoRound
  refine wpList_append_own _ hg s x 92 ho base 96 i0 (.agg #[.slice none 0 0, .int .i64 0]) 2 32 Try.underlying92 hi hz0 hz1 hz2 rfl (by omega) _ _ _ hs (hown.alloc _).row ⟨w.heap.size, 0, none⟩ 1 1 (rcs [(B, d, xs, r)]) hx rfl ?_ rcs_one (by simp only [maxLen]; omega) (by omega) (by simp; omega) ?_
  · intro j u hj
    match j, hj with
    | 0, hj =>
      simp [rcs] at hj
      subst hj
      exact cell_of_row _ w.heap.size 0 #[.slice B xs.length d, .int .i64 r] 96 (0, 0) (heap_alloc_new w _)
    | 1, hj =>
      simp [rcs] at hj
      subst hj
      exact cell_of_row _ w.heap.size 1 #[.slice B xs.length d, .int .i64 r] 96 (0, 0) (heap_alloc_new w _)
  · intro v' w' h1 h2 _
    obtain ⟨A', c', rfl⟩ := row_form h1
    have h3 : w.grownBy w' (Value.slice A n c).ownBlock :=
      ⟨h2.os, h2.tape, h2.output, by have := h2.size; simp at this; omega, fun k hk hne => (h2.block k (heap_lt hk _) hne).trans (Below.heap_alloc w _ k hk)⟩
    have hcnt : ∀ {B' : Option Addr} {d' : Nat} {ys : List Int}, OwnI w bi B' d' ys → OwnI w' bi B' d' ys := fun ho => ho.grown h3 (fun k hk e => own_ne hown.row ho (by decide) hk e)
    refine hK A' c' w' ⟨by simp [hown.len], by rw [rcs_app]; exact h1, fun v hv' => ?_⟩ h3 (below_of_grown h3 hbase (fun k hk => (World.ownsRow.lt hown.row k hk).1))
    rcases List.mem_append.1 hv' with hv' | hv'
    · exact ⟨hcnt (hown.own v hv').1, (hown.own v hv').2⟩
    · simp at hv'
      subst hv'
      exact ⟨hcnt hv, h5, hd⟩
set_option maxRecDepth 100000 in
/-- A slice of truths is as it was when a round is appended. -/
theorem OwnB.grownR {w w' : World} {base base' bi n n' c c' : Nat} {A A' : Option Addr} {bs : List Bool} {vs : List Rnd} (h : OwnB w base' A' n' c' bs) (hr : OwnR w base bi A n c vs) (hg : w.grownBy w' (Value.slice A n c).ownBlock) : OwnB w' base' A' n' c' bs :=
  h.grownB hg (fun _ hk e => own_ne hr.row h.2 (by decide) hk e)
end Go.Proofs.Ytiinfbjlkbjmmaa
/-
  All rounds of a runoff: the reference's way.
-/
namespace Go.Proofs.Ytiinfbjlkbjmmaa
open Go.RowKit
set_option maxRecDepth 100000 in
theorem roundsF_done {ps : List Pl} {lots : List Int} {k : Nat} {left : List Bool} (h : doneF (cntL left ps) left = true) : roundsF ps lots (k + 1) left = [(cntL left ps, -1)] := by
  simp only [roundsF]
  rw [if_pos h]
set_option maxRecDepth 100000 in
theorem roundsF_more {ps : List Pl} {lots : List Int} {k : Nat} {left : List Bool} (h : doneF (cntL left ps) left = false) : roundsF ps lots (k + 1) left = (cntL left ps, leastF (cntL left ps) left lots) :: roundsF ps lots k (left.set (leastF (cntL left ps) left lots).toNat true) := by
  simp only [roundsF]
  rw [if_neg (by rw [h]; simp)]
set_option maxRecDepth 100000 in
theorem least_at {cs : List Int} {bs : List Bool} {lots : List Int} (hv : lv lots = true) (hl : bs.length = lots.length) (ht : 1 ≤ thereL bs) : ∃ q : Nat, leastF cs bs lots = (q : Int) ∧ bs[q]? = some false ∧ q < lots.length := by
  obtain ⟨k, hk⟩ := thereL_pos ht
  have hkl := (List.getElem?_eq_some_iff.1 hk).1
  have hr := (lv_iff.1 hv).2.1
  have h1 := leastF_some (cs := cs) (left := bs) (fun l hl => (hr l hl).1) (lots_all hv (i := k) (by omega)) (atB_at hk)
  rcases leastF_in cs bs lots with h2 | ⟨h2, h3⟩
  · exact absurd h2 h1
  · have h4 := hr _ h2
    refine ⟨(leastF cs bs lots).toNat, by omega, ?_, by omega⟩
    have h5 : (leastF cs bs lots).toNat < bs.length := by omega
    unfold atB at h3
    rw [List.getD_eq_getElem?_getD, List.getElem?_eq_getElem h5] at h3
    rw [List.getElem?_eq_getElem h5]
    exact congrArg some h3
set_option maxRecDepth 100000 in
theorem cnt_bds {ps : List (ByteArray × Int)} {n : Nat} (h : FitOk ps n) (left : List Bool) : ∀ x ∈ cntL left (pl ps), 0 ≤ x ∧ x ≤ 1188 := by
  intro x hx
  simp only [cntL, List.mem_map] at hx
  obtain ⟨c, _, rfl⟩ := hx
  have := cntC_bd h left (c : Int) ps.length
  rwa [List.take_length] at this
/-- What holds before round k. -/
def RInv (ps : List Pl) (lots : List Int) (n k : Nat) (rs : List (List Int × Int)) (bs : List Bool) : Prop :=
  bs.length = n ∧ thereL bs = (n : Int) - k ∧ rs ++ roundsF ps lots (n - k) bs = roundsF ps lots n (List.replicate n false)
set_option maxRecDepth 100000 in
theorem thereL_rep (n : Nat) : thereL (List.replicate n false) = n := by
  unfold thereL
  induction n with
  | zero => rfl
  | succ n ih =>
    rw [List.replicate_succ, List.map_cons, List.sum_cons, ih]
    simp; omega
set_option maxRecDepth 100000 in
theorem rInv_start (ps : List Pl) (lots : List Int) (n : Nat) : RInv ps lots n 0 [] (List.replicate n false) := ⟨by simp, by rw [thereL_rep]; omega, rfl⟩
set_option maxRecDepth 100000 in
theorem rInv_done {ps : List Pl} {lots : List Int} {n k : Nat} {rs : List (List Int × Int)} {bs : List Bool} (h : RInv ps lots n k rs bs) (hk : k < n) (hd : doneF (cntL bs ps) bs = true) : roundsF ps lots n (List.replicate n false) = rs ++ [(cntL bs ps, -1)] := by
  obtain ⟨m, hm⟩ : ∃ m, n - k = m + 1 := ⟨n - k - 1, by omega⟩
  have := h.2.2
  rw [hm, roundsF_done hd] at this
  exact this.symm
set_option maxRecDepth 100000 in
theorem rInv_more {ps : List Pl} {lots : List Int} {n k q : Nat} {rs : List (List Int × Int)} {bs : List Bool} (h : RInv ps lots n k rs bs) (hk : k < n) (hd : doneF (cntL bs ps) bs = false) (hq : leastF (cntL bs ps) bs lots = (q : Int)) (hb : bs[q]? = some false) : RInv ps lots n (k + 1) (rs ++ [(cntL bs ps, (q : Int))]) (bs.set q true) := by
  obtain ⟨m, hm⟩ : ∃ m, n - k = m + 1 := ⟨n - k - 1, by omega⟩
  refine ⟨by rw [List.length_set]; exact h.1, by rw [thereL_set hb, h.2.1]; omega, ?_⟩
  have := h.2.2
  rw [hm, roundsF_more hd, hq] at this
  rw [show n - (k + 1) = m by omega, ← this, List.append_assoc]; rfl
set_option maxRecDepth 100000 in
theorem rInv_last {ps : List Pl} {lots : List Int} {n k : Nat} {rs : List (List Int × Int)} {bs : List Bool} (h : RInv ps lots n k rs bs) (hk : n ≤ k) : roundsF ps lots n (List.replicate n false) = rs := by
  have := h.2.2
  rw [show n - k = 0 by omega] at this
  simp only [roundsF, List.append_nil] at this
  exact this.symm
set_option maxRecDepth 100000 in
/-- The last one there is is done. -/
theorem rInv_end {ps : List Pl} {lots : List Int} {n k : Nat} {rs : List (List Int × Int)} {bs : List Bool} (h : RInv ps lots n k rs bs) (hd : doneF (cntL bs ps) bs = false) : k + 1 ≠ n := by
  intro e
  have := h.2.1
  unfold doneF at hd
  rw [show thereL bs = 1 by omega] at hd
  simp at hd
/-- It returns the rounds. -/
def NewR (w : World) (rs : List (List Int × Int)) (e : Ending) (w' : World) : Prop := ∃ A c, e = .returned (.slice A rs.length c) ∧ RoundsI w' A rs ∧ rs.length ≤ c ∧ Below w.heap.size w w'
def NewRB (w : World) (r : List (List Int × Int) × Bool) (e : Ending) (w' : World) : Prop := ∃ A c, e = .returned (.tuple #[.slice A r.1.length c, .bool r.2]) ∧ RoundsI w' A r.1 ∧ r.1.length ≤ c ∧ Below w.heap.size w w'
set_option maxRecDepth 100000 in
theorem OwnR.le_cap {w : World} {base bi n c : Nat} {A : Option Addr} {vs : List Rnd} (h : OwnR w base bi A n c vs) : n ≤ c := by
  rcases h.row.2 with ⟨hv, h0⟩ | ⟨g, cap, cur, hv, hb, hg, h1, _⟩
  · omega
  · injection hv with _ _ hc
    omega
set_option maxRecDepth 100000 in
theorem newR_mk {w w' : World} {rs : List (List Int × Int)} {A : Option Addr} {n c bi : Nat} {vs : List Rnd} (ho : OwnR w' w.heap.size bi A n c vs) (e : rs = vs.map rp) (hb : Below w.heap.size w w') : NewR w rs (.returned (.slice A n c)) w' := by
  subst e
  have hl := ho.len
  have hc := ho.le_cap
  exact ⟨A, c, by rw [List.length_map, hl], ho.rounds, by rw [List.length_map, hl]; exact hc, hb⟩
set_option maxRecDepth 100000 in
theorem newRB_mk {w w' : World} {r : List (List Int × Int) × Bool} {A : Option Addr} {n c bi : Nat} {b : Bool} {vs : List Rnd} (ho : OwnR w' w.heap.size bi A n c vs) (e : r = (vs.map rp, b)) (hb : Below w.heap.size w w') : NewRB w r (.returned (.tuple #[.slice A n c, .bool b])) w' := by
  subst e
  have hl := ho.len
  have hc := ho.le_cap
  exact ⟨A, c, by simp only [List.length_map, hl], ho.rounds, by simp only [List.length_map, hl]; exact hc, hb⟩
end Go.Proofs.Ytiinfbjlkbjmmaa
/-
  All rounds of a runoff, with the checks: the reference's.
-/
namespace Go.Proofs.Ytiinfbjlkbjmmaa
open Go.RowKit
def rrF (ps : List (ByteArray × Int)) (lots : List Int) : List (List Int × Int) × Bool :=
  if (lv lots && fitV ps lots.length) = true then (roundsF (pl ps) lots lots.length (List.replicate lots.length false), true) else ([], false)
set_option maxRecDepth 100000 in
theorem rr_f {ps : List (ByteArray × Int)} {lots : List Int} (h : (lv lots && fitV ps lots.length) = false) : rrF ps lots = ([], false) := by
  unfold rrF
  rw [if_neg (by rw [h]; simp)]
set_option maxRecDepth 100000 in
theorem rr_t {ps : List (ByteArray × Int)} {lots : List Int} (h : (lv lots && fitV ps lots.length) = true) : rrF ps lots = (roundsF (pl ps) lots lots.length (List.replicate lots.length false), true) := by
  unfold rrF
  rw [if_pos h]
end Go.Proofs.Ytiinfbjlkbjmmaa
/-
  All rounds of a runoff: the program's.
-/
namespace Go.Proofs.Ytiinfbjlkbjmmaa
open Go.RowKit
/-- The block of a round that is being made. -/
def Box (w : World) (bx : Nat) (B : Option Addr) (l d : Nat) (z : Int) : Prop := w.ownsRow bx 96 2 (.slice (some ⟨bx, 0, none⟩) 1 1) 1 [.slice B l d, .int .i64 z]
set_option maxRecDepth 100000 in
theorem box_new (w : World) (B : Option Addr) (l d : Nat) (z : Int) : Box (w.alloc (.cells #[.slice B l d, .int .i64 z] 96)) w.heap.size B l d z :=
  ⟨rfl, .inr ⟨w.heap.size, 1, _, rfl, Nat.le_refl _, heap_alloc_new w _, by omega, by simp [maxLen], rfl, rfl⟩⟩
section
variable {w w' : World} {bx : Nat} {B : Option Addr} {l d : Nat} {z : Int}
set_option maxRecDepth 100000 in
theorem Box.c0 (h : Box w bx B l d z) : w.cell? ⟨bx, 0, none⟩ = some (.slice B l d) := World.ownsRow.cells h (g := bx) rfl 0 _ rfl
set_option maxRecDepth 100000 in
theorem Box.c1 (h : Box w bx B l d z) : w.cell? ⟨bx, 1, none⟩ = some (.int .i64 z) := World.ownsRow.cells h (g := bx) rfl 1 _ rfl
set_option maxRecDepth 100000 in
theorem Box.fz (h : Box w bx B l d z) : w.frozen? ⟨bx, 1, none⟩ = false := World.ownsRow.frozenAt h 1
set_option maxRecDepth 100000 in
theorem Box.drewN (h : Box w bx B l d z) (n : Nat) : Box (w.drewN n) bx B l d z := h
set_option maxRecDepth 100000 in
theorem Box.set (h : Box w bx B l d z) (y : Int) : Box (w.setCell ⟨bx, 1, none⟩ (.int .i64 y)) bx B l d y := (World.ownsRow.stored h 1 (.int .i64 y)).1
set_option maxRecDepth 100000 in
theorem Box.grown {g : Option Nat} (h : Box w bx B l d z) (hg : w.grownBy w' g) (hn : ∀ k, g = some k → k < bx) : Box w' bx B l d z :=
  World.ownsRow.kept h hg (.inr (fun e => by
    have := hn bx e.symm
    omega))
end
def lenOf : Value → Nat
  | .slice _ n _ => n
  | _ => 0
set_option maxRecDepth 100000 in
theorem stepL_l {cs : List Int} {left : List Bool} {o : Int} {p : Nat} (hp : left[p]? = some true) : stepL cs left o (p : Int) = o := if_neg (fun h => by rw [atB_at hp] at h; cases h.1)
set_option maxRecDepth 100000 in
theorem stepL_first {cs : List Int} {left : List Bool} {p : Nat} (hp : left[p]? = some false) : stepL cs left (-1) (p : Int) = (p : Int) := if_pos ⟨atB_at hp, .inl (by omega)⟩
set_option maxRecDepth 100000 in
theorem stepL_t {cs : List Int} {left : List Bool} {o p : Nat} {x y : Int} (hp : left[p]? = some false) (hx : cs[p]? = some x) (hy : cs[o]? = some y) (h : x ≤ y) : stepL cs left (o : Int) (p : Int) = (p : Int) := if_pos ⟨atB_at hp, .inr (by rw [atI_at hx, atI_at hy]; exact h)⟩
set_option maxRecDepth 100000 in
theorem stepL_f {cs : List Int} {left : List Bool} {o p : Nat} {x y : Int} (hx : cs[p]? = some x) (hy : cs[o]? = some y) (h : ¬x ≤ y) : stepL cs left (o : Int) (p : Int) = (o : Int) := if_neg (fun hh => by
  rcases hh.2 with h2 | h2
  · omega
  · rw [atI_at hx, atI_at hy] at h2; exact h h2)
set_option maxRecDepth 100000 in
theorem leastF_nn {cs : List Int} {left : List Bool} {ls : List Int} {n : Nat} (hr : ∀ l ∈ ls, 0 ≤ l ∧ l < n) : leastF cs left ls = -1 ∨ ∃ q : Nat, leastF cs left ls = (q : Int) ∧ q < n := by
  rcases leastF_in cs left ls with h | ⟨h, _⟩
  · exact .inl h
  · have := hr _ h
    exact .inr ⟨(leastF cs left ls).toNat, by omega, by omega⟩
set_option maxRecDepth 100000 in
set_option maxHeartbeats 3200000 in
theorem runoffRounds_any (A A2 : Option Addr) (ps : List (ByteArray × Int)) (lots : List Int) (c c2 : Nat) (w : World) (h : PilesI w A ps) (h2 : Ints w A2 lots) (hl : ps.length ≤ 1048576) (hl2 : lots.length ≤ 1000000) (hcap : lots.length ≤ c2) :
    Calls Try.prog 57 #[.slice A ps.length c, .slice A2 lots.length c2] w (NewRB w (rrF ps lots)) := by
  have cV := Lib.hid (lotsValid_any A2 lots c2 w h2 (by omega) hcap)
  have cF := Lib.hid (pilesFit_any A ps c lots.length w h hl)
  cases hv : lv lots
  · rw [hv] at cV
    have hq := Lib.hid (rr_f (ps := ps) (lots := lots) (by rw [hv]; rfl))
    go_enter Try.func57, Try.ntmps57
    go_wp2_with (go_at_call 48; refine cV.out.mono ?_; rintro e w1 ⟨rfl, rfl⟩)
    go_ret2
    exact newRB_mk (own_nilR _ _ w.heap.size) (by rw [hq.out]; rfl) (Below.refl _ _)
  · rw [hv] at cV
    cases hf : fitV ps lots.length
    · have hq := Lib.hid (rr_f (ps := ps) (lots := lots) (by rw [hf, hv]; rfl))
      rw [hf] at cF
      go_enter Try.func57, Try.ntmps57
      go_wp2_with (first | (go_at_call 48; refine cV.out.mono ?_; rintro e w1 ⟨rfl, rfl⟩) | (go_at_call 49; refine cF.out.mono ?_; rintro e w1 ⟨rfl, hb1⟩))
      go_ret2
      exact newRB_mk (own_nilR _ _ w.heap.size) (by rw [hq.out]; rfl) hb1
    · have hq := Lib.hid (rr_t (ps := ps) (lots := lots) (by rw [hf, hv]; rfl))
      have hF := Lib.hid (fitOk_of hf)
      have HV := Lib.hid hv
      have hl5 := hF.out.n5
      have hl1 := hF.out.n1
      have hlr : Hid (∀ l ∈ lots, 0 ≤ l ∧ l < (lots.length : Int)) := Lib.hid (fun l hl => by have := (lv_iff.1 HV.out).2.1 l hl; omega)
      rw [hf] at cF
      clear hf hv
      go_enter Try.func57, Try.ntmps57
      go_wp2_with (first | (go_at_call 48; refine cV.out.mono ?_; rintro e w1 ⟨rfl, rfl⟩) | (go_at_call 49; refine cF.out.mono ?_; rintro e w1 ⟨rfl, hb1⟩) | (at_make; refine wpList_makeB _ rfl _ _ rfl lots.length rfl rfl (by omega) ?_; intro wm hown hbelm hszm))
      have hbm := hb1.trans (hbelm.mono hb1.size)
      have hown := hown.mono (b := w.heap.size) hb1.size
      clear hb1 hbelm hszm cV cF
      generalize w1.heap.size = g0 at *
      go_loopw [7, 8, 9, 11] (fun o _ _ _ wr => ∃ (k : Nat) (B : Option Addr) (d : Nat) (vs : List Rnd) (bs : List Bool), k < lots.length ∧ o = .slice B k d ∧ OwnR wr w.heap.size w.heap.size B k d vs ∧ OwnB wr w.heap.size (some ⟨g0, 0, none⟩) lots.length lots.length bs ∧ Below w.heap.size w wr ∧ Hid (RInv (pl ps) lots lots.length k (vs.map rp) bs)) (fun o _ _ _ _ => lots.length - lenOf o)
      case atStart => exact ⟨0, none, 0, [], _, by omega, rfl, own_nilR _ _ _, hown, hbm, Lib.hid (rInv_start _ _ _)⟩
      case round =>
        clear hown hbm
        obtain ⟨k, B, d, vs, bs, hlt, rfl, hR, hB, hbel, hI⟩ := hrel
        have hsz := hbel.size
        have hbl := hB.1
        have hcl := cntL_len bs (pl ps)
        have hbd := cnt_bds hF.out bs
        have cC := Lib.hid (firstCounts_any A (some ⟨g0, 0, none⟩) ps bs c lots.length wr (h.below hbel) hB.bools (Lib.hid (by rw [hbl]; exact hF.out)))
        have hID := Lib.hid (fun hd => rInv_done hI.out hlt hd)
        have hIM := Lib.hid (fun (q : Nat) hd hq hb => rInv_more (q := q) hI.out hlt hd hq hb)
        have hIE := Lib.hid (fun hd => rInv_end hI.out hd)
        have hth := hI.out.2.1
        have hLA := least_at (cs := cntL bs (pl ps)) HV.out hbl (by omega)
        generalize cntL bs (pl ps) = cs at *
        rw [hbl] at cC
        go_wp2_with fail
        refine cC.out.mono ?_
        rintro e w2 ⟨B1, d1, rfl, ho, hb2⟩
        have hb3 : Below w2.heap.size w2 (w2.alloc (.cells #[.slice B1 cs.length d1, .int .i64 (-1)] 96)) := (Below.refl _ _).alloc (Nat.le_refl _) _
        have hX := box_new w2 B1 cs.length d1 (-1)
        have hcl2 : cs.length = lots.length := by omega
        have cD := Lib.hid (runoffDone_any B1 (some ⟨g0, 0, none⟩) cs bs d1 lots.length (w2.alloc (.cells #[.slice B1 cs.length d1, .int .i64 (-1)] 96)) (ho.ints.below hb3) ((hB.below hb2).below hb3).bools (Lib.hid hcl.symm) (by omega) (by omega) (Lib.hid hbd))
        rw [hbl] at cD
        have hR2 := hR.below hb2
        have hB2 := hB.below hb2
        have hbel2 := below_down hbel hb2
        have ho2 := ho.mono hsz
        have hcap1 := ho.le_cap
        have hsz2 := hbel2.size
        have HC := Lib.hid hcl2
        have HB := Lib.hid hbl
        have hc5' : cs.length ≤ 5 := by omega
        clear cC ho hb2 hR hB hbel hsz hth hbd hcl hcl2 hbl
        go_wp2_with fail
        generalize w2.alloc (.cells #[.slice B1 cs.length d1, .int .i64 (-1)] 96) = w3 at *
        have hR3 := hR2.below hb3
        have hB3 := hB2.below hb3
        have ho3 := ho2.below hb3
        have hbel3 := hbel2.trans (hb3.mono hsz2)
        have hsz3 := hbel3.size
        have hRl := (World.ownsRow.lt hR2.row)
        have HRL := Lib.hid hRl
        clear hRl
        cases hd : doneF cs bs
        · rw [hd] at cD
          obtain ⟨q, hqq, hbq, hql⟩ := hLA
          have HM := Lib.hid (hIM.out q hd hqq hbq)
          have HE := hIE.out hd
          have HQ := Lib.hid hqq
          have HBQ := Lib.hid hbq
          clear hd hqq hbq hIM hID hIE
          go_wp2_with (go_at_call 94; refine cD.out.mono ?_; rintro e w' ⟨rfl, rfl⟩)
          go_loopw [11, 36] (fun _ i wx => ∃ (m : Nat) (z : Int), m ≤ lots.length ∧ i = .int .i64 m ∧ Box wx w2.heap.size B1 cs.length d1 z ∧ Below w2.heap.size w2 wx ∧ Hid (leastF cs bs (lots.take m) = z)) (fun _ i _ => lots.length - (intOf i).toNat)
          case atStart => exact ⟨0, -1, by omega, rfl, hX, hb3, Lib.hid rfl⟩
          case round =>
            clear hR3 hB3 ho3 hbel3 hsz3 hX hb3 cD
            obtain ⟨m, z, hm, rfl, hX, hbx, hz⟩ := hrel
            by_cases hlm : m < lots.length
            · obtain ⟨ad3, l, e3, hl', hcl'⟩ := ((h2.below hbel2).below hbx).at_ hlm
              subst e3
              have hr := hlr.out l (mem_of_at hl'.out)
              obtain ⟨p, rfl⟩ := Int.eq_ofNat_of_zero_le hr.1
              have hp : p < lots.length := by have := hr.2; omega
              have hpc : p < cs.length := by have := HC.out; omega
              obtain ⟨bk, hbk⟩ : ∃ bk, bs[p]? = some bk := ⟨_, List.getElem?_eq_getElem (by have := HB.out; omega)⟩
              have HBK := Lib.hid hbk
              have hcb := (hB2.below hbx).cellB hbk
              obtain ⟨ad, x, e1, hx, cx⟩ := (ho2.below hbx).ints.at_ hpc
              subst e1
              have hc1 := hX.c1
              have hfz := hX.fz
              have hS := Lib.hid (leastF_snoc (cs := cs) (left := bs) hl'.out)
              have hzz := leastF_nn (cs := cs) (left := bs) (ls := lots.take m) (n := lots.length) (fun l hl => hlr.out l (List.mem_of_mem_take hl))
              rw [hz.out] at hzz
              clear hr hbk
              cases bk
              · rcases hzz with rfl | ⟨qz, rfl, hqz⟩
                · have hN := Lib.hid (hS.out.trans (by rw [hz.out, stepL_first HBK.out]))
                  go_wp2
                  go_quiet (fail)
                  go_wp2
                  go_roundw
                  case rel => exact ⟨m + 1, (p : Int), by omega, by go_num, (hX.drewN _).set _, (below_drewN hbx _).setCell (Nat.le_refl _) _, hN⟩
                  case measure => simp [intOf]; omega
                · have hqc : qz < cs.length := by have := HC.out; omega
                  obtain ⟨ad', y, e6, hy, cy⟩ := (ho2.below hbx).ints.at_ hqc
                  obtain rfl : ad = ad' := by injection e6
                  clear e6
                  by_cases hxy : x ≤ y
                  · have hN := Lib.hid (hS.out.trans (by rw [hz.out, stepL_t HBK.out hx.out hy.out hxy]))
                    go_wp2
                    go_quiet (fail)
                    go_wp2
                    go_roundw
                    case rel => exact ⟨m + 1, (p : Int), by omega, by go_num, (hX.drewN _).set _, (below_drewN hbx _).setCell (Nat.le_refl _) _, hN⟩
                    case measure => simp [intOf]; omega
                  · have hN := Lib.hid (hS.out.trans (by rw [hz.out, stepL_f hx.out hy.out hxy]))
                    go_wp2
                    go_quiet (fail)
                    go_wp2
                    go_roundw
                    case rel => exact ⟨m + 1, (qz : Int), by omega, by go_num, hX.drewN _, below_drewN hbx _, hN⟩
                    case measure => simp [intOf]; omega
              · have hN := Lib.hid (hS.out.trans (by rw [hz.out, stepL_l HBK.out]))
                go_wp2
                go_quiet (fail)
                go_wp2
                go_roundw
                case rel => exact ⟨m + 1, z, by omega, by go_num, hX.drewN _, below_drewN hbx _, hN⟩
                case measure => simp [intOf]; omega
            · obtain rfl : m = lots.length := by omega
              clear hlm hm
              obtain rfl : z = (q : Int) := by have := hz.out; rw [List.take_length, HQ.out] at this; exact this.symm
              have hc0 := hX.c0
              have hc1 := hX.c1
              have hbelx := hbel2.trans (hbx.mono hsz2)
              have hszx := hbelx.size
              go_wp2_with (at_builtin; refine wpList_appR1 _ rfl (.tmp 65) (.tmp 67) rfl w.heap.size w.heap.size B k d vs rfl (hR2.below hbx) hszx (by omega) B1 cs.length d1 cs (q : Int) ⟨rfl, ho2.below hbx⟩ (by omega) hcap1 rfl ?_; intro A4 c4 w4 hR4 hg4 hb4; have hX4 := (hX.grown hg4 (fun kk hk => (HRL.out kk hk).2)).c1; have hB4 := (hB2.below hbx).grownR (hR2.below hbx) hg4; have hcq := hB4.cellB HBQ.out; have hfq := hB4.frozenB q)
              go_roundw
              case rel => exact ⟨k + 1, _, _, _, bs.set q true, by omega, rfl, hR4.setB hB4 q true, hB4.setB q true, (hbelx.trans hb4).setCell (hB4.blockB g0 rfl).1 _, Lib.hid (by rw [List.map_append]; exact HM.out)⟩
              case measure => simp [lenOf]; omega
        · rw [hd] at cD
          have HD := Lib.hid (hID.out hd)
          clear hd hIM hID hLA hIE
          have hc0 := hX.c0
          have hc1 := hX.c1
          go_wp2_with (first | (go_at_call 94; refine cD.out.mono ?_; rintro e w' ⟨rfl, rfl⟩) | (at_builtin; refine wpList_appR1 _ rfl (.tmp 65) (.tmp 67) rfl w.heap.size w.heap.size B k d vs rfl hR3 hsz3 (by omega) B1 cs.length d1 cs (-1) ⟨rfl, ho3⟩ (by omega) hcap1 rfl ?_; intro A4 c4 w4 hR4 hg4 hb4; have hX4 := (hX.grown hg4 (fun kk hk => (HRL.out kk hk).2)).c1))
          go_ret2
          exact newRB_mk hR4 (by rw [hq.out, HD.out, List.map_append]; rfl) (hbel3.trans hb4)
end Go.Proofs.Ytiinfbjlkbjmmaa
/-
  Which round is the last one, plain.
-/
namespace Go.Proofs.Ytiinfbjlkbjmmaa
open Go.RowKit
set_option maxRecDepth 100000 in
theorem roundsF_pos {ps : List Pl} {lots : List Int} {k : Nat} {left : List Bool} (hk : 1 ≤ k) : 1 ≤ (roundsF ps lots k left).length := by
  obtain ⟨m, rfl⟩ : ∃ m, k = m + 1 := ⟨k - 1, by omega⟩
  simp only [roundsF]
  split <;> simp
set_option maxRecDepth 100000 in
theorem rounds_last {ps : List Pl} {lots : List Int} (hv : lv lots = true) : ∀ (k : Nat) (left : List Bool), left.length = lots.length → thereL left = (k : Int) → ∀ (i : Nat) (r : List Int × Int), (roundsF ps lots k left)[i]? = some r →
    (decide (r.1.sum < 2 * mostL r.1) || decide (i + 1 = k)) = decide (i + 1 = (roundsF ps lots k left).length) := by
  intro k
  induction k with
  | zero => intro left _ _ i r hr; simp [roundsF] at hr
  | succ k ih =>
    intro left hl ht i r hr
    cases hd : doneF (cntL left ps) left
    · rw [roundsF_more hd] at hr ⊢
      unfold doneF at hd
      simp only [Bool.or_eq_false_iff] at hd
      obtain ⟨h1, h2⟩ := hd
      have hk : 1 ≤ k := by
        have : thereL left ≠ 1 := by simpa using h1
        omega
      obtain ⟨q, hq, hbq, hql⟩ := least_at (cs := cntL left ps) hv hl (by omega)
      have hp := roundsF_pos (ps := ps) (lots := lots) (left := left.set (leastF (cntL left ps) left lots).toNat true) hk
      cases i with
      | zero =>
        simp only [List.getElem?_cons_zero, Option.some.injEq] at hr
        subst hr
        have e1 : decide (0 + 1 = k + 1) = false := decide_eq_false (by omega)
        rw [h2, e1]
        symm
        exact decide_eq_false (by rw [List.length_cons]; omega)
      | succ i =>
        rw [List.getElem?_cons_succ] at hr
        have := ih _ (by simpa using hl) (by rw [hq, Int.toNat_natCast, thereL_set hbq]; omega) i r hr
        simp only [List.length_cons]
        rw [show decide (i + 1 + 1 = k + 1) = decide (i + 1 = k) by simp, this]
        simp
    · rw [roundsF_done hd] at hr ⊢
      cases i with
      | succ i => simp at hr
      | zero =>
        simp only [List.getElem?_cons_zero, Option.some.injEq] at hr
        subst hr
        unfold doneF at hd
        simp only [Bool.or_eq_true] at hd
        rcases hd with hd | hd
        · have : thereL left = 1 := by simpa using hd
          have : k = 0 := by omega
          subst this
          simp
        · rw [hd]; simp
set_option maxRecDepth 100000 in
theorem rounds_cnt {ps : List Pl} {lots : List Int} : ∀ (k : Nat) (left : List Bool), ∀ r ∈ roundsF ps lots k left, ∃ left' : List Bool, left'.length = left.length ∧ r.1 = cntL left' ps := by
  intro k
  induction k with
  | zero => intro left r hr; simp [roundsF] at hr
  | succ k ih =>
    intro left r hr
    cases hd : doneF (cntL left ps) left
    · rw [roundsF_more hd] at hr
      rcases List.mem_cons.1 hr with rfl | hr
      · exact ⟨left, rfl, rfl⟩
      · obtain ⟨l, h1, h2⟩ := ih _ r hr
        exact ⟨l, by simpa using h1, h2⟩
    · rw [roundsF_done hd] at hr
      simp at hr
      subst hr
      exact ⟨left, rfl, rfl⟩
end Go.Proofs.Ytiinfbjlkbjmmaa
/-
  Who wins a runoff, plain; the program's way.
-/
namespace Go.Proofs.Ytiinfbjlkbjmmaa
open Go.RowKit
/-- The counts where those who left have -1. -/
def outSet (cs : List Int) (os : List Int) : List Int := os.foldl (fun c o => c.set o.toNat (-1)) cs
def winF (rs : List (List Int × Int)) (lots : List Int) : Int := greatP (outSet ((rs.map Prod.fst).getLastD []) (rs.dropLast.map Prod.snd)) lots
def rwF (ps : List (ByteArray × Int)) (lots : List Int) : Int := if (lv lots && fitV ps lots.length) = true then winF (roundsF (pl ps) lots lots.length (List.replicate lots.length false)) lots else -1
set_option maxRecDepth 100000 in
theorem outSet_len (cs os : List Int) : (outSet cs os).length = cs.length := by
  unfold outSet
  induction os generalizing cs with
  | nil => rfl
  | cons o t ih => simp only [List.foldl_cons]; rw [ih, List.length_set]
set_option maxRecDepth 100000 in
theorem outSet_snoc {cs os : List Int} {k : Nat} {o : Int} (h : os[k]? = some o) : outSet cs (os.take (k + 1)) = (outSet cs (os.take k)).set o.toNat (-1) := by
  unfold outSet
  rw [take_snoc _ _ _ h, List.foldl_append]; rfl
/-- Who has left behind some rounds. -/
def leftSet (left : List Bool) (os : List Int) : List Bool := os.foldl (fun l o => l.set o.toNat true) left
set_option maxRecDepth 100000 in
theorem leftSet_len (left : List Bool) (os : List Int) : (leftSet left os).length = left.length := by
  unfold leftSet
  induction os generalizing left with
  | nil => rfl
  | cons o t ih => simp only [List.foldl_cons]; rw [ih, List.length_set]
set_option maxRecDepth 100000 in
theorem leftSet_snoc {left : List Bool} {os : List Int} {k : Nat} {o : Int} (h : os[k]? = some o) : leftSet left (os.take (k + 1)) = (leftSet left (os.take k)).set o.toNat true := by
  unfold leftSet
  rw [take_snoc _ _ _ h, List.foldl_append]; rfl
set_option maxRecDepth 100000 in
/-- The rounds are those of some who leave, and a last one. -/
theorem rounds_form {ps : List Pl} {lots : List Int} (hv : lv lots = true) : ∀ (k : Nat) (left : List Bool), left.length = lots.length → thereL left = (k : Int) → 1 ≤ k →
    ∃ init : List (List Int × Int), roundsF ps lots k left = init ++ [(cntL (leftSet left (init.map Prod.snd)) ps, -1)] ∧ (∀ r ∈ init, ∃ q : Nat, r.2 = (q : Int) ∧ q < lots.length) ∧ 1 ≤ thereL (leftSet left (init.map Prod.snd)) := by
  intro k
  induction k with
  | zero => intro left _ _ h; omega
  | succ k ih =>
    intro left hl ht _
    cases hd : doneF (cntL left ps) left
    · obtain ⟨q, hq, hb, hql⟩ := least_at (cs := cntL left ps) hv hl (by omega)
      have hk : 1 ≤ k := by
        unfold doneF at hd
        simp only [Bool.or_eq_false_iff] at hd
        have : thereL left ≠ 1 := by simpa using hd.1
        omega
      have hqe := hq
      obtain ⟨init, h1, h2, h3⟩ := ih (left.set q true) (by rw [List.length_set]; exact hl) (by rw [thereL_set hb]; omega) hk
      refine ⟨(cntL left ps, (q : Int)) :: init, ?_, ?_, ?_⟩
      · rw [roundsF_more hd, hq, Int.toNat_natCast, h1]; rfl
      · intro r hr
        rcases List.mem_cons.1 hr with rfl | hr
        · exact ⟨q, rfl, hql⟩
        · exact h2 r hr
      · exact h3
    · exact ⟨[], by rw [roundsF_done hd]; rfl, by simp, by show 1 ≤ thereL left; omega⟩
set_option maxRecDepth 100000 in
theorem rounds_form0 {ps : List Pl} {lots : List Int} (hv : lv lots = true) :
    ∃ init : List (List Int × Int), roundsF ps lots lots.length (List.replicate lots.length false) = init ++ [(cntL (leftSet (List.replicate lots.length false) (init.map Prod.snd)) ps, -1)] ∧ (∀ r ∈ init, ∃ q : Nat, r.2 = (q : Int) ∧ q < lots.length) ∧ 1 ≤ thereL (leftSet (List.replicate lots.length false) (init.map Prod.snd)) :=
  rounds_form hv _ _ (by simp) (thereL_rep _) (lv_iff.1 hv).1.1
set_option maxRecDepth 100000 in
theorem winF_form (init : List (List Int × Int)) (cs : List Int) (o : Int) (lots : List Int) : winF (init ++ [(cs, o)]) lots = greatP (outSet cs (init.map Prod.snd)) lots := by
  unfold winF
  rw [List.dropLast_concat, List.map_append, List.map_singleton]
  simp
/-- The counts with -1 for who left. -/
def maskL (cs : List Int) (left : List Bool) : List Int := (cs.zip left).map fun p => if p.2 then -1 else p.1
set_option maxRecDepth 100000 in
theorem maskL_len {cs : List Int} {left : List Bool} (h : left.length = cs.length) : (maskL cs left).length = cs.length := by simp [maskL, h]
set_option maxRecDepth 100000 in
theorem maskL_none (cs : List Int) : maskL cs (List.replicate cs.length false) = cs := by
  apply List.ext_getElem
  · simp [maskL]
  · intro i h1 h2
    simp [maskL]
set_option maxRecDepth 100000 in
theorem maskL_set {cs : List Int} {left : List Bool} (h : left.length = cs.length) {q : Nat} (hq : q < cs.length) : maskL cs (left.set q true) = (maskL cs left).set q (-1) := by
  apply List.ext_getElem
  · simp [maskL]
  · intro i h1 h2
    rw [List.getElem_set]
    simp only [maskL, List.getElem_map, List.getElem_zip, List.getElem_set]
    have hi : i < left.length := by simp [maskL, h] at h2; omega
    by_cases e : q = i
    · simp [e]
    · simp [e]
set_option maxRecDepth 100000 in
theorem outSet_mask {cs : List Int} {left : List Bool} (h : left.length = cs.length) : ∀ os : List Int, (∀ o ∈ os, ∃ q : Nat, o = (q : Int) ∧ q < cs.length) → outSet (maskL cs left) os = maskL cs (leftSet left os) := by
  intro os
  induction os generalizing left with
  | nil => intro _; rfl
  | cons o t ih =>
    intro hr
    obtain ⟨q, rfl, hq⟩ := hr o (by simp)
    show outSet ((maskL cs left).set (q : Int).toNat (-1)) t = maskL cs (leftSet (left.set (q : Int).toNat true) t)
    rw [Int.toNat_natCast, ← maskL_set h hq]
    exact ih (by rw [List.length_set]; exact h) (fun o ho => hr o (by simp [ho]))
set_option maxRecDepth 100000 in
theorem rw_f {ps : List (ByteArray × Int)} {lots : List Int} (h : (lv lots && fitV ps lots.length) = false) : rwF ps lots = -1 := by
  unfold rwF
  rw [if_neg (by rw [h]; simp)]
set_option maxRecDepth 100000 in
theorem rw_t {ps : List (ByteArray × Int)} {lots : List Int} (h : (lv lots && fitV ps lots.length) = true) : rwF ps lots = winF (roundsF (pl ps) lots lots.length (List.replicate lots.length false)) lots := by
  unfold rwF
  rw [if_pos h]
set_option maxRecDepth 100000 in
theorem rounds_le5 {ps : List Pl} {lots : List Int} (k : Nat) : ∀ left : List Bool, (roundsF ps lots k left).length ≤ k := by
  induction k with
  | zero => intro left; simp [roundsF]
  | succ k ih =>
    intro left
    simp only [roundsF]
    split
    · simp
    · simp only [List.length_cons]
      have := ih (left.set (leastF (cntL left ps) left lots).toNat true)
      omega
end Go.Proofs.Ytiinfbjlkbjmmaa
