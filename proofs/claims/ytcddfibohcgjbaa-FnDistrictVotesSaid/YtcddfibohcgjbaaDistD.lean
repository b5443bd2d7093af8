/-
  Votes of districts that are drawn.
-/
import Derived.Test.YtcddfibohcgjbaaDrawV
import Derived.Test.YtcddfibohcgjbaaMat
import Derived.Test.YtcddfibohcgjbaaSeats
import Derived.ArgAppend
import Derived.OwnWalk
namespace Go.Proofs.Ytcddfibohcgjbaa
open Go.RowKit
/-- A row: where it lies, its capacity, what it reads as. -/
abbrev Row := Option Addr × Nat × List Int
def rv (v : Row) : Value := .slice v.1 v.2.2.length v.2.1
/-- The call owns the slice and all rows in it, which have at most five ints. -/
structure OwnT (w : World) (base bi : Nat) (A : Option Addr) (n c : Nat) (vs : List Row) : Prop where
  len : vs.length = n
  row : w.ownsRow base 23 1 (.slice A n c) n (vs.map rv)
  own : ∀ v ∈ vs, OwnI w bi v.1 v.2.1 v.2.2 ∧ v.2.2.length ≤ 10
theorem rows_of {w : World} {A : Option Addr} {n : Nat} {vs : List Row} (hl : vs.length = n) (hn : n ≤ 1000) (hc : 0 < n → ∃ ad, A = some ad ∧ ∀ j u, (vs.map rv)[j]? = some u → w.cell? (ad.add j) = some u) (ho : ∀ v ∈ vs, Ints w v.1 v.2.2 ∧ v.2.2.length ≤ 1000) : RowsI w A (vs.map fun v => v.2.2) := by
  refine ⟨by simp [maxLen]; omega, fun xs hx => ?_, fun h0 => ?_⟩
  · obtain ⟨v, hv, rfl⟩ := List.mem_map.1 hx
    have := (ho v hv).2
    simp only [maxLen]; omega
  · obtain ⟨ad, e, h⟩ := hc (by simp at h0; omega)
    refine ⟨ad, e, fun j xs hx => ?_⟩
    rw [List.getElem?_map] at hx
    cases hv : vs[j]? with
    | none => rw [hv] at hx; cases hx
    | some v =>
      rw [hv] at hx
      injection hx with hx
      subst hx
      exact ⟨v.1, v.2.1, h j (rv v) (by rw [List.getElem?_map, hv]; rfl), (ho v (List.mem_of_getElem? hv)).1⟩
section
variable {w w' : World} {base bi n c : Nat} {A : Option Addr} {vs : List Row}
theorem OwnT.cells (h : OwnT w base bi A n c vs) (hn : 0 < n) : ∃ g, A = some ⟨g, 0, none⟩ ∧ base ≤ g ∧ g < w.heap.size ∧ ∃ cur, w.heap[g]? = some (.cells cur 23 (0, 0)) := by
  rcases h.row.2 with ⟨hv, h0⟩ | ⟨g, cap, cur, hv, hb, hgg, _⟩
  · omega
  · injection hv with hA
    exact ⟨g, hA, hb, (Array.getElem?_eq_some_iff.1 hgg).1, cur, hgg⟩
theorem OwnT.rows (h : OwnT w base bi A n c vs) (hn : n ≤ 1000) : RowsI w A (vs.map fun v => v.2.2) := by
  refine rows_of h.len hn (fun h0 => ?_) (fun v hv => ⟨(h.own v hv).1.ints, by have := (h.own v hv).2; omega⟩)
  obtain ⟨g, e, _⟩ := h.cells h0
  subst e
  exact ⟨_, rfl, fun j u hu => World.ownsRow.cells h.row (g := g) rfl j u hu⟩
theorem OwnT.mono (h : OwnT w base bi A n c vs) {b : Nat} (hb : b ≤ base) : OwnT w b bi A n c vs := by
  refine ⟨h.len, ⟨h.row.1, ?_⟩, h.own⟩
  rcases h.row.2 with h2 | ⟨g, cap, cur, hv, hg, r⟩
  · exact .inl h2
  · exact .inr ⟨g, cap, cur, hv, by omega, r⟩
theorem OwnT.below (h : OwnT w base bi A n c vs) (hb : Below w.heap.size w w') : OwnT w' base bi A n c vs :=
  ⟨h.len, World.ownsRow.kept h.row (row := none) ⟨hb.os, hb.tape, hb.output, hb.size, fun k hk _ => hb.block k hk⟩ (by cases hv : (Value.slice A n c).ownBlock <;> simp), fun v hv => ⟨(h.own v hv).1.below hb, (h.own v hv).2⟩⟩
theorem OwnT.alloc (h : OwnT w base bi A n c vs) (o : Obj) : OwnT (w.alloc o) base bi A n c vs := h.below ((Below.refl _ _).alloc (Nat.le_refl _) o)
theorem OwnT.drew' (h : OwnT w base bi A n c vs) : OwnT w.drew base bi A n c vs := ⟨h.len, h.row, fun v hv => ⟨(h.own v hv).1.drewN 1, (h.own v hv).2⟩⟩
theorem OwnT.dr {rb : Nat} (h : OwnT w base bi A n c vs) (hd : Dr rb w w') (hr : rb < base) (hi : rb < bi) : OwnT w' base bi A n c vs := by
  refine ⟨h.len, ⟨h.row.1, ?_⟩, fun v hv => ⟨(h.own v hv).1.dr hd hi, (h.own v hv).2⟩⟩
  rcases h.row.2 with h2 | ⟨g, cap, cur, hv, hb, hgg, r⟩
  · exact .inl h2
  · refine .inr ⟨g, cap, cur, hv, hb, ?_, r⟩
    rw [hd.block g (Array.getElem?_eq_some_iff.1 hgg).1 (by omega)]
    exact hgg
end
theorem own_emptyT (w : World) {base bi : Nat} (hb : base ≤ w.heap.size) : OwnT (w.alloc (.cells #[] 23)) base bi (some ⟨w.heap.size, 0, none⟩) 0 0 [] :=
  ⟨rfl, World.ownsRow_made w #[] 0 hb (by simp [maxLen]) (by simp), fun v hv => by simp at hv⟩
/-- A slice of ints lies in no block of slices. -/
theorem OwnI.ne_row {w : World} {base c g : Nat} {A : Option Addr} {xs : List Int} (h : OwnI w base A c xs) {cur : Array Value} (hg : w.heap[g]? = some (.cells cur 23 (0, 0))) : (Value.slice A xs.length c).ownBlock ≠ some g := by
  intro e
  rcases h.2 with ⟨hv, h0⟩ | ⟨g', cap, cur', hv, hb, hgg, _⟩
  · rw [hv] at e; cases e
  · rw [hv] at e
    injection e with e
    have e : g' = g := e
    subst e
    rw [hg] at hgg
    injection hgg with hgg
    injection hgg with _ ht
    exact absurd ht (by decide)
theorem row_block {w : World} {base n c g : Nat} {A : Option Addr} {xs : List Value} (h : w.ownsRow base 23 1 (.slice A n c) n xs) (e : (Value.slice A n c).ownBlock = some g) : base ≤ g ∧ ∃ cur, w.heap[g]? = some (.cells cur 23 (0, 0)) := by
  rcases h.2 with ⟨hv, h0⟩ | ⟨g', cap, cur', hv, hb, hgg, _⟩
  · rw [hv] at e; cases e
  · rw [hv] at e
    injection e with e
    have e : g' = g := e
    subst e
    exact ⟨hb, cur', hgg⟩
theorem OwnI.grownT {w w' : World} {base bi n c c2 : Nat} {A B : Option Addr} {xs : List Int} {ys : List Value} (h : OwnI w bi B c2 xs) (hrow : w.ownsRow base 23 1 (.slice A n c) n ys) (hg : w.grownBy w' (Value.slice A n c).ownBlock) : OwnI w' bi B c2 xs :=
  h.grown hg (fun k hk e => by
    obtain ⟨_, cur, hcur⟩ := row_block hrow hk
    exact h.ne_row hcur e)
/-- 'append(out, rows..)', out a slice of rows that the call owns. -/
theorem wpList_appTN (w : World) {ops : Array Oper} {rest : List Oper} {o : Oper} {a : Act} {Q : Exit → Act → World → Prop}
    (hg : o.guard = none) (s x : Operand) (ho : o.op = .call { callee := .builtin .append, args := #[s, x], argTypes := #[39, 39] })
    (base bi : Nat) (A : Option Addr) (n c : Nat) (vs : List Row) (hs : a.eval s = .slice A n c) (hown : OwnT w base bi A n c vs) (hbase : base ≤ w.heap.size) (hn : n ≤ 1048576)
    (ad : Addr) (us : List Row) (l cc : Nat) (hx : a.eval x = .slice (some ad) l cc) (hl : us.length = l) (hl2 : l ≤ 1048576) (hc : ∀ j u, (us.map rv)[j]? = some u → w.cell? (ad.add j) = some u) (hu : ∀ v ∈ us, OwnI w bi v.1 v.2.1 v.2.2 ∧ v.2.2.length ≤ 10)
    (hK : ∀ A' c' w', OwnT w' base bi A' (n + l) c' (vs ++ us) → Below base w w' → wpList Try.prog ops Q rest (a.put o.dst (.slice A' (n + l) c')) w') :
    wpList Try.prog ops Q (o :: rest) a w := by
  obtain ⟨i0, hi, hz0, hz1, hz2⟩ := info_parts infoRow
  refine wpList_append_own w hg s x 39 ho base 23 i0 (.slice none 0 0) 1 24 Try.underlying39 hi hz0 hz1 hz2 rfl (by omega) _ _ _ hs hown.row ad l cc (us.map rv) hx (by simp [hl]) hc ?_ (by simp only [maxLen]; omega) (by omega) hbase ?_
  · intro u hu'
    obtain ⟨v, _, rfl⟩ := List.mem_map.1 hu'
    rfl
  · intro v' w' h1 h2 _
    obtain ⟨A', c', rfl⟩ := row_form h1
    have hb := below_of_grown h2 hbase (fun k hk => (World.ownsRow.lt hown.row k hk).1)
    refine hK A' c' w' ⟨by simp [hown.len, hl], by simpa using h1, fun v hv => ?_⟩ hb
    rcases List.mem_append.1 hv with hv | hv
    · exact ⟨(hown.own v hv).1.grownT hown.row h2, (hown.own v hv).2⟩
    · exact ⟨(hu v hv).1.grownT hown.row h2, (hu v hv).2⟩
/-- 'append(out, row)': the row's slice lies in a new block of one cell. -/
theorem wpList_appT1 (w : World) {ops : Array Oper} {rest : List Oper} {o : Oper} {a : Act} {Q : Exit → Act → World → Prop}
    (hg : o.guard = none) (s x : Operand) (ho : o.op = .call { callee := .builtin .append, args := #[s, x], argTypes := #[39, 39] })
    (base bi : Nat) (A : Option Addr) (n c : Nat) (vs : List Row) (hs : a.eval s = .slice A n c) (hown : OwnT w base bi A n c vs) (hbase : base ≤ w.heap.size) (hn : n ≤ 1048570)
    (B : Option Addr) (l d : Nat) (xs : List Int) (hv : OwnN w bi B l d xs) (h5 : l ≤ 10) (H : Nat) (hH : w.heap.size = H) (hx : a.eval x = .slice (some ⟨H, 0, none⟩) 1 1)
    (hK : ∀ A' c' w', OwnT w' base bi A' (n + 1) c' (vs ++ [(B, d, xs)]) → Below base w w' → wpList Try.prog ops Q rest (a.put o.dst (.slice A' (n + 1) c')) w') :
    wpList Try.prog ops Q (o :: rest) a (w.alloc (.cells #[.slice B l d] 23)) := by
  obtain ⟨rfl, hv⟩ := hv
  subst hH
  have hb1 : Below base w (w.alloc (.cells #[.slice B xs.length d] 23)) := (Below.refl _ _).alloc hbase _
  refine wpList_appTN _ hg s x ho base bi A n c vs hs (hown.alloc _) (by simp; omega) (by omega) ⟨w.heap.size, 0, none⟩ [(B, d, xs)] 1 1 hx rfl (by omega) (fun j u hj => ?_) (fun v hv' => ?_) (fun A' c' w' h1 h2 => hK A' c' w' h1 (hb1.trans h2))
  · match j, hj with
    | 0, hj =>
      simp at hj
      subst hj
      exact cell_of_row _ w.heap.size 0 #[.slice B xs.length d] 23 (0, 0) (heap_alloc_new w _)
  · simp at hv'
    subst hv'
    exact ⟨hv.alloc _, h5⟩
/-- 'append(out, out...)'. -/
theorem wpList_appTself (w : World) {ops : Array Oper} {rest : List Oper} {o : Oper} {a : Act} {Q : Exit → Act → World → Prop}
    (hg : o.guard = none) (s x : Operand) (ho : o.op = .call { callee := .builtin .append, args := #[s, x], argTypes := #[39, 39] })
    (base bi g n c : Nat) (vs : List Row) (hs : a.eval s = .slice (some ⟨g, 0, none⟩) n c) (hown : OwnT w base bi (some ⟨g, 0, none⟩) n c vs) (hbase : base ≤ w.heap.size) (hn : n ≤ 1048576) (hx : a.eval x = .slice (some ⟨g, 0, none⟩) n c)
    (hK : ∀ A' c' w', OwnT w' base bi A' (n + n) c' (vs ++ vs) → (∀ j u, (vs.map rv)[j]? = some u → w'.cell? ((⟨g, 0, none⟩ : Addr).add j) = some u) → (∀ v ∈ vs, OwnI w' bi v.1 v.2.1 v.2.2 ∧ v.2.2.length ≤ 10) → Below base w w' → wpList Try.prog ops Q rest (a.put o.dst (.slice A' (n + n) c')) w') :
    wpList Try.prog ops Q (o :: rest) a w := by
  obtain ⟨i0, hi, hz0, hz1, hz2⟩ := info_parts infoRow
  have hcell : ∀ j u, (vs.map rv)[j]? = some u → w.cell? ((⟨g, 0, none⟩ : Addr).add j) = some u := fun j u hu => World.ownsRow.cells hown.row (g := g) rfl j u hu
  have hone : ∀ u ∈ vs.map rv, u.oneCell' = true := fun u hu' => by
    obtain ⟨v, _, rfl⟩ := List.mem_map.1 hu'
    rfl
  by_cases hfit : n + n ≤ c
  · refine wpList_append_fits w hg s x 39 ho base 23 i0 1 Try.underlying39 hi hz1 g n c (vs.map rv) hs hown.row ⟨g, 0, none⟩ n c (vs.map rv) hx (by simp [hown.len]) hcell hone hfit ?_
    intro w' h1 h2
    have hb := below_of_grown h2 hbase (fun k hk => by injection hk with hk; subst hk; exact (World.ownsRow.lt hown.row g rfl).1)
    have hin : ∀ v ∈ vs, OwnI w' bi v.1 v.2.1 v.2.2 ∧ v.2.2.length ≤ 10 := fun v hv => ⟨(hown.own v hv).1.grownT hown.row h2, (hown.own v hv).2⟩
    refine hK _ _ _ ⟨by simp [hown.len], by simpa using h1, fun v hv => ?_⟩ (fun j u hu => ?_) hin hb
    · rcases List.mem_append.1 hv with hv | hv <;> exact hin v hv
    · refine World.ownsRow.cells h1 (g := g) rfl j u ?_
      rw [List.getElem?_append_left (by exact (List.getElem?_eq_some_iff.1 hu).1)]
      exact hu
  · refine wpList_append_grows w hg s x 39 ho 23 i0 (.slice none 0 0) 1 24 Try.underlying39 hi hz0 hz1 hz2 rfl (by omega) (some ⟨g, 0, none⟩) n c (vs.map rv) hs (fun h => by cases h) (by simp [hown.len]) (fun b hb => by injection hb with hb; subst hb; exact hcell) ⟨g, 0, none⟩ n c (vs.map rv) hx (by simp [hown.len]) hcell hone (by omega) (by simp only [maxLen]; omega) (by omega) ?_
    intro v' w' h1 h2
    obtain ⟨A', c', rfl⟩ := row_form h1
    have hb : Below w.heap.size w w' := below_of_grown h2 (Nat.le_refl _) (fun k hk => by cases hk)
    have ho' := hown.below hb
    have h1' : w'.ownsRow base 23 1 (.slice A' (n + n) c') (n + n) (vs.map rv ++ vs.map rv) := by
      refine ⟨h1.1, ?_⟩
      rcases h1.2 with h2 | ⟨g, cap, cur, hv, hg, r⟩
      · exact .inl h2
      · exact .inr ⟨g, cap, cur, hv, by omega, r⟩
    refine hK _ _ _ ⟨by simp [hown.len], by simpa using h1', fun v hv => ?_⟩ (fun j u hu => World.ownsRow.cells ho'.row (g := g) rfl j u hu) ho'.own (hb.mono hbase)
    rcases List.mem_append.1 hv with hv | hv <;> exact ho'.own v hv
/-- A row is put in another's place. -/
theorem OwnT.set {w : World} {base bi g n c : Nat} {vs : List Row} (h : OwnT w base bi (some ⟨g, 0, none⟩) n c vs) (hn : 0 < n) (k : Nat) {B : Option Addr} {l d : Nat} {xs : List Int} (hv : OwnN w bi B l d xs) (h5 : l ≤ 10) :
    OwnT (w.setCell ⟨g, k, none⟩ (.slice B l d)) base bi (some ⟨g, 0, none⟩) n c (vs.set k (B, d, xs)) := by
  obtain ⟨rfl, hv⟩ := hv
  obtain ⟨g', e, _, _, cur, hcur⟩ := h.cells hn
  injection e with e
  injection e with e
  subst e
  refine ⟨by simp [h.len], ?_, fun v hv' => ?_⟩
  · have hs := (World.ownsRow.stored h.row k (.slice B xs.length d)).1
    rw [List.map_set]
    exact hs
  · rcases List.mem_or_eq_of_mem_set hv' with hv' | rfl
    · exact ⟨(h.own v hv').1.setRow hcur _, (h.own v hv').2⟩
    · exact ⟨hv.setRow hcur _, h5⟩
theorem OwnT.cellAt {w : World} {base bi g n c : Nat} {vs : List Row} (h : OwnT w base bi (some ⟨g, 0, none⟩) n c vs) {k : Nat} (hk : k < n) : ∃ v, w.cell? ⟨g, k, none⟩ = some v ∧ w.frozen? ⟨g, k, none⟩ = false := by
  refine ⟨(vs.map rv)[k]'(by simp [h.len]; exact hk), ?_, World.ownsRow.frozenAt h.row k⟩
  rw [World.ownsRow.cellAt h.row k (by omega)]
  exact List.getElem?_eq_getElem _
/-- Each row has one to five numbers. -/
def Rb (vs : List Row) : Prop := ∀ v ∈ vs, 1 ≤ v.2.2.length ∧ v.2.2.length ≤ 5
theorem Rb.append {vs us : List Row} (h : Rb vs) (h' : Rb us) : Rb (vs ++ us) := fun v hv => by
  rcases List.mem_append.1 hv with hv | hv
  · exact h v hv
  · exact h' v hv
theorem Rb.one {B : Option Addr} {l d : Nat} {xs : List Int} (hl : xs.length = l) (h1 : 1 ≤ l) (h5 : l ≤ 5) : Rb [(B, d, xs)] := fun v hv => by
  simp at hv; subst hv; exact ⟨by show 1 ≤ xs.length; omega, by show xs.length ≤ 5; omega⟩
theorem Rb.set {vs : List Row} (h : Rb vs) (k : Nat) {B : Option Addr} {l d : Nat} {xs : List Int} (hl : xs.length = l) (h1 : 1 ≤ l) (h5 : l ≤ 5) : Rb (vs.set k (B, d, xs)) := fun v hv => by
  rcases List.mem_or_eq_of_mem_set hv with hv | rfl
  · exact h v hv
  · exact ⟨by show 1 ≤ xs.length; omega, by show xs.length ≤ 5; omega⟩
/-- A draw of at most n rows. -/
def DrawT (w : World) (rb p K : Nat) (n : Nat) (e : Ending) (w' : World) : Prop :=
  ∃ (A : Option Addr) (c : Nat) (vs : List Row) (m p' : Nat), e = .returned (.slice A m c) ∧ m ≤ n ∧ OwnT w' w.heap.size w.heap.size A m c vs ∧ p' ≤ p + K ∧ Rd w' rb p' ∧ Dr rb w w' ∧ Rb vs
set_option maxRecDepth 100000 in
set_option maxHeartbeats 3200000 in
theorem l93Districts_any (rb p : Nat) (w : World) (h : Rd w rb p) (hp : p ≤ 800000) :
    Calls Try.prog 68 #[.pointer (some ⟨rb, 0, none⟩)] w (DrawT w rb p 1000 12) := by
  have hrb := h.lt
  go_enter Try.func68, Try.ntmps68
  go_wp2_with fail
  refine (pick_n rb p _ _ (h.alloc _) (by omega) (by omega) (by omega)).mono ?_
  rintro e w1 ⟨q1, hq1, rfl, hrd1, hdr1⟩
  obtain ⟨N, hN⟩ : ∃ N, N = 1 + q1 := ⟨_, rfl⟩
  have hNi : (1 + (q1 : Int)) = (N : Int) := by omega
  have hN1 : 1 ≤ N := by omega
  have hN5 : N ≤ 5 := by omega
  clear hN hq1
  go_wp2_with fail
  refine (pick_n rb (p + 1) _ _ hrd1 (by omega) (by omega) (by omega)).mono ?_
  rintro e w2 ⟨q2, hq2, rfl, hrd2, hdr2⟩
  obtain ⟨M, hM⟩ : ∃ M, M = 1 + q2 := ⟨_, rfl⟩
  have hMi : (1 + (q2 : Int)) = (M : Int) := by omega
  have hM1 : 1 ≤ M := by omega
  have hM4 : M ≤ 4 := by omega
  clear hM hq2
  have hT2 := ((own_emptyT w (Nat.le_refl _)).dr hdr1 hrb hrb).dr hdr2 hrb hrb
  have hD2 := ((Dr.refl rb w).alloc (.cells #[] 23)).trans hdr1 |>.trans hdr2
  go_wp2_with fail
  clear hNi hMi
  go_loopw [3, 6, 7, 8] (fun o i _ _ wr => ∃ (j : Nat) (A : Option Addr) (c : Nat) (vs : List Row) (p' : Nat), j ≤ M ∧ i = .int .i64 j ∧ o = .slice A j c ∧ OwnT wr w.heap.size w.heap.size A j c vs ∧ p' ≤ p + 2 + 12 * j ∧ Rd wr rb p' ∧ Dr rb w wr ∧ Hid (Rb vs)) (fun _ i _ _ _ => M - (intOf i).toNat)
  case atStart => exact ⟨0, _, 0, [], p + 2, by omega, rfl, rfl, hT2, by omega, hrd2, hD2, fun v hv => by simp at hv⟩
  case round =>
    obtain ⟨j, A, c, vs, p', hj, rfl, rfl, hT, hp', hrd, hdr, hRb⟩ := hrel
    have hsz := hdr.size
    by_cases hlt : j < M
    · obtain ⟨wo, rfl⟩ : ∃ wo : World, wo = wr := ⟨_, rfl⟩
      have hrbo := hrd.lt
      go_wp2
      go_loopw [7, 8] (fun o i wr => ∃ (k : Nat) (B : Option Addr) (d : Nat) (xs : List Int) (p2 : Nat), k ≤ N ∧ i = .int .i64 k ∧ o = .slice B k d ∧ OwnN wr wo.heap.size B k d xs ∧ p2 ≤ p' + 2 * k ∧ Rd wr rb p2 ∧ Dr rb wo wr) (fun _ i _ => N - (intOf i).toNat)
      case atStart => exact ⟨0, _, 0, [], p', by omega, rfl, rfl, ⟨rfl, own_empty wo (Nat.le_refl _)⟩, by omega, hrd.alloc _, (Dr.refl _ _).alloc _⟩
      case round =>
        obtain ⟨k, B, d, xs, p2, hk, rfl, rfl, hown, hp2, hrd2, hdr2⟩ := hrel
        by_cases hlt2 : k < N
        · go_wp2_with fail
          refine (pick_n rb p2 _ _ hrd2 (by omega) (by omega) (by omega)).mono ?_
          rintro e w3 ⟨q3, hq3, rfl, hrd3, hdr3⟩
          go_wp2_with fail
          refine (pick_n rb (p2 + 1) _ _ hrd3 (by omega) (by omega) (by omega)).mono ?_
          rintro e w4 ⟨q4, hq4, rfl, hrd4, hdr4⟩
          obtain ⟨z0, z1⟩ := mul_bd (a := (q3 : Int)) (b := (q4 : Int)) (M := 5) (N := 6) ⟨by omega, by omega⟩ ⟨by omega, by omega⟩
          have hown4 := (hown.dr hdr3 hrbo).dr hdr4 hrbo
          have hd4 := (hdr2.trans hdr3).trans hdr4
          have hs4 := hd4.size
          clear hown hrd2 hrd3 hdr2 hdr3 hdr4
          go_wp2_with (at_builtin; refine wpList_app1 _ rfl (.tmp 27) (.tmp 33) rfl wo.heap.size B k d _ rfl hown4 hs4 (by omega) _ rfl ?_; intro B' d' w5 hown' hgr' hbl')
          go_roundw
          case rel => exact ⟨k + 1, _, _, _, p2 + 2, by omega, by go_num, rfl, hown', by omega, hrd4.below' hbl' hrbo, hd4.below hbl'⟩
          case measure => simp [intOf]; omega
        · obtain rfl : k = N := by omega
          clear hlt2
          obtain ⟨g, rfl, hgb, hgl⟩ := hown.form (by omega)
          go_wp2_with fail
          refine (pick_n rb p2 _ _ hrd2 (by omega) (by omega) (by omega)).mono ?_
          rintro e w3 ⟨q3, hq3, rfl, hrd3, hdr3⟩
          go_wp2_with fail
          refine (pick_n rb (p2 + 1) _ _ hrd3 (by omega) (by omega) (by omega)).mono ?_
          rintro e w4 ⟨q4, hq4, rfl, hrd4, hdr4⟩
          have hown4 := (hown.dr hdr3 hrbo).dr hdr4 hrbo
          have hd4 := (hdr2.trans hdr3).trans hdr4
          have hq3k : q3 < k := by omega
          obtain ⟨x4, hc4⟩ := hown4.cellN hq3k
          have hf4 := hown4.2.frozen q3
          have hown5 := hown4.setN q3 (1 + (q4 : Int))
          have hd5 := hd4.setCell (p := ⟨g, q3, none⟩) hgb (.int .i64 (1 + (q4 : Int)))
          have hrd5 := hrd4.setCell (a := ⟨g, q3, none⟩) (by show rb < g; omega) (.int .i64 (1 + (q4 : Int)))
          have hT5 := hT.dr hd5 hrb hrb
          have hs5 := hd5.size
          clear hown hrd2 hrd3 hrd4 hdr2 hdr3 hdr4 hd4
          go_wp2_with (at_builtin; refine wpList_appT1 _ rfl (.tmp 43) (.tmp 45) rfl w.heap.size w.heap.size A j c vs rfl hT5 (by omega) (by omega) _ k d _ ⟨hown5.1, hown5.2.mono hsz⟩ (by omega) w4.heap.size (by simp) rfl ?_; intro A' c' w6 hT6 hbl6)
          go_roundw
          case rel =>
            have hD6 := (hdr.trans hd5).below hbl6
            have hr6 := hrd5.below' hbl6 hrb
            first
              | exact ⟨j + 1, _, _, _, p2 + 2, by omega, by go_num, rfl, hT6, by omega, hr6, hD6, hRb.out.append (Rb.one hown5.1 hN1 hN5)⟩
              | (repeat apply Exists.intro); exact ⟨⟨j + 1, _, _, _, p2 + 2, by omega, by go_num, rfl, hT6, by omega, hr6, hD6, hRb.out.append (Rb.one hown5.1 hN1 hN5)⟩, rfl⟩
          case measure => simp [intOf]; omega
    · obtain rfl : j = M := by omega
      clear hlt
      obtain ⟨g, rfl, hgb, hgl, _⟩ := hT.cells (by omega)
      go_wp2_with fail
      refine (pick_n rb p' _ _ hrd (by omega) (by omega) (by omega)).mono ?_
      rintro e w3 ⟨q3, hq3, rfl, hrd3, hdr3⟩
      have hT3 := hT.dr hdr3 hrb hrb
      have hD3 := hdr.trans hdr3
      have hs3 := hD3.size
      clear hT hrd hdr hdr3
      by_cases h0 : q3 = 0
      · subst h0
        go_wp2_with fail
        refine (pick_n rb (p' + 1) _ _ hrd3 (by omega) (by omega) (by omega)).mono ?_
        rintro e w4 ⟨q4, hq4, rfl, hrd4, hdr4⟩
        have hT4 := hT3.dr hdr4 hrb hrb
        have hD4 := hD3.trans hdr4
        have hs4 := hD4.size
        have hrb4 := hrd4.lt
        go_wp2_with fail
        refine (l92Votes_any rb (p' + 2) N _ hrd4 (by omega) (by omega)).mono ?_
        rintro e w5 ⟨A5, c5, xs5, p5, rfl, hown5, hp5, hrd5, hdr5⟩
        have hT5 := hT4.dr hdr5 hrb hrb
        have hq4k : q4 < j := by omega
        obtain ⟨v5, hc5, hf5⟩ := hT5.cellAt hq4k
        go_wp2
        go_ret
        exact ⟨_, _, _, _, p5, rfl, by omega, hT5.set (by omega) q4 ⟨hown5.1, hown5.2.mono hs4⟩ (by omega), by omega, hrd5.setCell (by show rb < g; omega) _, (hD4.trans hdr5).setCell hgb _, hRb.out.set _ hown5.1 hN1 hN5⟩
      have h0b : ((q3 : Int) == 0) = false := by simp; omega
      by_cases h1 : q3 = 1
      · subst h1
        go_wp2_with fail
        refine (pick_n rb (p' + 1) _ _ hrd3 (by omega) (by omega) (by omega)).mono ?_
        rintro e w4 ⟨q4, hq4, rfl, hrd4, hdr4⟩
        have hT4 := hT3.dr hdr4 hrb hrb
        have hD4 := hD3.trans hdr4
        have hs4 := hD4.size
        have hT5 := hT4.alloc (.cells #[.int .i64 1] 3)
        have hq4k : q4 < j := by omega
        obtain ⟨v5, hc5, hf5⟩ := hT5.cellAt hq4k
        have hone : OwnN (w4.alloc (.cells #[.int .i64 1] 3)) w.heap.size (some ⟨w4.heap.size, 0, none⟩) 1 1 [1] := ⟨rfl, rfl, .inr ⟨w4.heap.size, 1, #[.int .i64 1], rfl, hs4, heap_alloc_new w4 _, by simp, by simp [maxLen], rfl, rfl⟩⟩
        go_wp2
        go_ret
        exact ⟨_, _, _, _, p' + 2, rfl, by omega, hT5.set (by omega) q4 hone (by omega), by omega, (hrd4.alloc _).setCell (by show rb < g; omega) _, (hD4.alloc _).setCell hgb _, hRb.out.set _ (l := 1) rfl (by omega) (by omega)⟩
      have h1b : ((q3 : Int) == 1) = false := by simp; omega
      by_cases h2 : q3 = 2
      · subst h2
        go_wp2
        go_ret
        exact ⟨_, _, _, _, p' + 1, rfl, by omega, own_emptyT w3 hs3, by omega, hrd3.alloc _, hD3.alloc _, fun v hv => by simp at hv⟩
      have h2b : ((q3 : Int) == 2) = false := by simp; omega
      by_cases h3 : q3 = 3
      · subst h3
        go_wp2_with (at_builtin; first | (refine wpList_appTself _ rfl (.tmp 72) (.tmp 73) rfl w.heap.size w.heap.size g j c vs rfl hT3 hs3 (by omega) rfl ?_; intro A4 c4 w4 hT4 hcel4 hin4 hb4) | (refine wpList_appTN _ rfl (.tmp 74) (.tmp 75) rfl w.heap.size w.heap.size A4 (j + j) c4 _ rfl hT4 (by have := hb4.size; omega) (by omega) ⟨g, 0, none⟩ vs j c rfl hT3.len (by omega) hcel4 hin4 ?_; intro A5 c5 w5 hT5 hb5))
        go_ret
        exact ⟨_, _, _, _, p' + 1, rfl, by omega, hT5, by omega, (hrd3.below' hb4 hrb).below' hb5 hrb, (hD3.below hb4).below hb5, (hRb.out.append hRb.out).append hRb.out⟩
      have h3b : ((q3 : Int) == 3) = false := by simp; omega
      go_wp2
      go_ret
      exact ⟨_, _, _, _, p' + 1, rfl, by omega, hT3, by omega, hrd3, hD3, hRb.out⟩
end Go.Proofs.Ytcddfibohcgjbaa
