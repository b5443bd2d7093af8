/-
  The reference's adding of ballots to piles, and piles that are drawn.
-/
import Derived.Test.YtiinfbjlkbjmmaaQDrawB
import Derived.Test.YtiinfbjlkbjmmaaQPilesV
namespace Go.Proofs.Ytiinfbjlkbjmmaa
open Go.RowKit
set_option maxRecDepth 100000 in
theorem pcs_at_inv {ps : List (ByteArray × Int)} {j : Nat} {u : Value} (h : (pcs ps)[j]? = some u) : ∃ k p, ps[k]? = some p ∧ ((j = k * 2 ∧ u = .string p.1) ∨ (j = k * 2 + 1 ∧ u = .int .i64 p.2)) := by
  have hj := (List.getElem?_eq_some_iff.1 h).1
  rw [pcs_len] at hj
  have hk : j / 2 < ps.length := by omega
  obtain ⟨h1, h2⟩ := pcs_at (List.getElem?_eq_getElem hk)
  refine ⟨j / 2, ps[j / 2], List.getElem?_eq_getElem hk, ?_⟩
  rcases (show j = j / 2 * 2 ∨ j = j / 2 * 2 + 1 by omega) with e | e
  · left
    rw [← e, h] at h1
    injection h1 with h1
    exact ⟨e, h1⟩
  · right
    rw [← e, h] at h2
    injection h2 with h2
    exact ⟨e, h2⟩
set_option maxRecDepth 100000 in
theorem PilesI.cells {w : World} {ad : Addr} {ps : List (ByteArray × Int)} (h : PilesI w (some ad) ps) : ∀ j u, (pcs ps)[j]? = some u → w.cell? (ad.add j) = some u := by
  intro j u hj
  obtain ⟨k, p, hp, hc⟩ := pcs_at_inv hj
  have hk := (List.getElem?_eq_some_iff.1 hp).1
  obtain ⟨ad', e, hr⟩ := h.read (by omega)
  injection e with e
  subst e
  obtain ⟨h1, h2⟩ := hr k p hp
  rcases hc with ⟨rfl, rfl⟩ | ⟨rfl, rfl⟩
  · exact h1
  · exact h2
set_option maxRecDepth 100000 in
theorem pcs_one {ps : List (ByteArray × Int)} : ∀ u ∈ pcs ps, u.oneCell' = true := by
  intro u hu
  simp only [pcs, List.mem_flatMap] at hu
  obtain ⟨p, _, hp⟩ := hu
  simp at hp
  rcases hp with rfl | rfl <;> rfl
set_option maxRecDepth 100000 in
theorem ownP_of_row {w : World} {base : Nat} {A : Option Addr} {n c : Nat} {ps : List (ByteArray × Int)} (hs : ∀ p ∈ ps, p.1.size ≤ 1048576) (h : w.ownsRow base 70 2 (.slice A n c) n (pcs ps)) : OwnP w base A n c ps :=
  ⟨by have := h.1; rw [pcs_len] at this; omega, hs, h⟩
set_option maxRecDepth 100000 in
theorem small_app {ps qs : List (ByteArray × Int)} (h : ∀ p ∈ ps, p.1.size ≤ 1048576) (h' : ∀ p ∈ qs, p.1.size ≤ 1048576) : ∀ p ∈ ps ++ qs, p.1.size ≤ 1048576 := fun p hp => by
  rcases List.mem_append.1 hp with hp | hp
  · exact h p hp
  · exact h' p hp
set_option maxRecDepth 100000 in
/-- append of some piles. -/
theorem wpList_appPs (w : World) {ops : Array Oper} {rest : List Oper} {o : Oper} {a : Act} {Q : Exit → Act → World → Prop}
    (hg : o.guard = none) (s x : Operand) (ho : o.op = .call { callee := .builtin .append, args := #[s, x], argTypes := #[28, 28] })
    (base : Nat) (A : Option Addr) (n c : Nat) (ps : List (ByteArray × Int)) (hs : a.eval s = .slice A n c) (hown : OwnP w base A n c ps) (hbase : base ≤ w.heap.size) (hn : n ≤ 1048576)
    (ad : Addr) (qs : List (ByteArray × Int)) (l cc : Nat) (hx : a.eval x = .slice (some ad) l cc) (hl : qs.length = l) (hl2 : l ≤ 1048576) (hc : PilesI w (some ad) qs) (m : Nat) (hm : n + l = m)
    (hK : ∀ A' c' w', OwnP w' base A' m c' (ps ++ qs) → w.grownBy w' (Value.slice A n c).ownBlock → Below base w w' → wpList Try.prog ops Q rest (a.put o.dst (.slice A' m c')) w') :
    wpList Try.prog ops Q (o :: rest) a w := by
  obtain ⟨i0, hi, hz0, hz1, hz2⟩ := info_parts infoPile
  subst hm
  refine wpList_append_own w hg s x 28 ho base 70 i0 (.agg #[.string ⟨#[]⟩, .int .i64 0]) 2 24 Try.underlying28 hi hz0 hz1 hz2 rfl (by omega) _ _ _ hs hown.row ad l cc (pcs qs) hx (by rw [pcs_len, hl]) hc.cells pcs_one (by simp only [maxLen]; omega) (by omega) hbase ?_
  intro v' w' h1 h2 _
  obtain ⟨A', c', rfl⟩ := row_form h1
  rw [← pcs_app] at h1
  exact hK A' c' w' (ownP_of_row (small_app hown.small hc.small) h1) h2 (below_of_grown h2 hbase (fun k hk => (World.ownsRow.lt hown.row k hk).1))
set_option maxRecDepth 100000 in
/-- The same in a region that draws its order. -/
theorem step_appPs (w : World) {ops : Array Oper} {o : Oper} {a : Act} {K : Act → World → Prop} {Q : Exit → Act → World → Prop} {E : Prop}
    (hg : o.guard = none) (s x : Operand) (ho : o.op = .call { callee := .builtin .append, args := #[s, x], argTypes := #[28, 28] })
    (base : Nat) (A : Option Addr) (n c : Nat) (ps : List (ByteArray × Int)) (hs : a.eval s = .slice A n c) (hown : OwnP w base A n c ps) (hbase : base ≤ w.heap.size) (hn : n ≤ 1048576)
    (ad : Addr) (qs : List (ByteArray × Int)) (l cc : Nat) (hx : a.eval x = .slice (some ad) l cc) (hl : qs.length = l) (hl2 : l ≤ 1048576) (hc : PilesI w (some ad) qs) (m : Nat) (hm : n + l = m)
    (hK : ∀ A' c' w', OwnP w' base A' m c' (ps ++ qs) → w.grownBy w' (Value.slice A n c).ownBlock → Below base w w' → K (a.put o.dst (.slice A' m c')) w') :
    if Region.wanted o (yielded ops a.tmps) = true then Oper.wp Try.prog o a w K Q else E := by
  have hw : Region.wanted o (yielded ops a.tmps) = true := by simp [Region.wanted, hg]
  rw [if_pos hw]
  obtain ⟨i0, hi, hz0, hz1, hz2⟩ := info_parts infoPile
  subst hm
  refine wp_append_own w s x 28 ho base 70 i0 (.agg #[.string ⟨#[]⟩, .int .i64 0]) 2 24 Try.underlying28 hi hz0 hz1 hz2 rfl (by omega) _ _ _ hs hown.row ad l cc (pcs qs) hx (by rw [pcs_len, hl]) hc.cells pcs_one (by simp only [maxLen]; omega) (by omega) hbase ?_
  intro v' w' h1 h2 _
  obtain ⟨A', c', rfl⟩ := row_form h1
  rw [← pcs_app] at h1
  exact hK A' c' w' (ownP_of_row (small_app hown.small hc.small) h1) h2 (below_of_grown h2 hbase (fun k hk => (World.ownsRow.lt hown.row k hk).1))
set_option maxRecDepth 100000 in
/-- A new block that holds one pile. -/
theorem newPile (w : World) (s : ByteArray) (m : Int) (hs : s.size ≤ 1048576) : PilesI (w.alloc (.cells #[.string s, .int .i64 m] 70)) (some ⟨w.heap.size, 0, none⟩) [(s, m)] := by
  refine ⟨fun p hp => by simp at hp; subst hp; exact hs, fun _ => ⟨_, rfl, fun j p hp => ?_⟩⟩
  match j, hp with
  | 0, hp =>
    simp at hp
    subst hp
    exact ⟨cell_of_row _ w.heap.size 0 #[.string s, .int .i64 m] 70 (0, 0) (heap_alloc_new w _), cell_of_row _ w.heap.size 1 #[.string s, .int .i64 m] 70 (0, 0) (heap_alloc_new w _)⟩
set_option maxRecDepth 100000 in
theorem PilesI.take {w : World} {A : Option Addr} {ps : List (ByteArray × Int)} (h : PilesI w A ps) (k : Nat) : PilesI w A (ps.take k) := by
  refine ⟨fun p hp => h.small p (List.mem_of_mem_take hp), fun hn => ?_⟩
  obtain ⟨ad, e, hc⟩ := h.read (by simp at hn; omega)
  refine ⟨ad, e, fun j x hx => hc j x ?_⟩
  rw [List.getElem?_take] at hx
  split at hx
  · exact hx
  · cases hx
set_option maxRecDepth 100000 in
theorem PilesI.drop {w : World} {ad : Addr} {ps : List (ByteArray × Int)} (h : PilesI w (some ad) ps) (k : Nat) : PilesI w (some (ad.add (k * 2))) (ps.drop k) := by
  refine ⟨fun p hp => h.small p (List.mem_of_mem_drop hp), fun hn => ?_⟩
  obtain ⟨ad', e, hc⟩ := h.read (by simp at hn; omega)
  injection e with e
  subst e
  refine ⟨_, rfl, fun j x hx => ?_⟩
  rw [List.getElem?_drop] at hx
  have := hc _ _ hx
  rw [add_two, add_two, show k * 2 + j * 2 = (k + j) * 2 by omega, show k * 2 + (j * 2 + 1) = (k + j) * 2 + 1 by omega]
  exact this
set_option maxRecDepth 100000 in
theorem PilesI.grown {w w' : World} {A : Option Addr} {ps : List (ByteArray × Int)} {row : Option Nat} (h : PilesI w A ps) (hg : w.grownBy w' row) (hr : ∀ ad, A = some ad → 0 < ps.length → some ad.block ≠ row) : PilesI w' A ps :=
  h.keep fun ad e hn hlt => hg.block _ hlt (hr ad e hn)
set_option maxRecDepth 100000 in
theorem pcs_set {ps : List (ByteArray × Int)} {k : Nat} {p : ByteArray × Int} (h : ps[k]? = some p) (s : ByteArray) (m : Int) :
    (pcs ps).set (k * 2 + 1) (.int .i64 m) = pcs (ps.set k (p.1, m)) ∧ (pcs ps).set (k * 2) (.string s) = pcs (ps.set k (s, p.2)) := by
  induction ps generalizing k with
  | nil => simp at h
  | cons q t ih =>
    have e : ∀ (q : ByteArray × Int) t, pcs (q :: t) = .string q.1 :: .int .i64 q.2 :: pcs t := fun _ _ => rfl
    cases k with
    | zero =>
      simp at h
      subst h
      exact ⟨rfl, rfl⟩
    | succ k =>
      simp at h
      obtain ⟨h1, h2⟩ := ih h
      rw [show (k + 1) * 2 = k * 2 + 1 + 1 by omega, e]
      exact ⟨by rw [List.set_cons_succ, List.set_cons_succ, h1]; rfl, by rw [List.set_cons_succ, List.set_cons_succ, h2]; rfl⟩
set_option maxRecDepth 100000 in
theorem OwnP.setMany {w : World} {base g n c : Nat} {ps : List (ByteArray × Int)} (h : OwnP w base (some ⟨g, 0, none⟩) n c ps) {k : Nat} {p : ByteArray × Int} (hp : ps[k]? = some p) (m : Int) : OwnP (w.setCell ⟨g, k * 2 + 1, none⟩ (.int .i64 m)) base (some ⟨g, 0, none⟩) n c (ps.set k (p.1, m)) := by
  refine ⟨by simp [h.len], fun q hq => ?_, ?_⟩
  · rcases List.mem_or_eq_of_mem_set hq with hq | rfl
    · exact h.small q hq
    · exact h.small p (List.mem_of_getElem? hp)
  · have := (World.ownsRow.stored h.row (k * 2 + 1) (.int .i64 m)).1
    rwa [(pcs_set hp ⟨#[]⟩ m).1] at this
set_option maxRecDepth 100000 in
theorem OwnP.setText {w : World} {base g n c : Nat} {ps : List (ByteArray × Int)} (h : OwnP w base (some ⟨g, 0, none⟩) n c ps) {k : Nat} {p : ByteArray × Int} (hp : ps[k]? = some p) {s : ByteArray} (hs : s.size ≤ 1048576) : OwnP (w.setCell ⟨g, k * 2, none⟩ (.string s)) base (some ⟨g, 0, none⟩) n c (ps.set k (s, p.2)) := by
  refine ⟨by simp [h.len], fun q hq => ?_, ?_⟩
  · rcases List.mem_or_eq_of_mem_set hq with hq | rfl
    · exact h.small q hq
    · exact hs
  · have := (World.ownsRow.stored h.row (k * 2) (.string s)).1
    rwa [(pcs_set hp s 0).2] at this
set_option maxRecDepth 100000 in
theorem OwnP.frozen {w : World} {base g n c : Nat} {ps : List (ByteArray × Int)} (h : OwnP w base (some ⟨g, 0, none⟩) n c ps) (k : Nat) : w.frozen? ⟨g, k, none⟩ = false := World.ownsRow.frozenAt h.row k
set_option maxRecDepth 100000 in
theorem OwnP.cells {w : World} {base g n c : Nat} {ps : List (ByteArray × Int)} (h : OwnP w base (some ⟨g, 0, none⟩) n c ps) {k : Nat} {p : ByteArray × Int} (hp : ps[k]? = some p) : w.cell? ⟨g, k * 2, none⟩ = some (.string p.1) ∧ w.cell? ⟨g, k * 2 + 1, none⟩ = some (.int .i64 p.2) := by
  obtain ⟨h1, h2⟩ := pcs_at hp
  have hl := h.len
  have hk := (List.getElem?_eq_some_iff.1 hp).1
  exact ⟨(World.ownsRow.cellAt h.row _ (by omega)).trans h1, (World.ownsRow.cellAt h.row _ (by omega)).trans h2⟩
set_option maxRecDepth 100000 in
theorem OwnP.empty2 (w : World) (o : Obj) : OwnP ((w.alloc o).alloc (.cells #[] 70)) w.heap.size (some ⟨w.heap.size + 1, 0, none⟩) 0 0 [] := by
  have := OwnP.empty (w.alloc o) (base := w.heap.size) (by simp)
  simpa using this
set_option maxRecDepth 100000 in
theorem newPile2 (w : World) (o : Obj) (s : ByteArray) (m : Int) (hs : s.size ≤ 1048576) : PilesI ((w.alloc o).alloc (.cells #[.string s, .int .i64 m] 70)) (some ⟨w.heap.size + 1, 0, none⟩) [(s, m)] := by
  have := newPile (w.alloc o) s m hs
  simpa using this
/-- It returns new piles. -/
def SomeP (w : World) (N : Nat) (e : Ending) (w' : World) : Prop := ∃ g n c ps, e = .returned (.slice (some ⟨g, 0, none⟩) n c) ∧ n ≤ N ∧ OwnP w' w.heap.size (some ⟨g, 0, none⟩) n c ps ∧ Below w.heap.size w w'
set_option maxRecDepth 100000 in
set_option maxHeartbeats 1600000 in
theorem l3Put_any (ad : Addr) (ps : List (ByteArray × Int)) (c : Nat) (t : ByteArray) (m : Int) (w : World) (h : PilesI w (some ad) ps) (hl : ps.length ≤ 1000) (hcap : ps.length ≤ c) (ht : t.size ≤ 1048576) :
    Calls Try.prog 103 #[.slice (some ad) ps.length c, .string t, .int .i64 m] w (SomeP w (ps.length + 1)) := by
  go_enter Try.func103, Try.ntmps103
  go_wp2
  go_loop [7] (fun i => ∃ k : Nat, k ≤ ps.length ∧ i = .int .i64 k) (fun i => ps.length - (intOf i).toNat)
  case atStart => exact ⟨0, by omega, rfl⟩
  case round =>
    obtain ⟨k, hk, rfl⟩ := hrel
    have hend : (k < ps.length ∧ ∃ s m', Hid (ps[k]? = some (s, m')) ∧ w.cell? (ad.add (k * 2)) = some (.string s) ∧ Op.bytesLess s.toList t.toList = true) ∨ (k < ps.length ∧ ∃ s m', Hid (ps[k]? = some (s, m')) ∧ w.cell? (ad.add (k * 2)) = some (.string s) ∧ Op.bytesLess s.toList t.toList = false) ∨ ¬ k < ps.length := by
      by_cases hlt : k < ps.length
      · obtain ⟨s, m', hp, hc⟩ := h.at_p hlt
        cases hb : Op.bytesLess s.toList t.toList
        · exact .inr (.inl ⟨hlt, s, m', hp, hc, hb⟩)
        · exact .inl ⟨hlt, s, m', hp, hc, hb⟩
      · exact .inr (.inr hlt)
    rcases hend with ⟨hlt, s, m', hp, hc, hb⟩ | ⟨hlt, s, m', hp, hc, hb⟩ | hlt
    · go_wp2
      go_round
      case rel => exact ⟨k + 1, by omega, by go_num⟩
      case measure => simp [intOf]; omega
    · cases hbe : s.toList == t.toList
      · go_wp2_with (at_builtin; refine wpList_appPs _ rfl (.tmp 24) (.tmp 25) rfl w.heap.size (some ⟨w.heap.size, 0, none⟩) 0 0 [] rfl (OwnP.empty w (Nat.le_refl _)) (by simp) (by omega) ad ps ps.length c rfl rfl (by omega) (h.alloc _) ps.length (by omega) ?_; intro A1 c1 w1 h1 hg1 hb0; have hb1 := ((Below.refl w.heap.size w).alloc (Nat.le_refl _) (.cells #[] 70)).trans hb0; have hc1 := cell_below hb1 hc)
        have hP := h.below hb1
        have hk0 : (0 : Int) ≤ (k : Int) := by omega
        have hkc : (k : Int) ≤ (c : Int) := by omega
        have hkn : (k : Int) ≤ (ps.length : Int) := by omega
        have hkc2 : k ≤ c := by omega
        have L1 := Lib.hid (show (ps.take k).length = k by rw [List.length_take]; omega)
        have L2 := Lib.hid (show (ps.drop k).length = ps.length - k from List.length_drop)
        have X1 : Below w1.heap.size w1 ((w1.alloc (.cells #[] 70)).drew) := ((Below.refl _ w1).alloc (Nat.le_refl _) _).drew
        have X2 : Below w1.heap.size w1 (((w1.alloc (.cells #[] 70)).drew).alloc (.cells #[.string t, .int .i64 m] 70)) := X1.alloc (by simp) _
        have X3 : Below w1.heap.size w1 (((w1.alloc (.cells #[.string t, .int .i64 m] 70)).drew).alloc (.cells #[] 70)) := (((Below.refl _ w1).alloc (Nat.le_refl _) _).drew).alloc (by simp) _
        have Y1 : OwnP ((w1.alloc (.cells #[] 70)).drew) w1.heap.size (some ⟨w1.heap.size, 0, none⟩) 0 0 [] := (OwnP.empty w1 (Nat.le_refl _)).drew
        have Y2 : OwnP (((w1.alloc (.cells #[] 70)).drew).alloc (.cells #[.string t, .int .i64 m] 70)) w1.heap.size (some ⟨w1.heap.size, 0, none⟩) 0 0 [] := Y1.alloc _
        have Y3 : OwnP (((w1.alloc (.cells #[.string t, .int .i64 m] 70)).drew).alloc (.cells #[] 70)) w1.heap.size (some ⟨w1.heap.size + 1, 0, none⟩) 0 0 [] := (OwnP.empty2 w1 _).drew
        have N2 : PilesI (((w1.alloc (.cells #[] 70)).drew).alloc (.cells #[.string t, .int .i64 m] 70)) (some ⟨w1.heap.size + 1, 0, none⟩) [(t, m)] := (newPile2 w1 _ t m ht).drew
        have N3 : PilesI (((w1.alloc (.cells #[.string t, .int .i64 m] 70)).drew).alloc (.cells #[] 70)) (some ⟨w1.heap.size, 0, none⟩) [(t, m)] := ((newPile w1 t m ht).drew).alloc _
        clear hk0
        have hk0 : (0 : Int) ≤ (k : Int) := by omega
        by_cases hck : c = k
        case pos =>
          go_region_law (first
            | (refine step_appPs _ rfl (.tmp 52) (.tmp 55) rfl w1.heap.size (some ⟨w1.heap.size, 0, none⟩) 0 0 [] (by simp [Act.eval]) Y1 (by simp) (by omega) ad (ps.take k) k c (by simp [Act.eval] <;> omega) L1.out (by omega) ((hP.below X1).take k) k (by omega) ?_; intro A4 c4 w4 h4 hg4 hb4; have b4 := X1.trans hb4)
            | (refine step_appPs _ rfl (.tmp 52) (.tmp 55) rfl w1.heap.size (some ⟨w1.heap.size, 0, none⟩) 0 0 [] (by simp [Act.eval]) Y2 (by simp; omega) (by omega) ad (ps.take k) k c (by simp [Act.eval] <;> omega) L1.out (by omega) ((hP.below X2).take k) k (by omega) ?_; intro A4 c4 w4 h4 hg4 hb4; have b4 := X2.trans hb4; have p4 := N2.grown hg4 (fun ad e _ => by injection e with e; subst e; simp [Value.ownBlock]))
            | (refine step_appPs _ rfl (.tmp 52) (.tmp 55) rfl w1.heap.size (some ⟨w1.heap.size + 1, 0, none⟩) 0 0 [] (by simp [Act.eval]) Y3 (by simp; omega) (by omega) ad (ps.take k) k c (by simp [Act.eval] <;> omega) L1.out (by omega) ((hP.below X3).take k) k (by omega) ?_; intro A4 c4 w4 h4 hg4 hb4; have b4 := X3.trans hb4; have p4 := N3.grown hg4 (fun ad e _ => by injection e with e; subst e; simp [Value.ownBlock]))
            | (refine step_appPs _ rfl (.tmp 56) (.tmp 60) rfl w1.heap.size A4 k c4 ([] ++ ps.take k) (by simp [Act.eval]) (h4.alloc _) (by have := b4.size; simp; omega) (by omega) ⟨w4.heap.size, 0, none⟩ [(t, m)] 1 1 (by simp [Act.eval]) rfl (by omega) (newPile w4 t m ht) (k + 1) (by omega) ?_; intro A9 c9 w9 h9 hg9 hb9; have b9 := (b4.alloc b4.size _).trans hb9)
            | (refine step_appPs _ rfl (.tmp 56) (.tmp 60) rfl w1.heap.size A4 k c4 ([] ++ ps.take k) (by simp [Act.eval]) h4 b4.size (by omega) ⟨w1.heap.size + 1, 0, none⟩ [(t, m)] 1 1 (by simp [Act.eval]) rfl (by omega) p4 (k + 1) (by omega) ?_; intro A9 c9 w9 h9 hg9 hb9; have b9 := b4.trans hb9)
            | (refine step_appPs _ rfl (.tmp 56) (.tmp 60) rfl w1.heap.size A4 k c4 ([] ++ ps.take k) (by simp [Act.eval]) h4 b4.size (by omega) ⟨w1.heap.size, 0, none⟩ [(t, m)] 1 1 (by simp [Act.eval]) rfl (by omega) p4 (k + 1) (by omega) ?_; intro A9 c9 w9 h9 hg9 hb9; have b9 := b4.trans hb9)
            | (refine step_appPs _ rfl (.tmp 61) (.tmp 64) rfl w1.heap.size A9 (k + 1) c9 ([] ++ ps.take k ++ [(t, m)]) (by simp [Act.eval]) h9 b9.size (by omega) ad [] 0 0 (by simp [Act.eval] <;> omega) rfl (by omega) (PilesI.nil _ _) (ps.length + 1) (by omega) ?_; intro A13 c13 w13 h13 hg13 hb13))
          all_goals
            obtain ⟨g, rfl, _, _⟩ := h13.form (by omega)
            go_wp2
            go_ret
            exact ⟨g, _, c13, _, rfl, by omega, h13.mono hb1.size, hb1.trans ((b9.trans hb13).mono hb1.size)⟩
        case neg =>
          go_region_law (first
            | (refine step_appPs _ rfl (.tmp 52) (.tmp 55) rfl w1.heap.size (some ⟨w1.heap.size, 0, none⟩) 0 0 [] (by simp [Act.eval]) Y1 (by simp) (by omega) ad (ps.take k) k c (by simp [Act.eval] <;> omega) L1.out (by omega) ((hP.below X1).take k) k (by omega) ?_; intro A4 c4 w4 h4 hg4 hb4; have b4 := X1.trans hb4)
            | (refine step_appPs _ rfl (.tmp 52) (.tmp 55) rfl w1.heap.size (some ⟨w1.heap.size, 0, none⟩) 0 0 [] (by simp [Act.eval]) Y2 (by simp; omega) (by omega) ad (ps.take k) k c (by simp [Act.eval] <;> omega) L1.out (by omega) ((hP.below X2).take k) k (by omega) ?_; intro A4 c4 w4 h4 hg4 hb4; have b4 := X2.trans hb4; have p4 := N2.grown hg4 (fun ad e _ => by injection e with e; subst e; simp [Value.ownBlock]))
            | (refine step_appPs _ rfl (.tmp 52) (.tmp 55) rfl w1.heap.size (some ⟨w1.heap.size + 1, 0, none⟩) 0 0 [] (by simp [Act.eval]) Y3 (by simp; omega) (by omega) ad (ps.take k) k c (by simp [Act.eval] <;> omega) L1.out (by omega) ((hP.below X3).take k) k (by omega) ?_; intro A4 c4 w4 h4 hg4 hb4; have b4 := X3.trans hb4; have p4 := N3.grown hg4 (fun ad e _ => by injection e with e; subst e; simp [Value.ownBlock]))
            | (refine step_appPs _ rfl (.tmp 56) (.tmp 60) rfl w1.heap.size A4 k c4 ([] ++ ps.take k) (by simp [Act.eval]) (h4.alloc _) (by have := b4.size; simp; omega) (by omega) ⟨w4.heap.size, 0, none⟩ [(t, m)] 1 1 (by simp [Act.eval]) rfl (by omega) (newPile w4 t m ht) (k + 1) (by omega) ?_; intro A9 c9 w9 h9 hg9 hb9; have b9 := (b4.alloc b4.size _).trans hb9)
            | (refine step_appPs _ rfl (.tmp 56) (.tmp 60) rfl w1.heap.size A4 k c4 ([] ++ ps.take k) (by simp [Act.eval]) h4 b4.size (by omega) ⟨w1.heap.size + 1, 0, none⟩ [(t, m)] 1 1 (by simp [Act.eval]) rfl (by omega) p4 (k + 1) (by omega) ?_; intro A9 c9 w9 h9 hg9 hb9; have b9 := b4.trans hb9)
            | (refine step_appPs _ rfl (.tmp 56) (.tmp 60) rfl w1.heap.size A4 k c4 ([] ++ ps.take k) (by simp [Act.eval]) h4 b4.size (by omega) ⟨w1.heap.size, 0, none⟩ [(t, m)] 1 1 (by simp [Act.eval]) rfl (by omega) p4 (k + 1) (by omega) ?_; intro A9 c9 w9 h9 hg9 hb9; have b9 := b4.trans hb9)
            | (refine step_appPs _ rfl (.tmp 61) (.tmp 64) rfl w1.heap.size A9 (k + 1) c9 ([] ++ ps.take k ++ [(t, m)]) (by simp [Act.eval]) h9 b9.size (by omega) (ad.add (k * 2)) (ps.drop k) (ps.length - k) (c - k) (by simp [Act.eval]) L2.out (by omega) ((hP.below b9).drop k) (ps.length + 1) (by omega) ?_; intro A13 c13 w13 h13 hg13 hb13))
          all_goals
            obtain ⟨g, rfl, _, _⟩ := h13.form (by omega)
            go_wp2
            go_ret
            exact ⟨g, _, c13, _, rfl, by omega, h13.mono hb1.size, hb1.trans ((b9.trans hb13).mono hb1.size)⟩
      · obtain ⟨e1, e2⟩ : (k : Int) < (ps.length : Int) ∧ (0 : Int) ≤ (k : Int) := by omega
        go_wp2_with (at_builtin; refine wpList_appPs _ rfl (.tmp 24) (.tmp 25) rfl w.heap.size (some ⟨w.heap.size, 0, none⟩) 0 0 [] rfl (OwnP.empty w (Nat.le_refl _)) (by simp) (by omega) ad ps ps.length c rfl rfl (by omega) (h.alloc _) ps.length (by omega) ?_; intro A1 c1 w1 h1 hg1 hb0; have hb1 := ((Below.refl w.heap.size w).alloc (Nat.le_refl _) (.cells #[] 70)).trans hb0; have hc1 := cell_below hb1 hc; obtain ⟨g1, rfl, hg10, hg11⟩ := h1.form (by omega); obtain ⟨z0, z1⟩ := h1.cells hp.out; have hfz := h1.frozen (k * 2 + 1); have hset := h1.setMany hp.out)
        go_ret
        exact ⟨g1, _, c1, _, rfl, by omega, hset _, hb1.setCell hg10 _⟩
    · go_wp2_with (at_builtin; refine wpList_appPs _ rfl (.tmp 24) (.tmp 25) rfl w.heap.size (some ⟨w.heap.size, 0, none⟩) 0 0 [] rfl (OwnP.empty w (Nat.le_refl _)) (by simp) (by omega) ad ps ps.length c rfl rfl (by omega) (h.alloc _) ps.length (by omega) ?_; intro A1 c1 w1 h1 hg1 hb0; have hb1 := ((Below.refl w.heap.size w).alloc (Nat.le_refl _) (.cells #[] 70)).trans hb0)
      have hP := h.below hb1
      have hk0 : (0 : Int) ≤ (k : Int) := by omega
      have hkc : (k : Int) ≤ (c : Int) := by omega
      have hkn : (k : Int) ≤ (ps.length : Int) := by omega
      have hkc2 : k ≤ c := by omega
      have L1 := Lib.hid (show (ps.take k).length = k by rw [List.length_take]; omega)
      have L2 := Lib.hid (show (ps.drop k).length = ps.length - k from List.length_drop)
      have X1 : Below w1.heap.size w1 ((w1.alloc (.cells #[] 70)).drew) := ((Below.refl _ w1).alloc (Nat.le_refl _) _).drew
      have X2 : Below w1.heap.size w1 (((w1.alloc (.cells #[] 70)).drew).alloc (.cells #[.string t, .int .i64 m] 70)) := X1.alloc (by simp) _
      have X3 : Below w1.heap.size w1 (((w1.alloc (.cells #[.string t, .int .i64 m] 70)).drew).alloc (.cells #[] 70)) := (((Below.refl _ w1).alloc (Nat.le_refl _) _).drew).alloc (by simp) _
      have Y1 : OwnP ((w1.alloc (.cells #[] 70)).drew) w1.heap.size (some ⟨w1.heap.size, 0, none⟩) 0 0 [] := (OwnP.empty w1 (Nat.le_refl _)).drew
      have Y2 : OwnP (((w1.alloc (.cells #[] 70)).drew).alloc (.cells #[.string t, .int .i64 m] 70)) w1.heap.size (some ⟨w1.heap.size, 0, none⟩) 0 0 [] := Y1.alloc _
      have Y3 : OwnP (((w1.alloc (.cells #[.string t, .int .i64 m] 70)).drew).alloc (.cells #[] 70)) w1.heap.size (some ⟨w1.heap.size + 1, 0, none⟩) 0 0 [] := (OwnP.empty2 w1 _).drew
      have N2 : PilesI (((w1.alloc (.cells #[] 70)).drew).alloc (.cells #[.string t, .int .i64 m] 70)) (some ⟨w1.heap.size + 1, 0, none⟩) [(t, m)] := (newPile2 w1 _ t m ht).drew
      have N3 : PilesI (((w1.alloc (.cells #[.string t, .int .i64 m] 70)).drew).alloc (.cells #[] 70)) (some ⟨w1.heap.size, 0, none⟩) [(t, m)] := ((newPile w1 t m ht).drew).alloc _
      clear hk0
      have hk0 : (0 : Int) ≤ (k : Int) := by omega
      by_cases hck : c = k
      case pos =>
        go_region_law (first
          | (refine step_appPs _ rfl (.tmp 52) (.tmp 55) rfl w1.heap.size (some ⟨w1.heap.size, 0, none⟩) 0 0 [] (by simp [Act.eval]) Y1 (by simp) (by omega) ad (ps.take k) k c (by simp [Act.eval] <;> omega) L1.out (by omega) ((hP.below X1).take k) k (by omega) ?_; intro A4 c4 w4 h4 hg4 hb4; have b4 := X1.trans hb4)
          | (refine step_appPs _ rfl (.tmp 52) (.tmp 55) rfl w1.heap.size (some ⟨w1.heap.size, 0, none⟩) 0 0 [] (by simp [Act.eval]) Y2 (by simp; omega) (by omega) ad (ps.take k) k c (by simp [Act.eval] <;> omega) L1.out (by omega) ((hP.below X2).take k) k (by omega) ?_; intro A4 c4 w4 h4 hg4 hb4; have b4 := X2.trans hb4; have p4 := N2.grown hg4 (fun ad e _ => by injection e with e; subst e; simp [Value.ownBlock]))
          | (refine step_appPs _ rfl (.tmp 52) (.tmp 55) rfl w1.heap.size (some ⟨w1.heap.size + 1, 0, none⟩) 0 0 [] (by simp [Act.eval]) Y3 (by simp; omega) (by omega) ad (ps.take k) k c (by simp [Act.eval] <;> omega) L1.out (by omega) ((hP.below X3).take k) k (by omega) ?_; intro A4 c4 w4 h4 hg4 hb4; have b4 := X3.trans hb4; have p4 := N3.grown hg4 (fun ad e _ => by injection e with e; subst e; simp [Value.ownBlock]))
          | (refine step_appPs _ rfl (.tmp 56) (.tmp 60) rfl w1.heap.size A4 k c4 ([] ++ ps.take k) (by simp [Act.eval]) (h4.alloc _) (by have := b4.size; simp; omega) (by omega) ⟨w4.heap.size, 0, none⟩ [(t, m)] 1 1 (by simp [Act.eval]) rfl (by omega) (newPile w4 t m ht) (k + 1) (by omega) ?_; intro A9 c9 w9 h9 hg9 hb9; have b9 := (b4.alloc b4.size _).trans hb9)
          | (refine step_appPs _ rfl (.tmp 56) (.tmp 60) rfl w1.heap.size A4 k c4 ([] ++ ps.take k) (by simp [Act.eval]) h4 b4.size (by omega) ⟨w1.heap.size + 1, 0, none⟩ [(t, m)] 1 1 (by simp [Act.eval]) rfl (by omega) p4 (k + 1) (by omega) ?_; intro A9 c9 w9 h9 hg9 hb9; have b9 := b4.trans hb9)
          | (refine step_appPs _ rfl (.tmp 56) (.tmp 60) rfl w1.heap.size A4 k c4 ([] ++ ps.take k) (by simp [Act.eval]) h4 b4.size (by omega) ⟨w1.heap.size, 0, none⟩ [(t, m)] 1 1 (by simp [Act.eval]) rfl (by omega) p4 (k + 1) (by omega) ?_; intro A9 c9 w9 h9 hg9 hb9; have b9 := b4.trans hb9)
          | (refine step_appPs _ rfl (.tmp 61) (.tmp 64) rfl w1.heap.size A9 (k + 1) c9 ([] ++ ps.take k ++ [(t, m)]) (by simp [Act.eval]) h9 b9.size (by omega) ad [] 0 0 (by simp [Act.eval] <;> omega) rfl (by omega) (PilesI.nil _ _) (ps.length + 1) (by omega) ?_; intro A13 c13 w13 h13 hg13 hb13))
        all_goals
          obtain ⟨g, rfl, _, _⟩ := h13.form (by omega)
          go_wp2
          go_ret
          exact ⟨g, _, c13, _, rfl, by omega, h13.mono hb1.size, hb1.trans ((b9.trans hb13).mono hb1.size)⟩
      case neg =>
        go_region_law (first
          | (refine step_appPs _ rfl (.tmp 52) (.tmp 55) rfl w1.heap.size (some ⟨w1.heap.size, 0, none⟩) 0 0 [] (by simp [Act.eval]) Y1 (by simp) (by omega) ad (ps.take k) k c (by simp [Act.eval] <;> omega) L1.out (by omega) ((hP.below X1).take k) k (by omega) ?_; intro A4 c4 w4 h4 hg4 hb4; have b4 := X1.trans hb4)
          | (refine step_appPs _ rfl (.tmp 52) (.tmp 55) rfl w1.heap.size (some ⟨w1.heap.size, 0, none⟩) 0 0 [] (by simp [Act.eval]) Y2 (by simp; omega) (by omega) ad (ps.take k) k c (by simp [Act.eval] <;> omega) L1.out (by omega) ((hP.below X2).take k) k (by omega) ?_; intro A4 c4 w4 h4 hg4 hb4; have b4 := X2.trans hb4; have p4 := N2.grown hg4 (fun ad e _ => by injection e with e; subst e; simp [Value.ownBlock]))
          | (refine step_appPs _ rfl (.tmp 52) (.tmp 55) rfl w1.heap.size (some ⟨w1.heap.size + 1, 0, none⟩) 0 0 [] (by simp [Act.eval]) Y3 (by simp; omega) (by omega) ad (ps.take k) k c (by simp [Act.eval] <;> omega) L1.out (by omega) ((hP.below X3).take k) k (by omega) ?_; intro A4 c4 w4 h4 hg4 hb4; have b4 := X3.trans hb4; have p4 := N3.grown hg4 (fun ad e _ => by injection e with e; subst e; simp [Value.ownBlock]))
          | (refine step_appPs _ rfl (.tmp 56) (.tmp 60) rfl w1.heap.size A4 k c4 ([] ++ ps.take k) (by simp [Act.eval]) (h4.alloc _) (by have := b4.size; simp; omega) (by omega) ⟨w4.heap.size, 0, none⟩ [(t, m)] 1 1 (by simp [Act.eval]) rfl (by omega) (newPile w4 t m ht) (k + 1) (by omega) ?_; intro A9 c9 w9 h9 hg9 hb9; have b9 := (b4.alloc b4.size _).trans hb9)
          | (refine step_appPs _ rfl (.tmp 56) (.tmp 60) rfl w1.heap.size A4 k c4 ([] ++ ps.take k) (by simp [Act.eval]) h4 b4.size (by omega) ⟨w1.heap.size + 1, 0, none⟩ [(t, m)] 1 1 (by simp [Act.eval]) rfl (by omega) p4 (k + 1) (by omega) ?_; intro A9 c9 w9 h9 hg9 hb9; have b9 := b4.trans hb9)
          | (refine step_appPs _ rfl (.tmp 56) (.tmp 60) rfl w1.heap.size A4 k c4 ([] ++ ps.take k) (by simp [Act.eval]) h4 b4.size (by omega) ⟨w1.heap.size, 0, none⟩ [(t, m)] 1 1 (by simp [Act.eval]) rfl (by omega) p4 (k + 1) (by omega) ?_; intro A9 c9 w9 h9 hg9 hb9; have b9 := b4.trans hb9)
          | (refine step_appPs _ rfl (.tmp 61) (.tmp 64) rfl w1.heap.size A9 (k + 1) c9 ([] ++ ps.take k ++ [(t, m)]) (by simp [Act.eval]) h9 b9.size (by omega) (ad.add (k * 2)) (ps.drop k) (ps.length - k) (c - k) (by simp [Act.eval]) L2.out (by omega) ((hP.below b9).drop k) (ps.length + 1) (by omega) ?_; intro A13 c13 w13 h13 hg13 hb13))
        all_goals
          obtain ⟨g, rfl, _, _⟩ := h13.form (by omega)
          go_wp2
          go_ret
          exact ⟨g, _, c13, _, rfl, by omega, h13.mono hb1.size, hb1.trans ((b9.trans hb13).mono hb1.size)⟩
/-- It returns new piles and a truth. -/
def SomePB (w : World) (N : Nat) (e : Ending) (w' : World) : Prop := ∃ g n c ps b, e = .returned (.tuple #[.slice (some ⟨g, 0, none⟩) n c, .bool b]) ∧ n ≤ N ∧ OwnP w' w.heap.size (some ⟨g, 0, none⟩) n c ps ∧ Below w.heap.size w w'
set_option maxRecDepth 100000 in
theorem somePB_empty {w w' : World} (hb : Below w.heap.size w w') (N : Nat) : SomePB w N (.returned (.tuple #[.slice (some ⟨w'.heap.size, 0, none⟩) 0 0, .bool false])) (w'.alloc (.cells #[] 70)) :=
  ⟨_, 0, 0, [], false, rfl, by omega, OwnP.empty w' hb.size, hb.alloc hb.size _⟩
set_option maxRecDepth 100000 in
set_option maxHeartbeats 1600000 in
theorem specPilesAdd_any (ad : Addr) (ps : List (ByteArray × Int)) (c : Nat) (t : ByteArray) (m : Int) (w : World) (h : PilesI w (some ad) ps) (hl : ps.length ≤ 900) (hcap : ps.length ≤ c) (ht : t.size ≤ 1048576) :
    Calls Try.prog 72 #[.slice (some ad) ps.length c, .string t, .int .i64 m] w (SomePB w (ps.length + 1)) := by
  have cV := Lib.hid (specPilesValid_any (some ad) ps c w h (by omega))
  cases hv : psv ps
  · rw [hv] at cV
    go_enter Try.func72, Try.ntmps72
    go_wp2_with (go_at_call 101; refine cV.out.mono ?_; rintro e w1 ⟨rfl, hb1⟩)
    go_ret2
    exact somePB_empty hb1 _
  · rw [hv] at cV
    have cL := Lib.hid (fun w => l3Pile_any t m w ht)
    cases hpv : pv (t, m)
    · rw [hpv] at cL
      go_enter Try.func72, Try.ntmps72
      go_wp2_with (first | (go_at_call 101; refine cV.out.mono ?_; rintro e w1 ⟨rfl, hb1⟩) | (go_at_call 102; refine (cL.out _).mono ?_; rintro e w2 ⟨rfl, hb2⟩))
      go_ret2
      exact somePB_empty (below_down hb1 hb2) _
    · rw [hpv] at cL
      go_enter Try.func72, Try.ntmps72
      go_wp2_with (first | (go_at_call 101; refine cV.out.mono ?_; rintro e w1 ⟨rfl, hb1⟩) | (go_at_call 102; refine (cL.out _).mono ?_; rintro e w2 ⟨rfl, hb2⟩))
      have hB2 := below_down hb1 hb2
      clear hb1 hb2 cV cL
      refine (l3Put_any ad ps c t m w2 (h.below hB2) (by omega) hcap ht).mono ?_
      rintro e w3 ⟨g, n, c3, qs, rfl, hn, ho, hb3⟩
      have hB3 := below_down hB2 hb3
      have ho := ho.mono hB2.size
      have hql := ho.len
      have cV := Lib.hid (specPilesValid_any (some ⟨g, 0, none⟩) qs c3 w3 ho.piles (by omega))
      rw [hql] at cV
      clear hql hB2 hb3
      cases hv2 : psv qs
      · rw [hv2] at cV
        go_wp2_with (go_at_call 101; refine cV.out.mono ?_; rintro e w4 ⟨rfl, hb4⟩)
        go_ret2
        exact somePB_empty (below_down hB3 hb4) _
      · rw [hv2] at cV
        go_wp2_with (go_at_call 101; refine cV.out.mono ?_; rintro e w4 ⟨rfl, hb4⟩)
        go_ret2
        exact ⟨g, n, c3, qs, true, rfl, hn, ho.below hb4, below_down hB3 hb4⟩
end Go.Proofs.Ytiinfbjlkbjmmaa
/-
  Piles that are drawn.
-/
namespace Go.Proofs.Ytiinfbjlkbjmmaa
open Go.RowKit
/-- Piles are drawn. -/
def DrawnP (w : World) (rb p : Nat) (e : Ending) (w' : World) : Prop :=
  ∃ (A : Option Addr) (n c : Nat) (ps : List (ByteArray × Int)) (p' : Nat), e = .returned (.slice A n c) ∧ n ≤ 60 ∧ OwnP w' w.heap.size A n c ps ∧ p' ≤ p + 4000 ∧ Rd w' rb p' ∧ Dr rb w w'
set_option maxRecDepth 100000 in
theorem OwnP.dr {rb : Nat} {w w' : World} {base : Nat} {A : Option Addr} {n c : Nat} {ps : List (ByteArray × Int)} (h : OwnP w base A n c ps) (hd : Dr rb w w') (hr : rb < base) : OwnP w' base A n c ps :=
  h.btw hd (fun k hk => by have := h.block k hk; omega)
set_option maxRecDepth 100000 in
theorem small10 {s : ByteArray} (h : s.size ≤ 10) : s.size ≤ 1048576 := by omega
end Go.Proofs.Ytiinfbjlkbjmmaa
