/-
  The laws' own functions on piles: sizes, copies, comparisons, marks.
-/
import Derived.Test.YtiinfbjlkbjmmaaQBal
import Derived.Test.YtiinfbjlkbjmmaaQCopy
import Derived.Test.YtiinfbjlkbjmmaaQHeld
import Derived.Test.YtiinfbjlkbjmmaaQTraP
import Derived.Laws.BytesArg
namespace Go.Proofs.Ytiinfbjlkbjmmaa
open Go.RowKit
/-- The argument at A reads as ps. -/
structure PilesL (w : World) (A : Option Addr) (ps : List (ByteArray × Int)) : Prop where
  len : ps.length ≤ maxLen
  big : ∀ p ∈ ps, p.1.size ≤ maxLen
  read : 0 < ps.length → ∃ ad, A = some ad ∧ ∀ j p, ps[j]? = some p → w.cell? (ad.add (j * 2)) = some (.string p.1) ∧ w.cell? (ad.add (j * 2 + 1)) = some (.int .i64 p.2)
section
variable {w w' : World} {A : Option Addr} {ps : List (ByteArray × Int)}
set_option maxRecDepth 100000 in
theorem PilesL.at_ (h : PilesL w A ps) {k : Nat} (hk : k < ps.length) :
    ∃ ad s m, A = some ad ∧ Hid (ps[k]? = some (s, m)) ∧ s.size ≤ maxLen ∧ w.cell? (ad.add (k * 2)) = some (.string s) ∧ w.cell? ⟨(ad.add (k * 2)).block, (ad.add (k * 2)).off + 1, none⟩ = some (.int .i64 m) := by
  obtain ⟨ad, e, hc⟩ := h.read (by omega)
  obtain ⟨h1, h2⟩ := hc k ps[k] (List.getElem?_eq_getElem hk)
  exact ⟨ad, ps[k].1, ps[k].2, e, List.getElem?_eq_getElem hk, h.big _ (List.getElem_mem hk), h1, (add_two ad (k * 2) 1).symm ▸ h2⟩
set_option maxRecDepth 100000 in
theorem PilesL.below (h : PilesL w A ps) (hb : Below w.heap.size w w') : PilesL w' A ps := by
  refine ⟨h.len, h.big, fun hn => ?_⟩
  obtain ⟨ad, e, hc⟩ := h.read hn
  refine ⟨ad, e, fun j p hp => ?_⟩
  obtain ⟨h1, h2⟩ := hc j p hp
  exact ⟨cell_below hb h1, cell_below hb h2⟩
set_option maxRecDepth 100000 in
theorem PilesL.drewN (h : PilesL w A ps) (n : Nat) : PilesL (w.drewN n) A ps := ⟨h.len, h.big, h.read⟩
set_option maxRecDepth 100000 in
theorem PilesL.nil (w : World) (A : Option Addr) : PilesL w A [] := ⟨by simp, by simp, fun h => absurd h (by simp)⟩
set_option maxRecDepth 100000 in
theorem PilesL.piles (h : PilesL w A ps) (hs : ∀ p ∈ ps, p.1.size ≤ 1048576) : PilesI w A ps := ⟨hs, h.read⟩
end
/-- How much the texts of piles hold. -/
def szT (ps : List (ByteArray × Int)) : Nat := (ps.map fun p => p.1.size).sum
def szP (ps : List (ByteArray × Int)) : Nat := ps.length + szT ps
set_option maxRecDepth 100000 in
theorem szT_take {ps : List (ByteArray × Int)} {k : Nat} {s : ByteArray} {m : Int} (h : ps[k]? = some (s, m)) : szT (ps.take (k + 1)) = szT (ps.take k) + s.size := by
  unfold szT
  rw [take_snoc ps k (s, m) h, List.map_append, List.sum_append]
  simp
set_option maxRecDepth 100000 in
theorem szT_take_le (ps : List (ByteArray × Int)) (k : Nat) : szT (ps.take k) ≤ szT ps := by
  have h2 : szT ps = szT (ps.take k) + szT (ps.drop k) := by
    unfold szT
    rw [← List.sum_append, ← List.map_append, List.take_append_drop]
  omega
set_option maxRecDepth 100000 in
theorem szT_mem {ps : List (ByteArray × Int)} : ∀ p ∈ ps, p.1.size ≤ szT ps := by
  intro p hp
  induction ps with
  | nil => cases hp
  | cons a t ih =>
    unfold szT at ih ⊢
    simp only [List.map_cons, List.sum_cons]
    rcases List.mem_cons.1 hp with rfl | hp
    · omega
    · have := ih hp; omega
def szR (L n : Nat) : Int := if n ≤ L then (L : Int) - n else -1
set_option maxRecDepth 100000 in
theorem szR_t {L n : Nat} (h : n ≤ L) : szR L n = ((L - n : Nat) : Int) := by unfold szR; rw [if_pos h]; omega
set_option maxRecDepth 100000 in
theorem szR_f {L n : Nat} (h : L < n) : szR L n = -1 := by unfold szR; rw [if_neg (by omega)]
set_option maxRecDepth 100000 in
set_option maxHeartbeats 400000 in
theorem szPile_any (s : ByteArray) (m : Int) (L : Nat) (w : World) (hs : s.size ≤ maxLen) (hL : L ≤ 1048576) :
    Calls Try.prog 36 #[.agg #[.string s, .int .i64 m], .int .i64 L] w (Bl w (.int .i64 (szR L s.size))) := by
  unfold maxLen at hs
  by_cases h : s.size ≤ L
  · have HR := Lib.hid (szR_t h)
    obtain ⟨r, hr, hr0⟩ : ∃ r : Nat, (L : Int) - (s.size : Int) = (r : Int) ∧ Hid (r = L - s.size) := ⟨L - s.size, by omega, rfl⟩
    go_enter Try.func36, Try.ntmps36
    go_wp2
    go_ret
    exact ⟨ret_int (by rw [HR.out, hr0.out]), (Below.refl _ _).alloc (Nat.le_refl _) _⟩
  · have HR := Lib.hid (szR_f (show L < s.size by omega))
    obtain ⟨r, hr, hr0⟩ : ∃ r : Int, (L : Int) - (s.size : Int) = r ∧ (r < 0 ∧ -9223372036854775808 ≤ r) := ⟨_, rfl, by omega, by omega⟩
    clear h
    go_enter Try.func36, Try.ntmps36
    go_wp2
    go_ret
    exact ⟨ret_int (by rw [HR.out]), (Below.refl _ _).alloc (Nat.le_refl _) _⟩
set_option maxRecDepth 100000 in
set_option maxHeartbeats 800000 in
theorem szPileS_any (A : Option Addr) (ps : List (ByteArray × Int)) (c L : Nat) (w : World) (h : PilesL w A ps) (hL : L ≤ 1048576) :
    Calls Try.prog 8 #[.slice A ps.length c, .int .i64 L] w (Bl w (.int .i64 (szR L (szP ps)))) := by
  have hm := h.len
  unfold maxLen at hm
  by_cases hn : ps.length ≤ L
  · obtain ⟨r, hr, hr0⟩ : ∃ r : Nat, (L : Int) - (ps.length : Int) = (r : Int) ∧ Hid (r = L - ps.length) := ⟨L - ps.length, by omega, rfl⟩
    go_enter Try.func8, Try.ntmps8
    go_wp2
    go_loopw [1, 5] (fun l i wr => ∃ (k t : Nat), k ≤ ps.length ∧ i = .int .i64 k ∧ l = .int .i64 t ∧ t + ps.length + szT (ps.take k) = L ∧ Below w.heap.size w wr) (fun _ i _ => ps.length - (intOf i).toNat)
    case atStart => exact ⟨0, r, by omega, rfl, rfl, by have := hr0.out; simp [szT]; omega, Below.refl _ _⟩
    case round =>
      obtain ⟨k, t, hk, rfl, rfl, ht, hbel⟩ := hrel
      by_cases hlt : k < ps.length
      · obtain ⟨ad, s, m, rfl, hp, hs, hc0, hc1⟩ := (h.below hbel).at_ hlt
        have cS := Lib.hid (fun w => szPile_any s m t w hs (by omega))
        have hsn := szT_take hp.out
        have hle := szT_take_le ps (k + 1)
        by_cases hst : s.size ≤ t
        · rw [szR_t hst] at cS
          go_wp2_with fail
          refine (cS.out _).mono ?_
          rintro e w2 ⟨rfl, hb2⟩
          go_wp2
          go_roundw
          case rel => exact ⟨k + 1, t - s.size, by omega, by go_num, rfl, by omega, below_down hbel hb2⟩
          case measure => simp [intOf]; omega
        · rw [szR_f (by omega)] at cS
          have HR := Lib.hid (szR_f (show L < szP ps by unfold szP; omega))
          clear hst
          go_wp2_with fail
          refine (cS.out _).mono ?_
          rintro e w2 ⟨rfl, hb2⟩
          go_wp2
          go_ret
          exact ⟨ret_int (by rw [HR.out]), below_down hbel hb2⟩
      · obtain rfl : k = ps.length := by omega
        rw [List.take_length] at ht
        have HR := Lib.hid (szR_t (show szP ps ≤ L by unfold szP; omega))
        have ht2 := Lib.hid (show t = L - szP ps by unfold szP; omega)
        clear hlt
        go_wp2
        go_ret
        exact ⟨ret_int (by rw [HR.out, ht2.out]), hbel⟩
  · have HR := Lib.hid (szR_f (show L < szP ps by unfold szP; omega))
    obtain ⟨r, hr, hr0⟩ : ∃ r : Int, (L : Int) - (ps.length : Int) = r ∧ (r < 0 ∧ -9223372036854775808 ≤ r) := ⟨_, rfl, by omega, by omega⟩
    clear hn
    go_enter Try.func8, Try.ntmps8
    go_wp2
    go_ret
    exact ⟨ret_int (by rw [HR.out]), Below.refl _ _⟩
set_option maxRecDepth 100000 in
set_option maxHeartbeats 400000 in
theorem toPile_any (s : ByteArray) (m : Int) (w : World) : Calls Try.prog 39 #[.agg #[.string s, .int .i64 m]] w (Bl w (.agg #[.string s, .int .i64 m])) := by
  go_enter Try.func39, Try.ntmps39
  go_wp2
  (try simp only [Exit.inBlock, Exit.then])
  refine bodyPost_ret (v := .agg #[.string s, .int .i64 m]) ?_ rfl ⟨rfl, (((Below.refl _ w).alloc (Nat.le_refl _) _).alloc (by simp) _).alloc (by simp; omega) _⟩
  simp [results, Try.f39]
  go_simp
set_option maxRecDepth 100000 in
/-- 'make([]Pile, n)'. -/
theorem wpList_makeP (w : World) {ops : Array Oper} {rest : List Oper} {o : Oper} {a : Act} {Q : Exit → Act → World → Prop}
    (hg : o.guard = none) (l c : Operand) (hop : o.op = Op.makeSlice 28 l c) (n : Nat) (hl : a.eval l = .int .i64 n) (hc : a.eval c = .int .i64 n) (hn : n ≤ 1048576)
    (hK : ∀ w', OwnP w' w.heap.size (some ⟨w.heap.size, 0, none⟩) n n (List.replicate n (⟨#[]⟩, 0)) → Below w.heap.size w w' → wpList Try.prog ops Q rest (a.put o.dst (.slice (some ⟨w.heap.size, 0, none⟩) n n)) w') :
    wpList Try.prog ops Q (o :: rest) a w := by
  obtain ⟨i0, hi, hz0, hz1, hz2⟩ := info_parts infoPile
  refine wpList_make_full w hg l c 28 hop w.heap.size 70 i0 _ 2 Try.underlying28 hi hz0 hz1 .i64 .i64 n n n hl hc rfl rfl (by rw [hz2]; omega) (by simp only [maxLen]; omega) (Nat.le_refl _) ?_
  intro w' hown hgr
  have e : (madeCells (Value.agg #[.string ⟨#[]⟩, .int .i64 0]).cells (n * 2)).toList = pcs (List.replicate n (⟨#[]⟩, 0)) := by
    apply List.ext_getElem?
    intro j
    by_cases hj : j < n * 2
    · have hk : j / 2 < (List.replicate n ((⟨#[]⟩, 0) : ByteArray × Int)).length := by simp; omega
      obtain ⟨a1, a2⟩ := pcs_at (List.getElem?_eq_getElem hk)
      simp only [madeCells, Value.cells]
      rcases (show j % 2 = 0 ∨ j % 2 = 1 by omega) with e | e
      · rw [show j / 2 * 2 = j by omega] at a1
        rw [a1]
        simp [hj, e]
      · rw [show j / 2 * 2 + 1 = j by omega] at a2
        rw [a2]
        simp [hj, e]
    · rw [List.getElem?_eq_none (by rw [Array.length_toList, size_madeCells]; omega), List.getElem?_eq_none (by rw [pcs_len, List.length_replicate]; omega)]
  rw [e] at hown
  exact hK w' ⟨by simp, fun p hp => by rw [(List.mem_replicate.1 hp).2]; show (0 : Nat) ≤ 1048576; omega, hown⟩ ⟨hgr.os, hgr.tape, hgr.output, hgr.size, fun k hk => hgr.block k hk (by simp)⟩
set_option maxRecDepth 100000 in
theorem pcs_set (ps : List (ByteArray × Int)) (k : Nat) (p : ByteArray × Int) : ((pcs ps).set (k * 2) (.string p.1)).set (k * 2 + 1) (.int .i64 p.2) = pcs (ps.set k p) := by
  induction ps generalizing k with
  | nil => simp [pcs]
  | cons q t ih =>
    have e : ∀ (q : ByteArray × Int) t, pcs (q :: t) = .string q.1 :: .int .i64 q.2 :: pcs t := fun _ _ => rfl
    cases k with
    | zero => rw [e]; simp [e]
    | succ k =>
      rw [e, show (k + 1) * 2 = k * 2 + 1 + 1 by omega, List.set_cons_succ, List.set_cons_succ, List.set_cons_succ, List.set_cons_succ, ih k]
      rfl
set_option maxRecDepth 100000 in
theorem OwnP.set {w : World} {base n c g : Nat} {ps : List (ByteArray × Int)} (h : OwnP w base (some ⟨g, 0, none⟩) n c ps) (k : Nat) (p : ByteArray × Int) (hp : p.1.size ≤ 1048576) : OwnP ((w.setCell ⟨g, k * 2, none⟩ (.string p.1)).setCell ⟨g, k * 2 + 1, none⟩ (.int .i64 p.2)) base (some ⟨g, 0, none⟩) n c (ps.set k p) := by
  refine ⟨by rw [List.length_set]; exact h.len, fun q hq => ?_, ?_⟩
  · rcases List.mem_or_eq_of_mem_set hq with hq | rfl
    · exact h.small q hq
    · exact hp
  have h1 := (World.ownsRow.stored h.row (k * 2) (.string p.1)).1
  have h2 := (World.ownsRow.stored h1 (k * 2 + 1) (.int .i64 p.2)).1
  rw [pcs_set] at h2
  exact h2
set_option maxRecDepth 100000 in
theorem OwnP.cell {w : World} {base n c g : Nat} {ps : List (ByteArray × Int)} (h : OwnP w base (some ⟨g, 0, none⟩) n c ps) {k : Nat} {p : ByteArray × Int} (hf : ps[k]? = some p) : w.cell? ⟨g, k * 2, none⟩ = some (.string p.1) ∧ w.cell? ⟨g, k * 2 + 1, none⟩ = some (.int .i64 p.2) := by
  obtain ⟨h1, h2⟩ := pcs_at hf
  have e1 := World.ownsRow.cells h.row (g := g) rfl _ _ h1
  have e2 := World.ownsRow.cells h.row (g := g) rfl _ _ h2
  rw [add_row] at e1 e2
  exact ⟨e1, e2⟩
set_option maxRecDepth 100000 in
theorem OwnP.frozen {w : World} {base n c g : Nat} {ps : List (ByteArray × Int)} (h : OwnP w base (some ⟨g, 0, none⟩) n c ps) (k : Nat) : w.frozen? ⟨g, k, none⟩ = false := World.ownsRow.frozenAt h.row k
/-- The first k of ps, the others empty. -/
def fillP (ps : List (ByteArray × Int)) (k : Nat) : List (ByteArray × Int) := ps.take k ++ List.replicate (ps.length - k) (⟨#[]⟩, 0)
set_option maxRecDepth 100000 in
theorem fillP_zero (ps : List (ByteArray × Int)) : fillP ps 0 = List.replicate ps.length (⟨#[]⟩, 0) := by simp [fillP]
set_option maxRecDepth 100000 in
theorem fillP_at (ps : List (ByteArray × Int)) {k : Nat} (hk : k < ps.length) : (fillP ps k)[k]? = some (⟨#[]⟩, 0) := by
  unfold fillP
  rw [List.getElem?_append_right (by rw [List.length_take]; omega), List.length_take, Nat.min_eq_left (by omega), Nat.sub_self, List.getElem?_replicate, if_pos (by omega)]
set_option maxRecDepth 100000 in
theorem fillP_set (ps : List (ByteArray × Int)) {k : Nat} {p : ByteArray × Int} (h : ps[k]? = some p) : (fillP ps k).set k p = fillP ps (k + 1) := by
  have hk := (List.getElem?_eq_some_iff.1 h).1
  unfold fillP
  rw [List.set_append_right _ _ (by simp; omega), List.length_take, Nat.min_eq_left (by omega), Nat.sub_self, take_snoc ps k p h]
  obtain ⟨m, hm⟩ : ∃ m, ps.length - k = m + 1 := ⟨ps.length - k - 1, by omega⟩
  rw [hm, show ps.length - (k + 1) = m from by omega, List.replicate_succ]
  simp
set_option maxRecDepth 100000 in
theorem fillP_all (ps : List (ByteArray × Int)) : fillP ps ps.length = ps := by simp [fillP]
/-- It returns a new slice of piles. -/
def NewPi (w : World) (ps : List (ByteArray × Int)) (e : Ending) (w' : World) : Prop := ∃ A c, e = .returned (.slice A ps.length c) ∧ OwnP w' w.heap.size A ps.length c ps ∧ Below w.heap.size w w'
set_option maxRecDepth 100000 in
set_option maxHeartbeats 800000 in
theorem toPileS_any (A : Option Addr) (ps : List (ByteArray × Int)) (c : Nat) (w : World) (h : PilesI w A ps) (hl : ps.length ≤ 1048576) :
    Calls Try.prog 11 #[.slice A ps.length c] w (NewPi w ps) := by
  go_enter Try.func11, Try.ntmps11
  go_wp2_with (at_make; refine wpList_makeP _ rfl _ _ rfl ps.length rfl rfl (by omega) ?_; intro w1 hown hb)
  go_loopw [4] (fun i wr => ∃ k : Nat, k ≤ ps.length ∧ i = .int .i64 k ∧ OwnP wr w.heap.size (some ⟨w.heap.size, 0, none⟩) ps.length ps.length (fillP ps k) ∧ Below w.heap.size w wr) (fun i _ => ps.length - (intOf i).toNat)
  case atStart => exact ⟨0, by omega, rfl, by rw [fillP_zero]; exact hown, hb⟩
  case round =>
    clear hown hb
    obtain ⟨k, hk, rfl, hown, hbel⟩ := hrel
    by_cases hlt : k < ps.length
    · obtain ⟨ad, s, m, rfl, hp, hs, hc0, hc1⟩ := (h.below hbel).at_ hlt
      go_wp2_with fail
      refine (toPile_any s m _).mono ?_
      rintro e w2 ⟨rfl, hb2⟩
      have hown2 := hown.below hb2
      have hB2 := below_down hbel hb2
      obtain ⟨e1, e2⟩ := hown2.cell (fillP_at ps hlt)
      have f1 := hown2.frozen (k * 2)
      have f2 := hown2.frozen (k * 2 + 1)
      clear hown hbel hb2 hc0 hc1
      go_wp2
      go_roundw
      case rel => exact ⟨k + 1, by omega, by go_num, (hown2.set k (s, m) hs).congr (fillP_set ps hp.out), (hB2.setCell (Nat.le_refl _) _).setCell (Nat.le_refl _) _⟩
      case measure => simp [intOf]; omega
    · obtain rfl : k = ps.length := by omega
      clear hlt
      go_wp2
      go_ret
      exact ⟨_, _, rfl, hown.congr (fillP_all ps), hbel⟩
set_option maxRecDepth 100000 in
set_option maxHeartbeats 400000 in
theorem eqPile_any (s : ByteArray) (m : Int) (w : World) : Calls Try.prog 44 #[.agg #[.string s, .int .i64 m], .agg #[.string s, .int .i64 m]] w (Bl w (.bool true)) := by
  go_enter Try.func44, Try.ntmps44
  go_wp2
  go_ret
  exact ⟨rfl, ((Below.refl _ w).alloc (Nat.le_refl _) _).alloc (by simp) _⟩
set_option maxRecDepth 100000 in
set_option maxHeartbeats 800000 in
theorem eqPileS_any (A A' : Option Addr) (ps : List (ByteArray × Int)) (c c' : Nat) (w : World) (h : PilesI w A ps) (h' : PilesI w A' ps) (hl : ps.length ≤ 1048576) :
    Calls Try.prog 15 #[.slice A ps.length c, .slice A' ps.length c'] w (Bl w (.bool true)) := by
  go_enter Try.func15, Try.ntmps15
  go_wp2
  go_loopw [5] (fun i wr => ∃ k : Nat, k ≤ ps.length ∧ i = .int .i64 k ∧ Below w.heap.size w wr) (fun i _ => ps.length - (intOf i).toNat)
  case atStart => exact ⟨0, by omega, rfl, Below.refl _ _⟩
  case round =>
    obtain ⟨k, hk, rfl, hbel⟩ := hrel
    by_cases hlt : k < ps.length
    · obtain ⟨ad, s, m, rfl, hp, hs, hc0, hc1⟩ := (h.below hbel).at_ hlt
      obtain ⟨ad', s', m', rfl, hp', hs', hd0, hd1⟩ := (h'.below hbel).at_ hlt
      have e := hp.out.symm.trans hp'.out
      injection e with e
      injection e with e1 e2
      subst e1
      subst e2
      have hk0 : (0 : Int) ≤ (k : Int) := by omega
      have hk1 : (k : Int) < (ps.length : Int) := by omega
      go_wp2
      refine wp_region_X (fun w' => w'.cell? (ad.add (k * 2)) = some (.string s) ∧ w'.cell? ⟨(ad.add (k * 2)).block, (ad.add (k * 2)).off + 1, none⟩ = some (.int .i64 m) ∧ w'.cell? (ad'.add (k * 2)) = some (.string s) ∧ w'.cell? ⟨(ad'.add (k * 2)).block, (ad'.add (k * 2)).off + 1, none⟩ = some (.int .i64 m) ∧ Below w.heap.size w w') 1000 (by kernel_rfl) ?_ (fun hS => ?_)
      · exact ⟨cell_drew hc0, cell_drew hc1, cell_drew hd0, cell_drew hd1, hbel.drew⟩
      refine wpAnyX_take (i := 0) (oi := ⟨some 17, _, _, _, _, _⟩) (v := ?_) rfl (by kernel_rfl) (by kernel_rfl) (by kernel_rfl) (by kernel_rfl) (fun _ _ _ h => h) (Or.inl ⟨by kernel_rfl, ?_⟩) hS ?_
      rotate_left
      · intro w hSw
        try dsimp only at hSw
        go_simp
        try with_reducible rfl
      try simp only [Act.put, List.setIfInBounds_toArray, List.set_cons_zero, List.set_cons_succ]
      refine wpAnyX_take (i := 1) (oi := ⟨some 18, _, _, _, _, _⟩) (v := ?_) rfl (by kernel_rfl) (by kernel_rfl) (by kernel_rfl) (by kernel_rfl) (fun _ _ _ h => h) (Or.inl ⟨by kernel_rfl, ?_⟩) hS ?_
      rotate_left
      · intro w hSw
        try dsimp only at hSw
        go_simp
        try with_reducible rfl
      try simp only [Act.put, List.setIfInBounds_toArray, List.set_cons_zero, List.set_cons_succ]
      refine wpAnyX_take (i := 2) (oi := ⟨some 19, _, _, _, _, _⟩) (v := ?_) rfl (by kernel_rfl) (by kernel_rfl) (by kernel_rfl) (by kernel_rfl) (fun _ _ _ h => h) (Or.inl ⟨by kernel_rfl, ?_⟩) hS ?_
      rotate_left
      · intro w hSw
        try dsimp only at hSw
        go_simp
        try with_reducible rfl
      try simp only [Act.put, List.setIfInBounds_toArray, List.set_cons_zero, List.set_cons_succ]
      refine wpAnyX_take (i := 3) (oi := ⟨some 20, _, _, _, _, _⟩) (v := ?_) rfl (by kernel_rfl) (by kernel_rfl) (by kernel_rfl) (by kernel_rfl) (fun _ _ _ h => h) (Or.inl ⟨by kernel_rfl, ?_⟩) hS ?_
      rotate_left
      · intro w hSw
        try dsimp only at hSw
        go_simp
        try with_reducible rfl
      try simp only [Act.put, List.setIfInBounds_toArray, List.set_cons_zero, List.set_cons_succ]
      refine wpAnyX_take (i := 4) (oi := ⟨some 21, _, _, _, _, _⟩) (v := ?_) rfl (by kernel_rfl) (by kernel_rfl) (by kernel_rfl) (by kernel_rfl) (fun _ _ _ h => h) (Or.inl ⟨by kernel_rfl, ?_⟩) hS ?_
      rotate_left
      · intro w hSw
        try dsimp only at hSw
        go_simp
        try with_reducible rfl
      try simp only [Act.put, List.setIfInBounds_toArray, List.set_cons_zero, List.set_cons_succ]
      refine wpAnyX_take (i := 5) (oi := ⟨some 22, _, _, _, _, _⟩) (v := ?_) rfl (by kernel_rfl) (by kernel_rfl) (by kernel_rfl) (by kernel_rfl) (fun _ _ _ h => h) (Or.inl ⟨by kernel_rfl, ?_⟩) hS ?_
      rotate_left
      · intro w hSw
        try dsimp only at hSw
        go_simp
        try with_reducible rfl
      try simp only [Act.put, List.setIfInBounds_toArray, List.set_cons_zero, List.set_cons_succ]
      refine wpAnyX_take (i := 6) (oi := ⟨some 23, _, _, _, _, _⟩) (v := ?_) rfl (by kernel_rfl) (by kernel_rfl) (by kernel_rfl) (by kernel_rfl) (fun _ _ _ h => h) (Or.inl ⟨by kernel_rfl, ?_⟩) hS ?_
      rotate_left
      · intro w hSw
        try dsimp only at hSw
        go_simp
        try with_reducible rfl
      try simp only [Act.put, List.setIfInBounds_toArray, List.set_cons_zero, List.set_cons_succ]
      refine wpAnyX_take (i := 7) (oi := ⟨some 24, _, _, _, _, _⟩) (v := ?_) rfl (by kernel_rfl) (by kernel_rfl) (by kernel_rfl) (by kernel_rfl) (fun _ _ _ h => h) (Or.inl ⟨by kernel_rfl, ?_⟩) hS ?_
      rotate_left
      · intro w hSw
        try dsimp only at hSw
        go_simp
        try with_reducible rfl
      try simp only [Act.put, List.setIfInBounds_toArray, List.set_cons_zero, List.set_cons_succ]
      refine wpAnyX_ready (rs := [8]) (by kernel_rfl) (by simp) ?_
      refine AllReadyX.cons (o := ⟨some 25, _, _, _, _, _⟩) rfl (fun K hK => ?_) AllReadyX.nil
      go_simp
      (go_at_call 44; refine (eqPile_any s m _).mono ?_; rintro e w2 ⟨rfl, hb2⟩)
      have hS0 := hS
      clear hS
      refine hK.out _ _ (fun _ => ⟨cell_below hb2 hS0.1, cell_below hb2 hS0.2.1, cell_below hb2 hS0.2.2.1, cell_below hb2 hS0.2.2.2.1, below_down hS0.2.2.2.2 hb2⟩) (fun hS => ?_)
      replace hS := hS (by kernel_rfl)
      clear hK K hS0
      try simp only [Act.put, List.setIfInBounds_toArray, List.set_cons_zero, List.set_cons_succ]
      refine wpAnyX_take (i := 9) (oi := ⟨some 26, _, _, _, _, _⟩) (v := ?_) rfl (by kernel_rfl) (by kernel_rfl) (by kernel_rfl) (by kernel_rfl) (fun _ _ _ h => h) (Or.inl ⟨by kernel_rfl, ?_⟩) hS ?_
      rotate_left
      · intro w hSw
        try dsimp only at hSw
        go_simp
        try with_reducible rfl
      try simp only [Act.put, List.setIfInBounds_toArray, List.set_cons_zero, List.set_cons_succ]
      refine wpAnyX_done (by kernel_rfl) ?_ _
      go_wp2
      go_roundw
      case rel => exact ⟨k + 1, by omega, by go_num, hS.2.2.2.2⟩
      case measure => simp [intOf]; omega
    · obtain rfl : k = ps.length := by omega
      clear hlt
      go_wp2
      go_ret
      exact ⟨rfl, hbel⟩
set_option maxRecDepth 100000 in
set_option maxHeartbeats 800000 in
theorem markText_any (n : Nat) (w : World) (hn : n ≤ 100000000) : Calls Try.prog 64 #[.int .i64 n] w (fun e w' => ∃ s : ByteArray, e = .returned (.string s) ∧ Below w.heap.size w w') := by
  by_cases h0 : n = 0
  · subst h0
    go_enter Try.func64, Try.ntmps64
    go_wp2
    go_ret
    exact ⟨_, rfl, Below.refl _ _⟩
  go_enter Try.func64, Try.ntmps64
  go_wp2
  go_loopw [0, 3] (fun i o wr => ∃ (k : Nat) (s : ByteArray), k ≤ n ∧ i = .int .i64 k ∧ o = .string s ∧ s.size + k ≤ n ∧ Below w.heap.size w wr) (fun i _ _ => (intOf i).toNat)
  case atStart => exact ⟨n, _, by omega, rfl, rfl, by show 0 + n ≤ n; omega, Below.refl _ _⟩
  case round =>
    obtain ⟨k, s, hk, rfl, rfl, hsz, hbel⟩ := hrel
    by_cases hlt : 0 < k
    · obtain ⟨r, t1, hr⟩ : ∃ r : Nat, Int.tmod (k : Int) 10 = (r : Int) ∧ r < 10 := ⟨k % 10, rfl, Nat.mod_lt _ (by omega)⟩
      obtain ⟨d, t2, hd⟩ : ∃ d : Nat, Int.tdiv (k : Int) 10 = (d : Int) ∧ d < k := ⟨k / 10, rfl, by omega⟩
      have hcv := run_convert_bytes_arg (P := Try.prog) (wr.alloc (.cells #[.int .u8 (48 + (r : Int))] 5)) 37 5 Try.underlying37 Try.underlying5 wr.heap.size 0 1 1 [48 + (r : Int)] rfl (fun i hi => by
        obtain rfl : i = 0 := by omega
        exact cell_of_row _ wr.heap.size 0 #[.int .u8 (48 + (r : Int))] 5 (0, 0) (heap_alloc_new wr _)) 9 Try.underlying9
      have hone := Lib.hid (strOfNums_size [48 + (r : Int)])
      generalize strOfNums [48 + (r : Int)] = one at hcv hone
      have hone1 : one.size = 1 := by have := hone.out; simpa using this
      have hct : ¬ (9223372036854775807 < one.size + s.size) := by omega
      go_wp2
      go_roundw
      case rel => exact ⟨d, one ++ s, by omega, by go_num, by go_num, by rw [ByteArray.size_append]; omega, hbel.alloc hbel.size _⟩
      case measure => simp [intOf]; omega
    · obtain rfl : k = 0 := by omega
      clear hlt
      go_wp2
      go_ret
      exact ⟨_, rfl, hbel⟩
end Go.Proofs.Ytiinfbjlkbjmmaa
