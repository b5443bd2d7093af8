/-
  The laws' own functions on steps: sizes, copies, comparisons.
-/
import Derived.Test.YtiinfbjlkbjmmaaQExS
namespace Go.Proofs.Ytiinfbjlkbjmmaa
open Go.RowKit
set_option maxRecDepth 100000 in
set_option maxHeartbeats 400000 in
theorem szFracS_any (A : Option Addr) (n c L : Nat) (w : World) (hn : n ≤ maxLen) (hL : L ≤ 1048576) :
    Calls Try.prog 69 #[.slice A n c, .int .i64 L] w (Bl w (.int .i64 (szR L n))) := by
  unfold maxLen at hn
  by_cases h : n ≤ L
  · have HR := Lib.hid (szR_t h)
    obtain ⟨r, hr, hr0⟩ : ∃ r : Nat, (L : Int) - (n : Int) = (r : Int) ∧ Hid (r = L - n) := ⟨L - n, by omega, rfl⟩
    go_enter Try.func69, Try.ntmps69
    go_wp2
    go_ret
    exact ⟨ret_int (by rw [HR.out, hr0.out]), Below.refl _ _⟩
  · have HR := Lib.hid (szR_f (show L < n by omega))
    obtain ⟨r, hr, hr0⟩ : ∃ r : Int, (L : Int) - (n : Int) = r ∧ (r < 0 ∧ -9223372036854775808 ≤ r) := ⟨_, rfl, by omega, by omega⟩
    clear h
    go_enter Try.func69, Try.ntmps69
    go_wp2
    go_ret
    exact ⟨ret_int (by rw [HR.out]), Below.refl _ _⟩
set_option maxRecDepth 100000 in
set_option maxHeartbeats 400000 in
theorem szStep_any (B : Option Addr) (n c : Nat) (o t : Int) (L : Nat) (w : World) (hn : n ≤ maxLen) (hL : L ≤ 1048576) :
    Calls Try.prog 37 #[.agg #[.slice B n c, .int .i64 o, .int .i64 t], .int .i64 L] w (Bl w (.int .i64 (szR L n))) := by
  have cS := Lib.hid (fun w => szFracS_any B n c L w hn hL)
  by_cases h : n ≤ L
  · have e := szR_t h
    rw [e] at cS ⊢
    obtain ⟨r, hr⟩ : ∃ r : Nat, L - n = r := ⟨_, rfl⟩
    rw [hr] at cS ⊢
    clear e h hr
    go_enter Try.func37, Try.ntmps37
    go_wp2_with fail
    refine (cS.out _).mono ?_
    rintro e w2 ⟨rfl, hb2⟩
    go_wp2
    go_ret
    exact ⟨rfl, below_down ((Below.refl _ w).alloc (Nat.le_refl _) _) hb2⟩
  · have e := szR_f (show L < n by omega)
    rw [e] at cS ⊢
    clear e h
    go_enter Try.func37, Try.ntmps37
    go_wp2_with fail
    refine (cS.out _).mono ?_
    rintro e w2 ⟨rfl, hb2⟩
    go_wp2
    go_ret
    exact ⟨rfl, below_down ((Below.refl _ w).alloc (Nat.le_refl _) _) hb2⟩
set_option maxRecDepth 100000 in
set_option maxHeartbeats 800000 in
theorem szStepS_any (A : Option Addr) (ss : List Stz) (c L : Nat) (w : World) (h : StepsL w A ss) (hL : L ≤ 1048576) :
    Calls Try.prog 9 #[.slice A ss.length c, .int .i64 L] w (Bl w (.int .i64 (szR L (szS ss)))) := by
  have hm := h.len
  unfold maxLen at hm
  by_cases hn : ss.length ≤ L
  · obtain ⟨r, hr, hr0⟩ : ∃ r : Nat, (L : Int) - (ss.length : Int) = (r : Int) ∧ Hid (r = L - ss.length) := ⟨L - ss.length, by omega, rfl⟩
    go_enter Try.func9, Try.ntmps9
    go_wp2
    go_loopw [1, 5] (fun l i wr => ∃ (k t : Nat), k ≤ ss.length ∧ i = .int .i64 k ∧ l = .int .i64 t ∧ t + ss.length + szC (ss.take k) = L ∧ Below w.heap.size w wr) (fun _ i _ => ss.length - (intOf i).toNat)
    case atStart => exact ⟨0, r, by omega, rfl, rfl, by have := hr0.out; simp [szC]; omega, Below.refl _ _⟩
    case round =>
      obtain ⟨k, t, hk, rfl, rfl, ht, hbel⟩ := hrel
      by_cases hlt : k < ss.length
      · obtain ⟨ad, B, d, xs, o, u, rfl, hp, hs, hd, hF, hc0, hc1, hc2⟩ := (h.below hbel).at_ hlt
        have cS := Lib.hid (fun w => szStep_any B xs.length d o u t w hs (by omega))
        have hsn : szC (ss.take (k + 1)) = szC (ss.take k) + xs.length := szC_take hp.out
        have hle := szC_take_le ss (k + 1)
        clear hF
        by_cases hst : xs.length ≤ t
        · rw [szR_t hst] at cS
          go_wp2_with fail
          refine (cS.out _).mono ?_
          rintro e w2 ⟨rfl, hb2⟩
          go_wp2
          go_roundw
          case rel => exact ⟨k + 1, t - xs.length, by omega, by go_num, rfl, by omega, below_down hbel hb2⟩
          case measure => simp [intOf]; omega
        · rw [szR_f (by omega)] at cS
          have HR := Lib.hid (szR_f (show L < szS ss by unfold szS; omega))
          clear hst
          go_wp2_with fail
          refine (cS.out _).mono ?_
          rintro e w2 ⟨rfl, hb2⟩
          go_wp2
          go_ret
          exact ⟨ret_int (by rw [HR.out]), below_down hbel hb2⟩
      · obtain rfl : k = ss.length := by omega
        rw [List.take_length] at ht
        have HR := Lib.hid (szR_t (show szS ss ≤ L by unfold szS; omega))
        have ht2 := Lib.hid (show t = L - szS ss by unfold szS; omega)
        clear hlt
        go_wp2
        go_ret
        exact ⟨ret_int (by rw [HR.out, ht2.out]), hbel⟩
  · have HR := Lib.hid (szR_f (show L < szS ss by unfold szS; omega))
    obtain ⟨r, hr, hr0⟩ : ∃ r : Int, (L : Int) - (ss.length : Int) = r ∧ (r < 0 ∧ -9223372036854775808 ≤ r) := ⟨_, rfl, by omega, by omega⟩
    clear hn
    go_enter Try.func9, Try.ntmps9
    go_wp2
    go_ret
    exact ⟨ret_int (by rw [HR.out]), Below.refl _ _⟩
set_option maxRecDepth 100000 in
set_option maxHeartbeats 400000 in
theorem toFrac_any (x y : Int) (w : World) : Calls Try.prog 99 #[.agg #[.int .i64 x, .int .i64 y]] w (Bl w (.agg #[.int .i64 x, .int .i64 y])) := by
  go_enter Try.func99, Try.ntmps99
  go_wp2
  (try simp only [Exit.inBlock, Exit.then])
  refine bodyPost_ret (v := .agg #[.int .i64 x, .int .i64 y]) ?_ rfl ⟨rfl, (((Below.refl _ w).alloc (Nat.le_refl _) _).alloc (by simp) _).alloc (by simp; omega) _⟩
  simp [results, Try.f99]
  go_simp
/-- The first k of fs, the others empty. -/
def fillJ (fs : List (Int × Int)) (k : Nat) : List (Int × Int) := fs.take k ++ List.replicate (fs.length - k) (0, 0)
set_option maxRecDepth 100000 in
theorem fillJ_zero (ps : List (Int × Int)) : fillJ ps 0 = List.replicate ps.length (0, 0) := by simp [fillJ]
set_option maxRecDepth 100000 in
theorem fillJ_at (ps : List (Int × Int)) {k : Nat} (hk : k < ps.length) : (fillJ ps k)[k]? = some (0, 0) := by
  unfold fillJ
  rw [List.getElem?_append_right (by rw [List.length_take]; omega), List.length_take, Nat.min_eq_left (by omega), Nat.sub_self, List.getElem?_replicate, if_pos (by omega)]
set_option maxRecDepth 100000 in
theorem fillJ_set (ps : List (Int × Int)) {k : Nat} {p : Int × Int} (h : ps[k]? = some p) : (fillJ ps k).set k p = fillJ ps (k + 1) := by
  have hk := (List.getElem?_eq_some_iff.1 h).1
  unfold fillJ
  rw [List.set_append_right _ _ (by simp; omega), List.length_take, Nat.min_eq_left (by omega), Nat.sub_self, take_snoc ps k p h]
  obtain ⟨m, hm⟩ : ∃ m, ps.length - k = m + 1 := ⟨ps.length - k - 1, by omega⟩
  rw [hm, show ps.length - (k + 1) = m from by omega, List.replicate_succ]
  simp
set_option maxRecDepth 100000 in
theorem fillJ_all (ps : List (Int × Int)) : fillJ ps ps.length = ps := by simp [fillJ]
/-- It returns a new slice of fractions of any numbers. -/
def NewJ (w : World) (fs : List (Int × Int)) (e : Ending) (w' : World) : Prop := ∃ A c, e = .returned (.slice A fs.length c) ∧ OwnJ w' w.heap.size A fs.length c fs ∧ Below w.heap.size w w'
set_option maxRecDepth 100000 in
set_option maxHeartbeats 800000 in
theorem toFracS_any (A : Option Addr) (fs : List (Int × Int)) (c : Nat) (w : World) (h : FracsZ w A fs) (hl : fs.length ≤ 1048576) :
    Calls Try.prog 70 #[.slice A fs.length c] w (NewJ w fs) := by
  go_enter Try.func70, Try.ntmps70
  go_wp2_with (at_make; refine wpList_makeF _ rfl _ _ rfl fs.length rfl rfl (by omega) ?_; intro w1 hown hb)
  have hown := hown.j.congr (show _ = fillJ fs 0 by rw [fillJ_zero, List.map_replicate]; rfl)
  go_loopw [4] (fun i wr => ∃ k : Nat, k ≤ fs.length ∧ i = .int .i64 k ∧ OwnJ wr w.heap.size (some ⟨w.heap.size, 0, none⟩) fs.length fs.length (fillJ fs k) ∧ Below w.heap.size w wr) (fun i _ => fs.length - (intOf i).toNat)
  case atStart => exact ⟨0, by omega, rfl, hown, hb⟩
  case round =>
    clear hown hb
    obtain ⟨k, hk, rfl, hown, hbel⟩ := hrel
    by_cases hlt : k < fs.length
    · obtain ⟨ad, x, y, rfl, hp, hc0, hc1⟩ := (h.below hbel).at_ hlt
      go_wp2_with fail
      refine (toFrac_any x y _).mono ?_
      rintro e w2 ⟨rfl, hb2⟩
      have hown2 := hown.below hb2
      have hB2 := below_down hbel hb2
      obtain ⟨e1, e2⟩ := hown2.cell (fillJ_at fs hlt)
      have f1 := hown2.frozen (k * 2)
      have f2 := hown2.frozen (k * 2 + 1)
      clear hown hbel hb2 hc0 hc1
      go_wp2
      go_roundw
      case rel => exact ⟨k + 1, by omega, by go_num, (hown2.set k (x, y)).congr (fillJ_set fs hp.out), (hB2.setCell (Nat.le_refl _) _).setCell (Nat.le_refl _) _⟩
      case measure => simp [intOf]; omega
    · obtain rfl : k = fs.length := by omega
      clear hlt
      go_wp2
      go_ret
      exact ⟨_, _, rfl, hown.congr (fillJ_all fs), hbel⟩
/-- It returns a step with new counts. -/
def NewStep (w : World) (fs : List (Int × Int)) (o t : Int) (e : Ending) (w' : World) : Prop := ∃ B c, e = .returned (.agg #[.slice B fs.length c, .int .i64 o, .int .i64 t]) ∧ OwnJ w' w.heap.size B fs.length c fs ∧ Below w.heap.size w w'
set_option maxRecDepth 100000 in
set_option maxHeartbeats 800000 in
theorem toStep_any (B : Option Addr) (fs : List (Int × Int)) (d : Nat) (o t : Int) (w : World) (h : FracsZ w B fs) (hl : fs.length ≤ 1048576) :
    Calls Try.prog 40 #[.agg #[.slice B fs.length d, .int .i64 o, .int .i64 t]] w (NewStep w fs o t) := by
  have cS := Lib.hid (fun w (h : FracsZ w B fs) => toFracS_any B fs d w h hl)
  have h' := Lib.hid h
  go_enter Try.func40, Try.ntmps40
  go_wp2_with fail
  have hb0 := (((Below.refl w.heap.size w).alloc (Nat.le_refl _) (.cells #[.slice B fs.length d, .int .i64 o, .int .i64 t] 65)).alloc (by simp) (.cells #[.slice none 0 0, .int .i64 0, .int .i64 0] 68)).alloc (by simp; omega) (.cells #[.slice none 0 0, .int .i64 0, .int .i64 0] 68)
  have ha := ((ob0 w #[.slice B fs.length d, .int .i64 o, .int .i64 t] 65).alloc (.cells #[.slice none 0 0, .int .i64 0, .int .i64 0] 68)).alloc (.cells #[.slice none 0 0, .int .i64 0, .int .i64 0] 68)
  have hb := (ob1 w (.cells #[.slice B fs.length d, .int .i64 o, .int .i64 t] 65) #[.slice none 0 0, .int .i64 0, .int .i64 0] 68).alloc (.cells #[.slice none 0 0, .int .i64 0, .int .i64 0] 68)
  have hc := ob2 w (.cells #[.slice B fs.length d, .int .i64 o, .int .i64 t] 65) (.cells #[.slice none 0 0, .int .i64 0, .int .i64 0] 68) #[.slice none 0 0, .int .i64 0, .int .i64 0] 68
  refine (cS.out _ (h'.out.below hb0)).mono ?_
  rintro e w2 ⟨B2, d2, rfl, hO, hb2⟩
  have hB2 := hb0.trans (hb2.mono hb0.size)
  have ha2 := ha.below hb2
  have hb3 := hb.below hb2
  have hc2 := hc.below hb2
  have hO := hO.mono (b := w.heap.size + 3) (by simp)
  have a0 := ha2.cell 0 rfl
  have a1 := ha2.cell 1 rfl
  have a2 := ha2.cell 2 rfl
  have b0 := hb3.cell 0 rfl
  have b1 := hb3.cell 1 rfl
  have b2 := hb3.cell 2 rfl
  have c0 := hc2.cell 0 rfl
  have c1 := hc2.cell 1 rfl
  have c2 := hc2.cell 2 rfl
  have f0 := hb3.fz 0
  have f1 := hb3.fz 1
  have f2 := hb3.fz 2
  have g0 := hc2.fz 0
  have g1 := hc2.fz 1
  have g2 := hc2.fz 2
  have HO := Lib.hid hO
  have HB := Lib.hid hB2
  clear hb0 ha hb hc hb2 hO hB2 ha2 hb3 hc2 cS h' h
  go_wp2
  have q1 := grown_setCell (grown_setCell (grown_setCell (grown_refl w2 (some (w.heap.size + 1 + 1))) 0 (.slice B2 fs.length d2)) 1 (.int .i64 o)) 2 (.int .i64 t)
  have o1 := HO.out.grown q1 (fun k hk e => by injection hk with hk; have := (HO.out.block k e).1; omega)
  have q2 := grown_setCell (grown_setCell (grown_setCell (grown_refl (((w2.setCell ⟨w.heap.size + 1 + 1, 0, none⟩ (.slice B2 fs.length d2)).setCell ⟨w.heap.size + 1 + 1, 1, none⟩ (.int .i64 o)).setCell ⟨w.heap.size + 1 + 1, 2, none⟩ (.int .i64 t)) (some (w.heap.size + 1))) 0 (.slice B2 fs.length d2)) 1 (.int .i64 o)) 2 (.int .i64 t)
  have o2 := o1.grown q2 (fun k hk e => by injection hk with hk; have := (o1.block k e).1; omega)
  have x2 : w.heap.size ≤ w.heap.size + 1 + 1 := by omega
  have x1 : w.heap.size ≤ w.heap.size + 1 := by omega
  (try simp only [Exit.inBlock, Exit.then])
  refine bodyPost_ret (v := .agg #[.slice B2 fs.length d2, .int .i64 o, .int .i64 t]) ?_ rfl ⟨B2, d2, rfl, o2.mono (by omega), (((((HB.out.setCell x2 _).setCell x2 _).setCell x2 _).setCell x1 _).setCell x1 _).setCell x1 _⟩
  simp [results, Try.f40]
  go_simp
/-- The first k of ss, the others empty; where the counts lie is told by vs. -/
def emptyV : Vsz := (none, 0, [], 0, 0)
set_option maxRecDepth 100000 in
theorem infoStepM : True := trivial
set_option maxRecDepth 100000 in
/-- 'make([]Step, n)'. -/
theorem wpList_makeS (w : World) {ops : Array Oper} {rest : List Oper} {o : Oper} {a : Act} {Q : Exit → Act → World → Prop}
    (hg : o.guard = none) (l c : Operand) (hop : o.op = Op.makeSlice 31 l c) (n : Nat) (hl : a.eval l = .int .i64 n) (hc : a.eval c = .int .i64 n) (hn : n ≤ 1048576)
    (hK : ∀ w', OwnZ w' w.heap.size w.heap.size (some ⟨w.heap.size, 0, none⟩) n n (List.replicate n emptyV) → Below w.heap.size w w' → wpList Try.prog ops Q rest (a.put o.dst (.slice (some ⟨w.heap.size, 0, none⟩) n n)) w') :
    wpList Try.prog ops Q (o :: rest) a w := by
  obtain ⟨i0, hi, hz0, hz1, hz2⟩ := info_parts infoStep
  refine wpList_make_full w hg l c 31 hop w.heap.size 68 i0 _ 3 Try.underlying31 hi hz0 hz1 .i64 .i64 n n n hl hc rfl rfl (by rw [hz2]; omega) (by simp only [maxLen]; omega) (Nat.le_refl _) ?_
  intro w' hown hgr
  have e : (madeCells (Value.agg #[.slice none 0 0, .int .i64 0, .int .i64 0]).cells (n * 3)).toList = zcs (List.replicate n emptyV) := by
    apply List.ext_getElem?
    intro j
    by_cases hj : j < n * 3
    · have hk : j / 3 < (List.replicate n emptyV).length := by simp; omega
      obtain ⟨a1, a2, a3⟩ := zcs_at (List.getElem?_eq_getElem hk)
      simp only [madeCells, Value.cells]
      rcases (show j % 3 = 0 ∨ j % 3 = 1 ∨ j % 3 = 2 by omega) with e | e | e
      · rw [show j / 3 * 3 = j by omega] at a1
        rw [a1]
        simp [hj, e, emptyV]
      · rw [show j / 3 * 3 + 1 = j by omega] at a2
        rw [a2]
        simp [hj, e, emptyV]
      · rw [show j / 3 * 3 + 2 = j by omega] at a3
        rw [a3]
        simp [hj, e, emptyV]
    · rw [List.getElem?_eq_none (by rw [Array.length_toList, size_madeCells]; omega), List.getElem?_eq_none (by rw [zcs_len, List.length_replicate]; omega)]
  rw [e] at hown
  exact hK w' ⟨by simp, hown, fun v hv => by rw [(List.mem_replicate.1 hv).2]; exact ⟨rfl, World.ownsRow_nil w' _ _ _⟩⟩ ⟨hgr.os, hgr.tape, hgr.output, hgr.size, fun k hk => hgr.block k hk (by simp)⟩
/-- It returns new steps that read as ss. -/
def NewSZ (w : World) (ss : List Stz) (e : Ending) (w' : World) : Prop := ∃ A c, e = .returned (.slice A ss.length c) ∧ StepsZ w' A ss ∧ Below w.heap.size w w'
set_option maxRecDepth 100000 in
set_option maxHeartbeats 800000 in
theorem toStepS_any (A : Option Addr) (ss : List Stz) (c : Nat) (w : World) (h : StepsZ w A ss) (hl : ss.length ≤ 1048576) :
    Calls Try.prog 13 #[.slice A ss.length c] w (NewSZ w ss) := by
  go_enter Try.func13, Try.ntmps13
  go_wp2_with (at_make; refine wpList_makeS _ rfl _ _ rfl ss.length rfl rfl (by omega) ?_; intro w1 hown hb)
  go_loopw [4] (fun i wr => ∃ (k : Nat) (vs : List Vsz), k ≤ ss.length ∧ i = .int .i64 k ∧ Hid (vs.map spz = ss.take k) ∧ OwnZ wr w.heap.size w.heap.size (some ⟨w.heap.size, 0, none⟩) ss.length ss.length (vs ++ List.replicate (ss.length - k) emptyV) ∧ Below w.heap.size w wr) (fun i _ => ss.length - (intOf i).toNat)
  case atStart => exact ⟨0, [], by omega, rfl, rfl, hown, hb⟩
  case round =>
    clear hown hb
    obtain ⟨k, vs, hk, rfl, hvs, hown, hbel⟩ := hrel
    have hvl : vs.length = k := by
      have := congrArg List.length hvs.out
      simp at this
      omega
    have HVL := Lib.hid hvl
    clear hvl
    by_cases hlt : k < ss.length
    · obtain ⟨ad, B, d, xs, o, u, rfl, hp, hs, hd, hF, hc0, hc1, hc2⟩ := (h.below hbel).at_ hlt
      have cS := Lib.hid (toStep_any B xs d o u wr hF hs)
      clear hF
      go_wp2_with fail
      refine cS.out.mono ?_
      rintro e w2 ⟨B2, d2, rfl, hO, hb2⟩
      have hown2 := hown.below hb2
      have hB2 := below_down hbel hb2
      obtain ⟨m, hm⟩ : ∃ m, Hid (ss.length - k = m + 1) := ⟨ss.length - k - 1, Lib.hid (by omega)⟩
      have hat : (vs ++ List.replicate (ss.length - k) emptyV)[k]? = some emptyV := by
        rw [List.getElem?_append_right (by have := HVL.out; omega), HVL.out, Nat.sub_self, hm.out]
        rfl
      obtain ⟨e1, e2, e3⟩ := hown2.cell hat
      have f1 := hown2.frozen (k * 3)
      have f2 := hown2.frozen (k * 3 + 1)
      have f3 := hown2.frozen (k * 3 + 2)
      have hset := Lib.hid (show (vs ++ List.replicate (ss.length - k) emptyV).set k (B2, d2, xs, o, u) = (vs ++ [((B2, d2, xs, o, u) : Vsz)]) ++ List.replicate (ss.length - (k + 1)) emptyV by
        rw [List.set_append_right _ _ (by have := HVL.out; omega), HVL.out, Nat.sub_self, hm.out, show ss.length - (k + 1) = m by have := hm.out; omega, List.replicate_succ, List.append_assoc]
        rfl)
      have HO := Lib.hid (hO.mono hbel.size)
      clear hown hbel hb2 hc0 hc1 hc2 hO hat cS
      go_wp2
      go_roundw
      case rel => exact ⟨k + 1, vs ++ [(B2, d2, xs, o, u)], by omega, by go_num, Lib.hid (by rw [List.map_append, hvs.out, take_snoc _ _ _ hp.out]; rfl), (hown2.set k (B2, d2, xs, o, u) HO.out).congr hset.out, ((hB2.setCell (Nat.le_refl _) _).setCell (Nat.le_refl _) _).setCell (Nat.le_refl _) _⟩
      case measure => simp [intOf]; omega
    · obtain rfl : k = ss.length := by omega
      clear hlt
      go_wp2
      go_ret
      have e := hvs.out
      rw [List.take_length] at e
      refine ⟨_, _, rfl, ?_, hbel⟩
      have h5 := (hown.congr (by simp : _ = vs)).z (fun v hv => by
        have hm : spz v ∈ ss := by rw [← e]; exact List.mem_map.2 ⟨v, hv, rfl⟩
        obtain ⟨j, hj⟩ := List.getElem?_of_mem hm
        obtain ⟨_, _, h2⟩ := h.read (by have := (List.getElem?_eq_some_iff.1 hj).1; omega)
        obtain ⟨_, _, h3, _⟩ := h2 j _ hj
        exact h3)
      rwa [e] at h5
set_option maxRecDepth 100000 in
set_option maxHeartbeats 400000 in
theorem eqFrac_any (x y : Int) (w : World) : Calls Try.prog 100 #[.agg #[.int .i64 x, .int .i64 y], .agg #[.int .i64 x, .int .i64 y]] w (Bl w (.bool true)) := by
  go_enter Try.func100, Try.ntmps100
  go_wp2
  go_ret
  exact ⟨rfl, ((Below.refl _ w).alloc (Nat.le_refl _) _).alloc (by simp) _⟩
set_option maxRecDepth 100000 in
set_option maxHeartbeats 800000 in
theorem eqFracS_any (A A' : Option Addr) (fs : List (Int × Int)) (c c' : Nat) (w : World) (h : FracsZ w A fs) (h' : FracsZ w A' fs) (hl : fs.length ≤ 1048576) :
    Calls Try.prog 71 #[.slice A fs.length c, .slice A' fs.length c'] w (Bl w (.bool true)) := by
  go_enter Try.func71, Try.ntmps71
  go_wp2
  go_loopw [5] (fun i wr => ∃ k : Nat, k ≤ fs.length ∧ i = .int .i64 k ∧ Below w.heap.size w wr) (fun i _ => fs.length - (intOf i).toNat)
  case atStart => exact ⟨0, by omega, rfl, Below.refl _ _⟩
  case round =>
    obtain ⟨k, hk, rfl, hbel⟩ := hrel
    by_cases hlt : k < fs.length
    · obtain ⟨ad, s, m, rfl, hp, hc0, hc1⟩ := (h.below hbel).at_ hlt
      obtain ⟨ad', s', m', rfl, hp', hd0, hd1⟩ := (h'.below hbel).at_ hlt
      have e := hp.out.symm.trans hp'.out
      injection e with e
      injection e with e1 e2
      subst e1
      subst e2
      have hk0 : (0 : Int) ≤ (k : Int) := by omega
      have hk1 : (k : Int) < (fs.length : Int) := by omega
      go_wp2
      refine wp_region_X (fun w' => w'.cell? (ad.add (k * 2)) = some (.int .i64 s) ∧ w'.cell? ⟨(ad.add (k * 2)).block, (ad.add (k * 2)).off + 1, none⟩ = some (.int .i64 m) ∧ w'.cell? (ad'.add (k * 2)) = some (.int .i64 s) ∧ w'.cell? ⟨(ad'.add (k * 2)).block, (ad'.add (k * 2)).off + 1, none⟩ = some (.int .i64 m) ∧ Below w.heap.size w w') 1000 (by kernel_rfl) ?_ (fun hS => ?_)
      · exact ⟨cell_drew hc0, cell_drew hc1, cell_drew hd0, cell_drew hd1, hbel.drew⟩
      refine wpAnyX_take (i := 0) (oi := ⟨some 17, _, _, _, _, _⟩) (v := ?_) rfl (by kernel_rfl) (by kernel_rfl) (by kernel_rfl) (by kernel_rfl) (fun _ _ _ h => h) (Or.inl ⟨by kernel_rfl, ?_⟩) hS ?_
      rotate_left
      · intro w hSw
        try dsimp only at hSw
        go_simp
        try with_reducible rfl
      try simp only [Act.put, List.setIfInBounds_toArray, List.set_cons_zero, List.set_cons_succ]
      refine wpAnyX_take (i := 1) (oi := ⟨some 18, _, _, _, _, _⟩) (v := ?_) rfl (by kernel_rfl) (by kernel_rfl) (by kernel_rfl) (by kernel_rfl) (fun _ _ _ h => h) (Or.inl ⟨by kernel_rfl, ?_⟩) hS ?_
      rotate_left
      · intro w hSw
        try dsimp only at hSw
        go_simp
        try with_reducible rfl
      try simp only [Act.put, List.setIfInBounds_toArray, List.set_cons_zero, List.set_cons_succ]
      refine wpAnyX_take (i := 2) (oi := ⟨some 19, _, _, _, _, _⟩) (v := ?_) rfl (by kernel_rfl) (by kernel_rfl) (by kernel_rfl) (by kernel_rfl) (fun _ _ _ h => h) (Or.inl ⟨by kernel_rfl, ?_⟩) hS ?_
      rotate_left
      · intro w hSw
        try dsimp only at hSw
        go_simp
        try with_reducible rfl
      try simp only [Act.put, List.setIfInBounds_toArray, List.set_cons_zero, List.set_cons_succ]
      refine wpAnyX_take (i := 3) (oi := ⟨some 20, _, _, _, _, _⟩) (v := ?_) rfl (by kernel_rfl) (by kernel_rfl) (by kernel_rfl) (by kernel_rfl) (fun _ _ _ h => h) (Or.inl ⟨by kernel_rfl, ?_⟩) hS ?_
      rotate_left
      · intro w hSw
        try dsimp only at hSw
        go_simp
        try with_reducible rfl
      try simp only [Act.put, List.setIfInBounds_toArray, List.set_cons_zero, List.set_cons_succ]
      refine wpAnyX_take (i := 4) (oi := ⟨some 21, _, _, _, _, _⟩) (v := ?_) rfl (by kernel_rfl) (by kernel_rfl) (by kernel_rfl) (by kernel_rfl) (fun _ _ _ h => h) (Or.inl ⟨by kernel_rfl, ?_⟩) hS ?_
      rotate_left
      · intro w hSw
        try dsimp only at hSw
        go_simp
        try with_reducible rfl
      try simp only [Act.put, List.setIfInBounds_toArray, List.set_cons_zero, List.set_cons_succ]
      refine wpAnyX_take (i := 5) (oi := ⟨some 22, _, _, _, _, _⟩) (v := ?_) rfl (by kernel_rfl) (by kernel_rfl) (by kernel_rfl) (by kernel_rfl) (fun _ _ _ h => h) (Or.inl ⟨by kernel_rfl, ?_⟩) hS ?_
      rotate_left
      · intro w hSw
        try dsimp only at hSw
        go_simp
        try with_reducible rfl
      try simp only [Act.put, List.setIfInBounds_toArray, List.set_cons_zero, List.set_cons_succ]
      refine wpAnyX_take (i := 6) (oi := ⟨some 23, _, _, _, _, _⟩) (v := ?_) rfl (by kernel_rfl) (by kernel_rfl) (by kernel_rfl) (by kernel_rfl) (fun _ _ _ h => h) (Or.inl ⟨by kernel_rfl, ?_⟩) hS ?_
      rotate_left
      · intro w hSw
        try dsimp only at hSw
        go_simp
        try with_reducible rfl
      try simp only [Act.put, List.setIfInBounds_toArray, List.set_cons_zero, List.set_cons_succ]
      refine wpAnyX_take (i := 7) (oi := ⟨some 24, _, _, _, _, _⟩) (v := ?_) rfl (by kernel_rfl) (by kernel_rfl) (by kernel_rfl) (by kernel_rfl) (fun _ _ _ h => h) (Or.inl ⟨by kernel_rfl, ?_⟩) hS ?_
      rotate_left
      · intro w hSw
        try dsimp only at hSw
        go_simp
        try with_reducible rfl
      try simp only [Act.put, List.setIfInBounds_toArray, List.set_cons_zero, List.set_cons_succ]
      refine wpAnyX_ready (rs := [8]) (by kernel_rfl) (by simp) ?_
      refine AllReadyX.cons (o := ⟨some 25, _, _, _, _, _⟩) rfl (fun K hK => ?_) AllReadyX.nil
      go_simp
      (go_at_call 100; refine (eqFrac_any s m _).mono ?_; rintro e w2 ⟨rfl, hb2⟩)
      have hS0 := hS
      clear hS
      refine hK.out _ _ (fun _ => ⟨cell_below hb2 hS0.1, cell_below hb2 hS0.2.1, cell_below hb2 hS0.2.2.1, cell_below hb2 hS0.2.2.2.1, below_down hS0.2.2.2.2 hb2⟩) (fun hS => ?_)
      replace hS := hS (by kernel_rfl)
      clear hK K hS0
      try simp only [Act.put, List.setIfInBounds_toArray, List.set_cons_zero, List.set_cons_succ]
      refine wpAnyX_take (i := 9) (oi := ⟨some 26, _, _, _, _, _⟩) (v := ?_) rfl (by kernel_rfl) (by kernel_rfl) (by kernel_rfl) (by kernel_rfl) (fun _ _ _ h => h) (Or.inl ⟨by kernel_rfl, ?_⟩) hS ?_
      rotate_left
      · intro w hSw
        try dsimp only at hSw
        go_simp
        try with_reducible rfl
      try simp only [Act.put, List.setIfInBounds_toArray, List.set_cons_zero, List.set_cons_succ]
      refine wpAnyX_done (by kernel_rfl) ?_ _
      go_wp2
      go_roundw
      case rel => exact ⟨k + 1, by omega, by go_num, hS.2.2.2.2⟩
      case measure => simp [intOf]; omega
    · obtain rfl : k = fs.length := by omega
      clear hlt
      go_wp2
      go_ret
      exact ⟨rfl, hbel⟩
set_option maxRecDepth 100000 in
set_option maxHeartbeats 800000 in
theorem eqStep_any (B B' : Option Addr) (fs : List (Int × Int)) (d d' : Nat) (o t : Int) (w : World) (h : FracsZ w B fs) (h' : FracsZ w B' fs) (hl : fs.length ≤ 1048576) :
    Calls Try.prog 45 #[.agg #[.slice B fs.length d, .int .i64 o, .int .i64 t], .agg #[.slice B' fs.length d', .int .i64 o, .int .i64 t]] w (Bl w (.bool true)) := by
  have cS := Lib.hid (fun w (h : FracsZ w B fs) (h' : FracsZ w B' fs) => eqFracS_any B B' fs d d' w h h' hl)
  have hh := Lib.hid h
  have hh' := Lib.hid h'
  clear h h'
  go_enter Try.func45, Try.ntmps45
  go_wp2_with fail
  have hb0 := ((Below.refl w.heap.size w).alloc (Nat.le_refl _) (.cells #[.slice B fs.length d, .int .i64 o, .int .i64 t] 68)).alloc (by simp) (.cells #[.slice B' fs.length d', .int .i64 o, .int .i64 t] 68)
  refine (cS.out _ (hh.out.below hb0) (hh'.out.below hb0)).mono ?_
  rintro e w2 ⟨rfl, hb2⟩
  have hB2 := hb0.trans (hb2.mono hb0.size)
  have ha := (ob0 w #[.slice B fs.length d, .int .i64 o, .int .i64 t] 68).alloc (.cells #[.slice B' fs.length d', .int .i64 o, .int .i64 t] 68)
  have hb := ob1 w (.cells #[.slice B fs.length d, .int .i64 o, .int .i64 t] 68) #[.slice B' fs.length d', .int .i64 o, .int .i64 t] 68
  have ha2 := ha.below hb2
  have hb3 := hb.below hb2
  have a1 := ha2.cell 1 rfl
  have a2 := ha2.cell 2 rfl
  have b1 := hb3.cell 1 rfl
  have b2 := hb3.cell 2 rfl
  clear ha hb ha2 hb3 hb0 hb2
  go_wp2
  go_ret
  exact ⟨rfl, hB2⟩
set_option maxRecDepth 100000 in
set_option maxHeartbeats 800000 in
theorem eqStepS_any (A A' : Option Addr) (ss : List Stz) (c c' : Nat) (w : World) (h : StepsZ w A ss) (h' : StepsZ w A' ss) (hl : ss.length ≤ 1048576) :
    Calls Try.prog 17 #[.slice A ss.length c, .slice A' ss.length c'] w (Bl w (.bool true)) := by
  go_enter Try.func17, Try.ntmps17
  go_wp2
  go_loopw [5] (fun i wr => ∃ k : Nat, k ≤ ss.length ∧ i = .int .i64 k ∧ Below w.heap.size w wr) (fun i _ => ss.length - (intOf i).toNat)
  case atStart => exact ⟨0, by omega, rfl, Below.refl _ _⟩
  case round =>
    obtain ⟨k, hk, rfl, hbel⟩ := hrel
    by_cases hlt : k < ss.length
    · obtain ⟨ad, B, d, xs, o, u, rfl, hp, hs, hd, hF, hc0, hc1, hc2⟩ := (h.below hbel).at_ hlt
      obtain ⟨ad', B', d', xs', o', u', rfl, hp', hs', hd', hF', hc0', hc1', hc2'⟩ := (h'.below hbel).at_ hlt
      have e := hp.out.symm.trans hp'.out
      injection e with e
      injection e with e1 e2
      injection e2 with e2 e3
      subst e1
      subst e2
      subst e3
      have hk0 : (0 : Int) ≤ (k : Int) := by omega
      have hk1 : (k : Int) < (ss.length : Int) := by omega
      go_wp2
      refine wp_region_X (fun w' => w'.cell? (ad.add (k * 3)) = some (.slice B xs.length d) ∧ w'.cell? ⟨(ad.add (k * 3)).block, (ad.add (k * 3)).off + 1, none⟩ = some (.int .i64 o) ∧ w'.cell? ⟨(ad.add (k * 3)).block, (ad.add (k * 3)).off + 2, none⟩ = some (.int .i64 u) ∧ w'.cell? (ad'.add (k * 3)) = some (.slice B' xs.length d') ∧ w'.cell? ⟨(ad'.add (k * 3)).block, (ad'.add (k * 3)).off + 1, none⟩ = some (.int .i64 o) ∧ w'.cell? ⟨(ad'.add (k * 3)).block, (ad'.add (k * 3)).off + 2, none⟩ = some (.int .i64 u) ∧ FracsZ w' B xs ∧ FracsZ w' B' xs ∧ Below w.heap.size w w') 1000 (by kernel_rfl) ?_ (fun hS => ?_)
      · exact ⟨cell_drew hc0, cell_drew hc1, cell_drew hc2, cell_drew hc0', cell_drew hc1', cell_drew hc2', hF.drewN 1, hF'.drewN 1, hbel.drew⟩
      refine wpAnyX_take (i := 0) (oi := ⟨some 17, _, _, _, _, _⟩) (v := ?_) rfl (by kernel_rfl) (by kernel_rfl) (by kernel_rfl) (by kernel_rfl) (fun _ _ _ h => h) (Or.inl ⟨by kernel_rfl, ?_⟩) hS ?_
      rotate_left
      · intro w hSw
        try dsimp only at hSw
        go_simp
        try with_reducible rfl
      try simp only [Act.put, List.setIfInBounds_toArray, List.set_cons_zero, List.set_cons_succ]
      refine wpAnyX_take (i := 1) (oi := ⟨some 18, _, _, _, _, _⟩) (v := ?_) rfl (by kernel_rfl) (by kernel_rfl) (by kernel_rfl) (by kernel_rfl) (fun _ _ _ h => h) (Or.inl ⟨by kernel_rfl, ?_⟩) hS ?_
      rotate_left
      · intro w hSw
        try dsimp only at hSw
        go_simp
        try with_reducible rfl
      try simp only [Act.put, List.setIfInBounds_toArray, List.set_cons_zero, List.set_cons_succ]
      refine wpAnyX_take (i := 2) (oi := ⟨some 19, _, _, _, _, _⟩) (v := ?_) rfl (by kernel_rfl) (by kernel_rfl) (by kernel_rfl) (by kernel_rfl) (fun _ _ _ h => h) (Or.inl ⟨by kernel_rfl, ?_⟩) hS ?_
      rotate_left
      · intro w hSw
        try dsimp only at hSw
        go_simp
        try with_reducible rfl
      try simp only [Act.put, List.setIfInBounds_toArray, List.set_cons_zero, List.set_cons_succ]
      refine wpAnyX_take (i := 3) (oi := ⟨some 20, _, _, _, _, _⟩) (v := ?_) rfl (by kernel_rfl) (by kernel_rfl) (by kernel_rfl) (by kernel_rfl) (fun _ _ _ h => h) (Or.inl ⟨by kernel_rfl, ?_⟩) hS ?_
      rotate_left
      · intro w hSw
        try dsimp only at hSw
        go_simp
        try with_reducible rfl
      try simp only [Act.put, List.setIfInBounds_toArray, List.set_cons_zero, List.set_cons_succ]
      refine wpAnyX_take (i := 4) (oi := ⟨some 21, _, _, _, _, _⟩) (v := ?_) rfl (by kernel_rfl) (by kernel_rfl) (by kernel_rfl) (by kernel_rfl) (fun _ _ _ h => h) (Or.inl ⟨by kernel_rfl, ?_⟩) hS ?_
      rotate_left
      · intro w hSw
        try dsimp only at hSw
        go_simp
        try with_reducible rfl
      try simp only [Act.put, List.setIfInBounds_toArray, List.set_cons_zero, List.set_cons_succ]
      refine wpAnyX_take (i := 5) (oi := ⟨some 22, _, _, _, _, _⟩) (v := ?_) rfl (by kernel_rfl) (by kernel_rfl) (by kernel_rfl) (by kernel_rfl) (fun _ _ _ h => h) (Or.inl ⟨by kernel_rfl, ?_⟩) hS ?_
      rotate_left
      · intro w hSw
        try dsimp only at hSw
        go_simp
        try with_reducible rfl
      try simp only [Act.put, List.setIfInBounds_toArray, List.set_cons_zero, List.set_cons_succ]
      refine wpAnyX_take (i := 6) (oi := ⟨some 23, _, _, _, _, _⟩) (v := ?_) rfl (by kernel_rfl) (by kernel_rfl) (by kernel_rfl) (by kernel_rfl) (fun _ _ _ h => h) (Or.inl ⟨by kernel_rfl, ?_⟩) hS ?_
      rotate_left
      · intro w hSw
        try dsimp only at hSw
        go_simp
        try with_reducible rfl
      try simp only [Act.put, List.setIfInBounds_toArray, List.set_cons_zero, List.set_cons_succ]
      refine wpAnyX_take (i := 7) (oi := ⟨some 24, _, _, _, _, _⟩) (v := ?_) rfl (by kernel_rfl) (by kernel_rfl) (by kernel_rfl) (by kernel_rfl) (fun _ _ _ h => h) (Or.inl ⟨by kernel_rfl, ?_⟩) hS ?_
      rotate_left
      · intro w hSw
        try dsimp only at hSw
        go_simp
        try with_reducible rfl
      try simp only [Act.put, List.setIfInBounds_toArray, List.set_cons_zero, List.set_cons_succ]
      refine wpAnyX_ready (rs := [8]) (by kernel_rfl) (by simp) ?_
      refine AllReadyX.cons (o := ⟨some 25, _, _, _, _, _⟩) rfl (fun K hK => ?_) AllReadyX.nil
      go_simp
      (go_at_call 45; refine (eqStep_any B B' xs d d' o u _ hS.2.2.2.2.2.2.1 hS.2.2.2.2.2.2.2.1 hs).mono ?_; rintro e w2 ⟨rfl, hb2⟩)
      have hS0 := hS
      clear hS
      refine hK.out _ _ (fun _ => ⟨cell_below hb2 hS0.1, cell_below hb2 hS0.2.1, cell_below hb2 hS0.2.2.1, cell_below hb2 hS0.2.2.2.1, cell_below hb2 hS0.2.2.2.2.1, cell_below hb2 hS0.2.2.2.2.2.1, hS0.2.2.2.2.2.2.1.below hb2, hS0.2.2.2.2.2.2.2.1.below hb2, below_down hS0.2.2.2.2.2.2.2.2 hb2⟩) (fun hS => ?_)
      replace hS := hS (by kernel_rfl)
      clear hK K hS0
      try simp only [Act.put, List.setIfInBounds_toArray, List.set_cons_zero, List.set_cons_succ]
      refine wpAnyX_take (i := 9) (oi := ⟨some 26, _, _, _, _, _⟩) (v := ?_) rfl (by kernel_rfl) (by kernel_rfl) (by kernel_rfl) (by kernel_rfl) (fun _ _ _ h => h) (Or.inl ⟨by kernel_rfl, ?_⟩) hS ?_
      rotate_left
      · intro w hSw
        try dsimp only at hSw
        go_simp
        try with_reducible rfl
      try simp only [Act.put, List.setIfInBounds_toArray, List.set_cons_zero, List.set_cons_succ]
      refine wpAnyX_done (by kernel_rfl) ?_ _
      go_wp2
      go_roundw
      case rel => exact ⟨k + 1, by omega, by go_num, hS.2.2.2.2.2.2.2.2⟩
      case measure => simp [intOf]; omega
    · obtain rfl : k = ss.length := by omega
      clear hlt
      go_wp2
      go_ret
      exact ⟨rfl, hbel⟩
end Go.Proofs.Ytiinfbjlkbjmmaa
