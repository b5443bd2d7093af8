/-
  slices.Repeat at fractions; a new transfer.
-/
import Derived.Test.YtiinfbjlkbjmmaaQTraS
import Derived.Lib.SliceRun
namespace Go.Proofs.Ytiinfbjlkbjmmaa
open Go.RowKit
set_option maxRecDepth 100000 in
set_option maxHeartbeats 3200000 in
theorem mul64_any (n : Nat) (w : World) (hn : n ≤ 12) : Calls Try.prog 124 #[.int .u64 1, .int .u64 n] w (Ret w (.tuple #[.int .u64 0, .int .u64 n])) := by
  have hc : n = 0 ∨ n = 1 ∨ n = 2 ∨ n = 3 ∨ n = 4 ∨ n = 5 ∨ n = 6 ∨ n = 7 ∨ n = 8 ∨ n = 9 ∨ n = 10 ∨ n = 11 ∨ n = 12 := by omega
  rcases hc with rfl | rfl | rfl | rfl | rfl | rfl | rfl | rfl | rfl | rfl | rfl | rfl | rfl
  all_goals
    go_enter Try.func124, Try.ntmps124
    go_wp2
    go_ret2
    exact ⟨rfl, rfl⟩
set_option maxRecDepth 100000 in
theorem mul_any (n : Nat) (w : World) (hn : n ≤ 12) : Calls Try.prog 108 #[.int .u64 1, .int .u64 n] w (Ret w (.tuple #[.int .u64 0, .int .u64 n])) := by
  go_enter Try.func108, Try.ntmps108
  go_wp2_with (go_at_call 124; refine (mul64_any n _ hn).mono ?_; rintro e w' ⟨rfl, rfl⟩)
  go_ret2
  exact ⟨rfl, rfl⟩
/-- Fractions laid over a list from place o on. -/
def layF : List Fr → Nat → List Fr → List Fr
  | xs, _, [] => xs
  | xs, o, v :: r => layF (xs.set o v) (o + 1) r
set_option maxRecDepth 100000 in
theorem OwnF.lay {base g n c : Nat} (vs : List Fr) : ∀ {w : World} {xs : List Fr} (o : Nat), OwnF w base (some ⟨g, 0, none⟩) n c xs → OwnF (w.setCells g (o * 2) (fcs vs)) base (some ⟨g, 0, none⟩) n c (layF xs o vs) := by
  induction vs with
  | nil => intro w xs o h; exact h
  | cons v r ih =>
    intro w xs o h
    have := ih (o + 1) (h.set o v)
    rw [show (o + 1) * 2 = o * 2 + 1 + 1 by omega] at this
    exact this
set_option maxRecDepth 100000 in
theorem grown_setCellsF {g : Nat} (vs : List Value) : ∀ {a b : World} (o : Nat), a.grownBy b (some g) → a.grownBy (b.setCells g o vs) (some g) := by
  induction vs with
  | nil => intro a b o h; exact h
  | cons v r ih => intro a b o h; exact ih (o + 1) (grown_setCell h o v)
set_option maxRecDepth 100000 in
/-- 'copy' of elements of two cells. -/
theorem run_copyF (w : World) (dT sT ty elem : TypeId) (b o dLen dCap : Nat) (a : Addr) (sLen sCap : Nat) (cs : List Value)
    (hu : Try.prog.underlying dT = some (.slice elem)) (hs : (Try.prog.info? elem).map (·.size) = some 2) (hn : cs.length = Nat.min sLen dLen * 2)
    (hsrc : ∀ j v, cs[j]? = some v → w.cell? (a.add j) = some v) (hc : ∀ j, j < cs.length → (w.cell? ⟨b, o + j, none⟩).isSome = true) (hf : ∀ j, j < cs.length → w.frozen? ⟨b, o + j, none⟩ = false) (h1 : ∀ v ∈ cs, v.oneCell' = true) :
    (Builtin.copy_ #[dT, sT] ty #[.slice (some ⟨b, o, none⟩) dLen dCap, .slice (some a) sLen sCap]).run Try.prog w = .ok (goInt (Nat.min sLen dLen)) (w.setCells b o cs) := by
  have hl := run_loadCells_list (P := Try.prog) w a cs hsrc
  have hst := run_storeCells_cells (P := Try.prog) b o cs 0 w (by simpa using hc) (by simpa using hf) h1
  cases hq : Try.prog.info? elem with
  | none => simp [hq] at hs
  | some i =>
    have hi : i.size = 2 := by simpa [hq] using hs
    simp [Builtin.copy_, run_underlying hu, Builtin.lenOf, Builtin.firstCells, sizeOf, typeInfo, hq, hi, ← hn, hl, hst]
set_option maxRecDepth 100000 in
theorem run_copyO {w : World} {ty : TypeId} {base g n c off dLen dCap sLen sCap : Nat} {ad : Addr} {fs gs : List Fr} (hown : OwnF w base (some ⟨g, 0, none⟩) n c fs) (hn : gs.length = Nat.min sLen dLen) (hfit : off + gs.length ≤ n) (hsrc : Fracs w (some ad) gs) :
    (Builtin.copy_ #[66, 66] ty #[.slice (some ⟨g, off * 2, none⟩) dLen dCap, .slice (some ad) sLen sCap]).run Try.prog w = .ok (goInt gs.length) (w.setCells g (off * 2) (fcs gs)) := by
  rw [hn]
  refine run_copyF w _ _ ty 75 g (off * 2) dLen dCap ad sLen sCap (fcs gs) Try.underlying66 (by have := infoFrac; cases h : Try.prog.info? 75 with | none => rw [h] at this; cases this | some i => rw [h] at this; simp at this ⊢; exact this.2.1) (by rw [fcs_len, hn]) hsrc.cells ?_ ?_ fcs_one
  · intro j hj
    rw [fcs_len] at hj
    have hl := hown.len
    have hk : off + j / 2 < fs.length := by omega
    obtain ⟨h1, h2⟩ := hown.cell (List.getElem?_eq_getElem hk)
    rcases (show off * 2 + j = (off + j / 2) * 2 ∨ off * 2 + j = (off + j / 2) * 2 + 1 by omega) with e | e
    · rw [e, h1]; rfl
    · rw [e, h2]; rfl
  · intro j _
    exact hown.frozen _
set_option maxRecDepth 100000 in
theorem wpList_copyF (w : World) {ops : Array Oper} {rest : List Oper} {o : Oper} {a : Act} {Q : Exit → Act → World → Prop}
    (hg : o.guard = none) (d s : Operand) (ho : o.op = .call { callee := .builtin .copy, args := #[d, s], argTypes := #[66, 66] })
    (base g n c : Nat) (fs : List Fr) (off dLen dCap : Nat) (ad : Addr) (sLen sCap : Nat) (gs : List Fr) (hd : a.eval d = .slice (some ⟨g, off * 2, none⟩) dLen dCap) (hs : a.eval s = .slice (some ad) sLen sCap)
    (hown : OwnF w base (some ⟨g, 0, none⟩) n c fs) (hn : gs.length = Nat.min sLen dLen) (hfit : off + gs.length ≤ n) (hsrc : Fracs w (some ad) gs)
    (hK : ∀ w', OwnF w' base (some ⟨g, 0, none⟩) n c (layF fs off gs) → w.grownBy w' (some g) → wpList Try.prog ops Q rest (a.put o.dst (.int .i64 gs.length)) w') : wpList Try.prog ops Q (o :: rest) a w := by
  refine wpList_plain hg fun K hK2 => ?_
  have hrun := run_copyO (ty := o.type) (dLen := dLen) (dCap := dCap) (sLen := sLen) (sCap := sCap) hown hn hfit hsrc
  unfold Oper.wp
  simp [execOp, ho, resolve, invoke, builtin, hd, hs, hrun, Result.andThen]
  exact hK2 _ _ (hK _ (hown.lay gs off) (grown_setCellsF _ _ (grown_refl w _)))
set_option maxRecDepth 100000 in
theorem step_copyF (w : World) {ops : Array Oper} {o : Oper} {a : Act} {K : Act → World → Prop} {Q : Exit → Act → World → Prop} {E : Prop}
    (hg : o.guard = none) (d s : Operand) (ho : o.op = .call { callee := .builtin .copy, args := #[d, s], argTypes := #[66, 66] })
    (base g n c : Nat) (fs : List Fr) (off dLen dCap : Nat) (ad : Addr) (sLen sCap : Nat) (gs : List Fr) (hd : a.eval d = .slice (some ⟨g, off * 2, none⟩) dLen dCap) (hs : a.eval s = .slice (some ad) sLen sCap)
    (hown : OwnF w base (some ⟨g, 0, none⟩) n c fs) (hn : gs.length = Nat.min sLen dLen) (hfit : off + gs.length ≤ n) (hsrc : Fracs w (some ad) gs)
    (hK : ∀ w', OwnF w' base (some ⟨g, 0, none⟩) n c (layF fs off gs) → w.grownBy w' (some g) → K (a.put o.dst (.int .i64 gs.length)) w') :
    if Region.wanted o (yielded ops a.tmps) = true then Oper.wp Try.prog o a w K Q else E := by
  have hw : Region.wanted o (yielded ops a.tmps) = true := by simp [Region.wanted, hg]
  rw [if_pos hw]
  have hrun := run_copyO (ty := o.type) (dLen := dLen) (dCap := dCap) (sLen := sLen) (sCap := sCap) hown hn hfit hsrc
  unfold Oper.wp
  simp [execOp, ho, resolve, invoke, builtin, hd, hs, hrun, Result.andThen]
  exact hK _ (hown.lay gs off) (grown_setCellsF _ _ (grown_refl w _))
set_option maxRecDepth 100000 in
/-- 'make([]Frac, n)'. -/
theorem wpList_makeF (w : World) {ops : Array Oper} {rest : List Oper} {o : Oper} {a : Act} {Q : Exit → Act → World → Prop}
    (hg : o.guard = none) (l c : Operand) (hop : o.op = Op.makeSlice 66 l c) (n : Nat) (hl : a.eval l = .int .i64 n) (hc : a.eval c = .int .i64 n) (hn : n ≤ 1048576)
    (hK : ∀ w', OwnF w' w.heap.size (some ⟨w.heap.size, 0, none⟩) n n (List.replicate n (0, 0)) → Below w.heap.size w w' → wpList Try.prog ops Q rest (a.put o.dst (.slice (some ⟨w.heap.size, 0, none⟩) n n)) w') :
    wpList Try.prog ops Q (o :: rest) a w := by
  obtain ⟨i0, hi, hz0, hz1, hz2⟩ := info_parts infoFrac
  refine wpList_make_full w hg l c 66 hop w.heap.size 75 i0 _ 2 Try.underlying66 hi hz0 hz1 .i64 .i64 n n n hl hc rfl rfl (by rw [hz2]; omega) (by simp only [maxLen]; omega) (Nat.le_refl _) ?_
  intro w' hown hgr
  have e : (madeCells (Value.agg #[.int .i64 0, .int .i64 0]).cells (n * 2)).toList = fcs (List.replicate n (0, 0)) := by
    apply List.ext_getElem?
    intro j
    by_cases hj : j < n * 2
    · have h1 : (fcs (List.replicate n ((0, 0) : Fr)))[j]? = some (.int .i64 0) := by
        have hk : j / 2 < (List.replicate n ((0, 0) : Fr)).length := by simp; omega
        obtain ⟨a1, a2⟩ := fcs_at (List.getElem?_eq_getElem hk)
        rcases (show j = j / 2 * 2 ∨ j = j / 2 * 2 + 1 by omega) with e | e
        · rw [← e] at a1; rw [a1]; simp
        · rw [← e] at a2; rw [a2]; simp
      rw [h1]
      simp only [madeCells, Value.cells]
      rcases (show j % 2 = 0 ∨ j % 2 = 1 by omega) with e | e
      · simp [hj, e]
      · simp [hj, e]
    · rw [List.getElem?_eq_none (by rw [Array.length_toList, size_madeCells]; omega), List.getElem?_eq_none (by rw [fcs_len, List.length_replicate]; omega)]
  rw [e] at hown
  exact hK w' ⟨by simp, hown⟩ ⟨hgr.os, hgr.tape, hgr.output, hgr.size, fun k hk => hgr.block k hk (by simp)⟩
/-- The first k are f, the others noughts. -/
def repF (n k : Nat) (f : Fr) : List Fr := List.replicate k f ++ List.replicate (n - k) (0, 0)
set_option maxRecDepth 100000 in
theorem repF_len {n k : Nat} {f : Fr} (h : k ≤ n) : (repF n k f).length = n := by simp [repF]; omega
set_option maxRecDepth 100000 in
theorem repF_set {n k : Nat} {f : Fr} (h : k < n) : (repF n k f).set k f = repF n (k + 1) f := by
  unfold repF
  rw [List.set_append_right _ _ (by simp), List.length_replicate, Nat.sub_self]
  obtain ⟨m, hm⟩ : ∃ m, n - k = m + 1 := ⟨n - k - 1, by omega⟩
  rw [hm, show n - (k + 1) = m from by omega, List.replicate_succ, List.set_cons_zero, ← replicate_snoc k f, List.append_assoc]; rfl
set_option maxRecDepth 100000 in
theorem repF_lay {n : Nat} {f : Fr} (m : Nat) : ∀ {k : Nat}, k + m ≤ n → layF (repF n k f) k (List.replicate m f) = repF n (k + m) f := by
  induction m with
  | zero => intro k _; rfl
  | succ m ih =>
    intro k h
    rw [List.replicate_succ]
    show layF ((repF n k f).set k f) (k + 1) (List.replicate m f) = _
    rw [repF_set (by omega), ih (by omega)]
    congr 1
    omega
set_option maxRecDepth 100000 in
theorem fracs_rep {w : World} {A : Option Addr} {n k m : Nat} {f : Fr} (h : Fracs w A (repF n k f)) (hm : m ≤ k) : Fracs w A (List.replicate m f) := by
  intro hn
  rw [List.length_replicate] at hn
  obtain ⟨ad, e, hc⟩ := h (by simp [repF]; omega)
  refine ⟨ad, e, fun j x hx => hc j x ?_⟩
  rw [List.getElem?_replicate] at hx
  split at hx
  · unfold repF
    rw [List.getElem?_append_left (by simp; omega), List.getElem?_replicate, if_pos (by omega)]
    exact hx
  · cases hx
set_option maxRecDepth 100000 in
set_option maxHeartbeats 3200000 in
theorem sRepeat_any (ad : Addr) (x y n cc : Nat) (w : World) (h : Fracs w (some ad) [(x, y)]) (hn : n ≤ 12) :
    Calls Try.prog 79 #[.slice (some ad) 1 cc, .int .i64 n] w (NewF w (List.replicate n (x, y))) := by
  obtain ⟨f, hf⟩ : ∃ f : Fr, f = (x, y) := ⟨_, rfl⟩
  rw [← hf] at h ⊢
  clear hf
  have cM := Lib.hid (fun w => mul_any n w hn)
  have hR0 := Lib.hid (show List.replicate n ((0, 0) : Fr) = repF n 0 f by simp [repF])
  by_cases hn0 : n = 0
  · subst hn0
    go_enter Try.func79, Try.ntmps79
    go_wp2_with (first | (go_at_call 108; refine (cM.out _).mono ?_; rintro e w' ⟨rfl, rfl⟩) | (at_make; refine wpList_makeF _ rfl _ _ rfl 0 rfl rfl (by omega) ?_; intro w1 hown hbel) | (refine wpList_copyF _ rfl (.tmp 31) (.tmp 32) rfl w.heap.size w.heap.size 0 0 _ 0 0 0 ad 1 cc [] rfl rfl hown rfl (by simp) (Fracs.nil _ _) ?_; intro w2 hown2 hg2))
    go_loopw [8] (fun i wr => i = .int .i64 0 ∧ wr = w2) (fun _ _ => 0)
    case atStart => exact ⟨rfl, rfl⟩
    case round =>
      obtain ⟨rfl, rfl⟩ := hrel
      go_wp2
      go_ret
      have hB := below_of_grown hg2 hbel.size (fun k hk => by injection hk with hk; omega)
      exact newF_of (fs := []) hown2 (hbel.trans hB)
  · go_enter Try.func79, Try.ntmps79
    go_wp2_with (first | (go_at_call 108; refine (cM.out _).mono ?_; rintro e w' ⟨rfl, rfl⟩) | (at_make; refine wpList_makeF _ rfl _ _ rfl n rfl rfl (by omega) ?_; intro w1 hown hbel) | (refine wpList_copyF _ rfl (.tmp 31) (.tmp 32) rfl w.heap.size w.heap.size n n _ 0 n n ad 1 cc [f] rfl rfl (hown.congr hR0.out) (show 1 = Nat.min 1 n from by show 1 = min 1 n; omega) (by simp; omega) (h.below hbel) ?_; intro w2 hown2 hg2))
    have hB2 := hbel.trans (below_of_grown hg2 hbel.size (fun k hk => by injection hk with hk; omega))
    have hown2 := hown2.congr (repF_lay (n := n) (f := f) 1 (k := 0) (by omega))
    clear hown hbel hg2 hR0
    generalize hg : w.heap.size = g at *
    have HG := Lib.hid hg
    clear hg
    go_loopw [8] (fun i wr => ∃ k : Nat, 1 ≤ k ∧ k ≤ n ∧ i = .int .i64 k ∧ OwnF wr g (some ⟨g, 0, none⟩) n n (repF n k f) ∧ Below g w wr) (fun i _ => n - (intOf i).toNat)
    case atStart => exact ⟨1, by omega, by omega, rfl, hown2, hB2⟩
    case round =>
      clear hown2 hB2
      obtain ⟨k, hk1, hk, rfl, hown, hbel⟩ := hrel
      by_cases hlt : k < n
      · have hownD := hown.drew
        have hbelD := hbel.drew
        have hk0 : (0 : Int) ≤ (k : Int) := by omega
        have hkn : (k : Int) ≤ (n : Int) := by omega
        have hnk : ¬ n = k := by omega
        obtain ⟨m, hm1, hm2, hm3⟩ : ∃ m, m = min k (n - k) ∧ 1 ≤ m ∧ k + m ≤ n := ⟨min k (n - k), rfl, by omega, by omega⟩
        have HM := Lib.hid hm1
        have hmk : m ≤ k := by omega
        have hwk : IntKind.i64.wrap ((k : Int) + (m : Int)) = (k : Int) + (m : Int) := IntWalk.i64_in _ (by omega)
        clear hm1
        go_wp2
        refine wp_region_X (fun w' => Below g w w') 1000 (by kernel_rfl) ?_ (fun hS => ?_)
        · exact hbelD
        refine wpAnyX_take (i := 0) (oi := ⟨some 38, _, _, _, _, _⟩) (v := ?_) rfl (by kernel_rfl) (by kernel_rfl) (by kernel_rfl) (by kernel_rfl) (fun _ _ _ h => h) (Or.inl ⟨by kernel_rfl, ?_⟩) hS ?_
        rotate_left
        · intro w hSw
          try dsimp only at hSw
          go_simp
          try with_reducible rfl
        try simp only [Act.put, List.setIfInBounds_toArray, List.set_cons_zero, List.set_cons_succ]
        refine wpAnyX_take (i := 1) (oi := ⟨some 39, _, _, _, _, _⟩) (v := ?_) rfl (by kernel_rfl) (by kernel_rfl) (by kernel_rfl) (by kernel_rfl) (fun _ _ _ h => h) (Or.inl ⟨by kernel_rfl, ?_⟩) hS ?_
        rotate_left
        · intro w hSw
          try dsimp only at hSw
          go_simp
          try with_reducible rfl
        try simp only [Act.put, List.setIfInBounds_toArray, List.set_cons_zero, List.set_cons_succ]
        refine wpAnyX_take (i := 2) (oi := ⟨some 40, _, _, _, _, _⟩) (v := ?_) rfl (by kernel_rfl) (by kernel_rfl) (by kernel_rfl) (by kernel_rfl) (fun _ _ _ h => h) (Or.inl ⟨by kernel_rfl, ?_⟩) hS ?_
        rotate_left
        · intro w hSw
          try dsimp only at hSw
          go_simp
          try with_reducible rfl
        try simp only [Act.put, List.setIfInBounds_toArray, List.set_cons_zero, List.set_cons_succ]
        refine wpAnyX_take (i := 3) (oi := ⟨some 41, _, _, _, _, _⟩) (v := ?_) rfl (by kernel_rfl) (by kernel_rfl) (by kernel_rfl) (by kernel_rfl) (fun _ _ _ h => h) (Or.inl ⟨by kernel_rfl, ?_⟩) hS ?_
        rotate_left
        · intro w hSw
          try dsimp only at hSw
          go_simp
          try with_reducible rfl
        try simp only [Act.put, List.setIfInBounds_toArray, List.set_cons_zero, List.set_cons_succ]
        refine wpAnyX_take (i := 4) (oi := ⟨some 42, _, _, _, _, _⟩) (v := ?_) rfl (by kernel_rfl) (by kernel_rfl) (by kernel_rfl) (by kernel_rfl) (fun _ _ _ h => h) (Or.inl ⟨by kernel_rfl, ?_⟩) hS ?_
        rotate_left
        · intro w hSw
          try dsimp only at hSw
          go_simp
          try with_reducible rfl
        try simp only [Act.put, List.setIfInBounds_toArray, List.set_cons_zero, List.set_cons_succ]
        refine wpAnyX_take (i := 5) (oi := ⟨some 43, _, _, _, _, _⟩) (v := ?_) rfl (by kernel_rfl) (by kernel_rfl) (by kernel_rfl) (by kernel_rfl) (fun _ _ _ h => h) (Or.inl ⟨by kernel_rfl, ?_⟩) hS ?_
        rotate_left
        · intro w hSw
          try dsimp only at hSw
          go_simp
          try with_reducible rfl
        try simp only [Act.put, List.setIfInBounds_toArray, List.set_cons_zero, List.set_cons_succ]
        refine wpAnyX_take (i := 6) (oi := ⟨some 44, _, _, _, _, _⟩) (v := ?_) rfl (by kernel_rfl) (by kernel_rfl) (by kernel_rfl) (by kernel_rfl) (fun _ _ _ h => h) (Or.inl ⟨by kernel_rfl, ?_⟩) hS ?_
        rotate_left
        · intro w hSw
          try dsimp only at hSw
          go_simp
          try with_reducible rfl
        try simp only [Act.put, List.setIfInBounds_toArray, List.set_cons_zero, List.set_cons_succ]
        refine wpAnyX_ready (rs := [7]) (by kernel_rfl) (by simp) ?_
        refine AllReadyX.cons (o := ⟨some 45, _, _, _, _, _⟩) rfl (fun K hK => ?_) AllReadyX.nil
        (refine step_copyF _ rfl (.tmp 41) (.tmp 44) rfl g g n n (repF n k f) k (n - k) (n - k) ⟨g, 0, none⟩ k n (List.replicate m f) rfl rfl hownD (by rw [List.length_replicate, HM.out]) (by rw [List.length_replicate]; omega) (fracs_rep hownD.fracs hmk) ?_; intro w4 ho4 hg4)
        have hS0 := hS
        clear hS
        refine hK.out _ _ (fun _ => (hbelD.trans (below_of_grown hg4 (Nat.le_of_lt (hownD.block g rfl).2) (fun k hk => by injection hk with hk; omega)))) (fun hS => ?_)
        replace hS := hS (by kernel_rfl)
        clear hK K hS0
        try simp only [Act.put, List.setIfInBounds_toArray, List.set_cons_zero, List.set_cons_succ]
        refine wpAnyX_take (i := 8) (oi := ⟨some 46, _, _, _, _, _⟩) (v := ?_) rfl (by kernel_rfl) (by kernel_rfl) (by kernel_rfl) (by kernel_rfl) (fun _ _ _ h => h) (Or.inl ⟨by kernel_rfl, ?_⟩) hS ?_
        rotate_left
        · intro w hSw
          try dsimp only at hSw
          go_simp
          try with_reducible rfl
        try simp only [Act.put, List.setIfInBounds_toArray, List.set_cons_zero, List.set_cons_succ]
        refine wpAnyX_take (i := 9) (oi := ⟨some 8, _, _, _, _, _⟩) (v := ?_) rfl (by kernel_rfl) (by kernel_rfl) (by kernel_rfl) (by kernel_rfl) (fun _ _ _ h => h) (Or.inl ⟨by kernel_rfl, ?_⟩) hS ?_
        rotate_left
        · intro w hSw
          try dsimp only at hSw
          go_simp
          try with_reducible rfl
        try simp only [Act.put, List.setIfInBounds_toArray, List.set_cons_zero, List.set_cons_succ]
        refine wpAnyX_done (by kernel_rfl) ?_ _
        clear hwk
        have ho5 := ho4.congr (repF_lay (n := n) (f := f) m (k := k) hm3)
        go_wp2
        go_roundw
        case rel => exact ⟨k + m, by omega, hm3, val_int (by omega), ho5, hS⟩
        case measure => simp [intOf]; omega
      · obtain rfl : k = n := by omega
        clear hlt
        go_wp2
        go_ret
        have hg := HG.out
        subst hg
        have e : repF k k f = List.replicate k f := by simp [repF]
        rw [e] at hown
        exact newF_of hown hbel
end Go.Proofs.Ytiinfbjlkbjmmaa
