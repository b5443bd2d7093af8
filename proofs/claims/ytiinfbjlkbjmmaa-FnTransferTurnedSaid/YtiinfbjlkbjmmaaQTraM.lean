/-
  A new transfer: the state ahead of the first step.
-/
import Derived.Test.YtiinfbjlkbjmmaaQTraN
namespace Go.Proofs.Ytiinfbjlkbjmmaa
open Go.RowKit
set_option maxRecDepth 100000 in
/-- 'make([]bool, n)' in a region that draws. -/
theorem upon_makeB (w : World) {o : Oper} {a : Act} {K : Act → World → Prop} {Q : Exit → Act → World → Prop} (n : Nat) (hn : n ≤ 1099511627776)
    (hK : ∀ w', OwnB w' w.heap.size (some ⟨w.heap.size, 0, none⟩) n n (List.replicate n false) → Below w.heap.size w w' → K (a.put o.dst (.slice (some ⟨w.heap.size, 0, none⟩) n n)) w') :
    Oper.upon Try.prog o a K Q ((Sem.run Try.prog (Instr.makeSlice 44 (Value.int .i64 n) (Value.int .i64 n)) w).andThen fun a w' => Result.ok (Next.value a) w') := by
  obtain ⟨i0, hi, hz0, hz1, hz2⟩ := info_parts infoBool
  obtain ⟨w', hrun, r1, r2⟩ := run_make_full (P := Try.prog) w w.heap.size 44 4 i0 _ 1 Try.underlying44 hi hz0 hz1 .i64 .i64 n (by rw [hz2]; omega) (by simp only [maxLen]; omega) (Nat.le_refl _)
  have hown' : OwnB w' w.heap.size (some ⟨w.heap.size, 0, none⟩) n n (List.replicate n false) := by
    refine ⟨by simp, ?_⟩
    have e : (madeCells (Value.bool false).cells (n * 1)).toList = (List.replicate n false).map Value.bool := by
      simp only [madeCells, Value.cells, Nat.mul_one, List.map_replicate]
      simp [Nat.mod_one]
      rw [List.map_const']; simp
    rw [e] at r1
    exact r1
  have hrun' : Sem.run Try.prog (Instr.makeSlice 44 (Value.int .i64 n) (Value.int .i64 n)) w = .ok (.slice (some ⟨w.heap.size, 0, none⟩) n n) w' := hrun
  rw [hrun']
  exact hK w' hown' ⟨r2.os, r2.tape, r2.output, r2.size, fun k hk => r2.block k hk (by simp)⟩
/-- The state of a transfer: the pointed-to block, the weights, who has left. -/
structure Tr (w : World) (lo tb : Nat) (Aw : Option Addr) (cw gl : Nat) (A : Option Addr) (np c : Nat) (A2 : Option Addr) (n d2 : Nat) (ws : List Fr) (left : List Bool) (there seats quota : Int) : Prop where
  box : w.ownsRow lo 86 7 (.slice (some ⟨tb, 0, none⟩) 1 1) 1 [.slice A np c, .slice A2 n d2, .slice Aw np cw, .slice (some ⟨gl, 0, none⟩) n n, .int .i64 there, .int .i64 seats, .int .i64 quota]
  wts : OwnF w lo Aw np cw ws
  lft : OwnB w lo (some ⟨gl, 0, none⟩) n n left
section
variable {w w' : World} {lo tb cw gl np c n d2 : Nat} {Aw A A2 : Option Addr} {ws : List Fr} {left : List Bool} {there seats quota : Int}
set_option maxRecDepth 100000 in
theorem Tr.c0 (h : Tr w lo tb Aw cw gl A np c A2 n d2 ws left there seats quota) : w.cell? ⟨tb, 0, none⟩ = some (.slice A np c) := World.ownsRow.cells h.box (g := tb) rfl 0 _ rfl
set_option maxRecDepth 100000 in
theorem Tr.c1 (h : Tr w lo tb Aw cw gl A np c A2 n d2 ws left there seats quota) : w.cell? ⟨tb, 1, none⟩ = some (.slice A2 n d2) := World.ownsRow.cells h.box (g := tb) rfl 1 _ rfl
set_option maxRecDepth 100000 in
theorem Tr.c2 (h : Tr w lo tb Aw cw gl A np c A2 n d2 ws left there seats quota) : w.cell? ⟨tb, 2, none⟩ = some (.slice Aw np cw) := World.ownsRow.cells h.box (g := tb) rfl 2 _ rfl
set_option maxRecDepth 100000 in
theorem Tr.c3 (h : Tr w lo tb Aw cw gl A np c A2 n d2 ws left there seats quota) : w.cell? ⟨tb, 3, none⟩ = some (.slice (some ⟨gl, 0, none⟩) n n) := World.ownsRow.cells h.box (g := tb) rfl 3 _ rfl
set_option maxRecDepth 100000 in
theorem Tr.c4 (h : Tr w lo tb Aw cw gl A np c A2 n d2 ws left there seats quota) : w.cell? ⟨tb, 4, none⟩ = some (.int .i64 there) := World.ownsRow.cells h.box (g := tb) rfl 4 _ rfl
set_option maxRecDepth 100000 in
theorem Tr.c5 (h : Tr w lo tb Aw cw gl A np c A2 n d2 ws left there seats quota) : w.cell? ⟨tb, 5, none⟩ = some (.int .i64 seats) := World.ownsRow.cells h.box (g := tb) rfl 5 _ rfl
set_option maxRecDepth 100000 in
theorem Tr.c6 (h : Tr w lo tb Aw cw gl A np c A2 n d2 ws left there seats quota) : w.cell? ⟨tb, 6, none⟩ = some (.int .i64 quota) := World.ownsRow.cells h.box (g := tb) rfl 6 _ rfl
set_option maxRecDepth 100000 in
theorem Tr.fz (h : Tr w lo tb Aw cw gl A np c A2 n d2 ws left there seats quota) (i : Nat) : w.frozen? ⟨tb, i, none⟩ = false := World.ownsRow.frozenAt h.box i
set_option maxRecDepth 100000 in
theorem Tr.lt (h : Tr w lo tb Aw cw gl A np c A2 n d2 ws left there seats quota) : lo ≤ tb ∧ tb < w.heap.size := World.ownsRow.lt h.box tb rfl
set_option maxRecDepth 100000 in
theorem Tr.below (h : Tr w lo tb Aw cw gl A np c A2 n d2 ws left there seats quota) (hb : Below w.heap.size w w') : Tr w' lo tb Aw cw gl A np c A2 n d2 ws left there seats quota :=
  ⟨World.ownsRow.kept h.box (row := none) ⟨hb.os, hb.tape, hb.output, hb.size, fun k hk _ => hb.block k hk⟩ (.inr (by simp [Value.ownBlock])), h.wts.below hb, h.lft.below hb⟩
set_option maxRecDepth 100000 in
theorem Tr.drew (h : Tr w lo tb Aw cw gl A np c A2 n d2 ws left there seats quota) : Tr w.drew lo tb Aw cw gl A np c A2 n d2 ws left there seats quota := ⟨h.box, h.wts.drew, h.lft⟩
set_option maxRecDepth 100000 in
theorem Tr.drewN (h : Tr w lo tb Aw cw gl A np c A2 n d2 ws left there seats quota) (m : Nat) : Tr (w.drewN m) lo tb Aw cw gl A np c A2 n d2 ws left there seats quota := ⟨h.box, h.wts.drewN m, h.lft⟩
set_option maxRecDepth 100000 in
/-- A number of the state is written. -/
theorem Tr.box_set (h : Tr w lo tb Aw cw gl A np c A2 n d2 ws left there seats quota) (i : Nat) (v : Int) : (w.setCell ⟨tb, i, none⟩ (.int .i64 v)).ownsRow lo 86 7 (.slice (some ⟨tb, 0, none⟩) 1 1) 1 ([.slice A np c, .slice A2 n d2, .slice Aw np cw, .slice (some ⟨gl, 0, none⟩) n n, .int .i64 there, .int .i64 seats, .int .i64 quota].set i (.int .i64 v)) :=
  (World.ownsRow.stored h.box i (.int .i64 v)).1
set_option maxRecDepth 100000 in
theorem Tr.far (h : Tr w lo tb Aw cw gl A np c A2 n d2 ws left there seats quota) (i : Nat) (v : Int) : OwnF (w.setCell ⟨tb, i, none⟩ (.int .i64 v)) lo Aw np cw ws ∧ OwnB (w.setCell ⟨tb, i, none⟩ (.int .i64 v)) lo (some ⟨gl, 0, none⟩) n n left := by
  have hg := grown_setCell (grown_refl w (some tb)) i (.int .i64 v)
  refine ⟨h.wts.grown hg (fun k hk e => ?_), h.lft.grownB hg (fun k hk e => ?_)⟩
  · injection hk with hk
    subst hk
    exact own_ne h.box h.wts.row (by decide) rfl e
  · injection hk with hk
    subst hk
    exact own_ne h.box h.lft.2 (by decide) rfl e
set_option maxRecDepth 100000 in
theorem Tr.setThere (h : Tr w lo tb Aw cw gl A np c A2 n d2 ws left there seats quota) (v : Int) : Tr (w.setCell ⟨tb, 4, none⟩ (.int .i64 v)) lo tb Aw cw gl A np c A2 n d2 ws left v seats quota := ⟨h.box_set 4 v, (h.far 4 v).1, (h.far 4 v).2⟩
set_option maxRecDepth 100000 in
theorem Tr.setSeats (h : Tr w lo tb Aw cw gl A np c A2 n d2 ws left there seats quota) (v : Int) : Tr (w.setCell ⟨tb, 5, none⟩ (.int .i64 v)) lo tb Aw cw gl A np c A2 n d2 ws left there v quota := ⟨h.box_set 5 v, (h.far 5 v).1, (h.far 5 v).2⟩
set_option maxRecDepth 100000 in
theorem Tr.setLeft (h : Tr w lo tb Aw cw gl A np c A2 n d2 ws left there seats quota) (k : Nat) (b : Bool) : Tr (w.setCell ⟨gl, k, none⟩ (.bool b)) lo tb Aw cw gl A np c A2 n d2 ws (left.set k b) there seats quota := by
  have hg := grown_setCell (grown_refl w (some gl)) k (.bool b)
  refine ⟨World.ownsRow.kept h.box hg (.inr (fun e => ?_)), h.wts.grown hg (fun x hx e => ?_), h.lft.setB k b⟩
  · injection e with e
    have e : tb = gl := e
    subst e
    exact own_ne h.box h.lft.2 (by decide) rfl rfl
  · injection hx with hx
    subst hx
    exact own_ne h.lft.2 h.wts.row (by decide) rfl e
set_option maxRecDepth 100000 in
/-- A weight is written. -/
theorem Tr.setW {gw : Nat} (h : Tr w lo tb (some ⟨gw, 0, none⟩) cw gl A np c A2 n d2 ws left there seats quota) (k : Nat) (f : Fr) : Tr ((w.setCell ⟨gw, k * 2, none⟩ (.int .i64 f.1)).setCell ⟨gw, k * 2 + 1, none⟩ (.int .i64 f.2)) lo tb (some ⟨gw, 0, none⟩) cw gl A np c A2 n d2 (ws.set k f) left there seats quota := by
  have hg := grown_setCell (grown_setCell (grown_refl w (some gw)) (k * 2) (.int .i64 (f.1 : Int))) (k * 2 + 1) (.int .i64 (f.2 : Int))
  refine ⟨World.ownsRow.kept h.box hg (.inr (fun e => ?_)), h.wts.set k f, h.lft.grownB hg (fun x hx e => ?_)⟩
  · injection e with e
    have e : tb = gw := e
    subst e
    exact own_ne h.box h.wts.row (by decide) rfl rfl
  · injection hx with hx
    subst hx
    exact own_ne h.wts.row h.lft.2 (by decide) rfl e
end
def NewTr (w : World) (A : Option Addr) (np c : Nat) (A2 : Option Addr) (n c2 : Nat) (ws : List Fr) (left : List Bool) (there seats quota : Int) (e : Ending) (w' : World) : Prop :=
  ∃ tb Aw cw gl, e = .returned (.pointer (some ⟨tb, 0, none⟩)) ∧ Tr w' w.heap.size tb Aw cw gl A np c A2 n c2 ws left there seats quota ∧ Below w.heap.size w w'
set_option maxRecDepth 100000 in
theorem fracs_box {w : World} {k x y : Nat} (h : BoxF w k x y) : Fracs w (some ⟨k, 0, none⟩) [(x, y)] := OwnF.fracs h
set_option maxRecDepth 100000 in
set_option maxHeartbeats 800000 in
theorem transferQuota_any (t s : Nat) (w : World) (ht : t ≤ 60) (hs1 : 1 ≤ s) (hs2 : s ≤ 2) : Calls Try.prog 80 #[.int .i64 t, .int .i64 s] w (Ret w (.int .i64 (quoT t s))) := by
  obtain ⟨qq, hqd, hq60, hqq⟩ := quo_nat t s ht
  obtain ⟨s1, hs1e, hs10⟩ : ∃ s1 : Nat, (s : Int) + 1 = (s1 : Int) ∧ s1 = s + 1 := ⟨s + 1, by omega, rfl⟩
  rw [← hs10] at hqd
  have hs1z : ¬ (s1 : Int) = 0 := by omega
  obtain ⟨q, hqi, hqe⟩ : ∃ q : Nat, (qq : Int) + 1 = (q : Int) ∧ q = qq + 1 := ⟨qq + 1, by omega, rfl⟩
  have HQ := Lib.hid (show quoT t s = q by rw [hqq.out, hqe])
  clear hqe hqq hs10
  go_enter Try.func80, Try.ntmps80
  go_wp2
  go_ret
  exact ⟨ret_int (by rw [HQ.out]), rfl⟩
set_option maxRecDepth 100000 in
set_option maxHeartbeats 6400000 in
theorem newTransfer_any (A A2 : Option Addr) (ps : List (ByteArray × Int)) (lots : List Int) (c c2 s : Nat) (w : World) (h : PilesI w A ps) (hv : Hid (psv ps = true)) (ht : Hid (totM ps ≤ 60)) (hl5 : lots.length ≤ 5) (hs1 : 1 ≤ s) (hs2 : s ≤ 2) :
    Calls Try.prog 50 #[.slice A ps.length c, .slice A2 lots.length c2, .int .i64 s] w (NewTr w A ps.length c A2 lots.length c2 (List.replicate ps.length (1, 1)) (List.replicate lots.length false) lots.length s (quoT (totM ps).toNat s)) := by
  have hl := psv_len hv.out
  obtain ⟨T, hT⟩ : ∃ T : Nat, totM ps = (T : Int) := ⟨(totM ps).toNat, by have := (totM_bd hl (fun p hp => (pv_iff.1 (psv_mem hv.out hp)).2) ps.length).1; rw [List.take_length] at this; omega⟩
  have hT60 : T ≤ 60 := by have := ht.out; omega
  have hTF : totF ps = (T : Int) := by unfold totF; rw [hv.out, if_pos rfl]; exact hT
  have cT := Lib.hid (fun w (h : PilesI w A ps) => pilesTotal_any A ps c w h (by omega))
  rw [hTF] at cT
  have cQ := Lib.hid (fun w => transferQuota_any T s w hT60 hs1 hs2)
  rw [hT, Int.toNat_natCast]
  generalize quoT T s = q at *
  have cR := Lib.hid (fun b w (h : Fracs w (some ⟨b, 0, none⟩) [((1 : Nat), (1 : Nat))]) => newF_len (sRepeat_any ⟨b, 0, none⟩ 1 1 ps.length 1 w h (by omega)) (n := ps.length) (by simp))
  clear hT hTF
  go_enter Try.func50, Try.ntmps50
  go_wp2
  refine wp_region_X (fun w' => Below w.heap.size w w' ∧ PilesI w' A ps) 1000 (by kernel_rfl) ?_ (fun hS => ?_)
  · exact ⟨(Below.refl _ _).drew, h.drew⟩
  generalize w.drew = wc at *
  refine wpAnyX_take (i := 0) (oi := ⟨some 7, _, _, _, _, _⟩) (v := ?_) rfl (by kernel_rfl) (by kernel_rfl) (by kernel_rfl) (by kernel_rfl) (fun _ _ _ h => h) (Or.inl ⟨by kernel_rfl, ?_⟩) hS ?_
  rotate_left
  · intro w hSw
    try dsimp only at hSw
    go_simp
    try with_reducible rfl
  try simp only [Act.put, List.setIfInBounds_toArray, List.set_cons_zero, List.set_cons_succ]
  refine wpAnyX_take (i := 1) (oi := ⟨some 8, _, _, _, _, _⟩) (v := ?_) rfl (by kernel_rfl) (by kernel_rfl) (by kernel_rfl) (by kernel_rfl) (fun _ _ _ h => h) (Or.inl ⟨by kernel_rfl, ?_⟩) hS ?_
  rotate_left
  · intro w hSw
    try dsimp only at hSw
    go_simp
    try with_reducible rfl
  try simp only [Act.put, List.setIfInBounds_toArray, List.set_cons_zero, List.set_cons_succ]
  refine wpAnyX_take (i := 2) (oi := ⟨some 9, _, _, _, _, _⟩) (v := ?_) rfl (by kernel_rfl) (by kernel_rfl) (by kernel_rfl) (by kernel_rfl) (fun _ _ _ h => h) (Or.inl ⟨by kernel_rfl, ?_⟩) hS ?_
  rotate_left
  · intro w hSw
    try dsimp only at hSw
    go_simp
    try with_reducible rfl
  try simp only [Act.put, List.setIfInBounds_toArray, List.set_cons_zero, List.set_cons_succ]
  refine wpAnyX_take (i := 4) (oi := ⟨some 11, _, _, _, _, _⟩) (v := ?_) rfl (by kernel_rfl) (by kernel_rfl) (by kernel_rfl) (by kernel_rfl) (fun _ _ _ h => h) (Or.inl ⟨by kernel_rfl, ?_⟩) hS ?_
  rotate_left
  · intro w hSw
    try dsimp only at hSw
    go_simp
    try with_reducible rfl
  try simp only [Act.put, List.setIfInBounds_toArray, List.set_cons_zero, List.set_cons_succ]
  refine wpAnyX_take (i := 5) (oi := ⟨some 12, _, _, _, _, _⟩) (v := ?_) rfl (by kernel_rfl) (by kernel_rfl) (by kernel_rfl) (by kernel_rfl) (fun _ _ _ h => h) (Or.inl ⟨by kernel_rfl, ?_⟩) hS ?_
  rotate_left
  · intro w hSw
    try dsimp only at hSw
    go_simp
    try with_reducible rfl
  try simp only [Act.put, List.setIfInBounds_toArray, List.set_cons_zero, List.set_cons_succ]
  refine wpAnyX_take (i := 7) (oi := ⟨some 14, _, _, _, _, _⟩) (v := ?_) rfl (by kernel_rfl) (by kernel_rfl) (by kernel_rfl) (by kernel_rfl) (fun _ _ _ h => h) (Or.inl ⟨by kernel_rfl, ?_⟩) hS ?_
  rotate_left
  · intro w hSw
    try dsimp only at hSw
    go_simp
    try with_reducible rfl
  try simp only [Act.put, List.setIfInBounds_toArray, List.set_cons_zero, List.set_cons_succ]
  refine wpAnyX_take (i := 8) (oi := ⟨some 15, _, _, _, _, _⟩) (v := ?_) rfl (by kernel_rfl) (by kernel_rfl) (by kernel_rfl) (by kernel_rfl) (fun _ _ _ h => h) (Or.inl ⟨by kernel_rfl, ?_⟩) hS ?_
  rotate_left
  · intro w hSw
    try dsimp only at hSw
    go_simp
    try with_reducible rfl
  try simp only [Act.put, List.setIfInBounds_toArray, List.set_cons_zero, List.set_cons_succ]
  refine wpAnyX_take (i := 10) (oi := ⟨some 17, _, _, _, _, _⟩) (v := ?_) rfl (by kernel_rfl) (by kernel_rfl) (by kernel_rfl) (by kernel_rfl) (fun _ _ _ h => h) (Or.inl ⟨by kernel_rfl, ?_⟩) hS ?_
  rotate_left
  · intro w hSw
    try dsimp only at hSw
    go_simp
    try with_reducible rfl
  try simp only [Act.put, List.setIfInBounds_toArray, List.set_cons_zero, List.set_cons_succ]
  refine wpAnyX_take (i := 11) (oi := ⟨some 18, _, _, _, _, _⟩) (v := ?_) rfl (by kernel_rfl) (by kernel_rfl) (by kernel_rfl) (by kernel_rfl) (fun _ _ _ h => h) (Or.inl ⟨by kernel_rfl, ?_⟩) hS ?_
  rotate_left
  · intro w hSw
    try dsimp only at hSw
    go_simp
    try with_reducible rfl
  try simp only [Act.put, List.setIfInBounds_toArray, List.set_cons_zero, List.set_cons_succ]
  refine wpAnyX_take (i := 12) (oi := ⟨some 19, _, _, _, _, _⟩) (v := ?_) rfl (by kernel_rfl) (by kernel_rfl) (by kernel_rfl) (by kernel_rfl) (fun _ _ _ h => h) (Or.inl ⟨by kernel_rfl, ?_⟩) hS ?_
  rotate_left
  · intro w hSw
    try dsimp only at hSw
    go_simp
    try with_reducible rfl
  try simp only [Act.put, List.setIfInBounds_toArray, List.set_cons_zero, List.set_cons_succ]
  refine wpAnyX_take (i := 13) (oi := ⟨some 20, _, _, _, _, _⟩) (v := ?_) rfl (by kernel_rfl) (by kernel_rfl) (by kernel_rfl) (by kernel_rfl) (fun _ _ _ h => h) (Or.inl ⟨by kernel_rfl, ?_⟩) hS ?_
  rotate_left
  · intro w hSw
    try dsimp only at hSw
    go_simp
    try with_reducible rfl
  try simp only [Act.put, List.setIfInBounds_toArray, List.set_cons_zero, List.set_cons_succ]
  refine wpAnyX_take (i := 15) (oi := ⟨some 22, _, _, _, _, _⟩) (v := ?_) rfl (by kernel_rfl) (by kernel_rfl) (by kernel_rfl) (by kernel_rfl) (fun _ _ _ h => h) (Or.inl ⟨by kernel_rfl, ?_⟩) hS ?_
  rotate_left
  · intro w hSw
    try dsimp only at hSw
    go_simp
    try with_reducible rfl
  try simp only [Act.put, List.setIfInBounds_toArray, List.set_cons_zero, List.set_cons_succ]
  refine wpAnyX_ready (rs := [3, 9]) (by kernel_rfl) (by simp) ?_
  refine AllReadyX.cons (o := ⟨some 10, _, _, _, _, _⟩) rfl (fun K hK => ?_) (AllReadyX.cons (o := ⟨some 16, _, _, _, _, _⟩) rfl (fun K hK => ?_) AllReadyX.nil)
  · go_simp
    have hb := (Below.refl wc.heap.size wc).alloc (Nat.le_refl _) (.cells #[.int .i64 1, .int .i64 1] 75)
    have hX : Fracs (wc.alloc (.cells #[.int .i64 1, .int .i64 1] 75)) (some ⟨wc.heap.size, 0, none⟩) [(1, 1)] := fracs_box (boxF_new wc 1 1)
    have hS0 := hS
    clear hS
    refine hK.out _ _ (fun _ => ⟨below_down hS0.1 hb, hS0.2.below hb⟩) (fun hS => ?_)
    replace hS := hS (by kernel_rfl)
    clear hK K hS0 hb
    try simp only [Act.put, List.setIfInBounds_toArray, List.set_cons_zero, List.set_cons_succ]
    generalize wc.alloc (.cells #[.int .i64 1, .int .i64 1] 75) = w1 at *
    generalize wc.heap.size = bx at *
    refine wpAnyX_ready (rs := [6, 9]) (by kernel_rfl) (by simp) ?_
    refine AllReadyX.cons (o := ⟨some 13, _, _, _, _, _⟩) rfl (fun K hK => ?_) (AllReadyX.cons (o := ⟨some 16, _, _, _, _, _⟩) rfl (fun K hK => ?_) AllReadyX.nil)
    · go_simp
      go_at_call 79
      refine (cR.out _ _ hX).mono ?_
      rintro e w2 ⟨Aw, cw, rfl, hW, hb⟩
      have hW := hW.mono hS.1.size
      clear hX
      have hS0 := hS
      clear hS
      refine hK.out _ _ (fun _ => ⟨below_down hS0.1 hb, hS0.2.below hb⟩) (fun hS => ?_)
      replace hS := hS (by kernel_rfl)
      clear hK K hS0 hb
      try simp only [Act.put, List.setIfInBounds_toArray, List.set_cons_zero, List.set_cons_succ]
      refine wpAnyX_ready (rs := [9, 14]) (by kernel_rfl) (by simp) ?_
      refine AllReadyX.cons (o := ⟨some 16, _, _, _, _, _⟩) rfl (fun K hK => ?_) (AllReadyX.cons (o := ⟨some 21, _, _, _, _, _⟩) rfl (fun K hK => ?_) AllReadyX.nil)
      · go_simp
        refine upon_makeB _ lots.length (by omega) ?_
        intro w3 hL hb
        have hL := hL.mono hS.1.size
        have hW := hW.below hb
        have hS0 := hS
        clear hS
        refine hK.out _ _ (fun _ => ⟨below_down hS0.1 hb, hS0.2.below hb⟩) (fun hS => ?_)
        replace hS := hS (by kernel_rfl)
        clear hK K hS0 hb
        try simp only [Act.put, List.setIfInBounds_toArray, List.set_cons_zero, List.set_cons_succ]
        generalize w2.heap.size = gl at hL ⊢
        refine wpAnyX_ready (rs := [14]) (by kernel_rfl) (by simp) ?_
        refine AllReadyX.cons (o := ⟨some 21, _, _, _, _, _⟩) rfl (fun K hK => ?_) AllReadyX.nil
        go_simp
        go_at_call 24
        refine (cT.out _ hS.2).mono ?_
        rintro e w4 ⟨rfl, hb⟩
        have hW := hW.below hb
        have hL := hL.below hb
        have hS0 := hS
        clear hS
        refine hK.out _ _ (fun _ => ⟨below_down hS0.1 hb, hS0.2.below hb⟩) (fun hS => ?_)
        replace hS := hS (by kernel_rfl)
        clear hK K hS0 hb
        try simp only [Act.put, List.setIfInBounds_toArray, List.set_cons_zero, List.set_cons_succ]
        refine wpAnyX_ready (rs := [16]) (by kernel_rfl) (by simp) ?_
        refine AllReadyX.cons (o := ⟨some 23, _, _, _, _, _⟩) rfl (fun K hK => ?_) AllReadyX.nil
        go_simp
        go_at_call 80
        refine (cQ.out _).mono ?_
        rintro e w5 ⟨rfl, hb0⟩
        subst hb0
        have hb := Below.refl w4.heap.size w4
        have hS0 := hS
        clear hS
        refine hK.out _ _ (fun _ => ⟨below_down hS0.1 hb, hS0.2.below hb⟩) (fun hS => ?_)
        replace hS := hS (by kernel_rfl)
        clear hK K hS0 hb
        try simp only [Act.put, List.setIfInBounds_toArray, List.set_cons_zero, List.set_cons_succ]
        refine wpAnyX_take (i := 17) (oi := ⟨some 24, _, _, _, _, _⟩) (v := ?_) rfl (by kernel_rfl) (by kernel_rfl) (by kernel_rfl) (by kernel_rfl) (fun _ _ _ h => h) (Or.inl ⟨by kernel_rfl, ?_⟩) hS ?_
        rotate_left
        · intro w hSw
          try dsimp only at hSw
          go_simp
          try with_reducible rfl
        try simp only [Act.put, List.setIfInBounds_toArray, List.set_cons_zero, List.set_cons_succ]
        refine wpAnyX_ready (rs := [18]) (by kernel_rfl) (by simp) ?_
        refine AllReadyX.cons (o := ⟨some 25, _, _, _, _, _⟩) rfl (fun K hK => ?_) AllReadyX.nil
        go_simp
        have hBx : Below w4.heap.size w4 (w4.alloc (.cells #[.slice A ps.length c, .slice A2 lots.length c2, .slice Aw ps.length cw, .slice (some ⟨gl, 0, none⟩) lots.length lots.length, .int .i64 (lots.length : Int), .int .i64 (s : Int), .int .i64 (q : Int)] 86)) := (Below.refl _ _).alloc (Nat.le_refl _) _
        have hTr : Tr (w4.alloc (.cells #[.slice A ps.length c, .slice A2 lots.length c2, .slice Aw ps.length cw, .slice (some ⟨gl, 0, none⟩) lots.length lots.length, .int .i64 (lots.length : Int), .int .i64 (s : Int), .int .i64 (q : Int)] 86)) w.heap.size w4.heap.size Aw cw gl A ps.length c A2 lots.length c2 (List.replicate ps.length (1, 1)) (List.replicate lots.length false) lots.length s q := ⟨⟨rfl, .inr ⟨w4.heap.size, 1, _, rfl, hS.1.size, heap_alloc_new w4 _, by omega, by simp [maxLen], rfl, rfl⟩⟩, hW.below hBx, hL.below hBx⟩
        have hBB := below_down hS.1 hBx
        have hS0 := hS
        clear hS
        refine hK.out _ _ (fun _ => ⟨hBB, hS0.2.below hBx⟩) (fun hS => ?_)
        replace hS := hS (by kernel_rfl)
        clear hK K hS0
        try simp only [Act.put, List.setIfInBounds_toArray, List.set_cons_zero, List.set_cons_succ]
        refine wpAnyX_take (i := 19) (oi := ⟨some 6, _, _, _, _, _⟩) (v := ?_) rfl (by kernel_rfl) (by kernel_rfl) (by kernel_rfl) (by kernel_rfl) (fun _ _ _ h => h) (Or.inl ⟨by kernel_rfl, ?_⟩) hS ?_
        rotate_left
        · intro w hSw
          try dsimp only at hSw
          go_simp
          try with_reducible rfl
        try simp only [Act.put, List.setIfInBounds_toArray, List.set_cons_zero, List.set_cons_succ]
        refine wpAnyX_done (by kernel_rfl) ?_ _
        go_wp2
        go_ret
        exact ⟨_, _, _, _, rfl, hTr, hBB⟩
      · go_simp
        go_at_call 24
        refine (cT.out _ hS.2).mono ?_
        rintro e w6 ⟨rfl, hb⟩
        have hW := hW.below hb
        have hS0 := hS
        clear hS
        refine hK.out _ _ (fun _ => ⟨below_down hS0.1 hb, hS0.2.below hb⟩) (fun hS => ?_)
        replace hS := hS (by kernel_rfl)
        clear hK K hS0 hb
        try simp only [Act.put, List.setIfInBounds_toArray, List.set_cons_zero, List.set_cons_succ]
        refine wpAnyX_ready (rs := [9, 16]) (by kernel_rfl) (by simp) ?_
        refine AllReadyX.cons (o := ⟨some 16, _, _, _, _, _⟩) rfl (fun K hK => ?_) (AllReadyX.cons (o := ⟨some 23, _, _, _, _, _⟩) rfl (fun K hK => ?_) AllReadyX.nil)
        · go_simp
          refine upon_makeB _ lots.length (by omega) ?_
          intro w7 hL hb
          have hL := hL.mono hS.1.size
          have hW := hW.below hb
          have hS0 := hS
          clear hS
          refine hK.out _ _ (fun _ => ⟨below_down hS0.1 hb, hS0.2.below hb⟩) (fun hS => ?_)
          replace hS := hS (by kernel_rfl)
          clear hK K hS0 hb
          try simp only [Act.put, List.setIfInBounds_toArray, List.set_cons_zero, List.set_cons_succ]
          generalize w6.heap.size = gl at hL ⊢
          refine wpAnyX_ready (rs := [16]) (by kernel_rfl) (by simp) ?_
          refine AllReadyX.cons (o := ⟨some 23, _, _, _, _, _⟩) rfl (fun K hK => ?_) AllReadyX.nil
          go_simp
          go_at_call 80
          refine (cQ.out _).mono ?_
          rintro e w8 ⟨rfl, hb0⟩
          subst hb0
          have hb := Below.refl w7.heap.size w7
          have hS0 := hS
          clear hS
          refine hK.out _ _ (fun _ => ⟨below_down hS0.1 hb, hS0.2.below hb⟩) (fun hS => ?_)
          replace hS := hS (by kernel_rfl)
          clear hK K hS0 hb
          try simp only [Act.put, List.setIfInBounds_toArray, List.set_cons_zero, List.set_cons_succ]
          refine wpAnyX_take (i := 17) (oi := ⟨some 24, _, _, _, _, _⟩) (v := ?_) rfl (by kernel_rfl) (by kernel_rfl) (by kernel_rfl) (by kernel_rfl) (fun _ _ _ h => h) (Or.inl ⟨by kernel_rfl, ?_⟩) hS ?_
          rotate_left
          · intro w hSw
            try dsimp only at hSw
            go_simp
            try with_reducible rfl
          try simp only [Act.put, List.setIfInBounds_toArray, List.set_cons_zero, List.set_cons_succ]
          refine wpAnyX_ready (rs := [18]) (by kernel_rfl) (by simp) ?_
          refine AllReadyX.cons (o := ⟨some 25, _, _, _, _, _⟩) rfl (fun K hK => ?_) AllReadyX.nil
          go_simp
          have hBx : Below w7.heap.size w7 (w7.alloc (.cells #[.slice A ps.length c, .slice A2 lots.length c2, .slice Aw ps.length cw, .slice (some ⟨gl, 0, none⟩) lots.length lots.length, .int .i64 (lots.length : Int), .int .i64 (s : Int), .int .i64 (q : Int)] 86)) := (Below.refl _ _).alloc (Nat.le_refl _) _
          have hTr : Tr (w7.alloc (.cells #[.slice A ps.length c, .slice A2 lots.length c2, .slice Aw ps.length cw, .slice (some ⟨gl, 0, none⟩) lots.length lots.length, .int .i64 (lots.length : Int), .int .i64 (s : Int), .int .i64 (q : Int)] 86)) w.heap.size w7.heap.size Aw cw gl A ps.length c A2 lots.length c2 (List.replicate ps.length (1, 1)) (List.replicate lots.length false) lots.length s q := ⟨⟨rfl, .inr ⟨w7.heap.size, 1, _, rfl, hS.1.size, heap_alloc_new w7 _, by omega, by simp [maxLen], rfl, rfl⟩⟩, hW.below hBx, hL.below hBx⟩
          have hBB := below_down hS.1 hBx
          have hS0 := hS
          clear hS
          refine hK.out _ _ (fun _ => ⟨hBB, hS0.2.below hBx⟩) (fun hS => ?_)
          replace hS := hS (by kernel_rfl)
          clear hK K hS0
          try simp only [Act.put, List.setIfInBounds_toArray, List.set_cons_zero, List.set_cons_succ]
          refine wpAnyX_take (i := 19) (oi := ⟨some 6, _, _, _, _, _⟩) (v := ?_) rfl (by kernel_rfl) (by kernel_rfl) (by kernel_rfl) (by kernel_rfl) (fun _ _ _ h => h) (Or.inl ⟨by kernel_rfl, ?_⟩) hS ?_
          rotate_left
          · intro w hSw
            try dsimp only at hSw
            go_simp
            try with_reducible rfl
          try simp only [Act.put, List.setIfInBounds_toArray, List.set_cons_zero, List.set_cons_succ]
          refine wpAnyX_done (by kernel_rfl) ?_ _
          go_wp2
          go_ret
          exact ⟨_, _, _, _, rfl, hTr, hBB⟩
        · go_simp
          go_at_call 80
          refine (cQ.out _).mono ?_
          rintro e w9 ⟨rfl, hb0⟩
          subst hb0
          have hb := Below.refl w6.heap.size w6
          have hS0 := hS
          clear hS
          refine hK.out _ _ (fun _ => ⟨below_down hS0.1 hb, hS0.2.below hb⟩) (fun hS => ?_)
          replace hS := hS (by kernel_rfl)
          clear hK K hS0 hb
          try simp only [Act.put, List.setIfInBounds_toArray, List.set_cons_zero, List.set_cons_succ]
          refine wpAnyX_ready (rs := [9]) (by kernel_rfl) (by simp) ?_
          refine AllReadyX.cons (o := ⟨some 16, _, _, _, _, _⟩) rfl (fun K hK => ?_) AllReadyX.nil
          go_simp
          refine upon_makeB _ lots.length (by omega) ?_
          intro w10 hL hb
          have hL := hL.mono hS.1.size
          have hW := hW.below hb
          have hS0 := hS
          clear hS
          refine hK.out _ _ (fun _ => ⟨below_down hS0.1 hb, hS0.2.below hb⟩) (fun hS => ?_)
          replace hS := hS (by kernel_rfl)
          clear hK K hS0 hb
          try simp only [Act.put, List.setIfInBounds_toArray, List.set_cons_zero, List.set_cons_succ]
          generalize w6.heap.size = gl at hL ⊢
          refine wpAnyX_take (i := 17) (oi := ⟨some 24, _, _, _, _, _⟩) (v := ?_) rfl (by kernel_rfl) (by kernel_rfl) (by kernel_rfl) (by kernel_rfl) (fun _ _ _ h => h) (Or.inl ⟨by kernel_rfl, ?_⟩) hS ?_
          rotate_left
          · intro w hSw
            try dsimp only at hSw
            go_simp
            try with_reducible rfl
          try simp only [Act.put, List.setIfInBounds_toArray, List.set_cons_zero, List.set_cons_succ]
          refine wpAnyX_ready (rs := [18]) (by kernel_rfl) (by simp) ?_
          refine AllReadyX.cons (o := ⟨some 25, _, _, _, _, _⟩) rfl (fun K hK => ?_) AllReadyX.nil
          go_simp
          have hBx : Below w10.heap.size w10 (w10.alloc (.cells #[.slice A ps.length c, .slice A2 lots.length c2, .slice Aw ps.length cw, .slice (some ⟨gl, 0, none⟩) lots.length lots.length, .int .i64 (lots.length : Int), .int .i64 (s : Int), .int .i64 (q : Int)] 86)) := (Below.refl _ _).alloc (Nat.le_refl _) _
          have hTr : Tr (w10.alloc (.cells #[.slice A ps.length c, .slice A2 lots.length c2, .slice Aw ps.length cw, .slice (some ⟨gl, 0, none⟩) lots.length lots.length, .int .i64 (lots.length : Int), .int .i64 (s : Int), .int .i64 (q : Int)] 86)) w.heap.size w10.heap.size Aw cw gl A ps.length c A2 lots.length c2 (List.replicate ps.length (1, 1)) (List.replicate lots.length false) lots.length s q := ⟨⟨rfl, .inr ⟨w10.heap.size, 1, _, rfl, hS.1.size, heap_alloc_new w10 _, by omega, by simp [maxLen], rfl, rfl⟩⟩, hW.below hBx, hL.below hBx⟩
          have hBB := below_down hS.1 hBx
          have hS0 := hS
          clear hS
          refine hK.out _ _ (fun _ => ⟨hBB, hS0.2.below hBx⟩) (fun hS => ?_)
          replace hS := hS (by kernel_rfl)
          clear hK K hS0
          try simp only [Act.put, List.setIfInBounds_toArray, List.set_cons_zero, List.set_cons_succ]
          refine wpAnyX_take (i := 19) (oi := ⟨some 6, _, _, _, _, _⟩) (v := ?_) rfl (by kernel_rfl) (by kernel_rfl) (by kernel_rfl) (by kernel_rfl) (fun _ _ _ h => h) (Or.inl ⟨by kernel_rfl, ?_⟩) hS ?_
          rotate_left
          · intro w hSw
            try dsimp only at hSw
            go_simp
            try with_reducible rfl
          try simp only [Act.put, List.setIfInBounds_toArray, List.set_cons_zero, List.set_cons_succ]
          refine wpAnyX_done (by kernel_rfl) ?_ _
          go_wp2
          go_ret
          exact ⟨_, _, _, _, rfl, hTr, hBB⟩
    · go_simp
      refine upon_makeB _ lots.length (by omega) ?_
      intro w11 hL hb
      have hL := hL.mono hS.1.size
      have hX := hX.below hb
      have hS0 := hS
      clear hS
      refine hK.out _ _ (fun _ => ⟨below_down hS0.1 hb, hS0.2.below hb⟩) (fun hS => ?_)
      replace hS := hS (by kernel_rfl)
      clear hK K hS0 hb
      try simp only [Act.put, List.setIfInBounds_toArray, List.set_cons_zero, List.set_cons_succ]
      generalize w1.heap.size = gl at hL ⊢
      refine wpAnyX_ready (rs := [6]) (by kernel_rfl) (by simp) ?_
      refine AllReadyX.cons (o := ⟨some 13, _, _, _, _, _⟩) rfl (fun K hK => ?_) AllReadyX.nil
      go_simp
      go_at_call 79
      refine (cR.out _ _ hX).mono ?_
      rintro e w12 ⟨Aw, cw, rfl, hW, hb⟩
      have hW := hW.mono hS.1.size
      clear hX
      have hL := hL.below hb
      have hS0 := hS
      clear hS
      refine hK.out _ _ (fun _ => ⟨below_down hS0.1 hb, hS0.2.below hb⟩) (fun hS => ?_)
      replace hS := hS (by kernel_rfl)
      clear hK K hS0 hb
      try simp only [Act.put, List.setIfInBounds_toArray, List.set_cons_zero, List.set_cons_succ]
      refine wpAnyX_ready (rs := [14]) (by kernel_rfl) (by simp) ?_
      refine AllReadyX.cons (o := ⟨some 21, _, _, _, _, _⟩) rfl (fun K hK => ?_) AllReadyX.nil
      go_simp
      go_at_call 24
      refine (cT.out _ hS.2).mono ?_
      rintro e w13 ⟨rfl, hb⟩
      have hL := hL.below hb
      have hW := hW.below hb
      have hS0 := hS
      clear hS
      refine hK.out _ _ (fun _ => ⟨below_down hS0.1 hb, hS0.2.below hb⟩) (fun hS => ?_)
      replace hS := hS (by kernel_rfl)
      clear hK K hS0 hb
      try simp only [Act.put, List.setIfInBounds_toArray, List.set_cons_zero, List.set_cons_succ]
      refine wpAnyX_ready (rs := [16]) (by kernel_rfl) (by simp) ?_
      refine AllReadyX.cons (o := ⟨some 23, _, _, _, _, _⟩) rfl (fun K hK => ?_) AllReadyX.nil
      go_simp
      go_at_call 80
      refine (cQ.out _).mono ?_
      rintro e w14 ⟨rfl, hb0⟩
      subst hb0
      have hb := Below.refl w13.heap.size w13
      have hS0 := hS
      clear hS
      refine hK.out _ _ (fun _ => ⟨below_down hS0.1 hb, hS0.2.below hb⟩) (fun hS => ?_)
      replace hS := hS (by kernel_rfl)
      clear hK K hS0 hb
      try simp only [Act.put, List.setIfInBounds_toArray, List.set_cons_zero, List.set_cons_succ]
      refine wpAnyX_take (i := 17) (oi := ⟨some 24, _, _, _, _, _⟩) (v := ?_) rfl (by kernel_rfl) (by kernel_rfl) (by kernel_rfl) (by kernel_rfl) (fun _ _ _ h => h) (Or.inl ⟨by kernel_rfl, ?_⟩) hS ?_
      rotate_left
      · intro w hSw
        try dsimp only at hSw
        go_simp
        try with_reducible rfl
      try simp only [Act.put, List.setIfInBounds_toArray, List.set_cons_zero, List.set_cons_succ]
      refine wpAnyX_ready (rs := [18]) (by kernel_rfl) (by simp) ?_
      refine AllReadyX.cons (o := ⟨some 25, _, _, _, _, _⟩) rfl (fun K hK => ?_) AllReadyX.nil
      go_simp
      have hBx : Below w13.heap.size w13 (w13.alloc (.cells #[.slice A ps.length c, .slice A2 lots.length c2, .slice Aw ps.length cw, .slice (some ⟨gl, 0, none⟩) lots.length lots.length, .int .i64 (lots.length : Int), .int .i64 (s : Int), .int .i64 (q : Int)] 86)) := (Below.refl _ _).alloc (Nat.le_refl _) _
      have hTr : Tr (w13.alloc (.cells #[.slice A ps.length c, .slice A2 lots.length c2, .slice Aw ps.length cw, .slice (some ⟨gl, 0, none⟩) lots.length lots.length, .int .i64 (lots.length : Int), .int .i64 (s : Int), .int .i64 (q : Int)] 86)) w.heap.size w13.heap.size Aw cw gl A ps.length c A2 lots.length c2 (List.replicate ps.length (1, 1)) (List.replicate lots.length false) lots.length s q := ⟨⟨rfl, .inr ⟨w13.heap.size, 1, _, rfl, hS.1.size, heap_alloc_new w13 _, by omega, by simp [maxLen], rfl, rfl⟩⟩, hW.below hBx, hL.below hBx⟩
      have hBB := below_down hS.1 hBx
      have hS0 := hS
      clear hS
      refine hK.out _ _ (fun _ => ⟨hBB, hS0.2.below hBx⟩) (fun hS => ?_)
      replace hS := hS (by kernel_rfl)
      clear hK K hS0
      try simp only [Act.put, List.setIfInBounds_toArray, List.set_cons_zero, List.set_cons_succ]
      refine wpAnyX_take (i := 19) (oi := ⟨some 6, _, _, _, _, _⟩) (v := ?_) rfl (by kernel_rfl) (by kernel_rfl) (by kernel_rfl) (by kernel_rfl) (fun _ _ _ h => h) (Or.inl ⟨by kernel_rfl, ?_⟩) hS ?_
      rotate_left
      · intro w hSw
        try dsimp only at hSw
        go_simp
        try with_reducible rfl
      try simp only [Act.put, List.setIfInBounds_toArray, List.set_cons_zero, List.set_cons_succ]
      refine wpAnyX_done (by kernel_rfl) ?_ _
      go_wp2
      go_ret
      exact ⟨_, _, _, _, rfl, hTr, hBB⟩
  · go_simp
    refine upon_makeB _ lots.length (by omega) ?_
    intro w15 hL hb
    have hL := hL.mono hS.1.size
    have hS0 := hS
    clear hS
    refine hK.out _ _ (fun _ => ⟨below_down hS0.1 hb, hS0.2.below hb⟩) (fun hS => ?_)
    replace hS := hS (by kernel_rfl)
    clear hK K hS0 hb
    try simp only [Act.put, List.setIfInBounds_toArray, List.set_cons_zero, List.set_cons_succ]
    generalize wc.heap.size = gl at hL ⊢
    refine wpAnyX_ready (rs := [3]) (by kernel_rfl) (by simp) ?_
    refine AllReadyX.cons (o := ⟨some 10, _, _, _, _, _⟩) rfl (fun K hK => ?_) AllReadyX.nil
    go_simp
    have hb := (Below.refl w15.heap.size w15).alloc (Nat.le_refl _) (.cells #[.int .i64 1, .int .i64 1] 75)
    have hX : Fracs (w15.alloc (.cells #[.int .i64 1, .int .i64 1] 75)) (some ⟨w15.heap.size, 0, none⟩) [(1, 1)] := fracs_box (boxF_new w15 1 1)
    have hL := hL.below hb
    have hS0 := hS
    clear hS
    refine hK.out _ _ (fun _ => ⟨below_down hS0.1 hb, hS0.2.below hb⟩) (fun hS => ?_)
    replace hS := hS (by kernel_rfl)
    clear hK K hS0 hb
    try simp only [Act.put, List.setIfInBounds_toArray, List.set_cons_zero, List.set_cons_succ]
    generalize w15.alloc (.cells #[.int .i64 1, .int .i64 1] 75) = w16 at *
    generalize w15.heap.size = bx at *
    refine wpAnyX_ready (rs := [6]) (by kernel_rfl) (by simp) ?_
    refine AllReadyX.cons (o := ⟨some 13, _, _, _, _, _⟩) rfl (fun K hK => ?_) AllReadyX.nil
    go_simp
    go_at_call 79
    refine (cR.out _ _ hX).mono ?_
    rintro e w17 ⟨Aw, cw, rfl, hW, hb⟩
    have hW := hW.mono hS.1.size
    clear hX
    have hL := hL.below hb
    have hS0 := hS
    clear hS
    refine hK.out _ _ (fun _ => ⟨below_down hS0.1 hb, hS0.2.below hb⟩) (fun hS => ?_)
    replace hS := hS (by kernel_rfl)
    clear hK K hS0 hb
    try simp only [Act.put, List.setIfInBounds_toArray, List.set_cons_zero, List.set_cons_succ]
    refine wpAnyX_ready (rs := [14]) (by kernel_rfl) (by simp) ?_
    refine AllReadyX.cons (o := ⟨some 21, _, _, _, _, _⟩) rfl (fun K hK => ?_) AllReadyX.nil
    go_simp
    go_at_call 24
    refine (cT.out _ hS.2).mono ?_
    rintro e w18 ⟨rfl, hb⟩
    have hL := hL.below hb
    have hW := hW.below hb
    have hS0 := hS
    clear hS
    refine hK.out _ _ (fun _ => ⟨below_down hS0.1 hb, hS0.2.below hb⟩) (fun hS => ?_)
    replace hS := hS (by kernel_rfl)
    clear hK K hS0 hb
    try simp only [Act.put, List.setIfInBounds_toArray, List.set_cons_zero, List.set_cons_succ]
    refine wpAnyX_ready (rs := [16]) (by kernel_rfl) (by simp) ?_
    refine AllReadyX.cons (o := ⟨some 23, _, _, _, _, _⟩) rfl (fun K hK => ?_) AllReadyX.nil
    go_simp
    go_at_call 80
    refine (cQ.out _).mono ?_
    rintro e w19 ⟨rfl, hb0⟩
    subst hb0
    have hb := Below.refl w18.heap.size w18
    have hS0 := hS
    clear hS
    refine hK.out _ _ (fun _ => ⟨below_down hS0.1 hb, hS0.2.below hb⟩) (fun hS => ?_)
    replace hS := hS (by kernel_rfl)
    clear hK K hS0 hb
    try simp only [Act.put, List.setIfInBounds_toArray, List.set_cons_zero, List.set_cons_succ]
    refine wpAnyX_take (i := 17) (oi := ⟨some 24, _, _, _, _, _⟩) (v := ?_) rfl (by kernel_rfl) (by kernel_rfl) (by kernel_rfl) (by kernel_rfl) (fun _ _ _ h => h) (Or.inl ⟨by kernel_rfl, ?_⟩) hS ?_
    rotate_left
    · intro w hSw
      try dsimp only at hSw
      go_simp
      try with_reducible rfl
    try simp only [Act.put, List.setIfInBounds_toArray, List.set_cons_zero, List.set_cons_succ]
    refine wpAnyX_ready (rs := [18]) (by kernel_rfl) (by simp) ?_
    refine AllReadyX.cons (o := ⟨some 25, _, _, _, _, _⟩) rfl (fun K hK => ?_) AllReadyX.nil
    go_simp
    have hBx : Below w18.heap.size w18 (w18.alloc (.cells #[.slice A ps.length c, .slice A2 lots.length c2, .slice Aw ps.length cw, .slice (some ⟨gl, 0, none⟩) lots.length lots.length, .int .i64 (lots.length : Int), .int .i64 (s : Int), .int .i64 (q : Int)] 86)) := (Below.refl _ _).alloc (Nat.le_refl _) _
    have hTr : Tr (w18.alloc (.cells #[.slice A ps.length c, .slice A2 lots.length c2, .slice Aw ps.length cw, .slice (some ⟨gl, 0, none⟩) lots.length lots.length, .int .i64 (lots.length : Int), .int .i64 (s : Int), .int .i64 (q : Int)] 86)) w.heap.size w18.heap.size Aw cw gl A ps.length c A2 lots.length c2 (List.replicate ps.length (1, 1)) (List.replicate lots.length false) lots.length s q := ⟨⟨rfl, .inr ⟨w18.heap.size, 1, _, rfl, hS.1.size, heap_alloc_new w18 _, by omega, by simp [maxLen], rfl, rfl⟩⟩, hW.below hBx, hL.below hBx⟩
    have hBB := below_down hS.1 hBx
    have hS0 := hS
    clear hS
    refine hK.out _ _ (fun _ => ⟨hBB, hS0.2.below hBx⟩) (fun hS => ?_)
    replace hS := hS (by kernel_rfl)
    clear hK K hS0
    try simp only [Act.put, List.setIfInBounds_toArray, List.set_cons_zero, List.set_cons_succ]
    refine wpAnyX_take (i := 19) (oi := ⟨some 6, _, _, _, _, _⟩) (v := ?_) rfl (by kernel_rfl) (by kernel_rfl) (by kernel_rfl) (by kernel_rfl) (fun _ _ _ h => h) (Or.inl ⟨by kernel_rfl, ?_⟩) hS ?_
    rotate_left
    · intro w hSw
      try dsimp only at hSw
      go_simp
      try with_reducible rfl
    try simp only [Act.put, List.setIfInBounds_toArray, List.set_cons_zero, List.set_cons_succ]
    refine wpAnyX_done (by kernel_rfl) ?_ _
    go_wp2
    go_ret
    exact ⟨_, _, _, _, rfl, hTr, hBB⟩
end Go.Proofs.Ytiinfbjlkbjmmaa
