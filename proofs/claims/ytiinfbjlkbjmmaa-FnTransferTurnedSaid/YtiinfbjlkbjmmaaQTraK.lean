/-
  A step of the program's transfer.
-/
import Derived.Test.YtiinfbjlkbjmmaaQTraJ
namespace Go.Proofs.Ytiinfbjlkbjmmaa
open Go.RowKit
/-- A variable that holds a step. -/
def BoxS (w : World) (k : Nat) (B : Option Addr) (l d : Nat) (o t : Int) : Prop := w.ownsRow k 68 3 (.slice (some ⟨k, 0, none⟩) 1 1) 1 [.slice B l d, .int .i64 o, .int .i64 t]
set_option maxRecDepth 100000 in
theorem boxS_new (w : World) (B : Option Addr) (l d : Nat) (o t : Int) : BoxS (w.alloc (.cells #[.slice B l d, .int .i64 o, .int .i64 t] 68)) w.heap.size B l d o t :=
  ⟨rfl, .inr ⟨w.heap.size, 1, _, rfl, Nat.le_refl _, heap_alloc_new w _, by omega, by simp [maxLen], rfl, rfl⟩⟩
section
variable {w w' : World} {k l d : Nat} {B : Option Addr} {o t : Int}
set_option maxRecDepth 100000 in
theorem BoxS.c0 (h : BoxS w k B l d o t) : w.cell? ⟨k, 0, none⟩ = some (.slice B l d) := World.ownsRow.cells h (g := k) rfl 0 _ rfl
set_option maxRecDepth 100000 in
theorem BoxS.c1 (h : BoxS w k B l d o t) : w.cell? ⟨k, 1, none⟩ = some (.int .i64 o) := World.ownsRow.cells h (g := k) rfl 1 _ rfl
set_option maxRecDepth 100000 in
theorem BoxS.c2 (h : BoxS w k B l d o t) : w.cell? ⟨k, 2, none⟩ = some (.int .i64 t) := World.ownsRow.cells h (g := k) rfl 2 _ rfl
set_option maxRecDepth 100000 in
theorem BoxS.fz (h : BoxS w k B l d o t) (i : Nat) : w.frozen? ⟨k, i, none⟩ = false := World.ownsRow.frozenAt h i
set_option maxRecDepth 100000 in
theorem BoxS.set1 (h : BoxS w k B l d o t) (y : Int) : BoxS (w.setCell ⟨k, 1, none⟩ (.int .i64 y)) k B l d y t := (World.ownsRow.stored h 1 (.int .i64 y)).1
set_option maxRecDepth 100000 in
theorem BoxS.set2 (h : BoxS w k B l d o t) (y : Int) : BoxS (w.setCell ⟨k, 2, none⟩ (.int .i64 y)) k B l d o y := (World.ownsRow.stored h 2 (.int .i64 y)).1
set_option maxRecDepth 100000 in
theorem BoxS.grown {g : Option Nat} (h : BoxS w k B l d o t) (hg : w.grownBy w' g) (hn : g ≠ some k) : BoxS w' k B l d o t := World.ownsRow.kept h hg (.inr (fun e => hn e.symm))
set_option maxRecDepth 100000 in
theorem BoxS.below (h : BoxS w k B l d o t) (hb : Below w.heap.size w w') : BoxS w' k B l d o t := h.grown (g := none) (grown_of_below hb none) (by simp)
set_option maxRecDepth 100000 in
theorem BoxS.drew (h : BoxS w k B l d o t) : BoxS w.drew k B l d o t := h
set_option maxRecDepth 100000 in
theorem BoxS.lt (h : BoxS w k B l d o t) : k < w.heap.size := (World.ownsRow.lt h k rfl).2
end
set_option maxRecDepth 100000 in
theorem btw_grown {lo hi : Nat} {w wc w' : World} {row : Option Nat} (h : Btw lo hi w wc) (hg : wc.grownBy w' row) (hr : ∀ k, row = some k → w.heap.size ≤ k ∨ (lo ≤ k ∧ k < hi)) : Btw lo hi w w' :=
  ⟨hg.os.trans h.os, hg.tape.trans h.tape, hg.output.trans h.output, Nat.le_trans h.size hg.size, fun k hk hn => (hg.block k (Nat.lt_of_lt_of_le hk h.size) (fun e => by have := hr k e.symm; omega)).trans (h.block k hk hn)⟩
set_option maxRecDepth 100000 in
theorem set_grown (w : World) (g j : Nat) (u : Value) : w.grownBy (w.setCell ⟨g, j, none⟩ u) (some g) := grown_setCell (grown_refl w (some g)) j u
set_option maxRecDepth 100000 in
theorem drew_below (w : World) : Below w.heap.size w w.drew := (Below.refl _ _).drew
/-- What stands in the midst of a step. -/
structure Mid (lo hi b2 b8 : Nat) (w : World) (tb : Nat) (Aw : Option Addr) (cw gl : Nat) (A : Option Addr) (np c : Nat) (A2 : Option Addr) (n d2 : Nat) (q : Int) (C : Option Addr) (d : Nat) (cs : List Fr) (who kind : Int) (ws : List Fr) (left : List Bool) (there seats : Int) (wc : World) : Prop where
  tr : Tr wc lo tb Aw cw gl A np c A2 n d2 ws left there seats q
  own : OwnF wc b2 C n d cs
  box2 : BoxS wc b2 none 0 0 0 0
  boxB : BoxS wc b8 C n d who kind
  btw : Btw lo hi w wc
  h28 : b2 < b8
  hib : hi ≤ b2
  b2w : w.heap.size ≤ b2
  tbl : lo ≤ tb ∧ tb < hi
  gll : lo ≤ gl ∧ gl < hi
section
variable {lo hi b2 b8 : Nat} {w : World} {tb : Nat} {Aw : Option Addr} {cw gl : Nat} {A : Option Addr} {np c : Nat} {A2 : Option Addr} {n d2 : Nat} {q : Int} {C : Option Addr} {d : Nat} {cs : List Fr} {who kind : Int} {ws : List Fr} {left : List Bool} {there seats : Int} {wc w' : World}
set_option maxRecDepth 100000 in
/-- Another row of steps than any of the state's. -/
theorem Tr.other {k l e : Nat} {B : Option Addr} {o t : Int} (h : Tr wc lo tb Aw cw gl A np c A2 n d2 ws left there seats q) (hb : BoxS wc k B l e o t) (hg : wc.grownBy w' (some k)) : Tr w' lo tb Aw cw gl A np c A2 n d2 ws left there seats q :=
  ⟨World.ownsRow.kept h.box hg (.inr (fun e => own_ne hb h.box (by decide) rfl e)), h.wts.grown hg (fun x hx e => by injection hx with hx; subst hx; exact own_ne hb h.wts.row (by decide) rfl e), h.lft.grownB hg (fun x hx e => by injection hx with hx; subst hx; exact own_ne hb h.lft.2 (by decide) rfl e)⟩
set_option maxRecDepth 100000 in
theorem OwnF.other {k l e base n' c' : Nat} {A' B : Option Addr} {fs : List Fr} {o t : Int} (h : OwnF wc base A' n' c' fs) (hb : BoxS wc k B l e o t) (hg : wc.grownBy w' (some k)) : OwnF w' base A' n' c' fs :=
  h.grown hg (fun x hx e => by injection hx with hx; subst hx; exact own_ne hb h.row (by decide) rfl e)
set_option maxRecDepth 100000 in
theorem Mid.kind' (h : Mid lo hi b2 b8 w tb Aw cw gl A np c A2 n d2 q C d cs who kind ws left there seats wc) (y : Int) : Mid lo hi b2 b8 w tb Aw cw gl A np c A2 n d2 q C d cs who y ws left there seats (wc.setCell ⟨b8, 2, none⟩ (.int .i64 y)) := by
  have hg := set_grown wc b8 2 (.int .i64 y)
  have := h.h28
  have := h.b2w
  exact ⟨h.tr.other h.boxB hg, h.own.other h.boxB hg, h.box2.grown hg (by intro e; injection e with e; omega), h.boxB.set2 y, btw_grown h.btw hg (fun k hk => by injection hk with hk; omega), h.h28, h.hib, h.b2w, h.tbl, h.gll⟩
set_option maxRecDepth 100000 in
theorem Mid.who' (h : Mid lo hi b2 b8 w tb Aw cw gl A np c A2 n d2 q C d cs who kind ws left there seats wc) (y : Int) : Mid lo hi b2 b8 w tb Aw cw gl A np c A2 n d2 q C d cs y kind ws left there seats (wc.setCell ⟨b8, 1, none⟩ (.int .i64 y)) := by
  have hg := set_grown wc b8 1 (.int .i64 y)
  have := h.h28
  have := h.b2w
  exact ⟨h.tr.other h.boxB hg, h.own.other h.boxB hg, h.box2.grown hg (by intro e; injection e with e; omega), h.boxB.set1 y, btw_grown h.btw hg (fun k hk => by injection hk with hk; omega), h.h28, h.hib, h.b2w, h.tbl, h.gll⟩
set_option maxRecDepth 100000 in
theorem Mid.left' (h : Mid lo hi b2 b8 w tb Aw cw gl A np c A2 n d2 q C d cs who kind ws left there seats wc) (k : Nat) (b : Bool) : Mid lo hi b2 b8 w tb Aw cw gl A np c A2 n d2 q C d cs who kind ws (left.set k b) there seats (wc.setCell ⟨gl, k, none⟩ (.bool b)) := by
  have hg := set_grown wc gl k (.bool b)
  have h1 := h.gll
  have h2 := h.hib
  have h3 := h.h28
  exact ⟨h.tr.setLeft k b, h.own.setBool h.tr.lft k b, h.box2.grown hg (by intro e; injection e with e; omega), h.boxB.grown hg (by intro e; injection e with e; omega), btw_grown h.btw hg (fun k hk => by injection hk with hk; omega), h.h28, h.hib, h.b2w, h.tbl, h.gll⟩
set_option maxRecDepth 100000 in
theorem Mid.tbs (h : Mid lo hi b2 b8 w tb Aw cw gl A np c A2 n d2 q C d cs who kind ws left there seats wc) (hg : wc.grownBy w' (some tb)) : OwnF w' b2 C n d cs ∧ BoxS w' b2 none 0 0 0 0 ∧ BoxS w' b8 C n d who kind ∧ Btw lo hi w w' := by
  have h1 := h.tbl
  have h2 := h.hib
  have h3 := h.h28
  exact ⟨h.own.grown hg (fun x hx e => by injection hx with hx; subst hx; exact own_ne h.tr.box h.own.row (by decide) rfl e), h.box2.grown hg (by intro e; injection e with e; omega), h.boxB.grown hg (by intro e; injection e with e; omega), btw_grown h.btw hg (fun k hk => by injection hk with hk; omega)⟩
set_option maxRecDepth 100000 in
theorem Mid.there' (h : Mid lo hi b2 b8 w tb Aw cw gl A np c A2 n d2 q C d cs who kind ws left there seats wc) (y : Int) : Mid lo hi b2 b8 w tb Aw cw gl A np c A2 n d2 q C d cs who kind ws left y seats (wc.setCell ⟨tb, 4, none⟩ (.int .i64 y)) := by
  obtain ⟨a, b, e, f⟩ := h.tbs (set_grown wc tb 4 (.int .i64 y))
  exact ⟨h.tr.setThere y, a, b, e, f, h.h28, h.hib, h.b2w, h.tbl, h.gll⟩
set_option maxRecDepth 100000 in
theorem Mid.seats' (h : Mid lo hi b2 b8 w tb Aw cw gl A np c A2 n d2 q C d cs who kind ws left there seats wc) (y : Int) : Mid lo hi b2 b8 w tb Aw cw gl A np c A2 n d2 q C d cs who kind ws left there y (wc.setCell ⟨tb, 5, none⟩ (.int .i64 y)) := by
  obtain ⟨a, b, e, f⟩ := h.tbs (set_grown wc tb 5 (.int .i64 y))
  exact ⟨h.tr.setSeats y, a, b, e, f, h.h28, h.hib, h.b2w, h.tbl, h.gll⟩
set_option maxRecDepth 100000 in
theorem Mid.below (h : Mid lo hi b2 b8 w tb Aw cw gl A np c A2 n d2 q C d cs who kind ws left there seats wc) (hb : Below wc.heap.size wc w') : Mid lo hi b2 b8 w tb Aw cw gl A np c A2 n d2 q C d cs who kind ws left there seats w' :=
  ⟨h.tr.below hb, h.own.below hb, h.box2.below hb, h.boxB.below hb, h.btw.trans (Btw.of_below hb), h.h28, h.hib, h.b2w, h.tbl, h.gll⟩
set_option maxRecDepth 100000 in
theorem Mid.weigh {row : Option Nat} {ws' : List Fr} (h : Mid lo hi b2 b8 w tb Aw cw gl A np c A2 n d2 q C d cs who kind ws left there seats wc) (ht : Tr w' lo tb Aw cw gl A np c A2 n d2 ws' left there seats q) (hg : wc.grownBy w' row) (hr : ∀ k, row = some k → lo ≤ k ∧ k < hi) : Mid lo hi b2 b8 w tb Aw cw gl A np c A2 n d2 q C d cs who kind ws' left there seats w' := by
  have h2 := h.hib
  have h3 := h.h28
  exact ⟨ht, h.own.grown hg (fun x hx e => by have h4 := hr x hx; have h5 := (h.own.block x e).1; omega), h.box2.grown hg (by intro e; have := hr _ e; omega), h.boxB.grown hg (by intro e; have := hr _ e; omega), btw_grown h.btw hg (fun k hk => .inr (hr k hk)), h.h28, h.hib, h.b2w, h.tbl, h.gll⟩
set_option maxRecDepth 100000 in
theorem Mid.fin (h : Mid lo hi b2 b8 w tb Aw cw gl A np c A2 n d2 q C d cs who kind ws left there seats wc) (hg : wc.grownBy w' (some b2)) : OwnF w' b2 C n d cs ∧ Tr w' lo tb Aw cw gl A np c A2 n d2 ws left there seats q ∧ Btw lo hi w w' := by
  have := h.b2w
  exact ⟨h.own.other h.box2 hg, h.tr.other h.box2 hg, btw_grown h.btw hg (fun k hk => by injection hk with hk; omega)⟩
end
/-- What a step comes to. -/
def StepR (w0 w : World) (hi tb : Nat) (Aw : Option Addr) (cw gl : Nat) (A : Option Addr) (ps : List (ByteArray × Int)) (c : Nat) (A2 : Option Addr) (lots : List Int) (d2 q k : Nat) (all rs : List Stp) (left : List Bool) (ws : List Fr) (there : Int) (e : Ending) (w' : World) : Prop :=
  ∃ C d p kind ws' s', e = .returned (.agg #[.slice C lots.length d, .int .i64 ((p : Nat) : Int), .int .i64 kind]) ∧ OwnF w' w.heap.size C lots.length d (cntT left ((pl ps).zip ws)) ∧ Tr w' w0.heap.size tb Aw cw gl A ps.length c A2 lots.length d2 ws' (left.set p true) (there - 1) ((s' : Nat) : Int) q ∧ Btw w0.heap.size hi w w' ∧
    Hid (TInv ps lots q lots.length (k + 1) all (rs ++ [(cntT left ((pl ps).zip ws), (p : Int), kind)]) (left.set p true) ws' s')
set_option maxRecDepth 100000 in
theorem stepR_of {w0 w w' : World} {hi tb : Nat} {Aw : Option Addr} {cw gl : Nat} {A : Option Addr} {ps : List (ByteArray × Int)} {c : Nat} {A2 : Option Addr} {lots : List Int} {d2 q k : Nat} {all rs : List Stp} {left : List Bool} {ws : List Fr} {there : Int} {C : Option Addr} {d p s' : Nat} {kind : Int} {ws' cs : List Fr} {th : Int} (hc : cntT left ((pl ps).zip ws) = cs)
    (ho : OwnF w' w.heap.size C lots.length d cs) (ht : Tr w' w0.heap.size tb Aw cw gl A ps.length c A2 lots.length d2 ws' (left.set p true) th (s' : Int) q) (hth : th = there - 1) (hb : Btw w0.heap.size hi w w') (hi2 : TInv ps lots q lots.length (k + 1) all (rs ++ [(cs, (p : Int), kind)]) (left.set p true) ws' s') :
    StepR w0 w hi tb Aw cw gl A ps c A2 lots d2 q k all rs left ws there (.returned (.agg #[.slice C lots.length d, .int .i64 (p : Int), .int .i64 kind])) w' := by
  subst hc
  subst hth
  exact ⟨C, d, p, kind, ws', s', rfl, ho, ht, hb, hi2⟩
set_option maxRecDepth 100000 in
set_option maxHeartbeats 12800000 in
theorem step_any (tb : Nat) (Aw : Option Addr) (cw gl hi : Nat) (A A2 : Option Addr) (ps : List (ByteArray × Int)) (lots : List Int) (c d2 q k s : Nat) (all rs : List Stp) (ws : List Fr) (left : List Bool) (there : Int) (w0 w : World) (h : PilesI w0 A ps) (h2 : Ints w0 A2 lots) (hB : Below w0.heap.size w0 w) (hT : Tr w w0.heap.size tb Aw cw gl A ps.length c A2 lots.length d2 ws left there s q)
    (hI : Hid (TInv ps lots q lots.length k all rs left ws s)) (hk : k < lots.length) (hs : 1 ≤ s) (hq1 : 1 ≤ q) (hq61 : q ≤ 61) (hf : Hid (FitOk ps lots.length)) (ht : Hid (totM ps ≤ 60)) (hv : Hid (lv lots = true)) (hthe : Hid (there = thereL left)) (htb : tb < hi) (hgl : gl < hi) (hgw : Hid (∀ g, (Value.slice Aw ps.length cw).ownBlock = some g → g < hi)) (hhi : hi ≤ w.heap.size) :
    Calls Try.prog 51 #[.pointer (some ⟨tb, 0, none⟩)] w (StepR w0 w hi tb Aw cw gl A ps c A2 lots d2 q k all rs left ws there) := by
  have hl5 := hf.out.n5
  have hl1 := hf.out.n1
  obtain ⟨B, hcnt, hfr, hB1⟩ := hI.out.cnt hs hf.out ht.out
  have hbl := hI.out.len
  have hth := hI.out.there
  have hs2 := hI.out.s2
  obtain ⟨hth1, hth2⟩ : 1 ≤ there ∧ there ≤ 5 := by rw [hthe.out]; omega
  obtain ⟨p, hp, hbp, hpl⟩ := most_at (cs := cntT left ((pl ps).zip ws)) hv.out hbl (by omega)
  obtain ⟨p', hp', hbp', hpl'⟩ := leastT_at (cs := cntT left ((pl ps).zip ws)) hv.out hbl (by omega)
  have hcl : (cntT left ((pl ps).zip ws)).length = lots.length := by rw [cntT_len, hbl]
  obtain ⟨⟨x, y⟩, hx⟩ : ∃ z, (cntT left ((pl ps).zip ws))[p]? = some z := ⟨_, List.getElem?_eq_getElem (by omega)⟩
  obtain ⟨hx36, hy1, hy60⟩ := (hfr.all _ (List.mem_of_getElem? hx)).bds hfr.b1 hfr.b60
  have hbb : ∃ B, (s = 2 → B = 1) ∧ 1 ≤ B ∧ ∀ f ∈ cntT left ((pl ps).zip ws), FrB B 60 f := ⟨B, hB1, hfr.b1, hfr.all⟩
  have HM1 := Lib.hid (fun hl => hI.out.seat hk hs hq1 rfl hbb hp hbp hx hl)
  have HM2 := Lib.hid (fun hl ht => hI.out.left hk hs rfl hp hbp hx hl ht)
  have HM3 := Lib.hid (fun hl ht => hI.out.leave hk hs rfl hp hp' hbp' hx hl ht)
  have cC := Lib.hid (fun w' (hp : PilesI w' A ps) (hT' : Tr w' w0.heap.size tb Aw cw gl A ps.length c A2 lots.length d2 ws left there s q) => counts_any tb Aw cw gl w0.heap.size A A2 ps lots.length c d2 B ws left there s q w' hp hT' (Lib.hid hcnt))
  have cW := Lib.hid (fun w' (hBw' : Below w0.heap.size w0 w') (hT' : Tr w' w0.heap.size tb Aw cw gl A ps.length c A2 lots.length d2 ws left there s q) (hx1 : 1 ≤ x) (hqx : q * y ≤ x) => reweigh_any tb Aw cw gl A A2 ps lots.length c d2 B x y q (p : Int) ws left there s w0 w' h hBw' hT' (Lib.hid hcnt) hx36 hx1 hy60 hq61 hqx)
  have cL := Lib.hid (fun (i j a b a' b' : Nat) (hi : (cntT left ((pl ps).zip ws))[i]? = some (a, b)) (hj : (cntT left ((pl ps).zip ws))[j]? = some (a', b')) (w : World) => fracLess_any a b a' b' w (hfr.fv hi) (hfr.fv hj))
  have cQ := Lib.hid (fun (w : World) => fracLess_any x y q 1 w (hfr.fv hx) (less_fv hq61))
  have HP := Lib.hid (show lots.foldl (stepHi (cntT left ((pl ps).zip ws)) left) (-1) = (p : Int) from hp)
  have HP' := Lib.hid (show lots.foldl (stepLo (cntT left ((pl ps).zip ws)) left) (-1) = (p' : Int) from hp')
  have HX := Lib.hid hx
  have HBP := Lib.hid hbp
  have HBP' := Lib.hid hbp'
  have HCL := Lib.hid hcl
  have HBL := Lib.hid hbl
  have hlr : Hid (∀ l ∈ lots, 0 ≤ l ∧ l < (lots.length : Int)) := Lib.hid (fun l hl => by have := (lv_iff.1 hv.out).2.1 l hl; omega)
  clear hcnt hfr hB1 hbl hth hp hbp hp' hbp' hcl hx hbb hv
  obtain ⟨cs, hcs⟩ : ∃ cs, cntT left ((pl ps).zip ws) = cs := ⟨_, rfl⟩
  have HCS := Lib.hid hcs
  rw [hcs] at HM1 HM2 HM3 cC cL HP HP' HX HCL
  clear hcs hI
  have hwsz := hB.size
  have hbx := (Below.refl w.heap.size w).alloc (Nat.le_refl _) (.cells #[.slice none 0 0, .int .i64 0, .int .i64 0] 68)
  have box2 := boxS_new w none 0 0 0 0
  go_enter Try.func51, Try.ntmps51
  go_wp2_with fail
  have hTx := hT.below hbx
  have hBx := below_down hB hbx
  generalize w.alloc (.cells #[.slice none 0 0, .int .i64 0, .int .i64 0] 68) = wx at *
  clear hT hB
  refine (cC.out wx (h.below hBx) hTx).mono ?_
  rintro e w1 ⟨C, d, rfl, hO, hb1⟩
  have hT1 := hTx.below hb1
  have hB1 := below_down hBx hb1
  have box1 := box2.below hb1
  have hW1 : Below w.heap.size w w1 := below_down hbx hb1
  have hO1 := hO.mono hbx.size
  have t1 := hT1.c1
  clear hTx hBx box2 hbx hb1 hO cC
  generalize hb2e : w.heap.size = b2 at *
  have HB2 := Lib.hid hb2e
  clear hb2e
  go_wp2
  go_loopw [4, 5, 7, 16] (fun mo le _ i wr => ∃ (m : Nat) (z z' : Int), m ≤ lots.length ∧ i = .int .i64 m ∧ mo = .int .i64 z ∧ le = .int .i64 z' ∧ Hid ((lots.take m).foldl (stepHi cs left) (-1) = z) ∧ Hid ((lots.take m).foldl (stepLo cs left) (-1) = z') ∧ ((z = -1 ∧ z' = -1) ∨ ∃ a b : Nat, z = (a : Int) ∧ z' = (b : Int) ∧ a < lots.length ∧ b < lots.length) ∧ Below w1.heap.size w1 wr) (fun _ _ _ i _ => lots.length - (intOf i).toNat)
  case atStart => exact ⟨0, -1, -1, by omega, rfl, rfl, rfl, Lib.hid rfl, Lib.hid rfl, .inl ⟨rfl, rfl⟩, Below.refl _ _⟩
  case round =>
    clear t1
    obtain ⟨m, z, z', hm, rfl, rfl, rfl, hz, hz', hzz, hbel⟩ := hrel
    by_cases hlm : m < lots.length
    · obtain ⟨ad3, l, e3, hl', hcl⟩ := ((h2.below hB1).below hbel).at_ hlm
      subst e3
      have hrl := hlr.out l (mem_of_at hl'.out)
      obtain ⟨r, rfl⟩ := Int.eq_ofNat_of_zero_le hrl.1
      have hr : r < lots.length := by have := hrl.2; omega
      clear hrl
      have hTr := hT1.below hbel
      have hOr := hO1.below hbel
      obtain ⟨bk, hbk⟩ : ∃ bk, left[r]? = some bk := ⟨_, List.getElem?_eq_getElem (by have := HBL.out; omega)⟩
      have t3 := hTr.c3
      have hcb := hTr.lft.cellB hbk
      have HBK := Lib.hid hbk
      have hS := Lib.hid (fold_snoc (f := stepHi cs left) (a := (-1 : Int)) hl'.out)
      have hS' := Lib.hid (fold_snoc (f := stepLo cs left) (a := (-1 : Int)) hl'.out)
      have hr0 : (0 : Int) ≤ (r : Int) := by omega
      have hr1 : (r : Int) < (lots.length : Int) := by omega
      clear hbk
      cases bk
      · rcases hzz with ⟨rfl, rfl⟩ | ⟨a, b, rfl, rfl, ha, hb⟩
        · have hN := Lib.hid (hS.out.trans (by rw [hz.out, stepHi_first (by omega) (atB_at HBK.out)]))
          have hN' := Lib.hid (hS'.out.trans (by rw [hz'.out, stepLo_first (by omega) (atB_at HBK.out)]))
          go_wp2
          go_quiet (fail)
          go_wp2
          go_quiet (fail)
          go_wp2
          go_roundw
          case rel => exact ⟨m + 1, (r : Int), (r : Int), by omega, by go_num, rfl, rfl, hN, hN', .inr ⟨r, r, rfl, rfl, hr, hr⟩, by first | exact below_drewN hbel _ | exact below_drewN (below_drewN hbel _) _⟩
          case measure => simp [intOf]; omega
        · obtain ⟨adc, v1, v2, e1, hxv, c1, c2⟩ := hOr.fracs.at_ (k := a) (by have := HCL.out; omega)
          subst e1
          obtain ⟨ad', u1, u2, e1, hxu, c3, c4⟩ := hOr.fracs.at_ (k := b) (by have := HCL.out; omega)
          obtain rfl : adc = ad' := by injection e1
          clear e1
          obtain ⟨ad', r1, r2, e1, hxr, c5, c6⟩ := hOr.fracs.at_ (k := r) (by have := HCL.out; omega)
          obtain rfl : adc = ad' := by injection e1
          clear e1
          have cA := Lib.hid (cL.out a r v1 v2 r1 r2 hxv.out hxr.out)
          have cB := Lib.hid (cL.out b r u1 u2 r1 r2 hxu.out hxr.out)
          have ha0 : (0 : Int) ≤ (a : Int) := by omega
          have ha1 : (a : Int) < (lots.length : Int) := by omega
          have hb0 : (0 : Int) ≤ (b : Int) := by omega
          have hb1 : (b : Int) < (lots.length : Int) := by omega
          have hzr := hbel.size
          cases hl1 : lessP (v1, v2) (r1, r2) <;> cases hl2 : lessP (u1, u2) (r1, r2)
          · have hN := Lib.hid (hS.out.trans (by rw [hz.out, stepHi_f HBK.out hxv.out hxr.out hl1]))
            have hN' := Lib.hid (hS'.out.trans (by rw [hz'.out, stepLo_t HBK.out hxu.out hxr.out hl2]))
            rw [hl1] at cA
            rw [hl2] at cB
            clear hl1 hl2 hS hS'
            go_wp2
            refine wp_region_X (fun w' => Below wr.heap.size wr w') 1000 (by kernel_rfl) ?_ (fun hS => ?_)
            · exact (Below.refl _ _).drew
            refine wpAnyX_take (i := 0) (oi := ⟨some 27, _, _, _, _, _⟩) (v := ?_) rfl (by kernel_rfl) (by kernel_rfl) (by kernel_rfl) (by kernel_rfl) (fun _ _ _ h => h) (Or.inl ⟨by kernel_rfl, ?_⟩) hS ?_
            rotate_left
            · intro w hSw
              have d1 := cell_below hSw c1; have d2 := cell_below hSw c2; have d3 := cell_below hSw c3; have d4 := cell_below hSw c4; have d5 := cell_below hSw c5; have d6 := cell_below hSw c6
              try dsimp only at hSw
              go_simp
              try with_reducible rfl
            try simp only [Act.put, List.setIfInBounds_toArray, List.set_cons_zero, List.set_cons_succ]
            refine wpAnyX_take (i := 1) (oi := ⟨some 28, _, _, _, _, _⟩) (v := ?_) rfl (by kernel_rfl) (by kernel_rfl) (by kernel_rfl) (by kernel_rfl) (fun _ _ _ h => h) (Or.inl ⟨by kernel_rfl, ?_⟩) hS ?_
            rotate_left
            · intro w hSw
              have d1 := cell_below hSw c1; have d2 := cell_below hSw c2; have d3 := cell_below hSw c3; have d4 := cell_below hSw c4; have d5 := cell_below hSw c5; have d6 := cell_below hSw c6
              try dsimp only at hSw
              go_simp
              try with_reducible rfl
            try simp only [Act.put, List.setIfInBounds_toArray, List.set_cons_zero, List.set_cons_succ]
            refine wpAnyX_take (i := 2) (oi := ⟨some 29, _, _, _, _, _⟩) (v := ?_) rfl (by kernel_rfl) (by kernel_rfl) (by kernel_rfl) (by kernel_rfl) (fun _ _ _ h => h) (Or.inl ⟨by kernel_rfl, ?_⟩) hS ?_
            rotate_left
            · intro w hSw
              have d1 := cell_below hSw c1; have d2 := cell_below hSw c2; have d3 := cell_below hSw c3; have d4 := cell_below hSw c4; have d5 := cell_below hSw c5; have d6 := cell_below hSw c6
              try dsimp only at hSw
              go_simp
              try with_reducible rfl
            try simp only [Act.put, List.setIfInBounds_toArray, List.set_cons_zero, List.set_cons_succ]
            refine wpAnyX_take (i := 3) (oi := ⟨some 30, _, _, _, _, _⟩) (v := ?_) rfl (by kernel_rfl) (by kernel_rfl) (by kernel_rfl) (by kernel_rfl) (fun _ _ _ h => h) (Or.inl ⟨by kernel_rfl, ?_⟩) hS ?_
            rotate_left
            · intro w hSw
              have d1 := cell_below hSw c1; have d2 := cell_below hSw c2; have d3 := cell_below hSw c3; have d4 := cell_below hSw c4; have d5 := cell_below hSw c5; have d6 := cell_below hSw c6
              try dsimp only at hSw
              go_simp
              try with_reducible rfl
            try simp only [Act.put, List.setIfInBounds_toArray, List.set_cons_zero, List.set_cons_succ]
            refine wpAnyX_take (i := 4) (oi := ⟨some 31, _, _, _, _, _⟩) (v := ?_) rfl (by kernel_rfl) (by kernel_rfl) (by kernel_rfl) (by kernel_rfl) (fun _ _ _ h => h) (Or.inl ⟨by kernel_rfl, ?_⟩) hS ?_
            rotate_left
            · intro w hSw
              have d1 := cell_below hSw c1; have d2 := cell_below hSw c2; have d3 := cell_below hSw c3; have d4 := cell_below hSw c4; have d5 := cell_below hSw c5; have d6 := cell_below hSw c6
              try dsimp only at hSw
              go_simp
              try with_reducible rfl
            try simp only [Act.put, List.setIfInBounds_toArray, List.set_cons_zero, List.set_cons_succ]
            refine wpAnyX_take (i := 5) (oi := ⟨some 32, _, _, _, _, _⟩) (v := ?_) rfl (by kernel_rfl) (by kernel_rfl) (by kernel_rfl) (by kernel_rfl) (fun _ _ _ h => h) (Or.inl ⟨by kernel_rfl, ?_⟩) hS ?_
            rotate_left
            · intro w hSw
              have d1 := cell_below hSw c1; have d2 := cell_below hSw c2; have d3 := cell_below hSw c3; have d4 := cell_below hSw c4; have d5 := cell_below hSw c5; have d6 := cell_below hSw c6
              try dsimp only at hSw
              go_simp
              try with_reducible rfl
            try simp only [Act.put, List.setIfInBounds_toArray, List.set_cons_zero, List.set_cons_succ]
            refine wpAnyX_take (i := 6) (oi := ⟨some 33, _, _, _, _, _⟩) (v := ?_) rfl (by kernel_rfl) (by kernel_rfl) (by kernel_rfl) (by kernel_rfl) (fun _ _ _ h => h) (Or.inl ⟨by kernel_rfl, ?_⟩) hS ?_
            rotate_left
            · intro w hSw
              have d1 := cell_below hSw c1; have d2 := cell_below hSw c2; have d3 := cell_below hSw c3; have d4 := cell_below hSw c4; have d5 := cell_below hSw c5; have d6 := cell_below hSw c6
              try dsimp only at hSw
              go_simp
              try with_reducible rfl
            try simp only [Act.put, List.setIfInBounds_toArray, List.set_cons_zero, List.set_cons_succ]
            refine wpAnyX_take (i := 7) (oi := ⟨some 34, _, _, _, _, _⟩) (v := ?_) rfl (by kernel_rfl) (by kernel_rfl) (by kernel_rfl) (by kernel_rfl) (fun _ _ _ h => h) (Or.inl ⟨by kernel_rfl, ?_⟩) hS ?_
            rotate_left
            · intro w hSw
              have d1 := cell_below hSw c1; have d2 := cell_below hSw c2; have d3 := cell_below hSw c3; have d4 := cell_below hSw c4; have d5 := cell_below hSw c5; have d6 := cell_below hSw c6
              try dsimp only at hSw
              go_simp
              try with_reducible rfl
            try simp only [Act.put, List.setIfInBounds_toArray, List.set_cons_zero, List.set_cons_succ]
            refine wpAnyX_take (i := 8) (oi := ⟨some 35, _, _, _, _, _⟩) (v := ?_) rfl (by kernel_rfl) (by kernel_rfl) (by kernel_rfl) (by kernel_rfl) (fun _ _ _ h => h) (Or.inl ⟨by kernel_rfl, ?_⟩) hS ?_
            rotate_left
            · intro w hSw
              have d1 := cell_below hSw c1; have d2 := cell_below hSw c2; have d3 := cell_below hSw c3; have d4 := cell_below hSw c4; have d5 := cell_below hSw c5; have d6 := cell_below hSw c6
              try dsimp only at hSw
              go_simp
              try with_reducible rfl
            try simp only [Act.put, List.setIfInBounds_toArray, List.set_cons_zero, List.set_cons_succ]
            refine wpAnyX_take (i := 9) (oi := ⟨some 36, _, _, _, _, _⟩) (v := ?_) rfl (by kernel_rfl) (by kernel_rfl) (by kernel_rfl) (by kernel_rfl) (fun _ _ _ h => h) (Or.inl ⟨by kernel_rfl, ?_⟩) hS ?_
            rotate_left
            · intro w hSw
              have d1 := cell_below hSw c1; have d2 := cell_below hSw c2; have d3 := cell_below hSw c3; have d4 := cell_below hSw c4; have d5 := cell_below hSw c5; have d6 := cell_below hSw c6
              try dsimp only at hSw
              go_simp
              try with_reducible rfl
            try simp only [Act.put, List.setIfInBounds_toArray, List.set_cons_zero, List.set_cons_succ]
            refine wpAnyX_take (i := 10) (oi := ⟨some 37, _, _, _, _, _⟩) (v := ?_) rfl (by kernel_rfl) (by kernel_rfl) (by kernel_rfl) (by kernel_rfl) (fun _ _ _ h => h) (Or.inl ⟨by kernel_rfl, ?_⟩) hS ?_
            rotate_left
            · intro w hSw
              have d1 := cell_below hSw c1; have d2 := cell_below hSw c2; have d3 := cell_below hSw c3; have d4 := cell_below hSw c4; have d5 := cell_below hSw c5; have d6 := cell_below hSw c6
              try dsimp only at hSw
              go_simp
              try with_reducible rfl
            try simp only [Act.put, List.setIfInBounds_toArray, List.set_cons_zero, List.set_cons_succ]
            refine wpAnyX_ready (rs := [11]) (by kernel_rfl) (by simp) ?_
            refine AllReadyX.cons (o := ⟨some 38, _, _, _, _, _⟩) rfl (fun K hK => ?_) AllReadyX.nil
            go_simp
            go_at_call 82
            refine (cA.out _).mono ?_
            rintro e w4 ⟨rfl, hb4⟩
            have hS0 := hS
            clear hS
            refine hK.out _ _ (fun _ => below_down hS0 hb4) (fun hS => ?_)
            replace hS := hS (by kernel_rfl)
            clear hK K hS0
            try simp only [Act.put, List.setIfInBounds_toArray, List.set_cons_zero, List.set_cons_succ]
            refine wpAnyX_take (i := 12) (oi := ⟨some 39, _, _, _, _, _⟩) (v := ?_) rfl (by kernel_rfl) (by kernel_rfl) (by kernel_rfl) (by kernel_rfl) (fun _ _ _ h => h) (Or.inl ⟨by kernel_rfl, ?_⟩) hS ?_
            rotate_left
            · intro w hSw
              have d1 := cell_below hSw c1; have d2 := cell_below hSw c2; have d3 := cell_below hSw c3; have d4 := cell_below hSw c4; have d5 := cell_below hSw c5; have d6 := cell_below hSw c6
              try dsimp only at hSw
              go_simp
              try with_reducible rfl
            try simp only [Act.put, List.setIfInBounds_toArray, List.set_cons_zero, List.set_cons_succ]
            refine wpAnyX_done (by kernel_rfl) ?_ _
            go_wp2
            generalize hwy : w4 = wy at *
            clear hwy
            have hbY := hS
            have c1 := cell_below hbY c1
            have c2 := cell_below hbY c2
            have c3 := cell_below hbY c3
            have c4 := cell_below hbY c4
            have c5 := cell_below hbY c5
            have c6 := cell_below hbY c6
            clear hS
            refine wp_region_X (fun w' => Below wy.heap.size wy w') 1000 (by kernel_rfl) ?_ (fun hS => ?_)
            · exact (Below.refl _ _).drew
            refine wpAnyX_take (i := 0) (oi := ⟨some 41, _, _, _, _, _⟩) (v := ?_) rfl (by kernel_rfl) (by kernel_rfl) (by kernel_rfl) (by kernel_rfl) (fun _ _ _ h => h) (Or.inl ⟨by kernel_rfl, ?_⟩) hS ?_
            rotate_left
            · intro w hSw
              have d1 := cell_below hSw c1; have d2 := cell_below hSw c2; have d3 := cell_below hSw c3; have d4 := cell_below hSw c4; have d5 := cell_below hSw c5; have d6 := cell_below hSw c6
              try dsimp only at hSw
              go_simp
              try with_reducible rfl
            try simp only [Act.put, List.setIfInBounds_toArray, List.set_cons_zero, List.set_cons_succ]
            refine wpAnyX_take (i := 1) (oi := ⟨some 42, _, _, _, _, _⟩) (v := ?_) rfl (by kernel_rfl) (by kernel_rfl) (by kernel_rfl) (by kernel_rfl) (fun _ _ _ h => h) (Or.inl ⟨by kernel_rfl, ?_⟩) hS ?_
            rotate_left
            · intro w hSw
              have d1 := cell_below hSw c1; have d2 := cell_below hSw c2; have d3 := cell_below hSw c3; have d4 := cell_below hSw c4; have d5 := cell_below hSw c5; have d6 := cell_below hSw c6
              try dsimp only at hSw
              go_simp
              try with_reducible rfl
            try simp only [Act.put, List.setIfInBounds_toArray, List.set_cons_zero, List.set_cons_succ]
            refine wpAnyX_take (i := 2) (oi := ⟨some 43, _, _, _, _, _⟩) (v := ?_) rfl (by kernel_rfl) (by kernel_rfl) (by kernel_rfl) (by kernel_rfl) (fun _ _ _ h => h) (Or.inl ⟨by kernel_rfl, ?_⟩) hS ?_
            rotate_left
            · intro w hSw
              have d1 := cell_below hSw c1; have d2 := cell_below hSw c2; have d3 := cell_below hSw c3; have d4 := cell_below hSw c4; have d5 := cell_below hSw c5; have d6 := cell_below hSw c6
              try dsimp only at hSw
              go_simp
              try with_reducible rfl
            try simp only [Act.put, List.setIfInBounds_toArray, List.set_cons_zero, List.set_cons_succ]
            refine wpAnyX_take (i := 3) (oi := ⟨some 44, _, _, _, _, _⟩) (v := ?_) rfl (by kernel_rfl) (by kernel_rfl) (by kernel_rfl) (by kernel_rfl) (fun _ _ _ h => h) (Or.inl ⟨by kernel_rfl, ?_⟩) hS ?_
            rotate_left
            · intro w hSw
              have d1 := cell_below hSw c1; have d2 := cell_below hSw c2; have d3 := cell_below hSw c3; have d4 := cell_below hSw c4; have d5 := cell_below hSw c5; have d6 := cell_below hSw c6
              try dsimp only at hSw
              go_simp
              try with_reducible rfl
            try simp only [Act.put, List.setIfInBounds_toArray, List.set_cons_zero, List.set_cons_succ]
            refine wpAnyX_take (i := 4) (oi := ⟨some 45, _, _, _, _, _⟩) (v := ?_) rfl (by kernel_rfl) (by kernel_rfl) (by kernel_rfl) (by kernel_rfl) (fun _ _ _ h => h) (Or.inl ⟨by kernel_rfl, ?_⟩) hS ?_
            rotate_left
            · intro w hSw
              have d1 := cell_below hSw c1; have d2 := cell_below hSw c2; have d3 := cell_below hSw c3; have d4 := cell_below hSw c4; have d5 := cell_below hSw c5; have d6 := cell_below hSw c6
              try dsimp only at hSw
              go_simp
              try with_reducible rfl
            try simp only [Act.put, List.setIfInBounds_toArray, List.set_cons_zero, List.set_cons_succ]
            refine wpAnyX_take (i := 5) (oi := ⟨some 46, _, _, _, _, _⟩) (v := ?_) rfl (by kernel_rfl) (by kernel_rfl) (by kernel_rfl) (by kernel_rfl) (fun _ _ _ h => h) (Or.inl ⟨by kernel_rfl, ?_⟩) hS ?_
            rotate_left
            · intro w hSw
              have d1 := cell_below hSw c1; have d2 := cell_below hSw c2; have d3 := cell_below hSw c3; have d4 := cell_below hSw c4; have d5 := cell_below hSw c5; have d6 := cell_below hSw c6
              try dsimp only at hSw
              go_simp
              try with_reducible rfl
            try simp only [Act.put, List.setIfInBounds_toArray, List.set_cons_zero, List.set_cons_succ]
            refine wpAnyX_take (i := 6) (oi := ⟨some 47, _, _, _, _, _⟩) (v := ?_) rfl (by kernel_rfl) (by kernel_rfl) (by kernel_rfl) (by kernel_rfl) (fun _ _ _ h => h) (Or.inl ⟨by kernel_rfl, ?_⟩) hS ?_
            rotate_left
            · intro w hSw
              have d1 := cell_below hSw c1; have d2 := cell_below hSw c2; have d3 := cell_below hSw c3; have d4 := cell_below hSw c4; have d5 := cell_below hSw c5; have d6 := cell_below hSw c6
              try dsimp only at hSw
              go_simp
              try with_reducible rfl
            try simp only [Act.put, List.setIfInBounds_toArray, List.set_cons_zero, List.set_cons_succ]
            refine wpAnyX_take (i := 7) (oi := ⟨some 48, _, _, _, _, _⟩) (v := ?_) rfl (by kernel_rfl) (by kernel_rfl) (by kernel_rfl) (by kernel_rfl) (fun _ _ _ h => h) (Or.inl ⟨by kernel_rfl, ?_⟩) hS ?_
            rotate_left
            · intro w hSw
              have d1 := cell_below hSw c1; have d2 := cell_below hSw c2; have d3 := cell_below hSw c3; have d4 := cell_below hSw c4; have d5 := cell_below hSw c5; have d6 := cell_below hSw c6
              try dsimp only at hSw
              go_simp
              try with_reducible rfl
            try simp only [Act.put, List.setIfInBounds_toArray, List.set_cons_zero, List.set_cons_succ]
            refine wpAnyX_take (i := 8) (oi := ⟨some 49, _, _, _, _, _⟩) (v := ?_) rfl (by kernel_rfl) (by kernel_rfl) (by kernel_rfl) (by kernel_rfl) (fun _ _ _ h => h) (Or.inl ⟨by kernel_rfl, ?_⟩) hS ?_
            rotate_left
            · intro w hSw
              have d1 := cell_below hSw c1; have d2 := cell_below hSw c2; have d3 := cell_below hSw c3; have d4 := cell_below hSw c4; have d5 := cell_below hSw c5; have d6 := cell_below hSw c6
              try dsimp only at hSw
              go_simp
              try with_reducible rfl
            try simp only [Act.put, List.setIfInBounds_toArray, List.set_cons_zero, List.set_cons_succ]
            refine wpAnyX_take (i := 9) (oi := ⟨some 50, _, _, _, _, _⟩) (v := ?_) rfl (by kernel_rfl) (by kernel_rfl) (by kernel_rfl) (by kernel_rfl) (fun _ _ _ h => h) (Or.inl ⟨by kernel_rfl, ?_⟩) hS ?_
            rotate_left
            · intro w hSw
              have d1 := cell_below hSw c1; have d2 := cell_below hSw c2; have d3 := cell_below hSw c3; have d4 := cell_below hSw c4; have d5 := cell_below hSw c5; have d6 := cell_below hSw c6
              try dsimp only at hSw
              go_simp
              try with_reducible rfl
            try simp only [Act.put, List.setIfInBounds_toArray, List.set_cons_zero, List.set_cons_succ]
            refine wpAnyX_take (i := 10) (oi := ⟨some 51, _, _, _, _, _⟩) (v := ?_) rfl (by kernel_rfl) (by kernel_rfl) (by kernel_rfl) (by kernel_rfl) (fun _ _ _ h => h) (Or.inl ⟨by kernel_rfl, ?_⟩) hS ?_
            rotate_left
            · intro w hSw
              have d1 := cell_below hSw c1; have d2 := cell_below hSw c2; have d3 := cell_below hSw c3; have d4 := cell_below hSw c4; have d5 := cell_below hSw c5; have d6 := cell_below hSw c6
              try dsimp only at hSw
              go_simp
              try with_reducible rfl
            try simp only [Act.put, List.setIfInBounds_toArray, List.set_cons_zero, List.set_cons_succ]
            refine wpAnyX_ready (rs := [11]) (by kernel_rfl) (by simp) ?_
            refine AllReadyX.cons (o := ⟨some 52, _, _, _, _, _⟩) rfl (fun K hK => ?_) AllReadyX.nil
            go_simp
            go_at_call 82
            refine (cB.out _).mono ?_
            rintro e w6 ⟨rfl, hb6⟩
            have hS0 := hS
            clear hS
            refine hK.out _ _ (fun _ => below_down hS0 hb6) (fun hS => ?_)
            replace hS := hS (by kernel_rfl)
            clear hK K hS0
            try simp only [Act.put, List.setIfInBounds_toArray, List.set_cons_zero, List.set_cons_succ]
            refine wpAnyX_take (i := 12) (oi := ⟨some 53, _, _, _, _, _⟩) (v := ?_) rfl (by kernel_rfl) (by kernel_rfl) (by kernel_rfl) (by kernel_rfl) (fun _ _ _ h => h) (Or.inl ⟨by kernel_rfl, ?_⟩) hS ?_
            rotate_left
            · intro w hSw
              have d1 := cell_below hSw c1; have d2 := cell_below hSw c2; have d3 := cell_below hSw c3; have d4 := cell_below hSw c4; have d5 := cell_below hSw c5; have d6 := cell_below hSw c6
              try dsimp only at hSw
              go_simp
              try with_reducible rfl
            try simp only [Act.put, List.setIfInBounds_toArray, List.set_cons_zero, List.set_cons_succ]
            refine wpAnyX_take (i := 13) (oi := ⟨some 54, _, _, _, _, _⟩) (v := ?_) rfl (by kernel_rfl) (by kernel_rfl) (by kernel_rfl) (by kernel_rfl) (fun _ _ _ h => h) (Or.inl ⟨by kernel_rfl, ?_⟩) hS ?_
            rotate_left
            · intro w hSw
              have d1 := cell_below hSw c1; have d2 := cell_below hSw c2; have d3 := cell_below hSw c3; have d4 := cell_below hSw c4; have d5 := cell_below hSw c5; have d6 := cell_below hSw c6
              try dsimp only at hSw
              go_simp
              try with_reducible rfl
            try simp only [Act.put, List.setIfInBounds_toArray, List.set_cons_zero, List.set_cons_succ]
            refine wpAnyX_done (by kernel_rfl) ?_ _
            go_wp2
            go_roundw
            case rel => exact ⟨m + 1, (a : Int), (r : Int), by omega, by go_num, rfl, rfl, hN, hN', .inr ⟨a, r, rfl, rfl, ha, hr⟩, below_down (below_down hbel hbY) hS⟩
            case measure => simp [intOf]; omega
          · have hN := Lib.hid (hS.out.trans (by rw [hz.out, stepHi_f HBK.out hxv.out hxr.out hl1]))
            have hN' := Lib.hid (hS'.out.trans (by rw [hz'.out, stepLo_f HBK.out hxu.out hxr.out hl2]))
            rw [hl1] at cA
            rw [hl2] at cB
            clear hl1 hl2 hS hS'
            go_wp2
            refine wp_region_X (fun w' => Below wr.heap.size wr w') 1000 (by kernel_rfl) ?_ (fun hS => ?_)
            · exact (Below.refl _ _).drew
            refine wpAnyX_take (i := 0) (oi := ⟨some 27, _, _, _, _, _⟩) (v := ?_) rfl (by kernel_rfl) (by kernel_rfl) (by kernel_rfl) (by kernel_rfl) (fun _ _ _ h => h) (Or.inl ⟨by kernel_rfl, ?_⟩) hS ?_
            rotate_left
            · intro w hSw
              have d1 := cell_below hSw c1; have d2 := cell_below hSw c2; have d3 := cell_below hSw c3; have d4 := cell_below hSw c4; have d5 := cell_below hSw c5; have d6 := cell_below hSw c6
              try dsimp only at hSw
              go_simp
              try with_reducible rfl
            try simp only [Act.put, List.setIfInBounds_toArray, List.set_cons_zero, List.set_cons_succ]
            refine wpAnyX_take (i := 1) (oi := ⟨some 28, _, _, _, _, _⟩) (v := ?_) rfl (by kernel_rfl) (by kernel_rfl) (by kernel_rfl) (by kernel_rfl) (fun _ _ _ h => h) (Or.inl ⟨by kernel_rfl, ?_⟩) hS ?_
            rotate_left
            · intro w hSw
              have d1 := cell_below hSw c1; have d2 := cell_below hSw c2; have d3 := cell_below hSw c3; have d4 := cell_below hSw c4; have d5 := cell_below hSw c5; have d6 := cell_below hSw c6
              try dsimp only at hSw
              go_simp
              try with_reducible rfl
            try simp only [Act.put, List.setIfInBounds_toArray, List.set_cons_zero, List.set_cons_succ]
            refine wpAnyX_take (i := 2) (oi := ⟨some 29, _, _, _, _, _⟩) (v := ?_) rfl (by kernel_rfl) (by kernel_rfl) (by kernel_rfl) (by kernel_rfl) (fun _ _ _ h => h) (Or.inl ⟨by kernel_rfl, ?_⟩) hS ?_
            rotate_left
            · intro w hSw
              have d1 := cell_below hSw c1; have d2 := cell_below hSw c2; have d3 := cell_below hSw c3; have d4 := cell_below hSw c4; have d5 := cell_below hSw c5; have d6 := cell_below hSw c6
              try dsimp only at hSw
              go_simp
              try with_reducible rfl
            try simp only [Act.put, List.setIfInBounds_toArray, List.set_cons_zero, List.set_cons_succ]
            refine wpAnyX_take (i := 3) (oi := ⟨some 30, _, _, _, _, _⟩) (v := ?_) rfl (by kernel_rfl) (by kernel_rfl) (by kernel_rfl) (by kernel_rfl) (fun _ _ _ h => h) (Or.inl ⟨by kernel_rfl, ?_⟩) hS ?_
            rotate_left
            · intro w hSw
              have d1 := cell_below hSw c1; have d2 := cell_below hSw c2; have d3 := cell_below hSw c3; have d4 := cell_below hSw c4; have d5 := cell_below hSw c5; have d6 := cell_below hSw c6
              try dsimp only at hSw
              go_simp
              try with_reducible rfl
            try simp only [Act.put, List.setIfInBounds_toArray, List.set_cons_zero, List.set_cons_succ]
            refine wpAnyX_take (i := 4) (oi := ⟨some 31, _, _, _, _, _⟩) (v := ?_) rfl (by kernel_rfl) (by kernel_rfl) (by kernel_rfl) (by kernel_rfl) (fun _ _ _ h => h) (Or.inl ⟨by kernel_rfl, ?_⟩) hS ?_
            rotate_left
            · intro w hSw
              have d1 := cell_below hSw c1; have d2 := cell_below hSw c2; have d3 := cell_below hSw c3; have d4 := cell_below hSw c4; have d5 := cell_below hSw c5; have d6 := cell_below hSw c6
              try dsimp only at hSw
              go_simp
              try with_reducible rfl
            try simp only [Act.put, List.setIfInBounds_toArray, List.set_cons_zero, List.set_cons_succ]
            refine wpAnyX_take (i := 5) (oi := ⟨some 32, _, _, _, _, _⟩) (v := ?_) rfl (by kernel_rfl) (by kernel_rfl) (by kernel_rfl) (by kernel_rfl) (fun _ _ _ h => h) (Or.inl ⟨by kernel_rfl, ?_⟩) hS ?_
            rotate_left
            · intro w hSw
              have d1 := cell_below hSw c1; have d2 := cell_below hSw c2; have d3 := cell_below hSw c3; have d4 := cell_below hSw c4; have d5 := cell_below hSw c5; have d6 := cell_below hSw c6
              try dsimp only at hSw
              go_simp
              try with_reducible rfl
            try simp only [Act.put, List.setIfInBounds_toArray, List.set_cons_zero, List.set_cons_succ]
            refine wpAnyX_take (i := 6) (oi := ⟨some 33, _, _, _, _, _⟩) (v := ?_) rfl (by kernel_rfl) (by kernel_rfl) (by kernel_rfl) (by kernel_rfl) (fun _ _ _ h => h) (Or.inl ⟨by kernel_rfl, ?_⟩) hS ?_
            rotate_left
            · intro w hSw
              have d1 := cell_below hSw c1; have d2 := cell_below hSw c2; have d3 := cell_below hSw c3; have d4 := cell_below hSw c4; have d5 := cell_below hSw c5; have d6 := cell_below hSw c6
              try dsimp only at hSw
              go_simp
              try with_reducible rfl
            try simp only [Act.put, List.setIfInBounds_toArray, List.set_cons_zero, List.set_cons_succ]
            refine wpAnyX_take (i := 7) (oi := ⟨some 34, _, _, _, _, _⟩) (v := ?_) rfl (by kernel_rfl) (by kernel_rfl) (by kernel_rfl) (by kernel_rfl) (fun _ _ _ h => h) (Or.inl ⟨by kernel_rfl, ?_⟩) hS ?_
            rotate_left
            · intro w hSw
              have d1 := cell_below hSw c1; have d2 := cell_below hSw c2; have d3 := cell_below hSw c3; have d4 := cell_below hSw c4; have d5 := cell_below hSw c5; have d6 := cell_below hSw c6
              try dsimp only at hSw
              go_simp
              try with_reducible rfl
            try simp only [Act.put, List.setIfInBounds_toArray, List.set_cons_zero, List.set_cons_succ]
            refine wpAnyX_take (i := 8) (oi := ⟨some 35, _, _, _, _, _⟩) (v := ?_) rfl (by kernel_rfl) (by kernel_rfl) (by kernel_rfl) (by kernel_rfl) (fun _ _ _ h => h) (Or.inl ⟨by kernel_rfl, ?_⟩) hS ?_
            rotate_left
            · intro w hSw
              have d1 := cell_below hSw c1; have d2 := cell_below hSw c2; have d3 := cell_below hSw c3; have d4 := cell_below hSw c4; have d5 := cell_below hSw c5; have d6 := cell_below hSw c6
              try dsimp only at hSw
              go_simp
              try with_reducible rfl
            try simp only [Act.put, List.setIfInBounds_toArray, List.set_cons_zero, List.set_cons_succ]
            refine wpAnyX_take (i := 9) (oi := ⟨some 36, _, _, _, _, _⟩) (v := ?_) rfl (by kernel_rfl) (by kernel_rfl) (by kernel_rfl) (by kernel_rfl) (fun _ _ _ h => h) (Or.inl ⟨by kernel_rfl, ?_⟩) hS ?_
            rotate_left
            · intro w hSw
              have d1 := cell_below hSw c1; have d2 := cell_below hSw c2; have d3 := cell_below hSw c3; have d4 := cell_below hSw c4; have d5 := cell_below hSw c5; have d6 := cell_below hSw c6
              try dsimp only at hSw
              go_simp
              try with_reducible rfl
            try simp only [Act.put, List.setIfInBounds_toArray, List.set_cons_zero, List.set_cons_succ]
            refine wpAnyX_take (i := 10) (oi := ⟨some 37, _, _, _, _, _⟩) (v := ?_) rfl (by kernel_rfl) (by kernel_rfl) (by kernel_rfl) (by kernel_rfl) (fun _ _ _ h => h) (Or.inl ⟨by kernel_rfl, ?_⟩) hS ?_
            rotate_left
            · intro w hSw
              have d1 := cell_below hSw c1; have d2 := cell_below hSw c2; have d3 := cell_below hSw c3; have d4 := cell_below hSw c4; have d5 := cell_below hSw c5; have d6 := cell_below hSw c6
              try dsimp only at hSw
              go_simp
              try with_reducible rfl
            try simp only [Act.put, List.setIfInBounds_toArray, List.set_cons_zero, List.set_cons_succ]
            refine wpAnyX_ready (rs := [11]) (by kernel_rfl) (by simp) ?_
            refine AllReadyX.cons (o := ⟨some 38, _, _, _, _, _⟩) rfl (fun K hK => ?_) AllReadyX.nil
            go_simp
            go_at_call 82
            refine (cA.out _).mono ?_
            rintro e w4 ⟨rfl, hb4⟩
            have hS0 := hS
            clear hS
            refine hK.out _ _ (fun _ => below_down hS0 hb4) (fun hS => ?_)
            replace hS := hS (by kernel_rfl)
            clear hK K hS0
            try simp only [Act.put, List.setIfInBounds_toArray, List.set_cons_zero, List.set_cons_succ]
            refine wpAnyX_take (i := 12) (oi := ⟨some 39, _, _, _, _, _⟩) (v := ?_) rfl (by kernel_rfl) (by kernel_rfl) (by kernel_rfl) (by kernel_rfl) (fun _ _ _ h => h) (Or.inl ⟨by kernel_rfl, ?_⟩) hS ?_
            rotate_left
            · intro w hSw
              have d1 := cell_below hSw c1; have d2 := cell_below hSw c2; have d3 := cell_below hSw c3; have d4 := cell_below hSw c4; have d5 := cell_below hSw c5; have d6 := cell_below hSw c6
              try dsimp only at hSw
              go_simp
              try with_reducible rfl
            try simp only [Act.put, List.setIfInBounds_toArray, List.set_cons_zero, List.set_cons_succ]
            refine wpAnyX_done (by kernel_rfl) ?_ _
            go_wp2
            generalize hwy : w4 = wy at *
            clear hwy
            have hbY := hS
            have c1 := cell_below hbY c1
            have c2 := cell_below hbY c2
            have c3 := cell_below hbY c3
            have c4 := cell_below hbY c4
            have c5 := cell_below hbY c5
            have c6 := cell_below hbY c6
            clear hS
            refine wp_region_X (fun w' => Below wy.heap.size wy w') 1000 (by kernel_rfl) ?_ (fun hS => ?_)
            · exact (Below.refl _ _).drew
            refine wpAnyX_take (i := 0) (oi := ⟨some 41, _, _, _, _, _⟩) (v := ?_) rfl (by kernel_rfl) (by kernel_rfl) (by kernel_rfl) (by kernel_rfl) (fun _ _ _ h => h) (Or.inl ⟨by kernel_rfl, ?_⟩) hS ?_
            rotate_left
            · intro w hSw
              have d1 := cell_below hSw c1; have d2 := cell_below hSw c2; have d3 := cell_below hSw c3; have d4 := cell_below hSw c4; have d5 := cell_below hSw c5; have d6 := cell_below hSw c6
              try dsimp only at hSw
              go_simp
              try with_reducible rfl
            try simp only [Act.put, List.setIfInBounds_toArray, List.set_cons_zero, List.set_cons_succ]
            refine wpAnyX_take (i := 1) (oi := ⟨some 42, _, _, _, _, _⟩) (v := ?_) rfl (by kernel_rfl) (by kernel_rfl) (by kernel_rfl) (by kernel_rfl) (fun _ _ _ h => h) (Or.inl ⟨by kernel_rfl, ?_⟩) hS ?_
            rotate_left
            · intro w hSw
              have d1 := cell_below hSw c1; have d2 := cell_below hSw c2; have d3 := cell_below hSw c3; have d4 := cell_below hSw c4; have d5 := cell_below hSw c5; have d6 := cell_below hSw c6
              try dsimp only at hSw
              go_simp
              try with_reducible rfl
            try simp only [Act.put, List.setIfInBounds_toArray, List.set_cons_zero, List.set_cons_succ]
            refine wpAnyX_take (i := 2) (oi := ⟨some 43, _, _, _, _, _⟩) (v := ?_) rfl (by kernel_rfl) (by kernel_rfl) (by kernel_rfl) (by kernel_rfl) (fun _ _ _ h => h) (Or.inl ⟨by kernel_rfl, ?_⟩) hS ?_
            rotate_left
            · intro w hSw
              have d1 := cell_below hSw c1; have d2 := cell_below hSw c2; have d3 := cell_below hSw c3; have d4 := cell_below hSw c4; have d5 := cell_below hSw c5; have d6 := cell_below hSw c6
              try dsimp only at hSw
              go_simp
              try with_reducible rfl
            try simp only [Act.put, List.setIfInBounds_toArray, List.set_cons_zero, List.set_cons_succ]
            refine wpAnyX_take (i := 3) (oi := ⟨some 44, _, _, _, _, _⟩) (v := ?_) rfl (by kernel_rfl) (by kernel_rfl) (by kernel_rfl) (by kernel_rfl) (fun _ _ _ h => h) (Or.inl ⟨by kernel_rfl, ?_⟩) hS ?_
            rotate_left
            · intro w hSw
              have d1 := cell_below hSw c1; have d2 := cell_below hSw c2; have d3 := cell_below hSw c3; have d4 := cell_below hSw c4; have d5 := cell_below hSw c5; have d6 := cell_below hSw c6
              try dsimp only at hSw
              go_simp
              try with_reducible rfl
            try simp only [Act.put, List.setIfInBounds_toArray, List.set_cons_zero, List.set_cons_succ]
            refine wpAnyX_take (i := 4) (oi := ⟨some 45, _, _, _, _, _⟩) (v := ?_) rfl (by kernel_rfl) (by kernel_rfl) (by kernel_rfl) (by kernel_rfl) (fun _ _ _ h => h) (Or.inl ⟨by kernel_rfl, ?_⟩) hS ?_
            rotate_left
            · intro w hSw
              have d1 := cell_below hSw c1; have d2 := cell_below hSw c2; have d3 := cell_below hSw c3; have d4 := cell_below hSw c4; have d5 := cell_below hSw c5; have d6 := cell_below hSw c6
              try dsimp only at hSw
              go_simp
              try with_reducible rfl
            try simp only [Act.put, List.setIfInBounds_toArray, List.set_cons_zero, List.set_cons_succ]
            refine wpAnyX_take (i := 5) (oi := ⟨some 46, _, _, _, _, _⟩) (v := ?_) rfl (by kernel_rfl) (by kernel_rfl) (by kernel_rfl) (by kernel_rfl) (fun _ _ _ h => h) (Or.inl ⟨by kernel_rfl, ?_⟩) hS ?_
            rotate_left
            · intro w hSw
              have d1 := cell_below hSw c1; have d2 := cell_below hSw c2; have d3 := cell_below hSw c3; have d4 := cell_below hSw c4; have d5 := cell_below hSw c5; have d6 := cell_below hSw c6
              try dsimp only at hSw
              go_simp
              try with_reducible rfl
            try simp only [Act.put, List.setIfInBounds_toArray, List.set_cons_zero, List.set_cons_succ]
            refine wpAnyX_take (i := 6) (oi := ⟨some 47, _, _, _, _, _⟩) (v := ?_) rfl (by kernel_rfl) (by kernel_rfl) (by kernel_rfl) (by kernel_rfl) (fun _ _ _ h => h) (Or.inl ⟨by kernel_rfl, ?_⟩) hS ?_
            rotate_left
            · intro w hSw
              have d1 := cell_below hSw c1; have d2 := cell_below hSw c2; have d3 := cell_below hSw c3; have d4 := cell_below hSw c4; have d5 := cell_below hSw c5; have d6 := cell_below hSw c6
              try dsimp only at hSw
              go_simp
              try with_reducible rfl
            try simp only [Act.put, List.setIfInBounds_toArray, List.set_cons_zero, List.set_cons_succ]
            refine wpAnyX_take (i := 7) (oi := ⟨some 48, _, _, _, _, _⟩) (v := ?_) rfl (by kernel_rfl) (by kernel_rfl) (by kernel_rfl) (by kernel_rfl) (fun _ _ _ h => h) (Or.inl ⟨by kernel_rfl, ?_⟩) hS ?_
            rotate_left
            · intro w hSw
              have d1 := cell_below hSw c1; have d2 := cell_below hSw c2; have d3 := cell_below hSw c3; have d4 := cell_below hSw c4; have d5 := cell_below hSw c5; have d6 := cell_below hSw c6
              try dsimp only at hSw
              go_simp
              try with_reducible rfl
            try simp only [Act.put, List.setIfInBounds_toArray, List.set_cons_zero, List.set_cons_succ]
            refine wpAnyX_take (i := 8) (oi := ⟨some 49, _, _, _, _, _⟩) (v := ?_) rfl (by kernel_rfl) (by kernel_rfl) (by kernel_rfl) (by kernel_rfl) (fun _ _ _ h => h) (Or.inl ⟨by kernel_rfl, ?_⟩) hS ?_
            rotate_left
            · intro w hSw
              have d1 := cell_below hSw c1; have d2 := cell_below hSw c2; have d3 := cell_below hSw c3; have d4 := cell_below hSw c4; have d5 := cell_below hSw c5; have d6 := cell_below hSw c6
              try dsimp only at hSw
              go_simp
              try with_reducible rfl
            try simp only [Act.put, List.setIfInBounds_toArray, List.set_cons_zero, List.set_cons_succ]
            refine wpAnyX_take (i := 9) (oi := ⟨some 50, _, _, _, _, _⟩) (v := ?_) rfl (by kernel_rfl) (by kernel_rfl) (by kernel_rfl) (by kernel_rfl) (fun _ _ _ h => h) (Or.inl ⟨by kernel_rfl, ?_⟩) hS ?_
            rotate_left
            · intro w hSw
              have d1 := cell_below hSw c1; have d2 := cell_below hSw c2; have d3 := cell_below hSw c3; have d4 := cell_below hSw c4; have d5 := cell_below hSw c5; have d6 := cell_below hSw c6
              try dsimp only at hSw
              go_simp
              try with_reducible rfl
            try simp only [Act.put, List.setIfInBounds_toArray, List.set_cons_zero, List.set_cons_succ]
            refine wpAnyX_take (i := 10) (oi := ⟨some 51, _, _, _, _, _⟩) (v := ?_) rfl (by kernel_rfl) (by kernel_rfl) (by kernel_rfl) (by kernel_rfl) (fun _ _ _ h => h) (Or.inl ⟨by kernel_rfl, ?_⟩) hS ?_
            rotate_left
            · intro w hSw
              have d1 := cell_below hSw c1; have d2 := cell_below hSw c2; have d3 := cell_below hSw c3; have d4 := cell_below hSw c4; have d5 := cell_below hSw c5; have d6 := cell_below hSw c6
              try dsimp only at hSw
              go_simp
              try with_reducible rfl
            try simp only [Act.put, List.setIfInBounds_toArray, List.set_cons_zero, List.set_cons_succ]
            refine wpAnyX_ready (rs := [11]) (by kernel_rfl) (by simp) ?_
            refine AllReadyX.cons (o := ⟨some 52, _, _, _, _, _⟩) rfl (fun K hK => ?_) AllReadyX.nil
            go_simp
            go_at_call 82
            refine (cB.out _).mono ?_
            rintro e w6 ⟨rfl, hb6⟩
            have hS0 := hS
            clear hS
            refine hK.out _ _ (fun _ => below_down hS0 hb6) (fun hS => ?_)
            replace hS := hS (by kernel_rfl)
            clear hK K hS0
            try simp only [Act.put, List.setIfInBounds_toArray, List.set_cons_zero, List.set_cons_succ]
            refine wpAnyX_take (i := 12) (oi := ⟨some 53, _, _, _, _, _⟩) (v := ?_) rfl (by kernel_rfl) (by kernel_rfl) (by kernel_rfl) (by kernel_rfl) (fun _ _ _ h => h) (Or.inl ⟨by kernel_rfl, ?_⟩) hS ?_
            rotate_left
            · intro w hSw
              have d1 := cell_below hSw c1; have d2 := cell_below hSw c2; have d3 := cell_below hSw c3; have d4 := cell_below hSw c4; have d5 := cell_below hSw c5; have d6 := cell_below hSw c6
              try dsimp only at hSw
              go_simp
              try with_reducible rfl
            try simp only [Act.put, List.setIfInBounds_toArray, List.set_cons_zero, List.set_cons_succ]
            refine wpAnyX_take (i := 13) (oi := ⟨some 54, _, _, _, _, _⟩) (v := ?_) rfl (by kernel_rfl) (by kernel_rfl) (by kernel_rfl) (by kernel_rfl) (fun _ _ _ h => h) (Or.inl ⟨by kernel_rfl, ?_⟩) hS ?_
            rotate_left
            · intro w hSw
              have d1 := cell_below hSw c1; have d2 := cell_below hSw c2; have d3 := cell_below hSw c3; have d4 := cell_below hSw c4; have d5 := cell_below hSw c5; have d6 := cell_below hSw c6
              try dsimp only at hSw
              go_simp
              try with_reducible rfl
            try simp only [Act.put, List.setIfInBounds_toArray, List.set_cons_zero, List.set_cons_succ]
            refine wpAnyX_done (by kernel_rfl) ?_ _
            go_wp2
            go_roundw
            case rel => exact ⟨m + 1, (a : Int), (b : Int), by omega, by go_num, rfl, rfl, hN, hN', .inr ⟨a, b, rfl, rfl, ha, hb⟩, below_down (below_down hbel hbY) hS⟩
            case measure => simp [intOf]; omega
          · have hN := Lib.hid (hS.out.trans (by rw [hz.out, stepHi_t HBK.out hxv.out hxr.out hl1]))
            have hN' := Lib.hid (hS'.out.trans (by rw [hz'.out, stepLo_t HBK.out hxu.out hxr.out hl2]))
            rw [hl1] at cA
            rw [hl2] at cB
            clear hl1 hl2 hS hS'
            go_wp2
            refine wp_region_X (fun w' => Below wr.heap.size wr w') 1000 (by kernel_rfl) ?_ (fun hS => ?_)
            · exact (Below.refl _ _).drew
            refine wpAnyX_take (i := 0) (oi := ⟨some 27, _, _, _, _, _⟩) (v := ?_) rfl (by kernel_rfl) (by kernel_rfl) (by kernel_rfl) (by kernel_rfl) (fun _ _ _ h => h) (Or.inl ⟨by kernel_rfl, ?_⟩) hS ?_
            rotate_left
            · intro w hSw
              have d1 := cell_below hSw c1; have d2 := cell_below hSw c2; have d3 := cell_below hSw c3; have d4 := cell_below hSw c4; have d5 := cell_below hSw c5; have d6 := cell_below hSw c6
              try dsimp only at hSw
              go_simp
              try with_reducible rfl
            try simp only [Act.put, List.setIfInBounds_toArray, List.set_cons_zero, List.set_cons_succ]
            refine wpAnyX_take (i := 1) (oi := ⟨some 28, _, _, _, _, _⟩) (v := ?_) rfl (by kernel_rfl) (by kernel_rfl) (by kernel_rfl) (by kernel_rfl) (fun _ _ _ h => h) (Or.inl ⟨by kernel_rfl, ?_⟩) hS ?_
            rotate_left
            · intro w hSw
              have d1 := cell_below hSw c1; have d2 := cell_below hSw c2; have d3 := cell_below hSw c3; have d4 := cell_below hSw c4; have d5 := cell_below hSw c5; have d6 := cell_below hSw c6
              try dsimp only at hSw
              go_simp
              try with_reducible rfl
            try simp only [Act.put, List.setIfInBounds_toArray, List.set_cons_zero, List.set_cons_succ]
            refine wpAnyX_take (i := 2) (oi := ⟨some 29, _, _, _, _, _⟩) (v := ?_) rfl (by kernel_rfl) (by kernel_rfl) (by kernel_rfl) (by kernel_rfl) (fun _ _ _ h => h) (Or.inl ⟨by kernel_rfl, ?_⟩) hS ?_
            rotate_left
            · intro w hSw
              have d1 := cell_below hSw c1; have d2 := cell_below hSw c2; have d3 := cell_below hSw c3; have d4 := cell_below hSw c4; have d5 := cell_below hSw c5; have d6 := cell_below hSw c6
              try dsimp only at hSw
              go_simp
              try with_reducible rfl
            try simp only [Act.put, List.setIfInBounds_toArray, List.set_cons_zero, List.set_cons_succ]
            refine wpAnyX_take (i := 3) (oi := ⟨some 30, _, _, _, _, _⟩) (v := ?_) rfl (by kernel_rfl) (by kernel_rfl) (by kernel_rfl) (by kernel_rfl) (fun _ _ _ h => h) (Or.inl ⟨by kernel_rfl, ?_⟩) hS ?_
            rotate_left
            · intro w hSw
              have d1 := cell_below hSw c1; have d2 := cell_below hSw c2; have d3 := cell_below hSw c3; have d4 := cell_below hSw c4; have d5 := cell_below hSw c5; have d6 := cell_below hSw c6
              try dsimp only at hSw
              go_simp
              try with_reducible rfl
            try simp only [Act.put, List.setIfInBounds_toArray, List.set_cons_zero, List.set_cons_succ]
            refine wpAnyX_take (i := 4) (oi := ⟨some 31, _, _, _, _, _⟩) (v := ?_) rfl (by kernel_rfl) (by kernel_rfl) (by kernel_rfl) (by kernel_rfl) (fun _ _ _ h => h) (Or.inl ⟨by kernel_rfl, ?_⟩) hS ?_
            rotate_left
            · intro w hSw
              have d1 := cell_below hSw c1; have d2 := cell_below hSw c2; have d3 := cell_below hSw c3; have d4 := cell_below hSw c4; have d5 := cell_below hSw c5; have d6 := cell_below hSw c6
              try dsimp only at hSw
              go_simp
              try with_reducible rfl
            try simp only [Act.put, List.setIfInBounds_toArray, List.set_cons_zero, List.set_cons_succ]
            refine wpAnyX_take (i := 5) (oi := ⟨some 32, _, _, _, _, _⟩) (v := ?_) rfl (by kernel_rfl) (by kernel_rfl) (by kernel_rfl) (by kernel_rfl) (fun _ _ _ h => h) (Or.inl ⟨by kernel_rfl, ?_⟩) hS ?_
            rotate_left
            · intro w hSw
              have d1 := cell_below hSw c1; have d2 := cell_below hSw c2; have d3 := cell_below hSw c3; have d4 := cell_below hSw c4; have d5 := cell_below hSw c5; have d6 := cell_below hSw c6
              try dsimp only at hSw
              go_simp
              try with_reducible rfl
            try simp only [Act.put, List.setIfInBounds_toArray, List.set_cons_zero, List.set_cons_succ]
            refine wpAnyX_take (i := 6) (oi := ⟨some 33, _, _, _, _, _⟩) (v := ?_) rfl (by kernel_rfl) (by kernel_rfl) (by kernel_rfl) (by kernel_rfl) (fun _ _ _ h => h) (Or.inl ⟨by kernel_rfl, ?_⟩) hS ?_
            rotate_left
            · intro w hSw
              have d1 := cell_below hSw c1; have d2 := cell_below hSw c2; have d3 := cell_below hSw c3; have d4 := cell_below hSw c4; have d5 := cell_below hSw c5; have d6 := cell_below hSw c6
              try dsimp only at hSw
              go_simp
              try with_reducible rfl
            try simp only [Act.put, List.setIfInBounds_toArray, List.set_cons_zero, List.set_cons_succ]
            refine wpAnyX_take (i := 7) (oi := ⟨some 34, _, _, _, _, _⟩) (v := ?_) rfl (by kernel_rfl) (by kernel_rfl) (by kernel_rfl) (by kernel_rfl) (fun _ _ _ h => h) (Or.inl ⟨by kernel_rfl, ?_⟩) hS ?_
            rotate_left
            · intro w hSw
              have d1 := cell_below hSw c1; have d2 := cell_below hSw c2; have d3 := cell_below hSw c3; have d4 := cell_below hSw c4; have d5 := cell_below hSw c5; have d6 := cell_below hSw c6
              try dsimp only at hSw
              go_simp
              try with_reducible rfl
            try simp only [Act.put, List.setIfInBounds_toArray, List.set_cons_zero, List.set_cons_succ]
            refine wpAnyX_take (i := 8) (oi := ⟨some 35, _, _, _, _, _⟩) (v := ?_) rfl (by kernel_rfl) (by kernel_rfl) (by kernel_rfl) (by kernel_rfl) (fun _ _ _ h => h) (Or.inl ⟨by kernel_rfl, ?_⟩) hS ?_
            rotate_left
            · intro w hSw
              have d1 := cell_below hSw c1; have d2 := cell_below hSw c2; have d3 := cell_below hSw c3; have d4 := cell_below hSw c4; have d5 := cell_below hSw c5; have d6 := cell_below hSw c6
              try dsimp only at hSw
              go_simp
              try with_reducible rfl
            try simp only [Act.put, List.setIfInBounds_toArray, List.set_cons_zero, List.set_cons_succ]
            refine wpAnyX_take (i := 9) (oi := ⟨some 36, _, _, _, _, _⟩) (v := ?_) rfl (by kernel_rfl) (by kernel_rfl) (by kernel_rfl) (by kernel_rfl) (fun _ _ _ h => h) (Or.inl ⟨by kernel_rfl, ?_⟩) hS ?_
            rotate_left
            · intro w hSw
              have d1 := cell_below hSw c1; have d2 := cell_below hSw c2; have d3 := cell_below hSw c3; have d4 := cell_below hSw c4; have d5 := cell_below hSw c5; have d6 := cell_below hSw c6
              try dsimp only at hSw
              go_simp
              try with_reducible rfl
            try simp only [Act.put, List.setIfInBounds_toArray, List.set_cons_zero, List.set_cons_succ]
            refine wpAnyX_take (i := 10) (oi := ⟨some 37, _, _, _, _, _⟩) (v := ?_) rfl (by kernel_rfl) (by kernel_rfl) (by kernel_rfl) (by kernel_rfl) (fun _ _ _ h => h) (Or.inl ⟨by kernel_rfl, ?_⟩) hS ?_
            rotate_left
            · intro w hSw
              have d1 := cell_below hSw c1; have d2 := cell_below hSw c2; have d3 := cell_below hSw c3; have d4 := cell_below hSw c4; have d5 := cell_below hSw c5; have d6 := cell_below hSw c6
              try dsimp only at hSw
              go_simp
              try with_reducible rfl
            try simp only [Act.put, List.setIfInBounds_toArray, List.set_cons_zero, List.set_cons_succ]
            refine wpAnyX_ready (rs := [11]) (by kernel_rfl) (by simp) ?_
            refine AllReadyX.cons (o := ⟨some 38, _, _, _, _, _⟩) rfl (fun K hK => ?_) AllReadyX.nil
            go_simp
            go_at_call 82
            refine (cA.out _).mono ?_
            rintro e w4 ⟨rfl, hb4⟩
            have hS0 := hS
            clear hS
            refine hK.out _ _ (fun _ => below_down hS0 hb4) (fun hS => ?_)
            replace hS := hS (by kernel_rfl)
            clear hK K hS0
            try simp only [Act.put, List.setIfInBounds_toArray, List.set_cons_zero, List.set_cons_succ]
            refine wpAnyX_take (i := 12) (oi := ⟨some 39, _, _, _, _, _⟩) (v := ?_) rfl (by kernel_rfl) (by kernel_rfl) (by kernel_rfl) (by kernel_rfl) (fun _ _ _ h => h) (Or.inl ⟨by kernel_rfl, ?_⟩) hS ?_
            rotate_left
            · intro w hSw
              have d1 := cell_below hSw c1; have d2 := cell_below hSw c2; have d3 := cell_below hSw c3; have d4 := cell_below hSw c4; have d5 := cell_below hSw c5; have d6 := cell_below hSw c6
              try dsimp only at hSw
              go_simp
              try with_reducible rfl
            try simp only [Act.put, List.setIfInBounds_toArray, List.set_cons_zero, List.set_cons_succ]
            refine wpAnyX_done (by kernel_rfl) ?_ _
            go_wp2
            generalize hwy : w4 = wy at *
            clear hwy
            have hbY := hS
            have c1 := cell_below hbY c1
            have c2 := cell_below hbY c2
            have c3 := cell_below hbY c3
            have c4 := cell_below hbY c4
            have c5 := cell_below hbY c5
            have c6 := cell_below hbY c6
            clear hS
            refine wp_region_X (fun w' => Below wy.heap.size wy w') 1000 (by kernel_rfl) ?_ (fun hS => ?_)
            · exact (Below.refl _ _).drew
            refine wpAnyX_take (i := 0) (oi := ⟨some 41, _, _, _, _, _⟩) (v := ?_) rfl (by kernel_rfl) (by kernel_rfl) (by kernel_rfl) (by kernel_rfl) (fun _ _ _ h => h) (Or.inl ⟨by kernel_rfl, ?_⟩) hS ?_
            rotate_left
            · intro w hSw
              have d1 := cell_below hSw c1; have d2 := cell_below hSw c2; have d3 := cell_below hSw c3; have d4 := cell_below hSw c4; have d5 := cell_below hSw c5; have d6 := cell_below hSw c6
              try dsimp only at hSw
              go_simp
              try with_reducible rfl
            try simp only [Act.put, List.setIfInBounds_toArray, List.set_cons_zero, List.set_cons_succ]
            refine wpAnyX_take (i := 1) (oi := ⟨some 42, _, _, _, _, _⟩) (v := ?_) rfl (by kernel_rfl) (by kernel_rfl) (by kernel_rfl) (by kernel_rfl) (fun _ _ _ h => h) (Or.inl ⟨by kernel_rfl, ?_⟩) hS ?_
            rotate_left
            · intro w hSw
              have d1 := cell_below hSw c1; have d2 := cell_below hSw c2; have d3 := cell_below hSw c3; have d4 := cell_below hSw c4; have d5 := cell_below hSw c5; have d6 := cell_below hSw c6
              try dsimp only at hSw
              go_simp
              try with_reducible rfl
            try simp only [Act.put, List.setIfInBounds_toArray, List.set_cons_zero, List.set_cons_succ]
            refine wpAnyX_take (i := 2) (oi := ⟨some 43, _, _, _, _, _⟩) (v := ?_) rfl (by kernel_rfl) (by kernel_rfl) (by kernel_rfl) (by kernel_rfl) (fun _ _ _ h => h) (Or.inl ⟨by kernel_rfl, ?_⟩) hS ?_
            rotate_left
            · intro w hSw
              have d1 := cell_below hSw c1; have d2 := cell_below hSw c2; have d3 := cell_below hSw c3; have d4 := cell_below hSw c4; have d5 := cell_below hSw c5; have d6 := cell_below hSw c6
              try dsimp only at hSw
              go_simp
              try with_reducible rfl
            try simp only [Act.put, List.setIfInBounds_toArray, List.set_cons_zero, List.set_cons_succ]
            refine wpAnyX_take (i := 3) (oi := ⟨some 44, _, _, _, _, _⟩) (v := ?_) rfl (by kernel_rfl) (by kernel_rfl) (by kernel_rfl) (by kernel_rfl) (fun _ _ _ h => h) (Or.inl ⟨by kernel_rfl, ?_⟩) hS ?_
            rotate_left
            · intro w hSw
              have d1 := cell_below hSw c1; have d2 := cell_below hSw c2; have d3 := cell_below hSw c3; have d4 := cell_below hSw c4; have d5 := cell_below hSw c5; have d6 := cell_below hSw c6
              try dsimp only at hSw
              go_simp
              try with_reducible rfl
            try simp only [Act.put, List.setIfInBounds_toArray, List.set_cons_zero, List.set_cons_succ]
            refine wpAnyX_take (i := 4) (oi := ⟨some 45, _, _, _, _, _⟩) (v := ?_) rfl (by kernel_rfl) (by kernel_rfl) (by kernel_rfl) (by kernel_rfl) (fun _ _ _ h => h) (Or.inl ⟨by kernel_rfl, ?_⟩) hS ?_
            rotate_left
            · intro w hSw
              have d1 := cell_below hSw c1; have d2 := cell_below hSw c2; have d3 := cell_below hSw c3; have d4 := cell_below hSw c4; have d5 := cell_below hSw c5; have d6 := cell_below hSw c6
              try dsimp only at hSw
              go_simp
              try with_reducible rfl
            try simp only [Act.put, List.setIfInBounds_toArray, List.set_cons_zero, List.set_cons_succ]
            refine wpAnyX_take (i := 5) (oi := ⟨some 46, _, _, _, _, _⟩) (v := ?_) rfl (by kernel_rfl) (by kernel_rfl) (by kernel_rfl) (by kernel_rfl) (fun _ _ _ h => h) (Or.inl ⟨by kernel_rfl, ?_⟩) hS ?_
            rotate_left
            · intro w hSw
              have d1 := cell_below hSw c1; have d2 := cell_below hSw c2; have d3 := cell_below hSw c3; have d4 := cell_below hSw c4; have d5 := cell_below hSw c5; have d6 := cell_below hSw c6
              try dsimp only at hSw
              go_simp
              try with_reducible rfl
            try simp only [Act.put, List.setIfInBounds_toArray, List.set_cons_zero, List.set_cons_succ]
            refine wpAnyX_take (i := 6) (oi := ⟨some 47, _, _, _, _, _⟩) (v := ?_) rfl (by kernel_rfl) (by kernel_rfl) (by kernel_rfl) (by kernel_rfl) (fun _ _ _ h => h) (Or.inl ⟨by kernel_rfl, ?_⟩) hS ?_
            rotate_left
            · intro w hSw
              have d1 := cell_below hSw c1; have d2 := cell_below hSw c2; have d3 := cell_below hSw c3; have d4 := cell_below hSw c4; have d5 := cell_below hSw c5; have d6 := cell_below hSw c6
              try dsimp only at hSw
              go_simp
              try with_reducible rfl
            try simp only [Act.put, List.setIfInBounds_toArray, List.set_cons_zero, List.set_cons_succ]
            refine wpAnyX_take (i := 7) (oi := ⟨some 48, _, _, _, _, _⟩) (v := ?_) rfl (by kernel_rfl) (by kernel_rfl) (by kernel_rfl) (by kernel_rfl) (fun _ _ _ h => h) (Or.inl ⟨by kernel_rfl, ?_⟩) hS ?_
            rotate_left
            · intro w hSw
              have d1 := cell_below hSw c1; have d2 := cell_below hSw c2; have d3 := cell_below hSw c3; have d4 := cell_below hSw c4; have d5 := cell_below hSw c5; have d6 := cell_below hSw c6
              try dsimp only at hSw
              go_simp
              try with_reducible rfl
            try simp only [Act.put, List.setIfInBounds_toArray, List.set_cons_zero, List.set_cons_succ]
            refine wpAnyX_take (i := 8) (oi := ⟨some 49, _, _, _, _, _⟩) (v := ?_) rfl (by kernel_rfl) (by kernel_rfl) (by kernel_rfl) (by kernel_rfl) (fun _ _ _ h => h) (Or.inl ⟨by kernel_rfl, ?_⟩) hS ?_
            rotate_left
            · intro w hSw
              have d1 := cell_below hSw c1; have d2 := cell_below hSw c2; have d3 := cell_below hSw c3; have d4 := cell_below hSw c4; have d5 := cell_below hSw c5; have d6 := cell_below hSw c6
              try dsimp only at hSw
              go_simp
              try with_reducible rfl
            try simp only [Act.put, List.setIfInBounds_toArray, List.set_cons_zero, List.set_cons_succ]
            refine wpAnyX_take (i := 9) (oi := ⟨some 50, _, _, _, _, _⟩) (v := ?_) rfl (by kernel_rfl) (by kernel_rfl) (by kernel_rfl) (by kernel_rfl) (fun _ _ _ h => h) (Or.inl ⟨by kernel_rfl, ?_⟩) hS ?_
            rotate_left
            · intro w hSw
              have d1 := cell_below hSw c1; have d2 := cell_below hSw c2; have d3 := cell_below hSw c3; have d4 := cell_below hSw c4; have d5 := cell_below hSw c5; have d6 := cell_below hSw c6
              try dsimp only at hSw
              go_simp
              try with_reducible rfl
            try simp only [Act.put, List.setIfInBounds_toArray, List.set_cons_zero, List.set_cons_succ]
            refine wpAnyX_take (i := 10) (oi := ⟨some 51, _, _, _, _, _⟩) (v := ?_) rfl (by kernel_rfl) (by kernel_rfl) (by kernel_rfl) (by kernel_rfl) (fun _ _ _ h => h) (Or.inl ⟨by kernel_rfl, ?_⟩) hS ?_
            rotate_left
            · intro w hSw
              have d1 := cell_below hSw c1; have d2 := cell_below hSw c2; have d3 := cell_below hSw c3; have d4 := cell_below hSw c4; have d5 := cell_below hSw c5; have d6 := cell_below hSw c6
              try dsimp only at hSw
              go_simp
              try with_reducible rfl
            try simp only [Act.put, List.setIfInBounds_toArray, List.set_cons_zero, List.set_cons_succ]
            refine wpAnyX_ready (rs := [11]) (by kernel_rfl) (by simp) ?_
            refine AllReadyX.cons (o := ⟨some 52, _, _, _, _, _⟩) rfl (fun K hK => ?_) AllReadyX.nil
            go_simp
            go_at_call 82
            refine (cB.out _).mono ?_
            rintro e w6 ⟨rfl, hb6⟩
            have hS0 := hS
            clear hS
            refine hK.out _ _ (fun _ => below_down hS0 hb6) (fun hS => ?_)
            replace hS := hS (by kernel_rfl)
            clear hK K hS0
            try simp only [Act.put, List.setIfInBounds_toArray, List.set_cons_zero, List.set_cons_succ]
            refine wpAnyX_take (i := 12) (oi := ⟨some 53, _, _, _, _, _⟩) (v := ?_) rfl (by kernel_rfl) (by kernel_rfl) (by kernel_rfl) (by kernel_rfl) (fun _ _ _ h => h) (Or.inl ⟨by kernel_rfl, ?_⟩) hS ?_
            rotate_left
            · intro w hSw
              have d1 := cell_below hSw c1; have d2 := cell_below hSw c2; have d3 := cell_below hSw c3; have d4 := cell_below hSw c4; have d5 := cell_below hSw c5; have d6 := cell_below hSw c6
              try dsimp only at hSw
              go_simp
              try with_reducible rfl
            try simp only [Act.put, List.setIfInBounds_toArray, List.set_cons_zero, List.set_cons_succ]
            refine wpAnyX_take (i := 13) (oi := ⟨some 54, _, _, _, _, _⟩) (v := ?_) rfl (by kernel_rfl) (by kernel_rfl) (by kernel_rfl) (by kernel_rfl) (fun _ _ _ h => h) (Or.inl ⟨by kernel_rfl, ?_⟩) hS ?_
            rotate_left
            · intro w hSw
              have d1 := cell_below hSw c1; have d2 := cell_below hSw c2; have d3 := cell_below hSw c3; have d4 := cell_below hSw c4; have d5 := cell_below hSw c5; have d6 := cell_below hSw c6
              try dsimp only at hSw
              go_simp
              try with_reducible rfl
            try simp only [Act.put, List.setIfInBounds_toArray, List.set_cons_zero, List.set_cons_succ]
            refine wpAnyX_done (by kernel_rfl) ?_ _
            go_wp2
            go_roundw
            case rel => exact ⟨m + 1, (r : Int), (r : Int), by omega, by go_num, rfl, rfl, hN, hN', .inr ⟨r, r, rfl, rfl, hr, hr⟩, below_down (below_down hbel hbY) hS⟩
            case measure => simp [intOf]; omega
          · have hN := Lib.hid (hS.out.trans (by rw [hz.out, stepHi_t HBK.out hxv.out hxr.out hl1]))
            have hN' := Lib.hid (hS'.out.trans (by rw [hz'.out, stepLo_f HBK.out hxu.out hxr.out hl2]))
            rw [hl1] at cA
            rw [hl2] at cB
            clear hl1 hl2 hS hS'
            go_wp2
            refine wp_region_X (fun w' => Below wr.heap.size wr w') 1000 (by kernel_rfl) ?_ (fun hS => ?_)
            · exact (Below.refl _ _).drew
            refine wpAnyX_take (i := 0) (oi := ⟨some 27, _, _, _, _, _⟩) (v := ?_) rfl (by kernel_rfl) (by kernel_rfl) (by kernel_rfl) (by kernel_rfl) (fun _ _ _ h => h) (Or.inl ⟨by kernel_rfl, ?_⟩) hS ?_
            rotate_left
            · intro w hSw
              have d1 := cell_below hSw c1; have d2 := cell_below hSw c2; have d3 := cell_below hSw c3; have d4 := cell_below hSw c4; have d5 := cell_below hSw c5; have d6 := cell_below hSw c6
              try dsimp only at hSw
              go_simp
              try with_reducible rfl
            try simp only [Act.put, List.setIfInBounds_toArray, List.set_cons_zero, List.set_cons_succ]
            refine wpAnyX_take (i := 1) (oi := ⟨some 28, _, _, _, _, _⟩) (v := ?_) rfl (by kernel_rfl) (by kernel_rfl) (by kernel_rfl) (by kernel_rfl) (fun _ _ _ h => h) (Or.inl ⟨by kernel_rfl, ?_⟩) hS ?_
            rotate_left
            · intro w hSw
              have d1 := cell_below hSw c1; have d2 := cell_below hSw c2; have d3 := cell_below hSw c3; have d4 := cell_below hSw c4; have d5 := cell_below hSw c5; have d6 := cell_below hSw c6
              try dsimp only at hSw
              go_simp
              try with_reducible rfl
            try simp only [Act.put, List.setIfInBounds_toArray, List.set_cons_zero, List.set_cons_succ]
            refine wpAnyX_take (i := 2) (oi := ⟨some 29, _, _, _, _, _⟩) (v := ?_) rfl (by kernel_rfl) (by kernel_rfl) (by kernel_rfl) (by kernel_rfl) (fun _ _ _ h => h) (Or.inl ⟨by kernel_rfl, ?_⟩) hS ?_
            rotate_left
            · intro w hSw
              have d1 := cell_below hSw c1; have d2 := cell_below hSw c2; have d3 := cell_below hSw c3; have d4 := cell_below hSw c4; have d5 := cell_below hSw c5; have d6 := cell_below hSw c6
              try dsimp only at hSw
              go_simp
              try with_reducible rfl
            try simp only [Act.put, List.setIfInBounds_toArray, List.set_cons_zero, List.set_cons_succ]
            refine wpAnyX_take (i := 3) (oi := ⟨some 30, _, _, _, _, _⟩) (v := ?_) rfl (by kernel_rfl) (by kernel_rfl) (by kernel_rfl) (by kernel_rfl) (fun _ _ _ h => h) (Or.inl ⟨by kernel_rfl, ?_⟩) hS ?_
            rotate_left
            · intro w hSw
              have d1 := cell_below hSw c1; have d2 := cell_below hSw c2; have d3 := cell_below hSw c3; have d4 := cell_below hSw c4; have d5 := cell_below hSw c5; have d6 := cell_below hSw c6
              try dsimp only at hSw
              go_simp
              try with_reducible rfl
            try simp only [Act.put, List.setIfInBounds_toArray, List.set_cons_zero, List.set_cons_succ]
            refine wpAnyX_take (i := 4) (oi := ⟨some 31, _, _, _, _, _⟩) (v := ?_) rfl (by kernel_rfl) (by kernel_rfl) (by kernel_rfl) (by kernel_rfl) (fun _ _ _ h => h) (Or.inl ⟨by kernel_rfl, ?_⟩) hS ?_
            rotate_left
            · intro w hSw
              have d1 := cell_below hSw c1; have d2 := cell_below hSw c2; have d3 := cell_below hSw c3; have d4 := cell_below hSw c4; have d5 := cell_below hSw c5; have d6 := cell_below hSw c6
              try dsimp only at hSw
              go_simp
              try with_reducible rfl
            try simp only [Act.put, List.setIfInBounds_toArray, List.set_cons_zero, List.set_cons_succ]
            refine wpAnyX_take (i := 5) (oi := ⟨some 32, _, _, _, _, _⟩) (v := ?_) rfl (by kernel_rfl) (by kernel_rfl) (by kernel_rfl) (by kernel_rfl) (fun _ _ _ h => h) (Or.inl ⟨by kernel_rfl, ?_⟩) hS ?_
            rotate_left
            · intro w hSw
              have d1 := cell_below hSw c1; have d2 := cell_below hSw c2; have d3 := cell_below hSw c3; have d4 := cell_below hSw c4; have d5 := cell_below hSw c5; have d6 := cell_below hSw c6
              try dsimp only at hSw
              go_simp
              try with_reducible rfl
            try simp only [Act.put, List.setIfInBounds_toArray, List.set_cons_zero, List.set_cons_succ]
            refine wpAnyX_take (i := 6) (oi := ⟨some 33, _, _, _, _, _⟩) (v := ?_) rfl (by kernel_rfl) (by kernel_rfl) (by kernel_rfl) (by kernel_rfl) (fun _ _ _ h => h) (Or.inl ⟨by kernel_rfl, ?_⟩) hS ?_
            rotate_left
            · intro w hSw
              have d1 := cell_below hSw c1; have d2 := cell_below hSw c2; have d3 := cell_below hSw c3; have d4 := cell_below hSw c4; have d5 := cell_below hSw c5; have d6 := cell_below hSw c6
              try dsimp only at hSw
              go_simp
              try with_reducible rfl
            try simp only [Act.put, List.setIfInBounds_toArray, List.set_cons_zero, List.set_cons_succ]
            refine wpAnyX_take (i := 7) (oi := ⟨some 34, _, _, _, _, _⟩) (v := ?_) rfl (by kernel_rfl) (by kernel_rfl) (by kernel_rfl) (by kernel_rfl) (fun _ _ _ h => h) (Or.inl ⟨by kernel_rfl, ?_⟩) hS ?_
            rotate_left
            · intro w hSw
              have d1 := cell_below hSw c1; have d2 := cell_below hSw c2; have d3 := cell_below hSw c3; have d4 := cell_below hSw c4; have d5 := cell_below hSw c5; have d6 := cell_below hSw c6
              try dsimp only at hSw
              go_simp
              try with_reducible rfl
            try simp only [Act.put, List.setIfInBounds_toArray, List.set_cons_zero, List.set_cons_succ]
            refine wpAnyX_take (i := 8) (oi := ⟨some 35, _, _, _, _, _⟩) (v := ?_) rfl (by kernel_rfl) (by kernel_rfl) (by kernel_rfl) (by kernel_rfl) (fun _ _ _ h => h) (Or.inl ⟨by kernel_rfl, ?_⟩) hS ?_
            rotate_left
            · intro w hSw
              have d1 := cell_below hSw c1; have d2 := cell_below hSw c2; have d3 := cell_below hSw c3; have d4 := cell_below hSw c4; have d5 := cell_below hSw c5; have d6 := cell_below hSw c6
              try dsimp only at hSw
              go_simp
              try with_reducible rfl
            try simp only [Act.put, List.setIfInBounds_toArray, List.set_cons_zero, List.set_cons_succ]
            refine wpAnyX_take (i := 9) (oi := ⟨some 36, _, _, _, _, _⟩) (v := ?_) rfl (by kernel_rfl) (by kernel_rfl) (by kernel_rfl) (by kernel_rfl) (fun _ _ _ h => h) (Or.inl ⟨by kernel_rfl, ?_⟩) hS ?_
            rotate_left
            · intro w hSw
              have d1 := cell_below hSw c1; have d2 := cell_below hSw c2; have d3 := cell_below hSw c3; have d4 := cell_below hSw c4; have d5 := cell_below hSw c5; have d6 := cell_below hSw c6
              try dsimp only at hSw
              go_simp
              try with_reducible rfl
            try simp only [Act.put, List.setIfInBounds_toArray, List.set_cons_zero, List.set_cons_succ]
            refine wpAnyX_take (i := 10) (oi := ⟨some 37, _, _, _, _, _⟩) (v := ?_) rfl (by kernel_rfl) (by kernel_rfl) (by kernel_rfl) (by kernel_rfl) (fun _ _ _ h => h) (Or.inl ⟨by kernel_rfl, ?_⟩) hS ?_
            rotate_left
            · intro w hSw
              have d1 := cell_below hSw c1; have d2 := cell_below hSw c2; have d3 := cell_below hSw c3; have d4 := cell_below hSw c4; have d5 := cell_below hSw c5; have d6 := cell_below hSw c6
              try dsimp only at hSw
              go_simp
              try with_reducible rfl
            try simp only [Act.put, List.setIfInBounds_toArray, List.set_cons_zero, List.set_cons_succ]
            refine wpAnyX_ready (rs := [11]) (by kernel_rfl) (by simp) ?_
            refine AllReadyX.cons (o := ⟨some 38, _, _, _, _, _⟩) rfl (fun K hK => ?_) AllReadyX.nil
            go_simp
            go_at_call 82
            refine (cA.out _).mono ?_
            rintro e w4 ⟨rfl, hb4⟩
            have hS0 := hS
            clear hS
            refine hK.out _ _ (fun _ => below_down hS0 hb4) (fun hS => ?_)
            replace hS := hS (by kernel_rfl)
            clear hK K hS0
            try simp only [Act.put, List.setIfInBounds_toArray, List.set_cons_zero, List.set_cons_succ]
            refine wpAnyX_take (i := 12) (oi := ⟨some 39, _, _, _, _, _⟩) (v := ?_) rfl (by kernel_rfl) (by kernel_rfl) (by kernel_rfl) (by kernel_rfl) (fun _ _ _ h => h) (Or.inl ⟨by kernel_rfl, ?_⟩) hS ?_
            rotate_left
            · intro w hSw
              have d1 := cell_below hSw c1; have d2 := cell_below hSw c2; have d3 := cell_below hSw c3; have d4 := cell_below hSw c4; have d5 := cell_below hSw c5; have d6 := cell_below hSw c6
              try dsimp only at hSw
              go_simp
              try with_reducible rfl
            try simp only [Act.put, List.setIfInBounds_toArray, List.set_cons_zero, List.set_cons_succ]
            refine wpAnyX_done (by kernel_rfl) ?_ _
            go_wp2
            generalize hwy : w4 = wy at *
            clear hwy
            have hbY := hS
            have c1 := cell_below hbY c1
            have c2 := cell_below hbY c2
            have c3 := cell_below hbY c3
            have c4 := cell_below hbY c4
            have c5 := cell_below hbY c5
            have c6 := cell_below hbY c6
            clear hS
            refine wp_region_X (fun w' => Below wy.heap.size wy w') 1000 (by kernel_rfl) ?_ (fun hS => ?_)
            · exact (Below.refl _ _).drew
            refine wpAnyX_take (i := 0) (oi := ⟨some 41, _, _, _, _, _⟩) (v := ?_) rfl (by kernel_rfl) (by kernel_rfl) (by kernel_rfl) (by kernel_rfl) (fun _ _ _ h => h) (Or.inl ⟨by kernel_rfl, ?_⟩) hS ?_
            rotate_left
            · intro w hSw
              have d1 := cell_below hSw c1; have d2 := cell_below hSw c2; have d3 := cell_below hSw c3; have d4 := cell_below hSw c4; have d5 := cell_below hSw c5; have d6 := cell_below hSw c6
              try dsimp only at hSw
              go_simp
              try with_reducible rfl
            try simp only [Act.put, List.setIfInBounds_toArray, List.set_cons_zero, List.set_cons_succ]
            refine wpAnyX_take (i := 1) (oi := ⟨some 42, _, _, _, _, _⟩) (v := ?_) rfl (by kernel_rfl) (by kernel_rfl) (by kernel_rfl) (by kernel_rfl) (fun _ _ _ h => h) (Or.inl ⟨by kernel_rfl, ?_⟩) hS ?_
            rotate_left
            · intro w hSw
              have d1 := cell_below hSw c1; have d2 := cell_below hSw c2; have d3 := cell_below hSw c3; have d4 := cell_below hSw c4; have d5 := cell_below hSw c5; have d6 := cell_below hSw c6
              try dsimp only at hSw
              go_simp
              try with_reducible rfl
            try simp only [Act.put, List.setIfInBounds_toArray, List.set_cons_zero, List.set_cons_succ]
            refine wpAnyX_take (i := 2) (oi := ⟨some 43, _, _, _, _, _⟩) (v := ?_) rfl (by kernel_rfl) (by kernel_rfl) (by kernel_rfl) (by kernel_rfl) (fun _ _ _ h => h) (Or.inl ⟨by kernel_rfl, ?_⟩) hS ?_
            rotate_left
            · intro w hSw
              have d1 := cell_below hSw c1; have d2 := cell_below hSw c2; have d3 := cell_below hSw c3; have d4 := cell_below hSw c4; have d5 := cell_below hSw c5; have d6 := cell_below hSw c6
              try dsimp only at hSw
              go_simp
              try with_reducible rfl
            try simp only [Act.put, List.setIfInBounds_toArray, List.set_cons_zero, List.set_cons_succ]
            refine wpAnyX_take (i := 3) (oi := ⟨some 44, _, _, _, _, _⟩) (v := ?_) rfl (by kernel_rfl) (by kernel_rfl) (by kernel_rfl) (by kernel_rfl) (fun _ _ _ h => h) (Or.inl ⟨by kernel_rfl, ?_⟩) hS ?_
            rotate_left
            · intro w hSw
              have d1 := cell_below hSw c1; have d2 := cell_below hSw c2; have d3 := cell_below hSw c3; have d4 := cell_below hSw c4; have d5 := cell_below hSw c5; have d6 := cell_below hSw c6
              try dsimp only at hSw
              go_simp
              try with_reducible rfl
            try simp only [Act.put, List.setIfInBounds_toArray, List.set_cons_zero, List.set_cons_succ]
            refine wpAnyX_take (i := 4) (oi := ⟨some 45, _, _, _, _, _⟩) (v := ?_) rfl (by kernel_rfl) (by kernel_rfl) (by kernel_rfl) (by kernel_rfl) (fun _ _ _ h => h) (Or.inl ⟨by kernel_rfl, ?_⟩) hS ?_
            rotate_left
            · intro w hSw
              have d1 := cell_below hSw c1; have d2 := cell_below hSw c2; have d3 := cell_below hSw c3; have d4 := cell_below hSw c4; have d5 := cell_below hSw c5; have d6 := cell_below hSw c6
              try dsimp only at hSw
              go_simp
              try with_reducible rfl
            try simp only [Act.put, List.setIfInBounds_toArray, List.set_cons_zero, List.set_cons_succ]
            refine wpAnyX_take (i := 5) (oi := ⟨some 46, _, _, _, _, _⟩) (v := ?_) rfl (by kernel_rfl) (by kernel_rfl) (by kernel_rfl) (by kernel_rfl) (fun _ _ _ h => h) (Or.inl ⟨by kernel_rfl, ?_⟩) hS ?_
            rotate_left
            · intro w hSw
              have d1 := cell_below hSw c1; have d2 := cell_below hSw c2; have d3 := cell_below hSw c3; have d4 := cell_below hSw c4; have d5 := cell_below hSw c5; have d6 := cell_below hSw c6
              try dsimp only at hSw
              go_simp
              try with_reducible rfl
            try simp only [Act.put, List.setIfInBounds_toArray, List.set_cons_zero, List.set_cons_succ]
            refine wpAnyX_take (i := 6) (oi := ⟨some 47, _, _, _, _, _⟩) (v := ?_) rfl (by kernel_rfl) (by kernel_rfl) (by kernel_rfl) (by kernel_rfl) (fun _ _ _ h => h) (Or.inl ⟨by kernel_rfl, ?_⟩) hS ?_
            rotate_left
            · intro w hSw
              have d1 := cell_below hSw c1; have d2 := cell_below hSw c2; have d3 := cell_below hSw c3; have d4 := cell_below hSw c4; have d5 := cell_below hSw c5; have d6 := cell_below hSw c6
              try dsimp only at hSw
              go_simp
              try with_reducible rfl
            try simp only [Act.put, List.setIfInBounds_toArray, List.set_cons_zero, List.set_cons_succ]
            refine wpAnyX_take (i := 7) (oi := ⟨some 48, _, _, _, _, _⟩) (v := ?_) rfl (by kernel_rfl) (by kernel_rfl) (by kernel_rfl) (by kernel_rfl) (fun _ _ _ h => h) (Or.inl ⟨by kernel_rfl, ?_⟩) hS ?_
            rotate_left
            · intro w hSw
              have d1 := cell_below hSw c1; have d2 := cell_below hSw c2; have d3 := cell_below hSw c3; have d4 := cell_below hSw c4; have d5 := cell_below hSw c5; have d6 := cell_below hSw c6
              try dsimp only at hSw
              go_simp
              try with_reducible rfl
            try simp only [Act.put, List.setIfInBounds_toArray, List.set_cons_zero, List.set_cons_succ]
            refine wpAnyX_take (i := 8) (oi := ⟨some 49, _, _, _, _, _⟩) (v := ?_) rfl (by kernel_rfl) (by kernel_rfl) (by kernel_rfl) (by kernel_rfl) (fun _ _ _ h => h) (Or.inl ⟨by kernel_rfl, ?_⟩) hS ?_
            rotate_left
            · intro w hSw
              have d1 := cell_below hSw c1; have d2 := cell_below hSw c2; have d3 := cell_below hSw c3; have d4 := cell_below hSw c4; have d5 := cell_below hSw c5; have d6 := cell_below hSw c6
              try dsimp only at hSw
              go_simp
              try with_reducible rfl
            try simp only [Act.put, List.setIfInBounds_toArray, List.set_cons_zero, List.set_cons_succ]
            refine wpAnyX_take (i := 9) (oi := ⟨some 50, _, _, _, _, _⟩) (v := ?_) rfl (by kernel_rfl) (by kernel_rfl) (by kernel_rfl) (by kernel_rfl) (fun _ _ _ h => h) (Or.inl ⟨by kernel_rfl, ?_⟩) hS ?_
            rotate_left
            · intro w hSw
              have d1 := cell_below hSw c1; have d2 := cell_below hSw c2; have d3 := cell_below hSw c3; have d4 := cell_below hSw c4; have d5 := cell_below hSw c5; have d6 := cell_below hSw c6
              try dsimp only at hSw
              go_simp
              try with_reducible rfl
            try simp only [Act.put, List.setIfInBounds_toArray, List.set_cons_zero, List.set_cons_succ]
            refine wpAnyX_take (i := 10) (oi := ⟨some 51, _, _, _, _, _⟩) (v := ?_) rfl (by kernel_rfl) (by kernel_rfl) (by kernel_rfl) (by kernel_rfl) (fun _ _ _ h => h) (Or.inl ⟨by kernel_rfl, ?_⟩) hS ?_
            rotate_left
            · intro w hSw
              have d1 := cell_below hSw c1; have d2 := cell_below hSw c2; have d3 := cell_below hSw c3; have d4 := cell_below hSw c4; have d5 := cell_below hSw c5; have d6 := cell_below hSw c6
              try dsimp only at hSw
              go_simp
              try with_reducible rfl
            try simp only [Act.put, List.setIfInBounds_toArray, List.set_cons_zero, List.set_cons_succ]
            refine wpAnyX_ready (rs := [11]) (by kernel_rfl) (by simp) ?_
            refine AllReadyX.cons (o := ⟨some 52, _, _, _, _, _⟩) rfl (fun K hK => ?_) AllReadyX.nil
            go_simp
            go_at_call 82
            refine (cB.out _).mono ?_
            rintro e w6 ⟨rfl, hb6⟩
            have hS0 := hS
            clear hS
            refine hK.out _ _ (fun _ => below_down hS0 hb6) (fun hS => ?_)
            replace hS := hS (by kernel_rfl)
            clear hK K hS0
            try simp only [Act.put, List.setIfInBounds_toArray, List.set_cons_zero, List.set_cons_succ]
            refine wpAnyX_take (i := 12) (oi := ⟨some 53, _, _, _, _, _⟩) (v := ?_) rfl (by kernel_rfl) (by kernel_rfl) (by kernel_rfl) (by kernel_rfl) (fun _ _ _ h => h) (Or.inl ⟨by kernel_rfl, ?_⟩) hS ?_
            rotate_left
            · intro w hSw
              have d1 := cell_below hSw c1; have d2 := cell_below hSw c2; have d3 := cell_below hSw c3; have d4 := cell_below hSw c4; have d5 := cell_below hSw c5; have d6 := cell_below hSw c6
              try dsimp only at hSw
              go_simp
              try with_reducible rfl
            try simp only [Act.put, List.setIfInBounds_toArray, List.set_cons_zero, List.set_cons_succ]
            refine wpAnyX_take (i := 13) (oi := ⟨some 54, _, _, _, _, _⟩) (v := ?_) rfl (by kernel_rfl) (by kernel_rfl) (by kernel_rfl) (by kernel_rfl) (fun _ _ _ h => h) (Or.inl ⟨by kernel_rfl, ?_⟩) hS ?_
            rotate_left
            · intro w hSw
              have d1 := cell_below hSw c1; have d2 := cell_below hSw c2; have d3 := cell_below hSw c3; have d4 := cell_below hSw c4; have d5 := cell_below hSw c5; have d6 := cell_below hSw c6
              try dsimp only at hSw
              go_simp
              try with_reducible rfl
            try simp only [Act.put, List.setIfInBounds_toArray, List.set_cons_zero, List.set_cons_succ]
            refine wpAnyX_done (by kernel_rfl) ?_ _
            go_wp2
            go_roundw
            case rel => exact ⟨m + 1, (r : Int), (b : Int), by omega, by go_num, rfl, rfl, hN, hN', .inr ⟨r, b, rfl, rfl, hr, hb⟩, below_down (below_down hbel hbY) hS⟩
            case measure => simp [intOf]; omega
      · have hN := Lib.hid (hS.out.trans (by rw [hz.out, stepHi_l HBK.out]))
        have hN' := Lib.hid (hS'.out.trans (by rw [hz'.out, stepLo_l HBK.out]))
        go_wp2
        go_roundw
        case rel => exact ⟨m + 1, z, z', by omega, by go_num, rfl, rfl, hN, hN', hzz, hbel⟩
        case measure => simp [intOf]; omega
    · obtain rfl : m = lots.length := by omega
      clear hlm hm hzz
      obtain rfl : z = (p : Int) := by have := hz.out; rw [List.take_length, HP.out] at this; exact this.symm
      obtain rfl : z' = (p' : Int) := by have := hz'.out; rw [List.take_length, HP'.out] at this; exact this.symm
      clear hz hz' HP HP' cL hlr
      have hTr := hT1.below hbel
      have hOr := hO1.below hbel
      have boxr := box1.below hbel
      have hBr := below_down hB1 hbel
      have hWr : Below b2 w wr := hW1.trans (hbel.mono (by rw [← HB2.out]; exact hW1.size))
      clear hT1 hO1 box1 hB1 hW1 hbel
      have hzr := hWr.size
      have hb3 := (Below.refl wr.heap.size wr).alloc (Nat.le_refl _) (.cells #[.slice C lots.length d, .int .i64 (p : Int), .int .i64 0] 68)
      have boxB := boxS_new wr C lots.length d (p : Int) 0
      go_upto_region 14 with fail
      have hlob := hTr.lt.1
      have hglb := (OwnB.blockB hTr.lft gl rfl).1
      have hM : Mid w0.heap.size hi b2 wr.heap.size w tb Aw cw gl A ps.length c A2 lots.length d2 q C d cs (p : Int) 0 ws left there s (wr.alloc (.cells #[.slice C lots.length d, .int .i64 (p : Int), .int .i64 0] 68)) :=
        ⟨hTr.below hb3, hOr.below hb3, boxr.below hb3, boxB, Btw.of_below (by have h9 := hWr.trans (hb3.mono (by rw [← HB2.out]; exact hzr)); rw [← HB2.out] at h9; exact h9), boxr.lt, hhi, Nat.le_of_eq HB2.out, ⟨hlob, htb⟩, ⟨hglb, hgl⟩⟩
      have hBs := below_down hBr hb3
      clear hTr hOr boxr hBr hWr boxB
      generalize wr.alloc (.cells #[.slice C lots.length d, .int .i64 (p : Int), .int .i64 0] 68) = wt at *
      clear hb3 hzr
      generalize wr.heap.size = b8 at *
      obtain ⟨adc, x', y', e5, hxy, hcx, hcy⟩ := hM.own.fracs.at_ (k := p) (by have := HCL.out; omega)
      obtain ⟨rfl, rfl⟩ : x = x' ∧ y = y' := by
        have := HX.out.symm.trans hxy.out
        injection this with this
        injection this with h1 h2
        exact ⟨h1, h2⟩
      subst e5
      have t6 := hM.tr.c6
      have hp0 : (0 : Int) ≤ (p : Int) := by omega
      have hp1 : (p : Int) < (lots.length : Int) := by omega
      have hlo2 : w0.heap.size ≤ b2 := hwsz
      have HRO := Lib.hid (fun g e => (hM.tr.wts.block g e).1)
      clear hxy
      cases hle : lessP (x, y) (q, 1)
      · have HM := Lib.hid (HM1.out hle)
        have hqx : q * y ≤ x := by
          unfold lessP at hle
          simp only [decide_eq_false_iff_not] at hle
          omega
        have hx1 : 1 ≤ x := Nat.le_trans (Nat.mul_pos (by omega) (by omega)) hqx
        have cW := Lib.hid (fun w' a b => cW.out w' a b hx1 hqx)
        rw [hle] at cQ
        clear hle HM1 HM2 HM3 hqx hx1 HBP'
        refine wp_region_X (fun w' => Below wt.heap.size wt w') 1000 (by kernel_rfl) ?_ (fun hS => ?_)
        · exact (Below.refl _ _).drew
        refine wpAnyX_take (i := 0) (oi := ⟨some 64, _, _, _, _, _⟩) (v := ?_) rfl (by kernel_rfl) (by kernel_rfl) (by kernel_rfl) (by kernel_rfl) (fun _ _ _ h => h) (Or.inl ⟨by kernel_rfl, ?_⟩) hS ?_
        rotate_left
        · intro w hSw
          have d0 := cell_below hSw hcx; have d1 := cell_below hSw hcy; have d2 := cell_below hSw t6
          try dsimp only at hSw
          go_simp
          try with_reducible rfl
        try simp only [Act.put, List.setIfInBounds_toArray, List.set_cons_zero, List.set_cons_succ]
        refine wpAnyX_take (i := 1) (oi := ⟨some 65, _, _, _, _, _⟩) (v := ?_) rfl (by kernel_rfl) (by kernel_rfl) (by kernel_rfl) (by kernel_rfl) (fun _ _ _ h => h) (Or.inl ⟨by kernel_rfl, ?_⟩) hS ?_
        rotate_left
        · intro w hSw
          have d0 := cell_below hSw hcx; have d1 := cell_below hSw hcy; have d2 := cell_below hSw t6
          try dsimp only at hSw
          go_simp
          try with_reducible rfl
        try simp only [Act.put, List.setIfInBounds_toArray, List.set_cons_zero, List.set_cons_succ]
        refine wpAnyX_take (i := 2) (oi := ⟨some 66, _, _, _, _, _⟩) (v := ?_) rfl (by kernel_rfl) (by kernel_rfl) (by kernel_rfl) (by kernel_rfl) (fun _ _ _ h => h) (Or.inl ⟨by kernel_rfl, ?_⟩) hS ?_
        rotate_left
        · intro w hSw
          have d0 := cell_below hSw hcx; have d1 := cell_below hSw hcy; have d2 := cell_below hSw t6
          try dsimp only at hSw
          go_simp
          try with_reducible rfl
        try simp only [Act.put, List.setIfInBounds_toArray, List.set_cons_zero, List.set_cons_succ]
        refine wpAnyX_take (i := 3) (oi := ⟨some 67, _, _, _, _, _⟩) (v := ?_) rfl (by kernel_rfl) (by kernel_rfl) (by kernel_rfl) (by kernel_rfl) (fun _ _ _ h => h) (Or.inl ⟨by kernel_rfl, ?_⟩) hS ?_
        rotate_left
        · intro w hSw
          have d0 := cell_below hSw hcx; have d1 := cell_below hSw hcy; have d2 := cell_below hSw t6
          try dsimp only at hSw
          go_simp
          try with_reducible rfl
        try simp only [Act.put, List.setIfInBounds_toArray, List.set_cons_zero, List.set_cons_succ]
        refine wpAnyX_take (i := 4) (oi := ⟨some 68, _, _, _, _, _⟩) (v := ?_) rfl (by kernel_rfl) (by kernel_rfl) (by kernel_rfl) (by kernel_rfl) (fun _ _ _ h => h) (Or.inl ⟨by kernel_rfl, ?_⟩) hS ?_
        rotate_left
        · intro w hSw
          have d0 := cell_below hSw hcx; have d1 := cell_below hSw hcy; have d2 := cell_below hSw t6
          try dsimp only at hSw
          go_simp
          try with_reducible rfl
        try simp only [Act.put, List.setIfInBounds_toArray, List.set_cons_zero, List.set_cons_succ]
        refine wpAnyX_take (i := 5) (oi := ⟨some 69, _, _, _, _, _⟩) (v := ?_) rfl (by kernel_rfl) (by kernel_rfl) (by kernel_rfl) (by kernel_rfl) (fun _ _ _ h => h) (Or.inl ⟨by kernel_rfl, ?_⟩) hS ?_
        rotate_left
        · intro w hSw
          have d0 := cell_below hSw hcx; have d1 := cell_below hSw hcy; have d2 := cell_below hSw t6
          try dsimp only at hSw
          go_simp
          try with_reducible rfl
        try simp only [Act.put, List.setIfInBounds_toArray, List.set_cons_zero, List.set_cons_succ]
        refine wpAnyX_take (i := 6) (oi := ⟨some 70, _, _, _, _, _⟩) (v := ?_) rfl (by kernel_rfl) (by kernel_rfl) (by kernel_rfl) (by kernel_rfl) (fun _ _ _ h => h) (Or.inl ⟨by kernel_rfl, ?_⟩) hS ?_
        rotate_left
        · intro w hSw
          have d0 := cell_below hSw hcx; have d1 := cell_below hSw hcy; have d2 := cell_below hSw t6
          try dsimp only at hSw
          go_simp
          try with_reducible rfl
        try simp only [Act.put, List.setIfInBounds_toArray, List.set_cons_zero, List.set_cons_succ]
        refine wpAnyX_take (i := 7) (oi := ⟨some 71, _, _, _, _, _⟩) (v := ?_) rfl (by kernel_rfl) (by kernel_rfl) (by kernel_rfl) (by kernel_rfl) (fun _ _ _ h => h) (Or.inl ⟨by kernel_rfl, ?_⟩) hS ?_
        rotate_left
        · intro w hSw
          have d0 := cell_below hSw hcx; have d1 := cell_below hSw hcy; have d2 := cell_below hSw t6
          try dsimp only at hSw
          go_simp
          try with_reducible rfl
        try simp only [Act.put, List.setIfInBounds_toArray, List.set_cons_zero, List.set_cons_succ]
        refine wpAnyX_take (i := 8) (oi := ⟨some 72, _, _, _, _, _⟩) (v := ?_) rfl (by kernel_rfl) (by kernel_rfl) (by kernel_rfl) (by kernel_rfl) (fun _ _ _ h => h) (Or.inl ⟨by kernel_rfl, ?_⟩) hS ?_
        rotate_left
        · intro w hSw
          have d0 := cell_below hSw hcx; have d1 := cell_below hSw hcy; have d2 := cell_below hSw t6
          try dsimp only at hSw
          go_simp
          try with_reducible rfl
        try simp only [Act.put, List.setIfInBounds_toArray, List.set_cons_zero, List.set_cons_succ]
        refine wpAnyX_ready (rs := [9]) (by kernel_rfl) (by simp) ?_
        refine AllReadyX.cons (o := ⟨some 73, _, _, _, _, _⟩) rfl (fun K hK => ?_) AllReadyX.nil
        go_simp
        go_at_call 82
        refine (cQ.out _).mono ?_
        rintro e w4 ⟨rfl, hb4⟩
        have hS0 := hS
        clear hS
        refine hK.out _ _ (fun _ => below_down hS0 hb4) (fun hS => ?_)
        replace hS := hS (by kernel_rfl)
        clear hK K hS0
        try simp only [Act.put, List.setIfInBounds_toArray, List.set_cons_zero, List.set_cons_succ]
        refine wpAnyX_take (i := 10) (oi := ⟨some 74, _, _, _, _, _⟩) (v := ?_) rfl (by kernel_rfl) (by kernel_rfl) (by kernel_rfl) (by kernel_rfl) (fun _ _ _ h => h) (Or.inl ⟨by kernel_rfl, ?_⟩) hS ?_
        rotate_left
        · intro w hSw
          have d0 := cell_below hSw hcx; have d1 := cell_below hSw hcy; have d2 := cell_below hSw t6
          try dsimp only at hSw
          go_simp
          try with_reducible rfl
        try simp only [Act.put, List.setIfInBounds_toArray, List.set_cons_zero, List.set_cons_succ]
        refine wpAnyX_take (i := 11) (oi := ⟨some 63, _, _, _, _, _⟩) (v := ?_) rfl (by kernel_rfl) (by kernel_rfl) (by kernel_rfl) (by kernel_rfl) (fun _ _ _ h => h) (Or.inl ⟨by kernel_rfl, ?_⟩) hS ?_
        rotate_left
        · intro w hSw
          have d0 := cell_below hSw hcx; have d1 := cell_below hSw hcy; have d2 := cell_below hSw t6
          try dsimp only at hSw
          go_simp
          try with_reducible rfl
        try simp only [Act.put, List.setIfInBounds_toArray, List.set_cons_zero, List.set_cons_succ]
        refine wpAnyX_done (by kernel_rfl) ?_ _
        replace hM := hM.below hS
        have hBt := below_down hBs hS
        have hcx := cell_below hS hcx
        have hcy := cell_below hS hcy
        clear hS t6 hBs
        have f2 := hM.boxB.fz 2
        have k2 := hM.boxB.c2
        replace hM := hM.kind' 1
        have hBt := hBt.setCell (show w0.heap.size ≤ (⟨b8, 2, none⟩ : Addr).block from by have := hM.h28; show w0.heap.size ≤ b8; omega) (.int .i64 1)
        obtain ⟨ad', x', y', e5, hxy, hcx', hcy'⟩ := hM.own.fracs.at_ (k := p) (by have := HCL.out; omega)
        obtain rfl : adc = ad' := by injection e5
        obtain ⟨rfl, rfl⟩ : x = x' ∧ y = y' := by
          have := HX.out.symm.trans hxy.out
          injection this with this
          injection this with h1 h2
          exact ⟨h1, h2⟩
        clear e5 hxy hcx hcy
        go_upto_region 16 with fail
        clear f2 k2
        generalize w4.setCell ⟨b8, 2, none⟩ (.int .i64 1) = w5 at *
        go_upto_region 19 with (go_at_call 83; refine (cW.out _ hBt hM.tr).mono ?_; rintro e w6 ⟨rfl, hTw, hgw6⟩)
        replace hM := hM.weigh hTw hgw6 (fun g e => ⟨HRO.out g e, hgw.out g e⟩)
        clear hTw hgw6 hcx' hcy' cW hBt
        have hss : (s : Int) - 1 = ((s - 1 : Nat) : Int) := by omega
        have hss2 : s - 1 ≤ 2 := by omega
        generalize s - 1 = s' at *
        have t3 := hM.tr.c3
        have k1 := hM.boxB.c1
        have hpp0 : (0 : Int) ≤ (p : Int) := by omega
        have hpp1 : (p : Int) < (lots.length : Int) := by omega
        refine wp_region_X (fun w' => Below w6.heap.size w6 w') 7 (by kernel_rfl) ?_ (fun hS => ?_)
        · exact (Below.refl _ _).drew
        refine wpAnyX_take (i := 0) (oi := ⟨some 94, _, _, _, _, _⟩) (v := ?_) rfl (by kernel_rfl) (by kernel_rfl) (by kernel_rfl) (by kernel_rfl) (fun _ _ _ h => h) (Or.inl ⟨by kernel_rfl, ?_⟩) hS ?_
        rotate_left
        · intro w hSw
          have d1 := cell_below hSw t3; have d2 := cell_below hSw k1
          try dsimp only at hSw
          go_simp
          try with_reducible rfl
        try simp only [Act.put, List.setIfInBounds_toArray, List.set_cons_zero, List.set_cons_succ]
        refine wpAnyX_take (i := 1) (oi := ⟨some 95, _, _, _, _, _⟩) (v := ?_) rfl (by kernel_rfl) (by kernel_rfl) (by kernel_rfl) (by kernel_rfl) (fun _ _ _ h => h) (Or.inl ⟨by kernel_rfl, ?_⟩) hS ?_
        rotate_left
        · intro w hSw
          have d1 := cell_below hSw t3; have d2 := cell_below hSw k1
          try dsimp only at hSw
          go_simp
          try with_reducible rfl
        try simp only [Act.put, List.setIfInBounds_toArray, List.set_cons_zero, List.set_cons_succ]
        refine wpAnyX_take (i := 2) (oi := ⟨some 96, _, _, _, _, _⟩) (v := ?_) rfl (by kernel_rfl) (by kernel_rfl) (by kernel_rfl) (by kernel_rfl) (fun _ _ _ h => h) (Or.inl ⟨by kernel_rfl, ?_⟩) hS ?_
        rotate_left
        · intro w hSw
          have d1 := cell_below hSw t3; have d2 := cell_below hSw k1
          try dsimp only at hSw
          go_simp
          try with_reducible rfl
        try simp only [Act.put, List.setIfInBounds_toArray, List.set_cons_zero, List.set_cons_succ]
        refine wpAnyX_take (i := 3) (oi := ⟨some 97, _, _, _, _, _⟩) (v := ?_) rfl (by kernel_rfl) (by kernel_rfl) (by kernel_rfl) (by kernel_rfl) (fun _ _ _ h => h) (Or.inl ⟨by kernel_rfl, ?_⟩) hS ?_
        rotate_left
        · intro w hSw
          have d1 := cell_below hSw t3; have d2 := cell_below hSw k1
          try dsimp only at hSw
          go_simp
          try with_reducible rfl
        try simp only [Act.put, List.setIfInBounds_toArray, List.set_cons_zero, List.set_cons_succ]
        refine wpAnyX_take (i := 4) (oi := ⟨some 98, _, _, _, _, _⟩) (v := ?_) rfl (by kernel_rfl) (by kernel_rfl) (by kernel_rfl) (by kernel_rfl) (fun _ _ _ h => h) (Or.inl ⟨by kernel_rfl, ?_⟩) hS ?_
        rotate_left
        · intro w hSw
          have d1 := cell_below hSw t3; have d2 := cell_below hSw k1
          try dsimp only at hSw
          go_simp
          try with_reducible rfl
        try simp only [Act.put, List.setIfInBounds_toArray, List.set_cons_zero, List.set_cons_succ]
        refine wpAnyX_take (i := 5) (oi := ⟨some 99, _, _, _, _, _⟩) (v := ?_) rfl (by kernel_rfl) (by kernel_rfl) (by kernel_rfl) (by kernel_rfl) (fun _ _ _ h => h) (Or.inl ⟨by kernel_rfl, ?_⟩) hS ?_
        rotate_left
        · intro w hSw
          have d1 := cell_below hSw t3; have d2 := cell_below hSw k1
          try dsimp only at hSw
          go_simp
          try with_reducible rfl
        try simp only [Act.put, List.setIfInBounds_toArray, List.set_cons_zero, List.set_cons_succ]
        refine wpAnyX_take (i := 6) (oi := ⟨some 100, _, _, _, _, _⟩) (v := ?_) rfl (by kernel_rfl) (by kernel_rfl) (by kernel_rfl) (by kernel_rfl) (fun _ _ _ h => h) (Or.inl ⟨by kernel_rfl, ?_⟩) hS ?_
        rotate_left
        · intro w hSw
          have d1 := cell_below hSw t3; have d2 := cell_below hSw k1
          try dsimp only at hSw
          go_simp
          try with_reducible rfl
        try simp only [Act.put, List.setIfInBounds_toArray, List.set_cons_zero, List.set_cons_succ]
        refine wpAnyX_ready (rs := [7]) (by kernel_rfl) (by simp) ?_
        refine AllReadyX.cons (o := ⟨none, _, _, _, _, _⟩) rfl (fun K hK => ?_) AllReadyX.nil
        have hcl := hM.tr.lft.cellB HBP.out
        have hfl := hM.tr.lft.frozenB p
        go_simp
        refine hK.out _ _ (fun h => absurd (h.symm.trans (by kernel_rfl : _ = true)) (by decide)) (fun _ => ?_)
        clear hK K
        try simp only [Act.put, List.setIfInBounds_toArray, List.set_cons_zero, List.set_cons_succ]
        refine wpAnyX_done (by kernel_rfl) ?_ _
        replace hM := (hM.left' p true).below (drew_below _)
        clear hcl hfl t3 k1 hS
        go_upto_region 20 with fail
        generalize (w6.setCell ⟨gl, p, none⟩ (.bool true)).drew = wu at *
        have t4 := hM.tr.c4
        have f4 := hM.tr.fz 4
        go_upto_region 21 with fail
        replace hM := hM.there' (there - 1)
        clear t4 f4
        generalize wu.setCell ⟨tb, 4, none⟩ (.int .i64 (there - 1)) = wv at *
        have k2 := hM.boxB.c2
        have t5 := hM.tr.c5
        have f5 := hM.tr.fz 5
        go_upto_region 23 with fail
        replace hM := hM.seats' (s' : Int)
        clear t5 f5 k2
        generalize wv.setCell ⟨tb, 5, none⟩ (.int .i64 (s' : Int)) = wz at *
        have c0 := hM.boxB.c0
        have c1 := hM.boxB.c1
        have c2 := hM.boxB.c2
        have z0 := hM.box2.c0
        have z1 := hM.box2.c1
        have z2 := hM.box2.c2
        have g0 := hM.box2.fz 0
        have g1 := hM.box2.fz 1
        have g2 := hM.box2.fz 2
        obtain ⟨hO9, hT9, hb9⟩ := hM.fin (grown_setCell (grown_setCell (set_grown wz b2 0 (.slice (some adc) lots.length d)) 1 (.int .i64 (p : Int))) 2 (.int .i64 1))
        go_wp2
        (try simp only [Exit.inBlock, Exit.then])
        refine bodyPost_ret (v := .agg #[.slice (some adc) lots.length d, .int .i64 (p : Int), .int .i64 1]) ?_ rfl ?_
        · simp [results, Try.f51]
          go_simp
        · exact stepR_of HCS.out (hO9.mono (Nat.le_of_eq HB2.out)) hT9 rfl hb9 HM.out
      · rw [hle] at cQ
        clear HM1 cW
        refine wp_region_X (fun w' => Below wt.heap.size wt w') 1000 (by kernel_rfl) ?_ (fun hS => ?_)
        · exact (Below.refl _ _).drew
        refine wpAnyX_take (i := 0) (oi := ⟨some 64, _, _, _, _, _⟩) (v := ?_) rfl (by kernel_rfl) (by kernel_rfl) (by kernel_rfl) (by kernel_rfl) (fun _ _ _ h => h) (Or.inl ⟨by kernel_rfl, ?_⟩) hS ?_
        rotate_left
        · intro w hSw
          have d0 := cell_below hSw hcx; have d1 := cell_below hSw hcy; have d2 := cell_below hSw t6
          try dsimp only at hSw
          go_simp
          try with_reducible rfl
        try simp only [Act.put, List.setIfInBounds_toArray, List.set_cons_zero, List.set_cons_succ]
        refine wpAnyX_take (i := 1) (oi := ⟨some 65, _, _, _, _, _⟩) (v := ?_) rfl (by kernel_rfl) (by kernel_rfl) (by kernel_rfl) (by kernel_rfl) (fun _ _ _ h => h) (Or.inl ⟨by kernel_rfl, ?_⟩) hS ?_
        rotate_left
        · intro w hSw
          have d0 := cell_below hSw hcx; have d1 := cell_below hSw hcy; have d2 := cell_below hSw t6
          try dsimp only at hSw
          go_simp
          try with_reducible rfl
        try simp only [Act.put, List.setIfInBounds_toArray, List.set_cons_zero, List.set_cons_succ]
        refine wpAnyX_take (i := 2) (oi := ⟨some 66, _, _, _, _, _⟩) (v := ?_) rfl (by kernel_rfl) (by kernel_rfl) (by kernel_rfl) (by kernel_rfl) (fun _ _ _ h => h) (Or.inl ⟨by kernel_rfl, ?_⟩) hS ?_
        rotate_left
        · intro w hSw
          have d0 := cell_below hSw hcx; have d1 := cell_below hSw hcy; have d2 := cell_below hSw t6
          try dsimp only at hSw
          go_simp
          try with_reducible rfl
        try simp only [Act.put, List.setIfInBounds_toArray, List.set_cons_zero, List.set_cons_succ]
        refine wpAnyX_take (i := 3) (oi := ⟨some 67, _, _, _, _, _⟩) (v := ?_) rfl (by kernel_rfl) (by kernel_rfl) (by kernel_rfl) (by kernel_rfl) (fun _ _ _ h => h) (Or.inl ⟨by kernel_rfl, ?_⟩) hS ?_
        rotate_left
        · intro w hSw
          have d0 := cell_below hSw hcx; have d1 := cell_below hSw hcy; have d2 := cell_below hSw t6
          try dsimp only at hSw
          go_simp
          try with_reducible rfl
        try simp only [Act.put, List.setIfInBounds_toArray, List.set_cons_zero, List.set_cons_succ]
        refine wpAnyX_take (i := 4) (oi := ⟨some 68, _, _, _, _, _⟩) (v := ?_) rfl (by kernel_rfl) (by kernel_rfl) (by kernel_rfl) (by kernel_rfl) (fun _ _ _ h => h) (Or.inl ⟨by kernel_rfl, ?_⟩) hS ?_
        rotate_left
        · intro w hSw
          have d0 := cell_below hSw hcx; have d1 := cell_below hSw hcy; have d2 := cell_below hSw t6
          try dsimp only at hSw
          go_simp
          try with_reducible rfl
        try simp only [Act.put, List.setIfInBounds_toArray, List.set_cons_zero, List.set_cons_succ]
        refine wpAnyX_take (i := 5) (oi := ⟨some 69, _, _, _, _, _⟩) (v := ?_) rfl (by kernel_rfl) (by kernel_rfl) (by kernel_rfl) (by kernel_rfl) (fun _ _ _ h => h) (Or.inl ⟨by kernel_rfl, ?_⟩) hS ?_
        rotate_left
        · intro w hSw
          have d0 := cell_below hSw hcx; have d1 := cell_below hSw hcy; have d2 := cell_below hSw t6
          try dsimp only at hSw
          go_simp
          try with_reducible rfl
        try simp only [Act.put, List.setIfInBounds_toArray, List.set_cons_zero, List.set_cons_succ]
        refine wpAnyX_take (i := 6) (oi := ⟨some 70, _, _, _, _, _⟩) (v := ?_) rfl (by kernel_rfl) (by kernel_rfl) (by kernel_rfl) (by kernel_rfl) (fun _ _ _ h => h) (Or.inl ⟨by kernel_rfl, ?_⟩) hS ?_
        rotate_left
        · intro w hSw
          have d0 := cell_below hSw hcx; have d1 := cell_below hSw hcy; have d2 := cell_below hSw t6
          try dsimp only at hSw
          go_simp
          try with_reducible rfl
        try simp only [Act.put, List.setIfInBounds_toArray, List.set_cons_zero, List.set_cons_succ]
        refine wpAnyX_take (i := 7) (oi := ⟨some 71, _, _, _, _, _⟩) (v := ?_) rfl (by kernel_rfl) (by kernel_rfl) (by kernel_rfl) (by kernel_rfl) (fun _ _ _ h => h) (Or.inl ⟨by kernel_rfl, ?_⟩) hS ?_
        rotate_left
        · intro w hSw
          have d0 := cell_below hSw hcx; have d1 := cell_below hSw hcy; have d2 := cell_below hSw t6
          try dsimp only at hSw
          go_simp
          try with_reducible rfl
        try simp only [Act.put, List.setIfInBounds_toArray, List.set_cons_zero, List.set_cons_succ]
        refine wpAnyX_take (i := 8) (oi := ⟨some 72, _, _, _, _, _⟩) (v := ?_) rfl (by kernel_rfl) (by kernel_rfl) (by kernel_rfl) (by kernel_rfl) (fun _ _ _ h => h) (Or.inl ⟨by kernel_rfl, ?_⟩) hS ?_
        rotate_left
        · intro w hSw
          have d0 := cell_below hSw hcx; have d1 := cell_below hSw hcy; have d2 := cell_below hSw t6
          try dsimp only at hSw
          go_simp
          try with_reducible rfl
        try simp only [Act.put, List.setIfInBounds_toArray, List.set_cons_zero, List.set_cons_succ]
        refine wpAnyX_ready (rs := [9]) (by kernel_rfl) (by simp) ?_
        refine AllReadyX.cons (o := ⟨some 73, _, _, _, _, _⟩) rfl (fun K hK => ?_) AllReadyX.nil
        go_simp
        go_at_call 82
        refine (cQ.out _).mono ?_
        rintro e w4 ⟨rfl, hb4⟩
        have hS0 := hS
        clear hS
        refine hK.out _ _ (fun _ => below_down hS0 hb4) (fun hS => ?_)
        replace hS := hS (by kernel_rfl)
        clear hK K hS0
        try simp only [Act.put, List.setIfInBounds_toArray, List.set_cons_zero, List.set_cons_succ]
        refine wpAnyX_take (i := 10) (oi := ⟨some 74, _, _, _, _, _⟩) (v := ?_) rfl (by kernel_rfl) (by kernel_rfl) (by kernel_rfl) (by kernel_rfl) (fun _ _ _ h => h) (Or.inl ⟨by kernel_rfl, ?_⟩) hS ?_
        rotate_left
        · intro w hSw
          have d0 := cell_below hSw hcx; have d1 := cell_below hSw hcy; have d2 := cell_below hSw t6
          try dsimp only at hSw
          go_simp
          try with_reducible rfl
        try simp only [Act.put, List.setIfInBounds_toArray, List.set_cons_zero, List.set_cons_succ]
        refine wpAnyX_take (i := 11) (oi := ⟨some 63, _, _, _, _, _⟩) (v := ?_) rfl (by kernel_rfl) (by kernel_rfl) (by kernel_rfl) (by kernel_rfl) (fun _ _ _ h => h) (Or.inl ⟨by kernel_rfl, ?_⟩) hS ?_
        rotate_left
        · intro w hSw
          have d0 := cell_below hSw hcx; have d1 := cell_below hSw hcy; have d2 := cell_below hSw t6
          try dsimp only at hSw
          go_simp
          try with_reducible rfl
        try simp only [Act.put, List.setIfInBounds_toArray, List.set_cons_zero, List.set_cons_succ]
        refine wpAnyX_done (by kernel_rfl) ?_ _
        replace hM := hM.below hS
        clear hS t6 hBs hcx hcy
        have t4 := hM.tr.c4
        have t5 := hM.tr.c5
        by_cases hts : there ≤ s
        · have HM := Lib.hid (HM2.out hle (by rw [← hthe.out]; omega))
          have hd : decide (there ≤ (s : Int)) = true := by simpa using hts
          clear hle HM2 HM3 HBP'
          have hss : (s : Int) - 1 = ((s - 1 : Nat) : Int) := by omega
          have hss2 : s - 1 ≤ 2 := by omega
          generalize s - 1 = s' at *
          go_wp2
          go_quiet (fail)
          replace hM := hM.below (below_drewN (Below.refl _ _) nq)
          generalize w4.drewN nq = wq at *
          have f2 := hM.boxB.fz 2
          have k2 := hM.boxB.c2
          go_upto_region 19 with fail
          replace hM := hM.kind' 3
          clear f2 k2 t4 t5
          generalize wq.setCell ⟨b8, 2, none⟩ (.int .i64 3) = w6 at *
          have t3 := hM.tr.c3
          have k1 := hM.boxB.c1
          have hpp0 : (0 : Int) ≤ (p : Int) := by omega
          have hpp1 : (p : Int) < (lots.length : Int) := by omega
          refine wp_region_X (fun w' => Below w6.heap.size w6 w') 7 (by kernel_rfl) ?_ (fun hS => ?_)
          · exact (Below.refl _ _).drew
          refine wpAnyX_take (i := 0) (oi := ⟨some 94, _, _, _, _, _⟩) (v := ?_) rfl (by kernel_rfl) (by kernel_rfl) (by kernel_rfl) (by kernel_rfl) (fun _ _ _ h => h) (Or.inl ⟨by kernel_rfl, ?_⟩) hS ?_
          rotate_left
          · intro w hSw
            have d1 := cell_below hSw t3; have d2 := cell_below hSw k1
            try dsimp only at hSw
            go_simp
            try with_reducible rfl
          try simp only [Act.put, List.setIfInBounds_toArray, List.set_cons_zero, List.set_cons_succ]
          refine wpAnyX_take (i := 1) (oi := ⟨some 95, _, _, _, _, _⟩) (v := ?_) rfl (by kernel_rfl) (by kernel_rfl) (by kernel_rfl) (by kernel_rfl) (fun _ _ _ h => h) (Or.inl ⟨by kernel_rfl, ?_⟩) hS ?_
          rotate_left
          · intro w hSw
            have d1 := cell_below hSw t3; have d2 := cell_below hSw k1
            try dsimp only at hSw
            go_simp
            try with_reducible rfl
          try simp only [Act.put, List.setIfInBounds_toArray, List.set_cons_zero, List.set_cons_succ]
          refine wpAnyX_take (i := 2) (oi := ⟨some 96, _, _, _, _, _⟩) (v := ?_) rfl (by kernel_rfl) (by kernel_rfl) (by kernel_rfl) (by kernel_rfl) (fun _ _ _ h => h) (Or.inl ⟨by kernel_rfl, ?_⟩) hS ?_
          rotate_left
          · intro w hSw
            have d1 := cell_below hSw t3; have d2 := cell_below hSw k1
            try dsimp only at hSw
            go_simp
            try with_reducible rfl
          try simp only [Act.put, List.setIfInBounds_toArray, List.set_cons_zero, List.set_cons_succ]
          refine wpAnyX_take (i := 3) (oi := ⟨some 97, _, _, _, _, _⟩) (v := ?_) rfl (by kernel_rfl) (by kernel_rfl) (by kernel_rfl) (by kernel_rfl) (fun _ _ _ h => h) (Or.inl ⟨by kernel_rfl, ?_⟩) hS ?_
          rotate_left
          · intro w hSw
            have d1 := cell_below hSw t3; have d2 := cell_below hSw k1
            try dsimp only at hSw
            go_simp
            try with_reducible rfl
          try simp only [Act.put, List.setIfInBounds_toArray, List.set_cons_zero, List.set_cons_succ]
          refine wpAnyX_take (i := 4) (oi := ⟨some 98, _, _, _, _, _⟩) (v := ?_) rfl (by kernel_rfl) (by kernel_rfl) (by kernel_rfl) (by kernel_rfl) (fun _ _ _ h => h) (Or.inl ⟨by kernel_rfl, ?_⟩) hS ?_
          rotate_left
          · intro w hSw
            have d1 := cell_below hSw t3; have d2 := cell_below hSw k1
            try dsimp only at hSw
            go_simp
            try with_reducible rfl
          try simp only [Act.put, List.setIfInBounds_toArray, List.set_cons_zero, List.set_cons_succ]
          refine wpAnyX_take (i := 5) (oi := ⟨some 99, _, _, _, _, _⟩) (v := ?_) rfl (by kernel_rfl) (by kernel_rfl) (by kernel_rfl) (by kernel_rfl) (fun _ _ _ h => h) (Or.inl ⟨by kernel_rfl, ?_⟩) hS ?_
          rotate_left
          · intro w hSw
            have d1 := cell_below hSw t3; have d2 := cell_below hSw k1
            try dsimp only at hSw
            go_simp
            try with_reducible rfl
          try simp only [Act.put, List.setIfInBounds_toArray, List.set_cons_zero, List.set_cons_succ]
          refine wpAnyX_take (i := 6) (oi := ⟨some 100, _, _, _, _, _⟩) (v := ?_) rfl (by kernel_rfl) (by kernel_rfl) (by kernel_rfl) (by kernel_rfl) (fun _ _ _ h => h) (Or.inl ⟨by kernel_rfl, ?_⟩) hS ?_
          rotate_left
          · intro w hSw
            have d1 := cell_below hSw t3; have d2 := cell_below hSw k1
            try dsimp only at hSw
            go_simp
            try with_reducible rfl
          try simp only [Act.put, List.setIfInBounds_toArray, List.set_cons_zero, List.set_cons_succ]
          refine wpAnyX_ready (rs := [7]) (by kernel_rfl) (by simp) ?_
          refine AllReadyX.cons (o := ⟨none, _, _, _, _, _⟩) rfl (fun K hK => ?_) AllReadyX.nil
          have hcl := hM.tr.lft.cellB HBP.out
          have hfl := hM.tr.lft.frozenB p
          go_simp
          refine hK.out _ _ (fun h => absurd (h.symm.trans (by kernel_rfl : _ = true)) (by decide)) (fun _ => ?_)
          clear hK K
          try simp only [Act.put, List.setIfInBounds_toArray, List.set_cons_zero, List.set_cons_succ]
          refine wpAnyX_done (by kernel_rfl) ?_ _
          replace hM := (hM.left' p true).below (drew_below _)
          clear hcl hfl t3 k1 hS
          go_upto_region 20 with fail
          generalize (w6.setCell ⟨gl, p, none⟩ (.bool true)).drew = wu at *
          have t4 := hM.tr.c4
          have f4 := hM.tr.fz 4
          go_upto_region 21 with fail
          replace hM := hM.there' (there - 1)
          clear t4 f4
          generalize wu.setCell ⟨tb, 4, none⟩ (.int .i64 (there - 1)) = wv at *
          have k2 := hM.boxB.c2
          have t5 := hM.tr.c5
          have f5 := hM.tr.fz 5
          go_upto_region 23 with fail
          replace hM := hM.seats' (s' : Int)
          clear t5 f5 k2
          generalize wv.setCell ⟨tb, 5, none⟩ (.int .i64 (s' : Int)) = wz at *
          have c0 := hM.boxB.c0
          have c1 := hM.boxB.c1
          have c2 := hM.boxB.c2
          have z0 := hM.box2.c0
          have z1 := hM.box2.c1
          have z2 := hM.box2.c2
          have g0 := hM.box2.fz 0
          have g1 := hM.box2.fz 1
          have g2 := hM.box2.fz 2
          obtain ⟨hO9, hT9, hb9⟩ := hM.fin (grown_setCell (grown_setCell (set_grown wz b2 0 (.slice (some adc) lots.length d)) 1 (.int .i64 (p : Int))) 2 (.int .i64 3))
          go_wp2
          (try simp only [Exit.inBlock, Exit.then])
          refine bodyPost_ret (v := .agg #[.slice (some adc) lots.length d, .int .i64 (p : Int), .int .i64 3]) ?_ rfl ?_
          · simp [results, Try.f51]
            go_simp
          · exact stepR_of HCS.out (hO9.mono (Nat.le_of_eq HB2.out)) hT9 rfl hb9 HM.out
        · have HM := Lib.hid (HM3.out hle (by rw [← hthe.out]; omega))
          have hd : decide (there ≤ (s : Int)) = false := by simpa using hts
          clear hle HM2 HM3 HBP
          go_wp2
          go_quiet (fail)
          replace hM := hM.below (below_drewN (Below.refl _ _) nq)
          generalize w4.drewN nq = wq at *
          have f2 := hM.boxB.fz 2
          have k2 := hM.boxB.c2
          have f1 := hM.boxB.fz 1
          have k1 := hM.boxB.c1
          go_upto_region 19 with fail
          replace hM := (hM.kind' 2).who' (p' : Int)
          clear f2 k2 t4 t5 f1 k1
          generalize (wq.setCell ⟨b8, 2, none⟩ (.int .i64 2)).setCell ⟨b8, 1, none⟩ (.int .i64 (p' : Int)) = w6 at *
          have t3 := hM.tr.c3
          have k1 := hM.boxB.c1
          have hpp0 : (0 : Int) ≤ (p' : Int) := by omega
          have hpp1 : (p' : Int) < (lots.length : Int) := by omega
          refine wp_region_X (fun w' => Below w6.heap.size w6 w') 7 (by kernel_rfl) ?_ (fun hS => ?_)
          · exact (Below.refl _ _).drew
          refine wpAnyX_take (i := 0) (oi := ⟨some 94, _, _, _, _, _⟩) (v := ?_) rfl (by kernel_rfl) (by kernel_rfl) (by kernel_rfl) (by kernel_rfl) (fun _ _ _ h => h) (Or.inl ⟨by kernel_rfl, ?_⟩) hS ?_
          rotate_left
          · intro w hSw
            have d1 := cell_below hSw t3; have d2 := cell_below hSw k1
            try dsimp only at hSw
            go_simp
            try with_reducible rfl
          try simp only [Act.put, List.setIfInBounds_toArray, List.set_cons_zero, List.set_cons_succ]
          refine wpAnyX_take (i := 1) (oi := ⟨some 95, _, _, _, _, _⟩) (v := ?_) rfl (by kernel_rfl) (by kernel_rfl) (by kernel_rfl) (by kernel_rfl) (fun _ _ _ h => h) (Or.inl ⟨by kernel_rfl, ?_⟩) hS ?_
          rotate_left
          · intro w hSw
            have d1 := cell_below hSw t3; have d2 := cell_below hSw k1
            try dsimp only at hSw
            go_simp
            try with_reducible rfl
          try simp only [Act.put, List.setIfInBounds_toArray, List.set_cons_zero, List.set_cons_succ]
          refine wpAnyX_take (i := 2) (oi := ⟨some 96, _, _, _, _, _⟩) (v := ?_) rfl (by kernel_rfl) (by kernel_rfl) (by kernel_rfl) (by kernel_rfl) (fun _ _ _ h => h) (Or.inl ⟨by kernel_rfl, ?_⟩) hS ?_
          rotate_left
          · intro w hSw
            have d1 := cell_below hSw t3; have d2 := cell_below hSw k1
            try dsimp only at hSw
            go_simp
            try with_reducible rfl
          try simp only [Act.put, List.setIfInBounds_toArray, List.set_cons_zero, List.set_cons_succ]
          refine wpAnyX_take (i := 3) (oi := ⟨some 97, _, _, _, _, _⟩) (v := ?_) rfl (by kernel_rfl) (by kernel_rfl) (by kernel_rfl) (by kernel_rfl) (fun _ _ _ h => h) (Or.inl ⟨by kernel_rfl, ?_⟩) hS ?_
          rotate_left
          · intro w hSw
            have d1 := cell_below hSw t3; have d2 := cell_below hSw k1
            try dsimp only at hSw
            go_simp
            try with_reducible rfl
          try simp only [Act.put, List.setIfInBounds_toArray, List.set_cons_zero, List.set_cons_succ]
          refine wpAnyX_take (i := 4) (oi := ⟨some 98, _, _, _, _, _⟩) (v := ?_) rfl (by kernel_rfl) (by kernel_rfl) (by kernel_rfl) (by kernel_rfl) (fun _ _ _ h => h) (Or.inl ⟨by kernel_rfl, ?_⟩) hS ?_
          rotate_left
          · intro w hSw
            have d1 := cell_below hSw t3; have d2 := cell_below hSw k1
            try dsimp only at hSw
            go_simp
            try with_reducible rfl
          try simp only [Act.put, List.setIfInBounds_toArray, List.set_cons_zero, List.set_cons_succ]
          refine wpAnyX_take (i := 5) (oi := ⟨some 99, _, _, _, _, _⟩) (v := ?_) rfl (by kernel_rfl) (by kernel_rfl) (by kernel_rfl) (by kernel_rfl) (fun _ _ _ h => h) (Or.inl ⟨by kernel_rfl, ?_⟩) hS ?_
          rotate_left
          · intro w hSw
            have d1 := cell_below hSw t3; have d2 := cell_below hSw k1
            try dsimp only at hSw
            go_simp
            try with_reducible rfl
          try simp only [Act.put, List.setIfInBounds_toArray, List.set_cons_zero, List.set_cons_succ]
          refine wpAnyX_take (i := 6) (oi := ⟨some 100, _, _, _, _, _⟩) (v := ?_) rfl (by kernel_rfl) (by kernel_rfl) (by kernel_rfl) (by kernel_rfl) (fun _ _ _ h => h) (Or.inl ⟨by kernel_rfl, ?_⟩) hS ?_
          rotate_left
          · intro w hSw
            have d1 := cell_below hSw t3; have d2 := cell_below hSw k1
            try dsimp only at hSw
            go_simp
            try with_reducible rfl
          try simp only [Act.put, List.setIfInBounds_toArray, List.set_cons_zero, List.set_cons_succ]
          refine wpAnyX_ready (rs := [7]) (by kernel_rfl) (by simp) ?_
          refine AllReadyX.cons (o := ⟨none, _, _, _, _, _⟩) rfl (fun K hK => ?_) AllReadyX.nil
          have hcl := hM.tr.lft.cellB HBP'.out
          have hfl := hM.tr.lft.frozenB p'
          go_simp
          refine hK.out _ _ (fun h => absurd (h.symm.trans (by kernel_rfl : _ = true)) (by decide)) (fun _ => ?_)
          clear hK K
          try simp only [Act.put, List.setIfInBounds_toArray, List.set_cons_zero, List.set_cons_succ]
          refine wpAnyX_done (by kernel_rfl) ?_ _
          replace hM := (hM.left' p' true).below (drew_below _)
          clear hcl hfl t3 k1 hS
          go_upto_region 20 with fail
          generalize (w6.setCell ⟨gl, p', none⟩ (.bool true)).drew = wu at *
          have t4 := hM.tr.c4
          have f4 := hM.tr.fz 4
          go_upto_region 21 with fail
          replace hM := hM.there' (there - 1)
          clear t4 f4
          generalize wu.setCell ⟨tb, 4, none⟩ (.int .i64 (there - 1)) = wv at *
          have k2 := hM.boxB.c2
          go_upto_region 23 with fail
          obtain ⟨wz, rfl⟩ : ∃ wz, wz = wv := ⟨_, rfl⟩
          clear k2
          have c0 := hM.boxB.c0
          have c1 := hM.boxB.c1
          have c2 := hM.boxB.c2
          have z0 := hM.box2.c0
          have z1 := hM.box2.c1
          have z2 := hM.box2.c2
          have g0 := hM.box2.fz 0
          have g1 := hM.box2.fz 1
          have g2 := hM.box2.fz 2
          obtain ⟨hO9, hT9, hb9⟩ := hM.fin (grown_setCell (grown_setCell (set_grown wz b2 0 (.slice (some adc) lots.length d)) 1 (.int .i64 (p' : Int))) 2 (.int .i64 2))
          go_wp2
          (try simp only [Exit.inBlock, Exit.then])
          refine bodyPost_ret (v := .agg #[.slice (some adc) lots.length d, .int .i64 (p' : Int), .int .i64 2]) ?_ rfl ?_
          · simp [results, Try.f51]
            go_simp
          · exact stepR_of HCS.out (hO9.mono (Nat.le_of_eq HB2.out)) hT9 rfl hb9 HM.out
end Go.Proofs.Ytiinfbjlkbjmmaa
