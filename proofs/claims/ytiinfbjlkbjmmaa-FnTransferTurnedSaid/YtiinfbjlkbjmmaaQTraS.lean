/-
  All steps of a transfer: the reference's.
-/
import Derived.Test.YtiinfbjlkbjmmaaQTraO
import Derived.Test.YtiinfbjlkbjmmaaQRunO
namespace Go.Proofs.Ytiinfbjlkbjmmaa
open Go.RowKit
/-- How many ballots are enough. -/
def quoT (t s : Nat) : Nat := t / (s + 1) + 1
def startT (ps : List (ByteArray × Int)) (lots : List Int) (s : Nat) : List Stp := stepsT (pl ps) lots (quoT (totM ps).toNat s) lots.length (List.replicate lots.length false) (List.replicate ps.length (1, 1)) s
/-- What holds ahead of step k. -/
structure TInv (ps : List (ByteArray × Int)) (lots : List Int) (q n k : Nat) (all rs : List Stp) (bs : List Bool) (ws : List Fr) (s : Nat) : Prop where
  len : bs.length = n
  there : thereL bs = (n : Int) - k
  enough : (s : Int) ≤ thereL bs
  s2 : s ≤ 2
  wok : WOk ws s
  wlen : ws.length = ps.length
  rest : rs ++ stepsT (pl ps) lots q (n - k) bs ws s = all
set_option maxRecDepth 100000 in
theorem tInv_start (ps : List (ByteArray × Int)) (lots : List Int) (q s : Nat) (hs : s ≤ 2) (hn : s ≤ lots.length) : TInv ps lots q lots.length 0 (stepsT (pl ps) lots q lots.length (List.replicate lots.length false) (List.replicate ps.length (1, 1)) s) [] (List.replicate lots.length false) (List.replicate ps.length (1, 1)) s :=
  ⟨by simp, by rw [thereL_rep]; omega, by rw [thereL_rep]; omega, hs, .inr (.inl (fun w hw => (List.mem_replicate.1 hw).2)), by simp, by rw [List.nil_append, Nat.sub_zero]⟩
set_option maxRecDepth 100000 in
theorem stepsT_none (ps : List Pl) (lots : List Int) (q k : Nat) (bs : List Bool) (ws : List Fr) : stepsT ps lots q k bs ws 0 = [] := by
  cases k with
  | zero => rfl
  | succ k => simp [stepsT]
section
variable {ps : List (ByteArray × Int)} {lots : List Int} {q n k s : Nat} {all rs : List Stp} {bs : List Bool} {ws : List Fr}
set_option maxRecDepth 100000 in
theorem TInv.fin (h : TInv ps lots q n k all rs bs ws s) (he : n ≤ k ∨ s = 0) : rs = all := by
  have := h.rest
  rcases he with he | he
  · rw [show n - k = 0 by omega] at this
    simpa [stepsT] using this
  · subst he
    rw [stepsT_none, List.append_nil] at this
    exact this
set_option maxRecDepth 100000 in
theorem TInv.none (h : TInv ps lots q n k all rs bs ws s) (hk : n ≤ k) : s = 0 := by
  have h1 := h.there
  have h2 := h.enough
  omega
set_option maxRecDepth 100000 in
theorem stepsT_in {ps : List Pl} {m : Nat} {cs : List Fr} (hs : 1 ≤ s) (hc : cntT bs (ps.zip ws) = cs) {p : Int} (hp : mostT cs bs lots = p) (hl : lessP (atF cs p) (q, 1) = false) :
    stepsT ps lots q (m + 1) bs ws s = (cs, p, 1) :: stepsT ps lots q m (bs.set p.toNat true) (weighT bs p (atF cs p) q ps ws) (s - 1) := by
  subst hc
  subst hp
  rw [stepsT, if_neg (by omega), if_pos hl]
set_option maxRecDepth 100000 in
theorem stepsT_rest {ps : List Pl} {m : Nat} {cs : List Fr} (hs : 1 ≤ s) (hc : cntT bs (ps.zip ws) = cs) {p : Int} (hp : mostT cs bs lots = p) (hl : lessP (atF cs p) (q, 1) = true) (ht : thereL bs ≤ s) :
    stepsT ps lots q (m + 1) bs ws s = (cs, p, 3) :: stepsT ps lots q m (bs.set p.toNat true) ws (s - 1) := by
  subst hc
  subst hp
  rw [stepsT, if_neg (by omega), if_neg (by rw [hl]; simp), if_pos ht]
set_option maxRecDepth 100000 in
theorem stepsT_out {ps : List Pl} {m : Nat} {cs : List Fr} (hs : 1 ≤ s) (hc : cntT bs (ps.zip ws) = cs) {p p' : Int} (hp : mostT cs bs lots = p) (hp' : leastT cs bs lots = p') (hl : lessP (atF cs p) (q, 1) = true) (ht : ¬ thereL bs ≤ s) :
    stepsT ps lots q (m + 1) bs ws s = (cs, p', 2) :: stepsT ps lots q m (bs.set p'.toNat true) ws s := by
  subst hc
  subst hp
  subst hp'
  rw [stepsT, if_neg (by omega), if_neg (by rw [hl]; simp), if_neg ht]
set_option maxRecDepth 100000 in
theorem TInv.seat (h : TInv ps lots q n k all rs bs ws s) (hk : k < n) (hs : 1 ≤ s) (hq : 1 ≤ q) {cs : List Fr} (hc : cntT bs ((pl ps).zip ws) = cs) (hall : ∃ B, (s = 2 → B = 1) ∧ 1 ≤ B ∧ ∀ f ∈ cs, FrB B 60 f) {p : Nat} {x : Fr} (hp : mostT cs bs lots = (p : Int)) (hb : bs[p]? = some false) (hx : cs[p]? = some x) (hl : lessP x (q, 1) = false) :
    TInv ps lots q n (k + 1) all (rs ++ [(cs, (p : Int), 1)]) (bs.set p true) (weighT bs (p : Int) x q (pl ps) ws) (s - 1) := by
  have h1 := h.there
  have h2 := h.enough
  obtain ⟨m, hm⟩ : ∃ m, n - k = m + 1 := ⟨n - k - 1, by omega⟩
  refine ⟨by rw [List.length_set]; exact h.len, by rw [thereL_set hb]; omega, by rw [thereL_set hb]; omega, by have := h.s2; omega, ?_, by have := weighT_len (left := bs) (who := (p : Int)) (x := x) (q := q) (ps := pl ps) (ws := ws) (by rw [h.wlen]; simp [pl]); rw [this]; simp [pl], ?_⟩
  · obtain ⟨B, hB1, hB2, hB3⟩ := hall
    refine weighT_ok h.wok hs h.s2 ⟨B, hB1, hB2, hB3 x (List.mem_of_getElem? hx)⟩ hq ?_
    unfold lessP at hl
    simp only [decide_eq_false_iff_not] at hl
    omega
  · have := h.rest
    rw [hm, stepsT_in hs hc hp (by rw [atF_at hx]; exact hl), atF_at hx, Int.toNat_natCast] at this
    rw [show n - (k + 1) = m by omega, ← this, List.append_assoc]; rfl
set_option maxRecDepth 100000 in
theorem TInv.left (h : TInv ps lots q n k all rs bs ws s) (hk : k < n) (hs : 1 ≤ s) {cs : List Fr} (hc : cntT bs ((pl ps).zip ws) = cs) {p : Nat} {x : Fr} (hp : mostT cs bs lots = (p : Int)) (hb : bs[p]? = some false) (hx : cs[p]? = some x) (hl : lessP x (q, 1) = true) (ht : thereL bs ≤ s) :
    TInv ps lots q n (k + 1) all (rs ++ [(cs, (p : Int), 3)]) (bs.set p true) ws (s - 1) := by
  have h1 := h.there
  have h2 := h.enough
  obtain ⟨m, hm⟩ : ∃ m, n - k = m + 1 := ⟨n - k - 1, by omega⟩
  refine ⟨by rw [List.length_set]; exact h.len, by rw [thereL_set hb]; omega, by rw [thereL_set hb]; omega, by have := h.s2; omega, ?_, h.wlen, ?_⟩
  · rcases h.wok with h3 | h3 | ⟨h3, h4⟩
    · omega
    · exact .inr (.inl h3)
    · exact .inl (by omega)
  · have := h.rest
    rw [hm, stepsT_rest hs hc hp (by rw [atF_at hx]; exact hl) ht, Int.toNat_natCast] at this
    rw [show n - (k + 1) = m by omega, ← this, List.append_assoc]; rfl
set_option maxRecDepth 100000 in
theorem TInv.leave (h : TInv ps lots q n k all rs bs ws s) (hk : k < n) (hs : 1 ≤ s) {cs : List Fr} (hc : cntT bs ((pl ps).zip ws) = cs) {p p' : Nat} {x : Fr} (hp : mostT cs bs lots = (p : Int)) (hp' : leastT cs bs lots = (p' : Int)) (hb : bs[p']? = some false) (hx : cs[p]? = some x) (hl : lessP x (q, 1) = true) (ht : ¬ thereL bs ≤ s) :
    TInv ps lots q n (k + 1) all (rs ++ [(cs, (p' : Int), 2)]) (bs.set p' true) ws s := by
  have h1 := h.there
  have h2 := h.enough
  obtain ⟨m, hm⟩ : ∃ m, n - k = m + 1 := ⟨n - k - 1, by omega⟩
  refine ⟨by rw [List.length_set]; exact h.len, by rw [thereL_set hb]; omega, by rw [thereL_set hb]; omega, h.s2, h.wok, h.wlen, ?_⟩
  have := h.rest
  rw [hm, stepsT_out hs hc hp hp' (by rw [atF_at hx]; exact hl) ht, Int.toNat_natCast] at this
  rw [show n - (k + 1) = m by omega, ← this, List.append_assoc]; rfl
set_option maxRecDepth 100000 in
/-- The counts ahead of a step. -/
theorem TInv.cnt (h : TInv ps lots q n k all rs bs ws s) (hs : 1 ≤ s) (hf : FitOk ps n) (ht : totM ps ≤ 60) : ∃ B, CntOk ps ws bs.length B ∧ FrOk (cntT bs ((pl ps).zip ws)) bs.length B ∧ (s = 2 → B = 1) := by
  have key : ∀ B, 1 ≤ B → B ≤ 60 → (∀ w ∈ ws, FrB B 1 w) → CntOk ps ws bs.length B ∧ FrOk (cntT bs ((pl ps).zip ws)) bs.length B := fun B h1 h2 h3 => by
    have hc : CntOk ps ws bs.length B := ⟨by rw [h.len]; exact hf, h.wlen, h1, h2, h3, ht⟩
    exact ⟨hc, ⟨cntT_len _ _, h1, h2, hc.all bs⟩⟩
  have hs2 := h.s2
  rcases h.wok with h3 | h3 | ⟨h3, B, h4, h5, h6⟩
  · omega
  · obtain ⟨a, b⟩ := key 1 (by omega) (by omega) (fun w hw => by rw [h3 w hw]; exact frB_one)
    exact ⟨1, a, b, fun _ => rfl⟩
  · obtain ⟨a, b⟩ := key B h4 h5 h6
    exact ⟨B, a, b, fun h => by omega⟩
end
set_option maxRecDepth 100000 in
theorem quo_nat (T s : Nat) (hT : T ≤ 60) : ∃ q : Nat, Int.tdiv (T : Int) ((s + 1 : Nat) : Int) = (q : Int) ∧ q ≤ 60 ∧ Hid (quoT T s = q + 1) :=
  ⟨T / (s + 1), rfl, Nat.le_trans (Nat.div_le_self _ _) hT, rfl⟩
set_option maxRecDepth 100000 in
theorem less_fv {q : Nat} (h : q ≤ 61) : fvN q 1 = true := fvN_iff.2 ⟨by omega, by omega, by omega, by simp⟩
set_option maxRecDepth 100000 in
theorem OwnF.setBool {w : World} {base base' g n' c' n c : Nat} {A : Option Addr} {fs : List Fr} {bs : List Bool} (h : OwnF w base A n c fs) (hb : OwnB w base' (some ⟨g, 0, none⟩) n' c' bs) (k : Nat) (b : Bool) : OwnF (w.setCell ⟨g, k, none⟩ (.bool b)) base A n c fs :=
  h.grown (grown_setCell (grown_refl w (some g)) k (.bool b)) (fun x hx e => by
    injection hx with hx
    subst hx
    exact own_ne hb.2 h.row (by decide) rfl e)
set_option maxRecDepth 100000 in
theorem newF_len {w : World} {P : Program} {f : FuncId} {args : Array Value} {fs : List Fr} {n : Nat} (h : Calls P f args w (NewF w fs)) (hn : fs.length = n) : Calls P f args w (fun e w' => ∃ A c, e = .returned (.slice A n c) ∧ OwnF w' w.heap.size A n c fs ∧ Below w.heap.size w w') := by
  subst hn
  exact h
set_option maxRecDepth 100000 in
set_option maxHeartbeats 6400000 in
theorem l15Steps_any (A A2 : Option Addr) (ps : List (ByteArray × Int)) (lots : List Int) (c c2 s : Nat) (w : World) (h : PilesI w A ps) (h2 : Ints w A2 lots) (hf : Hid (FitOk ps lots.length)) (hv : Hid (lv lots = true)) (hs1 : 1 ≤ s) (hs2 : s ≤ 2) (hsn : s ≤ lots.length) (ht : Hid (totM ps ≤ 60)) :
    Calls Try.prog 53 #[.slice A ps.length c, .slice A2 lots.length c2, .int .i64 s] w (NewS w (startT ps lots s)) := by
  have hl := hf.out.len
  have hl5 := hf.out.n5
  have hl1 := hf.out.n1
  obtain ⟨T, hT⟩ : ∃ T : Nat, totM ps = (T : Int) := ⟨(totM ps).toNat, by have := (totM_all hf.out).1; omega⟩
  have hT60 : T ≤ 60 := by have := ht.out; omega
  obtain ⟨qq, hqd, hq60, hqq⟩ := quo_nat T s hT60
  obtain ⟨q, hqe⟩ : ∃ q, q = qq + 1 := ⟨_, rfl⟩
  have hq1 : 1 ≤ q := by omega
  have hq61 : q ≤ 61 := by omega
  have HST := Lib.hid (show startT ps lots s = stepsT (pl ps) lots q lots.length (List.replicate lots.length false) (List.replicate ps.length (1, 1)) s from by unfold startT; rw [hT, Int.toNat_natCast, hqq.out, hqe])
  have hlr : Hid (∀ l ∈ lots, 0 ≤ l ∧ l < (lots.length : Int)) := Lib.hid (fun l hl => by have := (lv_iff.1 hv.out).2.1 l hl; omega)
  have cT := Lib.hid (fun w (h : PilesI w A ps) => l3Total_any A ps c w h hl (Lib.hid hf.out.many))
  rw [hT] at cT
  have hS := Lib.hid (tInv_start ps lots q s hs2 hsn)
  generalize stepsT (pl ps) lots q lots.length (List.replicate lots.length false) (List.replicate ps.length (1, 1)) s = all at *
  obtain ⟨s1, hs1e, hs10⟩ : ∃ s1 : Nat, (s : Int) + 1 = (s1 : Int) ∧ s1 = s + 1 := ⟨s + 1, by omega, rfl⟩
  rw [← hs10] at hqd
  have hs1z : ¬ (s1 : Int) = 0 := by omega
  have hqi : (qq : Int) + 1 = (q : Int) := by omega
  clear hT hqe hqq hs10
  go_enter Try.func53, Try.ntmps53
  go_wp2_with (at_make; refine wpList_makeB _ rfl _ _ rfl lots.length rfl rfl (by omega) ?_; intro w1 hown hbel hsz)
  have hS1 := (own_emptyS w (base := w.heap.size) (bi := w.heap.size) (Nat.le_refl _)).below hbel
  have hG1 : OwnB w1 w.heap.size (some ⟨w.heap.size + 1, 0, none⟩) lots.length lots.length (List.replicate lots.length false) := OwnB.mono (by simpa using hown) (b := w.heap.size) (by simp)
  have hB1 : Below w.heap.size w w1 := ((Below.refl _ _).alloc (Nat.le_refl _) _).trans (hbel.mono (by simp))
  have hz1 := hB1.size
  clear hown hbel hsz
  go_loopw [9, 10] (fun o i wr => ∃ (k : Nat) (C : Option Addr) (d : Nat), k ≤ ps.length ∧ i = .int .i64 k ∧ o = .slice C k d ∧ OwnF wr w1.heap.size C k d (List.replicate k (1, 1)) ∧ Below w1.heap.size w1 wr) (fun _ i _ => ps.length - (intOf i).toNat)
  case atStart => exact ⟨0, _, _, by omega, rfl, rfl, OwnF.empty w1 (Nat.le_refl _), (Below.refl _ _).alloc (Nat.le_refl _) _⟩
  case round =>
    obtain ⟨k, C, d, hk, rfl, rfl, hown, hbel⟩ := hrel
    have hsz := hbel.size
    by_cases hlt : k < ps.length
    · go_wp2_with (at_builtin; refine wpList_appF1 _ rfl (.tmp 27) (.tmp 29) rfl w1.heap.size C k d _ rfl hown hsz (by omega) (1, 1) 1 1 rfl rfl rfl ?_; intro A' c' w' hown' hgr' hbl')
      go_roundw
      case rel => exact ⟨k + 1, _, _, by omega, by go_num, rfl, hown'.congr (replicate_snoc _ _), hbel.trans hbl'⟩
      case measure => simp [intOf]; omega
    · obtain rfl : k = ps.length := by omega
      clear hlt hk
      have hS2 := hS1.below hbel
      have hG2 := hG1.below hbel
      have hF2 := hown.mono hz1
      have hB2 := below_down hB1 hbel
      clear hS1 hG1 hown hB1 hbel hsz
      go_wp2_with (go_at_call 75; refine (cT.out _ (h.below hB2)).mono ?_; rintro e w' ⟨rfl, rfl⟩)
      go_loopw [2, 7, 8, 9, 12, 13, 14, 15] (fun st o l wt i _ _ _ wr => ∃ (k s : Nat) (C : Option Addr) (d : Nat) (vs : List Vst) (A3 : Option Addr) (c3 : Nat) (bs : List Bool) (A4 : Option Addr) (c4 : Nat) (ws : List Fr), k ≤ lots.length ∧ i = .int .i64 k ∧ st = .int .i64 s ∧ o = .slice C k d ∧ l = .slice A3 lots.length c3 ∧ wt = .slice A4 ps.length c4 ∧ OwnS wr w.heap.size w.heap.size C k d vs ∧ OwnB wr w.heap.size A3 lots.length c3 bs ∧ OwnF wr w.heap.size A4 ps.length c4 ws ∧ Below w.heap.size w wr ∧ Hid (TInv ps lots q lots.length k all (vs.map sp) bs ws s)) (fun _ _ _ _ i _ _ _ _ => lots.length - (intOf i).toNat)
      case atStart => exact ⟨0, s, _, _, [], _, _, _, _, _, _, by omega, rfl, rfl, rfl, rfl, rfl, hS2, hG2, hF2, hB2, hS⟩
      case round =>
        clear hS2 hG2 hF2 hB2 hS hs1 hs2 hsn hz1
        obtain ⟨k, s, C, d, vs, A3, c3, bs, A4, c4, ws, hk, rfl, rfl, rfl, rfl, rfl, hR, hB, hF, hbel, hI⟩ := hrel
        have hsz := hbel.size
        by_cases hlt : k < lots.length
        · by_cases hs : 1 ≤ s
          · obtain ⟨g3, rfl, _, _⟩ := hB.form (by omega)
            obtain ⟨B, hcnt, hfr, hB1⟩ := hI.out.cnt hs hf.out ht.out
            have hbl := hB.1
            have HBL := Lib.hid hbl
            have hcl : (cntT bs ((pl ps).zip ws)).length = lots.length := by rw [cntT_len, hbl]
            have hth := hI.out.there
            obtain ⟨p, hp, hbp, hpl⟩ := most_at (cs := cntT bs ((pl ps).zip ws)) hv.out hbl (by omega)
            obtain ⟨p', hp', hbp', hpl'⟩ := leastT_at (cs := cntT bs ((pl ps).zip ws)) hv.out hbl (by omega)
            obtain ⟨⟨x, y⟩, hx⟩ : ∃ z, (cntT bs ((pl ps).zip ws))[p]? = some z := ⟨_, List.getElem?_eq_getElem (by omega)⟩
            obtain ⟨hx36, hy1, hy60⟩ := (hfr.all _ (List.mem_of_getElem? hx)).bds hfr.b1 hfr.b60
            have hbb : ∃ B, (s = 2 → B = 1) ∧ 1 ≤ B ∧ ∀ f ∈ cntT bs ((pl ps).zip ws), FrB B 60 f := ⟨B, hB1, hfr.b1, hfr.all⟩
            have HM1 := Lib.hid (fun hl => hI.out.seat hlt hs hq1 rfl hbb hp hbp hx hl)
            have HM2 := Lib.hid (fun hl ht => hI.out.left hlt hs rfl hp hbp hx hl ht)
            have HM3 := Lib.hid (fun hl ht => hI.out.leave hlt hs rfl hp hp' hbp' hx hl ht)
            have cC := newF_len (l15Counts_any A A4 (some ⟨g3, 0, none⟩) ps ws bs B c c4 c3 wr (h.below hbel) hF.fracs hB.bools (Lib.hid hcnt)) hcl
            have cM := fun A5 d5 w' (h1 : Fracs w' A5 (cntT bs ((pl ps).zip ws))) (h2' : Bools w' (some ⟨g3, 0, none⟩) bs) (h3 : Ints w' A2 lots) => l15Most_any A5 (some ⟨g3, 0, none⟩) A2 (cntT bs ((pl ps).zip ws)) bs lots B d5 c3 c2 w' h1 h2' h3 (Lib.hid hfr) hl5 (by rw [hbl]; exact hl5) (Lib.hid (by rw [hbl]; exact hlr.out))
            have cN := fun A5 d5 w' (h1 : Fracs w' A5 (cntT bs ((pl ps).zip ws))) (h2' : Bools w' (some ⟨g3, 0, none⟩) bs) (h3 : Ints w' A2 lots) => l15Least_any A5 (some ⟨g3, 0, none⟩) A2 (cntT bs ((pl ps).zip ws)) bs lots B d5 c3 c2 w' h1 h2' h3 (Lib.hid hfr) hl5 (by rw [hbl]; exact hl5) (Lib.hid (by rw [hbl]; exact hlr.out))
            have cW := fun w' (hp : PilesI w' A ps) (h1 : Fracs w' A4 ws) (h2' : Bools w' (some ⟨g3, 0, none⟩) bs) (hx1 : 1 ≤ x) (hqx : q * y ≤ x) => newF_len (l15Weigh_any A A4 (some ⟨g3, 0, none⟩) ps ws bs B c c4 c3 x y q (p : Int) w' hp h1 h2' (Lib.hid hcnt) hx36 hx1 hy60 hq61 hqx) (n := ps.length) (by rw [weighT_len (by simp [pl, hcnt.len])]; simp [pl])
            have cH := fun w' (h2' : Bools w' (some ⟨g3, 0, none⟩) bs) => l12Many_any (some ⟨g3, 0, none⟩) bs c3 w' h2' (by omega)
            have hfv := hfr.fv hx
            have cL := Lib.hid (fun w => specFracLess_any x y q 1 w hfv (less_fv hq61))
            rw [hp] at cM
            rw [hp'] at cN
            rw [hbl] at cC cM cN cW cH
            have HX := Lib.hid hx
            have HBP := Lib.hid hbp
            have HBP' := Lib.hid hbp'
            have hlc : Hid ((cntT bs ((pl ps).zip ws)).length = lots.length) := Lib.hid hcl
            have cC := Lib.hid cC
            have cM := Lib.hid cM
            have cN := Lib.hid cN
            have cW := Lib.hid cW
            have cH := Lib.hid cH
            have HTH := hI.out.enough
            clear hcnt hfr hB1 hbl hcl hp hbp hp' hbp' hx hbb hfv
            generalize cntT bs ((pl ps).zip ws) = cs at *
            generalize hws2 : weighT bs (p : Int) (x, y) q (pl ps) ws = ws2 at *
            clear hws2
            generalize hthe : thereL bs = TH at *
            clear hthe
            go_wp2_with fail
            refine cC.out.mono ?_
            rintro e w2 ⟨A5, d5, rfl, hO, hb2⟩
            have hR2 := hR.below hb2
            have hG2 := hB.below hb2
            have hF2 := hF.below hb2
            have hO2 := hO.mono hsz
            have hB2 := below_down hbel hb2
            clear cC hR hB hF hO hbel hb2 hsz
            go_wp2_with fail
            refine (cM.out _ _ _ hO2.fracs hG2.bools (h2.below hB2)).mono ?_
            rintro e w3 ⟨rfl, hb3⟩
            have hR3 := hR2.below hb3
            have hG3 := hG2.below hb3
            have hF3 := hF2.below hb3
            have hO3 := hO2.below hb3
            have hB3 := below_down hB2 hb3
            obtain ⟨ad5, x', y', e5, hxy, hcx, hcy⟩ := hO3.fracs.at_ (k := p) (by have := hlc.out; omega)
            obtain ⟨rfl, rfl⟩ : x = x' ∧ y = y' := by
              have := HX.out.symm.trans hxy.out
              injection this with this
              injection this with h1 h2
              exact ⟨h1, h2⟩
            subst e5
            clear cM hR2 hG2 hF2 hO2 hB2 hb3 hxy
            go_wp2_with fail
            refine (cL.out _).mono ?_
            rintro e w4 ⟨rfl, hb4⟩
            have hR4 := hR3.below hb4
            have hG4 := hG3.below hb4
            have hF4 := hF3.below hb4
            have hO4 := hO3.below hb4
            have hB4 := below_down hB3 hb4
            have hcx := cell_below hb4 hcx
            have hcy := cell_below hb4 hcy
            have hsz4 := hB4.size
            clear cL hR3 hG3 hF3 hO3 hB3 hb4
            cases hle : lessP (x, y) (q, 1)
            · have HM := Lib.hid (HM1.out hle)
              have hqx : q * y ≤ x := by
                unfold lessP at hle
                simp only [decide_eq_false_iff_not] at hle
                omega
              have hx1 : 1 ≤ x := Nat.le_trans (Nat.mul_pos (by omega) (by omega)) hqx
              have cW := Lib.hid (fun w' hp h1 h2' => cW.out w' hp h1 h2' hx1 hqx)
              clear hle HM1 HM2 HM3 cN cH hqx hx1 HBP'
              go_wp2_with fail
              refine (cW.out _ (h.below hB4) hF4.fracs hG4.bools).mono ?_
              rintro e w5 ⟨A6, d6, rfl, hF5, hb5⟩
              have hR5 := hR4.below hb5
              have hG5 := hG4.below hb5
              have hF5 := hF5.mono hsz4
              have hO5 := hO4.below hb5
              have hB5 := below_down hB4 hb5
              have hsz5 := hB5.size
              clear cW hR4 hG4 hF4 hO4 hB4 hb5 hcx hcy hsz4
              have hss : (s : Int) - 1 = ((s - 1 : Nat) : Int) := by omega
              generalize s - 1 = s' at *
              go_wp2_with (first | (at_builtin; refine wpList_appS1 _ rfl (.tmp 87) (.tmp 92) rfl w.heap.size w.heap.size C k d vs rfl hR5 hsz5 (by omega) (some ad5) lots.length d5 cs (p : Int) 1 hO5 rfl ?_; intro A7 c7 w7 hR7 hg7 hb7; have hG7 := hG5.grownS hR5 hg7; have hF7 := hF5.grownS hR5 hg7) | (at_builtin; refine wpList_appBs _ rfl (.tmp 94) (.tmp 95) rfl w7.heap.size (some ⟨w7.heap.size, 0, none⟩) 0 0 [] rfl (ownB_empty w7 (Nat.le_refl _)) (by simp) (by omega) ⟨g3, 0, none⟩ bs lots.length c3 rfl HBL.out (by omega) (hG7.bools.alloc _) lots.length (by omega) ?_; intro A8 c8 w8 h8 hg8 hb8; obtain ⟨g8, rfl, hg80, hg81⟩ := h8.form (by omega); have hc8 := h8.cellB HBP.out; have hf8 := h8.frozenB p))
              go_roundw
              case rel =>
                have hb78 := ((Below.refl w7.heap.size w7).alloc (Nat.le_refl _) _).trans hb8
                have hB7 := hB5.trans hb7
                exact ⟨k + 1, s', _, _, _, _, _, bs.set p true, _, _, _, by omega, by go_num, rfl, rfl, rfl, rfl, (hR7.below hb78).setB h8 p true, (h8.setB p true).mono hB7.size, (hF7.below hb78).setBool h8 p true, (hB7.trans (hb78.mono hB7.size)).setCell (Nat.le_trans hB7.size hg80) _, Lib.hid (by rw [List.map_append]; exact HM.out)⟩
              case measure => simp [intOf]; omega
            · clear HM1 cW
              by_cases htt : TH ≤ s
              · have HM := Lib.hid (HM2.out hle htt)
                have hss : (s : Int) - 1 = ((s - 1 : Nat) : Int) := by omega
                clear hle HM2 HM3 cN HBP' hcx hcy
                generalize s - 1 = s' at *
                go_wp2_with (first | (go_at_call 91; refine (cH.out _ hG4.bools).mono ?_; rintro e w' ⟨rfl, rfl⟩) | (at_builtin; refine wpList_appS1 _ rfl (.tmp 87) (.tmp 92) rfl w.heap.size w.heap.size C k d vs rfl hR4 hsz4 (by omega) (some ad5) lots.length d5 cs (p : Int) 3 hO4 rfl ?_; intro A7 c7 w7 hR7 hg7 hb7; have hG7 := hG4.grownS hR4 hg7; have hF7 := hF4.grownS hR4 hg7) | (at_builtin; refine wpList_appBs _ rfl (.tmp 94) (.tmp 95) rfl w7.heap.size (some ⟨w7.heap.size, 0, none⟩) 0 0 [] rfl (ownB_empty w7 (Nat.le_refl _)) (by simp) (by omega) ⟨g3, 0, none⟩ bs lots.length c3 rfl HBL.out (by omega) (hG7.bools.alloc _) lots.length (by omega) ?_; intro A8 c8 w8 h8 hg8 hb8; obtain ⟨g8, rfl, hg80, hg81⟩ := h8.form (by omega); have hc8 := h8.cellB HBP.out; have hf8 := h8.frozenB p))
                go_roundw
                case rel =>
                  have hb78 := ((Below.refl w7.heap.size w7).alloc (Nat.le_refl _) _).trans hb8
                  have hB7 := hB4.trans hb7
                  exact ⟨k + 1, s', _, _, _, _, _, bs.set p true, _, _, _, by omega, by go_num, rfl, rfl, rfl, rfl, (hR7.below hb78).setB h8 p true, (h8.setB p true).mono hB7.size, (hF7.below hb78).setBool h8 p true, (hB7.trans (hb78.mono hB7.size)).setCell (Nat.le_trans hB7.size hg80) _, Lib.hid (by rw [List.map_append]; exact HM.out)⟩
                case measure => simp [intOf]; omega
              · have HM := Lib.hid (HM3.out hle (by omega))
                clear hle HM2 HM3 HBP hcx hcy
                go_wp2_with (go_at_call 91; refine (cH.out _ hG4.bools).mono ?_; rintro e w' ⟨rfl, rfl⟩)
                refine (cN.out _ _ _ hO4.fracs hG4.bools (h2.below hB4)).mono ?_
                rintro e w5 ⟨rfl, hb5⟩
                have hR5 := hR4.below hb5
                have hG5 := hG4.below hb5
                have hF5 := hF4.below hb5
                have hO5 := hO4.below hb5
                have hB5 := below_down hB4 hb5
                have hsz5 := hB5.size
                clear cN hR4 hG4 hF4 hO4 hB4 hb5 hsz4
                go_wp2_with (first | (at_builtin; refine wpList_appS1 _ rfl (.tmp 87) (.tmp 92) rfl w.heap.size w.heap.size C k d vs rfl hR5 hsz5 (by omega) (some ad5) lots.length d5 cs (p' : Int) 2 hO5 rfl ?_; intro A7 c7 w7 hR7 hg7 hb7; have hG7 := hG5.grownS hR5 hg7; have hF7 := hF5.grownS hR5 hg7) | (at_builtin; refine wpList_appBs _ rfl (.tmp 94) (.tmp 95) rfl w7.heap.size (some ⟨w7.heap.size, 0, none⟩) 0 0 [] rfl (ownB_empty w7 (Nat.le_refl _)) (by simp) (by omega) ⟨g3, 0, none⟩ bs lots.length c3 rfl HBL.out (by omega) (hG7.bools.alloc _) lots.length (by omega) ?_; intro A8 c8 w8 h8 hg8 hb8; obtain ⟨g8, rfl, hg80, hg81⟩ := h8.form (by omega); have hc8 := h8.cellB HBP'.out; have hf8 := h8.frozenB p'))
                go_roundw
                case rel =>
                  have hb78 := ((Below.refl w7.heap.size w7).alloc (Nat.le_refl _) _).trans hb8
                  have hB7 := hB5.trans hb7
                  exact ⟨k + 1, s, _, _, _, _, _, bs.set p' true, _, _, _, by omega, by go_num, rfl, rfl, rfl, rfl, (hR7.below hb78).setB h8 p' true, (h8.setB p' true).mono hB7.size, (hF7.below hb78).setBool h8 p' true, (hB7.trans (hb78.mono hB7.size)).setCell (Nat.le_trans hB7.size hg80) _, Lib.hid (by rw [List.map_append]; exact HM.out)⟩
                case measure => simp [intOf]; omega
          · obtain rfl : s = 0 := by omega
            have hfin := Lib.hid (hI.out.fin (.inr rfl))
            go_wp2
            go_ret
            exact newS_of hR (by rw [hfin.out, HST.out]) hbel
        · have hfin := Lib.hid (hI.out.fin (.inl (by omega)))
          go_wp2
          go_ret
          exact newS_of hR (by rw [hfin.out, HST.out]) hbel
/-- Arguments of a transfer are valid. -/
def trOk (ps : List (ByteArray × Int)) (lots : List Int) (s : Int) : Bool := lv lots && fitV ps lots.length && inB s 1 (min 2 (lots.length : Int)) && decide (totM ps ≤ 60)
def trF (ps : List (ByteArray × Int)) (lots : List Int) (s : Int) : List Stp × Bool := if trOk ps lots s = true then (startT ps lots s.toNat, true) else ([], false)
set_option maxRecDepth 100000 in
theorem tr_f {ps : List (ByteArray × Int)} {lots : List Int} {s : Int} (h : trOk ps lots s = false) : trF ps lots s = ([], false) := by
  unfold trF
  rw [if_neg (by rw [h]; simp)]
set_option maxRecDepth 100000 in
theorem tr_t {ps : List (ByteArray × Int)} {lots : List Int} {s : Int} (h : trOk ps lots s = true) : trF ps lots s = (startT ps lots s.toNat, true) := by
  unfold trF
  rw [if_pos h]
set_option maxRecDepth 100000 in
theorem trOk_iff {ps : List (ByteArray × Int)} {lots : List Int} {s : Int} : trOk ps lots s = true ↔ lv lots = true ∧ fitV ps lots.length = true ∧ (1 ≤ s ∧ s ≤ 2 ∧ s ≤ lots.length) ∧ totM ps ≤ 60 := by
  simp only [trOk, Bool.and_eq_true, inB_iff, decide_eq_true_eq, and_assoc]
  constructor
  · rintro ⟨h1, h2, h3, h4, h5⟩; exact ⟨h1, h2, h3, by omega, by omega, h5⟩
  · rintro ⟨h1, h2, h3, h4, h5, h6⟩; exact ⟨h1, h2, h3, by omega, h6⟩
set_option maxRecDepth 100000 in
set_option maxHeartbeats 1600000 in
theorem l15Ok_any (A A2 : Option Addr) (ps : List (ByteArray × Int)) (lots : List Int) (c c2 : Nat) (s : Int) (w : World) (h : PilesI w A ps) (h2 : Ints w A2 lots) (hl : ps.length ≤ 1048576) (hl2 : lots.length ≤ 1048576) (hcap : lots.length ≤ c2) :
    Calls Try.prog 52 #[.slice A ps.length c, .slice A2 lots.length c2, .int .i64 s] w (Bl w (.bool (trOk ps lots s))) := by
  have cV := Lib.hid (specLotsValid_any A2 lots c2 w h2 (by omega) hcap)
  have cF := Lib.hid (fun m => l3Fits_any A ps c lots.length (w.drewN m) (h.drewN m) hl (by omega) (by omega))
  have HT := Lib.hid (show trOk ps lots s = (lv lots && fitV ps lots.length && inB s 1 (min 2 (lots.length : Int)) && decide (totM ps ≤ 60)) from rfl)
  cases hv : lv lots
  · rw [hv] at cV HT
    go_enter Try.func52, Try.ntmps52
    go_wp2_with (go_at_call 84; refine cV.out.mono ?_; rintro e w1 ⟨rfl, m1, rfl⟩)
    go_ret
    exact ⟨ret_bool (by rw [HT.out]; rfl), below_drewN (Below.refl _ _) _⟩
  · rw [hv] at cV HT
    cases hf : fitV ps lots.length
    · rw [hf] at cF HT
      go_enter Try.func52, Try.ntmps52
      go_wp2_with (first | (go_at_call 84; refine cV.out.mono ?_; rintro e w1 ⟨rfl, m1, rfl⟩) | (go_at_call 85; refine (cF.out _).mono ?_; rintro e w1 ⟨rfl, hb1⟩))
      go_ret
      exact ⟨ret_bool (by rw [HT.out]; rfl), (below_drewN (Below.refl w.heap.size w) m1).trans hb1⟩
    · have hF := fitOk_of hf
      rw [hf] at cF HT
      have cT := Lib.hid (fun w (h : PilesI w A ps) => l3Total_any A ps c w h hF.len (Lib.hid hF.many))
      generalize totM ps = T at *
      obtain ⟨mn, hmn, hcase⟩ : ∃ mn, min 2 (lots.length : Int) = mn ∧ (((2 : Int) ≤ (lots.length : Int) ∧ mn = 2) ∨ ((lots.length : Int) ≤ 1 ∧ mn = lots.length)) := by
        by_cases h2l : (2 : Int) ≤ (lots.length : Int)
        · exact ⟨_, rfl, .inl ⟨h2l, by omega⟩⟩
        · exact ⟨_, rfl, .inr ⟨by omega, by omega⟩⟩
      rw [hmn] at HT
      clear hmn
      rcases hcase with ⟨h2l, rfl⟩ | ⟨h2l, rfl⟩
      · cases hi : inB s 1 2
        · rw [hi] at HT
          go_enter Try.func52, Try.ntmps52
          go_wp2_with (first | (go_at_call 84; refine cV.out.mono ?_; rintro e w1 ⟨rfl, m1, rfl⟩) | (go_at_call 85; refine (cF.out _).mono ?_; rintro e w1 ⟨rfl, hb1⟩) | (go_at_call 86; refine (l6In_any _ _ _ _).mono ?_; rintro e w2 ⟨rfl, rfl⟩))
          go_ret
          exact ⟨ret_bool (by rw [HT.out]; rfl), (below_drewN (Below.refl w.heap.size w) m1).trans hb1⟩
        · rw [hi] at HT
          go_enter Try.func52, Try.ntmps52
          go_wp2_with (first | (go_at_call 84; refine cV.out.mono ?_; rintro e w1 ⟨rfl, m1, rfl⟩) | (go_at_call 85; refine (cF.out _).mono ?_; rintro e w1 ⟨rfl, hb1⟩; have hb0 := (below_drewN (Below.refl w.heap.size w) m1).trans hb1) | (go_at_call 86; refine (l6In_any _ _ _ _).mono ?_; rintro e w2 ⟨rfl, rfl⟩) | (go_at_call 75; refine (cT.out _ (h.below hb0)).mono ?_; rintro e w3 ⟨rfl, rfl⟩))
          go_ret
          exact ⟨ret_bool (by rw [HT.out]; rfl), hb0⟩
      · cases hi : inB s 1 (lots.length : Int)
        · rw [hi] at HT
          go_enter Try.func52, Try.ntmps52
          go_wp2_with (first | (go_at_call 84; refine cV.out.mono ?_; rintro e w1 ⟨rfl, m1, rfl⟩) | (go_at_call 85; refine (cF.out _).mono ?_; rintro e w1 ⟨rfl, hb1⟩) | (go_at_call 86; refine (l6In_any _ _ _ _).mono ?_; rintro e w2 ⟨rfl, rfl⟩))
          go_ret
          exact ⟨ret_bool (by rw [HT.out]; rfl), (below_drewN (Below.refl w.heap.size w) m1).trans hb1⟩
        · rw [hi] at HT
          go_enter Try.func52, Try.ntmps52
          go_wp2_with (first | (go_at_call 84; refine cV.out.mono ?_; rintro e w1 ⟨rfl, m1, rfl⟩) | (go_at_call 85; refine (cF.out _).mono ?_; rintro e w1 ⟨rfl, hb1⟩; have hb0 := (below_drewN (Below.refl w.heap.size w) m1).trans hb1) | (go_at_call 86; refine (l6In_any _ _ _ _).mono ?_; rintro e w2 ⟨rfl, rfl⟩) | (go_at_call 75; refine (cT.out _ (h.below hb0)).mono ?_; rintro e w3 ⟨rfl, rfl⟩))
          go_ret
          exact ⟨ret_bool (by rw [HT.out]; rfl), hb0⟩
set_option maxRecDepth 100000 in
set_option maxHeartbeats 1600000 in
theorem specTransferSteps_any (A A2 : Option Addr) (ps : List (ByteArray × Int)) (lots : List Int) (c c2 : Nat) (s : Int) (w : World) (h : PilesI w A ps) (h2 : Ints w A2 lots) (hl : ps.length ≤ 1048576) (hl2 : lots.length ≤ 1048576) (hcap : lots.length ≤ c2) :
    Calls Try.prog 20 #[.slice A ps.length c, .slice A2 lots.length c2, .int .i64 s] w (NewSB w (trF ps lots s)) := by
  have cV := Lib.hid (l15Ok_any A A2 ps lots c c2 s w h h2 hl hl2 hcap)
  cases hv : trOk ps lots s
  · rw [hv] at cV
    have hq := Lib.hid (tr_f hv)
    go_enter Try.func20, Try.ntmps20
    go_wp2_with (go_at_call 52; refine cV.out.mono ?_; rintro e w1 ⟨rfl, hb1⟩)
    go_ret2
    exact newSB_of ((own_emptyS w1 (bi := w.heap.size) (Nat.le_refl _)).mono hb1.size (Nat.le_refl _)) (by rw [hq.out]; rfl) (hb1.alloc hb1.size _)
  · rw [hv] at cV
    have hq := Lib.hid (tr_t hv)
    obtain ⟨h1, hf, ⟨hs1, hs2, hs3⟩, ht⟩ := trOk_iff.1 hv
    obtain ⟨n, rfl⟩ := Int.eq_ofNat_of_zero_le (show 0 ≤ s by omega)
    rw [Int.toNat_natCast] at hq
    have cS := Lib.hid (fun w (h : PilesI w A ps) (h2 : Ints w A2 lots) => l15Steps_any A A2 ps lots c c2 n w h h2 (Lib.hid (fitOk_of hf)) (Lib.hid h1) (by omega) (by omega) (by omega) (Lib.hid ht))
    clear hv h1 hf ht
    go_enter Try.func20, Try.ntmps20
    go_wp2_with (first | (go_at_call 52; refine cV.out.mono ?_; rintro e w1 ⟨rfl, hb1⟩) | (go_at_call 53; refine (cS.out w1 (h.below hb1) (h2.below hb1)).mono ?_; rintro e w2 ⟨A3, c3, vs, rfl, ho, hm, hb2⟩))
    go_ret2
    exact ⟨A3, c3, vs, by rw [hq.out]; rfl, by rw [hq.out]; exact ho.mono hb1.size hb1.size, by rw [hq.out]; exact hm, below_down hb1 hb2⟩
end Go.Proofs.Ytiinfbjlkbjmmaa
