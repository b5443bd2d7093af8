/-
  Piles after two candidates were exchanged, plain: texts, sorted anew; the law.
-/
import Derived.Test.YtiinfbjlkbjmmaaQTuP
import Derived.Sort.KeysCollected
namespace Go.Proofs.Ytiinfbjlkbjmmaa
open Go.RowKit
/-- The text of a ballot. -/
def unbal (b : List Int) : ByteArray := ⟨(b.map fun c => UInt8.ofNat (c.toNat + 97)).toArray⟩
set_option maxRecDepth 100000 in
theorem bal_unbal {b : List Int} (h : ∀ c ∈ b, 0 ≤ c ∧ c < 5) : bal (unbal b) = b := by
  unfold bal unbal
  rw [List.map_map]
  conv => rhs; rw [← List.map_id b]
  refine List.map_congr_left fun c hc => ?_
  have h1 := h c hc
  obtain ⟨n, rfl⟩ := Int.eq_ofNat_of_zero_le h1.1
  simp only [Function.comp_apply, id_eq, Int.toNat_natCast, UInt8.toNat_ofNat']
  omega
set_option maxRecDepth 100000 in
theorem unbal_size (b : List Int) : (unbal b).size = b.length := by
  show (b.map _).toArray.size = _
  simp
set_option maxRecDepth 100000 in
theorem bal_inj {s t : ByteArray} (h : bal s = bal t) : s = t := by
  unfold bal at h
  have h1 : s.data.toList = t.data.toList := (List.map_inj_right (fun a b e => by
    have : a.toNat = b.toNat := by omega
    exact UInt8.toNat_inj.1 this)).1 h
  have h2 : s.data = t.data := Array.toList_inj.1 h1
  cases s
  cases t
  simp only at h2
  rw [h2]
set_option maxRecDepth 100000 in
theorem bv_iff {xs : List Int} {n : Int} : bv xs n = true ↔ (1 ≤ n ∧ n ≤ 5) ∧ (∀ x ∈ xs, 0 ≤ x ∧ x < n) ∧ xs.Nodup := by
  unfold bv
  rw [Bool.and_eq_true, inB_iff, bp_iff]
  constructor
  · rintro ⟨h1, h2, h3⟩
    exact ⟨h1, fun x hx => by have := h2 x hx; omega, h3⟩
  · rintro ⟨h1, h2, h3⟩
    exact ⟨h1, fun x hx => by have := h2 x hx; omega, h3⟩
set_option maxRecDepth 100000 in
theorem nodup_sw {x y : Nat} {b : List Int} (h : b.Nodup) : (b.map (sw x y)).Nodup := List.pairwise_map.2 (h.imp fun hne e => hne (sw_inj.1 e))
set_option maxRecDepth 100000 in
theorem bv_sw {x y : Nat} {b : List Int} {n : Int} (hx : (x : Int) < n) (hy : (y : Int) < n) (h : bv b n = true) : bv (b.map (sw x y)) n = true := by
  obtain ⟨h1, h2, h3⟩ := bv_iff.1 h
  refine bv_iff.2 ⟨h1, fun c hc => ?_, nodup_sw h3⟩
  obtain ⟨d, hd, rfl⟩ := List.mem_map.1 hc
  have := h2 d hd
  refine ⟨sw_nonneg.2 this.1, ?_⟩
  unfold sw
  (repeat' split) <;> omega
/-- A pile after two candidates were exchanged. -/
def tuT (x y : Nat) (p : ByteArray × Int) : ByteArray × Int := (unbal ((bal p.1).map (sw x y)), p.2)
set_option maxRecDepth 100000 in
theorem tuT_bal {x y : Nat} {p : ByteArray × Int} (hx : x < 5) (hy : y < 5) (h : bt p.1 = true) : bal (tuT x y p).1 = (bal p.1).map (sw x y) :=
  bal_unbal (bv_iff.1 (bv_sw (n := 5) (by omega) (by omega) h)).2.1
set_option maxRecDepth 100000 in
theorem tuT_pv {x y : Nat} {p : ByteArray × Int} (hx : x < 5) (hy : y < 5) (h : pv p = true) : pv (tuT x y p) = true := by
  obtain ⟨h1, h2⟩ := pv_iff.1 h
  refine pv_iff.2 ⟨?_, h2⟩
  show bv (bal (tuT x y p).1) 5 = true
  rw [tuT_bal hx hy h1]
  exact bv_sw (by omega) (by omega) h1
set_option maxRecDepth 100000 in
theorem tuT_inj {x y : Nat} {p q : ByteArray × Int} (hx : x < 5) (hy : y < 5) (hp : bt p.1 = true) (hq : bt q.1 = true) (h : (tuT x y p).1 = (tuT x y q).1) : p.1 = q.1 := by
  have e : bal (tuT x y p).1 = bal (tuT x y q).1 := by rw [h]
  rw [tuT_bal hx hy hp, tuT_bal hx hy hq] at e
  exact bal_inj ((List.map_inj_right (fun a b e => sw_inj.1 e)).1 e)
/-- The bytes of a pile's text. -/
def keyP (p : ByteArray × Int) : List UInt8 := p.1.data.toList
set_option maxRecDepth 100000 in
theorem keyP_inj {p q : ByteArray × Int} (h : keyP p = keyP q) : p.1 = q.1 := by
  have h2 : p.1.data = q.1.data := Array.toList_inj.1 h
  cases hp : p.1
  cases hq : q.1
  rw [hp, hq] at h2
  simp only at h2
  rw [h2]
set_option maxRecDepth 100000 in
theorem bytesLess_lt : ∀ (x y : List UInt8), Op.bytesLess x y = decide (x < y)
  | [], [] => by simp [Op.bytesLess]
  | _ :: _, [] => by simp [Op.bytesLess]
  | [], _ :: _ => by simp [Op.bytesLess]
  | a :: x, b :: y => by
    rw [Op.bytesLess, bytesLess_lt x y]
    simp only [List.cons_lt_cons_iff]
    by_cases h1 : a < b <;> by_cases h2 : a = b <;> by_cases h3 : x < y <;> simp [h1, h2, h3]
set_option maxRecDepth 100000 in
theorem lts_iff {p q : ByteArray × Int} : lts p.1 q.1 = true ↔ keyP p < keyP q := by
  unfold lts keyP
  rw [bytesLess_lt, ByteArray.toList_eq, ByteArray.toList_eq, decide_eq_true_eq]
set_option maxRecDepth 100000 in
theorem up_lt {ps : List (ByteArray × Int)} (h : pUp ps ps.length = true) (j : Nat) : ∀ (i : Nat) (p q : ByteArray × Int), i < j → ps[i]? = some p → ps[j]? = some q → keyP p < keyP q := by
  induction j with
  | zero => intro i p q hij; omega
  | succ j ih =>
    intro i p q hij hp hq
    have hjl := (List.getElem?_eq_some_iff.1 hq).1
    have h1 := pUp_mono (k := j + 1 + 1) h (by omega)
    rw [pUp_succ, Bool.and_eq_true] at h1
    obtain ⟨r, hr⟩ : ∃ r, ps[j]? = some r := ⟨_, List.getElem?_eq_getElem (by omega)⟩
    have h2 := h1.2
    rw [pAt_succ hq hr, Bool.and_eq_true] at h2
    have h3 := lts_iff.1 h2.2
    rcases Nat.lt_or_ge i j with hi | hi
    · exact List.lt_trans (ih i p r hi hp hr) h3
    · obtain rfl : i = j := by omega
      rw [hp] at hr
      injection hr with hr
      subst hr
      exact h3
set_option maxRecDepth 100000 in
theorem psv_nodup {ps : List (ByteArray × Int)} (h : psv ps = true) : (ps.map keyP).Nodup := by
  simp only [psv, Bool.and_eq_true] at h
  rw [List.Nodup, List.pairwise_map, List.pairwise_iff_getElem]
  intro i j hi hj hij e
  have := up_lt h.1 j i ps[i] ps[j] hij (List.getElem?_eq_getElem hi) (List.getElem?_eq_getElem hj)
  rw [e] at this
  exact List.lt_irrefl _ this
set_option maxRecDepth 100000 in
theorem psv_of {ps : List (ByteArray × Int)} (h1 : ∀ p ∈ ps, pv p = true) (h2 : ps.Pairwise (fun p q => keyP p < keyP q)) (h3 : ps.length ≤ 12) : psv ps = true := by
  simp only [psv, Bool.and_eq_true, decide_eq_true_eq]
  refine ⟨?_, h3⟩
  simp only [pUp, List.all_eq_true, List.mem_range]
  intro k hk
  have hp := List.getElem?_eq_getElem hk
  cases k with
  | zero => rw [pAt_zero hp]; exact h1 _ (List.getElem_mem hk)
  | succ k =>
    have hq := List.getElem?_eq_getElem (show k < ps.length by omega)
    rw [pAt_succ hp hq, Bool.and_eq_true]
    exact ⟨h1 _ (List.getElem_mem hk), lts_iff.2 (List.pairwise_iff_getElem.1 h2 k (k + 1) (by omega) hk (by omega))⟩
set_option maxRecDepth 100000 in
theorem turned_nodup {ps : List (ByteArray × Int)} {x y : Nat} (hx : x < 5) (hy : y < 5) (h : psv ps = true) : ((ps.map (tuT x y)).map keyP).Nodup := by
  have h1 := psv_nodup h
  rw [List.Nodup, List.pairwise_map] at h1
  rw [List.Nodup, List.pairwise_map, List.pairwise_map]
  refine h1.imp_of_mem fun {p q} hp hq hne e => hne ?_
  have := tuT_inj hx hy (pv_iff.1 (psv_mem h hp)).1 (pv_iff.1 (psv_mem h hq)).1 (keyP_inj e)
  unfold keyP
  rw [this]
/-- How many ballots have a text. -/
def lookP (qs : List (ByteArray × Int)) (t : List UInt8) : Int := match qs.find? (fun p => keyP p == t) with | some p => p.2 | none => 0
set_option maxRecDepth 100000 in
theorem lookP_mem {qs : List (ByteArray × Int)} (hd : (qs.map keyP).Nodup) {p : ByteArray × Int} (hp : p ∈ qs) : lookP qs (keyP p) = p.2 := by
  induction qs with
  | nil => cases hp
  | cons a t ih =>
    rw [List.map_cons, List.nodup_cons] at hd
    unfold lookP
    rw [List.find?_cons]
    rcases List.mem_cons.1 hp with rfl | hp
    · simp
    · have hne : (keyP a == keyP p) = false := by
        rw [beq_eq_false_iff_ne]
        intro e
        exact hd.1 (List.mem_map.2 ⟨p, hp, e.symm⟩)
      rw [hne]
      exact ih hd.2 hp
/-- The texts in their order. -/
def keysP (qs : List (ByteArray × Int)) : List (List UInt8) := (qs.map keyP).mergeSort leB
def ofKey (qs : List (ByteArray × Int)) (t : List UInt8) : ByteArray × Int := (⟨t.toArray⟩, lookP qs t)
def sortP (qs : List (ByteArray × Int)) : List (ByteArray × Int) := (keysP qs).map (ofKey qs)
set_option maxRecDepth 100000 in
theorem ofKey_key {qs : List (ByteArray × Int)} (hd : (qs.map keyP).Nodup) {p : ByteArray × Int} (hp : p ∈ qs) : ofKey qs (keyP p) = p := by
  unfold ofKey
  rw [lookP_mem hd hp]
  rfl
set_option maxRecDepth 100000 in
theorem keyP_ofKey (qs : List (ByteArray × Int)) (t : List UInt8) : keyP (ofKey qs t) = t := rfl
set_option maxRecDepth 100000 in
theorem keysP_perm (qs : List (ByteArray × Int)) : (keysP qs).Perm (qs.map keyP) := List.mergeSort_perm _ _
set_option maxRecDepth 100000 in
theorem sortP_perm {qs : List (ByteArray × Int)} (hd : (qs.map keyP).Nodup) : (sortP qs).Perm qs := by
  unfold sortP
  refine ((keysP_perm qs).map _).trans ?_
  rw [List.map_map]
  refine List.Perm.of_eq ?_
  conv => rhs; rw [← List.map_id qs]
  exact List.map_congr_left fun p hp => ofKey_key hd hp
set_option maxRecDepth 100000 in
theorem sortP_len {qs : List (ByteArray × Int)} : (sortP qs).length = qs.length := by
  unfold sortP
  rw [List.length_map, (keysP_perm qs).length_eq, List.length_map]
set_option maxRecDepth 100000 in
theorem sortP_psv {qs : List (ByteArray × Int)} (hd : (qs.map keyP).Nodup) (h1 : ∀ p ∈ qs, pv p = true) (h3 : qs.length ≤ 12) : psv (sortP qs) = true := by
  refine psv_of (fun p hp => h1 p ((sortP_perm hd).mem_iff.1 hp)) ?_ (by rw [sortP_len]; exact h3)
  unfold sortP
  rw [List.pairwise_map]
  have tr : ∀ a b c : List UInt8, leB a b = true → leB b c = true → leB a c = true := fun a b c h1 h2 => by simp only [leB, decide_eq_true_eq] at *; exact List.le_trans h1 h2
  have tl : ∀ a b : List UInt8, (leB a b || leB b a) = true := fun a b => by simp only [leB, Bool.or_eq_true, decide_eq_true_eq]; exact List.le_total a b
  have hs : (keysP qs).Pairwise (fun a b => leB a b = true) := List.pairwise_mergeSort tr tl _
  have hn : (keysP qs).Nodup := (keysP_perm qs).nodup_iff.2 hd
  refine (hs.and hn).imp fun {a b} hab => ?_
  obtain ⟨h4, h5⟩ := hab
  simp only [leB, decide_eq_true_eq] at h4
  rw [keyP_ofKey, keyP_ofKey]
  by_cases h6 : a < b
  · exact h6
  · exact absurd (List.le_antisymm h4 (List.not_lt.1 h6)) h5
set_option maxRecDepth 100000 in
theorem totM_perm {ps qs : List (ByteArray × Int)} (h : ps.Perm qs) : totM ps = totM qs := by
  unfold totM
  have h2 := h.map Prod.snd
  generalize ps.map Prod.snd = a at *
  generalize qs.map Prod.snd = b at *
  clear h
  induction h2 with
  | nil => rfl
  | cons x _ ih => simp [ih]
  | swap x y l => simp only [List.sum_cons]; omega
  | trans _ _ i1 i2 => exact i1.trans i2
set_option maxRecDepth 100000 in
theorem pl_turn {ps : List (ByteArray × Int)} {x y : Nat} (hx : x < 5) (hy : y < 5) (h : ∀ p ∈ ps, bt p.1 = true) : pl (ps.map (tuT x y)) = (pl ps).map (tuP x y) := by
  unfold pl
  rw [List.map_map, List.map_map]
  refine List.map_congr_left fun p hp => ?_
  simp only [Function.comp_apply, tuP, tuT_bal hx hy (h p hp)]
  rfl
set_option maxRecDepth 100000 in
/-- The law: who wins is exchanged as well. -/
theorem turn_law {ps ps2 : List (ByteArray × Int)} {lots : List Int} {s : Int} {x y : Nat} (hok : trOk ps lots s = true) (hx : x < lots.length) (hy : y < lots.length) (hv2 : psv ps2 = true) (hp : ps2.Perm (ps.map (tuT x y))) :
    winT (trF ps2 (lots.map (sw x y)) s).1 = (winT (trF ps lots s).1).map (sw x y) := by
  obtain ⟨hv, hf, ⟨hs1, hs2, hs3⟩, hT⟩ := trOk_iff.1 hok
  have hF := fitOk_of hf
  have hn5 := hF.n5
  have hx5 : x < 5 := by omega
  have hy5 : y < 5 := by omega
  obtain ⟨hb1, hb2, hb3⟩ := bv_iff.1 (show bv lots lots.length = true from hv)
  have hr : ∀ c ∈ lots, 0 ≤ c := fun c hc => (hb2 c hc).1
  have hT2 : totM ps2 = totM ps := by
    rw [totM_perm hp]
    unfold totM
    rw [List.map_map]
    rfl
  have hok2 : trOk ps2 (lots.map (sw x y)) s = true := by
    refine trOk_iff.2 ⟨?_, ?_, by rw [List.length_map]; exact ⟨hs1, hs2, hs3⟩, by rw [hT2]; exact hT⟩
    · show bv (lots.map (sw x y)) ((lots.map (sw x y)).length : Int) = true
      rw [List.length_map]
      exact bv_sw (by omega) (by omega) hv
    · rw [List.length_map]
      obtain ⟨_, h2, h3⟩ := fitV_iff.1 hf
      refine fitV_iff.2 ⟨hv2, h2, fun p hpm => ?_⟩
      obtain ⟨q, hq, rfl⟩ := List.mem_map.1 (hp.mem_iff.1 hpm)
      rw [tuT_bal hx5 hy5 (hF.bts q hq)]
      have h4 : bv (bal q.1) lots.length = true := by
        unfold bv
        rw [Bool.and_eq_true]
        exact ⟨inB_t h2, h3 q hq⟩
      have h5 := bv_sw (x := x) (y := y) (by omega) (by omega) h4
      unfold bv at h5
      rw [Bool.and_eq_true] at h5
      exact h5.2
  rw [tr_t hok, tr_t hok2]
  unfold startT
  rw [hT2, List.length_map]
  refine winT_sw ?_
  have hth : thereL (List.replicate lots.length false) = (lots.length : Int) := thereL_rep lots.length
  refine stepsT_sw hv hr hx hy (by unfold quoT; exact Nat.le_add_left _ _) (fun p hpm c hc => ?_) lots.length _ _ _ _ _ (List.length_replicate ..) (SwL.rep hx hy _) (by rw [hth]; omega) rfl ?_ (fun w hw => by rw [(List.mem_replicate.1 hw).2]; exact Nat.one_pos)
  · unfold pl at hpm
    obtain ⟨q, hq, rfl⟩ := List.mem_map.1 hpm
    exact (hF.rng q hq c hc).1
  · have zr : ∀ (l : List Pl), l.zip (List.replicate l.length ((1, 1) : Fr)) = l.map fun p => (p, (1, 1)) := by
      intro l
      induction l with
      | nil => rfl
      | cons a t ih => rw [List.length_cons, List.replicate_succ, List.zip_cons_cons, ih]; rfl
    have e1 := zr (pl ps2)
    have e2 := zr (pl ps)
    rw [pl_length] at e1 e2
    rw [e1, e2, List.map_map]
    have h6 : (pl ps2).Perm ((pl ps).map (tuP x y)) := by
      rw [← pl_turn hx5 hy5 hF.bts]
      exact hp.map _
    refine (h6.map _).trans ?_
    rw [List.map_map]
    exact List.Perm.of_eq rfl
end Go.Proofs.Ytiinfbjlkbjmmaa
