/-
  Piles as values: the ballot of a text, valid piles, piles that fit a number of candidates.
-/
import Derived.Test.YthngafmnkihkgaaGreat
import Derived.Test.YthngafmnkihkgaaPileP
namespace Go.Proofs.Ythngafmnkihkgaa
open Go.RowKit
/-- The numbers of a text's letters. -/
def bal (s : ByteArray) : List Int := s.data.toList.map fun b => (b.toNat : Int) - 97
theorem bal_len (s : ByteArray) : (bal s).length = s.size := by simp [bal]
theorem bal_at {s : ByteArray} {k : Nat} (h : k < s.size) : (bal s)[k]? = some ((s[k].toNat : Int) - 97) := by
  unfold bal
  rw [List.getElem?_map, List.getElem?_eq_getElem (by simpa using h)]
  rfl
/-- The text is that of a ballot. -/
def bt (s : ByteArray) : Bool := bv (bal s) 5
def balP (s : ByteArray) : List Int := if bt s then bal s else []
def parseF (s : ByteArray) : List Int × Bool := if bt s then (bal s, true) else ([], false)
theorem parse_t {s : ByteArray} (h : bt s = true) : parseF s = (bal s, true) := by simp [parseF, h]
theorem parse_f {s : ByteArray} (h : bt s = false) : parseF s = ([], false) := by simp [parseF, h]
theorem balP_t {s : ByteArray} (h : bt s = true) : balP s = bal s := by simp [balP, h]
theorem balP_f {s : ByteArray} (h : bt s = false) : balP s = [] := by simp [balP, h]
theorem parse_1 (s : ByteArray) : (parseF s).1 = balP s := by cases h : bt s <;> simp [parseF, balP, h]
theorem parse_2 (s : ByteArray) : (parseF s).2 = bt s := by cases h : bt s <;> simp [parseF, h]
theorem bv_len {xs : List Int} {n : Int} (h : bv xs n = true) : (xs.length : Int) ≤ n ∧ n ≤ 5 := by
  simp only [bv, Bool.and_eq_true, inB_iff] at h
  obtain ⟨⟨h1, h5⟩, hp⟩ := h
  obtain ⟨hr, hd⟩ := bp_iff.1 hp
  obtain ⟨m, rfl⟩ := Int.eq_ofNat_of_zero_le (show 0 ≤ n by omega)
  have := nodup_len m xs hd (fun l hl => by have := hr l hl; omega)
  omega
theorem bt_size {s : ByteArray} (h : bt s = true) : s.size ≤ 5 := by
  have := bv_len h
  rw [bal_len] at this
  omega
theorem bt_big {s : ByteArray} (h : 5 < s.size) : bt s = false := by
  cases hb : bt s
  · rfl
  · have := bt_size hb; omega
theorem balP_len (s : ByteArray) : (balP s).length ≤ 5 := by
  cases h : bt s
  · rw [balP_f h]; simp
  · rw [balP_t h, bal_len]; exact bt_size h
theorem balP_bv (s : ByteArray) : bv (balP s) 5 = true := by
  cases h : bt s
  · rw [balP_f h]; rfl
  · rw [balP_t h]; exact h
/-- A pile is valid. -/
def pv (p : ByteArray × Int) : Bool := bt p.1 && inB p.2 1 99
/-- A text comes before another one. -/
def lts (s t : ByteArray) : Bool := Op.bytesLess s.toList t.toList
theorem bytes_total (a b : List UInt8) : (Op.bytesLess a b || a == b) = !(Op.bytesLess b a) := by
  induction a generalizing b with
  | nil => cases b <;> simp [Op.bytesLess]
  | cons x s ih =>
    cases b with
    | nil => simp [Op.bytesLess]
    | cons y t =>
      have h := ih t
      simp only [Op.bytesLess]
      rcases Nat.lt_trichotomy x.toNat y.toNat with hl | he | hg
      · have h1 : x < y := UInt8.lt_iff_toNat_lt.2 hl
        have h2 : ¬ y < x := fun hh => by have := UInt8.lt_iff_toNat_lt.1 hh; omega
        have h3 : (y == x) = false := by simp; rintro rfl; omega
        simp [h1, h2, h3]
      · have e : x = y := UInt8.toNat_inj.1 he
        subst e
        have h2 : ¬ x < x := fun hh => by have := UInt8.lt_iff_toNat_lt.1 hh; omega
        simp [h2]
        simpa using h
      · have h1 : y < x := UInt8.lt_iff_toNat_lt.2 hg
        have h2 : ¬ x < y := fun hh => by have := UInt8.lt_iff_toNat_lt.1 hh; omega
        have h3 : (x == y) = false := by simp; rintro rfl; omega
        simp [h1, h2, h3]
theorem les_not (s t : ByteArray) : (Op.bytesLess s.toList t.toList || s.toList == t.toList) = !(lts t s) := bytes_total _ _
/-- The pile at k is valid, and its text comes behind that of the one ahead. -/
def pAt (ps : List (ByteArray × Int)) (k : Nat) : Bool :=
  match ps[k]? with
  | none => true
  | some p => pv p && (k == 0 || match ps[k - 1]? with | none => true | some q => lts q.1 p.1)
def pUp (ps : List (ByteArray × Int)) (k : Nat) : Bool := (List.range k).all (pAt ps)
def psv (ps : List (ByteArray × Int)) : Bool := pUp ps ps.length && decide (ps.length ≤ 12)
theorem pUp_zero (ps : List (ByteArray × Int)) : pUp ps 0 = true := rfl
theorem pUp_succ (ps : List (ByteArray × Int)) (k : Nat) : pUp ps (k + 1) = (pUp ps k && pAt ps k) := by simp [pUp, List.range_succ]
theorem pUp_mono {ps : List (ByteArray × Int)} {k m : Nat} (h : pUp ps m = true) (hk : k ≤ m) : pUp ps k = true := by
  simp only [pUp, List.all_eq_true, List.mem_range] at h ⊢
  exact fun i hi => h i (by omega)
theorem psv_bad {ps : List (ByteArray × Int)} {k : Nat} (hk : k < ps.length) (h : pAt ps k = false) : psv ps = false := by
  cases hp : pUp ps ps.length
  · simp [psv, hp]
  · have := pUp_mono (k := k + 1) hp (by omega)
    rw [pUp_succ, h] at this
    simp at this
theorem pAt_at {ps : List (ByteArray × Int)} {k : Nat} {p : ByteArray × Int} (h : ps[k]? = some p) (hp : pAt ps k = true) : pv p = true := by
  unfold pAt at hp
  rw [h] at hp
  simp only [Bool.and_eq_true] at hp
  exact hp.1
theorem psv_mem {ps : List (ByteArray × Int)} (h : psv ps = true) {p : ByteArray × Int} (hp : p ∈ ps) : pv p = true := by
  simp only [psv, Bool.and_eq_true] at h
  obtain ⟨k, hk⟩ := List.getElem?_of_mem hp
  have hkl := (List.getElem?_eq_some_iff.1 hk).1
  have := pUp_mono (k := k + 1) h.1 (by omega)
  rw [pUp_succ] at this
  simp only [Bool.and_eq_true] at this
  exact pAt_at hk this.2
theorem psv_len {ps : List (ByteArray × Int)} (h : psv ps = true) : ps.length ≤ 12 := by
  simp only [psv, Bool.and_eq_true, decide_eq_true_eq] at h
  exact h.2
theorem pv_iff {p : ByteArray × Int} : pv p = true ↔ bt p.1 = true ∧ 1 ≤ p.2 ∧ p.2 ≤ 99 := by
  simp [pv, inB_iff]
theorem pAt_no {ps : List (ByteArray × Int)} {k : Nat} {p : ByteArray × Int} (h : ps[k]? = some p) (hp : pv p = false) : pAt ps k = false := by
  unfold pAt; rw [h]; simp [hp]
theorem pAt_zero {ps : List (ByteArray × Int)} {p : ByteArray × Int} (h : ps[0]? = some p) : pAt ps 0 = pv p := by
  unfold pAt; rw [h]; simp
theorem pAt_succ {ps : List (ByteArray × Int)} {k : Nat} {p q : ByteArray × Int} (h : ps[k + 1]? = some p) (hq : ps[k]? = some q) : pAt ps (k + 1) = (pv p && lts q.1 p.1) := by
  unfold pAt; rw [h]; simp [hq]
/-- Piles are valid, and fit n candidates. -/
def fitV (ps : List (ByteArray × Int)) (n : Int) : Bool := psv ps && inB n 1 5 && ps.all fun p => bp n (bal p.1)
theorem fitV_iff {ps : List (ByteArray × Int)} {n : Int} : fitV ps n = true ↔ psv ps = true ∧ (1 ≤ n ∧ n ≤ 5) ∧ ∀ p ∈ ps, bp n (bal p.1) = true := by
  simp only [fitV, Bool.and_eq_true, inB_iff, List.all_eq_true, and_assoc]
theorem fitV_bad {ps : List (ByteArray × Int)} {n : Int} {p : ByteArray × Int} (hp : p ∈ ps) (h : bv (balP p.1) n = false) : fitV ps n = false := by
  cases hf : fitV ps n
  · rfl
  · obtain ⟨h1, h2, h3⟩ := fitV_iff.1 hf
    have hb := (pv_iff.1 (psv_mem h1 hp)).1
    rw [balP_t hb] at h
    have : inB n 1 5 = true := inB_t h2
    simp [bv, this, h3 p hp] at h
/-- What the loops over piles come to. -/
theorem fitV_all {ps : List (ByteArray × Int)} {n : Int} (h : ∀ p ∈ ps, bv (balP p.1) n = true) : fitV ps n = (psv ps && inB n 1 5) := by
  cases hv : psv ps
  · simp [fitV, hv]
  · cases hn : inB n 1 5
    · simp [fitV, hn]
    · have : (ps.all fun p => bp n (bal p.1)) = true := by
        rw [List.all_eq_true]
        intro p hp
        have h1 := h p hp
        rw [balP_t (pv_iff.1 (psv_mem hv hp)).1] at h1
        simp only [bv, Bool.and_eq_true] at h1
        exact h1.2
      simp [fitV, hv, hn, this]
theorem fitV_no {ps : List (ByteArray × Int)} {n : Int} (h : (psv ps && inB n 1 5) = false) : fitV ps n = false := by simp [fitV, h]
/-- The piles' ballots and how many. -/
def pl (ps : List (ByteArray × Int)) : List Pl := ps.map fun p => ⟨bal p.1, p.2⟩
/-- What is known of piles that fit. -/
structure FitOk (ps : List (ByteArray × Int)) (n : Nat) : Prop where
  n1 : 1 ≤ n
  n5 : n ≤ 5
  len : ps.length ≤ 12
  bts : ∀ p ∈ ps, bt p.1 = true
  many : ∀ p ∈ ps, 1 ≤ p.2 ∧ p.2 ≤ 99
  rng : ∀ p ∈ ps, ∀ c ∈ bal p.1, 0 ≤ c ∧ c < n
  nod : ∀ p ∈ ps, (bal p.1).Nodup
theorem fitOk_of {ps : List (ByteArray × Int)} {n : Nat} (h : fitV ps n = true) : FitOk ps n := by
  obtain ⟨h1, h2, h3⟩ := fitV_iff.1 h
  exact ⟨by omega, by omega, psv_len h1, fun p hp => (pv_iff.1 (psv_mem h1 hp)).1, fun p hp => (pv_iff.1 (psv_mem h1 hp)).2,
    fun p hp c hc => by have := (bp_iff.1 (h3 p hp)).1 c hc; omega, fun p hp => (bp_iff.1 (h3 p hp)).2⟩
end Go.Proofs.Ythngafmnkihkgaa
