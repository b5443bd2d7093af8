/-
  The greatest count, ties by lots: the program's loop and the reference's three functions.
-/
import Derived.Test.YthngafmnkihkgaaNext
namespace Go.Proofs.Ythngafmnkihkgaa
open Go.RowKit
def stepG (cs : List Int) (b c : Int) : Int := if atI cs b < atI cs c then c else b
def greatP (cs ls : List Int) : Int := ls.foldl (stepG cs) (ls.headD 0)
theorem stepG_t {cs : List Int} {b p : Nat} {x y : Int} (hx : cs[p]? = some x) (hy : cs[b]? = some y) (h : y < x) : stepG cs b p = p := by unfold stepG; rw [atI_at hx, atI_at hy, if_pos h]
theorem stepG_f {cs : List Int} {b p : Nat} {x y : Int} (hx : cs[p]? = some x) (hy : cs[b]? = some y) (h : ¬y < x) : stepG cs b p = b := by unfold stepG; rw [atI_at hx, atI_at hy, if_neg h]
/-- The greatest of some counts, and -1. -/
def bestL (cs : List Int) : Int := cs.foldl max (-1)
/-- The first of the lots whose count is the greatest. -/
def firstP (bs : List Bool) (ls : List Int) : Int := (ls.find? fun l => bs.getD l.toNat false).getD (-1)
def mostB (cs : List Int) : List Bool := cs.map fun c => c == bestL cs
theorem foldG (cs : List Int) (ls : List Int) (a : Int) :
    ∃ l1 b l2, a :: ls = l1 ++ b :: l2 ∧ ls.foldl (stepG cs) a = b ∧ (∀ x ∈ l1, atI cs x < atI cs b) ∧ (∀ x ∈ l2, atI cs x ≤ atI cs b) := by
  induction ls generalizing a with
  | nil => exact ⟨[], a, [], rfl, rfl, by simp, by simp⟩
  | cons c t ih =>
    rw [List.foldl_cons]
    unfold stepG
    split
    · rename_i hlt
      obtain ⟨l1, b, l2, e, hb, h1, h2⟩ := ih c
      refine ⟨a :: l1, b, l2, by rw [List.cons_append, ← e], hb, fun x hx => ?_, h2⟩
      have hc : atI cs c ≤ atI cs b := by
        cases l1 with
        | nil => simp at e; rw [e.1]; omega
        | cons d l1 => simp at e; have := h1 d (by simp); rw [e.1]; omega
      rcases List.mem_cons.1 hx with rfl | hx
      · omega
      · exact h1 x hx
    · rename_i hlt
      obtain ⟨l1, b, l2, e, hb, h1, h2⟩ := ih a
      have hc : atI cs a ≤ atI cs b := by
        cases l1 with
        | nil => simp at e; rw [e.1]; omega
        | cons d l1 => simp at e; have := h1 d (by simp); rw [e.1]; omega
      cases l1 with
      | nil =>
        simp at e
        obtain ⟨rfl, rfl⟩ := e
        refine ⟨[], a, c :: t, rfl, hb, by simp, fun x hx => ?_⟩
        rcases List.mem_cons.1 hx with rfl | hx
        · omega
        · exact h2 x hx
      | cons d l1 =>
        simp at e
        obtain ⟨rfl, rfl⟩ := e
        refine ⟨a :: c :: l1, b, l2, by simp, hb, fun x hx => ?_, h2⟩
        have h3 := h1 a (by simp)
        rcases List.mem_cons.1 hx with rfl | hx
        · exact h3
        · rcases List.mem_cons.1 hx with rfl | hx
          · omega
          · exact h1 x (by simp [hx])
theorem greatP_split (cs : List Int) {ls : List Int} (hn : 0 < ls.length) :
    ∃ l1 b l2, ls = l1 ++ b :: l2 ∧ greatP cs ls = b ∧ (∀ x ∈ l1, atI cs x < atI cs b) ∧ (∀ x ∈ l2, atI cs x ≤ atI cs b) := by
  cases ls with
  | nil => simp at hn
  | cons a t =>
    obtain ⟨l1, b, l2, e, hb, h1, h2⟩ := foldG cs t a
    refine ⟨l1, b, l2, e, ?_, h1, h2⟩
    rw [← hb]
    show (a :: t).foldl (stepG cs) a = _
    rw [List.foldl_cons]
    congr 1
    unfold stepG; split <;> rfl
/-- Lists without a number twice, all in range, are no longer than the range. -/
theorem nodup_len (n : Nat) (ls : List Int) (hd : ls.Nodup) (hr : ∀ l ∈ ls, 0 ≤ l ∧ l < n) : ls.length ≤ n := by
  induction n generalizing ls with
  | zero =>
    cases ls with
    | nil => simp
    | cons a t => have := hr a (by simp); omega
  | succ n ih =>
    have h1 := ih (ls.erase n) (hd.erase _) (fun l hl => by
      have hm := (hd.mem_erase_iff).1 hl
      have := hr l hm.2
      have h3 : l ≠ (n : Int) := hm.1
      omega)
    have h2 := List.length_erase (a := (n : Int)) (l := ls)
    split at h2 <;> omega
theorem lots_all {ls : List Int} (h : lv ls = true) {i : Nat} (hi : i < ls.length) : (i : Int) ∈ ls := by
  obtain ⟨_, hr, hd⟩ := lv_iff.1 h
  by_cases hm : (i : Int) ∈ ls
  · exact hm
  · have := nodup_len ls.length ((i : Int) :: ls) (List.nodup_cons.2 ⟨hm, hd⟩) (fun l hl => by
      rcases List.mem_cons.1 hl with rfl | hl
      · omega
      · have := hr l hl; omega)
    simp only [List.length_cons] at this
    omega
theorem bestL_le (cs : List Int) : ∀ c ∈ cs, c ≤ bestL cs := (le_foldl_max cs (-1)).2
theorem bestL_ge (cs : List Int) : -1 ≤ bestL cs := (le_foldl_max cs (-1)).1
theorem bestL_mem (cs : List Int) (a : Int) : cs.foldl max a = a ∨ cs.foldl max a ∈ cs := by
  induction cs generalizing a with
  | nil => exact .inl rfl
  | cons c t ih =>
    rw [List.foldl_cons]
    rcases ih (max a c) with h | h
    · rw [h]
      by_cases hac : a ≤ c
      · rw [Int.max_eq_right hac]; exact .inr (by simp)
      · rw [Int.max_eq_left (by omega)]; exact .inl rfl
    · exact .inr (by simp [h])
/-- The program's party is the reference's. -/
theorem great_first {cs ls : List Int} (h : lv ls = true) (hl : cs.length = ls.length) (hc : ∀ c ∈ cs, -1 ≤ c) : firstP (mostB cs) ls = greatP cs ls := by
  obtain ⟨hl1, hr, _⟩ := lv_iff.1 h
  obtain ⟨l1, b, l2, e, hb, h1, h2⟩ := greatP_split cs (ls := ls) (by omega)
  rw [hb]
  have hat : ∀ l ∈ ls, ∃ c, cs[l.toNat]? = some c ∧ atI cs l = c ∧ c ∈ cs := fun l hl' => by
    have := hr l hl'
    have hlt : l.toNat < cs.length := by omega
    exact ⟨cs[l.toNat], List.getElem?_eq_getElem hlt, by simp [atI, hlt], List.getElem_mem hlt⟩
  have hbm : b ∈ ls := by rw [e]; simp
  obtain ⟨vb, hvb, hvb2, hvbm⟩ := hat b hbm
  have hmax : ∀ l ∈ ls, atI cs l ≤ atI cs b := fun l hl' => by
    rw [e] at hl'
    rcases List.mem_append.1 hl' with h' | h'
    · have := h1 l h'; omega
    · rcases List.mem_cons.1 h' with rfl | h'
      · exact Int.le_refl _
      · exact h2 l h'
  have hbest : bestL cs = vb := by
    have hle := bestL_le cs vb hvbm
    rcases bestL_mem cs (-1) with h' | h'
    · have := hc vb hvbm
      unfold bestL at *; omega
    · obtain ⟨i, hi, hie⟩ := List.getElem_of_mem h'
      have hm := hmax (i : Int) (lots_all h (by omega))
      have : atI cs (i : Int) = bestL cs := by rw [atI_at (List.getElem?_eq_getElem hi)]; exact hie
      rw [this, hvb2] at hm
      omega
  have hget : ∀ l ∈ ls, (mostB cs).getD l.toNat false = (atI cs l == vb) := fun l hl' => by
    obtain ⟨c, hc1, hc2, _⟩ := hat l hl'
    simp [mostB, hc1, hc2, hbest]
  unfold firstP
  rw [e, List.find?_append]
  have hn : l1.find? (fun l => (mostB cs).getD l.toNat false) = none := by
    rw [List.find?_eq_none]
    intro x hx
    rw [hget x (by rw [e]; simp [hx])]
    have := h1 x hx
    simp; omega
  rw [hn, List.find?_cons, hget b hbm, hvb2]
  simp
set_option maxHeartbeats 1600000 in
theorem greatest_any (A A2 : Option Addr) (cs ls : List Int) (n1 n2 c c2 : Nat) (w : World) (h : Ints w A cs) (h2 : Ints w A2 ls) (hn : 0 < ls.length) (hl3 : ls.length ≤ 1048576) (hr : Hid (∀ l ∈ ls, 0 ≤ l ∧ l < cs.length))
    (e1 : n1 = cs.length) (e2 : n2 = ls.length) :
    Calls Try.prog 62 #[.slice A n1 c, .slice A2 n2 c2] w (Qt w (.int .i64 (greatP cs ls))) := by
  subst e1
  subst e2
  obtain ⟨ad2, l0, rfl, hl0, hc0⟩ := h2.at_ hn
  have hc0' : w.cell? ad2 = some (.int .i64 l0) := by have := hc0; rwa [show ad2.add 0 = ad2 from by unfold Addr.add; simp] at this
  obtain ⟨hlb0, hlb1⟩ := hr.out l0 (mem_of_at hl0.out)
  obtain ⟨b0, rfl⟩ := Int.eq_ofNat_of_zero_le hlb0
  have hb0 : b0 < cs.length := by omega
  have h00 := Lib.hid (headD_at hl0.out)
  clear hlb0 hlb1
  go_enter Try.func62, Try.ntmps62
  go_wp2
  go_loopw [5, 7, 13] (fun b _ i wr => ∃ k q m1 : Nat, k ≤ ls.length ∧ i = .int .i64 k ∧ b = .int .i64 q ∧ q < cs.length ∧ Hid ((ls.take k).foldl (stepG cs) (ls.headD 0) = (q : Int)) ∧ wr = w.drewN m1) (fun _ _ i _ => ls.length - (intOf i).toNat)
  case atStart => exact ⟨0, b0, 0, by omega, rfl, rfl, hb0, h00, rfl⟩
  case round =>
    obtain ⟨k, b, m1, hk, rfl, rfl, hb, hs, rfl⟩ := hrel
    by_cases hlt : k < ls.length
    · obtain ⟨ad3, l, e5, hl, hcl⟩ := h2.at_ hlt
      obtain rfl : ad2 = ad3 := by injection e5
      clear e5
      obtain ⟨hlb0, hlb1⟩ := hr.out l (mem_of_at hl.out)
      obtain ⟨p, rfl⟩ := Int.eq_ofNat_of_zero_le hlb0
      have hp : p < cs.length := by omega
      clear hlb0 hlb1
      obtain ⟨ad, x, rfl, hx, cx⟩ := h.at_ hp
      obtain ⟨ad', y, e6, hy, cy⟩ := h.at_ hb
      obtain rfl : ad = ad' := by injection e6
      clear e6
      by_cases hc2 : y < x
      · have hq := Lib.hid ((fold_snoc (f := stepG cs) (a := ls.headD 0) hl.out).trans (by rw [hs.out, stepG_t hx.out hy.out hc2]))
        go_wp2
        go_quiet (fail)
        go_wp2
        go_roundw
        case rel => exact ⟨k + 1, p, _, by omega, by go_num, rfl, hp, hq, rfl⟩
        case measure => simp [intOf]; omega
      · have hq := Lib.hid ((fold_snoc (f := stepG cs) (a := ls.headD 0) hl.out).trans (by rw [hs.out, stepG_f hx.out hy.out hc2]))
        go_wp2
        go_quiet (fail)
        go_wp2
        go_roundw
        case rel => exact ⟨k + 1, b, _, by omega, by go_num, rfl, hb, hq, rfl⟩
        case measure => simp [intOf]; omega
    · have hk2 : ls.length ≤ k := by omega
      clear hlt
      go_wp2
      go_ret
      exact ⟨ret_int (by have := hs.out; rw [List.take_of_length_le hk2] at this; exact this.symm), _, rfl⟩
end Go.Proofs.Ythngafmnkihkgaa
