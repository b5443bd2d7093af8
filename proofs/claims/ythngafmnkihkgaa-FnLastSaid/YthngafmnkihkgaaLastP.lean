/-
  Last places, plain: what the law asks.
-/
import Derived.Test.YthngafmnkihkgaaPtsL
namespace Go.Proofs.Ythngafmnkihkgaa
open Go.RowKit
/-- How many full ballots there are. -/
def fullM (n : Nat) (ps : List (ByteArray × Int)) : Int := (ps.map fun p => if p.1.size = n then p.2 else 0).sum
theorem fullM_snoc {n : Nat} {ps : List (ByteArray × Int)} {k : Nat} {s : ByteArray} {m : Int} (h : ps[k]? = some (s, m)) : fullM n (ps.take (k + 1)) = fullM n (ps.take k) + if s.size = n then m else 0 := by
  unfold fullM
  rw [take_snoc _ _ _ h, List.map_append, sum_append]; simp
theorem fullM_bd {ps : List (ByteArray × Int)} {n : Nat} (h : FitOk ps n) (k : Nat) : 0 ≤ fullM n (ps.take k) ∧ fullM n (ps.take k) ≤ 1188 := by
  have h1 := sum_bd ((ps.take k).map fun p => if p.1.size = n then p.2 else 0) 99 (fun x hx => by
    obtain ⟨p, hp, rfl⟩ := List.mem_map.1 hx
    have := h.many p (List.mem_of_mem_take hp)
    split <;> omega)
  have h2 := sum_nonneg ((ps.take k).map fun p => if p.1.size = n then p.2 else 0) (fun x hx => by
    obtain ⟨p, hp, rfl⟩ := List.mem_map.1 hx
    have := h.many p (List.mem_of_mem_take hp)
    split <;> omega)
  have h3 : ((ps.take k).map fun p => if p.1.size = n then p.2 else 0).length ≤ 12 := by have := h.len; simp; omega
  unfold fullM
  omega
theorem lastRange (n l : Nat) (hn : 1 ≤ n) : ((List.range l).map fun j => fL n j l).sum = if l = n then 1 else 0 := by
  by_cases h : l = n
  · subst h
    rw [if_pos rfl]
    obtain ⟨m, rfl⟩ : ∃ m, l = m + 1 := ⟨l - 1, by omega⟩
    rw [List.range_succ, List.map_append, List.map_singleton, sum_app1, show fL (m + 1) m (m + 1) = 1 from if_pos ⟨rfl, rfl⟩]
    have e : ((List.range m).map fun j => fL (m + 1) j (m + 1)) = (List.range m).map fun _ => (0 : Int) := by
      apply List.map_congr_left
      intro j hj
      exact fL_no (by have := List.mem_range.1 hj; omega)
    rw [e, nilSum]
    omega
  · rw [if_neg h]
    have e : ((List.range l).map fun j => fL n j l) = (List.range l).map fun _ => (0 : Int) := by
      apply List.map_congr_left
      intro j hj
      exact fL_no (fun hh => h hh.1)
    rw [e, nilSum]
theorem last_sum {ps : List (ByteArray × Int)} {n : Nat} (h : FitOk ps n) : (ptsA n (fL n) (pl ps)).sum = fullM n ps := by
  rw [ptsA_sum (pl_rng h)]
  unfold pl fullM
  rw [List.map_map]
  congr 1
  apply List.map_congr_left
  intro p hp
  show p.2 * ((List.range (bal p.1).length).map fun j => fL n j (bal p.1).length).sum = _
  rw [lastRange n _ h.n1, bal_len]
  split <;> omega
/-- Nobody is first and last, where there are two. -/
theorem last_first {ps : List (ByteArray × Int)} {n : Nat} (h : FitOk ps n) (hn : 2 ≤ n) (c : Nat) (_hc : c < n) : ptsC (fL n) c (pl ps) + cntC (List.replicate n false) c (pl ps) ≤ totM ps := by
  have hr := pl_rng h
  have hd := pl_nod h
  have hm := pl_nn h.many
  rw [← pl_many]
  generalize pl ps = qs at hr hd hm
  unfold ptsC cntC
  induction qs with
  | nil => simp
  | cons p t ih =>
    have i := ih (fun q hq => hr q (by simp [hq])) (fun q hq => hd q (by simp [hq])) (fun q hq => hm q (by simp [hq]))
    have hp := hr p (by simp)
    have hpd := hd p (by simp)
    have hpm := hm p (by simp)
    simp only [List.map_cons, List.sum_cons]
    have key : rowC (fun j => fL n j p.bal.length) (c : Int) p.bal + (if firstL (List.replicate n false) p.bal = (c : Int) then 1 else 0) ≤ 1 := by
      cases hb : p.bal with
      | nil =>
        rw [rowC_nil]
        split <;> omega
      | cons a b =>
        rw [hb] at hpd hp
        have ha := hp a (by simp)
        have hf : firstL (List.replicate n false) (a :: b) = a := by
          unfold firstL
          rw [if_pos]
          rw [List.getD_eq_getElem?_getD, List.getElem?_replicate, if_pos (by omega)]
          rfl
        rw [hf]
        have h01 := rowC_bd (M := 1) (by omega) (g := fun j => fL n j (a :: b).length) (fun j => by unfold fL; split <;> omega) hpd (c : Int)
        by_cases hac : a = (c : Int)
        · rw [if_pos hac]
          have h0 : rowC (fun j => fL n j (a :: b).length) (c : Int) (a :: b) = 0 := by
            have h1 : (a :: b) = [a] ++ b := rfl
            obtain ⟨hna, _⟩ := List.nodup_cons.1 hpd
            unfold rowC
            simp only [List.zipIdx_cons, List.map_cons, List.sum_cons]
            have hz : ∀ (l : List Int) (k : Nat), (∀ y ∈ l, y ≠ (c : Int)) → ((l.zipIdx k).map fun x => if x.1 = (c : Int) then fL n x.2 (a :: b).length else 0).sum = 0 := by
              intro l
              induction l with
              | nil => intro k _; rfl
              | cons y l ihl =>
                intro k hk
                simp only [List.zipIdx_cons, List.map_cons, List.sum_cons]
                rw [if_neg (hk y (by simp)), ihl (k + 1) (fun z hz => hk z (by simp [hz]))]
                rfl
            have hzb := hz b (0 + 1) (fun y hy e => hna (by rw [hac, ← e]; exact hy))
            simp only [List.length_cons] at hzb ⊢
            rw [hzb, if_pos hac, show fL n 0 (b.length + 1) = 0 from fL_no (by omega)]
            rfl
          rw [h0]
          omega
        · rw [if_neg hac]
          have := h01.2.1
          omega
    have hk := Int.mul_le_mul_of_nonneg_left key hpm
    rw [Int.mul_add, Int.mul_one] at hk
    have e : p.many * (if firstL (List.replicate n false) p.bal = (c : Int) then 1 else 0) = if firstL (List.replicate n false) p.bal = (c : Int) then p.many else 0 := by
      split <;> omega
    rw [e] at hk
    omega
end Go.Proofs.Ythngafmnkihkgaa
