/-
  Points for places, plain: what the laws ask.
-/
import Derived.Test.YthngafmnkihkgaaPtsS
namespace Go.Proofs.Ythngafmnkihkgaa
open Go.RowKit
/-- How many names stand on all ballots. -/
def lenM (ps : List (ByteArray × Int)) : Int := (ps.map fun p => (p.1.size : Int) * p.2).sum
theorem lenM_snoc {ps : List (ByteArray × Int)} {k : Nat} {s : ByteArray} {m : Int} (h : ps[k]? = some (s, m)) : lenM (ps.take (k + 1)) = lenM (ps.take k) + (s.size : Int) * m := by
  unfold lenM
  rw [take_snoc _ _ _ h, List.map_append, sum_append]; simp
theorem lenM_bd {ps : List (ByteArray × Int)} {n : Nat} (h : FitOk ps n) (k : Nat) : 0 ≤ lenM (ps.take k) ∧ lenM (ps.take k) ≤ 5940 := by
  have hz : ∀ p ∈ ps, 0 ≤ (p.1.size : Int) * p.2 ∧ (p.1.size : Int) * p.2 ≤ 5 * 99 := fun p hp => by
    have h1 := h.many p hp
    have h2 := bt_size (h.bts p hp)
    exact mul_le5 (m := (p.1.size : Int)) (x := p.2) (N := 5) (M := 99) ⟨by omega, by omega⟩ ⟨by omega, by omega⟩ (by omega)
  have h1 := sum_bd ((ps.take k).map fun p => (p.1.size : Int) * p.2) 495 (fun x hx => by
    obtain ⟨p, hp, rfl⟩ := List.mem_map.1 hx
    have := hz p (List.mem_of_mem_take hp); omega)
  have h2 := sum_nonneg ((ps.take k).map fun p => (p.1.size : Int) * p.2) (fun x hx => by
    obtain ⟨p, hp, rfl⟩ := List.mem_map.1 hx
    have := hz p (List.mem_of_mem_take hp); omega)
  have h3 : ((ps.take k).map fun p => (p.1.size : Int) * p.2).length ≤ 12 := by have := h.len; simp; omega
  unfold lenM
  omega
theorem oneRange (n : Nat) (g : Nat → Int) (h : ∀ j, j < n → g j = 1) : ((List.range n).map g).sum = n := by
  induction n with
  | zero => rfl
  | succ n ih =>
    rw [List.range_succ, List.map_append, List.map_singleton, sum_app1, ih (fun j hj => h j (by omega)), h n (by omega)]
    omega
theorem depth_all {ps : List (ByteArray × Int)} {n : Nat} (h : FitOk ps n) : (ptsA n (fD 5) (pl ps)).sum = lenM ps := by
  rw [ptsA_sum (pl_rng h)]
  unfold pl lenM
  rw [List.map_map]
  congr 1
  apply List.map_congr_left
  intro p hp
  have hb := bt_size (h.bts p hp)
  show p.2 * _ = _
  rw [oneRange _ _ (fun j hj => by
    show fD 5 j _ = 1
    have : j < (bal p.1).length := hj
    rw [bal_len] at this
    exact if_pos (by omega))]
  show p.2 * ((bal p.1).length : Int) = _
  rw [bal_len, Int.mul_comm]
theorem ptsA_mem {n : Nat} {f : Nat → Nat → Int} (hf : ∀ j l, 0 ≤ f j l ∧ f j l ≤ 4) {ps : List (ByteArray × Int)} {m : Nat} (h : FitOk ps m) {x : Int} (hx : x ∈ ptsA n f (pl ps)) : 0 ≤ x ∧ x ≤ 4752 := by
  unfold ptsA at hx
  obtain ⟨c, _, rfl⟩ := List.mem_map.1 hx
  have h1 := ptsC_bd (M := 4) (by omega) hf (pl_nod h) (pl_nn h.many) c
  have h2 := totM_all h
  rw [pl_many] at h1
  omega
/-- A greater depth counts more. -/
theorem ptsC_mono {f g : Nat → Nat → Int} (h : ∀ j l, f j l ≤ g j l) {ps : List Pl} (hm : ∀ p ∈ ps, 0 ≤ p.many) (c : Int) : ptsC f c ps ≤ ptsC g c ps := by
  have row : ∀ (b : List Int) (k l : Nat), ((b.zipIdx k).map fun x => if x.1 = c then f x.2 l else 0).sum ≤ ((b.zipIdx k).map fun x => if x.1 = c then g x.2 l else 0).sum := by
    intro b
    induction b with
    | nil => intro k l; simp
    | cons a t ih =>
      intro k l
      have i := ih (k + 1) l
      have hk := h k l
      simp only [List.zipIdx_cons, List.map_cons, List.sum_cons]
      split <;> omega
  induction ps with
  | nil => simp [ptsC]
  | cons p t ih =>
    have i := ih (fun q hq => hm q (by simp [hq]))
    have hp := hm p (by simp)
    have r : rowC (fun j => f j p.bal.length) c p.bal ≤ rowC (fun j => g j p.bal.length) c p.bal := row p.bal 0 p.bal.length
    have := Int.mul_le_mul_of_nonneg_left r hp
    unfold ptsC at i ⊢
    simp only [List.map_cons, List.sum_cons]
    omega
theorem fD_mono {d d' : Int} (h : d ≤ d') (j l : Nat) : fD d j l ≤ fD d' j l := by unfold fD; split <;> split <;> omega
theorem fD_one (d : Int) (j l : Nat) : 0 ≤ fD d j l ∧ fD d j l ≤ 1 := by unfold fD; split <;> omega
theorem depth_tot {ps : List (ByteArray × Int)} {n : Nat} (h : FitOk ps n) (d : Int) (c : Int) : ptsC (fD d) c (pl ps) ≤ totM ps := by
  have h1 := (ptsC_bd (M := 1) (by omega) (fD_one d) (pl_nod h) (pl_nn h.many) c).2
  rw [pl_many] at h1
  omega
theorem depth_zero (n : Nat) (ps : List Pl) : (ptsA n (fD 0) ps).sum = 0 := by
  have e : ptsA n (fD 0) ps = (List.range n).map fun _ => (0 : Int) := by
    unfold ptsA
    apply List.map_congr_left
    intro c _
    unfold ptsC
    induction ps with
    | nil => rfl
    | cons p t ih =>
      simp only [List.map_cons, List.sum_cons]
      rw [ih, rowC_zero (fun j _ => fD_no (d := 0) (i := j) (by omega))]
      omega
  rw [e, nilSum]
/-- Depth one is the first place. -/
theorem depth_first {ps : List (ByteArray × Int)} {n : Nat} (h : FitOk ps n) : ptsA n (fD 1) (pl ps) = cntL (List.replicate n false) (pl ps) := by
  unfold ptsA cntL
  rw [List.length_replicate]
  apply List.map_congr_left
  intro c _
  have hr := pl_rng h
  generalize pl ps = qs at hr
  unfold ptsC cntC
  induction qs with
  | nil => rfl
  | cons p t ih =>
    have i := ih (fun q hq => hr q (by simp [hq]))
    simp only [List.map_cons, List.sum_cons]
    rw [i]
    have hp := hr p (by simp)
    have e : rowC (fun j => fD 1 j p.bal.length) (c : Int) p.bal = if firstL (List.replicate n false) p.bal = (c : Int) then 1 else 0 := by
      cases hb : p.bal with
      | nil =>
        rw [rowC_nil]
        unfold firstL
        rw [if_neg (by omega)]
      | cons a b =>
        have ha := hp a (by rw [hb]; simp)
        have hf : firstL (List.replicate n false) (a :: b) = a := by
          unfold firstL
          rw [if_pos]
          rw [List.getD_eq_getElem?_getD, List.getElem?_replicate, if_pos (by omega)]
          rfl
        rw [hf]
        have h2 : ∀ (l : List Int) (k : Nat), 1 ≤ k → ((l.zipIdx k).map fun x => if x.1 = (c : Int) then fD 1 x.2 (a :: b).length else 0).sum = 0 := by
          intro l
          induction l with
          | nil => intro k _; rfl
          | cons y l ihl =>
            intro k hk
            simp only [List.zipIdx_cons, List.map_cons, List.sum_cons]
            rw [ihl (k + 1) (by omega), show fD 1 k (a :: b).length = 0 from if_neg (by omega)]
            simp
        unfold rowC
        simp only [List.zipIdx_cons, List.map_cons, List.sum_cons]
        have h3 := h2 b 1 (by omega)
        rw [h3, show fD 1 0 (a :: b).length = 1 from if_pos (by omega)]
        omega
    rw [e]
    split <;> omega
end Go.Proofs.Ythngafmnkihkgaa
