/-
  Who wins a runoff, plain; the program's way.
-/
import Derived.Test.YthngafmnkihkgaaRunJ
import Derived.Test.YthngafmnkihkgaaRunL
import Derived.Test.YthngafmnkihkgaaCntP
namespace Go.Proofs.Ythngafmnkihkgaa
open Go.RowKit
/-- The counts where those who left have -1. -/
def outSet (cs : List Int) (os : List Int) : List Int := os.foldl (fun c o => c.set o.toNat (-1)) cs
def winF (rs : List (List Int × Int)) (lots : List Int) : Int := greatP (outSet ((rs.map Prod.fst).getLastD []) (rs.dropLast.map Prod.snd)) lots
def rwF (ps : List (ByteArray × Int)) (lots : List Int) : Int := if (lv lots && fitV ps lots.length) = true then winF (roundsF (pl ps) lots lots.length (List.replicate lots.length false)) lots else -1
theorem outSet_len (cs os : List Int) : (outSet cs os).length = cs.length := by
  unfold outSet
  induction os generalizing cs with
  | nil => rfl
  | cons o t ih => simp only [List.foldl_cons]; rw [ih, List.length_set]
theorem outSet_snoc {cs os : List Int} {k : Nat} {o : Int} (h : os[k]? = some o) : outSet cs (os.take (k + 1)) = (outSet cs (os.take k)).set o.toNat (-1) := by
  unfold outSet
  rw [take_snoc _ _ _ h, List.foldl_append]; rfl
/-- Who has left behind some rounds. -/
def leftSet (left : List Bool) (os : List Int) : List Bool := os.foldl (fun l o => l.set o.toNat true) left
theorem leftSet_len (left : List Bool) (os : List Int) : (leftSet left os).length = left.length := by
  unfold leftSet
  induction os generalizing left with
  | nil => rfl
  | cons o t ih => simp only [List.foldl_cons]; rw [ih, List.length_set]
theorem leftSet_snoc {left : List Bool} {os : List Int} {k : Nat} {o : Int} (h : os[k]? = some o) : leftSet left (os.take (k + 1)) = (leftSet left (os.take k)).set o.toNat true := by
  unfold leftSet
  rw [take_snoc _ _ _ h, List.foldl_append]; rfl
/-- The rounds are those of some who leave, and a last one. -/
theorem rounds_form {ps : List Pl} {lots : List Int} (hv : lv lots = true) : ∀ (k : Nat) (left : List Bool), left.length = lots.length → thereL left = (k : Int) → 1 ≤ k →
    ∃ init : List (List Int × Int), roundsF ps lots k left = init ++ [(cntL (leftSet left (init.map Prod.snd)) ps, -1)] ∧ (∀ r ∈ init, ∃ q : Nat, r.2 = (q : Int) ∧ q < lots.length) ∧ 1 ≤ thereL (leftSet left (init.map Prod.snd)) := by
  intro k
  induction k with
  | zero => intro left _ _ h; omega
  | succ k ih =>
    intro left hl ht _
    cases hd : doneF (cntL left ps) left
    · obtain ⟨q, hq, hb, hql⟩ := least_at (cs := cntL left ps) hv hl (by omega)
      have hk : 1 ≤ k := by
        unfold doneF at hd
        simp only [Bool.or_eq_false_iff] at hd
        have : thereL left ≠ 1 := by simpa using hd.1
        omega
      have hqe := hq
      obtain ⟨init, h1, h2, h3⟩ := ih (left.set q true) (by rw [List.length_set]; exact hl) (by rw [thereL_set hb]; omega) hk
      refine ⟨(cntL left ps, (q : Int)) :: init, ?_, ?_, ?_⟩
      · rw [roundsF_more hd, hq, Int.toNat_natCast, h1]; rfl
      · intro r hr
        rcases List.mem_cons.1 hr with rfl | hr
        · exact ⟨q, rfl, hql⟩
        · exact h2 r hr
      · exact h3
    · exact ⟨[], by rw [roundsF_done hd]; rfl, by simp, by show 1 ≤ thereL left; omega⟩
theorem rounds_form0 {ps : List Pl} {lots : List Int} (hv : lv lots = true) :
    ∃ init : List (List Int × Int), roundsF ps lots lots.length (List.replicate lots.length false) = init ++ [(cntL (leftSet (List.replicate lots.length false) (init.map Prod.snd)) ps, -1)] ∧ (∀ r ∈ init, ∃ q : Nat, r.2 = (q : Int) ∧ q < lots.length) ∧ 1 ≤ thereL (leftSet (List.replicate lots.length false) (init.map Prod.snd)) :=
  rounds_form hv _ _ (by simp) (thereL_rep _) (lv_iff.1 hv).1.1
theorem winF_form (init : List (List Int × Int)) (cs : List Int) (o : Int) (lots : List Int) : winF (init ++ [(cs, o)]) lots = greatP (outSet cs (init.map Prod.snd)) lots := by
  unfold winF
  rw [List.dropLast_concat, List.map_append, List.map_singleton]
  simp
/-- The counts with -1 for who left. -/
def maskL (cs : List Int) (left : List Bool) : List Int := (cs.zip left).map fun p => if p.2 then -1 else p.1
theorem maskL_len {cs : List Int} {left : List Bool} (h : left.length = cs.length) : (maskL cs left).length = cs.length := by simp [maskL, h]
theorem maskL_none (cs : List Int) : maskL cs (List.replicate cs.length false) = cs := by
  apply List.ext_getElem
  · simp [maskL]
  · intro i h1 h2
    simp [maskL]
theorem maskL_set {cs : List Int} {left : List Bool} (h : left.length = cs.length) {q : Nat} (hq : q < cs.length) : maskL cs (left.set q true) = (maskL cs left).set q (-1) := by
  apply List.ext_getElem
  · simp [maskL]
  · intro i h1 h2
    rw [List.getElem_set]
    simp only [maskL, List.getElem_map, List.getElem_zip, List.getElem_set]
    have hi : i < left.length := by simp [maskL, h] at h2; omega
    by_cases e : q = i
    · simp [e]
    · simp [e]
theorem outSet_mask {cs : List Int} {left : List Bool} (h : left.length = cs.length) : ∀ os : List Int, (∀ o ∈ os, ∃ q : Nat, o = (q : Int) ∧ q < cs.length) → outSet (maskL cs left) os = maskL cs (leftSet left os) := by
  intro os
  induction os generalizing left with
  | nil => intro _; rfl
  | cons o t ih =>
    intro hr
    obtain ⟨q, rfl, hq⟩ := hr o (by simp)
    show outSet ((maskL cs left).set (q : Int).toNat (-1)) t = maskL cs (leftSet (left.set (q : Int).toNat true) t)
    rw [Int.toNat_natCast, ← maskL_set h hq]
    exact ih (by rw [List.length_set]; exact h) (fun o ho => hr o (by simp [ho]))
theorem rw_f {ps : List (ByteArray × Int)} {lots : List Int} (h : (lv lots && fitV ps lots.length) = false) : rwF ps lots = -1 := by
  unfold rwF
  rw [if_neg (by rw [h]; simp)]
theorem rw_t {ps : List (ByteArray × Int)} {lots : List Int} (h : (lv lots && fitV ps lots.length) = true) : rwF ps lots = winF (roundsF (pl ps) lots lots.length (List.replicate lots.length false)) lots := by
  unfold rwF
  rw [if_pos h]
theorem rounds_le5 {ps : List Pl} {lots : List Int} (k : Nat) : ∀ left : List Bool, (roundsF ps lots k left).length ≤ k := by
  induction k with
  | zero => intro left; simp [roundsF]
  | succ k ih =>
    intro left
    simp only [roundsF]
    split
    · simp
    · simp only [List.length_cons]
      have := ih (left.set (leastF (cntL left ps) left lots).toNat true)
      omega
end Go.Proofs.Ythngafmnkihkgaa
