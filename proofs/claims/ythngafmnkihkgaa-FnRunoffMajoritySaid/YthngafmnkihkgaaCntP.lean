/-
  First counts, plain: what the laws on them ask.
-/
import Derived.Test.YthngafmnkihkgaaCnt
namespace Go.Proofs.Ythngafmnkihkgaa
open Go.RowKit
theorem fc_true {ps : List (ByteArray × Int)} {left : List Bool} {ys : List Int} (h : fcF ps left = (ys, true)) : fitV ps left.length = true ∧ ys = cntL left (pl ps) := by
  unfold fcF at h
  split at h
  · next hf => injection h with h1 _; exact ⟨hf, h1.symm⟩
  · injection h with _ h2; cases h2
theorem fc_len {ps : List (ByteArray × Int)} {left : List Bool} (hn : left.length ≤ 10) : (fcF ps left).1.length ≤ 10 := by
  unfold fcF
  split
  · simp only [cntL_len]; exact hn
  · simp
theorem totF_fit {ps : List (ByteArray × Int)} {n : Int} (h : fitV ps n = true) : totF ps = totM ps := by
  obtain ⟨h1, _⟩ := fitV_iff.1 h
  simp [totF, h1]
theorem pl_many (ps : List (ByteArray × Int)) : ((pl ps).map Pl.many).sum = totM ps := by
  unfold pl totM
  rw [List.map_map]; rfl
theorem pl_nn {ps : List (ByteArray × Int)} (h : ∀ p ∈ ps, 1 ≤ p.2 ∧ p.2 ≤ 99) : ∀ p ∈ pl ps, 0 ≤ p.many := by
  intro p hp
  unfold pl at hp
  obtain ⟨q, hq, rfl⟩ := List.mem_map.1 hp
  have := h q hq
  show 0 ≤ q.2
  omega
theorem pl_rng {ps : List (ByteArray × Int)} {n : Nat} (h : FitOk ps n) : ∀ p ∈ pl ps, ∀ c ∈ p.bal, 0 ≤ c ∧ c < n := by
  intro p hp
  unfold pl at hp
  obtain ⟨q, hq, rfl⟩ := List.mem_map.1 hp
  exact h.rng q hq
theorem pl_nod {ps : List (ByteArray × Int)} {n : Nat} (h : FitOk ps n) : ∀ p ∈ pl ps, p.bal.Nodup := by
  intro p hp
  unfold pl at hp
  obtain ⟨q, hq, rfl⟩ := List.mem_map.1 hp
  exact h.nod q hq
theorem totM_all {ps : List (ByteArray × Int)} {n : Nat} (h : FitOk ps n) : 0 ≤ totM ps ∧ totM ps ≤ 1188 := by
  have := totM_bd h.len h.many ps.length
  rwa [List.take_length] at this
theorem cntL_sum_le (left : List Bool) {ps : List (ByteArray × Int)} {n : Nat} (h : FitOk ps n) : (cntL left (pl ps)).sum ≤ totM ps := by
  rw [← pl_many]
  exact cntL_total (pl_nn h.many)
theorem cntL_mem {left : List Bool} {ps : List (ByteArray × Int)} {n : Nat} (h : FitOk ps n) {x : Int} (hx : x ∈ cntL left (pl ps)) : 0 ≤ x ∧ x ≤ 1188 := by
  unfold cntL at hx
  obtain ⟨c, _, rfl⟩ := List.mem_map.1 hx
  have h1 := cntC_tot left c ps h.many
  have h2 := totM_all h
  omega
end Go.Proofs.Ythngafmnkihkgaa
