/-
  Counts of a depth, of places, of last places: the program's functions.
-/
import Derived.Test.YthngafmnkihkgaaPts
namespace Go.Proofs.Ythngafmnkihkgaa
open Go.RowKit
def dpF (ps : List (ByteArray × Int)) (n : Nat) (d : Int) : List Int × Bool := if (fitV ps n && inB d 0 5) = true then (ptsA n (fD d) (pl ps), true) else ([], false)
def plF (ps : List (ByteArray × Int)) (n : Nat) : List Int × Bool := if fitV ps n = true then (ptsA n (fP n) (pl ps), true) else ([], false)
def laF (ps : List (ByteArray × Int)) (n : Nat) : List Int × Bool := if fitV ps n = true then (ptsA n (fL n) (pl ps), true) else ([], false)
theorem dp_t {ps : List (ByteArray × Int)} {n : Nat} {d : Int} (h : fitV ps n = true) (h2 : inB d 0 5 = true) : dpF ps n d = (ptsA n (fD d) (pl ps), true) := by simp [dpF, h, h2]
theorem dp_f {ps : List (ByteArray × Int)} {n : Nat} {d : Int} (h : (fitV ps n && inB d 0 5) = false) : dpF ps n d = ([], false) := by simp [dpF, h]
theorem plF_t {ps : List (ByteArray × Int)} {n : Nat} (h : fitV ps n = true) : plF ps n = (ptsA n (fP n) (pl ps), true) := by simp [plF, h]
theorem plF_f {ps : List (ByteArray × Int)} {n : Nat} (h : fitV ps n = false) : plF ps n = ([], false) := by simp [plF, h]
theorem laF_t {ps : List (ByteArray × Int)} {n : Nat} (h : fitV ps n = true) : laF ps n = (ptsA n (fL n) (pl ps), true) := by simp [laF, h]
theorem laF_f {ps : List (ByteArray × Int)} {n : Nat} (h : fitV ps n = false) : laF ps n = ([], false) := by simp [laF, h]
theorem dp_true {ps : List (ByteArray × Int)} {n : Nat} {d : Int} {ys : List Int} (h : dpF ps n d = (ys, true)) : fitV ps n = true ∧ (0 ≤ d ∧ d ≤ 5) ∧ ys = ptsA n (fD d) (pl ps) := by
  unfold dpF at h
  split at h
  · next hf =>
    injection h with h1 _
    simp only [Bool.and_eq_true, inB_iff] at hf
    exact ⟨hf.1, hf.2, h1.symm⟩
  · injection h with _ h2; cases h2
theorem plF_true {ps : List (ByteArray × Int)} {n : Nat} {ys : List Int} (h : plF ps n = (ys, true)) : fitV ps n = true ∧ ys = ptsA n (fP n) (pl ps) := by
  unfold plF at h
  split at h
  · next hf => injection h with h1 _; exact ⟨hf, h1.symm⟩
  · injection h with _ h2; cases h2
theorem laF_true {ps : List (ByteArray × Int)} {n : Nat} {ys : List Int} (h : laF ps n = (ys, true)) : fitV ps n = true ∧ ys = ptsA n (fL n) (pl ps) := by
  unfold laF at h
  split at h
  · next hf => injection h with h1 _; exact ⟨hf, h1.symm⟩
  · injection h with _ h2; cases h2
theorem dp_len (ps : List (ByteArray × Int)) (n : Nat) (d : Int) (hn : n ≤ 6) : (dpF ps n d).1.length ≤ 10 := by unfold dpF; split <;> simp [ptsA_len]; omega
theorem plF_len (ps : List (ByteArray × Int)) (n : Nat) (hn : n ≤ 6) : (plF ps n).1.length ≤ 10 := by unfold plF; split <;> simp [ptsA_len]; omega
theorem laF_len (ps : List (ByteArray × Int)) (n : Nat) (hn : n ≤ 6) : (laF ps n).1.length ≤ 10 := by unfold laF; split <;> simp [ptsA_len]; omega
set_option maxHeartbeats 1600000 in
theorem implDepth_any (A : Option Addr) (ps : List (ByteArray × Int)) (c n : Nat) (d : Int) (w : World) (h : PilesI w A ps) (hl : ps.length ≤ 1048576) :
    Calls Try.prog 12 #[.slice A ps.length c, .int .i64 n, .int .i64 d] w (NewIB w (dpF ps n d)) := by
  have hmf : ∀ (fn : Fn) (first cap : Array Value) (w : World), (Instr.makeFunc fn first cap).run Try.prog w = .ok (.func fn first cap) w := fun _ _ _ _ => rfl
  have cV := Lib.hid (pilesFit_any A ps c n (w.alloc (.cells #[.int .i64 d] 3)) (h.alloc _) hl)
  have hb0 : Below w.heap.size w (w.alloc (.cells #[.int .i64 d] 3)) := (Below.refl _ _).alloc (Nat.le_refl _) _
  cases hv : fitV ps n
  · rw [hv] at cV
    have hq := Lib.hid (dp_f (ps := ps) (n := n) (d := d) (by rw [hv]; rfl))
    go_enter Try.func12, Try.ntmps12
    go_wp2_with (go_at_call 39; refine cV.out.mono ?_; rintro e w1 ⟨rfl, hb1⟩)
    go_ret2
    exact newIB_mk hq.out (OwnN.nil _ _) (below_down hb0 hb1)
  · rw [hv] at cV
    have hF := Lib.hid (fitOk_of hv)
    have HV := Lib.hid hv
    clear hv
    go_enter Try.func12, Try.ntmps12
    go_wp2_with fail
    refine cV.out.mono ?_
    rintro e w1 ⟨rfl, hb1⟩
    have hc1 : w1.cell? ⟨w.heap.size, 0, none⟩ = some (.int .i64 d) := cell_below hb1 (new_cell w _)
    have hB := below_down hb0 hb1
    clear hb0 hb1 cV
    by_cases h0 : 0 ≤ d
    · by_cases h5 : d ≤ 5
      · have hq := Lib.hid (dp_t (d := d) HV.out (inB_t ⟨h0, h5⟩))
        go_wp2_with fail
        refine (places_depth A ps c n w.heap.size d w1 (h.below hB) hF hc1).mono ?_
        rintro e w2 ⟨B, dd, rfl, ho, hb2⟩
        have ho := ho.mono hB.size
        have hB := below_down hB hb2
        clear hb2
        go_wp2
        go_ret2
        exact newIB_mk hq.out ⟨rfl, ho⟩ hB
      · have hq := Lib.hid (dp_f (ps := ps) (n := n) (d := d) (by rw [inB_f (by omega)]; simp))
        have hd : decide (5 < d) = true := by simp; omega
        go_wp2
        go_ret2
        exact newIB_mk hq.out (OwnN.nil _ _) hB
    · have hq := Lib.hid (dp_f (ps := ps) (n := n) (d := d) (by rw [inB_f (by omega)]; simp))
      have hd : d < 0 := by omega
      clear h0
      go_wp2
      go_ret2
      exact newIB_mk hq.out (OwnN.nil _ _) hB
set_option maxHeartbeats 1600000 in
theorem implPlace_any (A : Option Addr) (ps : List (ByteArray × Int)) (c n : Nat) (w : World) (h : PilesI w A ps) (hl : ps.length ≤ 1048576) :
    Calls Try.prog 20 #[.slice A ps.length c, .int .i64 n] w (NewIB w (plF ps n)) := by
  have hmf : ∀ (fn : Fn) (first cap : Array Value) (w : World), (Instr.makeFunc fn first cap).run Try.prog w = .ok (.func fn first cap) w := fun _ _ _ _ => rfl
  have cV := Lib.hid (pilesFit_any A ps c n (w.alloc (.cells #[.int .i64 n] 3)) (h.alloc _) hl)
  have hb0 : Below w.heap.size w (w.alloc (.cells #[.int .i64 n] 3)) := (Below.refl _ _).alloc (Nat.le_refl _) _
  cases hv : fitV ps n
  · rw [hv] at cV
    have hq := Lib.hid (plF_f (ps := ps) (n := n) hv)
    go_enter Try.func20, Try.ntmps20
    go_wp2_with (go_at_call 39; refine cV.out.mono ?_; rintro e w1 ⟨rfl, hb1⟩)
    go_ret2
    exact newIB_mk hq.out (OwnN.nil _ _) (below_down hb0 hb1)
  · rw [hv] at cV
    have hF := Lib.hid (fitOk_of hv)
    have hq := Lib.hid (plF_t hv)
    clear hv
    go_enter Try.func20, Try.ntmps20
    go_wp2_with fail
    refine cV.out.mono ?_
    rintro e w1 ⟨rfl, hb1⟩
    have hc1 : w1.cell? ⟨w.heap.size, 0, none⟩ = some (.int .i64 n) := cell_below hb1 (new_cell w _)
    have hB := below_down hb0 hb1
    clear hb0 hb1 cV
    go_wp2_with fail
    refine (places_place A ps c n w.heap.size n w1 (h.below hB) hF hc1 (Lib.hid rfl)).mono ?_
    rintro e w2 ⟨B, dd, rfl, ho, hb2⟩
    have ho := ho.mono hB.size
    have hB := below_down hB hb2
    clear hb2
    go_wp2
    go_ret2
    exact newIB_mk hq.out ⟨rfl, ho⟩ hB
set_option maxHeartbeats 1600000 in
theorem implLast_any (A : Option Addr) (ps : List (ByteArray × Int)) (c n : Nat) (w : World) (h : PilesI w A ps) (hl : ps.length ≤ 1048576) :
    Calls Try.prog 25 #[.slice A ps.length c, .int .i64 n] w (NewIB w (laF ps n)) := by
  have hmf : ∀ (fn : Fn) (first cap : Array Value) (w : World), (Instr.makeFunc fn first cap).run Try.prog w = .ok (.func fn first cap) w := fun _ _ _ _ => rfl
  have cV := Lib.hid (pilesFit_any A ps c n (w.alloc (.cells #[.int .i64 n] 3)) (h.alloc _) hl)
  have hb0 : Below w.heap.size w (w.alloc (.cells #[.int .i64 n] 3)) := (Below.refl _ _).alloc (Nat.le_refl _) _
  cases hv : fitV ps n
  · rw [hv] at cV
    have hq := Lib.hid (laF_f (ps := ps) (n := n) hv)
    go_enter Try.func25, Try.ntmps25
    go_wp2_with (go_at_call 39; refine cV.out.mono ?_; rintro e w1 ⟨rfl, hb1⟩)
    go_ret2
    exact newIB_mk hq.out (OwnN.nil _ _) (below_down hb0 hb1)
  · rw [hv] at cV
    have hF := Lib.hid (fitOk_of hv)
    have hq := Lib.hid (laF_t hv)
    clear hv
    go_enter Try.func25, Try.ntmps25
    go_wp2_with fail
    refine cV.out.mono ?_
    rintro e w1 ⟨rfl, hb1⟩
    have hc1 : w1.cell? ⟨w.heap.size, 0, none⟩ = some (.int .i64 n) := cell_below hb1 (new_cell w _)
    have hB := below_down hb0 hb1
    clear hb0 hb1 cV
    go_wp2_with fail
    refine (places_last A ps c n w.heap.size n w1 (h.below hB) hF hc1 (Lib.hid rfl)).mono ?_
    rintro e w2 ⟨B, dd, rfl, ho, hb2⟩
    have ho := ho.mono hB.size
    have hB := below_down hB hb2
    clear hb2
    go_wp2
    go_ret2
    exact newIB_mk hq.out ⟨rfl, ho⟩ hB
end Go.Proofs.Ythngafmnkihkgaa
