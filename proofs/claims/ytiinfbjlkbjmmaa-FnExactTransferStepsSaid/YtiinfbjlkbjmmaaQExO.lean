/-
  From the reading of a law's piles and steps to what the walks ask of memory.
-/
import Derived.Test.YtiinfbjlkbjmmaaQExT
import Derived.Test.YtiinfbjlkbjmmaaQOpen
import Derived.Deep.SlicePairs
import Derived.Deep.Strs
namespace Go.Proofs.Ytiinfbjlkbjmmaa
open Go.ChangeShapes Go.WideShapes Go.ChangeAt Go.RowKit
open Go.Deep (open_slice open_slice_pairs trod_struct3 add_add)
set_option maxRecDepth 100000 in
theorem list_pick {α : Type} (P : Nat → α → Prop) (n : Nat) : (∀ j, j < n → ∃ s, P j s) → ∃ ss : List α, ss.length = n ∧ ∀ j s, ss[j]? = some s → P j s := by
  induction n with
  | zero => exact fun _ => ⟨[], rfl, fun j f hf => by simp at hf⟩
  | succ n ih =>
    intro h
    obtain ⟨ss, h1, h2⟩ := ih (fun i hi => h i (by omega))
    obtain ⟨x, hx⟩ := h n (by omega)
    refine ⟨ss ++ [x], by simp [h1], fun j f hf => ?_⟩
    rcases Nat.lt_or_ge j n with hj | hj
    · rw [List.getElem?_append_left (by omega)] at hf
      exact h2 j f hf
    · have hjl : j < n + 1 := by
        have := (List.getElem?_eq_some_iff.1 hf).1
        simp [h1] at this
        omega
      obtain rfl : j = n := by omega
      rw [List.getElem?_append_right (by omega), h1, Nat.sub_self] at hf
      simp at hf
      subst hf
      exact hx
section
variable {H : Type} {enc : TypeId × Value → H} {W : World} {r : Reach} {b0 : Nat}
set_option maxRecDepth 100000 in
theorem openPiles {v : Value} {d : DataW H} {p : List MemPlace} (hv : Value.okWide Try.prog W r b0 22 v) (h : DataW.Trod enc Try.prog W 0 (fun _ => true) true 22 v d p) :
    ∃ (A : Option Addr) (ps : List (ByteArray × Int)) (c : Nat), v = .slice A ps.length c ∧ PilesL W A ps := by
  obtain ⟨a0, len, cap, rfl⟩ := okWide_slice Try.underlying22 hv
  obtain ⟨fuel, hf⟩ := h
  rcases open_slice_pairs Try.underlying22 Try.underlying61 (by kernel_rfl) rfl rfl (by kernel_rfl) (by kernel_rfl) hf with ⟨hcs, _⟩ | ⟨a, l, c, m, n, V0, V1, D0, D1, P0, P1, hcs, _, hl, hm, hmm, _, hx⟩
  · simp [Value.cells] at hcs
    obtain ⟨rfl, rfl, rfl⟩ := hcs
    exact ⟨none, [], 0, rfl, PilesL.nil _ _⟩
  · simp [Value.cells] at hcs
    obtain ⟨rfl, rfl, rfl⟩ := hcs
    have hlm : len ≤ m := by rw [hmm]; split <;> omega
    obtain ⟨ps, h1, h2⟩ := list_pick (fun j (p : ByteArray × Int) => p.1.size ≤ maxLen ∧ W.cell? (a.add (j * 2)) = some (.string p.1) ∧ W.cell? (a.add (j * 2 + 1)) = some (.int .i64 p.2)) len (fun j hj => by
      obtain ⟨g0, g1, t0, t1⟩ := hx j (by omega)
      obtain ⟨s, e0, _, hs⟩ := DataW.trod_string Try.underlying9 t0
      obtain ⟨z, e1, _, _⟩ := DataW.trod_int Try.underlying3 t1
      injection e0 with e0
      injection e1 with e1
      rw [e0] at g0
      rw [e1] at g1
      exact ⟨(s, z), hs, g0, g1⟩)
    subst h1
    refine ⟨some a, ps, cap, rfl, by omega, fun q hq => ?_, fun _ => ⟨a, rfl, fun j q hq => ?_⟩⟩
    · obtain ⟨j, hj⟩ := List.getElem?_of_mem hq
      exact (h2 j q hj).1
    · exact (h2 j q hq).2
set_option maxRecDepth 100000 in
theorem openFracs {v : Value} {fuel : Nat} {x : DataW H × List MemPlace} (hf : DataW.trod enc Try.prog W 0 (fun _ => true) true fuel 63 [v] = some x) :
    ∃ (A : Option Addr) (fs : List (Int × Int)) (c : Nat), v = .slice A fs.length c ∧ fs.length ≤ maxLen ∧ fs.length ≤ c ∧ FracsZ W A fs := by
  rcases open_slice_pairs Try.underlying63 Try.underlying137 (by kernel_rfl) rfl rfl (by kernel_rfl) (by kernel_rfl) hf with ⟨hcs, _⟩ | ⟨a, len, cap, m, n, V0, V1, D0, D1, P0, P1, hcs, _, hl, hm, hmm, _, hx⟩
  · injection hcs with hcs
    subst hcs
    exact ⟨none, [], 0, rfl, by simp, by simp, fun h => absurd h (by simp)⟩
  · injection hcs with hcs
    subst hcs
    have hlm : len ≤ m := by rw [hmm]; split <;> omega
    obtain ⟨fs, h1, h2⟩ := list_pick (fun j (p : Int × Int) => W.cell? (a.add (j * 2)) = some (.int .i64 p.1) ∧ W.cell? (a.add (j * 2 + 1)) = some (.int .i64 p.2)) len (fun j hj => by
      obtain ⟨g0, g1, t0, t1⟩ := hx j (by omega)
      obtain ⟨y, e0, _, _⟩ := DataW.trod_int Try.underlying3 t0
      obtain ⟨z, e1, _, _⟩ := DataW.trod_int Try.underlying3 t1
      injection e0 with e0
      injection e1 with e1
      rw [e0] at g0
      rw [e1] at g1
      exact ⟨(y, z), g0, g1⟩)
    subst h1
    exact ⟨some a, fs, cap, rfl, by omega, hl, fun _ => ⟨a, rfl, h2⟩⟩
set_option maxRecDepth 100000 in
theorem openSteps {v : Value} {d : DataW H} {p : List MemPlace} (hv : Value.okWide Try.prog W r b0 24 v) (h : DataW.Trod enc Try.prog W 0 (fun _ => true) true 24 v d p) :
    ∃ (A : Option Addr) (ss : List Stz) (c : Nat), v = .slice A ss.length c ∧ StepsL W A ss := by
  obtain ⟨a0, len, cap, rfl⟩ := okWide_slice Try.underlying24 hv
  obtain ⟨fuel, hf⟩ := h
  rcases open_slice Try.underlying24 hf with ⟨hcs, _⟩ | ⟨a, l, c, m, n, D, Pl, hcs, _, hl, hm, hmm, _, hx⟩
  · simp [Value.cells] at hcs
    obtain ⟨rfl, rfl, rfl⟩ := hcs
    exact ⟨none, [], 0, rfl, StepsL.nil _ _⟩
  · simp [Value.cells] at hcs
    obtain ⟨rfl, rfl, rfl⟩ := hcs
    have ce : Try.prog.cellsOf 65 = 3 := by kernel_rfl
    have cf : Try.prog.cellsOf 63 = 1 := by kernel_rfl
    have ci : Try.prog.cellsOf 3 = 1 := by kernel_rfl
    have hlm : len ≤ m := by rw [hmm]; split <;> omega
    obtain ⟨ss, h1, h2⟩ := list_pick (fun j (s : Stz) => ∃ B c, s.1.length ≤ maxLen ∧ s.1.length ≤ c ∧ W.cell? (a.add (j * 3)) = some (.slice B s.1.length c) ∧ FracsZ W B s.1 ∧ W.cell? (a.add (j * 3 + 1)) = some (.int .i64 s.2.1) ∧ W.cell? (a.add (j * 3 + 2)) = some (.int .i64 s.2.2)) len (fun j hj => by
      obtain ⟨cs', g1, g2⟩ := hx j (by omega)
      rw [ce] at g1
      obtain ⟨_, hlen, hcell⟩ := World.cells?_some g1
      obtain ⟨y0, y1, y2, k, _, _, t0, t1, t2⟩ := trod_struct3 Try.underlying65 g2
      match cs', hlen with
      | [v0, v1, v2], _ =>
        simp only [cf, ci] at t0 t1 t2
        have e0 := hcell 0 (by omega)
        have e1 := hcell 1 (by omega)
        have e2 := hcell 2 (by omega)
        rw [add_add] at e0 e1 e2
        obtain ⟨B, fs, c, rfl, q1, q2, q3⟩ := openFracs (show DataW.trod enc Try.prog W 0 (fun _ => true) true k 63 [v0] = some y0 from t0)
        obtain ⟨y, z1, _, _⟩ := DataW.trod_int Try.underlying3 (show DataW.trod enc Try.prog W 0 (fun _ => true) true k 3 [v1] = some y1 from t1)
        obtain ⟨z, z2, _, _⟩ := DataW.trod_int Try.underlying3 (show DataW.trod enc Try.prog W 0 (fun _ => true) true k 3 [v2] = some y2 from t2)
        injection z1 with z1
        injection z2 with z2
        subst z1
        subst z2
        exact ⟨(fs, y, z), B, c, q1, q2, by simpa using e0, q3, by simpa using e1, by simpa using e2⟩)
    subst h1
    exact ⟨some a, ss, cap, rfl, by omega, fun _ => ⟨a, rfl, h2⟩⟩
end
end Go.Proofs.Ytiinfbjlkbjmmaa
