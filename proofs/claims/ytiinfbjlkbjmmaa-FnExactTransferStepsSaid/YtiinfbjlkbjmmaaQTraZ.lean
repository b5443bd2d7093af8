/-
  Slices of fractions and of steps of any numbers; their comparisons.
-/
import Derived.Test.YtiinfbjlkbjmmaaQTraO
import Derived.Laws.StructEq
namespace Go.Proofs.Ytiinfbjlkbjmmaa
open Go.RowKit
def FracsZ (w : World) (A : Option Addr) (fs : List (Int × Int)) : Prop :=
  0 < fs.length → ∃ ad, A = some ad ∧ ∀ j f, fs[j]? = some f → w.cell? (ad.add (j * 2)) = some (.int .i64 f.1) ∧ w.cell? (ad.add (j * 2 + 1)) = some (.int .i64 f.2)
section
variable {w w' : World} {A : Option Addr} {fs : List (Int × Int)}
set_option maxRecDepth 100000 in
theorem FracsZ.at_ (h : FracsZ w A fs) {k : Nat} (hk : k < fs.length) :
    ∃ ad x y, A = some ad ∧ Hid (fs[k]? = some (x, y)) ∧ w.cell? (ad.add (k * 2)) = some (.int .i64 x) ∧ w.cell? ⟨(ad.add (k * 2)).block, (ad.add (k * 2)).off + 1, none⟩ = some (.int .i64 y) := by
  obtain ⟨ad, e, hc⟩ := h (by omega)
  obtain ⟨h1, h2⟩ := hc k fs[k] (List.getElem?_eq_getElem hk)
  exact ⟨ad, fs[k].1, fs[k].2, e, List.getElem?_eq_getElem hk, h1, (add_two ad (k * 2) 1).symm ▸ h2⟩
set_option maxRecDepth 100000 in
theorem FracsZ.keep (h : FracsZ w A fs) (hk : ∀ ad, A = some ad → 0 < fs.length → ad.block < w.heap.size → w'.heap[ad.block]? = w.heap[ad.block]?) : FracsZ w' A fs := by
  intro hn
  obtain ⟨ad, e, hc⟩ := h hn
  refine ⟨ad, e, fun j p hp => ?_⟩
  obtain ⟨h1, h2⟩ := hc j p hp
  have hlt := World.block_lt_of_cell? w _ h1
  rw [block_add] at hlt
  have hb := hk ad e hn hlt
  exact ⟨(World.cell?_of_block (w := w) (by rw [block_add]; exact hb)).trans h1, (World.cell?_of_block (w := w) (by rw [block_add]; exact hb)).trans h2⟩
set_option maxRecDepth 100000 in
theorem FracsZ.below (h : FracsZ w A fs) (hb : Below w.heap.size w w') : FracsZ w' A fs := h.keep fun _ _ _ hlt => hb.block _ hlt
set_option maxRecDepth 100000 in
theorem FracsZ.drewN (h : FracsZ w A fs) (n : Nat) : FracsZ (w.drewN n) A fs := h
end
/-- A fraction as two integers. -/
def fz (f : Fr) : Int × Int := (f.1, f.2)
set_option maxRecDepth 100000 in
theorem Fracs.z {w : World} {A : Option Addr} {fs : List Fr} (h : Fracs w A fs) : FracsZ w A (fs.map fz) := by
  intro hn
  obtain ⟨ad, e, hc⟩ := h (by simpa using hn)
  refine ⟨ad, e, fun j f hf => ?_⟩
  rw [List.getElem?_map] at hf
  cases hv : fs[j]? with
  | none => rw [hv] at hf; cases hf
  | some v =>
    rw [hv] at hf
    injection hf with hf
    subst hf
    exact hc j v hv
/-- A step: its counts, the candidate, what happens. -/
abbrev Stz := List (Int × Int) × Int × Int
structure StepsZ (w : World) (A : Option Addr) (rs : List Stz) : Prop where
  read : 0 < rs.length → ∃ ad, A = some ad ∧ ∀ j r, rs[j]? = some r → ∃ B c, r.1.length ≤ 1048576 ∧ r.1.length ≤ c ∧ w.cell? (ad.add (j * 3)) = some (.slice B r.1.length c) ∧ FracsZ w B r.1 ∧ w.cell? (ad.add (j * 3 + 1)) = some (.int .i64 r.2.1) ∧ w.cell? (ad.add (j * 3 + 2)) = some (.int .i64 r.2.2)
section
variable {w w' : World} {A : Option Addr} {rs : List Stz}
set_option maxRecDepth 100000 in
theorem StepsZ.at_ (h : StepsZ w A rs) {k : Nat} (hk : k < rs.length) :
    ∃ ad B c xs o t, A = some ad ∧ Hid (rs[k]? = some (xs, o, t)) ∧ xs.length ≤ 1048576 ∧ xs.length ≤ c ∧ FracsZ w B xs ∧ w.cell? (ad.add (k * 3)) = some (.slice B xs.length c) ∧ w.cell? ⟨(ad.add (k * 3)).block, (ad.add (k * 3)).off + 1, none⟩ = some (.int .i64 o) ∧ w.cell? ⟨(ad.add (k * 3)).block, (ad.add (k * 3)).off + 2, none⟩ = some (.int .i64 t) := by
  obtain ⟨ad, e, hc⟩ := h.read (by omega)
  obtain ⟨B, c, hm, h0, h1, h2, h3, h4⟩ := hc k rs[k] (List.getElem?_eq_getElem hk)
  exact ⟨ad, B, c, rs[k].1, rs[k].2.1, rs[k].2.2, e, List.getElem?_eq_getElem hk, hm, h0, h2, h1, (add_two ad (k * 3) 1).symm ▸ h3, (add_two ad (k * 3) 2).symm ▸ h4⟩
set_option maxRecDepth 100000 in
theorem StepsZ.below (h : StepsZ w A rs) (hb : Below w.heap.size w w') : StepsZ w' A rs := by
  refine ⟨fun hn => ?_⟩
  obtain ⟨ad, e, hc⟩ := h.read hn
  refine ⟨ad, e, fun j r hr => ?_⟩
  obtain ⟨B, c, hm, h0, h1, h2, h3, h4⟩ := hc j r hr
  exact ⟨B, c, hm, h0, cell_below hb h1, h2.below hb, cell_below hb h3, cell_below hb h4⟩
set_option maxRecDepth 100000 in
theorem StepsZ.drewN (h : StepsZ w A rs) (n : Nat) : StepsZ (w.drewN n) A rs := ⟨h.read⟩
set_option maxRecDepth 100000 in
theorem StepsZ.nil (w : World) (A : Option Addr) : StepsZ w A [] := ⟨fun h => absurd h (by simp)⟩
end
def stz (s : Stp) : Stz := (s.1.map fz, s.2.1, s.2.2)
set_option maxRecDepth 100000 in
theorem StepsI.z {w : World} {A : Option Addr} {rs : List Stp} (h : StepsI w A rs) (hl : ∀ s ∈ rs, s.1.length ≤ 1048576) : StepsZ w A (rs.map stz) := by
  refine ⟨fun hn => ?_⟩
  obtain ⟨ad, e, hc⟩ := h.read (by simpa using hn)
  refine ⟨ad, e, fun j f hf => ?_⟩
  rw [List.getElem?_map] at hf
  cases hv : rs[j]? with
  | none => rw [hv] at hf; cases hf
  | some v =>
    rw [hv] at hf
    injection hf with hf
    subst hf
    obtain ⟨B, c, h0, h1, h2, h3, h4⟩ := hc j v hv
    have hl := hl v (List.mem_of_getElem? hv)
    exact ⟨B, c, by simpa [stz] using hl, by simpa [stz] using h0, by simpa [stz] using h1, h2.z, h3, h4⟩
@[go_sem] theorem eqFr (a b c d : Int) (w : World) : (Op.equalIn 10000 75 (.agg #[.int .i64 a, .int .i64 b]) (.agg #[.int .i64 c, .int .i64 d])).run Try.prog w = .ok (a == c && b == d) w := by
  have u3 := Try.underlying3
  have hS : Try.prog.underlying 75 = some (.struct (Try.prog.fieldsOf 75)) := by kernel_rfl
  have hp : Try.prog.stoodInHeld 75 = false := by kernel_rfl
  rw [show (10000 : Nat) = 9999 + 1 from rfl, run_equalIn_agg w 9999 75 _ _ hS hp]
  simp only [Program.fieldsOf, Try.underlying75]
  go_simp
  by_cases h1 : a = c <;> by_cases h2 : b = d <;> simp [h1, h2]
set_option maxRecDepth 100000 in
set_option maxHeartbeats 1600000 in
theorem lawSameFracs_any (A A' : Option Addr) (xs ys : List (Int × Int)) (c c' : Nat) (w : World) (h : FracsZ w A xs) (h' : FracsZ w A' ys) (hl : xs.length ≤ 1048576) (hl' : ys.length ≤ 1048576) :
    Calls Try.prog 54 #[.slice A xs.length c, .slice A' ys.length c'] w (Qt w (.bool (xs == ys))) := by
  by_cases hlen : xs.length = ys.length
  · have hne : (((xs.length : Int)) != (ys.length : Int)) = false := by simp [hlen]
    have HL := Lib.hid hlen
    clear hlen
    go_enter Try.func54, Try.ntmps54
    go_wp2
    go_loopw [5] (fun i wr => ∃ k n : Nat, k ≤ xs.length ∧ i = .int .i64 k ∧ Hid (xs.take k = ys.take k) ∧ wr = w.drewN n) (fun i _ => xs.length - (intOf i).toNat)
    case atStart => exact ⟨0, 0, by omega, rfl, rfl, rfl⟩
    case round =>
      obtain ⟨k, n, hk, rfl, heq, rfl⟩ := hrel
      by_cases hlt : k < xs.length
      · have hlt' : k < ys.length := by have := HL.out; omega
        obtain ⟨ad, x1, x2, rfl, hx, hc, hd⟩ := h.at_ hlt
        obtain ⟨ad', y1, y2, rfl, hy, hc', hd'⟩ := h'.at_ hlt'
        by_cases hxy : x1 = y1 ∧ x2 = y2
        · obtain ⟨rfl, rfl⟩ := hxy
          have hb : (x1 == x1) = true := by simp
          have hb2 : (x2 == x2) = true := by simp
          go_wp2
          go_quiet (fail)
          go_wp2
          go_roundw
          case rel => exact ⟨k + 1, _, by omega, by go_num, by show _ = _; rw [take_snoc _ _ _ hx.out, take_snoc _ _ _ hy.out, heq.out], rfl⟩
          case measure => simp [intOf]; omega
        · by_cases h1 : x1 = y1
          · subst h1
            have hb : (x1 == x1) = true := by simp
            have hb2 : (x2 == y2) = false := by simpa using hxy
            go_wp2
            go_quiet (fail)
            go_wp2
            go_ret
            refine ⟨ret_bool ?_, _, World.drewN_drewN _ _ _⟩
            simp
            intro e
            rw [e] at hx
            have := hx.out.symm.trans hy.out
            simp at this
            exact hxy ⟨by simp [this], by simp [this]⟩
          · have hb : (x1 == y1) = false := by simpa using h1
            clear h1
            go_wp2
            go_quiet (fail)
            go_wp2
            go_ret
            refine ⟨ret_bool ?_, _, World.drewN_drewN _ _ _⟩
            simp
            intro e
            rw [e] at hx
            have := hx.out.symm.trans hy.out
            simp at this
            exact hxy ⟨by simp [this], by simp [this]⟩
      · have h2 : xs.length ≤ k := by omega
        clear hlt
        go_wp2
        go_ret
        refine ⟨ret_bool ?_, _, rfl⟩
        have := heq.out
        rw [List.take_of_length_le (by omega), List.take_of_length_le (by have := HL.out; omega)] at this
        simp [this]
  · have hne : (((xs.length : Int)) != (ys.length : Int)) = true := by simp; omega
    go_enter Try.func54, Try.ntmps54
    go_wp2
    go_ret
    exact ⟨ret_bool (by simp; intro e; exact absurd (by rw [e]) hlen), 0, rfl⟩
set_option maxRecDepth 100000 in
set_option maxHeartbeats 1600000 in
theorem l15Same_any (A A' : Option Addr) (xs ys : List (Int × Int)) (c c' : Nat) (w : World) (h : FracsZ w A xs) (h' : FracsZ w A' ys) (hl : xs.length ≤ 1048576) (hl' : ys.length ≤ 1048576) :
    Calls Try.prog 38 #[.slice A xs.length c, .slice A' ys.length c'] w (Qt w (.bool (xs == ys))) := by
  by_cases hlen : xs.length = ys.length
  · have hne : (((xs.length : Int)) != (ys.length : Int)) = false := by simp [hlen]
    have HL := Lib.hid hlen
    clear hlen
    go_enter Try.func38, Try.ntmps38
    go_wp2
    go_loopw [5] (fun i wr => ∃ k n : Nat, k ≤ xs.length ∧ i = .int .i64 k ∧ Hid (xs.take k = ys.take k) ∧ wr = w.drewN n) (fun i _ => xs.length - (intOf i).toNat)
    case atStart => exact ⟨0, 0, by omega, rfl, rfl, rfl⟩
    case round =>
      obtain ⟨k, n, hk, rfl, heq, rfl⟩ := hrel
      by_cases hlt : k < xs.length
      · have hlt' : k < ys.length := by have := HL.out; omega
        obtain ⟨ad, x1, x2, rfl, hx, hc, hd⟩ := h.at_ hlt
        obtain ⟨ad', y1, y2, rfl, hy, hc', hd'⟩ := h'.at_ hlt'
        by_cases hxy : x1 = y1 ∧ x2 = y2
        · obtain ⟨rfl, rfl⟩ := hxy
          have hb : (x1 == x1) = true := by simp
          have hb2 : (x2 == x2) = true := by simp
          go_wp2
          go_quiet (fail)
          go_wp2
          go_roundw
          case rel => exact ⟨k + 1, _, by omega, by go_num, by show _ = _; rw [take_snoc _ _ _ hx.out, take_snoc _ _ _ hy.out, heq.out], rfl⟩
          case measure => simp [intOf]; omega
        · by_cases h1 : x1 = y1
          · subst h1
            have hb : (x1 == x1) = true := by simp
            have hb2 : (x2 == y2) = false := by simpa using hxy
            go_wp2
            go_quiet (fail)
            go_wp2
            go_ret
            refine ⟨ret_bool ?_, _, World.drewN_drewN _ _ _⟩
            simp
            intro e
            rw [e] at hx
            have := hx.out.symm.trans hy.out
            simp at this
            exact hxy ⟨by simp [this], by simp [this]⟩
          · have hb : (x1 == y1) = false := by simpa using h1
            clear h1
            go_wp2
            go_quiet (fail)
            go_wp2
            go_ret
            refine ⟨ret_bool ?_, _, World.drewN_drewN _ _ _⟩
            simp
            intro e
            rw [e] at hx
            have := hx.out.symm.trans hy.out
            simp at this
            exact hxy ⟨by simp [this], by simp [this]⟩
      · have h2 : xs.length ≤ k := by omega
        clear hlt
        go_wp2
        go_ret
        refine ⟨ret_bool ?_, _, rfl⟩
        have := heq.out
        rw [List.take_of_length_le (by omega), List.take_of_length_le (by have := HL.out; omega)] at this
        simp [this]
  · have hne : (((xs.length : Int)) != (ys.length : Int)) = true := by simp; omega
    go_enter Try.func38, Try.ntmps38
    go_wp2
    go_ret
    exact ⟨ret_bool (by simp; intro e; exact absurd (by rw [e]) hlen), 0, rfl⟩
set_option maxRecDepth 100000 in
set_option maxHeartbeats 1600000 in
theorem slicesEqual_any (A A' : Option Addr) (xs ys : List (Int × Int)) (c c' : Nat) (w : World) (h : FracsZ w A xs) (h' : FracsZ w A' ys) (hl : xs.length ≤ 1048576) (hl' : ys.length ≤ 1048576) :
    Calls Try.prog 43 #[.slice A xs.length c, .slice A' ys.length c'] w (Qt w (.bool (xs == ys))) := by
  by_cases hlen : xs.length = ys.length
  · have hne : (((xs.length : Int)) != (ys.length : Int)) = false := by simp [hlen]
    have HL := Lib.hid hlen
    clear hlen
    go_enter Try.func43, Try.ntmps43
    go_wp2
    go_loopw [5, 13] (fun _ i wr => ∃ k n : Nat, k ≤ xs.length ∧ i = .int .i64 k ∧ Hid (xs.take k = ys.take k) ∧ wr = w.drewN n) (fun _ i _ => xs.length - (intOf i).toNat)
    case atStart => exact ⟨0, 0, by omega, rfl, rfl, rfl⟩
    case round =>
      obtain ⟨k, n, hk, rfl, heq, rfl⟩ := hrel
      by_cases hlt : k < xs.length
      · have hlt' : k < ys.length := by have := HL.out; omega
        obtain ⟨ad, x1, x2, rfl, hx, hc, hd⟩ := h.at_ hlt
        obtain ⟨ad', y1, y2, rfl, hy, hc', hd'⟩ := h'.at_ hlt'
        by_cases hxy : x1 = y1 ∧ x2 = y2
        · obtain ⟨rfl, rfl⟩ := hxy
          have hb : (x1 == x1) = true := by simp
          have hb2 : (x2 == x2) = true := by simp
          go_wp2
          go_quiet (fail)
          go_wp2
          go_roundw
          case rel => exact ⟨k + 1, _, by omega, by go_num, by show _ = _; rw [take_snoc _ _ _ hx.out, take_snoc _ _ _ hy.out, heq.out], rfl⟩
          case measure => simp [intOf]; omega
        · by_cases h1 : x1 = y1
          · subst h1
            have hb : (x1 == x1) = true := by simp
            have hb2 : (x2 == y2) = false := by simpa using hxy
            go_wp2
            go_quiet (fail)
            go_wp2
            go_ret
            refine ⟨ret_bool ?_, _, World.drewN_drewN _ _ _⟩
            simp
            intro e
            rw [e] at hx
            have := hx.out.symm.trans hy.out
            simp at this
            exact hxy ⟨by simp [this], by simp [this]⟩
          · have hb : (x1 == y1) = false := by simpa using h1
            clear h1
            go_wp2
            go_quiet (fail)
            go_wp2
            go_ret
            refine ⟨ret_bool ?_, _, World.drewN_drewN _ _ _⟩
            simp
            intro e
            rw [e] at hx
            have := hx.out.symm.trans hy.out
            simp at this
            exact hxy ⟨by simp [this], by simp [this]⟩
      · have h2 : xs.length ≤ k := by omega
        clear hlt
        go_wp2
        go_ret
        refine ⟨ret_bool ?_, _, rfl⟩
        have := heq.out
        rw [List.take_of_length_le (by omega), List.take_of_length_le (by have := HL.out; omega)] at this
        simp [this]
  · have hne : (((xs.length : Int)) != (ys.length : Int)) = true := by simp; omega
    go_enter Try.func43, Try.ntmps43
    go_wp2
    go_ret
    exact ⟨ret_bool (by simp; intro e; exact absurd (by rw [e]) hlen), 0, rfl⟩
end Go.Proofs.Ytiinfbjlkbjmmaa
