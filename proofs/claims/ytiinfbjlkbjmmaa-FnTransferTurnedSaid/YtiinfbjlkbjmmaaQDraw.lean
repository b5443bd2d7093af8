/-
  The reader of a code: picks are numbers in range, and only the reader's own place is written.
-/
import Derived.Test.YtiinfbjlkbjmmaaQFrame
import Derived.Laws.Pointers
import Derived.Laws.BitsAllLaws
import Derived.Laws.BitsLemmas
namespace Go.Proofs.Ytiinfbjlkbjmmaa
open Go.RowKit
set_option maxRecDepth 100000 in
theorem ofInt_i64 (a : Nat) (ha : a < 9223372036854775808) : (BitVec.ofInt 64 (a : Int)).toNat = a := by
  rw [BitVec.ofInt_natCast, BitVec.toNat_ofNat]; exact Nat.mod_eq_of_lt (by omega)
set_option maxRecDepth 100000 in
theorem i64_xor_nat (a b : Nat) (ha : a < 9223372036854775808) (hb : b < 9223372036854775808) : bits .xor .i64 (a : Int) (b : Int) = ((a ^^^ b : Nat) : Int) := by
  have hx : a ^^^ b < 2 ^ 63 := Nat.xor_lt_two_pow (by omega) (by omega)
  show IntKind.i64.wrap ((BitVec.ofInt 64 (a : Int) ^^^ BitVec.ofInt 64 (b : Int)).toNat : Int) = _
  rw [BitVec.toNat_xor, ofInt_i64 a ha, ofInt_i64 b hb, IntKind.wrap_i64]
  omega
set_option maxRecDepth 100000 in
theorem xor_nonneg (x : Int) (h0 : 0 ≤ x) (h1 : x ≤ 1000000000000) : 0 ≤ bits .xor .i64 x (x / 64) := by
  obtain ⟨a, rfl⟩ := Int.eq_ofNat_of_zero_le h0
  have e : ((a : Int) / 64) = ((a / 64 : Nat) : Int) := rfl
  rw [e, i64_xor_nat a (a / 64) (by omega) (by omega)]
  exact Int.natCast_nonneg _
/-- The bytes at A can be read. -/
def Byts (w : World) (A : Option Addr) (n : Nat) : Prop := 0 < n → ∃ ad, A = some ad ∧ ∀ j, j < n → ∃ b : Int, 0 ≤ b ∧ b ≤ 255 ∧ w.cell? (ad.add j) = some (.int .u8 b)
set_option maxRecDepth 100000 in
theorem Byts.below {w w' : World} {A : Option Addr} {n : Nat} (h : Byts w A n) (hb : Below w.heap.size w w') : Byts w' A n := by
  intro hn
  obtain ⟨ad, e, hc⟩ := h hn
  refine ⟨ad, e, fun j hj => ?_⟩
  obtain ⟨b, h0, h1, h2⟩ := hc j hj
  exact ⟨b, h0, h1, (hb.cell (World.block_lt_of_cell? w _ h2)).trans h2⟩
/-- Block rb is a reader at place p; the bytes lie in older blocks. -/
structure Rd (w : World) (rb p : Nat) : Prop where
  ex : ∃ (A : Option Addr) (n c : Nat), w.heap[rb]? = some (.cells #[.slice A n c, .int .i64 p] 111 (0, 0)) ∧ n ≤ 2000 ∧ Byts w A n ∧ ∀ ad, A = some ad → 0 < n → ad.block < rb
  le : p ≤ 1000000
set_option maxRecDepth 100000 in
theorem Rd.lt {w : World} {rb p : Nat} (h : Rd w rb p) : rb < w.heap.size := by
  obtain ⟨A, n, c, hh, _⟩ := h.ex
  exact (Array.getElem?_eq_some_iff.1 hh).1
set_option maxRecDepth 100000 in
theorem Rd.below {w w' : World} {rb p : Nat} (h : Rd w rb p) (hb : Below w.heap.size w w') : Rd w' rb p := by
  obtain ⟨A, n, c, hh, h1, h2, h3⟩ := h.ex
  exact ⟨⟨A, n, c, (hb.block rb h.lt).trans hh, h1, h2.below hb, h3⟩, h.le⟩
set_option maxRecDepth 100000 in
theorem Rd.drewN {w : World} {rb p : Nat} (h : Rd w rb p) (n : Nat) : Rd (w.drewN n) rb p := ⟨h.ex, h.le⟩
set_option maxRecDepth 100000 in
theorem Rd.grown {w w' : World} {rb p : Nat} {row : Option Nat} (h : Rd w rb p) (hg : w.grownBy w' row) (hr : ∀ k, row = some k → rb < k) : Rd w' rb p := by
  obtain ⟨A, n, c, hh, h1, h2, h3⟩ := h.ex
  refine ⟨⟨A, n, c, (hg.block rb h.lt (fun e => by have := hr rb e.symm; omega)).trans hh, h1, fun hn => ?_, h3⟩, h.le⟩
  obtain ⟨ad, e, hc⟩ := h2 hn
  have hlt := h3 ad e hn
  refine ⟨ad, e, fun j hj => ?_⟩
  obtain ⟨b, q0, q1, q2⟩ := hc j hj
  refine ⟨b, q0, q1, ?_⟩
  rw [← q2]
  exact World.cell?_of_block (w := w) (by
    rw [block_add]
    refine hg.block _ (by have := h.lt; omega) (fun e => by have := hr _ e.symm; omega))
/-- A pick: a number from 0 to n - 1; the reader goes on by one place; nothing else turns. -/
def Pick (w : World) (rb p : Nat) (n : Int) (e : Ending) (w' : World) : Prop := ∃ x : Int, 0 ≤ x ∧ x < n ∧ e = .returned (.int .i64 x) ∧ Rd w' rb (p + 1) ∧ w.grownBy w' (some rb)
set_option maxRecDepth 100000 in
set_option maxHeartbeats 1600000 in
theorem pick_any (rb p : Nat) (n : Int) (w : World) (h : Rd w rb p) (hp : p < 1000000) (hn : 1 ≤ n) (hn1 : n ≤ 1000000) :
    Calls Try.prog 67 #[.pointer (some ⟨rb, 0, none⟩), .int .i64 n] w (Pick w rb p n) := by
  obtain ⟨A, m, c, hh, hm, hb, hlt⟩ := h.ex
  have c0 : w.cell? ⟨rb, 0, none⟩ = some (.slice A m c) := cell_of_row w rb 0 _ _ _ hh
  have c1 : w.cell? ⟨rb, 1, none⟩ = some (.int .i64 p) := cell_of_row w rb 1 _ _ _ hh
  have f1 : w.frozen? ⟨rb, 1, none⟩ = false := frozen_of_row w rb 1 _ _ hh
  have hW : ∀ n' : Int, n' = p + 1 → Rd (w.setCell ⟨rb, 1, none⟩ (.int .i64 n')) rb (p + 1) ∧ w.grownBy (w.setCell ⟨rb, 1, none⟩ (.int .i64 n')) (some rb) := by
    intro n' hn'
    have hg := grown_setCell (grown_refl w (some rb)) 1 (.int .i64 n')
    refine ⟨⟨⟨A, m, c, ?_, hm, fun hm0 => ?_, hlt⟩, by omega⟩, hg⟩
    · rw [heap_setCell_same w rb 1 _ _ _ hh]
      simp [hn']
    · obtain ⟨ad, e, hc⟩ := hb hm0
      have hl := hlt ad e hm0
      refine ⟨ad, e, fun j hj => ?_⟩
      obtain ⟨b, q0, q1, q2⟩ := hc j hj
      refine ⟨b, q0, q1, ?_⟩
      rw [← q2]
      exact World.cell?_setCell_other w _ _ _ (fun e => by have e2 := congrArg Addr.block e; rw [block_add] at e2; simp at e2; omega)
  have HW := Lib.hid hW
  clear hW
  by_cases hm0 : m = 0
  · subst hm0
    clear hb hlt
    go_enter Try.func67, Try.ntmps67
    go_wp2
    go_ret
    exact ⟨0, by omega, by omega, rfl, HW.out _ rfl⟩
  · obtain ⟨ad, rfl, hc⟩ := hb (by omega)
    have hl := hlt ad rfl (by omega)
    have hmz : ((m : Int) == 0) = false := by simp; omega
    have far : ∀ (j : Nat) (u : Value), (w.setCell ⟨rb, 1, none⟩ u).cell? (ad.add j) = w.cell? (ad.add j) := fun j u =>
      World.cell?_setCell_other w _ _ _ (fun e => by have e2 := congrArg Addr.block e; rw [block_add] at e2; simp at e2; omega)
    have hnz : (n == 0) = false := by simp; omega
    clear hb hlt
    by_cases hpm : p < m
    · obtain ⟨b, hb0, hb1, hcb⟩ := hc p hpm
      have hcb' : (w.setCell ⟨rb, 1, none⟩ (.int .i64 (p + 1))).cell? (ad.add p) = some (.int .u8 b) := (far p _).trans hcb
      have hr0 := Int.emod_nonneg b (show n ≠ 0 by omega)
      have hr1 := Int.emod_lt_of_pos b (show 0 < n by omega)
      clear far hc hm0
      go_enter Try.func67, Try.ntmps67
      go_wp2
      go_ret
      exact ⟨b % n, hr0, hr1, rfl, HW.out _ rfl⟩
    · obtain ⟨i1, t1, h1⟩ : ∃ i1 : Nat, Int.tmod (p : Int) (m : Int) = (i1 : Int) ∧ i1 < m := ⟨p % m, rfl, Nat.mod_lt _ (by omega)⟩
      obtain ⟨i2, t2, h2⟩ : ∃ i2 : Nat, Int.tmod ((p : Int) * 7 + 3) (m : Int) = (i2 : Int) ∧ i2 < m := ⟨(p * 7 + 3) % m, rfl, Nat.mod_lt _ (by omega)⟩
      obtain ⟨d, t3, hdm⟩ : ∃ d : Nat, Int.tdiv (p : Int) (m : Int) = (d : Int) ∧ d ≤ p := ⟨p / m, rfl, Nat.div_le_self _ _⟩
      obtain ⟨b1, hb10, hb11, hcb1⟩ := hc _ h1
      obtain ⟨b2, hb20, hb21, hcb2⟩ := hc _ h2
      have hcb1' : (w.setCell ⟨rb, 1, none⟩ (.int .i64 (p + 1))).cell? (ad.add i1) = some (.int .u8 b1) := (far _ _).trans hcb1
      have hcb2' : (w.setCell ⟨rb, 1, none⟩ (.int .i64 (p + 1))).cell? (ad.add i2) = some (.int .u8 b2) := (far _ _).trans hcb2
      have hpm' : m ≤ p := by omega
      have hmi : ¬((m : Int) = 0) := by omega
      have u1 : IntKind.i64.wrap ((p : Int) * 7) = p * 7 := IntWalk.i64_in _ (by omega)
      have u2 : IntKind.i64.wrap ((p : Int) * 7 + 3) = p * 7 + 3 := IntWalk.i64_in _ (by omega)
      have u3 : IntKind.i64.wrap (d : Int) = d := IntWalk.i64_in _ (by omega)
      have u4 : IntKind.i64.wrap ((d : Int) * 53) = d * 53 := IntWalk.i64_in _ (by omega)
      have u5 : IntKind.i64.wrap (b1 * 131) = b1 * 131 := IntWalk.i64_in _ (by omega)
      have u6 : IntKind.i64.wrap (b2 * 1117) = b2 * 1117 := IntWalk.i64_in _ (by omega)
      have u7 : IntKind.i64.wrap ((p : Int) * 29) = p * 29 := IntWalk.i64_in _ (by omega)
      have u8 : IntKind.i64.wrap (b1 * 131 + b2 * 1117) = b1 * 131 + b2 * 1117 := IntWalk.i64_in _ (by omega)
      have u9 : IntKind.i64.wrap (b1 * 131 + b2 * 1117 + p * 29) = b1 * 131 + b2 * 1117 + p * 29 := IntWalk.i64_in _ (by omega)
      have u10 : IntKind.i64.wrap (b1 * 131 + b2 * 1117 + p * 29 + d * 53) = b1 * 131 + b2 * 1117 + p * 29 + d * 53 := IntWalk.i64_in _ (by omega)
      have u11 : IntKind.i64.wrap b1 = b1 := IntWalk.i64_in _ (by omega)
      have u12 : IntKind.i64.wrap b2 = b2 := IntWalk.i64_in _ (by omega)
      have x0 := xor_nonneg (b1 * 131 + b2 * 1117 + p * 29 + d * 53) (by omega) (by omega)
      have hr0 := Int.emod_nonneg (bits .xor .i64 (b1 * 131 + b2 * 1117 + p * 29 + d * 53) ((b1 * 131 + b2 * 1117 + p * 29 + d * 53) / 64)) (show n ≠ 0 by omega)
      have hr1 := Int.emod_lt_of_pos (bits .xor .i64 (b1 * 131 + b2 * 1117 + p * 29 + d * 53) ((b1 * 131 + b2 * 1117 + p * 29 + d * 53) / 64)) (show 0 < n by omega)
      clear far hc hcb1 hcb2
      go_enter Try.func67, Try.ntmps67
      go_wp2
      go_quiet (fail)
      clear t1 t2 t3 u1 u2 u3 u4 u5 u6 u7 u8 u9 u10 u11 u12
      go_wp2
      go_ret
      exact ⟨_, hr0, hr1, rfl, (HW.out _ rfl).1.drewN _, grown_drewN (HW.out _ rfl).2 _⟩
/-- Only the reader, and what is new, has turned. -/
def Dr (rb : Nat) (w w' : World) : Prop := Btw rb (rb + 1) w w'
set_option maxRecDepth 100000 in
theorem Dr.refl (rb : Nat) (w : World) : Dr rb w w := Btw.refl _ _ _
set_option maxRecDepth 100000 in
theorem Dr.of_grown {rb : Nat} {w w' : World} (h : w.grownBy w' (some rb)) : Dr rb w w' := Btw.of_grown h (fun k hk => by injection hk; omega)
set_option maxRecDepth 100000 in
theorem Dr.trans {rb : Nat} {a b c : World} (h : Dr rb a b) (k : Dr rb b c) : Dr rb a c := Btw.trans h k
set_option maxRecDepth 100000 in
theorem Dr.below {rb : Nat} {a b c : World} (h : Dr rb a b) (k : Below a.heap.size b c) : Dr rb a c :=
  ⟨k.os.trans h.os, k.tape.trans h.tape, k.output.trans h.output, Nat.le_trans h.size k.size, fun i hi hn => (k.block i hi).trans (h.block i hi hn)⟩
set_option maxRecDepth 100000 in
theorem Dr.drewN {rb : Nat} {a b : World} (h : Dr rb a b) (n : Nat) : Dr rb a (b.drewN n) := ⟨h.os, h.tape, h.output, h.size, h.block⟩
set_option maxRecDepth 100000 in
theorem Dr.drew {rb : Nat} {a b : World} (h : Dr rb a b) : Dr rb a b.drew := ⟨h.os, h.tape, h.output, h.size, h.block⟩
set_option maxRecDepth 100000 in
theorem Dr.alloc {rb : Nat} {a b : World} (h : Dr rb a b) (o : Obj) : Dr rb a (b.alloc o) := h.below ((Below.refl _ _).alloc h.size o)
set_option maxRecDepth 100000 in
theorem Dr.setCell {rb : Nat} {a b : World} (h : Dr rb a b) {p : Addr} (hp : a.heap.size ≤ p.block) (u : Value) : Dr rb a (b.setCell p u) := h.below ((Below.refl _ _).setCell hp u)
set_option maxRecDepth 100000 in
/-- What the reader's owner made before the reader is as it was. -/
theorem Dr.to_below {rb : Nat} {a b : World} (h : Dr rb a b) {B : Nat} (hB : B ≤ rb) (hs : B ≤ a.heap.size) : Below B a b := ⟨h.os, h.tape, h.output, h.size, fun k hk => h.block k (by omega) (.inl (by omega))⟩
set_option maxRecDepth 100000 in
theorem OwnI.dr {rb : Nat} {w w' : World} {base : Nat} {A : Option Addr} {c : Nat} {xs : List Int} (h : OwnI w base A c xs) (hd : Dr rb w w') (hr : rb < base) : OwnI w' base A c xs :=
  h.btw hd (fun k hk => by have := h.block k hk; omega)
set_option maxRecDepth 100000 in
theorem OwnN.dr {rb : Nat} {w w' : World} {base : Nat} {A : Option Addr} {n c : Nat} {xs : List Int} (h : OwnN w base A n c xs) (hd : Dr rb w w') (hr : rb < base) : OwnN w' base A n c xs := ⟨h.1, h.2.dr hd hr⟩
set_option maxRecDepth 100000 in
theorem OwnN.alloc' {w : World} {base : Nat} {A : Option Addr} {n c : Nat} {xs : List Int} (h : OwnN w base A n c xs) (o : Obj) : OwnN (w.alloc o) base A n c xs := ⟨h.1, h.2.alloc o⟩
set_option maxRecDepth 100000 in
theorem Rd.alloc {w : World} {rb p : Nat} (h : Rd w rb p) (o : Obj) : Rd (w.alloc o) rb p := h.below ((Below.refl _ _).alloc (Nat.le_refl _) o)
set_option maxRecDepth 100000 in
theorem Rd.below' {w w' : World} {rb p B : Nat} (h : Rd w rb p) (hb : Below B w w') (hB : rb < B) : Rd w' rb p := by
  obtain ⟨A, n, c, hh, h1, h2, h3⟩ := h.ex
  refine ⟨⟨A, n, c, (hb.block rb hB).trans hh, h1, fun hn => ?_, h3⟩, h.le⟩
  obtain ⟨ad, e, hc⟩ := h2 hn
  have hlt := h3 ad e hn
  refine ⟨ad, e, fun j hj => ?_⟩
  obtain ⟨b, q0, q1, q2⟩ := hc j hj
  exact ⟨b, q0, q1, (hb.cell (by rw [block_add]; omega)).trans q2⟩
set_option maxRecDepth 100000 in
theorem Rd.setCell {w : World} {rb p : Nat} (h : Rd w rb p) {a : Addr} (ha : rb < a.block) (u : Value) : Rd (w.setCell a u) rb p := h.below' (B := a.block) ((Below.refl _ _).setCell (Nat.le_refl _) u) ha
set_option maxRecDepth 100000 in
theorem Dr.cell {rb : Nat} {w w' : World} (h : Dr rb w w') {a : Addr} {v : Value} (hc : w.cell? a = some v) (hne : a.block ≠ rb) : w'.cell? a = some v :=
  (World.cell?_of_block (w := w) (h.block _ (World.block_lt_of_cell? w _ hc) (by omega))).trans hc
set_option maxRecDepth 100000 in
theorem Dr.size {rb : Nat} {w w' : World} (h : Dr rb w w') : w.heap.size ≤ w'.heap.size := Btw.size h
/-- A pick, its number a natural one. -/
def PickN (w : World) (rb p : Nat) (n : Int) (e : Ending) (w' : World) : Prop := ∃ q : Nat, (q : Int) < n ∧ e = .returned (.int .i64 q) ∧ Rd w' rb (p + 1) ∧ Dr rb w w'
set_option maxRecDepth 100000 in
theorem pick_n (rb p : Nat) (n : Int) (w : World) (h : Rd w rb p) (hp : p < 1000000) (hn : 1 ≤ n) (hn1 : n ≤ 1000000) :
    Calls Try.prog 67 #[.pointer (some ⟨rb, 0, none⟩), .int .i64 n] w (PickN w rb p n) :=
  (pick_any rb p n w h hp hn hn1).mono fun e w' ⟨x, h0, h1, he, hr, hg⟩ => by
    obtain ⟨q, rfl⟩ := Int.eq_ofNat_of_zero_le h0
    exact ⟨q, h1, he, hr, Dr.of_grown hg⟩
/-- A new reader. -/
def Opened (w : World) (e : Ending) (w' : World) : Prop := ∃ rb, e = .returned (.pointer (some ⟨rb, 0, none⟩)) ∧ w.heap.size ≤ rb ∧ Rd w' rb 0 ∧ Below w.heap.size w w'
set_option maxRecDepth 100000 in
set_option maxHeartbeats 400000 in
theorem l6Open_any (A : Option Addr) (n c : Nat) (w : World) (h : Byts w A n) (hn : n ≤ c) (hc : c ≤ maxLen) :
    Calls Try.prog 47 #[.slice A n c] w (Opened w) := by
  unfold maxLen at hc
  by_cases hl : n ≤ 2000
  · go_enter Try.func47, Try.ntmps47
    go_wp2
    go_ret
    refine ⟨w.heap.size, rfl, Nat.le_refl _, ⟨⟨A, n, c, heap_alloc_new w _, hl, h.below ((Below.refl _ _).alloc (Nat.le_refl _) _), fun ad e h0 => ?_⟩, by omega⟩, (Below.refl _ _).alloc (Nat.le_refl _) _⟩
    obtain ⟨ad', e', hc'⟩ := h h0
    obtain ⟨b, _, _, hb⟩ := hc' 0 h0
    have := World.block_lt_of_cell? w _ hb
    rw [block_add] at this
    rw [e] at e'
    injection e' with e'
    rw [e']
    exact this
  · have hl2 : 2000 < n := by omega
    obtain ⟨ad, rfl, hcb⟩ := h (by omega)
    have hb2 : Byts w (some ad) 2000 := fun _ => ⟨ad, rfl, fun j hj => hcb j (by omega)⟩
    clear hcb
    go_enter Try.func47, Try.ntmps47
    go_wp2
    go_ret
    refine ⟨w.heap.size, rfl, Nat.le_refl _, ⟨⟨some ad, 2000, c, heap_alloc_new w _, by omega, hb2.below ((Below.refl _ _).alloc (Nat.le_refl _) _), fun ad' e h0 => ?_⟩, by omega⟩, (Below.refl _ _).alloc (Nat.le_refl _) _⟩
    obtain ⟨ad2, e2, hc2⟩ := hb2 h0
    obtain ⟨b, _, _, hb⟩ := hc2 0 h0
    have := World.block_lt_of_cell? w _ hb
    rw [block_add] at this
    rw [e] at e2
    injection e2 with e2
    rw [e2]
    exact this
/-- A draw of a slice of n ints. -/
def DrawI (w : World) (rb p K : Nat) (n : Nat) (e : Ending) (w' : World) : Prop :=
  ∃ (A : Option Addr) (c : Nat) (xs : List Int) (p' : Nat), e = .returned (.slice A n c) ∧ OwnN w' w.heap.size A n c xs ∧ p' ≤ p + K ∧ Rd w' rb p' ∧ Dr rb w w'
end Go.Proofs.Ytiinfbjlkbjmmaa
