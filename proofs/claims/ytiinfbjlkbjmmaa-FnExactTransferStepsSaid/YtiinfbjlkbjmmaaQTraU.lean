/-
  Checking steps: the program's.
-/
import Derived.Test.YtiinfbjlkbjmmaaQTraY
import Derived.Test.YtiinfbjlkbjmmaaQTraT
namespace Go.Proofs.Ytiinfbjlkbjmmaa
open Go.RowKit
set_option maxRecDepth 100000 in
set_option maxHeartbeats 1600000 in
theorem stepSame_any (B B' : Option Addr) (fs gs : List (Int × Int)) (d d' : Nat) (o t p u : Int) (w : World) (h : FracsZ w B fs) (h' : FracsZ w B' gs) (hl : fs.length ≤ 1048576) (hl' : gs.length ≤ 1048576) :
    Calls Try.prog 42 #[.agg #[.slice B fs.length d, .int .i64 o, .int .i64 t], .agg #[.slice B' gs.length d', .int .i64 p, .int .i64 u]] w (Bl w (.bool (o == p && (t == u && fs == gs)))) := by
  have hB : Below w.heap.size w ((w.alloc (.cells #[.slice B fs.length d, .int .i64 o, .int .i64 t] 68)).alloc (.cells #[.slice B' gs.length d', .int .i64 p, .int .i64 u] 68)) := (((Below.refl _ w).alloc (Nat.le_refl _) _).alloc (by simp) _)
  have cS := Lib.hid (slicesEqual_any B B' fs gs d d' _ (h.below hB) (h'.below hB) hl hl')
  by_cases hop : o = p
  · subst hop
    have hb : (o == o) = true := by simp
    by_cases htu : t = u
    · subst htu
      have hb2 : (t == t) = true := by simp
      go_enter Try.func42, Try.ntmps42
      go_wp2_with (go_at_call 43; refine cS.out.mono ?_; rintro e w1 ⟨rfl, n1, rfl⟩)
      go_ret
      exact ⟨ret_bool (by simp), below_drewN hB _⟩
    · have hb2 : (t == u) = false := by simp [htu]
      go_enter Try.func42, Try.ntmps42
      go_wp2
      go_ret
      exact ⟨ret_bool (by simp [htu]), hB⟩
  · have hb : (o == p) = false := by simp [hop]
    go_enter Try.func42, Try.ntmps42
    go_wp2
    go_ret
    exact ⟨ret_bool (by simp [hop]), hB⟩
set_option maxRecDepth 100000 in
set_option maxHeartbeats 3200000 in
theorem equalFunc_any (A A' : Option Addr) (xs ys : List Stz) (c c' : Nat) (w : World) (h : StepsZ w A xs) (h' : StepsZ w A' ys) (hl : xs.length ≤ 1048576) (hl' : ys.length ≤ 1048576) :
    Calls Try.prog 41 #[.slice A xs.length c, .slice A' ys.length c', .func (.func 42) #[] #[]] w (Bl w (.bool (xs == ys))) := by
  by_cases hlen : xs.length = ys.length
  · have hne : (((xs.length : Int)) != (ys.length : Int)) = false := by simp [hlen]
    have HL := Lib.hid hlen
    clear hlen
    go_enter Try.func41, Try.ntmps41
    go_wp2
    go_loopw [7, 8, 9, 17] (fun _ _ _ i wr => ∃ k : Nat, k ≤ xs.length ∧ i = .int .i64 k ∧ Hid (xs.take k = ys.take k) ∧ Below w.heap.size w wr) (fun _ _ _ i _ => xs.length - (intOf i).toNat)
    case atStart => exact ⟨0, by omega, rfl, rfl, Below.refl _ _⟩
    case round =>
      obtain ⟨k, hk, rfl, heq, hbel⟩ := hrel
      by_cases hlt : k < xs.length
      · have hlt' : k < ys.length := by have := HL.out; omega
        obtain ⟨ad, B, d, fs, o, t, rfl, hx, hf5, hfd, hfs, hc0, hc1, hc2⟩ := (h.below hbel).at_ hlt
        have hA1 : Below wr.heap.size wr (wr.alloc (.cells #[.slice B fs.length d, .int .i64 o, .int .i64 t] 68)) := (Below.refl _ wr).alloc (Nat.le_refl _) _
        obtain ⟨ad', B', d', gs, p, u, rfl, hy, hg5, hgd, hgs, hc0', hc1', hc2'⟩ := ((h'.below hbel).below hA1).at_ hlt'
        have q1 := (ob0 wr #[.slice B fs.length d, .int .i64 o, .int .i64 t] 68).alloc (.cells #[.slice B' gs.length d', .int .i64 p, .int .i64 u] 68)
        have q2 := ob1 wr (.cells #[.slice B fs.length d, .int .i64 o, .int .i64 t] 68) #[.slice B' gs.length d', .int .i64 p, .int .i64 u] 68
        have k0 := q1.cell 0 rfl
        have k1 := q1.cell 1 rfl
        have k2 := q1.cell 2 rfl
        have k3 := q2.cell 0 rfl
        have k4 := q2.cell 1 rfl
        have k5 := q2.cell 2 rfl
        clear q1 q2
        have hA2 : Below wr.heap.size wr ((wr.alloc (.cells #[.slice B fs.length d, .int .i64 o, .int .i64 t] 68)).alloc (.cells #[.slice B' gs.length d', .int .i64 p, .int .i64 u] 68)) := hA1.alloc (by simp) _
        have hA3 : Below (wr.alloc (.cells #[.slice B fs.length d, .int .i64 o, .int .i64 t] 68)).heap.size (wr.alloc (.cells #[.slice B fs.length d, .int .i64 o, .int .i64 t] 68)) ((wr.alloc (.cells #[.slice B fs.length d, .int .i64 o, .int .i64 t] 68)).alloc (.cells #[.slice B' gs.length d', .int .i64 p, .int .i64 u] 68)) := (Below.refl _ _).alloc (Nat.le_refl _) _
        have hne3 : (fs, o, t) ≠ (gs, p, u) → xs ≠ ys := by
          intro e1 e
          rw [e] at hx
          have := hx.out.symm.trans hy.out
          injection this with this
          exact e1 this
        have HN := Lib.hid hne3
        have heq2 := Lib.hid (show (fs, o, t) = (gs, p, u) → xs.take (k + 1) = ys.take (k + 1) from fun e => by rw [take_snoc _ _ _ hx.out, take_snoc _ _ _ hy.out, heq.out, e])
        have cS := Lib.hid (stepSame_any B B' fs gs d d' o t p u _ (hfs.below hA2) (hgs.below hA3) hf5 hg5)
        have HA := Lib.hid (hbel.trans (hA2.mono hbel.size))
        clear hne3 hA1 hA2 hA3
        cases hb : (o == p && (t == u && fs == gs))
        · rw [hb] at cS
          have HN2 := Lib.hid (HN.out (by intro e; injection e with e1 e; injection e with e2 e3; subst e1 e2 e3; simp at hb))
          clear hb
          go_wp2_with (go_at_call 42; refine cS.out.mono ?_; rintro e w1 ⟨rfl, hb1⟩)
          go_ret
          exact ⟨ret_bool (by simpa using HN2.out), HA.out.trans (hb1.mono HA.out.size)⟩
        · rw [hb] at cS
          have HE := Lib.hid (heq2.out (by simp at hb; obtain ⟨rfl, rfl, rfl⟩ := hb; rfl))
          clear hb
          go_wp2_with (go_at_call 42; refine cS.out.mono ?_; rintro e w1 ⟨rfl, hb1⟩)
          go_roundw
          case rel => exact ⟨k + 1, by omega, by go_num, HE, HA.out.trans (hb1.mono HA.out.size)⟩
          case measure => simp [intOf]; omega
      · have h2 : xs.length ≤ k := by omega
        clear hlt
        go_wp2
        go_ret
        refine ⟨ret_bool ?_, hbel⟩
        have := heq.out
        rw [List.take_of_length_le (by omega), List.take_of_length_le (by have := HL.out; omega)] at this
        simp [this]
  · have hne : (((xs.length : Int)) != (ys.length : Int)) = true := by simp; omega
    go_enter Try.func41, Try.ntmps41
    go_wp2
    go_ret
    exact ⟨ret_bool (by simp; intro e; exact absurd (by rw [e]) hlen), Below.refl _ _⟩
end Go.Proofs.Ytiinfbjlkbjmmaa
