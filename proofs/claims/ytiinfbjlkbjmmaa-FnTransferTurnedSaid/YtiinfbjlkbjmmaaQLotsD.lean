/-
  Lots that are drawn.
-/
import Derived.Test.YtiinfbjlkbjmmaaQDraw
import Derived.Test.YtiinfbjlkbjmmaaQDrawV
import Derived.Test.YtiinfbjlkbjmmaaQLots
import Derived.Test.YtiinfbjlkbjmmaaQShare
import Derived.Deep.RegionLaw
namespace Go.Proofs.Ytiinfbjlkbjmmaa
open Go.RowKit
set_option maxRecDepth 100000 in
theorem Ints.drop {w : World} {g : Nat} {xs : List Int} (h : Ints w (some ⟨g, 0, none⟩) xs) (k : Nat) : Ints w (some ⟨g, k, none⟩) (xs.drop k) := by
  intro hn
  obtain ⟨ad, e, hc⟩ := h (by simp at hn; omega)
  injection e with e
  subst e
  refine ⟨_, rfl, fun j x hx => ?_⟩
  rw [List.getElem?_drop] at hx
  have := hc _ _ hx
  rw [add_row] at this
  rw [show (⟨g, k, none⟩ : Addr).add j = ⟨g, k + j, none⟩ from by unfold Addr.add; split <;> simp_all]
  exact this
set_option maxRecDepth 100000 in
theorem Ints.empty (w : World) (A : Option Addr) {xs : List Int} (h : xs.length = 0) : Ints w A xs := fun hn => absurd hn (by omega)
set_option maxRecDepth 100000 in
theorem OwnN.takeN {w : World} {base n c : Nat} {A : Option Addr} {xs : List Int} (h : OwnN w base A n c xs) {k : Nat} (hk : k ≤ n) (hA : 0 < n) : OwnN w base A k c (xs.take k) := by
  obtain ⟨rfl, h⟩ := h
  refine ⟨by simp; omega, ?_⟩
  rcases h.2 with ⟨hv, h0⟩ | ⟨g, cap, cur, hv, hb, hg, h1, h2, h3, h4⟩
  · omega
  · injection hv with hA hB hC
    subst hA
    subst hC
    have hl : (xs.take k).length = k := by simp; omega
    refine ⟨by simp, .inr ⟨g, c, cur, rfl, hb, hg, by omega, h2, h3, ?_⟩⟩
    rw [hl, List.map_take, ← h4, List.take_take, Nat.mul_one, Nat.mul_one, Nat.min_eq_left (by omega)]
set_option maxRecDepth 100000 in
/-- append of some ints in a region that draws its order. -/
theorem step_appS (w : World) {ops : Array Oper} {o : Oper} {a : Act} {K : Act → World → Prop} {Q : Exit → Act → World → Prop} {E : Prop}
    (hg : o.guard = none) (s x : Operand) (ho : o.op = .call { callee := .builtin .append, args := #[s, x], argTypes := #[23, 23] })
    (base : Nat) (A : Option Addr) (n c : Nat) (xs : List Int) (hs : a.eval s = .slice A n c) (hown : OwnN w base A n c xs) (hbase : base ≤ w.heap.size) (hn : n ≤ 1048576)
    (ad : Addr) (ys : List Int) (l cc : Nat) (hx : a.eval x = .slice (some ad) l cc) (hl : ys.length = l) (hl2 : l ≤ 1048576) (hc : Ints w (some ad) ys) (m : Nat) (hm : n + l = m)
    (hK : ∀ A' c' w', OwnN w' base A' m c' (xs ++ ys) → w.grownBy w' (Value.slice A n c).ownBlock → Below base w w' → K (a.put o.dst (.slice A' m c')) w') :
    if Region.wanted o (yielded ops a.tmps) = true then Oper.wp Try.prog o a w K Q else E := by
  have hw : Region.wanted o (yielded ops a.tmps) = true := by simp [Region.wanted, hg]
  rw [if_pos hw]
  obtain ⟨i0, hi, hz0, hz1, hz2⟩ := info_parts infoInt
  subst hm
  refine wp_append_own _ s x 23 ho base 3 i0 (.int .i64 0) 1 8 Try.underlying23 hi hz0 hz1 hz2 rfl (by omega) _ _ _ hs hown.row ad l cc (ys.map (Value.int .i64)) hx (by simp [hl]) ?_ ?_ (by simp only [maxLen]; omega) (by omega) hbase ?_
  · intro j u hj
    rw [List.getElem?_map] at hj
    cases hy : ys[j]? with
    | none => rw [hy] at hj; cases hj
    | some y =>
      rw [hy] at hj
      injection hj with hj
      subst hj
      exact hc.cell_of hy
  · intro u hu
    rw [List.mem_map] at hu
    obtain ⟨y, _, rfl⟩ := hu
    rfl
  · intro v' w' h1 h2 _
    obtain ⟨A', c', rfl⟩ := row_form h1
    exact hK A' c' w' (ownN_of_row (by simpa using h1)) h2 (below_of_grown h2 hbase (fun k hk => (World.ownsRow.lt hown.row k hk).1))
/-- New lots of n candidates. -/
def LotsR (w : World) (n : Nat) (e : Ending) (w' : World) : Prop := ∃ A c xs, e = .returned (.tuple #[.slice A n c, .bool true]) ∧ OwnN w' w.heap.size A n c xs ∧ Below w.heap.size w w'
structure LotSt (w wr : World) (j n : Nat) (A : Option Addr) (c : Nat) (xs : List Int) (g2 d2 : Nat) (ys : List Int) : Prop where
  rest : OwnN wr w.heap.size A j c xs
  out : OwnN wr w.heap.size (some ⟨g2, 0, none⟩) n d2 ys
  far : ∀ k, (Value.slice A j c).ownBlock = some k → k ≠ g2
  bel : Below w.heap.size w wr
  lt : g2 < wr.heap.size
def lenV : Value → Nat
  | .slice _ n _ => n
  | _ => 0
set_option maxRecDepth 100000 in
set_option maxHeartbeats 1600000 in
theorem specLotsOf_any (n : Nat) (s : Int) (w : World) (h1 : 1 ≤ n) (h5 : n ≤ 5) (hs0 : 0 ≤ s) (hs1 : s ≤ 999) :
    Calls Try.prog 106 #[.int .i64 n, .int .i64 s] w (LotsR w n) := by
  have i1 : inB n 1 5 = true := inB_t ⟨by omega, by omega⟩
  have i2 : inB s 0 999 = true := inB_t ⟨hs0, hs1⟩
  go_enter Try.func106, Try.ntmps106
  go_wp2_with (go_at_call 86; refine (l6In_any _ _ _ _).mono ?_; rintro e w' ⟨rfl, rfl⟩)
  go_loopw [6, 7] (fun o i wr => ∃ (k g c : Nat) (xs : List Int), k ≤ n ∧ i = .int .i64 k ∧ o = .slice (some ⟨g, 0, none⟩) k c ∧ OwnN wr w.heap.size (some ⟨g, 0, none⟩) k c xs ∧ g < wr.heap.size ∧ Below w.heap.size w wr) (fun _ i _ => n - (intOf i).toNat)
  case atStart => exact ⟨0, _, _, [], by omega, rfl, rfl, ⟨rfl, own_empty w (Nat.le_refl _)⟩, by simp, (Below.refl _ _).alloc (Nat.le_refl _) _⟩
  case round =>
    obtain ⟨k, g, c, xs, hk, rfl, rfl, hown, hg, hbel⟩ := hrel
    have hsz := hbel.size
    by_cases hlt : k < n
    · go_wp2_with (at_builtin; refine wpList_app1L _ rfl (.tmp 25) (.tmp 27) rfl w.heap.size g k c _ rfl hown hsz (by omega) _ rfl ?_; intro g' c' w' hown' hgr' hbl' hw' hz')
      go_roundw
      case rel => exact ⟨k + 1, g', c', _, by omega, by go_num, rfl, hown', hz', hbel.trans hbl'⟩
      case measure => simp [intOf]; omega
    · obtain rfl : k = n := by omega
      clear hlt i1 i2
      obtain ⟨wo, rfl⟩ : ∃ wo : World, wo = wr := ⟨_, rfl⟩
      go_wp2
      go_loopw [1, 6, 8, 9] (fun sd r o _ wr2 => ∃ (j : Nat) (A : Option Addr) (c g2 d2 m : Nat) (t : Int) (xs ys : List Int), j + m = k ∧ 0 ≤ t ∧ t ≤ 999 ∧ sd = .int .i64 t ∧ r = .slice A j c ∧ o = .slice (some ⟨g2, 0, none⟩) m d2 ∧ LotSt w wr2 j m A c xs g2 d2 ys) (fun _ r _ _ _ => lenV r)
      case atStart => exact ⟨k, _, c, _, 0, 0, s, xs, [], by omega, hs0, hs1, rfl, rfl, rfl, ⟨hown.alloc _, ⟨rfl, own_empty wo hsz⟩, fun j hj => by injection hj with hj; have : g = j := hj; omega, hbel.alloc hsz _, by simp⟩⟩
      case round =>
        clear hown hg hbel hsz
        obtain ⟨j, A, c, g2, d2, m, t, xs, ys, hjm, ht0, ht1, rfl, rfl, rfl, S⟩ := hrel
        have HJ := Lib.hid hjm
        have hj5 : j ≤ 5 := by omega
        have hm5 : m ≤ 5 := by omega
        clear hjm
        by_cases hj : 0 < j
        · obtain ⟨g1, rfl, hg1b, hg1l⟩ := S.rest.form hj
          obtain ⟨q, hq, hqj⟩ : ∃ q : Nat, t % (j : Int) = (q : Int) ∧ q < j := by
            obtain ⟨q, hq⟩ := Int.eq_ofNat_of_zero_le (Int.emod_nonneg t (show (j : Int) ≠ 0 by omega))
            have := Int.emod_lt_of_pos t (show (0 : Int) < j by omega)
            exact ⟨q, hq, by omega⟩
          obtain ⟨t', ht', t0', t1'⟩ : ∃ t' : Int, t / (j : Int) = t' ∧ 0 ≤ t' ∧ t' ≤ 999 := ⟨_, rfl, Int.ediv_nonneg ht0 (by omega), Int.le_trans (Int.ediv_le_self _ ht0) ht1⟩
          have hjl : xs.length = j := S.rest.1
          obtain ⟨x, hx⟩ : ∃ x, xs[q]? = some x := ⟨_, List.getElem?_eq_getElem (by omega)⟩
          have hx := Lib.hid hx
          have hcap : j ≤ c := by have := S.rest.2.le_cap; omega
          have HJL := Lib.hid hjl
          have hne : g1 ≠ g2 := S.far g1 rfl
          have hcell : wr.cell? ⟨g1, q, none⟩ = some (.int .i64 x) := S.rest.2.cell hx.out
          have hjz : ¬ (j : Int) = 0 := by omega
          have hsz := S.bel.size
          clear hjl
          go_wp2_with (at_builtin; refine wpList_app1L _ rfl (.tmp 41) (.tmp 46) rfl w.heap.size g2 m d2 _ rfl S.out hsz (by omega) _ rfl ?_; intro g2' d2' w3 ho3 hg3 hb3 hw3 hz3)
          have hx0 := hg3.size
          have R3 : OwnN w3 w.heap.size (some ⟨g1, 0, none⟩) j c xs := ⟨S.rest.1, S.rest.2.grown hg3 (fun k hk e => by
            injection hk with hk
            injection e with e
            exact hne (e.trans hk.symm))⟩
          have E1 : OwnN (w3.drew.alloc (.cells #[] 3)) w3.heap.size (some ⟨w3.heap.size, 0, none⟩) 0 0 [] := ⟨rfl, own_empty w3.drew (Nat.le_refl _)⟩
          have I1 : Ints (w3.drew.alloc (.cells #[] 3)) (some ⟨g1, 0, none⟩) (xs.take q) := (R3.2.drewN 1).alloc _ |>.ints.take q
          have L1 : Hid ((xs.take q).length = q) := by show _ = _; rw [List.length_take, HJL.out]; omega
          have L2 : Hid ((xs.drop (q + 1)).length = j - (q + 1)) := by show _ = _; rw [List.length_drop, HJL.out]
          have R4 := Lib.hid (fun (w4 : World) (hg : (w3.drew.alloc (.cells #[] 3)).grownBy w4 (Value.slice (some ⟨w3.heap.size, 0, none⟩) 0 0).ownBlock) => (((R3.2.drewN 1).alloc (.cells #[] 3)).grown hg (fun k hk e => by
            injection hk with hk
            injection e with e
            have : g1 = w3.heap.size := e.trans hk.symm
            omega)).ints)
          have hwr : IntKind.i64.wrap ((q : Int) + 1) = (q : Int) + 1 := IntWalk.i64_in _ (by omega)
          have hp0 : (0 : Int) ≤ (q : Int) + 1 := by omega
          have hp1 : (q : Int) + 1 ≤ (j : Int) := by omega
          have hp2 : ((q : Int) + 1).toNat = q + 1 := by omega
          have hqc : q ≤ c := by omega
          have hq1 : (q : Int) ≤ (q : Int) + 1 := by omega
          have L3 : Hid (([] : List Int).length = 0) := rfl
          clear hq ht'
          have hb5' : ∀ {w4 w5 : World}, Below w3.heap.size (w3.drew.alloc (.cells #[] 3)) w4 → Below w3.heap.size w4 w5 → Below w3.heap.size w3 w5 := fun h4 h5 => (((Below.refl _ _).drew).alloc (Nat.le_refl _) _).trans h4 |>.trans h5
          by_cases hcq : c = q + 1
          · go_region_law (first | (refine step_appS _ rfl (.tmp 48) (.tmp 51) rfl w3.heap.size (some ⟨w3.heap.size, 0, none⟩) 0 0 [] (by simp [Act.eval]) E1 (by simp) (by omega) ⟨g1, 0, none⟩ (xs.take q) q c (by simp [Act.eval] <;> omega) L1.out (by omega) I1 q (by omega) ?_; intro A4 c4 w4 h4 hg4 hb4) | (refine step_appS _ rfl (.tmp 52) (.tmp 56) rfl w3.heap.size A4 q c4 _ (by simp [Act.eval]) h4 (by have := hg4.size; simp at this; omega) (by omega) ⟨g1, 0, none⟩ [] 0 0 (by simp [Act.eval] <;> omega) L3.out (by omega) (Ints.nil _ _) (j - 1) (by omega) ?_; intro A5 c5 w5 h5 hg5 hb5))
            all_goals
              go_roundw
              case rel =>
                have q1 := hb5' hb4 hb5
                have q2 := q1.size
                have q3 := hg3.size
                have q4 := HJ.out
                have q5 : ∀ k, (Value.slice A5 (j - 1) c5).ownBlock = some k → k ≠ g2' := fun k hk => by have := (h5.2.block k (by rw [h5.1]; exact hk)).1; omega
                have q6 := S.bel.trans (hb3.trans (q1.mono (by omega)))
                first
                  | exact ⟨j - 1, A5, c5, g2', d2', m + 1, t', _, _, by omega, t0', t1', rfl, rfl, rfl, ⟨⟨h5.1, h5.2.mono (by omega)⟩, ⟨ho3.1, OwnI.below ho3.2 q1⟩, q5, q6, by omega⟩⟩
                  | (repeat apply Exists.intro); exact ⟨⟨j - 1, A5, c5, g2', d2', m + 1, t', _, _, by omega, t0', t1', rfl, rfl, rfl, ⟨⟨h5.1, h5.2.mono (by omega)⟩, ⟨ho3.1, OwnI.below ho3.2 q1⟩, q5, q6, by omega⟩⟩, rfl⟩
              case measure => simp [lenV, Act.put]; omega
          · go_region_law (first | (refine step_appS _ rfl (.tmp 48) (.tmp 51) rfl w3.heap.size (some ⟨w3.heap.size, 0, none⟩) 0 0 [] (by simp [Act.eval]) E1 (by simp) (by omega) ⟨g1, 0, none⟩ (xs.take q) q c (by simp [Act.eval]) L1.out (by omega) I1 q (by omega) ?_; intro A4 c4 w4 h4 hg4 hb4) | (refine step_appS _ rfl (.tmp 52) (.tmp 56) rfl w3.heap.size A4 q c4 _ (by simp [Act.eval]) h4 (by have := hg4.size; simp at this; omega) (by omega) ⟨g1, q + 1, none⟩ (xs.drop (q + 1)) (j - (q + 1)) (c - (q + 1)) (by simp [Act.eval]) L2.out (by omega) ((R4.out _ hg4).drop (q + 1)) (j - 1) (by omega) ?_; intro A5 c5 w5 h5 hg5 hb5))
            all_goals
              go_roundw
              case rel =>
                have q1 := hb5' hb4 hb5
                have q2 := q1.size
                have q3 := hg3.size
                have q4 := HJ.out
                have q5 : ∀ k, (Value.slice A5 (j - 1) c5).ownBlock = some k → k ≠ g2' := fun k hk => by have := (h5.2.block k (by rw [h5.1]; exact hk)).1; omega
                have q6 := S.bel.trans (hb3.trans (q1.mono (by omega)))
                first
                  | exact ⟨j - 1, A5, c5, g2', d2', m + 1, t', _, _, by omega, t0', t1', rfl, rfl, rfl, ⟨⟨h5.1, h5.2.mono (by omega)⟩, ⟨ho3.1, OwnI.below ho3.2 q1⟩, q5, q6, by omega⟩⟩
                  | (repeat apply Exists.intro); exact ⟨⟨j - 1, A5, c5, g2', d2', m + 1, t', _, _, by omega, t0', t1', rfl, rfl, rfl, ⟨⟨h5.1, h5.2.mono (by omega)⟩, ⟨ho3.1, OwnI.below ho3.2 q1⟩, q5, q6, by omega⟩⟩, rfl⟩
              case measure => simp [lenV, Act.put]; omega
        · obtain rfl : j = 0 := by omega
          have hmk : m = k := by have := HJ.out; omega
          have S' := S.out
          have B' := S.bel
          clear S hj
          go_wp2
          go_ret2
          subst hmk
          exact ⟨_, _, _, rfl, S', B'⟩
end Go.Proofs.Ytiinfbjlkbjmmaa
