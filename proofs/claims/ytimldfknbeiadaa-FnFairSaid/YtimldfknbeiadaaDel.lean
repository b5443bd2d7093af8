/-
  slices.Delete at ints; lots of the seed 0.
-/
import Derived.Test.YtimldfknbeiadaaLots
import Derived.Test.YtimldfknbeiadaaApp
import Derived.Test.YtimldfknbeiadaaRemS
import Derived.Test.YtimldfknbeiadaaLotsD
import Derived.Deep.RegionLaw
import Derived.Lib.SliceRun
namespace Go.Proofs.Ytimldfknbeiadaa
open Go.RowKit
/-- Some numbers laid over a list from place o on. -/
def layI : List Int → Nat → List Int → List Int
  | xs, _, [] => xs
  | xs, o, v :: r => layI (xs.set o v) (o + 1) r
theorem layI_len (vs : List Int) : ∀ (xs : List Int) (o : Nat), (layI xs o vs).length = xs.length := by
  induction vs with
  | nil => intro xs o; rfl
  | cons v r ih => intro xs o; show (layI (xs.set o v) (o + 1) r).length = _; rw [ih]; simp
theorem layI_at (vs : List Int) : ∀ (xs : List Int) (o k : Nat), o + vs.length ≤ xs.length → (layI xs o vs)[k]? = if o ≤ k ∧ k < o + vs.length then vs[k - o]? else xs[k]? := by
  induction vs with
  | nil => intro xs o k _; rw [if_neg (by simp only [List.length_nil]; omega)]; rfl
  | cons v r ih =>
    intro xs o k hl
    simp only [List.length_cons] at hl ⊢
    show (layI (xs.set o v) (o + 1) r)[k]? = _
    rw [ih _ _ _ (by simp; omega)]
    by_cases h1 : o + 1 ≤ k ∧ k < o + 1 + r.length
    · rw [if_pos h1, if_pos (by omega)]
      obtain ⟨j, hj⟩ : ∃ j, k - o = j + 1 := ⟨k - o - 1, by omega⟩
      rw [hj, show k - (o + 1) = j from by omega]; rfl
    · rw [if_neg h1]
      by_cases h2 : k = o
      · subst h2
        rw [if_pos (by omega), List.getElem?_set_self (by omega), Nat.sub_self]; rfl
      · rw [if_neg (by omega), List.getElem?_set_ne (by omega)]
theorem OwnI.lay {base g c : Nat} (vs : List Int) : ∀ {w : World} {xs : List Int} (o : Nat), OwnI w base (some ⟨g, 0, none⟩) c xs → OwnI (w.setCells g o (vs.map (Value.int .i64))) base (some ⟨g, 0, none⟩) c (layI xs o vs) := by
  induction vs with
  | nil => intro w xs o h; exact h
  | cons v r ih => intro w xs o h; exact ih (o + 1) (h.set o v)
theorem grown_setCells {g : Nat} (vs : List Value) : ∀ {a b : World} (o : Nat), a.grownBy b (some g) → a.grownBy (b.setCells g o vs) (some g) := by
  induction vs with
  | nil => intro a b o h; exact h
  | cons v r ih => intro a b o h; exact ih (o + 1) (grown_setCell h o v)
/-- What is left when the places from i to j are struck. -/
def DelW (w : World) (blk off m cap i j : Nat) (zs : List Int) (e : Ending) (w' : World) : Prop :=
  e = .returned (.slice (some ⟨blk, off, none⟩) (i + (m - j)) cap) ∧ w' = (w.drew.setCells blk (off + i * 1) ((zs.drop j).map (Value.int .i64))).setCells blk (off + (i + (m - j))) (List.replicate (m - (i + (m - j))) (.int .i64 0))
set_option maxHeartbeats 1600000 in
theorem sDelete_any (blk off m cap i j : Nat) (zs : List Int) (w : World) (hl : zs.length = m) (hc : ∀ t x, zs[t]? = some x → w.cell? ⟨blk, off + t, none⟩ = some (.int .i64 x)) (hf : ∀ t, w.frozen? ⟨blk, off + t, none⟩ = false) (hcap : m ≤ cap) (_hm : cap ≤ 9223372036854775807) (hij : i < j) (hj : j ≤ m) :
    Calls Try.prog 65 #[.slice (some ⟨blk, off, none⟩) m cap, .int .i64 i, .int .i64 j] w (DelW w blk off m cap i j zs) := by
  obtain ⟨i0, hi0, hz0, hz1, hz2⟩ := info_parts infoInt
  obtain ⟨news, hnews⟩ : ∃ news, news = (zs.drop j).map (Value.int .i64) := ⟨_, rfl⟩
  have hlen : news.length = m - j := by rw [hnews]; simp [hl]
  have hget : ∀ t u, news[t]? = some u → w.cell? ⟨blk, off + (j + t), none⟩ = some u := by
    intro t u hu
    rw [hnews, List.getElem?_map, List.getElem?_drop] at hu
    cases hx : zs[j + t]? with
    | none => rw [hx] at hu; cases hu
    | some x => rw [hx] at hu; injection hu with hu; subst hu; exact hc _ _ hx
  have hsome : ∀ t, t < m → (w.cell? ⟨blk, off + t, none⟩).isSome = true := fun t ht => by
    rw [hc t zs[t] (List.getElem?_eq_getElem (by omega))]; rfl
  obtain ⟨A, hA, hsrc⟩ : ∃ A : Addr, (if cap = j then some (⟨blk, off, none⟩ : Addr) else some ⟨blk, off + j, none⟩) = some A ∧ Hid (∀ t u, news[t]? = some u → w.drew.cell? (A.add t) = some u) := by
    by_cases h : cap = j
    · refine ⟨⟨blk, off, none⟩, by simp [h], fun t u hu => ?_⟩
      have h0 : news.length = 0 := by rw [hlen]; omega
      rw [List.length_eq_zero_iff.1 h0] at hu
      simp at hu
    · refine ⟨⟨blk, off + j, none⟩, by simp [h], fun t u hu => ?_⟩
      rw [Addr.add_lit, show off + j + t = off + (j + t) by omega]
      exact hget t u hu
  have s1 : Hid (news.length = (m - j) * 1) := by rw [Nat.mul_one]; exact hlen
  have s2 : Hid (∀ u ∈ news, u.oneCell' = true) := by
    intro u hu
    rw [hnews] at hu
    obtain ⟨x, _, rfl⟩ := List.mem_map.1 hu
    rfl
  have s3 : Hid (∀ t, t < news.length → (w.drew.cell? ⟨blk, off + i * 1 + t, none⟩).isSome = true ∧ w.drew.frozen? ⟨blk, off + i * 1 + t, none⟩ = false) := by
    intro t ht
    rw [hlen] at ht
    rw [Nat.mul_one, Nat.add_assoc]
    exact ⟨hsome _ (by omega), hf _⟩
  obtain ⟨W1, hW1⟩ : ∃ W1, W1 = w.drew.setCells blk (off + i * 1) news := ⟨_, rfl⟩
  have hcl : ∀ ty, (Builtin.clear_ #[23] ty #[.slice (some ⟨blk, off + (i + (m - j)), none⟩) (m - (i + (m - j))) (cap - (i + (m - j)))]).run Try.prog W1 = .ok (.tuple #[]) (W1.setCells blk (off + (i + (m - j))) (List.replicate (m - (i + (m - j))) (.int .i64 0))) :=
    fun ty => Lib.run_clear_slice W1 _ _ ty _ Try.underlying23 (fun _ => by kernel_rfl) rfl rfl blk (off + (i + (m - j))) _ _ (by omega) (fun t ht => by
      rw [hW1]
      exact World.isSome_setCells blk _ _ _ _ (by show (w.cell? _).isSome = true; rw [show off + (i + (m - j)) + t = off + (i + (m - j) + t) by omega]; exact hsome _ (by omega))) (fun t ht => by
      rw [hW1, World.frozen?_setCells, show off + (i + (m - j)) + t = off + (i + (m - j) + t) by omega]
      exact hf _)
  have hW : Hid (W1 = w.drew.setCells blk (off + i * 1) news) := hW1
  have HN := Lib.hid hnews
  have hic : i ≤ cap := by omega
  have hjc : j ≤ cap := by omega
  have hne : ((i : Int) == (j : Int)) = false := by simp; omega
  clear hW1 hget hnews hlen hc hf hsome hl
  go_enter Try.func65, Try.ntmps65
  go_wp2_with fail
  go_region_law (refine step_append_room rfl (.tmp 22) (.tmp 25) 23 rfl 3 i0 1 Try.underlying23 hi0 hz1 blk off i cap (by simp [Act.eval, Act.put]) A (m - j) (cap - j) news (by simp [Act.eval, Act.put]) s1.out hsrc.out s2.out (by omega) s3.out ?_; rw [← hW.out])
  go_wp2
  go_ret
  exact ⟨rfl, by rw [hW.out, HN.out]⟩
def Del1 (w : World) (base g n c : Nat) (xs : List Int) (e : Ending) (w' : World) : Prop := e = .returned (.slice (some ⟨g, 0, none⟩) n c) ∧ OwnN w' base (some ⟨g, 0, none⟩) n c (xs.drop 1) ∧ w.grownBy w' (some g)
theorem sDelete1_any (base g n c : Nat) (xs : List Int) (w : World) (h : OwnN w base (some ⟨g, 0, none⟩) (n + 1) c xs) (hn : n ≤ 1000000) :
    Calls Try.prog 65 #[.slice (some ⟨g, 0, none⟩) (n + 1) c, .int .i64 0, .int .i64 1] w (Del1 w base g n c xs) := by
  have hlen := h.1
  have hcap : n + 1 ≤ c := by have := h.2.le_cap; omega
  have hcm : c ≤ 9223372036854775807 := by
    rcases h.2.2 with ⟨hv, h0⟩ | ⟨g', cap, cur, hv, hb, hg, h1, h2, _⟩
    · omega
    · injection hv with _ _ hc
      unfold maxLen at h2
      omega
  refine (sDelete_any g 0 (n + 1) c 0 1 xs w hlen (fun t x hx => by rw [Nat.zero_add]; exact h.2.cell hx) (fun t => by rw [Nat.zero_add]; exact h.2.frozen t) hcap hcm (by omega) (by omega)).mono ?_
  rintro e w' ⟨rfl, rfl⟩
  have o1 := OwnI.lay (xs.drop 1) 0 (h.2.drewN 1)
  have o2 := OwnI.lay [0] n o1
  have e1 : 0 + (n + 1 - 1) = n := by omega
  have e2 : n + 1 - n = 1 := by omega
  refine ⟨by rw [e1], ?_, ?_⟩
  · have o3 : OwnN _ _ _ _ _ _ := ⟨(layI_len [0] _ n).trans ((layI_len _ _ _).trans hlen), o2⟩
    have o4 := o3.takeN (k := n) (by omega) (by omega)
    have e3 : (layI (layI xs 0 (xs.drop 1)) n [0]).take n = xs.drop 1 := by
      apply List.ext_getElem?
      intro k
      rw [List.getElem?_take]
      split
      · rename_i hk
        rw [layI_at _ _ _ _ (by rw [layI_len]; simp; omega), if_neg (by simp; omega), layI_at _ _ _ _ (by simp only [List.length_drop]; omega), if_pos (by simp; omega)]
        simp
      · rw [List.getElem?_eq_none (by simp; omega)]
    rw [e3] at o4
    rw [e1, e2, Nat.zero_add n]
    exact o4
  · exact grown_setCells _ _ (grown_setCells _ _ (grown_drewN (grown_refl w _) 1))
/-- 'append(out, y)', out perhaps nil; where the row lies then is told. -/
theorem wpList_app1V (w : World) {ops : Array Oper} {rest : List Oper} {o : Oper} {a : Act} {Q : Exit → Act → World → Prop}
    (hg : o.guard = none) (s x : Operand) (ho : o.op = .call { callee := .builtin .append, args := #[s, x], argTypes := #[23, 23] })
    (base : Nat) (A : Option Addr) (n c : Nat) (xs : List Int) (hs : a.eval s = .slice A n c) (hown : OwnN w base A n c xs) (hbase : base ≤ w.heap.size) (hn : n ≤ 1048576)
    (y : Int) (hx : a.eval x = .slice (some ⟨w.heap.size, 0, none⟩) 1 1)
    (hK : ∀ g' c' w', OwnN w' base (some ⟨g', 0, none⟩) (n + 1) c' (xs ++ [y]) → w.grownBy w' (Value.slice A n c).ownBlock → Below base w w' → ((Value.slice A n c).ownBlock = some g' ∨ w.heap.size < g') → g' < w'.heap.size → wpList Try.prog ops Q rest (a.put o.dst (.slice (some ⟨g', 0, none⟩) (n + 1) c')) w') :
    wpList Try.prog ops Q (o :: rest) a (w.alloc (.cells #[.int .i64 y] 3)) := by
  obtain ⟨i0, hi, hz0, hz1, hz2⟩ := info_parts infoInt
  refine wpList_append_lies _ hg s x 23 ho base 3 i0 (.int .i64 0) 1 8 Try.underlying23 hi hz0 hz1 hz2 rfl (by omega) _ _ _ hs (OwnN.row ⟨hown.1, hown.2.alloc _⟩) ⟨w.heap.size, 0, none⟩ 1 1 [.int .i64 y] hx rfl ?_ ?_ (by omega) (by simp only [maxLen]; omega) (by omega) (by simp; omega) (w.heap.size + 1) (by simp) ?_
  · intro j u hj
    match j, hj with
    | 0, hj =>
      simp at hj
      subst hj
      exact cell_of_row _ w.heap.size 0 #[.int .i64 y] 3 (0, 0) (heap_alloc_new w _)
  · intro u hu
    simp at hu
    subst hu
    rfl
  · intro g' c' w' h1 h2 h3 h4
    have h5 : w.grownBy w' (Value.slice A n c).ownBlock :=
      ⟨h2.os, h2.tape, h2.output, by have := h2.size; simp at this; omega, fun k hk hne => (h2.block k (heap_lt hk _) hne).trans (Below.heap_alloc w _ k hk)⟩
    refine hK g' c' w' (ownN_of_row (by simpa using h1)) h5 (below_of_grown h5 hbase (fun k hk => (World.ownsRow.lt hown.row k hk).1)) ?_ h4
    rcases h3 with h3 | h3
    · exact .inl h3
    · exact .inr (by omega)
def iota (n : Nat) : List Int := (List.range n).map (fun i : Nat => (i : Int))
theorem iota_len (n : Nat) : (iota n).length = n := by simp [iota]
theorem iota_at {n k : Nat} (h : k < n) : (iota n)[k]? = some (k : Int) := by simp [iota, h]
theorem iota_lv {n : Nat} (h1 : 1 ≤ n) (h5 : n ≤ 5) : lv (iota n) = true := by
  have : n = 1 ∨ n = 2 ∨ n = 3 ∨ n = 4 ∨ n = 5 := by omega
  rcases this with rfl | rfl | rfl | rfl | rfl <;> decide
/-- Two rows of the call's own. -/
structure TwoR (w wr : World) (A : Option Addr) (j c : Nat) (xs : List Int) (A2 : Option Addr) (m d : Nat) (ys : List Int) : Prop where
  rest : OwnN wr w.heap.size A j c xs
  out : OwnN wr w.heap.size A2 m d ys
  far : ∀ k, (Value.slice A j c).ownBlock = some k → (Value.slice A2 m d).ownBlock ≠ some k
  bel : Below w.heap.size w wr
set_option maxHeartbeats 1600000 in
theorem implLots0_any (n : Nat) (w : World) (h1 : 1 ≤ n) (h5 : n ≤ 5) :
    Calls Try.prog 38 #[.int .i64 n, .int .i64 0] w (fun e w' => ∃ A c, e = .returned (.tuple #[.slice A n c, .bool true]) ∧ OwnN w' w.heap.size A n c (iota n) ∧ Below w.heap.size w w') := by
  have i1 : inB n 1 5 = true := inB_t ⟨by omega, by omega⟩
  go_enter Try.func38, Try.ntmps38
  go_wp2_with (go_at_call 64; refine (isMany_any _ _).mono ?_; rintro e w' ⟨rfl, rfl⟩)
  go_loopw [6, 8, 22] (fun o _ i wr => ∃ (k c : Nat) (A : Option Addr), k ≤ n ∧ i = .int .i64 k ∧ o = .slice A k c ∧ OwnN wr w.heap.size A k c ((iota n).take k) ∧ Below w.heap.size w wr) (fun _ _ i _ => n - (intOf i).toNat)
  case atStart => exact ⟨0, 0, none, by omega, rfl, rfl, ⟨rfl, OwnI.nil _ _⟩, Below.refl _ _⟩
  case round =>
    obtain ⟨k, c, A, hk, rfl, rfl, hown, hbel⟩ := hrel
    have hsz := hbel.size
    by_cases hlt : k < n
    · have hi := Lib.hid (iota_at hlt)
      go_wp2_with (at_builtin; refine wpList_app1V _ rfl (.tmp 25) (.tmp 27) rfl w.heap.size A k c _ rfl hown hsz (by omega) _ rfl ?_; intro g' c' w' hown' hgr' hbl' hw' hz')
      go_roundw
      case rel => exact ⟨k + 1, c', _, by omega, by go_num, rfl, by rw [take_snoc _ _ _ hi.out]; exact hown', hbel.trans hbl'⟩
      case measure => simp [intOf]; omega
    · obtain rfl : k = n := by omega
      clear hlt i1
      obtain ⟨wo, rfl⟩ : ∃ wo : World, wo = wr := ⟨_, rfl⟩
      have hown : OwnN wo w.heap.size A k c (iota k) := by
        have := hown
        rwa [List.take_of_length_le (by rw [iota_len]; exact Nat.le_refl _)] at this
      go_wp2
      go_loopw [1, 6, 7, 9] (fun sd r o _ wr2 => ∃ (j : Nat) (A : Option Addr) (c : Nat) (A2 : Option Addr) (m d : Nat), j + m = k ∧ sd = .int .i64 0 ∧ r = .slice A j c ∧ o = .slice A2 m d ∧ TwoR w wr2 A j c ((iota k).drop m) A2 m d ((iota k).take m)) (fun _ r _ _ _ => lenV r)
      case atStart => exact ⟨k, A, c, none, 0, 0, by omega, rfl, rfl, rfl, ⟨hown, ⟨rfl, OwnI.nil _ _⟩, fun j hj e => (by cases e), hbel⟩⟩
      case round =>
        clear hown hbel hsz
        obtain ⟨j, A, c, A2, m, d, hjm, rfl, rfl, rfl, S⟩ := hrel
        have HJ := Lib.hid hjm
        have hj5 : j ≤ 5 := by omega
        have hm5 : m ≤ 5 := by omega
        clear hjm
        by_cases hj : 0 < j
        · obtain ⟨j', rfl⟩ : ∃ j', j = j' + 1 := ⟨j - 1, by omega⟩
          obtain ⟨g1, rfl, hg1b, hg1l⟩ := S.rest.form hj
          have hmk : m < k := by have := HJ.out; omega
          have hx : ((iota k).drop m)[0]? = some (m : Int) := by rw [List.getElem?_drop]; exact iota_at hmk
          have hi := Lib.hid (iota_at hmk)
          have hcell : wr.cell? ⟨g1, 0, none⟩ = some (.int .i64 m) := S.rest.2.cell hx
          have hjz : ¬ ((j' + 1 : Nat) : Int) = 0 := by omega
          have hjz2 : ¬ (j' : Int) + 1 = 0 := by omega
          have hsz := S.bel.size
          clear hx
          go_wp2_with (at_builtin; refine wpList_app1V _ rfl (.tmp 41) (.tmp 46) rfl w.heap.size A2 m d _ rfl S.out hsz (by omega) _ rfl ?_; intro g2' d2' w3 ho3 hg3 hb3 hw3 hz3)
          have hx0 := hg3.size
          have R3 : OwnN w3 w.heap.size (some ⟨g1, 0, none⟩) (j' + 1) c ((iota k).drop m) := ⟨S.rest.1, S.rest.2.grown hg3 (fun q hq e => by
            rw [S.rest.1] at e
            exact S.far q e hq)⟩
          have hne : g1 ≠ g2' := by
            intro e
            rcases hw3 with hw3 | hw3
            · exact S.far g1 rfl (e ▸ hw3)
            · omega
          have cD := Lib.hid (sDelete1_any w.heap.size g1 j' c _ w3 R3 (by omega))
          go_wp2_with fail
          refine cD.out.mono ?_
          rintro e w4 ⟨rfl, R4, hg4⟩
          rw [List.drop_drop] at R4
          have hb4 : Below w.heap.size w3 w4 := below_of_grown hg4 (by omega) (fun q hq => by injection hq; omega)
          have ho4 : OwnN w4 w.heap.size (some ⟨g2', 0, none⟩) (m + 1) d2' _ := ⟨ho3.1, ho3.2.grown hg4 (fun q hq e => by
            injection hq with hq
            injection e with e
            exact hne (hq.trans e.symm))⟩
          have hB4 := (S.bel.trans hb3).trans hb4
          go_wp2
          go_roundw
          case rel =>
            have q4 := HJ.out
            have q5 : ∀ q, (Value.slice (some ⟨g1, 0, none⟩) j' c).ownBlock = some q → (Value.slice (some ⟨g2', 0, none⟩) (m + 1) d2').ownBlock ≠ some q := fun q h1 h2 => by
              injection h1 with h1
              injection h2 with h2
              exact hne (h1.trans h2.symm)
            have R5 : OwnN w4 w.heap.size (some ⟨g1, 0, none⟩) j' c ((iota k).drop (m + 1)) := R4
            have T5 : OwnN w4 w.heap.size (some ⟨g2', 0, none⟩) (m + 1) d2' ((iota k).take (m + 1)) := by rw [take_snoc _ _ _ hi.out]; exact ho4
            first
              | exact ⟨j', _, c, _, m + 1, d2', by omega, rfl, rfl, rfl, ⟨R5, T5, q5, hB4⟩⟩
              | (repeat apply Exists.intro); exact ⟨⟨j', _, c, _, m + 1, d2', by omega, rfl, rfl, rfl, ⟨R5, T5, q5, hB4⟩⟩, rfl⟩
          case measure => simp [lenV]
        · obtain rfl : j = 0 := by omega
          have hmk : m = k := by have := HJ.out; omega
          have S' := S.out
          have B' := S.bel
          subst hmk
          clear S hj
          go_wp2
          go_ret2
          rw [List.take_of_length_le (by rw [iota_len]; exact Nat.le_refl _)] at S'
          exact ⟨_, _, rfl, S', B'⟩
end Go.Proofs.Ytimldfknbeiadaa
