/-
  Ballots that are drawn, their texts, and who has left.
-/
import Derived.Test.YtiinfbjlkbjmmaaQDrawV
import Derived.Test.YtiinfbjlkbjmmaaQBal
import Derived.Test.YtiinfbjlkbjmmaaQLots
import Derived.Deep.RegionLaw
namespace Go.Proofs.Ytiinfbjlkbjmmaa
open Go.RowKit
/-- Some ints are drawn. -/
def DrawnB (w : World) (rb p : Nat) (e : Ending) (w' : World) : Prop :=
  ∃ (A : Option Addr) (c : Nat) (xs : List Int) (p' : Nat), e = .returned (.slice A xs.length c) ∧ xs.length ≤ 10 ∧ OwnI w' w.heap.size A c xs ∧ p' ≤ p + 20 ∧ Rd w' rb p' ∧ Dr rb w w'
set_option maxRecDepth 100000 in
theorem drawnB_of {w w' : World} {rb p p' n c : Nat} {A : Option Addr} {xs : List Int} (h : OwnN w' w.heap.size A n c xs) (hn : n ≤ 10) (hp : p' ≤ p + 20) (hr : Rd w' rb p') (hd : Dr rb w w') : DrawnB w rb p (.returned (.slice A n c)) w' := by
  obtain ⟨rfl, h⟩ := h
  exact ⟨A, c, xs, p', rfl, hn, h, hp, hr, hd⟩
set_option maxRecDepth 100000 in
theorem new_cell2 (w : World) (o : Obj) (v : Value) : ((w.alloc o).alloc (.cells #[v] 3)).cell? ⟨w.heap.size + 1, 0, none⟩ = some v := by
  rw [show w.heap.size + 1 = (w.alloc o).heap.size by simp]
  exact new_cell (w.alloc o) v
set_option maxRecDepth 100000 in
set_option maxHeartbeats 1600000 in
theorem l91Ballot_any (rb p n : Nat) (w : World) (h : Rd w rb p) (hp : p ≤ 900000) (hn1 : 1 ≤ n) (hn : n ≤ 5) :
    Calls Try.prog 74 #[.pointer (some ⟨rb, 0, none⟩), .int .i64 n] w (DrawnB w rb p) := by
  have hrb := h.lt
  go_enter Try.func74, Try.ntmps74
  go_wp2_with fail
  refine (pick_n rb p _ _ (h.alloc _) (by omega) (by omega) (by omega)).mono ?_
  rintro e w2 ⟨M, hM, rfl, hrd2, hdr2⟩
  have hown2 := OwnN.dr (OwnN.empty w (Nat.le_refl w.heap.size)) hdr2 hrb
  have hdr3 := ((Dr.refl rb w).alloc (.cells #[] 3)).trans hdr2
  have hM5 : M ≤ 5 := by omega
  clear hM hdr2
  go_wp2
  go_loopw [5, 7, 8] (fun o i _ wr => ∃ (j l : Nat) (A : Option Addr) (c : Nat) (xs : List Int) (p' : Nat), j ≤ 9 ∧ l ≤ j ∧ i = .int .i64 j ∧ o = .slice A l c ∧ OwnN wr w.heap.size A l c xs ∧ p' ≤ p + 1 + j ∧ Rd wr rb p' ∧ Dr rb w wr) (fun _ i _ _ => 9 - (intOf i).toNat)
  case atStart => exact ⟨0, 0, _, _, [], p + 1, by omega, by omega, rfl, rfl, hown2, by omega, hrd2, hdr3⟩
  case round =>
    clear hown2 hrd2 hdr3
    obtain ⟨j, l, A, c, xs, p', hj, hlj, rfl, rfl, hown, hp', hrd, hdr⟩ := hrel
    have hsz := hdr.size
    by_cases hlt : j < 9 ∧ l < M
    · obtain ⟨hlt, hlt2⟩ := hlt
      go_wp2_with fail
      refine (pick_n rb p' _ _ hrd (by omega) (by omega) (by omega)).mono ?_
      rintro e w3 ⟨k, hk, rfl, hrd3, hdr3⟩
      have hown3 := hown.dr hdr3 hrb
      have hz3 := hdr3.size
      have cH := Lib.hid (l1Has_any A xs c l k w3 hown3.2.ints hown3.1 (by omega))
      have hdr := hdr.trans hdr3
      clear hown hrd hdr3
      cases hct : has xs k
      · rw [hct] at cH
        go_wp2_with (first | (go_at_call 105; refine cH.out.mono ?_; rintro e w' ⟨rfl, rfl⟩) | (at_builtin; refine wpList_app1 _ rfl (.tmp 31) (.tmp 33) rfl w.heap.size A l c _ rfl hown3 (by omega) (by omega) _ rfl ?_; intro A' c' w' hown' hgr' hbl'))
        go_roundw
        case rel => exact ⟨j + 1, l + 1, A', c', _, p' + 1, by omega, by omega, by go_num, rfl, hown', by omega, hrd3.below' hbl' hrb, hdr.below hbl'⟩
        case measure => simp [intOf]; omega
      · rw [hct] at cH
        go_wp2_with (go_at_call 105; refine cH.out.mono ?_; rintro e w' ⟨rfl, rfl⟩)
        go_roundw
        case rel => exact ⟨j + 1, l, A, c, xs, p' + 1, by omega, by omega, by go_num, rfl, hown3, by omega, hrd3, hdr⟩
        case measure => simp [intOf]; omega
    · have hend := (show (j < 9 ∧ ¬ l < M) ∨ ¬ j < 9 by omega)
      clear hlt
      by_cases hl0 : 0 < l
      · obtain ⟨g, rfl, hg0, hg1⟩ := hown.form hl0
        obtain ⟨x0, hc0⟩ := hown.cellN hl0
        rcases hend with ⟨hj9, hlM⟩ | hj9
        all_goals
          go_wp2_with fail
          refine (pick_n rb p' _ _ hrd (by omega) (by omega) (by omega)).mono ?_
          rintro e w4 ⟨q4, hq4, rfl, hrd4, hdr4⟩
          have hown4 := hown.dr hdr4 hrb
          have hc4 : w4.cell? ⟨g, 0, none⟩ = some (.int .i64 x0) := hdr4.cell hc0 (by simp; omega)
          have hdr := hdr.trans hdr4
          have hz4 := hdr4.size
          clear hown hrd hdr4 hc0
          by_cases hq0 : q4 = 0
          · subst hq0
            have hgl : g < w4.heap.size := by have := World.block_lt_of_cell? w4 _ hc4; simpa using this
            go_wp2
            go_region_law (first
              | (refine step_app1 _ rfl (.tmp 43) (.tmp 52) rfl w.heap.size (some ⟨g, 0, none⟩) l c xs (by simp [Act.eval]) ((((hown4.alloc' _).drew').dr hdr5 hrb).alloc' _) (by have := hdr5.size; simp at this ⊢; omega) (by omega) ⟨w5.heap.size, 0, none⟩ v 1 (by simp [Act.eval]) (new_cell w5 _) ?_; intro A' c' w' hown' hgr' hbl')
              | (refine step_app1 _ rfl (.tmp 43) (.tmp 52) rfl w.heap.size (some ⟨g, 0, none⟩) l c xs (by simp [Act.eval]) ((((hown4.drew').dr hdr5 hrb).alloc' _).alloc' _) (by have := hdr5.size; simp at this ⊢; omega) (by omega) ⟨w5.heap.size + 1, 0, none⟩ v 1 (by simp [Act.eval]) (new_cell2 w5 _ _) ?_; intro A' c' w' hown' hgr' hbl')
              | (go_simp; go_at_call 67; (with_reducible refine (pick_n rb (p' + 1) _ _ (hrd4.drew) (by omega) (by omega) (by omega)).mono ?_); rintro e w5 ⟨q5, hq5, rfl, hrd5, hdr5⟩; have hc5 := hdr5.cell (cell_drew hc4) (by simp; omega); obtain ⟨v, hv⟩ := lit3 w5 x0 (-1) 5 q5 hq5)
              | (go_simp; go_at_call 67; (with_reducible refine (pick_n rb (p' + 1) _ _ ((hrd4.alloc _).drew) (by omega) (by omega) (by omega)).mono ?_); rintro e w5 ⟨q5, hq5, rfl, hrd5, hdr5⟩; obtain ⟨v, hv⟩ := lit3 w4 x0 (-1) 5 q5 hq5; have hv5 := hdr5.cell (cell_drew hv) (by simp; omega)))
            all_goals
              go_wp2
              go_ret
            all_goals first
              | exact drawnB_of hown' (by omega) (by omega) ((hrd5.alloc _).below' hbl' hrb) ((((hdr.alloc _).drew).trans hdr5 |>.alloc _).below hbl')
              | exact drawnB_of hown' (by omega) (by omega) (((hrd5.alloc _).alloc _).below' hbl' hrb) (((((hdr.drew).trans hdr5).alloc _).alloc _).below hbl')
          · have hqb : ((q4 : Int) == 0) = false := by simp; omega
            go_wp2
            go_ret
            exact drawnB_of hown4 (by omega) (by omega) hrd4 hdr
      · obtain rfl : l = 0 := by omega
        rcases hend with ⟨hj9, hlM⟩ | hj9
        all_goals
          go_wp2
          go_ret
          exact drawnB_of hown (by omega) (by omega) hrd hdr
set_option maxRecDepth 100000 in
theorem abc_size (s : ByteArray) (p k : Nat) (h : s.size ≤ k) : (s ++ ByteArray.extract { data := #[97, 98, 99, 100, 101] } p (p + 1)).size ≤ k + 1 := by
  rw [ByteArray.size_append, ByteArray.size_extract]
  omega
/-- A short text. -/
def TextR (w : World) (N : Nat) (e : Ending) (w' : World) : Prop := ∃ s : ByteArray, e = .returned (.string s) ∧ s.size ≤ N ∧ ∃ m, w' = w.drewN m
set_option maxRecDepth 100000 in
set_option maxHeartbeats 1600000 in
theorem specText_any (A : Option Addr) (xs : List Int) (c : Nat) (w : World) (h : Ints w A xs) (hl : xs.length ≤ 1048576) (hcap : xs.length ≤ c) :
    Calls Try.prog 73 #[.slice A xs.length c] w (TextR w xs.length) := by
  have cV := Lib.hid (fun m => specBallotValid_any A xs c 5 (w.drewN m) h hl hcap (by omega) (by omega))
  go_enter Try.func73, Try.ntmps73
  go_wp2
  go_loopw [3, 4] (fun o i wr => ∃ (k m : Nat) (s : ByteArray), k ≤ xs.length ∧ i = .int .i64 k ∧ o = .string s ∧ s.size ≤ k ∧ wr = w.drewN m) (fun _ i _ => xs.length - (intOf i).toNat)
  case atStart => exact ⟨0, 0, _, by omega, rfl, rfl, by show _ ≤ 0; exact Nat.le_refl 0, rfl⟩
  case round =>
    obtain ⟨k, m, s, hk, rfl, rfl, hsz, rfl⟩ := hrel
    by_cases hlt : k < xs.length
    · have cV := Lib.hid (cV.out m)
      cases hbv : bv xs 5
      · rw [hbv] at cV
        go_wp2_with (go_at_call 104; refine cV.out.mono ?_; rintro e w' ⟨rfl, m', rfl⟩)
        go_ret
        exact ⟨s, rfl, by omega, _, rfl⟩
      · rw [hbv] at cV
        obtain ⟨ad, x, rfl, hx, hc⟩ := h.at_ hlt
        have hxr : 0 ≤ x ∧ x ≤ 5 - 1 := by
          simp only [bv, Bool.and_eq_true] at hbv
          exact (bp_iff.1 hbv.2).1 x (mem_of_at hx.out)
        obtain ⟨hx0, hx1⟩ := hxr
        obtain ⟨p, rfl⟩ := Int.eq_ofNat_of_zero_le hx0
        have hp5 : p < 5 := by omega
        clear hx0 hx1 hbv
        have hw : IntKind.i64.wrap ((p : Int) + 1) = (p : Int) + 1 := IntWalk.i64_in _ (by omega)
        have hk0 : (0 : Int) ≤ (k : Int) := by omega
        have hk1 : (k : Int) < (xs.length : Int) := by omega
        have hp0 : (0 : Int) ≤ (p : Int) := by omega
        have hp1 : (p : Int) ≤ (p : Int) + 1 := by omega
        have hp2 : (p : Int) + 1 ≤ 5 := by omega
        have hp3 : ((p : Int) + 1).toNat = p + 1 := by omega
        go_wp2_with (go_at_call 104; refine cV.out.mono ?_; rintro e w' ⟨rfl, m', rfl⟩)
        go_quiet (fail)
        go_wp2
        go_roundw
        case rel => exact ⟨k + 1, _, _, by omega, by go_num, rfl, abc_size s p k hsz, rfl⟩
        case measure => simp [intOf]; omega
    · have h2 : xs.length ≤ k := by omega
      clear hlt
      go_wp2
      go_ret
      exact ⟨s, rfl, by omega, _, rfl⟩
/-- Truths are drawn. -/
def DrawnL (w : World) (rb p n : Nat) (e : Ending) (w' : World) : Prop :=
  ∃ (A : Option Addr) (c : Nat) (bs : List Bool) (p' : Nat), e = .returned (.slice A n c) ∧ OwnB w' w.heap.size A n c bs ∧ p' ≤ p + n ∧ Rd w' rb p' ∧ Dr rb w w'
set_option maxRecDepth 100000 in
theorem OwnB.btw {lo hi : Nat} {w w' : World} {base : Nat} {A : Option Addr} {n c : Nat} {bs : List Bool} (h : OwnB w base A n c bs) (hg : Btw lo hi w w') (hr : ∀ k, (Value.slice A n c).ownBlock = some k → k < lo ∨ hi ≤ k) : OwnB w' base A n c bs := by
  refine ⟨h.1, h.2.1, ?_⟩
  rcases h.2.2 with h2 | ⟨g, cap, cur, hv, hb, hgg, r⟩
  · exact .inl h2
  · refine .inr ⟨g, cap, cur, hv, hb, ?_, r⟩
    rw [hg.block g (Array.getElem?_eq_some_iff.1 hgg).1 (hr g (by rw [hv]; rfl))]
    exact hgg
set_option maxRecDepth 100000 in
theorem OwnB.dr {rb : Nat} {w w' : World} {base : Nat} {A : Option Addr} {n c : Nat} {bs : List Bool} (h : OwnB w base A n c bs) (hd : Dr rb w w') (hr : rb < base) : OwnB w' base A n c bs :=
  h.btw hd (fun k hk => by have := World.ownsRow.lt h.2 k hk; omega)
/-- One of three short texts. -/
def OfR (w : World) (rb p : Nat) (e : Ending) (w' : World) : Prop := ∃ s : ByteArray, e = .returned (.string s) ∧ s.size ≤ 10 ∧ Rd w' rb (p + 1) ∧ Dr rb w w'
end Go.Proofs.Ytiinfbjlkbjmmaa
