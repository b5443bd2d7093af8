/-
  Piles that are drawn.
-/
import Derived.Test.YthngafmnkihkgaaDrawL
namespace Go.Proofs.Ythngafmnkihkgaa
open Go.RowKit
/-- Piles are drawn. -/
def DrawnP (w : World) (rb p : Nat) (e : Ending) (w' : World) : Prop :=
  ∃ (A : Option Addr) (n c : Nat) (ps : List (ByteArray × Int)) (p' : Nat), e = .returned (.slice A n c) ∧ n ≤ 60 ∧ OwnP w' w.heap.size A n c ps ∧ p' ≤ p + 4000 ∧ Rd w' rb p' ∧ Dr rb w w'
theorem OwnP.dr {rb : Nat} {w w' : World} {base : Nat} {A : Option Addr} {n c : Nat} {ps : List (ByteArray × Int)} (h : OwnP w base A n c ps) (hd : Dr rb w w') (hr : rb < base) : OwnP w' base A n c ps :=
  h.btw hd (fun k hk => by have := h.block k hk; omega)
theorem small10 {s : ByteArray} (h : s.size ≤ 10) : s.size ≤ 1048576 := by omega
set_option maxHeartbeats 3200000 in
theorem l91Piles_any (rb p n : Nat) (w : World) (h : Rd w rb p) (hp : p ≤ 800000) (hn1 : 1 ≤ n) (hn : n ≤ 5) :
    Calls Try.prog 46 #[.pointer (some ⟨rb, 0, none⟩), .int .i64 n] w (DrawnP w rb p) := by
  have hrb := h.lt
  go_enter Try.func46, Try.ntmps46
  go_wp2_with fail
  refine (pick_n rb p _ _ (h.alloc _) (by omega) (by omega) (by omega)).mono ?_
  rintro e w2 ⟨M, hM, rfl, hrd2, hdr2⟩
  have hown2 := OwnP.dr (OwnP.empty w (Nat.le_refl w.heap.size)) hdr2 hrb
  have hdr3 := ((Dr.refl rb w).alloc (.cells #[] 31)).trans hdr2
  clear hdr2
  go_wp2_with fail
  refine (pick_n rb (p + 1) _ _ hrd2 (by omega) (by omega) (by omega)).mono ?_
  rintro e w3 ⟨q3, hq3, rfl, hrd3, hdr3'⟩
  have hown3 := hown2.dr hdr3' hrb
  have hdr4 := hdr3.trans hdr3'
  clear hown2 hrd2 hdr3 hdr3'
  go_upto_if 16 with (fail)
  go_cut [6] (fun m wx => ∃ N : Nat, N ≤ 40 ∧ m = .int .i64 N ∧ wx = w3)
  case first =>
    by_cases hq0 : q3 = 0
    · subst hq0
      go_wp2
      go_meet
      exact ⟨40, by omega, rfl, rfl⟩
    · have hqb : ((q3 : Int) == 0) = false := by simp; omega
      go_wp2
      go_meet
      exact ⟨M, by omega, rfl, rfl⟩
  case rest =>
    obtain ⟨N, hN, rfl, rfl⟩ := hcut
    clear hM hq3
    go_wp2
    go_loopw [5, 7, 8, 9] (fun o i _ _ wr => ∃ (j g l c : Nat) (ps : List (ByteArray × Int)) (q : Nat), j ≤ N ∧ l ≤ j ∧ i = .int .i64 j ∧ o = .slice (some ⟨g, 0, none⟩) l c ∧ OwnP wr w.heap.size (some ⟨g, 0, none⟩) l c ps ∧ q ≤ p + 2 + 21 * j ∧ Rd wr rb q ∧ Dr rb w wr) (fun _ i _ _ _ => N - (intOf i).toNat)
    case atStart => exact ⟨0, _, 0, _, [], p + 1 + 1, by omega, by omega, rfl, rfl, hown3, by omega, hrd3, hdr4⟩
    case round =>
      clear hown3 hrd3 hdr4
      obtain ⟨j, g, l, c, ps, q, hj, hlj, rfl, rfl, hown, hq, hrd, hdr⟩ := hrel
      have hsz := hdr.size
      by_cases hlt : j < N
      · go_wp2_with fail
        refine (l91Ballot_any rb q n _ hrd (by omega) hn1 hn).mono ?_
        rintro e w4 ⟨B, d, xs, q', rfl, hxl, hoB, hq', hrd4, hdr4⟩
        have hown4 := hown.dr hdr4 hrb
        have hdr5 := hdr.trans hdr4
        clear hown hrd hdr hdr4
        go_wp2_with fail
        refine (specText_any B xs d _ hoB.ints (by omega) hoB.le_cap).mono ?_
        rintro e w5 ⟨s, rfl, hs, m5, rfl⟩
        have hown5 := hown4.drewN m5
        have hrd5 := hrd4.drewN m5
        have hdr6 := hdr5.drewN m5
        clear hoB hown4 hrd4 hdr5
        generalize w4.drewN m5 = w5 at *
        go_wp2_with fail
        refine (pick_n rb q' _ _ hrd5 (by omega) (by omega) (by omega)).mono ?_
        rintro e w6 ⟨k, hk, rfl, hrd6, hdr6'⟩
        have hown6 := hown5.dr hdr6' hrb
        have hdr7 := hdr6.trans hdr6'
        have hs7 := hdr7.size
        clear hown5 hrd5 hdr6 hdr6'
        have hpl := hown6.len
        have cA := Lib.hid (specPilesAdd_any ⟨g, 0, none⟩ ps c s (1 + k) w6 hown6.piles (by omega) (by have := hown6.le_cap; omega) (by omega))
        rw [hpl] at cA
        clear hpl
        go_wp2_with fail
        refine cA.out.mono ?_
        rintro e w7 ⟨g7, n7, c7, qs, b, rfl, hn7, ho7, hb7⟩
        have hown7 := hown6.below hb7
        have ho7 := ho7.mono hs7
        have hrd7 := hrd6.below hb7
        have hdr8 := hdr7.below (hb7.mono hs7)
        clear hown6 hrd6 hdr7 hb7 cA
        cases b
        · go_wp2
          go_roundw
          case rel => exact ⟨j + 1, g, l, c, ps, q' + 1, by omega, by omega, by go_num, rfl, hown7, by omega, hrd7, hdr8⟩
          case measure => simp [intOf]; omega
        · go_wp2
          go_roundw
          case rel => exact ⟨j + 1, g7, n7, c7, qs, q' + 1, by omega, by omega, by go_num, rfl, ho7, by omega, hrd7, hdr8⟩
          case measure => simp [intOf]; omega
      · obtain rfl : j = N := by omega
        clear hlt
        by_cases hl0 : 0 < l
        · have hlc := hown.le_cap
          have hli : (0 : Int) < (l : Int) := by omega
          obtain ⟨gg, hgg, hg0, hg1⟩ := hown.form hl0
          obtain rfl : g = gg := by injection hgg with hgg; injection hgg
          clear hgg
          go_wp2_with fail
          refine (pick_n rb q _ _ hrd (by omega) (by omega) (by omega)).mono ?_
          rintro e w4 ⟨k, hk, rfl, hrd4, hdr4⟩
          have hown4 := hown.dr hdr4 hrb
          have hdr5 := hdr.trans hdr4
          clear hown hrd hdr hdr4
          go_wp2_with fail
          refine (pick_n rb (q + 1) _ _ hrd4 (by omega) (by omega) (by omega)).mono ?_
          rintro e w5 ⟨z, hz, rfl, hrd5, hdr5'⟩
          have hown5 := hown4.dr hdr5' hrb
          have hdr6 := hdr5.trans hdr5'
          have hs6 := hdr6.size
          clear hown4 hrd4 hdr5 hdr5'
          have hkl : k < l := by omega
          obtain ⟨pk, hpk⟩ : ∃ pk, ps[k]? = some pk := ⟨_, List.getElem?_eq_getElem (by rw [hown5.len]; exact hkl)⟩
          have HPK := Lib.hid hpk
          clear hpk
          by_cases hz0 : z = 0
          · subst hz0
            go_wp2_with fail
            refine (pick_n rb (q + 2) _ _ (hrd5.alloc _) (by omega) (by omega) (by omega)).mono ?_
            rintro e w6 ⟨z2, hz2, rfl, hrd6, hdr6'⟩
            obtain ⟨v, hv⟩ := lit3 w5 0 99 100 z2 hz2
            have hv := hdr6'.cell hv (by have := hrd5.lt; simp; omega)
            have hown6 := (hown5.alloc _).dr hdr6' hrb
            obtain ⟨c0, c1⟩ := hown6.cells HPK.out
            have hfz := hown6.frozen (k * 2 + 1)
            have hset := Lib.hid (hown6.setMany HPK.out v)
            go_wp2
            go_ret
            exact ⟨_, l, c, _, q + 3, rfl, by omega, hset.out, by omega, hrd6.setCell (by simp; omega) _, ((hdr6.alloc _).trans hdr6').setCell (by simp; omega) _⟩
          · by_cases hz1 : z = 1
            · subst hz1
              obtain ⟨c0, c1⟩ := hown5.cells HPK.out
              have hsm := hown5.small _ (List.mem_of_getElem? HPK.out)
              obtain ⟨sk, mk⟩ := pk
              go_wp2_with (at_builtin; refine wpList_appPs _ rfl (.tmp 58) (.tmp 63) rfl w.heap.size (some ⟨g, 0, none⟩) l c ps rfl (hown5.alloc _) (by simp; omega) (by omega) ⟨w5.heap.size, 0, none⟩ [(sk, mk)] 1 1 rfl rfl (by omega) (newPile w5 sk mk hsm) (l + 1) (by omega) ?_; intro A6 c6 w6 h6 hg6 hb6)
              go_ret
              exact ⟨_, l + 1, c6, _, q + 2, rfl, by omega, h6, by omega, (hrd5.alloc _).below' hb6 hrb, (hdr6.alloc _).below hb6⟩
            · by_cases hz2 : z = 2
              · subst hz2
                go_wp2_with fail
                refine (of3_any rb (q + 2) w5.heap.size _ _ _ _ (hrd5.alloc _) (by omega) (by have := hrd5.lt; omega) (cell_of_row _ w5.heap.size 0 #[.string { data := #[97, 97] }, .string { data := #[102] }, .string { data := #[120] }] 9 (0, 0) (heap_alloc_new w5 _)) (cell_of_row _ w5.heap.size 1 #[.string { data := #[97, 97] }, .string { data := #[102] }, .string { data := #[120] }] 9 (0, 0) (heap_alloc_new w5 _)) (cell_of_row _ w5.heap.size 2 #[.string { data := #[97, 97] }, .string { data := #[102] }, .string { data := #[120] }] 9 (0, 0) (heap_alloc_new w5 _)) (by decide) (by decide) (by decide)).mono ?_
                rintro e w6 ⟨s6, rfl, hs6z, hrd6, hdr6'⟩
                have hown6 := (hown5.alloc _).dr hdr6' hrb
                obtain ⟨c0, c1⟩ := hown6.cells HPK.out
                have hfz := hown6.frozen (k * 2)
                have hset := Lib.hid (hown6.setText HPK.out (small10 hs6z))
                go_wp2
                go_ret
                exact ⟨_, l, c, _, q + 3, rfl, by omega, hset.out, by omega, hrd6.setCell (by simp; omega) _, ((hdr6.alloc _).trans hdr6').setCell (by simp; omega) _⟩
              · have hb0 : ((z : Int) == 0) = false := by simp; omega
                have hb1 : ((z : Int) == 1) = false := by simp; omega
                have hb2 : ((z : Int) == 2) = false := by simp; omega
                go_wp2
                go_ret
                exact ⟨_, l, c, ps, q + 2, rfl, by omega, hown5, by omega, hrd5, hdr6⟩
        · obtain rfl : l = 0 := by omega
          go_wp2
          go_ret
          exact ⟨_, 0, c, ps, q, rfl, by omega, hown, by omega, hrd, hdr⟩
end Go.Proofs.Ythngafmnkihkgaa
