/-
  Draws of a transfer: piles, lots, seats.
-/
import Derived.Test.YtiinfbjlkbjmmaaQDrawF
import Derived.Test.YtiinfbjlkbjmmaaQLotsE
import Derived.Test.YtiinfbjlkbjmmaaQFrac
namespace Go.Proofs.Ytiinfbjlkbjmmaa
open Go.ChangeShapes Go.WideShapes Go.ChangeAt Go.RowKit
set_option maxRecDepth 100000 in
set_option maxHeartbeats 800000 in
set_option maxRecDepth 100000 in
/-- The sum of any piles is some number. -/
theorem l3Total_some (A : Option Addr) (ps : List (ByteArray × Int)) (c : Nat) (w : World) (h : PilesI w A ps) (hl : ps.length ≤ 1048576) :
    Calls Try.prog 75 #[.slice A ps.length c] w (fun e w' => ∃ t : Int, e = .returned (.int .i64 t) ∧ w = w') := by
  go_enter Try.func75, Try.ntmps75
  go_wp2
  go_loop [3, 4] (fun t i => ∃ (k : Nat) (z : Int), k ≤ ps.length ∧ i = .int .i64 k ∧ t = .int .i64 z) (fun _ i => ps.length - (intOf i).toNat)
  case atStart => exact ⟨0, 0, by omega, rfl, rfl⟩
  case round =>
    obtain ⟨k, z, hk, rfl, rfl⟩ := hrel
    by_cases hlt : k < ps.length
    · obtain ⟨ad, s, m, rfl, hp, hs, hc0, hc1⟩ := h.at_ hlt
      go_wp2
      go_round
      case rel => exact ⟨k + 1, _, by omega, by go_num, rfl⟩
      case measure => simp [intOf]; omega
    · have h2 : ps.length ≤ k := by omega
      clear hlt
      go_wp2
      go_ret
      exact ⟨⟨_, rfl⟩, rfl⟩
def DrawnT (w : World) (rb p : Nat) (e : Ending) (w' : World) : Prop :=
  ∃ (A : Option Addr) (m c : Nat) (ps : List (ByteArray × Int)) (B : Option Addr) (d m2 : Nat) (ls : List Int) (s p' : Nat), e = .returned (.tuple #[.slice A m c, .slice B m2 d, .int .i64 s]) ∧ m ≤ 60 ∧ OwnP w' w.heap.size A m c ps ∧ m2 ≤ 5 ∧ OwnN w' w.heap.size B m2 d ls ∧ s ≤ 10 ∧ p' ≤ p + 5000 ∧ Rd w' rb p' ∧ Dr rb w w'
set_option maxRecDepth 100000 in
set_option maxHeartbeats 3200000 in
theorem l93Transfer_any (rb p : Nat) (w : World) (h : Rd w rb p) (hp : p ≤ 100) : Calls Try.prog 46 #[.pointer (some ⟨rb, 0, none⟩)] w (DrawnT w rb p) := by
  have hrb := h.lt
  go_enter Try.func46, Try.ntmps46
  go_wp2_with fail
  refine (pick_n rb p _ _ h (by omega) (by omega) (by omega)).mono ?_
  rintro e w2 ⟨q2, hq2, rfl, hrd2, hdr2⟩
  obtain ⟨n, e2, hn1, hn5⟩ : ∃ n : Nat, (2 + (q2 : Int)) = (n : Int) ∧ 1 ≤ n ∧ n ≤ 5 := ⟨2 + q2, by omega, by omega, by omega⟩
  have hz2 := hdr2.size
  go_wp2_with fail
  clear e2 hq2
  refine (pick_n rb (p + 1) _ _ (hrd2.alloc _) (by omega) (by omega) (by omega)).mono ?_
  rintro e w3 ⟨N, hN, rfl, hrd3, hdr3'⟩
  have hown3 := OwnP.dr (OwnP.empty w2 (Nat.le_refl w2.heap.size)) hdr3' (by omega)
  have hown3 := hown3.mono hz2
  have hdr3 := (hdr2.alloc (.cells #[] 70)).trans hdr3'
  clear hdr3' hrd2 hdr2
  go_wp2
  go_loopw [6, 8, 9, 10] (fun o i _ _ wr => ∃ (j g l c : Nat) (ps : List (ByteArray × Int)) (q : Nat), j ≤ N ∧ l ≤ j ∧ i = .int .i64 j ∧ o = .slice (some ⟨g, 0, none⟩) l c ∧ OwnP wr w.heap.size (some ⟨g, 0, none⟩) l c ps ∧ q ≤ p + 2 + 22 * j ∧ Rd wr rb q ∧ Dr rb w wr) (fun _ i _ _ _ => N - (intOf i).toNat)
  case atStart => exact ⟨0, _, 0, _, [], p + 1 + 1, by omega, by omega, rfl, rfl, hown3, by omega, hrd3, hdr3⟩
  case round =>
    clear hown3 hrd3 hdr3 hz2
    obtain ⟨j, g, l, c, ps, q, hj, hlj, rfl, rfl, hown, hq, hrd, hdr⟩ := hrel
    have hsz := hdr.size
    by_cases hlt : j < N
    · go_wp2_with fail
      refine (l91Ballot_any rb q n _ hrd (by omega) hn1 hn5).mono ?_
      rintro e w4 ⟨B, d, xs, q', rfl, hxl, hoB, hq', hrd4, hdr4⟩
      have hown4 := hown.dr hdr4 hrb
      have hdr5 := hdr.trans hdr4
      clear hown hrd hdr hdr4
      go_wp2_with fail
      refine (specText_any B xs d _ hoB.ints (by omega) hoB.le_cap).mono ?_
      rintro e w5 ⟨s, rfl, hs, m5, rfl⟩
      have hown5 := hown4.drewN m5
      have hrd5 := hrd4.drewN m5
      have hdr6 := hdr5.drewN m5
      clear hoB hown4 hrd4 hdr5
      generalize w4.drewN m5 = w5 at *
      go_wp2_with fail
      refine (pick_n rb q' _ _ hrd5 (by omega) (by omega) (by omega)).mono ?_
      rintro e w6 ⟨k, hk, rfl, hrd6, hdr6'⟩
      have hown6 := hown5.dr hdr6' hrb
      have hdr7 := hdr6.trans hdr6'
      have hs7 := hdr7.size
      clear hown5 hrd5 hdr6 hdr6'
      have hpl := hown6.len
      have cA := Lib.hid (specPilesAdd_any ⟨g, 0, none⟩ ps c s (1 + k) w6 hown6.piles (by omega) (by have := hown6.le_cap; omega) (by omega))
      rw [hpl] at cA
      clear hpl
      go_wp2_with fail
      refine cA.out.mono ?_
      rintro e w7 ⟨g7, n7, c7, qs, b, rfl, hn7, ho7, hb7⟩
      have hown7 := hown6.below hb7
      have ho7 := ho7.mono hs7
      have hrd7 := hrd6.below hb7
      have hdr8 := hdr7.below (hb7.mono hs7)
      have hl7 := ho7.len
      clear hown6 hrd6 hdr7 hb7 cA
      cases b
      · go_wp2
        go_roundw
        case rel => exact ⟨j + 1, g, l, c, ps, q' + 1, by omega, by omega, by go_num, rfl, hown7, by omega, hrd7, hdr8⟩
        case measure => simp [intOf]; omega
      · have cT := Lib.hid (l3Total_some (some ⟨g7, 0, none⟩) qs c7 w7 ho7.piles (by omega))
        rw [hl7] at cT
        clear hl7
        go_wp2_with fail
        refine cT.out.mono ?_
        rintro e w8 ⟨t, rfl, rfl⟩
        go_wp2_with fail
        refine (pick_n rb (q' + 1) _ _ hrd7 (by omega) (by omega) (by omega)).mono ?_
        rintro e w9 ⟨v, hv, rfl, hrd9, hdr9'⟩
        have hown9 := hown7.dr hdr9' hrb
        have ho9 := ho7.dr hdr9' hrb
        have hdr9 := hdr8.trans hdr9'
        obtain ⟨z, hz1, hz2⟩ : ∃ z : Nat, Int.tdiv (v : Int) 29 = z ∧ z ≤ v := ⟨v / 29, rfl, Nat.div_le_self _ _⟩
        by_cases htt : t ≤ 60 + (z : Int)
        · go_wp2
          go_roundw
          case rel => exact ⟨j + 1, g7, n7, c7, qs, q' + 1 + 1, by omega, by omega, by go_num, rfl, ho9, by omega, hrd9, hdr9⟩
          case measure => simp [intOf]; omega
        · go_wp2
          go_roundw
          case rel => exact ⟨j + 1, g, l, c, ps, q' + 1 + 1, by omega, by omega, by go_num, rfl, hown9, by omega, hrd9, hdr9⟩
          case measure => simp [intOf]; omega
    · obtain rfl : j = N := by omega
      clear hlt
      go_wp2_with fail
      refine (l91Lots_any rb q n _ hrd (by omega) (by omega) (by omega)).mono ?_
      rintro e w8 ⟨A8, c8, ls, m8, p8, rfl, hm8, hown8, hp8, hrd8, hdr8⟩
      have hownP := hown.dr hdr8 hrb
      have hd8 := hdr.trans hdr8
      have hown8 : OwnN w8 w.heap.size A8 m8 c8 ls := ⟨hown8.1, hown8.2.mono hsz⟩
      have hz8 := hd8.size
      go_wp2_with fail
      refine (pick_n rb p8 _ _ hrd8 (by omega) (by omega) (by omega)).mono ?_
      rintro e w9 ⟨v, hv, rfl, hrd9, hdr9'⟩
      have hownP9 := hownP.dr hdr9' hrb
      have hown9 : OwnN w9 w.heap.size A8 m8 c8 ls := ⟨hown8.1, hown8.2.btw hdr9' (fun k hk => by have := hown8.2.block k hk; omega)⟩
      have hd9 := hd8.trans hdr9'
      clear hownP hown8 hown hd8 hdr hdr8 hdr9' hrd8
      by_cases hv0 : v = 0
      · subst hv0
        go_wp2_with fail
        refine (pick_n rb (p8 + 1) _ _ hrd9 (by omega) (by omega) (by omega)).mono ?_
        rintro e w10 ⟨u, hu, rfl, hrd10, hdr10⟩
        go_wp2
        go_ret3
        exact ⟨_, _, _, ps, _, _, _, ls, u, p8 + 1 + 1, rfl, by omega, hownP9.dr hdr10 hrb, by omega, ⟨hown9.1, hown9.2.btw hdr10 (fun k hk => by have := hown9.2.block k hk; omega)⟩, by omega, by omega, hrd10, hd9.trans hdr10⟩
      · have hvb : ((v : Int) == 0) = false := by simp; omega
        go_wp2_with fail
        refine (pick_n rb (p8 + 1) _ _ hrd9 (by omega) (by omega) (by omega)).mono ?_
        rintro e w10 ⟨u, hu, rfl, hrd10, hdr10⟩
        obtain ⟨s', hs', hs10⟩ : ∃ s' : Nat, (1 + (u : Int)) = (s' : Int) ∧ s' ≤ 10 := ⟨1 + u, by omega, by omega⟩
        go_wp2
        go_ret3
        exact ⟨_, _, _, ps, _, _, _, ls, s', p8 + 1 + 1, rfl, by omega, hownP9.dr hdr10 hrb, by omega, ⟨hown9.1, hown9.2.btw hdr10 (fun k hk => by have := hown9.2.block k hk; omega)⟩, by omega, by omega, hrd10, hd9.trans hdr10⟩
def DrawnTr (w : World) (e : Ending) (w' : World) : Prop := ∃ (A : Option Addr) (c : Nat) (ps : List (ByteArray × Int)) (B : Option Addr) (d : Nat) (ls : List Int) (s : Nat),
  e = .returned (.tuple #[.slice A ps.length c, .slice B ls.length d, .int .i64 s]) ∧ DrewP w w' A c ps ∧ ls.length ≤ 5 ∧ OwnI w' w.heap.size B d ls ∧ s ≤ 10
set_option maxRecDepth 100000 in
theorem drawnTr_of {w w1 w2 w' : World} {rb m c m2 d s : Nat} {A B : Option Addr} {ps : List (ByteArray × Int)} {ls : List Int} (h : OwnP w' w2.heap.size A m c ps) (hm : m ≤ 60) (h2 : OwnN w' w2.heap.size B m2 d ls) (hm2 : m2 ≤ 5) (hs : s ≤ 10) (hb : Below w.heap.size w w1) (hrb : w.heap.size ≤ rb) (hd : Dr rb w1 w') (hz : w1.heap.size ≤ w2.heap.size) :
    DrawnTr w (.returned (.tuple #[.slice A m c, .slice B m2 d, .int .i64 s])) w' := by
  obtain ⟨rfl, h4⟩ := drewP_of h hm hb hrb hd hz
  obtain ⟨rfl, h5⟩ := h2
  exact ⟨A, c, ps, B, d, ls, s, rfl, h4, hm2, h5.mono (by have := hb.size; omega), hs⟩
set_option maxRecDepth 100000 in
theorem drawTransferSteps_any (A : Option Addr) (n c : Nat) (w : World) (h : BytsA w A n c) : Calls Try.prog 18 #[.slice A n c] w (DrawnTr w) := by
  go_enter Try.func18, Try.ntmps18
  go_wp2_with fail
  refine (l6Open_any _ _ _ _ h.read h.len h.cap).mono ?_
  rintro e w1 ⟨rb, rfl, hrb, hrd1, hb1⟩
  go_wp2_with fail
  refine (l93Transfer_any rb 0 _ hrd1 (by omega)).mono ?_
  rintro e w2 ⟨A2, m2, c2, ps, B, d, k2, ls, s, p2, rfl, hm2, hown2, hk2, hl2, hs2, hp2, hrd2, hdr2⟩
  go_wp2
  go_ret3
  exact drawnTr_of hown2 hm2 hl2 hk2 hs2 hb1 hrb hdr2 (Nat.le_refl _)
set_option maxRecDepth 100000 in
theorem drawTransferWinners_any (A : Option Addr) (n c : Nat) (w : World) (h : BytsA w A n c) : Calls Try.prog 26 #[.slice A n c] w (DrawnTr w) := by
  go_enter Try.func26, Try.ntmps26
  go_wp2_with fail
  refine (l6Open_any _ _ _ _ h.read h.len h.cap).mono ?_
  rintro e w1 ⟨rb, rfl, hrb, hrd1, hb1⟩
  go_wp2_with fail
  refine (l93Transfer_any rb 0 _ hrd1 (by omega)).mono ?_
  rintro e w2 ⟨A2, m2, c2, ps, B, d, k2, ls, s, p2, rfl, hm2, hown2, hk2, hl2, hs2, hp2, hrd2, hdr2⟩
  go_wp2
  go_ret3
  exact drawnTr_of hown2 hm2 hl2 hk2 hs2 hb1 hrb hdr2 (Nat.le_refl _)
end Go.Proofs.Ytiinfbjlkbjmmaa
