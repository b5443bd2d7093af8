/-
  Seats that are drawn for votes.
-/
import Derived.Test.YtimldfknbeiadaaLotsE
import Derived.Test.YtimldfknbeiadaaDivQ
namespace Go.Proofs.Ytimldfknbeiadaa
open Go.ChangeShapes Go.WideShapes Go.ChangeAt Go.RowKit
/-- Small numbers. -/
def Bd (xs : List Int) : Prop := ∀ x ∈ xs, -1000 ≤ x ∧ x ≤ 1000
def SBd (xs : List Int) : Prop := ∀ x ∈ xs, -100 ≤ x ∧ x ≤ 100
theorem SBd.up {xs : List Int} (h : SBd xs) : Bd xs := fun y hy => by have := h y hy; omega
theorem SBd.set {xs : List Int} (h : SBd xs) (k : Nat) {x : Int} (hx : -1000 ≤ x ∧ x ≤ 1000) : Bd (xs.set k x) := fun y hy => by
  rcases List.mem_or_eq_of_mem_set hy with hy | rfl
  · exact h.up y hy
  · exact hx
theorem SBd.take {xs : List Int} (h : SBd xs) (k : Nat) : Bd (xs.take k) := fun y hy => h.up y (mem_take hy)
theorem SBd.snoc {xs : List Int} (h : SBd xs) {x : Int} (hx : -100 ≤ x ∧ x ≤ 100) : SBd (xs ++ [x]) := fun y hy => by
  rcases List.mem_append.1 hy with hy | hy
  · exact h y hy
  · simp at hy; subst hy; exact hx
theorem OwnN.cellB {w : World} {base g n c : Nat} {xs : List Int} (h : OwnN w base (some ⟨g, 0, none⟩) n c xs) {k : Nat} (hk : k < n) : ∃ x, w.cell? ⟨g, k, none⟩ = some (.int .i64 x) ∧ x ∈ xs := by
  have hx := List.getElem?_eq_getElem (l := xs) (i := k) (by rw [h.1]; exact hk)
  exact ⟨_, h.2.cell hx, mem_of_at hx⟩
/-- A draw of at most n small ints. -/
def DrawLB (w : World) (rb p K : Nat) (n : Nat) (e : Ending) (w' : World) : Prop :=
  ∃ (A : Option Addr) (c : Nat) (xs : List Int) (m p' : Nat), e = .returned (.slice A m c) ∧ m ≤ n ∧ OwnN w' w.heap.size A m c xs ∧ p' ≤ p + K ∧ Rd w' rb p' ∧ Dr rb w w' ∧ Bd xs
theorem divF_bd {xs : List Int} {s m : Int} {ls ys : List Int} (h : divF xs s m ls = (ys, true)) : SBd ys := by
  obtain ⟨k, _, hk, hD, hy⟩ := divF_true h
  have g := div_given hD hy hk
  intro y hy'
  have := g.bd y hy'
  omega
set_option maxRecDepth 100000 in
set_option maxHeartbeats 3200000 in
theorem l92Given_any (rb p nx cx : Nat) (X : Option Addr) (xs : List Int) (m : Int) (w : World) (h : Rd w rb p) (hp : p ≤ 800000) (hX : OwnN w (rb + 1) X nx cx xs) (hn1 : 1 ≤ nx) (hn5 : nx ≤ 5) :
    Calls Try.prog 59 #[.pointer (some ⟨rb, 0, none⟩), .slice X nx cx, .int .i64 m] w (DrawLB w rb p 20 5) := by
  have hrb := h.lt
  obtain ⟨hnx, hX⟩ := hX
  subst hnx
  go_enter Try.func59, Try.ntmps59
  go_wp2
  go_loopw [7, 8] (fun o i wr => ∃ (k : Nat) (A : Option Addr) (c : Nat) (ys : List Int) (p' : Nat), k ≤ xs.length ∧ i = .int .i64 k ∧ o = .slice A k c ∧ OwnN wr w.heap.size A k c ys ∧ p' ≤ p + k ∧ Rd wr rb p' ∧ Dr rb w wr ∧ Hid (SBd ys)) (fun _ i _ => xs.length - (intOf i).toNat)
  case atStart => exact ⟨0, _, _, [], p, by omega, rfl, rfl, ⟨rfl, own_empty w (Nat.le_refl _)⟩, by omega, h.alloc _, (Dr.refl _ _).alloc _, fun x hx => by simp at hx⟩
  case round =>
    obtain ⟨k, A, c, ys, p', hk, rfl, rfl, hown, hp', hrd, hdr, hbdy⟩ := hrel
    have hsz := hdr.size
    by_cases hlt : k < xs.length
    · go_wp2_with (first | (go_at_call 40; refine (pick_n rb p' _ _ hrd (by omega) (by omega) (by omega)).mono ?_; rintro e w2 ⟨q, hq, rfl, hrd2, hdr2⟩) | (at_builtin; refine wpList_app1 _ rfl (.tmp 21) (.tmp 24) rfl w.heap.size A k c _ rfl (hown.dr hdr2 hrb) (by have := hdr2.size; omega) (by omega) _ rfl ?_; intro A' c' w' hown' hgr' hbl'))
      go_roundw
      case rel => exact ⟨k + 1, _, _, _, p' + 1, by omega, by go_num, rfl, hown', by omega, hrd2.below' hbl' hrb, (hdr.trans hdr2).below hbl', hbdy.out.snoc ⟨by omega, by omega⟩⟩
      case measure => simp [intOf]; omega
    · obtain rfl : k = xs.length := by omega
      clear hlt
      have hx0 := hX.dr hdr (Nat.lt_succ_self rb)
      go_wp2_with fail
      refine (pick_n rb p' _ _ hrd (by omega) (by omega) (by omega)).mono ?_
      rintro e w2 ⟨q2, hq2, rfl, hrd2, hdr2⟩
      have hx2 := hx0.dr hdr2 (Nat.lt_succ_self rb)
      have hy2 := hown.dr hdr2 hrb
      have hd2 := hdr.trans hdr2
      clear hx0 hown hrd hdr
      go_wp2_with fail
      refine (specLotsOf_any xs.length _ _ hn1 hn5 (by omega) (by omega)).mono ?_
      rintro e w3 ⟨A3, c3, ls, rfl, hl3, hb3⟩
      have hx3 := hx2.below hb3
      have hy3 : OwnN w3 w.heap.size A xs.length c ys := ⟨hy2.1, hy2.2.below hb3⟩
      have hrd3 := hrd2.below hb3
      have hd3 := hd2.below (hb3.mono hd2.size)
      obtain ⟨hll, hl3⟩ := hl3
      clear hx2 hy2 hrd2 hd2
      go_wp2_with fail
      refine (pick_n rb (p' + 1) _ _ hrd3 (by omega) (by omega) (by omega)).mono ?_
      rintro e w4 ⟨q4, hq4, rfl, hrd4, hdr4⟩
      have hx4 := hx3.dr hdr4 (Nat.lt_succ_self rb)
      have hy4 := hy3.dr hdr4 hrb
      have hl4 := hl3.dr hdr4 (by have := hdr2.size; omega)
      have hd4 := hd3.trans hdr4
      clear hx3 hy3 hrd3 hd3
      have cD := specDivisor_any X A3 xs ls cx c3 (q4 : Int) m w4 hx4.ints hl4.ints (by omega) (by omega) hl4.le_cap
      rw [hll] at cD
      have cD := Lib.hid cD
      have hrl := divF_len (xs := xs) (by omega) (q4 : Int) m ls
      have HLL := Lib.hid hll
      clear hll
      obtain ⟨r, hr⟩ : ∃ r, divF xs (q4 : Int) m ls = r := ⟨_, rfl⟩
      rw [hr] at cD hrl
      have HRD := Lib.hid hr
      clear hr
      obtain ⟨zs, b⟩ := r
      have hrl : zs.length ≤ 5 := hrl
      go_wp2_with fail
      refine cD.out.mono ?_
      rintro e w5 ⟨A5, c5, rfl, ho5, hb5⟩
      have hz4 := hd4.size
      have hq5 : OwnN w5 w.heap.size A5 zs.length c5 zs := ⟨rfl, ho5.mono hz4⟩
      have hy5 : OwnN w5 w.heap.size A xs.length c ys := ⟨hy4.1, hy4.2.below hb5⟩
      have hrd5 := hrd4.below hb5
      have hd5 := hd4.below (hb5.mono hz4)
      clear hy4 hrd4 hd4 hx4 hl4 hl3 hX cD
      cases b
      · by_cases hn0 : xs.length ≤ 0
        · exact absurd hn0 (by omega)
        obtain ⟨g, hA, hg0, hg1⟩ := hy5.form (by omega)
        subst hA
        have hn0i : (0 : Int) < (xs.length : Int) := by omega
        go_wp2_with fail
        refine (pick_n rb (p' + 2) _ _ hrd5 (by omega) (by omega) (by omega)).mono ?_
        rintro e u1 ⟨r1, hr1, rfl, hru1, hdu1⟩
        have hou1 := hy5.dr hdu1 hrb
        have hdd1 := (hd5).trans hdu1
        have hr1n : r1 < xs.length := by omega
        go_wp2_with fail
        refine (pick_n rb (p' + 2 + 1) _ _ hru1 (by omega) (by omega) (by omega)).mono ?_
        rintro e u2 ⟨r2, hr2, rfl, hru2, hdu2⟩
        have hou2 := hou1.dr hdu2 hrb
        have hdd2 := hdd1.trans hdu2
        have hzu2 := hdd2.size
        have hfu2 := hou2.2.frozen r1
        obtain ⟨xv, hxv, hxm⟩ := hou2.cellB hr1n
        obtain ⟨hxv0, hxv1⟩ := hbdy.out xv hxm
        have hcapu : xs.length ≤ c := by have := hou2.2.le_cap; have := hou2.1; omega
        by_cases h0 : r2 = 0
        · subst h0
          go_wp2
          go_ret
          exact ⟨_, _, _, _, p' + 2 + 2, rfl, by omega, hou2.setN r1 _, by omega, hru2.setCell (by simp; omega) _, hdd2.setCell (by simp; omega) _, hbdy.out.set _ ⟨by omega, by omega⟩⟩
        by_cases h1 : r2 = 1
        · subst h1
          go_wp2
          go_ret
          exact ⟨_, _, _, _, p' + 2 + 2, rfl, by omega, hou2.setN r1 _, by omega, hru2.setCell (by simp; omega) _, hdd2.setCell (by simp; omega) _, hbdy.out.set _ ⟨by omega, by omega⟩⟩
        by_cases h2 : r2 = 2
        · subst h2
          go_wp2_with fail
          refine (pick_n rb (p' + 2 + 2) _ _ hru2 (by omega) (by omega) (by omega)).mono ?_
          rintro e u3 ⟨r3, hr3, rfl, hru3, hdu3⟩
          have hou3 := hou2.dr hdu3 hrb
          by_cases h3 : r3 = 0
          · subst h3
            go_wp2
            go_ret
            exact ⟨_, _, _, _, p' + 2 + 3, rfl, by omega, hou3.takeN (Nat.le_of_lt hr1n) (by omega), by omega, hru3, hdd2.trans hdu3, hbdy.out.take _⟩
          · have h3b : ((r3 : Int) == 0) = false := by simp; omega
            go_wp2
            go_ret
            exact ⟨_, _, _, _, p' + 2 + 3, rfl, by omega, hou3, by omega, hru3, hdd2.trans hdu3, hbdy.out.up⟩
        have h0b : ((r2 : Int) == 0) = false := by simp; omega
        have h1b : ((r2 : Int) == 1) = false := by simp; omega
        have h2b : ((r2 : Int) == 2) = false := by simp; omega
        go_wp2
        go_ret
        exact ⟨_, _, _, _, p' + 2 + 2, rfl, by omega, hou2, by omega, hru2, hdd2, hbdy.out.up⟩
      · have hbdz : Hid (SBd zs) := divF_bd HRD.out
        go_wp2_with fail
        refine (pick_n rb (p' + 2) _ _ hrd5 (by omega) (by omega) (by omega)).mono ?_
        rintro e w6 ⟨q6, hq6, rfl, hrd6, hdr6⟩
        have hy6 := hy5.dr hdr6 hrb
        have hz6 := hq5.dr hdr6 hrb
        have hd6 := hd5.trans hdr6
        clear hy5 hq5 hrd5 hd5
        by_cases hq60 : 0 < q6
        · have hq6i : (0 : Int) < q6 := by omega
          by_cases hn0 : zs.length ≤ 0
          · have hn0i : ¬ (0 : Int) < (zs.length : Int) := by omega
            go_wp2
            go_ret
            exact ⟨_, _, _, _, p' + 3, rfl, by omega, hz6, by omega, hrd6, hd6, hbdz.out.up⟩
          obtain ⟨g, hA, hg0, hg1⟩ := hz6.form (by omega)
          subst hA
          have hn0i : (0 : Int) < (zs.length : Int) := by omega
          go_wp2_with fail
          refine (pick_n rb (p' + 3) _ _ hrd6 (by omega) (by omega) (by omega)).mono ?_
          rintro e u1 ⟨r1, hr1, rfl, hru1, hdu1⟩
          have hou1 := hz6.dr hdu1 hrb
          have hdd1 := (hd6).trans hdu1
          have hr1n : r1 < zs.length := by omega
          go_wp2_with fail
          refine (pick_n rb (p' + 3 + 1) _ _ hru1 (by omega) (by omega) (by omega)).mono ?_
          rintro e u2 ⟨r2, hr2, rfl, hru2, hdu2⟩
          have hou2 := hou1.dr hdu2 hrb
          have hdd2 := hdd1.trans hdu2
          have hzu2 := hdd2.size
          have hfu2 := hou2.2.frozen r1
          obtain ⟨xv, hxv, hxm⟩ := hou2.cellB hr1n
          obtain ⟨hxv0, hxv1⟩ := hbdz.out xv hxm
          have hcapu : zs.length ≤ c5 := by have := hou2.2.le_cap; have := hou2.1; omega
          by_cases h0 : r2 = 0
          · subst h0
            go_wp2
            go_ret
            exact ⟨_, _, _, _, p' + 3 + 2, rfl, by omega, hou2.setN r1 _, by omega, hru2.setCell (by simp; omega) _, hdd2.setCell (by simp; omega) _, hbdz.out.set _ ⟨by omega, by omega⟩⟩
          by_cases h1 : r2 = 1
          · subst h1
            go_wp2
            go_ret
            exact ⟨_, _, _, _, p' + 3 + 2, rfl, by omega, hou2.setN r1 _, by omega, hru2.setCell (by simp; omega) _, hdd2.setCell (by simp; omega) _, hbdz.out.set _ ⟨by omega, by omega⟩⟩
          by_cases h2 : r2 = 2
          · subst h2
            go_wp2_with fail
            refine (pick_n rb (p' + 3 + 2) _ _ hru2 (by omega) (by omega) (by omega)).mono ?_
            rintro e u3 ⟨r3, hr3, rfl, hru3, hdu3⟩
            have hou3 := hou2.dr hdu3 hrb
            by_cases h3 : r3 = 0
            · subst h3
              go_wp2
              go_ret
              exact ⟨_, _, _, _, p' + 3 + 3, rfl, by omega, hou3.takeN (Nat.le_of_lt hr1n) (by omega), by omega, hru3, hdd2.trans hdu3, hbdz.out.take _⟩
            · have h3b : ((r3 : Int) == 0) = false := by simp; omega
              go_wp2
              go_ret
              exact ⟨_, _, _, _, p' + 3 + 3, rfl, by omega, hou3, by omega, hru3, hdd2.trans hdu3, hbdz.out.up⟩
          have h0b : ((r2 : Int) == 0) = false := by simp; omega
          have h1b : ((r2 : Int) == 1) = false := by simp; omega
          have h2b : ((r2 : Int) == 2) = false := by simp; omega
          go_wp2
          go_ret
          exact ⟨_, _, _, _, p' + 3 + 2, rfl, by omega, hou2, by omega, hru2, hdd2, hbdz.out.up⟩
        · have hq6i : ¬ (0 : Int) < q6 := by omega
          by_cases hn0 : xs.length ≤ 0
          · exact absurd hn0 (by omega)
          obtain ⟨g, hA, hg0, hg1⟩ := hy6.form (by omega)
          subst hA
          have hn0i : (0 : Int) < (xs.length : Int) := by omega
          go_wp2_with fail
          refine (pick_n rb (p' + 3) _ _ hrd6 (by omega) (by omega) (by omega)).mono ?_
          rintro e u1 ⟨r1, hr1, rfl, hru1, hdu1⟩
          have hou1 := hy6.dr hdu1 hrb
          have hdd1 := (hd6).trans hdu1
          have hr1n : r1 < xs.length := by omega
          go_wp2_with fail
          refine (pick_n rb (p' + 3 + 1) _ _ hru1 (by omega) (by omega) (by omega)).mono ?_
          rintro e u2 ⟨r2, hr2, rfl, hru2, hdu2⟩
          have hou2 := hou1.dr hdu2 hrb
          have hdd2 := hdd1.trans hdu2
          have hzu2 := hdd2.size
          have hfu2 := hou2.2.frozen r1
          obtain ⟨xv, hxv, hxm⟩ := hou2.cellB hr1n
          obtain ⟨hxv0, hxv1⟩ := hbdy.out xv hxm
          have hcapu : xs.length ≤ c := by have := hou2.2.le_cap; have := hou2.1; omega
          by_cases h0 : r2 = 0
          · subst h0
            go_wp2
            go_ret
            exact ⟨_, _, _, _, p' + 3 + 2, rfl, by omega, hou2.setN r1 _, by omega, hru2.setCell (by simp; omega) _, hdd2.setCell (by simp; omega) _, hbdy.out.set _ ⟨by omega, by omega⟩⟩
          by_cases h1 : r2 = 1
          · subst h1
            go_wp2
            go_ret
            exact ⟨_, _, _, _, p' + 3 + 2, rfl, by omega, hou2.setN r1 _, by omega, hru2.setCell (by simp; omega) _, hdd2.setCell (by simp; omega) _, hbdy.out.set _ ⟨by omega, by omega⟩⟩
          by_cases h2 : r2 = 2
          · subst h2
            go_wp2_with fail
            refine (pick_n rb (p' + 3 + 2) _ _ hru2 (by omega) (by omega) (by omega)).mono ?_
            rintro e u3 ⟨r3, hr3, rfl, hru3, hdu3⟩
            have hou3 := hou2.dr hdu3 hrb
            by_cases h3 : r3 = 0
            · subst h3
              go_wp2
              go_ret
              exact ⟨_, _, _, _, p' + 3 + 3, rfl, by omega, hou3.takeN (Nat.le_of_lt hr1n) (by omega), by omega, hru3, hdd2.trans hdu3, hbdy.out.take _⟩
            · have h3b : ((r3 : Int) == 0) = false := by simp; omega
              go_wp2
              go_ret
              exact ⟨_, _, _, _, p' + 3 + 3, rfl, by omega, hou3, by omega, hru3, hdd2.trans hdu3, hbdy.out.up⟩
          have h0b : ((r2 : Int) == 0) = false := by simp; omega
          have h1b : ((r2 : Int) == 1) = false := by simp; omega
          have h2b : ((r2 : Int) == 2) = false := by simp; omega
          go_wp2
          go_ret
          exact ⟨_, _, _, _, p' + 3 + 2, rfl, by omega, hou2, by omega, hru2, hdd2, hbdy.out.up⟩
end Go.Proofs.Ytimldfknbeiadaa
