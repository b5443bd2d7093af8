/-
  Counts of a depth, of places, of last places: the reference's functions.
-/
import Derived.Test.YthngafmnkihkgaaPtsI
namespace Go.Proofs.Ythngafmnkihkgaa
open Go.RowKit
theorem rowC_rest {g : Nat → Int} {c : Int} {b : List Int} {j : Nat} (h : ∀ i, j ≤ i → g i = 0) : rowC g c (b.take j) = rowC g c b := by
  have key : ∀ (b : List Int) (k j : Nat), (∀ i, k + j ≤ i → g i = 0) → (((b.take j).zipIdx k).map fun x => if x.1 = c then g x.2 else 0).sum = ((b.zipIdx k).map fun x => if x.1 = c then g x.2 else 0).sum := by
    intro b
    induction b with
    | nil => intro k j _; simp
    | cons a t ih =>
      intro k j hj
      cases j with
      | zero =>
        have h0 : ∀ (l : List Int) (k : Nat), (∀ i, k ≤ i → g i = 0) → ((l.zipIdx k).map fun x => if x.1 = c then g x.2 else 0).sum = 0 := by
          intro l
          induction l with
          | nil => intro k _; rfl
          | cons a t ih =>
            intro k hk
            simp only [List.zipIdx_cons, List.map_cons, List.sum_cons]
            rw [ih (k + 1) (fun i hi => hk i (by omega)), hk k (Nat.le_refl _)]
            simp
        rw [h0 _ k (fun i hi => hj i (by omega)), h0 _ k (fun i hi => hj i (by omega))]
      | succ j =>
        simp only [List.take_succ_cons, List.zipIdx_cons, List.map_cons, List.sum_cons]
        rw [ih (k + 1) j (fun i hi => hj i (by omega))]
  exact key b 0 j (fun i hi => h i (by omega))
theorem ptsL_rest {n : Nat} {f : Nat → Nat → Int} {ps : List Pl} {m : Int} {g : Nat → Int} {b : List Int} {j : Nat} (h : ∀ i, j ≤ i → g i = 0) : ptsL n f ps m g (b.take j) = ptsL n f ps m g b := by
  unfold ptsL
  apply List.map_congr_left
  intro c _
  rw [rowC_rest h]
theorem fD_no {d : Int} {i l : Nat} (h : ¬ (i : Int) < d) : fD d i l = 0 := if_neg h
set_option maxRecDepth 100000 in
set_option maxHeartbeats 3200000 in
theorem l14Depth_any (A : Option Addr) (ps : List (ByteArray × Int)) (c n : Nat) (d : Int) (hd0 : 0 ≤ d) (hd5 : d ≤ 5) (w : World) (h : PilesI w A ps) (hf : Hid (FitOk ps n)) :
    Calls Try.prog 45 #[.slice A ps.length c, .int .i64 n, .int .i64 d] w (NewI w (ptsA n (fD d) (pl ps))) := by
  have hl := hf.out.len
  have hl5 := hf.out.n5
  have hl1 := hf.out.n1
  have hFB := Lib.hid (fD_bd d : ∀ j l, 0 ≤ (fD d) j l ∧ (fD d) j l ≤ 4)
  go_enter Try.func45, Try.ntmps45
  go_wp2_with (at_make; refine wpList_makeI _ rfl _ _ rfl n rfl rfl (by omega) ?_; intro w1 hown hbel hsz)
  go_loopw [8, 9, 10, 11] (fun i _ _ _ wr => ∃ k : Nat, k ≤ ps.length ∧ i = .int .i64 k ∧ OwnN wr w.heap.size (some ⟨w.heap.size, 0, none⟩) n n (ptsA n (fD d) (pl (ps.take k))) ∧ Below w.heap.size w wr) (fun i _ _ _ _ => ps.length - (intOf i).toNat)
  case atStart => exact ⟨0, by omega, rfl, ⟨ptsA_len _ _ _, hown.congr (ptsA_nil n (fD d)).symm⟩, hbel⟩
  case round =>
    clear hown hbel hsz
    obtain ⟨k, hk, rfl, hown, hbel⟩ := hrel
    have hsz := hbel.size
    by_cases hlt : k < ps.length
    · obtain ⟨ad, s, m, rfl, hp, hs, hc0, hc1⟩ := (h.below hbel).at_ hlt
      obtain ⟨hbp, hbv⟩ := hf.out.bvs (pmem_at hp.out)
      have hbl := (bv_len hbv).1
      have HRG := Lib.hid (hf.out.rng _ (pmem_at hp.out))
      have HND := Lib.hid (hf.out.nod _ (pmem_at hp.out))
      obtain ⟨hm0, hm1⟩ : 1 ≤ m ∧ m ≤ 99 := hf.out.many _ (pmem_at hp.out)
      have hgl : w.heap.size < wr.heap.size := (hown.2.block w.heap.size (by rw [hown.1]; rfl)).2
      go_wp2_with fail
      refine (specParse_p s _ hs).mono ?_
      rintro e w2 ⟨B, dd, rfl, ho, hb2⟩
      rw [hbp] at ho ⊢
      have hB2 := below_down hbel hb2
      have hown2 := OwnN.below hown hb2
      have ho' : OwnI w2 (w.heap.size + 1) B dd (bal s) := ho.mono (by omega)
      clear ho
      have hpn := Lib.hid (pl_snoc hp.out)
      clear hb2 hown hbel hbp hbv hgl hsz hc0 hc1
      have HP := Lib.hid hp.out
      obtain ⟨b, hb⟩ : ∃ b, b = bal s := ⟨_, rfl⟩
      rw [← hb] at ho' hbl HRG HND hpn ⊢
      clear hb
      obtain ⟨wo, rfl⟩ : ∃ wo : World, wo = wr := ⟨_, rfl⟩
      go_wp2
      go_loopw [11] (fun i wr => ∃ j : Nat, j ≤ b.length ∧ i = .int .i64 j ∧ OwnN wr w.heap.size (some ⟨w.heap.size, 0, none⟩) n n (ptsL n (fD d) (pl (ps.take k)) m (fun j => (fD d) j b.length) (b.take j)) ∧ OwnI wr (w.heap.size + 1) B dd b ∧ Below w.heap.size w wr) (fun i _ => b.length - (intOf i).toNat)
      case atStart => exact ⟨0, by omega, rfl, hown2.congr (by rw [List.take_zero, ptsL_nil]), ho', hB2⟩
      case round =>
        clear hown2 ho' hB2
        obtain ⟨j, hj, rfl, hown, ho, hbel⟩ := hrel
        by_cases hltj : j < b.length ∧ (j : Int) < d
        · obtain ⟨hltj, hjd⟩ := hltj
          obtain ⟨adb, x, hA, hx, hcx⟩ := ho.ints.at_ hltj
          subst hA
          obtain ⟨hx0, hx1⟩ := HRG.out x (mem_of_at hx.out)
          obtain ⟨q, rfl⟩ := Int.eq_ofNat_of_zero_le hx0
          have hqn : q < n := by omega
          clear hx0 hx1
          have hsz := hbel.size
          obtain ⟨ad2, s2, m2, hA2, hp2, _, _, hc1⟩ := (h.below hbel).at_ hlt
          obtain rfl : ad = ad2 := by injection hA2
          obtain rfl : m = m2 := by
            have e := HP.out.symm.trans hp2.out
            injection e with e
            injection e
          clear hA2 hp2
          have hc := hown.cellX (ptsL_at (f := (fD d)) (ps := pl (ps.take k)) (m := m) (g := fun j => (fD d) j b.length) (b := b.take j) hqn)
          have hfz := hown.frozenX q
          obtain ⟨t0, t1⟩ := ptsC_bd (M := 4) (by omega) hFB.out (ps := pl (ps.take k)) (pl_nod_take hf.out k) (pl_nn_take hf.out k) q
          obtain ⟨r0, r1⟩ := rowC_take (M := 4) (by omega) (fun j => hFB.out j b.length) HND.out q j
          have tt := pl_take_tot hf.out k
          obtain ⟨m0, m1⟩ := mul_le5 (m := m) (N := 99) ⟨by omega, hm1⟩ ⟨r0, r1⟩ (by omega)
          have hq := Lib.hid (ptsL_set (n := n) (f := (fD d)) (ps := pl (ps.take k)) (m := m) (g := fun j => (fD d) j b.length) (b := b.take j) (c := q))
          have htl : (b.take j).length = j := by rw [List.length_take]; omega
          rw [htl] at hq
          obtain ⟨X, hX⟩ : ∃ X, X = ptsC (fD d) q (pl (ps.take k)) + m * rowC (fun j => (fD d) j b.length) q (b.take j) := ⟨_, rfl⟩
          rw [← hX] at hc hq
          have hX0 : 0 ≤ X ∧ X ≤ 6000 := by omega
          obtain ⟨hX0, hX1⟩ := hX0
          have hsn := Lib.hid (take_snoc _ _ _ hx.out)
          have hv : fD d j b.length = 1 := if_pos hjd
          rw [hv, Int.mul_one] at hq
          have w2 : IntKind.i64.wrap (X + m) = X + m := IntWalk.i64_in _ (by omega)
          clear hv
          have hj0 : (0 : Int) ≤ (j : Int) := by omega
          have hj1 : (j : Int) < (b.length : Int) := by omega
          have hq0 : (0 : Int) ≤ (q : Int) := by omega
          have hq1 : (q : Int) < (n : Int) := by omega
          have hk0 : (0 : Int) ≤ (k : Int) := by omega
          have hk1 : (k : Int) < (ps.length : Int) := by omega
          clear hX t0 t1 r0 r1 tt m0 m1 htl
          go_wp2
          go_region
          go_wp2
          clear w2
          go_roundw
          case rel => exact ⟨j + 1, by omega, by go_num, (OwnN.setX (OwnN.drew hown) q _).congr (by rw [hsn.out]; exact hq.out), (ho.drewN 1).grownRow (grown_setCell (grown_refl _ _) _ _) (fun k hk => by injection hk with hk; omega), (hbel.drew).setCell (Nat.le_refl _) _⟩
          case measure => simp [intOf]; omega
        · have hown' : OwnN wr w.heap.size (some ⟨w.heap.size, 0, none⟩) n n (ptsA n (fD d) (pl (ps.take (k + 1)))) := hown.congr (by
            have e : ptsL n (fD d) (pl (ps.take k)) m (fun j => fD d j b.length) (b.take j) = ptsL n (fD d) (pl (ps.take k)) m (fun j => fD d j b.length) b := by
              by_cases hjb : j < b.length
              · exact ptsL_rest (fun i hi => fD_no (by omega))
              · rw [show b.take j = b from List.take_of_length_le (by omega)]
            rw [e, hpn.out]
            exact ptsL_all n (fD d) (pl (ps.take k)) ⟨b, m⟩)
          have hend : ¬ j < b.length ∨ (j < b.length ∧ ¬ (j : Int) < d) := by omega
          clear hltj
          rcases hend with h1 | ⟨h1, h2⟩
          all_goals
            clear hown
            go_wp2
            go_roundw
            case rel => exact ⟨k + 1, by omega, by go_num, hown', hbel⟩
            case measure => simp [intOf]; omega
    · obtain rfl : k = ps.length := by omega
      clear hlt
      have hown' := hown.congr (by rw [List.take_length])
      go_wp2
      go_ret
      exact newI_mk hown' hbel
set_option maxRecDepth 100000 in
set_option maxHeartbeats 3200000 in
theorem l14Places_any (A : Option Addr) (ps : List (ByteArray × Int)) (c n : Nat) (w : World) (h : PilesI w A ps) (hf : Hid (FitOk ps n)) :
    Calls Try.prog 51 #[.slice A ps.length c, .int .i64 n] w (NewI w (ptsA n (fP n) (pl ps))) := by
  have hl := hf.out.len
  have hl5 := hf.out.n5
  have hl1 := hf.out.n1
  have hFB := Lib.hid (fP_bd hl5 : ∀ j l, 0 ≤ (fP n) j l ∧ (fP n) j l ≤ 4)
  go_enter Try.func51, Try.ntmps51
  go_wp2_with (at_make; refine wpList_makeI _ rfl _ _ rfl n rfl rfl (by omega) ?_; intro w1 hown hbel hsz)
  go_loopw [6, 7, 8, 9] (fun i _ _ _ wr => ∃ k : Nat, k ≤ ps.length ∧ i = .int .i64 k ∧ OwnN wr w.heap.size (some ⟨w.heap.size, 0, none⟩) n n (ptsA n (fP n) (pl (ps.take k))) ∧ Below w.heap.size w wr) (fun i _ _ _ _ => ps.length - (intOf i).toNat)
  case atStart => exact ⟨0, by omega, rfl, ⟨ptsA_len _ _ _, hown.congr (ptsA_nil n (fP n)).symm⟩, hbel⟩
  case round =>
    clear hown hbel hsz
    obtain ⟨k, hk, rfl, hown, hbel⟩ := hrel
    have hsz := hbel.size
    by_cases hlt : k < ps.length
    · obtain ⟨ad, s, m, rfl, hp, hs, hc0, hc1⟩ := (h.below hbel).at_ hlt
      obtain ⟨hbp, hbv⟩ := hf.out.bvs (pmem_at hp.out)
      have hbl := (bv_len hbv).1
      have HRG := Lib.hid (hf.out.rng _ (pmem_at hp.out))
      have HND := Lib.hid (hf.out.nod _ (pmem_at hp.out))
      obtain ⟨hm0, hm1⟩ : 1 ≤ m ∧ m ≤ 99 := hf.out.many _ (pmem_at hp.out)
      have hgl : w.heap.size < wr.heap.size := (hown.2.block w.heap.size (by rw [hown.1]; rfl)).2
      go_wp2_with fail
      refine (specParse_p s _ hs).mono ?_
      rintro e w2 ⟨B, dd, rfl, ho, hb2⟩
      rw [hbp] at ho ⊢
      have hB2 := below_down hbel hb2
      have hown2 := OwnN.below hown hb2
      have ho' : OwnI w2 (w.heap.size + 1) B dd (bal s) := ho.mono (by omega)
      clear ho
      have hpn := Lib.hid (pl_snoc hp.out)
      clear hb2 hown hbel hbp hbv hgl hsz hc0 hc1
      have HP := Lib.hid hp.out
      obtain ⟨b, hb⟩ : ∃ b, b = bal s := ⟨_, rfl⟩
      rw [← hb] at ho' hbl HRG HND hpn ⊢
      clear hb
      obtain ⟨wo, rfl⟩ : ∃ wo : World, wo = wr := ⟨_, rfl⟩
      go_wp2
      go_loopw [9] (fun i wr => ∃ j : Nat, j ≤ b.length ∧ i = .int .i64 j ∧ OwnN wr w.heap.size (some ⟨w.heap.size, 0, none⟩) n n (ptsL n (fP n) (pl (ps.take k)) m (fun j => (fP n) j b.length) (b.take j)) ∧ OwnI wr (w.heap.size + 1) B dd b ∧ Below w.heap.size w wr) (fun i _ => b.length - (intOf i).toNat)
      case atStart => exact ⟨0, by omega, rfl, hown2.congr (by rw [List.take_zero, ptsL_nil]), ho', hB2⟩
      case round =>
        clear hown2 ho' hB2
        obtain ⟨j, hj, rfl, hown, ho, hbel⟩ := hrel
        by_cases hltj : j < b.length
        · skip
          obtain ⟨adb, x, hA, hx, hcx⟩ := ho.ints.at_ hltj
          subst hA
          obtain ⟨hx0, hx1⟩ := HRG.out x (mem_of_at hx.out)
          obtain ⟨q, rfl⟩ := Int.eq_ofNat_of_zero_le hx0
          have hqn : q < n := by omega
          clear hx0 hx1
          have hsz := hbel.size
          obtain ⟨ad2, s2, m2, hA2, hp2, _, _, hc1⟩ := (h.below hbel).at_ hlt
          obtain rfl : ad = ad2 := by injection hA2
          obtain rfl : m = m2 := by
            have e := HP.out.symm.trans hp2.out
            injection e with e
            injection e
          clear hA2 hp2
          have hc := hown.cellX (ptsL_at (f := (fP n)) (ps := pl (ps.take k)) (m := m) (g := fun j => (fP n) j b.length) (b := b.take j) hqn)
          have hfz := hown.frozenX q
          obtain ⟨t0, t1⟩ := ptsC_bd (M := 4) (by omega) hFB.out (ps := pl (ps.take k)) (pl_nod_take hf.out k) (pl_nn_take hf.out k) q
          obtain ⟨r0, r1⟩ := rowC_take (M := 4) (by omega) (fun j => hFB.out j b.length) HND.out q j
          have tt := pl_take_tot hf.out k
          obtain ⟨m0, m1⟩ := mul_le5 (m := m) (N := 99) ⟨by omega, hm1⟩ ⟨r0, r1⟩ (by omega)
          have hq := Lib.hid (ptsL_set (n := n) (f := (fP n)) (ps := pl (ps.take k)) (m := m) (g := fun j => (fP n) j b.length) (b := b.take j) (c := q))
          have htl : (b.take j).length = j := by rw [List.length_take]; omega
          rw [htl] at hq
          obtain ⟨X, hX⟩ : ∃ X, X = ptsC (fP n) q (pl (ps.take k)) + m * rowC (fun j => (fP n) j b.length) q (b.take j) := ⟨_, rfl⟩
          rw [← hX] at hc hq
          have hX0 : 0 ≤ X ∧ X ≤ 6000 := by omega
          obtain ⟨hX0, hX1⟩ := hX0
          have hsn := Lib.hid (take_snoc _ _ _ hx.out)
          have hv : fP n j b.length = (n : Int) - 1 - j := if_pos (by omega)
          rw [hv] at hq
          obtain ⟨p0, p1⟩ := mul_le5 (m := m) (N := 99) (x := (n : Int) - 1 - j) (M := 4) ⟨by omega, hm1⟩ ⟨by omega, by omega⟩ (by omega)
          have w1 : IntKind.i64.wrap ((n : Int) - 1) = (n : Int) - 1 := IntWalk.i64_in _ (by omega)
          have w2 : IntKind.i64.wrap ((n : Int) - 1 - j) = (n : Int) - 1 - j := IntWalk.i64_in _ (by omega)
          have w3 : IntKind.i64.wrap (m * ((n : Int) - 1 - j)) = m * ((n : Int) - 1 - j) := IntWalk.i64_in _ (by omega)
          have w4 : IntKind.i64.wrap (X + m * ((n : Int) - 1 - j)) = X + m * ((n : Int) - 1 - j) := IntWalk.i64_in _ (by omega)
          clear hv
          have hj0 : (0 : Int) ≤ (j : Int) := by omega
          have hj1 : (j : Int) < (b.length : Int) := by omega
          have hq0 : (0 : Int) ≤ (q : Int) := by omega
          have hq1 : (q : Int) < (n : Int) := by omega
          have hk0 : (0 : Int) ≤ (k : Int) := by omega
          have hk1 : (k : Int) < (ps.length : Int) := by omega
          clear hX t0 t1 r0 r1 tt m0 m1 htl
          go_wp2
          go_region
          go_wp2
          clear w1 w2 w3 w4
          go_roundw
          case rel => exact ⟨j + 1, by omega, by go_num, (OwnN.setX (OwnN.drew hown) q _).congr (by rw [hsn.out]; exact hq.out), (ho.drewN 1).grownRow (grown_setCell (grown_refl _ _) _ _) (fun k hk => by injection hk with hk; omega), (hbel.drew).setCell (Nat.le_refl _) _⟩
          case measure => simp [intOf]; omega
        · obtain rfl : j = b.length := by omega
          have hown' : OwnN wr w.heap.size (some ⟨w.heap.size, 0, none⟩) n n (ptsA n (fP n) (pl (ps.take (k + 1)))) := hown.congr (by rw [List.take_length, hpn.out]; exact ptsL_all n (fP n) (pl (ps.take k)) ⟨b, m⟩)
          clear hltj
          all_goals
            clear hown
            go_wp2
            go_roundw
            case rel => exact ⟨k + 1, by omega, by go_num, hown', hbel⟩
            case measure => simp [intOf]; omega
    · obtain rfl : k = ps.length := by omega
      clear hlt
      have hown' := hown.congr (by rw [List.take_length])
      go_wp2
      go_ret
      exact newI_mk hown' hbel
theorem rowC_zero {g : Nat → Int} {c : Int} {b : List Int} (h : ∀ j, j < b.length → g j = 0) : rowC g c b = 0 := by
  have key : ∀ (b : List Int) (k : Nat), (∀ j, j < b.length → g (k + j) = 0) → ((b.zipIdx k).map fun x => if x.1 = c then g x.2 else 0).sum = 0 := by
    intro b
    induction b with
    | nil => intro k _; rfl
    | cons a t ih =>
      intro k hk
      simp only [List.zipIdx_cons, List.map_cons, List.sum_cons]
      have h0 := hk 0 (by simp)
      rw [Nat.add_zero] at h0
      rw [ih (k + 1) (fun j hj => by have := hk (j + 1) (by simp; omega); rwa [show k + (j + 1) = k + 1 + j by omega] at this), h0]
      simp
  exact key b 0 (fun j hj => by rw [Nat.zero_add]; exact h j hj)
theorem fL_no {n j l : Nat} (h : ¬ (l = n ∧ j + 1 = n)) : fL n j l = 0 := if_neg h
theorem last_miss {n : Nat} {ps : List Pl} {b : List Int} {m : Int} (h : b.length ≠ n) : ptsA n (fL n) (ps ++ [⟨b, m⟩]) = ptsA n (fL n) ps := by
  unfold ptsA
  apply List.map_congr_left
  intro c _
  rw [ptsC_snoc, rowC_zero (fun j _ => fL_no (fun e => h e.1))]
  simp
theorem last_hit {n : Nat} {ps : List Pl} {b : List Int} {m : Int} {q : Nat} (hl : b.length = n) (hn : 1 ≤ n) (hq : b[n - 1]? = some (q : Int)) : ptsA n (fL n) (ps ++ [⟨b, m⟩]) = (ptsA n (fL n) ps).set q (ptsC (fL n) q ps + m) := by
  have hb : b = b.take (n - 1) ++ [(q : Int)] := by
    have := take_snoc b (n - 1) _ hq
    rw [show n - 1 + 1 = n by omega, List.take_of_length_le (by omega)] at this
    exact this
  have htl : (b.take (n - 1)).length = n - 1 := by rw [List.length_take]; omega
  have hr : ∀ c : Int, rowC (fun j => fL n j b.length) c b = if (q : Int) = c then 1 else 0 := by
    intro c
    have e : rowC (fun j => fL n j b.length) c b = rowC (fun j => fL n j b.length) c (b.take (n - 1) ++ [(q : Int)]) := by rw [← hb]
    rw [e, rowC_snoc, rowC_zero (fun j hj => fL_no (by rw [htl] at hj; omega)), htl]
    have : fL n (n - 1) b.length = 1 := if_pos ⟨hl, by omega⟩
    rw [this]
    omega
  apply List.ext_getElem
  · simp [ptsA]
  · intro i h1 h2
    rw [List.getElem_set]
    simp only [ptsA, List.getElem_map, List.getElem_range]
    rw [ptsC_snoc, hr]
    by_cases hi : q = i
    · subst hi; simp
    · rw [if_neg (show ¬ (q : Int) = (i : Int) by omega), if_neg hi]; omega
set_option maxRecDepth 100000 in
set_option maxHeartbeats 3200000 in
theorem specLast_any (A : Option Addr) (ps : List (ByteArray × Int)) (c n : Nat) (w : World) (h : PilesI w A ps) (hl : ps.length ≤ 1048576) (hn6 : n ≤ 1000) :
    Calls Try.prog 26 #[.slice A ps.length c, .int .i64 n] w (NewIB w (laF ps n)) := by
  have cV := Lib.hid (l3Fits_any A ps c n w h hl (by omega) (by omega))
  cases hv : fitV ps n
  · rw [hv] at cV
    have hq := Lib.hid (laF_f hv)
    go_enter Try.func26, Try.ntmps26
    go_wp2_with (go_at_call 43; refine cV.out.mono ?_; rintro e w1 ⟨rfl, hb1⟩)
    go_ret2
    exact newIB_mk hq.out (OwnN.empty _ hb1.size) (hb1.alloc hb1.size _)
  · rw [hv] at cV
    have hq := Lib.hid (laF_t hv)
    have hf := Lib.hid (fitOk_of hv)
    clear hv
    have hl5 := hf.out.n5
    have hl1 := hf.out.n1
    have hFB := Lib.hid (fL_bd n : ∀ j l, 0 ≤ fL n j l ∧ fL n j l ≤ 4)
    go_enter Try.func26, Try.ntmps26
    go_wp2_with (first | (go_at_call 43; refine cV.out.mono ?_; rintro e w1 ⟨rfl, hb1⟩) | (at_make; refine wpList_makeI _ rfl _ _ rfl n rfl rfl (by omega) ?_; intro w2 hown hbel hsz))
    have hz1 := hb1.size
    obtain ⟨G, hG⟩ : ∃ G, G = w1.heap.size := ⟨_, rfl⟩
    rw [← hG] at hown hsz hz1 ⊢
    have hB := below_down hb1 hbel
    clear hG hbel hb1 cV
    go_loopw [7, 8, 9] (fun i _ _ wr => ∃ k : Nat, k ≤ ps.length ∧ i = .int .i64 k ∧ OwnN wr w.heap.size (some ⟨G, 0, none⟩) n n (ptsA n (fL n) (pl (ps.take k))) ∧ G < wr.heap.size ∧ Below w.heap.size w wr) (fun i _ _ _ => ps.length - (intOf i).toNat)
    case atStart => exact ⟨0, by omega, rfl, ⟨ptsA_len _ _ _, (hown.mono hz1).congr (ptsA_nil n (fL n)).symm⟩, hsz, hB⟩
    case round =>
      clear hown hB hsz
      obtain ⟨k, hk, rfl, hown, hgl, hbel⟩ := hrel
      have hsz := hbel.size
      have hl12 := hf.out.len
      by_cases hlt : k < ps.length
      · obtain ⟨ad, s, m, rfl, hp, hs, hc0, hc1⟩ := (h.below hbel).at_ hlt
        obtain ⟨hbp, hbv⟩ := hf.out.bvs (pmem_at hp.out)
        have hbl := (bv_len hbv).1
        have HRG := Lib.hid (hf.out.rng _ (pmem_at hp.out))
        obtain ⟨hm0, hm1⟩ : 1 ≤ m ∧ m ≤ 99 := hf.out.many _ (pmem_at hp.out)
        go_wp2_with fail
        refine (specParse_p s _ hs).mono ?_
        rintro e w2 ⟨B, dd, rfl, ho, hb2⟩
        rw [hbp] at ho ⊢
        have hB2 := below_down hbel hb2
        have hc1 := cell_below hb2 hc1
        have hown2 := OwnN.below hown hb2
        have hgl2 : G < w2.heap.size := by have := hb2.size; omega
        have ib := ho.ints
        have hpn := Lib.hid (pl_snoc hp.out)
        clear hb2 hown hbel hbp hbv hgl hc0 ho
        obtain ⟨b, hb⟩ : ∃ b, b = bal s := ⟨_, rfl⟩
        rw [← hb] at ib hbl HRG hpn ⊢
        clear hb
        by_cases hln : b.length = n
        · obtain ⟨adb, x, hA, hx, hcx⟩ := ib.at_ (show n - 1 < b.length by omega)
          subst hA
          obtain ⟨hx0, hx1⟩ := HRG.out x (mem_of_at hx.out)
          obtain ⟨q, rfl⟩ := Int.eq_ofNat_of_zero_le hx0
          have hqn : q < n := by omega
          clear hx0 hx1
          have hqq := Lib.hid (last_hit (ps := pl (ps.take k)) (m := m) hln hl1 hx.out)
          have hc := hown2.cellX (ptsA_at (f := fL n) (ps := pl (ps.take k)) hqn)
          have hfz := hown2.frozenX q
          obtain ⟨t0, t1⟩ := ptsC_bd (M := 4) (by omega) hFB.out (ps := pl (ps.take k)) (pl_nod_take hf.out k) (pl_nn_take hf.out k) q
          have tt := pl_take_tot hf.out k
          obtain ⟨X, hX⟩ : ∃ X, X = ptsC (fL n) q (pl (ps.take k)) := ⟨_, rfl⟩
          rw [← hX] at hc hqq
          have hX0 : 0 ≤ X ∧ X ≤ 6000 := by omega
          obtain ⟨hX0, hX1⟩ := hX0
          have hbe : ((b.length : Int) == (n : Int)) = true := by simp [hln]
          obtain ⟨N, hN⟩ : ∃ N : Nat, N = n - 1 := ⟨_, rfl⟩
          rw [← hN] at hcx
          have v1 : IntKind.i64.wrap ((n : Int) - 1) = (N : Int) := by rw [show (n : Int) - 1 = (N : Int) by omega]; exact IntWalk.i64_in _ (by omega)
          have v2 : IntKind.i64.wrap (X + m) = X + m := IntWalk.i64_in _ (by omega)
          have hj0 : (0 : Int) ≤ (N : Int) := by omega
          have hj1 : (N : Int) < (b.length : Int) := by omega
          have hq0 : (0 : Int) ≤ (q : Int) := by omega
          have hq1 : (q : Int) < (n : Int) := by omega
          have hk0 : (0 : Int) ≤ (k : Int) := by omega
          have hk1 : (k : Int) < (ps.length : Int) := by omega
          clear hX t0 t1 tt hln hN
          go_wp2
          go_region
          go_wp2
          clear v1 v2
          go_roundw
          case rel => exact ⟨k + 1, by omega, by go_num, (OwnN.setX (OwnN.drew hown2) q _).congr (by rw [hpn.out]; exact hqq.out.symm), by simpa using hgl2, (hB2.drew).setCell (by simp; omega) _⟩
          case measure => simp [intOf]; omega
        · have hbe : ((b.length : Int) == (n : Int)) = false := by simp; omega
          have hqq := Lib.hid (last_miss (ps := pl (ps.take k)) (m := m) hln)
          clear hln
          go_wp2
          go_roundw
          case rel => exact ⟨k + 1, by omega, by go_num, hown2.congr (by rw [hpn.out]; exact hqq.out.symm), hgl2, hB2⟩
          case measure => simp [intOf]; omega
      · obtain rfl : k = ps.length := by omega
        clear hlt
        have hown' := hown.congr (by rw [List.take_length])
        go_wp2
        go_ret2
        exact newIB_mk hq.out hown' hbel
set_option maxHeartbeats 800000 in
theorem specDepth_any (A : Option Addr) (ps : List (ByteArray × Int)) (c n : Nat) (d : Int) (w : World) (h : PilesI w A ps) (hl : ps.length ≤ 1048576) (hn : n ≤ 1000) :
    Calls Try.prog 13 #[.slice A ps.length c, .int .i64 n, .int .i64 d] w (NewIB w (dpF ps n d)) := by
  have cV := Lib.hid (l3Fits_any A ps c n w h hl (by omega) (by omega))
  cases hv : fitV ps n
  · rw [hv] at cV
    have hq := Lib.hid (dp_f (ps := ps) (n := n) (d := d) (by rw [hv]; rfl))
    go_enter Try.func13, Try.ntmps13
    go_wp2_with (go_at_call 43; refine cV.out.mono ?_; rintro e w1 ⟨rfl, hb1⟩)
    go_ret2
    exact newIB_mk hq.out (OwnN.empty _ hb1.size) (hb1.alloc hb1.size _)
  · rw [hv] at cV
    have hF := Lib.hid (fitOk_of hv)
    have HV := Lib.hid hv
    clear hv
    cases hi : inB d 0 5
    · have hq := Lib.hid (dp_f (ps := ps) (n := n) (d := d) (by rw [hi]; simp))
      go_enter Try.func13, Try.ntmps13
      go_wp2_with (first | (go_at_call 43; refine cV.out.mono ?_; rintro e w1 ⟨rfl, hb1⟩) | (go_at_call 44; refine (l6In_any _ _ _ _).mono ?_; rintro e w' ⟨rfl, rfl⟩))
      go_ret2
      exact newIB_mk hq.out (OwnN.empty _ hb1.size) (hb1.alloc hb1.size _)
    · have hq := Lib.hid (dp_t (d := d) HV.out hi)
      have HD := Lib.hid (inB_iff.1 hi)
      go_enter Try.func13, Try.ntmps13
      go_wp2_with (first | (go_at_call 43; refine cV.out.mono ?_; rintro e w1 ⟨rfl, hb1⟩) | (go_at_call 44; refine (l6In_any _ _ _ _).mono ?_; rintro e w' ⟨rfl, rfl⟩))
      refine (l14Depth_any A ps c n d HD.out.1 HD.out.2 w1 (h.below hb1) hF).mono ?_
      rintro e w2 ⟨B, dd, rfl, ho, hb2⟩
      have ho := ho.mono hb1.size
      have hB := below_down hb1 hb2
      clear hb1 hb2
      go_wp2
      go_ret2
      exact newIB_mk hq.out ⟨rfl, ho⟩ hB
set_option maxHeartbeats 800000 in
theorem specPlace_any (A : Option Addr) (ps : List (ByteArray × Int)) (c n : Nat) (w : World) (h : PilesI w A ps) (hl : ps.length ≤ 1048576) (hn : n ≤ 1000) :
    Calls Try.prog 21 #[.slice A ps.length c, .int .i64 n] w (NewIB w (plF ps n)) := by
  have cV := Lib.hid (l3Fits_any A ps c n w h hl (by omega) (by omega))
  cases hv : fitV ps n
  · rw [hv] at cV
    have hq := Lib.hid (plF_f hv)
    go_enter Try.func21, Try.ntmps21
    go_wp2_with (go_at_call 43; refine cV.out.mono ?_; rintro e w1 ⟨rfl, hb1⟩)
    go_ret2
    exact newIB_mk hq.out (OwnN.empty _ hb1.size) (hb1.alloc hb1.size _)
  · rw [hv] at cV
    have hF := Lib.hid (fitOk_of hv)
    have hq := Lib.hid (plF_t hv)
    clear hv
    go_enter Try.func21, Try.ntmps21
    go_wp2_with (go_at_call 43; refine cV.out.mono ?_; rintro e w1 ⟨rfl, hb1⟩)
    refine (l14Places_any A ps c n w1 (h.below hb1) hF).mono ?_
    rintro e w2 ⟨B, dd, rfl, ho, hb2⟩
    have ho := ho.mono hb1.size
    have hB := below_down hb1 hb2
    clear hb1 hb2
    go_wp2
    go_ret2
    exact newIB_mk hq.out ⟨rfl, ho⟩ hB
end Go.Proofs.Ythngafmnkihkgaa
