/-
  Points for places on ballots: the program's one loop with its three closures.
-/
import Derived.Test.YthngafmnkihkgaaPtsP
namespace Go.Proofs.Ythngafmnkihkgaa
open Go.RowKit
theorem cell_below_lt {w0 w : World} (hb : Below w0.heap.size w0 w) {p : Addr} {u : Value} (h : w0.cell? p = some u) : w.cell? p = some u := cell_below hb h
theorem cell_set_far {w : World} {p : Addr} {u : Value} (h : w.cell? p = some u) {a : Addr} {v : Value} (hne : a.block ≠ p.block) : (w.setCell a v).cell? p = some u :=
  (World.cell?_setCell_other w _ _ _ (fun e => hne (by rw [e]))).trans h
theorem pl_take (ps : List (ByteArray × Int)) (k : Nat) : pl (ps.take k) = (pl ps).take k := by simp [pl]
theorem pl_nod_take {ps : List (ByteArray × Int)} {n : Nat} (h : FitOk ps n) (k : Nat) : ∀ p ∈ pl (ps.take k), p.bal.Nodup := fun p hp => pl_nod h p (List.mem_of_mem_take (by rw [← pl_take]; exact hp))
theorem pl_nn_take {ps : List (ByteArray × Int)} {n : Nat} (h : FitOk ps n) (k : Nat) : ∀ p ∈ pl (ps.take k), 0 ≤ p.many := fun p hp => pl_nn h.many p (List.mem_of_mem_take (by rw [← pl_take]; exact hp))
theorem pl_take_tot {ps : List (ByteArray × Int)} {n : Nat} (h : FitOk ps n) (k : Nat) : ((pl (ps.take k)).map Pl.many).sum ≤ 1188 := by
  rw [pl_many]
  exact (totM_bd h.len h.many k).2
/-- Points of a depth, of places, of last places. -/
def fD (d : Int) (j _l : Nat) : Int := if (j : Int) < d then 1 else 0
def fP (n : Nat) (j _l : Nat) : Int := if j < n then (n : Int) - 1 - j else 0
def fL (n : Nat) (j l : Nat) : Int := if l = n ∧ j + 1 = n then 1 else 0
theorem fD_bd (d : Int) (j l : Nat) : 0 ≤ fD d j l ∧ fD d j l ≤ 4 := by unfold fD; split <;> omega
theorem fP_bd {n : Nat} (hn : n ≤ 5) (j l : Nat) : 0 ≤ fP n j l ∧ fP n j l ≤ 4 := by unfold fP; split <;> omega
theorem fL_bd (n : Nat) (j l : Nat) : 0 ≤ fL n j l ∧ fL n j l ≤ 4 := by unfold fL; split <;> omega
set_option maxHeartbeats 400000 in
theorem one_any (b : Bool) (w : World) : Calls Try.prog 42 #[.bool b] w (Ret w (.int .i64 (if b then 1 else 0))) := by
  cases b
  all_goals
    go_enter Try.func42, Try.ntmps42
    go_wp2
    go_ret
    exact ⟨rfl, rfl⟩
set_option maxHeartbeats 800000 in
theorem depthFn_any (g : Nat) (d : Int) (j l : Nat) (w : World) (hc : w.cell? ⟨g, 0, none⟩ = some (.int .i64 d)) :
    Calls Try.prog 41 #[.int .i64 j, .int .i64 l, .pointer (some ⟨g, 0, none⟩)] w (Ret w (.int .i64 (fD d j l))) := by
  by_cases hjd : (j : Int) < d
  · have hv := Lib.hid (show fD d j l = 1 from if_pos hjd)
    go_enter Try.func41, Try.ntmps41
    go_wp2_with (go_at_call 42; refine (one_any _ _).mono ?_; rintro e w' ⟨rfl, rfl⟩)
    go_ret
    exact ⟨ret_int (by rw [hv.out]), rfl⟩
  · have hv := Lib.hid (show fD d j l = 0 from if_neg hjd)
    have hd : decide ((j : Int) < d) = false := by simpa using hjd
    go_enter Try.func41, Try.ntmps41
    go_wp2_with (go_at_call 42; refine (one_any _ _).mono ?_; rintro e w' ⟨rfl, rfl⟩)
    go_ret
    exact ⟨ret_int (by rw [hv.out]), rfl⟩
set_option maxHeartbeats 800000 in
theorem placeFn_any (g n : Nat) (j l : Nat) (w : World) (hc : w.cell? ⟨g, 0, none⟩ = some (.int .i64 n)) (hn : n ≤ 5) (hj : j < n) :
    Calls Try.prog 50 #[.int .i64 j, .int .i64 l, .pointer (some ⟨g, 0, none⟩)] w (Ret w (.int .i64 (fP n j l))) := by
  have hv := Lib.hid (show fP n j l = (n : Int) - 1 - j from if_pos hj)
  go_enter Try.func50, Try.ntmps50
  go_wp2
  go_ret
  exact ⟨ret_int (by rw [hv.out]), rfl⟩
set_option maxHeartbeats 800000 in
theorem lastFn_any (g n : Nat) (j l : Nat) (w : World) (hc : w.cell? ⟨g, 0, none⟩ = some (.int .i64 n)) (hn : n ≤ 5) (hn1 : 1 ≤ n) :
    Calls Try.prog 54 #[.int .i64 j, .int .i64 l, .pointer (some ⟨g, 0, none⟩)] w (Ret w (.int .i64 (fL n j l))) := by
  by_cases h1 : l = n
  · by_cases h2 : j + 1 = n
    · have hv := Lib.hid (show fL n j l = 1 from if_pos ⟨h1, h2⟩)
      have e1 : ((l : Int) == (n : Int)) = true := by simp [h1]
      have e2 : ((j : Int) == (n : Int) - 1) = true := by simp; omega
      clear h1 h2
      go_enter Try.func54, Try.ntmps54
      go_wp2_with (go_at_call 42; refine (one_any _ _).mono ?_; rintro e w' ⟨rfl, rfl⟩)
      go_ret
      exact ⟨ret_int (by rw [hv.out]), rfl⟩
    · have hv := Lib.hid (show fL n j l = 0 from if_neg (fun h => h2 h.2))
      have e1 : ((l : Int) == (n : Int)) = true := by simp [h1]
      have e2 : ((j : Int) == (n : Int) - 1) = false := by simp; omega
      clear h1 h2
      go_enter Try.func54, Try.ntmps54
      go_wp2_with (go_at_call 42; refine (one_any _ _).mono ?_; rintro e w' ⟨rfl, rfl⟩)
      go_ret
      exact ⟨ret_int (by rw [hv.out]), rfl⟩
  · have hv := Lib.hid (show fL n j l = 0 from if_neg (fun h => h1 h.1))
    have e1 : ((l : Int) == (n : Int)) = false := by simp; omega
    clear h1
    go_enter Try.func54, Try.ntmps54
    go_wp2_with (go_at_call 42; refine (one_any _ _).mono ?_; rintro e w' ⟨rfl, rfl⟩)
    go_ret
    exact ⟨ret_int (by rw [hv.out]), rfl⟩
set_option maxRecDepth 100000 in
set_option maxHeartbeats 3200000 in
theorem places_depth (A : Option Addr) (ps : List (ByteArray × Int)) (c n g : Nat) (d : Int) (w : World) (h : PilesI w A ps) (hf : Hid (FitOk ps n)) (hg : w.cell? ⟨g, 0, none⟩ = some (.int .i64 d)) :
    Calls Try.prog 40 #[.slice A ps.length c, .int .i64 n, .func (.func 41) #[] #[.pointer (some ⟨g, 0, none⟩)]] w (NewI w (ptsA n (fD d) (pl ps))) := by
  have hl := hf.out.len
  have hl5 := hf.out.n5
  have hl1 := hf.out.n1
  have hFB := Lib.hid (fD_bd d : ∀ j l, 0 ≤ (fD d) j l ∧ (fD d) j l ≤ 4)
  go_enter Try.func40, Try.ntmps40
  go_wp2_with (at_make; refine wpList_makeI _ rfl _ _ rfl n rfl rfl (by omega) ?_; intro w1 hown hbel hsz)
  go_loopw [9, 10, 11, 12, 17] (fun _ _ _ _ i wr => ∃ k : Nat, k ≤ ps.length ∧ i = .int .i64 k ∧ OwnN wr w.heap.size (some ⟨w.heap.size, 0, none⟩) n n (ptsA n (fD d) (pl (ps.take k))) ∧ Below w.heap.size w wr) (fun _ _ _ _ i _ => ps.length - (intOf i).toNat)
  case atStart => exact ⟨0, by omega, rfl, ⟨ptsA_len _ _ _, hown.congr (ptsA_nil n (fD d)).symm⟩, hbel⟩
  case round =>
    clear hown hbel hsz
    obtain ⟨k, hk, rfl, hown, hbel⟩ := hrel
    have hsz := hbel.size
    by_cases hlt : k < ps.length
    · obtain ⟨ad, s, m, rfl, hp, hs, hc0, hc1⟩ := (h.below hbel).at_ hlt
      obtain ⟨hbp, hbv⟩ := hf.out.bvs (pmem_at hp.out)
      have hbl := (bv_len hbv).1
      have HRG := Lib.hid (hf.out.rng _ (pmem_at hp.out))
      have HND := Lib.hid (hf.out.nod _ (pmem_at hp.out))
      obtain ⟨hm0, hm1⟩ : 1 ≤ m ∧ m ≤ 99 := hf.out.many _ (pmem_at hp.out)
      have hgl : w.heap.size < wr.heap.size := (hown.2.block w.heap.size (by rw [hown.1]; rfl)).2
      go_wp2_with fail
      refine (pileBallot_any s m _ hs).mono ?_
      rintro e w2 ⟨B, dd, rfl, ho, hb2⟩
      rw [hbp] at ho ⊢
      have hB2 := below_down (hbel.alloc hsz _) hb2
      have z1 : w2.cell? ⟨wr.heap.size, 1, none⟩ = some (.int .i64 m) := cell_below hb2 (cell_of_row _ wr.heap.size 1 #[.string s, .int .i64 m] 31 (0, 0) (heap_alloc_new wr _))
      have hown2 := OwnN.below (OwnN.alloc hown (.cells #[.string s, .int .i64 m] 31)) hb2
      have ho' : OwnI w2 (w.heap.size + 1) B dd (bal s) := ho.mono (by simp; omega)
      clear ho
      have hpn := Lib.hid (pl_snoc hp.out)
      generalize hgp : wr.heap.size = gp at z1 hgl ⊢
      have hgp0 : w.heap.size < gp := by omega
      clear hb2 hown hbel hbp hbv hgp hgl hsz hc0 hc1
      obtain ⟨b, hb⟩ : ∃ b, b = bal s := ⟨_, rfl⟩
      rw [← hb] at ho' hbl HRG HND hpn ⊢
      clear hb
      obtain ⟨wo, rfl⟩ : ∃ wo : World, wo = wr := ⟨_, rfl⟩
      go_wp2
      go_loopw [11, 12, 25] (fun _ _ i wr => ∃ j : Nat, j ≤ b.length ∧ i = .int .i64 j ∧ OwnN wr w.heap.size (some ⟨w.heap.size, 0, none⟩) n n (ptsL n (fD d) (pl (ps.take k)) m (fun j => (fD d) j b.length) (b.take j)) ∧ OwnI wr (w.heap.size + 1) B dd b ∧ wr.cell? ⟨gp, 1, none⟩ = some (.int .i64 m) ∧ Below w.heap.size w wr) (fun _ _ i _ => b.length - (intOf i).toNat)
      case atStart => exact ⟨0, by omega, rfl, hown2.congr (by rw [List.take_zero, ptsL_nil]), ho', z1, hB2⟩
      case round =>
        clear hown2 ho' z1 hB2
        obtain ⟨j, hj, rfl, hown, ho, z1, hbel⟩ := hrel
        by_cases hltj : j < b.length
        · obtain ⟨adb, x, hA, hx, hcx⟩ := ho.ints.at_ hltj
          subst hA
          obtain ⟨hx0, hx1⟩ := HRG.out x (mem_of_at hx.out)
          obtain ⟨q, rfl⟩ := Int.eq_ofNat_of_zero_le hx0
          have hqn : q < n := by omega
          clear hx0 hx1
          have hsz := hbel.size
          have hc := hown.cellX (ptsL_at (f := (fD d)) (ps := pl (ps.take k)) (m := m) (g := fun j => (fD d) j b.length) (b := b.take j) hqn)
          have hfz := hown.frozenX q
          have hgc := cell_below_lt hbel hg
          obtain ⟨t0, t1⟩ := ptsC_bd (M := 4) (by omega) hFB.out (ps := pl (ps.take k)) (pl_nod_take hf.out k) (pl_nn_take hf.out k) q
          obtain ⟨r0, r1⟩ := rowC_take (M := 4) (by omega) (fun j => hFB.out j b.length) HND.out q j
          obtain ⟨f0, f1⟩ := hFB.out j b.length
          have tt := pl_take_tot hf.out k
          obtain ⟨m0, m1⟩ := mul_le5 (m := m) (N := 99) ⟨by omega, hm1⟩ ⟨r0, r1⟩ (by omega)
          obtain ⟨mf0, mf1⟩ := mul_le5 (m := m) (N := 99) ⟨by omega, hm1⟩ ⟨f0, f1⟩ (by omega)
          have hq := Lib.hid (ptsL_set (n := n) (f := (fD d)) (ps := pl (ps.take k)) (m := m) (g := fun j => (fD d) j b.length) (b := b.take j) (c := q))
          have htl : (b.take j).length = j := by rw [List.length_take]; omega
          rw [htl] at hq
          obtain ⟨X, hX⟩ : ∃ X, X = ptsC (fD d) q (pl (ps.take k)) + m * rowC (fun j => (fD d) j b.length) q (b.take j) := ⟨_, rfl⟩
          rw [← hX] at hc hq
          have hX0 : 0 ≤ X ∧ X ≤ 6000 := by omega
          obtain ⟨hX0, hX1⟩ := hX0
          have hsn := Lib.hid (take_snoc _ _ _ hx.out)
          have cC := Lib.hid (fun w h => depthFn_any g d j b.length w h)
          obtain ⟨F, hF⟩ : ∃ F, F = (fD d) j b.length := ⟨_, rfl⟩
          rw [← hF] at f0 f1 mf0 mf1 hq cC
          have w1 : IntKind.i64.wrap (m * F) = m * F := IntWalk.i64_in _ (by omega)
          have w2 : IntKind.i64.wrap (X + m * F) = X + m * F := IntWalk.i64_in _ (by omega)
          have hj0 : (0 : Int) ≤ (j : Int) := by omega
          have hj1 : (j : Int) < (b.length : Int) := by omega
          have hq0 : (0 : Int) ≤ (q : Int) := by omega
          have hq1 : (q : Int) < (n : Int) := by omega
          clear hX t0 t1 r0 r1 tt m0 m1 htl hF
          go_wp2
          refine wp_still_tail 14 (by kernel_rfl) (by kernel_rfl) ?_
          simp only [List.take_succ_cons, List.take_zero, List.drop_succ_cons, List.drop_zero]
          repeat (first | still_step | still_call (Ret.still (cC.out _ (cell_drew hgc))))
          refine wpStill_nil ?_
          go_wp2
          clear w1 w2
          go_roundw
          case rel => exact ⟨j + 1, by omega, by go_num, (OwnN.setX (OwnN.drew hown) q (X + m * F)).congr (by rw [hsn.out]; exact hq.out), (ho.drewN 1).grownRow (grown_setCell (grown_refl _ _) _ _) (fun k hk => by injection hk with hk; omega), cell_set_far (cell_drew z1) (by simp; omega), (hbel.drew).setCell (Nat.le_refl _) _⟩
          case measure => simp [intOf]; omega
        · obtain rfl : j = b.length := by omega
          clear hltj
          have hown' : OwnN wr w.heap.size (some ⟨w.heap.size, 0, none⟩) n n (ptsA n (fD d) (pl (ps.take (k + 1)))) := hown.congr (by rw [List.take_length]; exact (ptsL_all n (fD d) (pl (ps.take k)) ⟨b, m⟩).trans (by rw [hpn.out]))
          clear hown
          go_wp2
          go_roundw
          case rel => exact ⟨k + 1, by omega, by go_num, hown', hbel⟩
          case measure => simp [intOf]; omega
    · obtain rfl : k = ps.length := by omega
      clear hlt
      have hown' := hown.congr (by rw [List.take_length])
      go_wp2
      go_ret
      exact newI_mk hown' hbel
set_option maxRecDepth 100000 in
set_option maxHeartbeats 3200000 in
theorem places_place (A : Option Addr) (ps : List (ByteArray × Int)) (c n g : Nat) (d : Int) (w : World) (h : PilesI w A ps) (hf : Hid (FitOk ps n)) (hg : w.cell? ⟨g, 0, none⟩ = some (.int .i64 d))(hd : Hid (d = (n : Int))) :
    Calls Try.prog 40 #[.slice A ps.length c, .int .i64 n, .func (.func 50) #[] #[.pointer (some ⟨g, 0, none⟩)]] w (NewI w (ptsA n (fP n) (pl ps))) := by
  have hl := hf.out.len
  have hl5 := hf.out.n5
  have hl1 := hf.out.n1
  have hFB := Lib.hid (fP_bd hf.out.n5 : ∀ j l, 0 ≤ (fP n) j l ∧ (fP n) j l ≤ 4)
  go_enter Try.func40, Try.ntmps40
  go_wp2_with (at_make; refine wpList_makeI _ rfl _ _ rfl n rfl rfl (by omega) ?_; intro w1 hown hbel hsz)
  go_loopw [9, 10, 11, 12, 17] (fun _ _ _ _ i wr => ∃ k : Nat, k ≤ ps.length ∧ i = .int .i64 k ∧ OwnN wr w.heap.size (some ⟨w.heap.size, 0, none⟩) n n (ptsA n (fP n) (pl (ps.take k))) ∧ Below w.heap.size w wr) (fun _ _ _ _ i _ => ps.length - (intOf i).toNat)
  case atStart => exact ⟨0, by omega, rfl, ⟨ptsA_len _ _ _, hown.congr (ptsA_nil n (fP n)).symm⟩, hbel⟩
  case round =>
    clear hown hbel hsz
    obtain ⟨k, hk, rfl, hown, hbel⟩ := hrel
    have hsz := hbel.size
    by_cases hlt : k < ps.length
    · obtain ⟨ad, s, m, rfl, hp, hs, hc0, hc1⟩ := (h.below hbel).at_ hlt
      obtain ⟨hbp, hbv⟩ := hf.out.bvs (pmem_at hp.out)
      have hbl := (bv_len hbv).1
      have HRG := Lib.hid (hf.out.rng _ (pmem_at hp.out))
      have HND := Lib.hid (hf.out.nod _ (pmem_at hp.out))
      obtain ⟨hm0, hm1⟩ : 1 ≤ m ∧ m ≤ 99 := hf.out.many _ (pmem_at hp.out)
      have hgl : w.heap.size < wr.heap.size := (hown.2.block w.heap.size (by rw [hown.1]; rfl)).2
      go_wp2_with fail
      refine (pileBallot_any s m _ hs).mono ?_
      rintro e w2 ⟨B, dd, rfl, ho, hb2⟩
      rw [hbp] at ho ⊢
      have hB2 := below_down (hbel.alloc hsz _) hb2
      have z1 : w2.cell? ⟨wr.heap.size, 1, none⟩ = some (.int .i64 m) := cell_below hb2 (cell_of_row _ wr.heap.size 1 #[.string s, .int .i64 m] 31 (0, 0) (heap_alloc_new wr _))
      have hown2 := OwnN.below (OwnN.alloc hown (.cells #[.string s, .int .i64 m] 31)) hb2
      have ho' : OwnI w2 (w.heap.size + 1) B dd (bal s) := ho.mono (by simp; omega)
      clear ho
      have hpn := Lib.hid (pl_snoc hp.out)
      generalize hgp : wr.heap.size = gp at z1 hgl ⊢
      have hgp0 : w.heap.size < gp := by omega
      clear hb2 hown hbel hbp hbv hgp hgl hsz hc0 hc1
      obtain ⟨b, hb⟩ : ∃ b, b = bal s := ⟨_, rfl⟩
      rw [← hb] at ho' hbl HRG HND hpn ⊢
      clear hb
      obtain ⟨wo, rfl⟩ : ∃ wo : World, wo = wr := ⟨_, rfl⟩
      go_wp2
      go_loopw [11, 12, 25] (fun _ _ i wr => ∃ j : Nat, j ≤ b.length ∧ i = .int .i64 j ∧ OwnN wr w.heap.size (some ⟨w.heap.size, 0, none⟩) n n (ptsL n (fP n) (pl (ps.take k)) m (fun j => (fP n) j b.length) (b.take j)) ∧ OwnI wr (w.heap.size + 1) B dd b ∧ wr.cell? ⟨gp, 1, none⟩ = some (.int .i64 m) ∧ Below w.heap.size w wr) (fun _ _ i _ => b.length - (intOf i).toNat)
      case atStart => exact ⟨0, by omega, rfl, hown2.congr (by rw [List.take_zero, ptsL_nil]), ho', z1, hB2⟩
      case round =>
        clear hown2 ho' z1 hB2
        obtain ⟨j, hj, rfl, hown, ho, z1, hbel⟩ := hrel
        by_cases hltj : j < b.length
        · obtain ⟨adb, x, hA, hx, hcx⟩ := ho.ints.at_ hltj
          subst hA
          obtain ⟨hx0, hx1⟩ := HRG.out x (mem_of_at hx.out)
          obtain ⟨q, rfl⟩ := Int.eq_ofNat_of_zero_le hx0
          have hqn : q < n := by omega
          clear hx0 hx1
          have hsz := hbel.size
          have hc := hown.cellX (ptsL_at (f := (fP n)) (ps := pl (ps.take k)) (m := m) (g := fun j => (fP n) j b.length) (b := b.take j) hqn)
          have hfz := hown.frozenX q
          have hgc := cell_below_lt hbel hg
          obtain ⟨t0, t1⟩ := ptsC_bd (M := 4) (by omega) hFB.out (ps := pl (ps.take k)) (pl_nod_take hf.out k) (pl_nn_take hf.out k) q
          obtain ⟨r0, r1⟩ := rowC_take (M := 4) (by omega) (fun j => hFB.out j b.length) HND.out q j
          obtain ⟨f0, f1⟩ := hFB.out j b.length
          have tt := pl_take_tot hf.out k
          obtain ⟨m0, m1⟩ := mul_le5 (m := m) (N := 99) ⟨by omega, hm1⟩ ⟨r0, r1⟩ (by omega)
          obtain ⟨mf0, mf1⟩ := mul_le5 (m := m) (N := 99) ⟨by omega, hm1⟩ ⟨f0, f1⟩ (by omega)
          have hq := Lib.hid (ptsL_set (n := n) (f := (fP n)) (ps := pl (ps.take k)) (m := m) (g := fun j => (fP n) j b.length) (b := b.take j) (c := q))
          have htl : (b.take j).length = j := by rw [List.length_take]; omega
          rw [htl] at hq
          obtain ⟨X, hX⟩ : ∃ X, X = ptsC (fP n) q (pl (ps.take k)) + m * rowC (fun j => (fP n) j b.length) q (b.take j) := ⟨_, rfl⟩
          rw [← hX] at hc hq
          have hX0 : 0 ≤ X ∧ X ≤ 6000 := by omega
          obtain ⟨hX0, hX1⟩ := hX0
          have hsn := Lib.hid (take_snoc _ _ _ hx.out)
          have cC := Lib.hid (fun w (h : w.cell? ⟨g, 0, none⟩ = some (.int .i64 d)) => placeFn_any g n j b.length w (by rw [← hd.out]; exact h) hf.out.n5 (by omega))
          obtain ⟨F, hF⟩ : ∃ F, F = (fP n) j b.length := ⟨_, rfl⟩
          rw [← hF] at f0 f1 mf0 mf1 hq cC
          have w1 : IntKind.i64.wrap (m * F) = m * F := IntWalk.i64_in _ (by omega)
          have w2 : IntKind.i64.wrap (X + m * F) = X + m * F := IntWalk.i64_in _ (by omega)
          have hj0 : (0 : Int) ≤ (j : Int) := by omega
          have hj1 : (j : Int) < (b.length : Int) := by omega
          have hq0 : (0 : Int) ≤ (q : Int) := by omega
          have hq1 : (q : Int) < (n : Int) := by omega
          clear hX t0 t1 r0 r1 tt m0 m1 htl hF
          go_wp2
          refine wp_still_tail 14 (by kernel_rfl) (by kernel_rfl) ?_
          simp only [List.take_succ_cons, List.take_zero, List.drop_succ_cons, List.drop_zero]
          repeat (first | still_step | still_call (Ret.still (cC.out _ (cell_drew hgc))))
          refine wpStill_nil ?_
          go_wp2
          clear w1 w2
          go_roundw
          case rel => exact ⟨j + 1, by omega, by go_num, (OwnN.setX (OwnN.drew hown) q (X + m * F)).congr (by rw [hsn.out]; exact hq.out), (ho.drewN 1).grownRow (grown_setCell (grown_refl _ _) _ _) (fun k hk => by injection hk with hk; omega), cell_set_far (cell_drew z1) (by simp; omega), (hbel.drew).setCell (Nat.le_refl _) _⟩
          case measure => simp [intOf]; omega
        · obtain rfl : j = b.length := by omega
          clear hltj
          have hown' : OwnN wr w.heap.size (some ⟨w.heap.size, 0, none⟩) n n (ptsA n (fP n) (pl (ps.take (k + 1)))) := hown.congr (by rw [List.take_length]; exact (ptsL_all n (fP n) (pl (ps.take k)) ⟨b, m⟩).trans (by rw [hpn.out]))
          clear hown
          go_wp2
          go_roundw
          case rel => exact ⟨k + 1, by omega, by go_num, hown', hbel⟩
          case measure => simp [intOf]; omega
    · obtain rfl : k = ps.length := by omega
      clear hlt
      have hown' := hown.congr (by rw [List.take_length])
      go_wp2
      go_ret
      exact newI_mk hown' hbel
set_option maxRecDepth 100000 in
set_option maxHeartbeats 3200000 in
theorem places_last (A : Option Addr) (ps : List (ByteArray × Int)) (c n g : Nat) (d : Int) (w : World) (h : PilesI w A ps) (hf : Hid (FitOk ps n)) (hg : w.cell? ⟨g, 0, none⟩ = some (.int .i64 d))(hd : Hid (d = (n : Int))) :
    Calls Try.prog 40 #[.slice A ps.length c, .int .i64 n, .func (.func 54) #[] #[.pointer (some ⟨g, 0, none⟩)]] w (NewI w (ptsA n (fL n) (pl ps))) := by
  have hl := hf.out.len
  have hl5 := hf.out.n5
  have hl1 := hf.out.n1
  have hFB := Lib.hid (fL_bd n : ∀ j l, 0 ≤ (fL n) j l ∧ (fL n) j l ≤ 4)
  go_enter Try.func40, Try.ntmps40
  go_wp2_with (at_make; refine wpList_makeI _ rfl _ _ rfl n rfl rfl (by omega) ?_; intro w1 hown hbel hsz)
  go_loopw [9, 10, 11, 12, 17] (fun _ _ _ _ i wr => ∃ k : Nat, k ≤ ps.length ∧ i = .int .i64 k ∧ OwnN wr w.heap.size (some ⟨w.heap.size, 0, none⟩) n n (ptsA n (fL n) (pl (ps.take k))) ∧ Below w.heap.size w wr) (fun _ _ _ _ i _ => ps.length - (intOf i).toNat)
  case atStart => exact ⟨0, by omega, rfl, ⟨ptsA_len _ _ _, hown.congr (ptsA_nil n (fL n)).symm⟩, hbel⟩
  case round =>
    clear hown hbel hsz
    obtain ⟨k, hk, rfl, hown, hbel⟩ := hrel
    have hsz := hbel.size
    by_cases hlt : k < ps.length
    · obtain ⟨ad, s, m, rfl, hp, hs, hc0, hc1⟩ := (h.below hbel).at_ hlt
      obtain ⟨hbp, hbv⟩ := hf.out.bvs (pmem_at hp.out)
      have hbl := (bv_len hbv).1
      have HRG := Lib.hid (hf.out.rng _ (pmem_at hp.out))
      have HND := Lib.hid (hf.out.nod _ (pmem_at hp.out))
      obtain ⟨hm0, hm1⟩ : 1 ≤ m ∧ m ≤ 99 := hf.out.many _ (pmem_at hp.out)
      have hgl : w.heap.size < wr.heap.size := (hown.2.block w.heap.size (by rw [hown.1]; rfl)).2
      go_wp2_with fail
      refine (pileBallot_any s m _ hs).mono ?_
      rintro e w2 ⟨B, dd, rfl, ho, hb2⟩
      rw [hbp] at ho ⊢
      have hB2 := below_down (hbel.alloc hsz _) hb2
      have z1 : w2.cell? ⟨wr.heap.size, 1, none⟩ = some (.int .i64 m) := cell_below hb2 (cell_of_row _ wr.heap.size 1 #[.string s, .int .i64 m] 31 (0, 0) (heap_alloc_new wr _))
      have hown2 := OwnN.below (OwnN.alloc hown (.cells #[.string s, .int .i64 m] 31)) hb2
      have ho' : OwnI w2 (w.heap.size + 1) B dd (bal s) := ho.mono (by simp; omega)
      clear ho
      have hpn := Lib.hid (pl_snoc hp.out)
      generalize hgp : wr.heap.size = gp at z1 hgl ⊢
      have hgp0 : w.heap.size < gp := by omega
      clear hb2 hown hbel hbp hbv hgp hgl hsz hc0 hc1
      obtain ⟨b, hb⟩ : ∃ b, b = bal s := ⟨_, rfl⟩
      rw [← hb] at ho' hbl HRG HND hpn ⊢
      clear hb
      obtain ⟨wo, rfl⟩ : ∃ wo : World, wo = wr := ⟨_, rfl⟩
      go_wp2
      go_loopw [11, 12, 25] (fun _ _ i wr => ∃ j : Nat, j ≤ b.length ∧ i = .int .i64 j ∧ OwnN wr w.heap.size (some ⟨w.heap.size, 0, none⟩) n n (ptsL n (fL n) (pl (ps.take k)) m (fun j => (fL n) j b.length) (b.take j)) ∧ OwnI wr (w.heap.size + 1) B dd b ∧ wr.cell? ⟨gp, 1, none⟩ = some (.int .i64 m) ∧ Below w.heap.size w wr) (fun _ _ i _ => b.length - (intOf i).toNat)
      case atStart => exact ⟨0, by omega, rfl, hown2.congr (by rw [List.take_zero, ptsL_nil]), ho', z1, hB2⟩
      case round =>
        clear hown2 ho' z1 hB2
        obtain ⟨j, hj, rfl, hown, ho, z1, hbel⟩ := hrel
        by_cases hltj : j < b.length
        · obtain ⟨adb, x, hA, hx, hcx⟩ := ho.ints.at_ hltj
          subst hA
          obtain ⟨hx0, hx1⟩ := HRG.out x (mem_of_at hx.out)
          obtain ⟨q, rfl⟩ := Int.eq_ofNat_of_zero_le hx0
          have hqn : q < n := by omega
          clear hx0 hx1
          have hsz := hbel.size
          have hc := hown.cellX (ptsL_at (f := (fL n)) (ps := pl (ps.take k)) (m := m) (g := fun j => (fL n) j b.length) (b := b.take j) hqn)
          have hfz := hown.frozenX q
          have hgc := cell_below_lt hbel hg
          obtain ⟨t0, t1⟩ := ptsC_bd (M := 4) (by omega) hFB.out (ps := pl (ps.take k)) (pl_nod_take hf.out k) (pl_nn_take hf.out k) q
          obtain ⟨r0, r1⟩ := rowC_take (M := 4) (by omega) (fun j => hFB.out j b.length) HND.out q j
          obtain ⟨f0, f1⟩ := hFB.out j b.length
          have tt := pl_take_tot hf.out k
          obtain ⟨m0, m1⟩ := mul_le5 (m := m) (N := 99) ⟨by omega, hm1⟩ ⟨r0, r1⟩ (by omega)
          obtain ⟨mf0, mf1⟩ := mul_le5 (m := m) (N := 99) ⟨by omega, hm1⟩ ⟨f0, f1⟩ (by omega)
          have hq := Lib.hid (ptsL_set (n := n) (f := (fL n)) (ps := pl (ps.take k)) (m := m) (g := fun j => (fL n) j b.length) (b := b.take j) (c := q))
          have htl : (b.take j).length = j := by rw [List.length_take]; omega
          rw [htl] at hq
          obtain ⟨X, hX⟩ : ∃ X, X = ptsC (fL n) q (pl (ps.take k)) + m * rowC (fun j => (fL n) j b.length) q (b.take j) := ⟨_, rfl⟩
          rw [← hX] at hc hq
          have hX0 : 0 ≤ X ∧ X ≤ 6000 := by omega
          obtain ⟨hX0, hX1⟩ := hX0
          have hsn := Lib.hid (take_snoc _ _ _ hx.out)
          have cC := Lib.hid (fun w (h : w.cell? ⟨g, 0, none⟩ = some (.int .i64 d)) => lastFn_any g n j b.length w (by rw [← hd.out]; exact h) hf.out.n5 hf.out.n1)
          obtain ⟨F, hF⟩ : ∃ F, F = (fL n) j b.length := ⟨_, rfl⟩
          rw [← hF] at f0 f1 mf0 mf1 hq cC
          have w1 : IntKind.i64.wrap (m * F) = m * F := IntWalk.i64_in _ (by omega)
          have w2 : IntKind.i64.wrap (X + m * F) = X + m * F := IntWalk.i64_in _ (by omega)
          have hj0 : (0 : Int) ≤ (j : Int) := by omega
          have hj1 : (j : Int) < (b.length : Int) := by omega
          have hq0 : (0 : Int) ≤ (q : Int) := by omega
          have hq1 : (q : Int) < (n : Int) := by omega
          clear hX t0 t1 r0 r1 tt m0 m1 htl hF
          go_wp2
          refine wp_still_tail 14 (by kernel_rfl) (by kernel_rfl) ?_
          simp only [List.take_succ_cons, List.take_zero, List.drop_succ_cons, List.drop_zero]
          repeat (first | still_step | still_call (Ret.still (cC.out _ (cell_drew hgc))))
          refine wpStill_nil ?_
          go_wp2
          clear w1 w2
          go_roundw
          case rel => exact ⟨j + 1, by omega, by go_num, (OwnN.setX (OwnN.drew hown) q (X + m * F)).congr (by rw [hsn.out]; exact hq.out), (ho.drewN 1).grownRow (grown_setCell (grown_refl _ _) _ _) (fun k hk => by injection hk with hk; omega), cell_set_far (cell_drew z1) (by simp; omega), (hbel.drew).setCell (Nat.le_refl _) _⟩
          case measure => simp [intOf]; omega
        · obtain rfl : j = b.length := by omega
          clear hltj
          have hown' : OwnN wr w.heap.size (some ⟨w.heap.size, 0, none⟩) n n (ptsA n (fL n) (pl (ps.take (k + 1)))) := hown.congr (by rw [List.take_length]; exact (ptsL_all n (fL n) (pl (ps.take k)) ⟨b, m⟩).trans (by rw [hpn.out]))
          clear hown
          go_wp2
          go_roundw
          case rel => exact ⟨k + 1, by omega, by go_num, hown', hbel⟩
          case measure => simp [intOf]; omega
    · obtain rfl : k = ps.length := by omega
      clear hlt
      have hown' := hown.congr (by rw [List.take_length])
      go_wp2
      go_ret
      exact newI_mk hown' hbel
end Go.Proofs.Ythngafmnkihkgaa
