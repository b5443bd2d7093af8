/-
  First counts of piles, of the program and of the reference.
-/
import Derived.Test.YthngafmnkihkgaaPilesF
namespace Go.Proofs.Ythngafmnkihkgaa
open Go.RowKit
theorem OwnN.below {w w' : World} {base : Nat} {A : Option Addr} {n c : Nat} {xs : List Int} (h : OwnN w base A n c xs) (hb : Below w.heap.size w w') : OwnN w' base A n c xs := ⟨h.1, h.2.below hb⟩
theorem OwnN.cellX {w : World} {base g : Nat} {n c : Nat} {xs : List Int} (h : OwnN w base (some ⟨g, 0, none⟩) n c xs) {k : Nat} {x : Int} (hx : xs[k]? = some x) : w.cell? ⟨g, k, none⟩ = some (.int .i64 x) := h.2.cell hx
theorem OwnN.frozenX {w : World} {base g : Nat} {n c : Nat} {xs : List Int} (h : OwnN w base (some ⟨g, 0, none⟩) n c xs) (k : Nat) : w.frozen? ⟨g, k, none⟩ = false := by
  obtain ⟨rfl, h⟩ := h
  exact h.frozen k
theorem OwnN.setX {w : World} {base g : Nat} {n c : Nat} {xs : List Int} (h : OwnN w base (some ⟨g, 0, none⟩) n c xs) (k : Nat) (x : Int) : OwnN (w.setCell ⟨g, k, none⟩ (.int .i64 x)) base (some ⟨g, 0, none⟩) n c (xs.set k x) := by
  obtain ⟨rfl, h⟩ := h
  exact ⟨by simp, h.set k x⟩
theorem pl_snoc {ps : List (ByteArray × Int)} {k : Nat} {s : ByteArray} {m : Int} (h : ps[k]? = some (s, m)) : pl (ps.take (k + 1)) = pl (ps.take k) ++ [⟨bal s, m⟩] := by
  unfold pl
  rw [take_snoc _ _ _ h, List.map_append]; rfl
theorem cntC_snoc (left : List Bool) (c : Int) (ps : List Pl) (p : Pl) : cntC left c (ps ++ [p]) = cntC left c ps + if firstL left p.bal = c then p.many else 0 := by
  unfold cntC
  rw [List.map_append, List.map_singleton, sum_app1]
theorem cntL_hit {left : List Bool} {ps : List Pl} {p : Pl} {f : Nat} (h : firstL left p.bal = (f : Int)) : cntL left (ps ++ [p]) = (cntL left ps).set f (cntC left f ps + p.many) := by
  apply List.ext_getElem
  · simp [cntL]
  · intro i h1 h2
    rw [List.getElem_set]
    simp only [cntL, List.getElem_map, List.getElem_range]
    rw [cntC_snoc, h]
    by_cases hi : f = i
    · subst hi; simp
    · rw [if_neg (by omega), if_neg hi]; omega
theorem cntL_miss {left : List Bool} {ps : List Pl} {p : Pl} (h : firstL left p.bal = -1) : cntL left (ps ++ [p]) = cntL left ps := by
  apply List.ext_getElem
  · simp [cntL]
  · intro i h1 h2
    simp only [cntL, List.getElem_map, List.getElem_range]
    rw [cntC_snoc, h, if_neg (by omega)]; omega
theorem cntL_nil (left : List Bool) : cntL left [] = List.replicate left.length 0 := by
  apply List.ext_getElem
  · simp [cntL]
  · intro i h1 h2
    simp [cntL, cntC]
theorem cntC_tot (left : List Bool) (c : Int) (ps : List (ByteArray × Int)) (h : ∀ p ∈ ps, 1 ≤ p.2 ∧ p.2 ≤ 99) : 0 ≤ cntC left c (pl ps) ∧ cntC left c (pl ps) ≤ totM ps := by
  induction ps with
  | nil => simp [cntC, pl, totM]
  | cons p t ih =>
    have h1 := h p (by simp)
    have h2 := ih (fun q hq => h q (by simp [hq]))
    simp only [cntC, pl, totM, List.map_cons, List.sum_cons] at h2 ⊢
    split <;> omega
theorem cntC_bd {ps : List (ByteArray × Int)} {n : Nat} (h : FitOk ps n) (left : List Bool) (c : Int) (k : Nat) : 0 ≤ cntC left c (pl (ps.take k)) ∧ cntC left c (pl (ps.take k)) ≤ 1188 := by
  have h1 := cntC_tot left c (ps.take k) (fun p hp => h.many p (List.mem_of_mem_take hp))
  have h2 := totM_bd h.len h.many k
  omega
theorem FitOk.bvs {ps : List (ByteArray × Int)} {n : Nat} (h : FitOk ps n) {p : ByteArray × Int} (hp : p ∈ ps) : balP p.1 = bal p.1 ∧ bv (bal p.1) n = true := by
  refine ⟨balP_t (h.bts p hp), ?_⟩
  have hi : inB (n : Int) 1 5 = true := inB_t ⟨by have := h.n1; omega, by have := h.n5; omega⟩
  have hb : bp (n : Int) (bal p.1) = true := bp_iff.2 ⟨fun x hx => by have := h.rng p hp x hx; omega, h.nod p hp⟩
  simp [bv, hi, hb]
theorem firstL_cases {left : List Bool} {b : List Int} (hb : ∀ c ∈ b, 0 ≤ c ∧ c < left.length) : firstL left b = -1 ∨ ∃ f : Nat, firstL left b = (f : Int) ∧ f < left.length := by
  rcases firstL_mem (left := left) (b := b) with h | ⟨h, _⟩
  · exact .inl h
  · have := hb _ h
    exact .inr ⟨(firstL left b).toNat, by omega, by omega⟩
set_option maxHeartbeats 1600000 in
theorem firstCounts_any (A A' : Option Addr) (ps : List (ByteArray × Int)) (left : List Bool) (c c' : Nat) (w : World) (h : PilesI w A ps) (h' : Bools w A' left) (hf : Hid (FitOk ps left.length)) :
    Calls Try.prog 48 #[.slice A ps.length c, .slice A' left.length c'] w (NewI w (cntL left (pl ps))) := by
  have hl := hf.out.len
  have hl5 := hf.out.n5
  go_enter Try.func48, Try.ntmps48
  go_wp2_with (at_make; refine wpList_makeI _ rfl _ _ rfl left.length rfl rfl (by omega) ?_; intro w1 hown hbel hsz)
  go_loopw [7, 8, 14] (fun _ _ i wr => ∃ k : Nat, k ≤ ps.length ∧ i = .int .i64 k ∧ OwnN wr w.heap.size (some ⟨w.heap.size, 0, none⟩) left.length left.length (cntL left (pl (ps.take k))) ∧ Below w.heap.size w wr) (fun _ _ i _ => ps.length - (intOf i).toNat)
  case atStart => exact ⟨0, by omega, rfl, ⟨cntL_len _ _, hown.congr (cntL_nil left).symm⟩, hbel⟩
  case round =>
    clear hown hbel hsz
    obtain ⟨k, hk, rfl, hown, hbel⟩ := hrel
    have hsz := hbel.size
    by_cases hlt : k < ps.length
    · obtain ⟨ad, s, m, rfl, hp, hs, hc0, hc1⟩ := (h.below hbel).at_ hlt
      obtain ⟨hbp, hbv⟩ := hf.out.bvs (pmem_at hp.out)
      have HB := Lib.hid hbp
      have hcase := firstL_cases (left := left) (b := bal s) (hf.out.rng _ (pmem_at hp.out))
      have hff : firstF left (balP s) = firstL left (bal s) := by rw [hbp]; unfold firstF; rw [if_pos hbv]
      obtain ⟨hm0, hm1⟩ : 1 ≤ m ∧ m ≤ 99 := hf.out.many _ (pmem_at hp.out)
      clear hbp hbv
      go_wp2_with fail
      refine (pileBallot_any s m _ hs).mono ?_
      rintro e w2 ⟨B, d, rfl, ho, hb2⟩
      have hB2 := below_down (hbel.alloc hsz _) hb2
      have z1 : w2.cell? ⟨wr.heap.size, 1, none⟩ = some (.int .i64 m) := cell_below hb2 (cell_of_row _ wr.heap.size 1 #[.string s, .int .i64 m] 31 (0, 0) (heap_alloc_new wr _))
      have hown2 := OwnN.below (OwnN.alloc hown (.cells #[.string s, .int .i64 m] 31)) hb2
      have hbl := balP_len s
      have cF := Lib.hid (ballotFirst_any B A' (balP s) left d c' w2 ho.ints (h'.below hB2) (by omega) (by omega) ho.le_cap)
      have hpn := Lib.hid (pl_snoc hp.out)
      rw [hff] at cF
      clear hb2 ho hown hff hbel
      rcases hcase with hm | ⟨f, hm, hfl⟩
      · rw [hm] at cF
        have hq := Lib.hid (cntL_miss (ps := pl (ps.take k)) (p := ⟨bal s, m⟩) hm)
        clear hm
        go_wp2_with (go_at_call 75; refine cF.out.mono ?_; rintro e w' ⟨rfl, rfl⟩)
        go_roundw
        case rel => exact ⟨k + 1, by omega, by go_num, hown2.congr (by rw [hpn.out, hq.out]), hB2⟩
        case measure => simp [intOf]; omega
      · rw [hm] at cF
        have hq := Lib.hid (cntL_hit (ps := pl (ps.take k)) (p := ⟨bal s, m⟩) hm)
        have hc := hown2.cellX (cntL_at (ps := pl (ps.take k)) hfl)
        have hfz := hown2.frozenX f
        obtain ⟨hx0, hx1⟩ := cntC_bd hf.out left f k
        obtain ⟨X, hX⟩ : ∃ X, X = cntC left f (pl (ps.take k)) := ⟨_, rfl⟩
        rw [← hX] at hc hx0 hx1
        have HX := Lib.hid hX
        have hwr : IntKind.i64.wrap (X + m) = X + m := IntWalk.i64_in _ (by omega)
        have hf0 : (0 : Int) ≤ (f : Int) := by omega
        have hf1 : (f : Int) < (left.length : Int) := by omega
        clear hm hX
        go_wp2_with (go_at_call 75; refine cF.out.mono ?_; rintro e w' ⟨rfl, rfl⟩)
        go_region
        clear hwr
        go_wp2
        go_roundw
        case rel => exact ⟨k + 1, by omega, by go_num, (OwnN.setX (OwnN.drew hown2) f (X + m)).congr (by rw [hpn.out, hq.out, HX.out]), (hB2.drew).setCell (Nat.le_refl _) _⟩
        case measure => simp [intOf]; omega
    · obtain rfl : k = ps.length := by omega
      clear hlt
      have hown' := hown.congr (by rw [List.take_length])
      go_wp2
      go_ret
      exact newI_mk hown' hbel
set_option maxHeartbeats 1600000 in
theorem l11Counts_any (A A' : Option Addr) (ps : List (ByteArray × Int)) (left : List Bool) (c c' : Nat) (w : World) (h : PilesI w A ps) (h' : Bools w A' left) (hf : Hid (FitOk ps left.length)) :
    Calls Try.prog 49 #[.slice A ps.length c, .slice A' left.length c'] w (NewI w (cntL left (pl ps))) := by
  have hl := hf.out.len
  have hl5 := hf.out.n5
  go_enter Try.func49, Try.ntmps49
  go_wp2_with (at_make; refine wpList_makeI _ rfl _ _ rfl left.length rfl rfl (by omega) ?_; intro w1 hown hbel hsz)
  go_loopw [6, 7, 8, 9] (fun i _ _ _ wr => ∃ k : Nat, k ≤ ps.length ∧ i = .int .i64 k ∧ OwnN wr w.heap.size (some ⟨w.heap.size, 0, none⟩) left.length left.length (cntL left (pl (ps.take k))) ∧ Below w.heap.size w wr) (fun i _ _ _ _ => ps.length - (intOf i).toNat)
  case atStart => exact ⟨0, by omega, rfl, ⟨cntL_len _ _, hown.congr (cntL_nil left).symm⟩, hbel⟩
  case round =>
    clear hown hbel hsz
    obtain ⟨k, hk, rfl, hown, hbel⟩ := hrel
    have hsz := hbel.size
    by_cases hlt : k < ps.length
    · obtain ⟨ad, s, m, rfl, hp, hs, hc0, hc1⟩ := (h.below hbel).at_ hlt
      obtain ⟨hbp, hbv⟩ := hf.out.bvs (pmem_at hp.out)
      have hrg := hf.out.rng _ (pmem_at hp.out)
      have hcase := firstL_cases (left := left) (b := bal s) hrg
      have HR := Lib.hid (show ∀ x ∈ balP s, 0 ≤ x ∧ x < left.length from by rw [hbp]; exact hrg)
      have hff : firstL left (balP s) = firstL left (bal s) := by rw [hbp]
      obtain ⟨hm0, hm1⟩ : 1 ≤ m ∧ m ≤ 99 := hf.out.many _ (pmem_at hp.out)
      clear hbp hbv hrg
      go_wp2_with fail
      refine (specParse_p s _ hs).mono ?_
      rintro e w2 ⟨B, d, rfl, ho, hb2⟩
      have hB2 := below_down hbel hb2
      have hc1 := cell_below hb2 hc1
      have hown2 := OwnN.below hown hb2
      have hbl := balP_len s
      have cF := Lib.hid (l1First_any B A' (balP s) left d c' w2 ho.ints (h'.below hB2) (by omega) (by omega) HR)
      have hpn := Lib.hid (pl_snoc hp.out)
      rw [hff] at cF
      clear hb2 ho hown hff hbel hc0 HR
      rcases hcase with hm | ⟨f, hm, hfl⟩
      · rw [hm] at cF
        have hq := Lib.hid (cntL_miss (ps := pl (ps.take k)) (p := ⟨bal s, m⟩) hm)
        clear hm
        go_wp2_with (go_at_call 76; refine cF.out.mono ?_; rintro e w' ⟨rfl, rfl⟩)
        go_roundw
        case rel => exact ⟨k + 1, by omega, by go_num, hown2.congr (by rw [hpn.out, hq.out]), hB2⟩
        case measure => simp [intOf]; omega
      · rw [hm] at cF
        have hq := Lib.hid (cntL_hit (ps := pl (ps.take k)) (p := ⟨bal s, m⟩) hm)
        have hc := hown2.cellX (cntL_at (ps := pl (ps.take k)) hfl)
        have hfz := hown2.frozenX f
        obtain ⟨hx0, hx1⟩ := cntC_bd hf.out left f k
        obtain ⟨X, hX⟩ : ∃ X, X = cntC left f (pl (ps.take k)) := ⟨_, rfl⟩
        rw [← hX] at hc hx0 hx1
        have HX := Lib.hid hX
        have hwr : IntKind.i64.wrap (X + m) = X + m := IntWalk.i64_in _ (by omega)
        have hf0 : (0 : Int) ≤ (f : Int) := by omega
        have hf1 : (f : Int) < (left.length : Int) := by omega
        have hk0 : (0 : Int) ≤ (k : Int) := by omega
        have hk1 : (k : Int) < (ps.length : Int) := by omega
        clear hm hX
        go_wp2_with (go_at_call 76; refine cF.out.mono ?_; rintro e w' ⟨rfl, rfl⟩)
        go_region
        clear hwr
        go_wp2
        go_roundw
        case rel => exact ⟨k + 1, by omega, by go_num, (OwnN.setX (OwnN.drew hown2) f (X + m)).congr (by rw [hpn.out, hq.out, HX.out]), (hB2.drew).setCell (Nat.le_refl _) _⟩
        case measure => simp [intOf]; omega
    · obtain rfl : k = ps.length := by omega
      clear hlt
      have hown' := hown.congr (by rw [List.take_length])
      go_wp2
      go_ret
      exact newI_mk hown' hbel
def fcF (ps : List (ByteArray × Int)) (left : List Bool) : List Int × Bool := if fitV ps left.length then (cntL left (pl ps), true) else ([], false)
theorem fc_t {ps : List (ByteArray × Int)} {left : List Bool} (h : fitV ps left.length = true) : fcF ps left = (cntL left (pl ps), true) := by simp [fcF, h]
theorem fc_f {ps : List (ByteArray × Int)} {left : List Bool} (h : fitV ps left.length = false) : fcF ps left = ([], false) := by simp [fcF, h]
set_option maxHeartbeats 800000 in
theorem implFirst_any (A A' : Option Addr) (ps : List (ByteArray × Int)) (left : List Bool) (c c' : Nat) (w : World) (h : PilesI w A ps) (h' : Bools w A' left) (hl : ps.length ≤ 1048576) (_hl' : left.length ≤ 1000000) :
    Calls Try.prog 17 #[.slice A ps.length c, .slice A' left.length c'] w (NewIB w (fcF ps left)) := by
  have cV := Lib.hid (pilesFit_any A ps c left.length w h hl)
  cases hv : fitV ps left.length
  · rw [hv] at cV
    have hq := Lib.hid (fc_f hv)
    go_enter Try.func17, Try.ntmps17
    go_wp2_with (go_at_call 39; refine cV.out.mono ?_; rintro e w1 ⟨rfl, hb1⟩)
    go_ret2
    exact newIB_mk hq.out (OwnN.nil _ _) hb1
  · rw [hv] at cV
    have hq := Lib.hid (fc_t hv)
    have hF := Lib.hid (fitOk_of hv)
    clear hv
    go_enter Try.func17, Try.ntmps17
    go_wp2_with (go_at_call 39; refine cV.out.mono ?_; rintro e w1 ⟨rfl, hb1⟩)
    refine (firstCounts_any A A' ps left c c' w1 (h.below hb1) (h'.below hb1) hF).mono ?_
    rintro e w2 ⟨B, d, rfl, ho, hb2⟩
    have ho := ho.mono hb1.size
    have hB := below_down hb1 hb2
    clear hb1 hb2
    go_wp2
    go_ret2
    exact newIB_mk hq.out ⟨rfl, ho⟩ hB
set_option maxHeartbeats 800000 in
theorem specFirst_any (A A' : Option Addr) (ps : List (ByteArray × Int)) (left : List Bool) (c c' : Nat) (w : World) (h : PilesI w A ps) (h' : Bools w A' left) (hl : ps.length ≤ 1048576) (hl' : left.length ≤ 1000000) :
    Calls Try.prog 18 #[.slice A ps.length c, .slice A' left.length c'] w (NewIB w (fcF ps left)) := by
  have cV := Lib.hid (l3Fits_any A ps c left.length w h hl (by omega) (by omega))
  cases hv : fitV ps left.length
  · rw [hv] at cV
    have hq := Lib.hid (fc_f hv)
    go_enter Try.func18, Try.ntmps18
    go_wp2_with (go_at_call 43; refine cV.out.mono ?_; rintro e w1 ⟨rfl, hb1⟩)
    go_ret2
    exact newIB_mk hq.out (OwnN.empty _ hb1.size) (hb1.alloc hb1.size _)
  · rw [hv] at cV
    have hq := Lib.hid (fc_t hv)
    have hF := Lib.hid (fitOk_of hv)
    clear hv
    go_enter Try.func18, Try.ntmps18
    go_wp2_with (go_at_call 43; refine cV.out.mono ?_; rintro e w1 ⟨rfl, hb1⟩)
    refine (l11Counts_any A A' ps left c c' w1 (h.below hb1) (h'.below hb1) hF).mono ?_
    rintro e w2 ⟨B, d, rfl, ho, hb2⟩
    have ho := ho.mono hb1.size
    have hB := below_down hb1 hb2
    clear hb1 hb2
    go_wp2
    go_ret2
    exact newIB_mk hq.out ⟨rfl, ho⟩ hB
end Go.Proofs.Ythngafmnkihkgaa
