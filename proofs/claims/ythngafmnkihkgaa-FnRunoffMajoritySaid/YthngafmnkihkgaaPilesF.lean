/-
  Piles that fit, how many ballots there are, and the first candidate who has not left.
-/
import Derived.Test.YthngafmnkihkgaaPilesV
import Derived.Test.YthngafmnkihkgaaBool
namespace Go.Proofs.Ythngafmnkihkgaa
open Go.RowKit
def totM (ps : List (ByteArray × Int)) : Int := (ps.map Prod.snd).sum
theorem totM_snoc {ps : List (ByteArray × Int)} {k : Nat} {p : ByteArray × Int} (h : ps[k]? = some p) : totM (ps.take (k + 1)) = totM (ps.take k) + p.2 := by
  unfold totM
  rw [take_snoc _ _ _ h, List.map_append, sum_append]; simp
theorem totM_bd {ps : List (ByteArray × Int)} (hl : ps.length ≤ 12) (h : ∀ p ∈ ps, 1 ≤ p.2 ∧ p.2 ≤ 99) (k : Nat) : 0 ≤ totM (ps.take k) ∧ totM (ps.take k) ≤ 1188 := by
  have h1 := sum_bd ((ps.take k).map Prod.snd) 99 (fun x hx => by
    obtain ⟨p, hp, rfl⟩ := List.mem_map.1 hx
    have := h p (List.mem_of_mem_take hp); omega)
  have h2 := sum_nonneg ((ps.take k).map Prod.snd) (fun x hx => by
    obtain ⟨p, hp, rfl⟩ := List.mem_map.1 hx
    have := h p (List.mem_of_mem_take hp); omega)
  have h3 : ((ps.take k).map Prod.snd).length ≤ 12 := by simp; omega
  unfold totM
  omega
def totF (ps : List (ByteArray × Int)) : Int := if psv ps then totM ps else -1
theorem pall_snoc {ps : List (ByteArray × Int)} {k : Nat} {p : ByteArray × Int} {P : ByteArray × Int → Prop} (hx : ps[k]? = some p) (h : ∀ y ∈ ps.take k, P y) (h1 : P p) : ∀ y ∈ ps.take (k + 1), P y := by
  rw [take_snoc ps k p hx]
  intro y hy
  rcases List.mem_append.1 hy with hy | hy
  · exact h y hy
  · simp at hy; subst hy; exact h1
theorem pmem_at {ps : List (ByteArray × Int)} {k : Nat} {p : ByteArray × Int} (h : ps[k]? = some p) : p ∈ ps := List.mem_of_getElem? h
set_option maxHeartbeats 800000 in
theorem pilesFit_any (A : Option Addr) (ps : List (ByteArray × Int)) (c : Nat) (n : Int) (w : World) (h : PilesI w A ps) (hl : ps.length ≤ 1048576) :
    Calls Try.prog 39 #[.slice A ps.length c, .int .i64 n] w (Bl w (.bool (fitV ps n))) := by
  cases hm : inB n 1 5
  · have hf := Lib.hid (fitV_no (ps := ps) (n := n) (by rw [hm]; simp))
    go_enter Try.func39, Try.ntmps39
    go_wp2_with (go_at_call 66; refine (isMany_any _ _).mono ?_; rintro e w' ⟨rfl, rfl⟩)
    go_ret
    exact ⟨ret_bool hf.out.symm, Below.refl _ _⟩
  · have cV := Lib.hid (pilesValid_any A ps c w h hl)
    cases hv : psv ps
    · rw [hv] at cV
      have hf := Lib.hid (fitV_no (ps := ps) (n := n) (by rw [hv]; simp))
      go_enter Try.func39, Try.ntmps39
      go_wp2_with (first | (go_at_call 66; refine (isMany_any _ _).mono ?_; rintro e w' ⟨rfl, rfl⟩) | (go_at_call 53; refine cV.out.mono ?_; rintro e w1 ⟨rfl, hb1⟩))
      go_ret
      exact ⟨ret_bool hf.out.symm, hb1⟩
    · rw [hv] at cV
      have HV := Lib.hid (show (psv ps && inB n 1 5) = true from by rw [hv, hm]; rfl)
      clear hv
      go_enter Try.func39, Try.ntmps39
      go_wp2_with (first | (go_at_call 66; refine (isMany_any _ _).mono ?_; rintro e w' ⟨rfl, rfl⟩) | (go_at_call 53; refine cV.out.mono ?_; rintro e w1 ⟨rfl, hb1⟩))
      go_loopw [6, 17] (fun _ i wr => ∃ k : Nat, k ≤ ps.length ∧ i = .int .i64 k ∧ Hid (∀ p ∈ ps.take k, bv (balP p.1) n = true) ∧ Below w.heap.size w wr) (fun _ i _ => ps.length - (intOf i).toNat)
      case atStart => exact ⟨0, by omega, rfl, by simp [Hid], hb1⟩
      case round =>
        clear hb1 cV
        obtain ⟨k, hk, rfl, hall, hbel⟩ := hrel
        have hsz := hbel.size
        by_cases hlt : k < ps.length
        · obtain ⟨ad, s, m, rfl, hp, hs, hc0, hc1⟩ := (h.below hbel).at_ hlt
          go_wp2_with fail
          refine (pileBallot_any s m _ hs).mono ?_
          rintro e w2 ⟨B, d, rfl, ho, hb2⟩
          have hB2 := below_down (hbel.alloc hsz _) hb2
          have hbl := balP_len s
          have cB := Lib.hid (ballotValid_any B (balP s) d n w2 ho.ints (by omega) ho.le_cap)
          clear hb2 ho
          cases hbv : bv (balP s) n
          · rw [hbv] at cB
            have hf := Lib.hid (fitV_bad (pmem_at hp.out) hbv)
            go_wp2_with (go_at_call 67; refine cB.out.mono ?_; rintro e w' ⟨rfl, rfl⟩)
            go_ret
            exact ⟨ret_bool hf.out.symm, hB2⟩
          · rw [hbv] at cB
            have hn := Lib.hid (pall_snoc hp.out hall.out hbv)
            go_wp2_with (go_at_call 67; refine cB.out.mono ?_; rintro e w' ⟨rfl, rfl⟩)
            go_roundw
            case rel => exact ⟨k + 1, by omega, by go_num, hn, hB2⟩
            case measure => simp [intOf]; omega
        · obtain rfl : k = ps.length := by omega
          clear hlt
          have hq := Lib.hid (show fitV ps n = true from by
            rw [fitV_all (by have := hall.out; rwa [List.take_length] at this)]; exact HV.out)
          go_wp2
          go_ret
          exact ⟨ret_bool hq.out.symm, hbel⟩
set_option maxHeartbeats 800000 in
theorem l3Fits_any (A : Option Addr) (ps : List (ByteArray × Int)) (c : Nat) (n : Int) (w : World) (h : PilesI w A ps) (hl : ps.length ≤ 1048576) (hn0 : -1000000 ≤ n) (hn1 : n ≤ 1000000) :
    Calls Try.prog 43 #[.slice A ps.length c, .int .i64 n] w (Bl w (.bool (fitV ps n))) := by
  go_enter Try.func43, Try.ntmps43
  go_wp2
  go_loopw [5, 6, 7] (fun i _ _ wr => ∃ k : Nat, k ≤ ps.length ∧ i = .int .i64 k ∧ Hid (∀ p ∈ ps.take k, bv (balP p.1) n = true) ∧ Below w.heap.size w wr) (fun i _ _ _ => ps.length - (intOf i).toNat)
  case atStart => exact ⟨0, by omega, rfl, by simp [Hid], Below.refl _ _⟩
  case round =>
    obtain ⟨k, hk, rfl, hall, hbel⟩ := hrel
    have hsz := hbel.size
    by_cases hlt : k < ps.length
    · obtain ⟨ad, s, m, rfl, hp, hs, hc0, hc1⟩ := (h.below hbel).at_ hlt
      go_wp2_with fail
      refine (specParse_p s _ hs).mono ?_
      rintro e w2 ⟨B, d, rfl, ho, hb2⟩
      have hB2 := below_down hbel hb2
      have hbl := balP_len s
      have cB := Lib.hid (specBallotValid_any B (balP s) d n w2 ho.ints (by omega) ho.le_cap hn0 hn1)
      clear hb2 ho
      cases hbv : bv (balP s) n
      · rw [hbv] at cB
        have hf := Lib.hid (fitV_bad (pmem_at hp.out) hbv)
        go_wp2_with (go_at_call 69; refine cB.out.mono ?_; rintro e w' ⟨rfl, m', rfl⟩)
        go_ret
        exact ⟨ret_bool hf.out.symm, below_drewN hB2 _⟩
      · rw [hbv] at cB
        have hn := Lib.hid (pall_snoc hp.out hall.out hbv)
        go_wp2_with (go_at_call 69; refine cB.out.mono ?_; rintro e w' ⟨rfl, m', rfl⟩)
        go_roundw
        case rel => exact ⟨k + 1, by omega, by go_num, hn, below_drewN hB2 _⟩
        case measure => simp [intOf]; omega
    · obtain rfl : k = ps.length := by omega
      clear hlt
      have hq := Lib.hid (show fitV ps n = (psv ps && inB n 1 5) from fitV_all (by have := hall.out; rwa [List.take_length] at this))
      have cV := Lib.hid (specPilesValid_any A ps c wr (h.below hbel) hl)
      cases hv : psv ps
      · rw [hv] at cV hq
        go_wp2_with (go_at_call 70; refine cV.out.mono ?_; rintro e w1 ⟨rfl, hb1⟩)
        go_ret
        exact ⟨ret_bool (by rw [hq.out]; rfl), below_down hbel hb1⟩
      · rw [hv] at cV hq
        go_wp2_with (first | (go_at_call 70; refine cV.out.mono ?_; rintro e w1 ⟨rfl, hb1⟩) | (go_at_call 44; refine (l6In_any _ _ _ _).mono ?_; rintro e w' ⟨rfl, rfl⟩))
        go_ret
        exact ⟨ret_bool (by rw [hq.out]; rfl), below_down hbel hb1⟩
set_option maxHeartbeats 800000 in
theorem pilesTotal_any (A : Option Addr) (ps : List (ByteArray × Int)) (c : Nat) (w : World) (h : PilesI w A ps) (hl : ps.length ≤ 1048576) :
    Calls Try.prog 23 #[.slice A ps.length c] w (Bl w (.int .i64 (totF ps))) := by
  have cV := Lib.hid (pilesValid_any A ps c w h hl)
  cases hv : psv ps
  · rw [hv] at cV
    have hf := Lib.hid (show totF ps = -1 from by simp [totF, hv])
    go_enter Try.func23, Try.ntmps23
    go_wp2_with (go_at_call 53; refine cV.out.mono ?_; rintro e w1 ⟨rfl, hb1⟩)
    go_ret
    exact ⟨ret_int hf.out.symm, hb1⟩
  · rw [hv] at cV
    have hf := Lib.hid (show totF ps = totM ps from by simp [totF, hv])
    have HT := Lib.hid (totM_bd (psv_len hv) (fun p hp => (pv_iff.1 (psv_mem hv hp)).2))
    have HM := Lib.hid (fun p (hp : p ∈ ps) => (pv_iff.1 (psv_mem hv hp)).2)
    clear hv
    go_enter Try.func23, Try.ntmps23
    go_wp2_with (go_at_call 53; refine cV.out.mono ?_; rintro e w1 ⟨rfl, hb1⟩)
    go_loopw [3, 5, 11] (fun t _ i wr => ∃ k : Nat, k ≤ ps.length ∧ i = .int .i64 k ∧ t = .int .i64 (totM (ps.take k)) ∧ Below w.heap.size w wr) (fun _ _ i _ => ps.length - (intOf i).toNat)
    case atStart => exact ⟨0, by omega, rfl, rfl, hb1⟩
    case round =>
      clear hb1 cV
      obtain ⟨k, hk, rfl, rfl, hbel⟩ := hrel
      have hsz := hbel.size
      obtain ⟨ht0, ht1⟩ := HT.out k
      by_cases hlt : k < ps.length
      · obtain ⟨ad, s, m, rfl, hp, hs, hc0, hc1⟩ := (h.below hbel).at_ hlt
        obtain ⟨hm0, hm1⟩ : 1 ≤ m ∧ m ≤ 99 := HM.out _ (pmem_at hp.out)
        have hn := Lib.hid (totM_snoc hp.out)
        go_wp2
        go_roundw
        case rel => exact ⟨k + 1, by omega, by go_num, by rw [hn.out], hbel.alloc hsz _⟩
        case measure => simp [intOf]; omega
      · obtain rfl : k = ps.length := by omega
        clear hlt
        go_wp2
        go_ret
        exact ⟨ret_int (by rw [hf.out, List.take_length]), hbel⟩
theorem firstL_in {left : List Bool} {x : Int} {t : List Int} {p : Nat} (hx : x = (p : Int)) (h : left[p]? = some false) : firstL left (x :: t) = x := by
  subst hx
  unfold firstL
  rw [if_pos]
  simp [h]
theorem firstL_out {left : List Bool} {x : Int} {t : List Int} {p : Nat} (hx : x = (p : Int)) (h : left[p]? = some true) : firstL left (x :: t) = firstL left t := by
  subst hx
  conv => lhs; unfold firstL
  rw [if_neg]
  simp [h]
def firstF (left : List Bool) (b : List Int) : Int := if bv b left.length then firstL left b else -1
theorem drop_at {xs : List Int} {k : Nat} {x : Int} (h : xs[k]? = some x) : xs.drop k = x :: xs.drop (k + 1) := by
  obtain ⟨hk, rfl⟩ := List.getElem?_eq_some_iff.1 h
  exact List.drop_eq_getElem_cons hk
set_option maxHeartbeats 800000 in
theorem ballotFirst_any (A A' : Option Addr) (xs : List Int) (left : List Bool) (c c' : Nat) (w : World) (h : Ints w A xs) (h' : Bools w A' left) (hl : xs.length ≤ 1048576) (_hl' : left.length ≤ 1048576) (hcap : xs.length ≤ c) :
    Calls Try.prog 75 #[.slice A xs.length c, .slice A' left.length c'] w (Ret w (.int .i64 (firstF left xs))) := by
  have cV := Lib.hid (ballotValid_any A xs c left.length w h hl hcap)
  cases hbv : bv xs left.length
  · rw [hbv] at cV
    have hf := Lib.hid (show firstF left xs = -1 from by simp [firstF, hbv])
    go_enter Try.func75, Try.ntmps75
    go_wp2_with (go_at_call 67; refine cV.out.mono ?_; rintro e w' ⟨rfl, rfl⟩)
    go_ret
    exact ⟨ret_int hf.out.symm, rfl⟩
  · rw [hbv] at cV
    have hf := Lib.hid (show firstF left xs = firstL left xs from by simp [firstF, hbv])
    have HR := Lib.hid (show ∀ x ∈ xs, 0 ≤ x ∧ x < left.length from fun x hx => by
      simp only [bv, Bool.and_eq_true] at hbv
      have := (bp_iff.1 hbv.2).1 x hx
      omega)
    clear hbv
    go_enter Try.func75, Try.ntmps75
    go_wp2_with (go_at_call 67; refine cV.out.mono ?_; rintro e w' ⟨rfl, rfl⟩)
    go_loop [6, 14] (fun _ i => ∃ k : Nat, k ≤ xs.length ∧ i = .int .i64 k ∧ Hid (firstL left xs = firstL left (xs.drop k))) (fun _ i => xs.length - (intOf i).toNat)
    case atStart => exact ⟨0, by omega, rfl, rfl⟩
    case round =>
      obtain ⟨k, hk, rfl, hno⟩ := hrel
      by_cases hlt : k < xs.length
      · obtain ⟨ad, x, rfl, hx, hc⟩ := h.at_ hlt
        obtain ⟨hx0, hx1⟩ := HR.out x (mem_of_at hx.out)
        obtain ⟨p, rfl⟩ := Int.eq_ofNat_of_zero_le hx0
        have hpl : p < left.length := by omega
        clear hx0 hx1
        obtain ⟨ad', b, rfl, hb, hc'⟩ := h'.at_ hpl
        cases b
        · have hq := Lib.hid (show firstL left xs = (p : Int) from by rw [hno.out, drop_at hx.out]; exact firstL_in rfl hb.out)
          go_wp2
          go_ret
          exact ⟨ret_int (by rw [hf.out, hq.out]), rfl⟩
        · have hq := Lib.hid (show firstL left xs = firstL left (xs.drop (k + 1)) from by rw [hno.out, drop_at hx.out]; exact firstL_out rfl hb.out)
          go_wp2
          go_round
          case rel => exact ⟨k + 1, by omega, by go_num, hq⟩
          case measure => simp [intOf]; omega
      · have h2 : xs.length ≤ k := by omega
        clear hlt
        go_wp2
        go_ret
        exact ⟨ret_int (by rw [hf.out, hno.out, List.drop_of_length_le (by omega)]; rfl), rfl⟩
set_option maxHeartbeats 800000 in
theorem l1First_any (A A' : Option Addr) (xs : List Int) (left : List Bool) (c c' : Nat) (w : World) (h : Ints w A xs) (h' : Bools w A' left) (hl : xs.length ≤ 1048576) (_hl' : left.length ≤ 1048576) (hr : Hid (∀ x ∈ xs, 0 ≤ x ∧ x < left.length)) :
    Calls Try.prog 76 #[.slice A xs.length c, .slice A' left.length c'] w (Ret w (.int .i64 (firstL left xs))) := by
  go_enter Try.func76, Try.ntmps76
  go_wp2
  go_loop [5] (fun i => ∃ k : Nat, k ≤ xs.length ∧ i = .int .i64 k ∧ Hid (firstL left xs = firstL left (xs.drop k))) (fun i => xs.length - (intOf i).toNat)
  case atStart => exact ⟨0, by omega, rfl, rfl⟩
  case round =>
    obtain ⟨k, hk, rfl, hno⟩ := hrel
    by_cases hlt : k < xs.length
    · obtain ⟨ad, x, rfl, hx, hc⟩ := h.at_ hlt
      obtain ⟨hx0, hx1⟩ := hr.out x (mem_of_at hx.out)
      obtain ⟨p, rfl⟩ := Int.eq_ofNat_of_zero_le hx0
      have hpl : p < left.length := by omega
      clear hx0 hx1
      obtain ⟨ad', b, rfl, hb, hc'⟩ := h'.at_ hpl
      cases b
      · have hq := Lib.hid (show firstL left xs = (p : Int) from by rw [hno.out, drop_at hx.out]; exact firstL_in rfl hb.out)
        go_wp2
        go_ret
        exact ⟨ret_int (by rw [hq.out]), rfl⟩
      · have hq := Lib.hid (show firstL left xs = firstL left (xs.drop (k + 1)) from by rw [hno.out, drop_at hx.out]; exact firstL_out rfl hb.out)
        go_wp2
        go_round
        case rel => exact ⟨k + 1, by omega, by go_num, hq⟩
        case measure => simp [intOf]; omega
    · have h2 : xs.length ≤ k := by omega
      clear hlt
      go_wp2
      go_ret
      exact ⟨ret_int (by rw [hno.out, List.drop_of_length_le (by omega)]; rfl), rfl⟩
end Go.Proofs.Ythngafmnkihkgaa
