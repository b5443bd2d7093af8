/-
  Piles that fit, how many ballots there are, and the first candidate who has not left.
-/
import Derived.Test.YtiinfbjlkbjmmaaQPilesV
import Derived.Test.YtiinfbjlkbjmmaaQLots
namespace Go.Proofs.Ytiinfbjlkbjmmaa
open Go.RowKit
def totM (ps : List (ByteArray × Int)) : Int := (ps.map Prod.snd).sum
set_option maxRecDepth 100000 in
theorem totM_snoc {ps : List (ByteArray × Int)} {k : Nat} {p : ByteArray × Int} (h : ps[k]? = some p) : totM (ps.take (k + 1)) = totM (ps.take k) + p.2 := by
  unfold totM
  rw [take_snoc _ _ _ h, List.map_append, sum_append]; simp
set_option maxRecDepth 100000 in
theorem totM_bd {ps : List (ByteArray × Int)} (hl : ps.length ≤ 12) (h : ∀ p ∈ ps, 1 ≤ p.2 ∧ p.2 ≤ 99) (k : Nat) : 0 ≤ totM (ps.take k) ∧ totM (ps.take k) ≤ 1188 := by
  have h1 := sum_bd ((ps.take k).map Prod.snd) 99 (fun x hx => by
    obtain ⟨p, hp, rfl⟩ := List.mem_map.1 hx
    have := h p (List.mem_of_mem_take hp); omega)
  have h2 := sum_nonneg ((ps.take k).map Prod.snd) (fun x hx => by
    obtain ⟨p, hp, rfl⟩ := List.mem_map.1 hx
    have := h p (List.mem_of_mem_take hp); omega)
  have h3 : ((ps.take k).map Prod.snd).length ≤ 12 := by simp; omega
  unfold totM
  omega
def totF (ps : List (ByteArray × Int)) : Int := if psv ps then totM ps else -1
set_option maxRecDepth 100000 in
theorem pall_snoc {ps : List (ByteArray × Int)} {k : Nat} {p : ByteArray × Int} {P : ByteArray × Int → Prop} (hx : ps[k]? = some p) (h : ∀ y ∈ ps.take k, P y) (h1 : P p) : ∀ y ∈ ps.take (k + 1), P y := by
  rw [take_snoc ps k p hx]
  intro y hy
  rcases List.mem_append.1 hy with hy | hy
  · exact h y hy
  · simp at hy; subst hy; exact h1
set_option maxRecDepth 100000 in
theorem pmem_at {ps : List (ByteArray × Int)} {k : Nat} {p : ByteArray × Int} (h : ps[k]? = some p) : p ∈ ps := List.mem_of_getElem? h
set_option maxRecDepth 100000 in
set_option maxHeartbeats 800000 in
theorem pilesFit_any (A : Option Addr) (ps : List (ByteArray × Int)) (c : Nat) (n : Int) (w : World) (h : PilesI w A ps) (hl : ps.length ≤ 1048576) :
    Calls Try.prog 49 #[.slice A ps.length c, .int .i64 n] w (Bl w (.bool (fitV ps n))) := by
  cases hm : inB n 1 5
  · have hf := Lib.hid (fitV_no (ps := ps) (n := n) (by rw [hm]; simp))
    go_enter Try.func49, Try.ntmps49
    go_wp2_with (go_at_call 78; refine (isMany_any _ _).mono ?_; rintro e w' ⟨rfl, rfl⟩)
    go_ret
    exact ⟨ret_bool hf.out.symm, Below.refl _ _⟩
  · have cV := Lib.hid (pilesValid_any A ps c w h hl)
    cases hv : psv ps
    · rw [hv] at cV
      have hf := Lib.hid (fitV_no (ps := ps) (n := n) (by rw [hv]; simp))
      go_enter Try.func49, Try.ntmps49
      go_wp2_with (first | (go_at_call 78; refine (isMany_any _ _).mono ?_; rintro e w' ⟨rfl, rfl⟩) | (go_at_call 56; refine cV.out.mono ?_; rintro e w1 ⟨rfl, hb1⟩))
      go_ret
      exact ⟨ret_bool hf.out.symm, hb1⟩
    · rw [hv] at cV
      have HV := Lib.hid (show (psv ps && inB n 1 5) = true from by rw [hv, hm]; rfl)
      clear hv
      go_enter Try.func49, Try.ntmps49
      go_wp2_with (first | (go_at_call 78; refine (isMany_any _ _).mono ?_; rintro e w' ⟨rfl, rfl⟩) | (go_at_call 56; refine cV.out.mono ?_; rintro e w1 ⟨rfl, hb1⟩))
      go_loopw [6, 17] (fun _ i wr => ∃ k : Nat, k ≤ ps.length ∧ i = .int .i64 k ∧ Hid (∀ p ∈ ps.take k, bv (balP p.1) n = true) ∧ Below w.heap.size w wr) (fun _ i _ => ps.length - (intOf i).toNat)
      case atStart => exact ⟨0, by omega, rfl, by simp [Hid], hb1⟩
      case round =>
        clear hb1 cV
        obtain ⟨k, hk, rfl, hall, hbel⟩ := hrel
        have hsz := hbel.size
        by_cases hlt : k < ps.length
        · obtain ⟨ad, s, m, rfl, hp, hs, hc0, hc1⟩ := (h.below hbel).at_ hlt
          go_wp2_with fail
          refine (pileBallot_any s m _ hs).mono ?_
          rintro e w2 ⟨B, d, rfl, ho, hb2⟩
          have hB2 := below_down (hbel.alloc hsz _) hb2
          have hbl := balP_len s
          have cB := Lib.hid (ballotValid_any B (balP s) d n w2 ho.ints (by omega) ho.le_cap)
          clear hb2 ho
          cases hbv : bv (balP s) n
          · rw [hbv] at cB
            have hf := Lib.hid (fitV_bad (pmem_at hp.out) hbv)
            go_wp2_with (go_at_call 77; refine cB.out.mono ?_; rintro e w' ⟨rfl, rfl⟩)
            go_ret
            exact ⟨ret_bool hf.out.symm, hB2⟩
          · rw [hbv] at cB
            have hn := Lib.hid (pall_snoc hp.out hall.out hbv)
            go_wp2_with (go_at_call 77; refine cB.out.mono ?_; rintro e w' ⟨rfl, rfl⟩)
            go_roundw
            case rel => exact ⟨k + 1, by omega, by go_num, hn, hB2⟩
            case measure => simp [intOf]; omega
        · obtain rfl : k = ps.length := by omega
          clear hlt
          have hq := Lib.hid (show fitV ps n = true from by
            rw [fitV_all (by have := hall.out; rwa [List.take_length] at this)]; exact HV.out)
          go_wp2
          go_ret
          exact ⟨ret_bool hq.out.symm, hbel⟩
set_option maxRecDepth 100000 in
set_option maxHeartbeats 800000 in
theorem l3Fits_any (A : Option Addr) (ps : List (ByteArray × Int)) (c : Nat) (n : Int) (w : World) (h : PilesI w A ps) (hl : ps.length ≤ 1048576) (hn0 : -1000000 ≤ n) (hn1 : n ≤ 1048576) :
    Calls Try.prog 85 #[.slice A ps.length c, .int .i64 n] w (Bl w (.bool (fitV ps n))) := by
  go_enter Try.func85, Try.ntmps85
  go_wp2
  go_loopw [5, 6, 7] (fun i _ _ wr => ∃ k : Nat, k ≤ ps.length ∧ i = .int .i64 k ∧ Hid (∀ p ∈ ps.take k, bv (balP p.1) n = true) ∧ Below w.heap.size w wr) (fun i _ _ _ => ps.length - (intOf i).toNat)
  case atStart => exact ⟨0, by omega, rfl, by simp [Hid], Below.refl _ _⟩
  case round =>
    obtain ⟨k, hk, rfl, hall, hbel⟩ := hrel
    have hsz := hbel.size
    by_cases hlt : k < ps.length
    · obtain ⟨ad, s, m, rfl, hp, hs, hc0, hc1⟩ := (h.below hbel).at_ hlt
      go_wp2_with fail
      refine (specParse_p s _ hs).mono ?_
      rintro e w2 ⟨B, d, rfl, ho, hb2⟩
      have hB2 := below_down hbel hb2
      have hbl := balP_len s
      have cB := Lib.hid (specBallotValid_any B (balP s) d n w2 ho.ints (by omega) ho.le_cap hn0 hn1)
      clear hb2 ho
      cases hbv : bv (balP s) n
      · rw [hbv] at cB
        have hf := Lib.hid (fitV_bad (pmem_at hp.out) hbv)
        go_wp2_with (go_at_call 104; refine cB.out.mono ?_; rintro e w' ⟨rfl, m', rfl⟩)
        go_ret
        exact ⟨ret_bool hf.out.symm, below_drewN hB2 _⟩
      · rw [hbv] at cB
        have hn := Lib.hid (pall_snoc hp.out hall.out hbv)
        go_wp2_with (go_at_call 104; refine cB.out.mono ?_; rintro e w' ⟨rfl, m', rfl⟩)
        go_roundw
        case rel => exact ⟨k + 1, by omega, by go_num, hn, below_drewN hB2 _⟩
        case measure => simp [intOf]; omega
    · obtain rfl : k = ps.length := by omega
      clear hlt
      have hq := Lib.hid (show fitV ps n = (psv ps && inB n 1 5) from fitV_all (by have := hall.out; rwa [List.take_length] at this))
      have cV := Lib.hid (specPilesValid_any A ps c wr (h.below hbel) hl)
      cases hv : psv ps
      · rw [hv] at cV hq
        go_wp2_with (go_at_call 101; refine cV.out.mono ?_; rintro e w1 ⟨rfl, hb1⟩)
        go_ret
        exact ⟨ret_bool (by rw [hq.out]; rfl), below_down hbel hb1⟩
      · rw [hv] at cV hq
        go_wp2_with (first | (go_at_call 101; refine cV.out.mono ?_; rintro e w1 ⟨rfl, hb1⟩) | (go_at_call 86; refine (l6In_any _ _ _ _).mono ?_; rintro e w' ⟨rfl, rfl⟩))
        go_ret
        exact ⟨ret_bool (by rw [hq.out]; rfl), below_down hbel hb1⟩
set_option maxRecDepth 100000 in
set_option maxHeartbeats 800000 in
theorem pilesTotal_any (A : Option Addr) (ps : List (ByteArray × Int)) (c : Nat) (w : World) (h : PilesI w A ps) (hl : ps.length ≤ 1048576) :
    Calls Try.prog 24 #[.slice A ps.length c] w (Bl w (.int .i64 (totF ps))) := by
  have cV := Lib.hid (pilesValid_any A ps c w h hl)
  cases hv : psv ps
  · rw [hv] at cV
    have hf := Lib.hid (show totF ps = -1 from by simp [totF, hv])
    go_enter Try.func24, Try.ntmps24
    go_wp2_with (go_at_call 56; refine cV.out.mono ?_; rintro e w1 ⟨rfl, hb1⟩)
    go_ret
    exact ⟨ret_int hf.out.symm, hb1⟩
  · rw [hv] at cV
    have hf := Lib.hid (show totF ps = totM ps from by simp [totF, hv])
    have HT := Lib.hid (totM_bd (psv_len hv) (fun p hp => (pv_iff.1 (psv_mem hv hp)).2))
    have HM := Lib.hid (fun p (hp : p ∈ ps) => (pv_iff.1 (psv_mem hv hp)).2)
    clear hv
    go_enter Try.func24, Try.ntmps24
    go_wp2_with (go_at_call 56; refine cV.out.mono ?_; rintro e w1 ⟨rfl, hb1⟩)
    go_loopw [3, 5, 11] (fun t _ i wr => ∃ k : Nat, k ≤ ps.length ∧ i = .int .i64 k ∧ t = .int .i64 (totM (ps.take k)) ∧ Below w.heap.size w wr) (fun _ _ i _ => ps.length - (intOf i).toNat)
    case atStart => exact ⟨0, by omega, rfl, rfl, hb1⟩
    case round =>
      clear hb1 cV
      obtain ⟨k, hk, rfl, rfl, hbel⟩ := hrel
      have hsz := hbel.size
      obtain ⟨ht0, ht1⟩ := HT.out k
      by_cases hlt : k < ps.length
      · obtain ⟨ad, s, m, rfl, hp, hs, hc0, hc1⟩ := (h.below hbel).at_ hlt
        obtain ⟨hm0, hm1⟩ : 1 ≤ m ∧ m ≤ 99 := HM.out _ (pmem_at hp.out)
        have hn := Lib.hid (totM_snoc hp.out)
        go_wp2
        go_roundw
        case rel => exact ⟨k + 1, by omega, by go_num, by rw [hn.out], hbel.alloc hsz _⟩
        case measure => simp [intOf]; omega
      · obtain rfl : k = ps.length := by omega
        clear hlt
        go_wp2
        go_ret
        exact ⟨ret_int (by rw [hf.out, List.take_length]), hbel⟩
set_option maxRecDepth 100000 in
theorem firstL_in {left : List Bool} {x : Int} {t : List Int} {p : Nat} (hx : x = (p : Int)) (h : left[p]? = some false) : firstL left (x :: t) = x := by
  subst hx
  unfold firstL
  rw [if_pos]
  simp [h]
set_option maxRecDepth 100000 in
theorem firstL_out {left : List Bool} {x : Int} {t : List Int} {p : Nat} (hx : x = (p : Int)) (h : left[p]? = some true) : firstL left (x :: t) = firstL left t := by
  subst hx
  conv => lhs; unfold firstL
  rw [if_neg]
  simp [h]
def firstF (left : List Bool) (b : List Int) : Int := if bv b left.length then firstL left b else -1
set_option maxRecDepth 100000 in
theorem drop_at {xs : List Int} {k : Nat} {x : Int} (h : xs[k]? = some x) : xs.drop k = x :: xs.drop (k + 1) := by
  obtain ⟨hk, rfl⟩ := List.getElem?_eq_some_iff.1 h
  exact List.drop_eq_getElem_cons hk
set_option maxRecDepth 100000 in
set_option maxHeartbeats 800000 in
theorem ballotFirst_any (A A' : Option Addr) (xs : List Int) (left : List Bool) (c c' : Nat) (w : World) (h : Ints w A xs) (h' : Bools w A' left) (hl : xs.length ≤ 1048576) (_hl' : left.length ≤ 1048576) (hcap : xs.length ≤ c) :
    Calls Try.prog 92 #[.slice A xs.length c, .slice A' left.length c'] w (Ret w (.int .i64 (firstF left xs))) := by
  have cV := Lib.hid (ballotValid_any A xs c left.length w h hl hcap)
  cases hbv : bv xs left.length
  · rw [hbv] at cV
    have hf := Lib.hid (show firstF left xs = -1 from by simp [firstF, hbv])
    go_enter Try.func92, Try.ntmps92
    go_wp2_with (go_at_call 77; refine cV.out.mono ?_; rintro e w' ⟨rfl, rfl⟩)
    go_ret
    exact ⟨ret_int hf.out.symm, rfl⟩
  · rw [hbv] at cV
    have hf := Lib.hid (show firstF left xs = firstL left xs from by simp [firstF, hbv])
    have HR := Lib.hid (show ∀ x ∈ xs, 0 ≤ x ∧ x < left.length from fun x hx => by
      simp only [bv, Bool.and_eq_true] at hbv
      have := (bp_iff.1 hbv.2).1 x hx
      omega)
    clear hbv
    go_enter Try.func92, Try.ntmps92
    go_wp2_with (go_at_call 77; refine cV.out.mono ?_; rintro e w' ⟨rfl, rfl⟩)
    go_loop [6, 14] (fun _ i => ∃ k : Nat, k ≤ xs.length ∧ i = .int .i64 k ∧ Hid (firstL left xs = firstL left (xs.drop k))) (fun _ i => xs.length - (intOf i).toNat)
    case atStart => exact ⟨0, by omega, rfl, rfl⟩
    case round =>
      obtain ⟨k, hk, rfl, hno⟩ := hrel
      by_cases hlt : k < xs.length
      · obtain ⟨ad, x, rfl, hx, hc⟩ := h.at_ hlt
        obtain ⟨hx0, hx1⟩ := HR.out x (mem_of_at hx.out)
        obtain ⟨p, rfl⟩ := Int.eq_ofNat_of_zero_le hx0
        have hpl : p < left.length := by omega
        clear hx0 hx1
        obtain ⟨ad', b, rfl, hb, hc'⟩ := h'.at_ hpl
        cases b
        · have hq := Lib.hid (show firstL left xs = (p : Int) from by rw [hno.out, drop_at hx.out]; exact firstL_in rfl hb.out)
          go_wp2
          go_ret
          exact ⟨ret_int (by rw [hf.out, hq.out]), rfl⟩
        · have hq := Lib.hid (show firstL left xs = firstL left (xs.drop (k + 1)) from by rw [hno.out, drop_at hx.out]; exact firstL_out rfl hb.out)
          go_wp2
          go_round
          case rel => exact ⟨k + 1, by omega, by go_num, hq⟩
          case measure => simp [intOf]; omega
      · have h2 : xs.length ≤ k := by omega
        clear hlt
        go_wp2
        go_ret
        exact ⟨ret_int (by rw [hf.out, hno.out, List.drop_of_length_le (by omega)]; rfl), rfl⟩
set_option maxRecDepth 100000 in
set_option maxHeartbeats 800000 in
theorem l1First_any (A A' : Option Addr) (xs : List Int) (left : List Bool) (c c' : Nat) (w : World) (h : Ints w A xs) (h' : Bools w A' left) (hl : xs.length ≤ 1048576) (_hl' : left.length ≤ 1048576) (hr : Hid (∀ x ∈ xs, 0 ≤ x ∧ x < left.length)) :
    Calls Try.prog 114 #[.slice A xs.length c, .slice A' left.length c'] w (Ret w (.int .i64 (firstL left xs))) := by
  go_enter Try.func114, Try.ntmps114
  go_wp2
  go_loop [5] (fun i => ∃ k : Nat, k ≤ xs.length ∧ i = .int .i64 k ∧ Hid (firstL left xs = firstL left (xs.drop k))) (fun i => xs.length - (intOf i).toNat)
  case atStart => exact ⟨0, by omega, rfl, rfl⟩
  case round =>
    obtain ⟨k, hk, rfl, hno⟩ := hrel
    by_cases hlt : k < xs.length
    · obtain ⟨ad, x, rfl, hx, hc⟩ := h.at_ hlt
      obtain ⟨hx0, hx1⟩ := hr.out x (mem_of_at hx.out)
      obtain ⟨p, rfl⟩ := Int.eq_ofNat_of_zero_le hx0
      have hpl : p < left.length := by omega
      clear hx0 hx1
      obtain ⟨ad', b, rfl, hb, hc'⟩ := h'.at_ hpl
      cases b
      · have hq := Lib.hid (show firstL left xs = (p : Int) from by rw [hno.out, drop_at hx.out]; exact firstL_in rfl hb.out)
        go_wp2
        go_ret
        exact ⟨ret_int (by rw [hq.out]), rfl⟩
      · have hq := Lib.hid (show firstL left xs = firstL left (xs.drop (k + 1)) from by rw [hno.out, drop_at hx.out]; exact firstL_out rfl hb.out)
        go_wp2
        go_round
        case rel => exact ⟨k + 1, by omega, by go_num, hq⟩
        case measure => simp [intOf]; omega
    · have h2 : xs.length ≤ k := by omega
      clear hlt
      go_wp2
      go_ret
      exact ⟨ret_int (by rw [hno.out, List.drop_of_length_le (by omega)]; rfl), rfl⟩
set_option maxRecDepth 100000 in
set_option maxHeartbeats 800000 in
theorem l3Total_any (A : Option Addr) (ps : List (ByteArray × Int)) (c : Nat) (w : World) (h : PilesI w A ps) (hl : ps.length ≤ 12) (hm : Hid (∀ p ∈ ps, 1 ≤ p.2 ∧ p.2 ≤ 99)) :
    Calls Try.prog 75 #[.slice A ps.length c] w (Ret w (.int .i64 (totM ps))) := by
  have HT := Lib.hid (totM_bd hl hm.out)
  go_enter Try.func75, Try.ntmps75
  go_wp2
  go_loop [3, 4] (fun t i => ∃ k : Nat, k ≤ ps.length ∧ i = .int .i64 k ∧ t = .int .i64 (totM (ps.take k))) (fun _ i => ps.length - (intOf i).toNat)
  case atStart => exact ⟨0, by omega, rfl, rfl⟩
  case round =>
    obtain ⟨k, hk, rfl, rfl⟩ := hrel
    obtain ⟨ht0, ht1⟩ := HT.out k
    by_cases hlt : k < ps.length
    · obtain ⟨ad, s, m, rfl, hp, hs, hc0, hc1⟩ := h.at_ hlt
      obtain ⟨hm0, hm1⟩ : 1 ≤ m ∧ m ≤ 99 := hm.out _ (pmem_at hp.out)
      have hn := Lib.hid (totM_snoc hp.out)
      go_wp2
      go_round
      case rel => exact ⟨k + 1, by omega, by go_num, by rw [hn.out]⟩
      case measure => simp [intOf]; omega
    · obtain rfl : k = ps.length := by omega
      clear hlt
      go_wp2
      go_ret
      exact ⟨ret_int (by first | rfl | (rw [List.take_length]; done) | simp), rfl⟩
end Go.Proofs.Ytiinfbjlkbjmmaa
/-
  First counts of piles, of the program and of the reference.
-/
namespace Go.Proofs.Ytiinfbjlkbjmmaa
open Go.RowKit
set_option maxRecDepth 100000 in
theorem OwnN.below {w w' : World} {base : Nat} {A : Option Addr} {n c : Nat} {xs : List Int} (h : OwnN w base A n c xs) (hb : Below w.heap.size w w') : OwnN w' base A n c xs := ⟨h.1, h.2.below hb⟩
set_option maxRecDepth 100000 in
theorem OwnN.cellX {w : World} {base g : Nat} {n c : Nat} {xs : List Int} (h : OwnN w base (some ⟨g, 0, none⟩) n c xs) {k : Nat} {x : Int} (hx : xs[k]? = some x) : w.cell? ⟨g, k, none⟩ = some (.int .i64 x) := h.2.cell hx
set_option maxRecDepth 100000 in
theorem OwnN.frozenX {w : World} {base g : Nat} {n c : Nat} {xs : List Int} (h : OwnN w base (some ⟨g, 0, none⟩) n c xs) (k : Nat) : w.frozen? ⟨g, k, none⟩ = false := by
  obtain ⟨rfl, h⟩ := h
  exact h.frozen k
set_option maxRecDepth 100000 in
theorem OwnN.setX {w : World} {base g : Nat} {n c : Nat} {xs : List Int} (h : OwnN w base (some ⟨g, 0, none⟩) n c xs) (k : Nat) (x : Int) : OwnN (w.setCell ⟨g, k, none⟩ (.int .i64 x)) base (some ⟨g, 0, none⟩) n c (xs.set k x) := by
  obtain ⟨rfl, h⟩ := h
  exact ⟨by simp, h.set k x⟩
set_option maxRecDepth 100000 in
theorem pl_snoc {ps : List (ByteArray × Int)} {k : Nat} {s : ByteArray} {m : Int} (h : ps[k]? = some (s, m)) : pl (ps.take (k + 1)) = pl (ps.take k) ++ [⟨bal s, m⟩] := by
  unfold pl
  rw [take_snoc _ _ _ h, List.map_append]; rfl
set_option maxRecDepth 100000 in
theorem cntC_snoc (left : List Bool) (c : Int) (ps : List Pl) (p : Pl) : cntC left c (ps ++ [p]) = cntC left c ps + if firstL left p.bal = c then p.many else 0 := by
  unfold cntC
  rw [List.map_append, List.map_singleton, sum_app1]
set_option maxRecDepth 100000 in
theorem cntL_hit {left : List Bool} {ps : List Pl} {p : Pl} {f : Nat} (h : firstL left p.bal = (f : Int)) : cntL left (ps ++ [p]) = (cntL left ps).set f (cntC left f ps + p.many) := by
  apply List.ext_getElem
  · simp [cntL]
  · intro i h1 h2
    rw [List.getElem_set]
    simp only [cntL, List.getElem_map, List.getElem_range]
    rw [cntC_snoc, h]
    by_cases hi : f = i
    · subst hi; simp
    · rw [if_neg (by omega), if_neg hi]; omega
set_option maxRecDepth 100000 in
theorem cntL_miss {left : List Bool} {ps : List Pl} {p : Pl} (h : firstL left p.bal = -1) : cntL left (ps ++ [p]) = cntL left ps := by
  apply List.ext_getElem
  · simp [cntL]
  · intro i h1 h2
    simp only [cntL, List.getElem_map, List.getElem_range]
    rw [cntC_snoc, h, if_neg (by omega)]; omega
set_option maxRecDepth 100000 in
theorem cntL_nil (left : List Bool) : cntL left [] = List.replicate left.length 0 := by
  apply List.ext_getElem
  · simp [cntL]
  · intro i h1 h2
    simp [cntL, cntC]
set_option maxRecDepth 100000 in
theorem cntC_tot (left : List Bool) (c : Int) (ps : List (ByteArray × Int)) (h : ∀ p ∈ ps, 1 ≤ p.2 ∧ p.2 ≤ 99) : 0 ≤ cntC left c (pl ps) ∧ cntC left c (pl ps) ≤ totM ps := by
  induction ps with
  | nil => simp [cntC, pl, totM]
  | cons p t ih =>
    have h1 := h p (by simp)
    have h2 := ih (fun q hq => h q (by simp [hq]))
    simp only [cntC, pl, totM, List.map_cons, List.sum_cons] at h2 ⊢
    split <;> omega
set_option maxRecDepth 100000 in
theorem cntC_bd {ps : List (ByteArray × Int)} {n : Nat} (h : FitOk ps n) (left : List Bool) (c : Int) (k : Nat) : 0 ≤ cntC left c (pl (ps.take k)) ∧ cntC left c (pl (ps.take k)) ≤ 1188 := by
  have h1 := cntC_tot left c (ps.take k) (fun p hp => h.many p (List.mem_of_mem_take hp))
  have h2 := totM_bd h.len h.many k
  omega
set_option maxRecDepth 100000 in
theorem FitOk.bvs {ps : List (ByteArray × Int)} {n : Nat} (h : FitOk ps n) {p : ByteArray × Int} (hp : p ∈ ps) : balP p.1 = bal p.1 ∧ bv (bal p.1) n = true := by
  refine ⟨balP_t (h.bts p hp), ?_⟩
  have hi : inB (n : Int) 1 5 = true := inB_t ⟨by have := h.n1; omega, by have := h.n5; omega⟩
  have hb : bp (n : Int) (bal p.1) = true := bp_iff.2 ⟨fun x hx => by have := h.rng p hp x hx; omega, h.nod p hp⟩
  simp [bv, hi, hb]
set_option maxRecDepth 100000 in
theorem firstL_cases {left : List Bool} {b : List Int} (hb : ∀ c ∈ b, 0 ≤ c ∧ c < left.length) : firstL left b = -1 ∨ ∃ f : Nat, firstL left b = (f : Int) ∧ f < left.length := by
  rcases firstL_mem (left := left) (b := b) with h | ⟨h, _⟩
  · exact .inl h
  · have := hb _ h
    exact .inr ⟨(firstL left b).toNat, by omega, by omega⟩
set_option maxRecDepth 100000 in
set_option maxHeartbeats 1600000 in
theorem firstCounts_any (A A' : Option Addr) (ps : List (ByteArray × Int)) (left : List Bool) (c c' : Nat) (w : World) (h : PilesI w A ps) (h' : Bools w A' left) (hf : Hid (FitOk ps left.length)) :
    Calls Try.prog 55 #[.slice A ps.length c, .slice A' left.length c'] w (NewI w (cntL left (pl ps))) := by
  have hl := hf.out.len
  have hl5 := hf.out.n5
  go_enter Try.func55, Try.ntmps55
  go_wp2_with (at_make; refine wpList_makeI _ rfl _ _ rfl left.length rfl rfl (by omega) ?_; intro w1 hown hbel hsz)
  go_loopw [7, 8, 14] (fun _ _ i wr => ∃ k : Nat, k ≤ ps.length ∧ i = .int .i64 k ∧ OwnN wr w.heap.size (some ⟨w.heap.size, 0, none⟩) left.length left.length (cntL left (pl (ps.take k))) ∧ Below w.heap.size w wr) (fun _ _ i _ => ps.length - (intOf i).toNat)
  case atStart => exact ⟨0, by omega, rfl, ⟨cntL_len _ _, hown.congr (cntL_nil left).symm⟩, hbel⟩
  case round =>
    clear hown hbel hsz
    obtain ⟨k, hk, rfl, hown, hbel⟩ := hrel
    have hsz := hbel.size
    by_cases hlt : k < ps.length
    · obtain ⟨ad, s, m, rfl, hp, hs, hc0, hc1⟩ := (h.below hbel).at_ hlt
      obtain ⟨hbp, hbv⟩ := hf.out.bvs (pmem_at hp.out)
      have HB := Lib.hid hbp
      have hcase := firstL_cases (left := left) (b := bal s) (hf.out.rng _ (pmem_at hp.out))
      have hff : firstF left (balP s) = firstL left (bal s) := by rw [hbp]; unfold firstF; rw [if_pos hbv]
      obtain ⟨hm0, hm1⟩ : 1 ≤ m ∧ m ≤ 99 := hf.out.many _ (pmem_at hp.out)
      clear hbp hbv
      go_wp2_with fail
      refine (pileBallot_any s m _ hs).mono ?_
      rintro e w2 ⟨B, d, rfl, ho, hb2⟩
      have hB2 := below_down (hbel.alloc hsz _) hb2
      have z1 : w2.cell? ⟨wr.heap.size, 1, none⟩ = some (.int .i64 m) := cell_below hb2 (cell_of_row _ wr.heap.size 1 #[.string s, .int .i64 m] 70 (0, 0) (heap_alloc_new wr _))
      have hown2 := OwnN.below (OwnN.alloc hown (.cells #[.string s, .int .i64 m] 70)) hb2
      have hbl := balP_len s
      have cF := Lib.hid (ballotFirst_any B A' (balP s) left d c' w2 ho.ints (h'.below hB2) (by omega) (by omega) ho.le_cap)
      have hpn := Lib.hid (pl_snoc hp.out)
      rw [hff] at cF
      clear hb2 ho hown hff hbel
      rcases hcase with hm | ⟨f, hm, hfl⟩
      · rw [hm] at cF
        have hq := Lib.hid (cntL_miss (ps := pl (ps.take k)) (p := ⟨bal s, m⟩) hm)
        clear hm
        go_wp2_with (go_at_call 92; refine cF.out.mono ?_; rintro e w' ⟨rfl, rfl⟩)
        go_roundw
        case rel => exact ⟨k + 1, by omega, by go_num, hown2.congr (by rw [hpn.out, hq.out]), hB2⟩
        case measure => simp [intOf]; omega
      · rw [hm] at cF
        have hq := Lib.hid (cntL_hit (ps := pl (ps.take k)) (p := ⟨bal s, m⟩) hm)
        have hc := hown2.cellX (cntL_at (ps := pl (ps.take k)) hfl)
        have hfz := hown2.frozenX f
        obtain ⟨hx0, hx1⟩ := cntC_bd hf.out left f k
        obtain ⟨X, hX⟩ : ∃ X, X = cntC left f (pl (ps.take k)) := ⟨_, rfl⟩
        rw [← hX] at hc hx0 hx1
        have HX := Lib.hid hX
        have hwr : IntKind.i64.wrap (X + m) = X + m := IntWalk.i64_in _ (by omega)
        have hf0 : (0 : Int) ≤ (f : Int) := by omega
        have hf1 : (f : Int) < (left.length : Int) := by omega
        clear hm hX
        go_wp2_with (go_at_call 92; refine cF.out.mono ?_; rintro e w' ⟨rfl, rfl⟩)
        go_region
        clear hwr
        go_wp2
        go_roundw
        case rel => exact ⟨k + 1, by omega, by go_num, (OwnN.setX (OwnN.drew hown2) f (X + m)).congr (by rw [hpn.out, hq.out, HX.out]), (hB2.drew).setCell (Nat.le_refl _) _⟩
        case measure => simp [intOf]; omega
    · obtain rfl : k = ps.length := by omega
      clear hlt
      have hown' := hown.congr (by rw [List.take_length])
      go_wp2
      go_ret
      exact newI_mk hown' hbel
def fcF (ps : List (ByteArray × Int)) (left : List Bool) : List Int × Bool := if fitV ps left.length then (cntL left (pl ps), true) else ([], false)
set_option maxRecDepth 100000 in
theorem fc_t {ps : List (ByteArray × Int)} {left : List Bool} (h : fitV ps left.length = true) : fcF ps left = (cntL left (pl ps), true) := by simp [fcF, h]
set_option maxRecDepth 100000 in
theorem fc_f {ps : List (ByteArray × Int)} {left : List Bool} (h : fitV ps left.length = false) : fcF ps left = ([], false) := by simp [fcF, h]
set_option maxRecDepth 100000 in
set_option maxHeartbeats 800000 in
theorem implFirst_any (A A' : Option Addr) (ps : List (ByteArray × Int)) (left : List Bool) (c c' : Nat) (w : World) (h : PilesI w A ps) (h' : Bools w A' left) (hl : ps.length ≤ 1048576) (_hl' : left.length ≤ 1000000) :
    Calls Try.prog 22 #[.slice A ps.length c, .slice A' left.length c'] w (NewIB w (fcF ps left)) := by
  have cV := Lib.hid (pilesFit_any A ps c left.length w h hl)
  cases hv : fitV ps left.length
  · rw [hv] at cV
    have hq := Lib.hid (fc_f hv)
    go_enter Try.func22, Try.ntmps22
    go_wp2_with (go_at_call 49; refine cV.out.mono ?_; rintro e w1 ⟨rfl, hb1⟩)
    go_ret2
    exact newIB_mk hq.out (OwnN.nil _ _) hb1
  · rw [hv] at cV
    have hq := Lib.hid (fc_t hv)
    have hF := Lib.hid (fitOk_of hv)
    clear hv
    go_enter Try.func22, Try.ntmps22
    go_wp2_with (go_at_call 49; refine cV.out.mono ?_; rintro e w1 ⟨rfl, hb1⟩)
    refine (firstCounts_any A A' ps left c c' w1 (h.below hb1) (h'.below hb1) hF).mono ?_
    rintro e w2 ⟨B, d, rfl, ho, hb2⟩
    have ho := ho.mono hb1.size
    have hB := below_down hb1 hb2
    clear hb1 hb2
    go_wp2
    go_ret2
    exact newIB_mk hq.out ⟨rfl, ho⟩ hB
end Go.Proofs.Ytiinfbjlkbjmmaa
/-
  First counts, plain: what the laws on them ask.
-/
namespace Go.Proofs.Ytiinfbjlkbjmmaa
open Go.RowKit
set_option maxRecDepth 100000 in
theorem fc_true {ps : List (ByteArray × Int)} {left : List Bool} {ys : List Int} (h : fcF ps left = (ys, true)) : fitV ps left.length = true ∧ ys = cntL left (pl ps) := by
  unfold fcF at h
  split at h
  · next hf => injection h with h1 _; exact ⟨hf, h1.symm⟩
  · injection h with _ h2; cases h2
set_option maxRecDepth 100000 in
theorem fc_len {ps : List (ByteArray × Int)} {left : List Bool} (hn : left.length ≤ 10) : (fcF ps left).1.length ≤ 10 := by
  unfold fcF
  split
  · simp only [cntL_len]; exact hn
  · simp
set_option maxRecDepth 100000 in
theorem totF_fit {ps : List (ByteArray × Int)} {n : Int} (h : fitV ps n = true) : totF ps = totM ps := by
  obtain ⟨h1, _⟩ := fitV_iff.1 h
  simp [totF, h1]
set_option maxRecDepth 100000 in
theorem pl_many (ps : List (ByteArray × Int)) : ((pl ps).map Pl.many).sum = totM ps := by
  unfold pl totM
  rw [List.map_map]; rfl
set_option maxRecDepth 100000 in
theorem pl_nn {ps : List (ByteArray × Int)} (h : ∀ p ∈ ps, 1 ≤ p.2 ∧ p.2 ≤ 99) : ∀ p ∈ pl ps, 0 ≤ p.many := by
  intro p hp
  unfold pl at hp
  obtain ⟨q, hq, rfl⟩ := List.mem_map.1 hp
  have := h q hq
  show 0 ≤ q.2
  omega
set_option maxRecDepth 100000 in
theorem pl_rng {ps : List (ByteArray × Int)} {n : Nat} (h : FitOk ps n) : ∀ p ∈ pl ps, ∀ c ∈ p.bal, 0 ≤ c ∧ c < n := by
  intro p hp
  unfold pl at hp
  obtain ⟨q, hq, rfl⟩ := List.mem_map.1 hp
  exact h.rng q hq
set_option maxRecDepth 100000 in
theorem pl_nod {ps : List (ByteArray × Int)} {n : Nat} (h : FitOk ps n) : ∀ p ∈ pl ps, p.bal.Nodup := by
  intro p hp
  unfold pl at hp
  obtain ⟨q, hq, rfl⟩ := List.mem_map.1 hp
  exact h.nod q hq
set_option maxRecDepth 100000 in
theorem totM_all {ps : List (ByteArray × Int)} {n : Nat} (h : FitOk ps n) : 0 ≤ totM ps ∧ totM ps ≤ 1188 := by
  have := totM_bd h.len h.many ps.length
  rwa [List.take_length] at this
set_option maxRecDepth 100000 in
theorem cntL_sum_le (left : List Bool) {ps : List (ByteArray × Int)} {n : Nat} (h : FitOk ps n) : (cntL left (pl ps)).sum ≤ totM ps := by
  rw [← pl_many]
  exact cntL_total (pl_nn h.many)
set_option maxRecDepth 100000 in
theorem cntL_mem {left : List Bool} {ps : List (ByteArray × Int)} {n : Nat} (h : FitOk ps n) {x : Int} (hx : x ∈ cntL left (pl ps)) : 0 ≤ x ∧ x ≤ 1188 := by
  unfold cntL at hx
  obtain ⟨c, _, rfl⟩ := List.mem_map.1 hx
  have h1 := cntC_tot left c ps h.many
  have h2 := totM_all h
  omega
end Go.Proofs.Ytiinfbjlkbjmmaa
/-
  Runoffs, plain: when a round is the last one, who leaves, all rounds.
-/
namespace Go.Proofs.Ytiinfbjlkbjmmaa
open Go.RowKit
/-- How many are still there. -/
def thereL (left : List Bool) : Int := (left.map fun b => if b then (0 : Int) else 1).sum
set_option maxRecDepth 100000 in
theorem thereL_snoc {left : List Bool} {k : Nat} {b : Bool} (h : left[k]? = some b) : thereL (left.take (k + 1)) = thereL (left.take k) + if b then 0 else 1 := by
  unfold thereL
  rw [take_snoc _ _ _ h, List.map_append, sum_append]; simp
set_option maxRecDepth 100000 in
theorem thereL_bd (left : List Bool) : 0 ≤ thereL left ∧ thereL left ≤ left.length := by
  unfold thereL
  induction left with
  | nil => simp
  | cons b t ih =>
    simp only [List.map_cons, List.sum_cons, List.length_cons]
    cases b <;> simp <;> omega
set_option maxRecDepth 100000 in
theorem thereL_set {left : List Bool} {k : Nat} (h : left[k]? = some false) : thereL (left.set k true) = thereL left - 1 := by
  induction left generalizing k with
  | nil => simp at h
  | cons b t ih =>
    cases k with
    | zero =>
      simp at h
      subst h
      simp [thereL]
      omega
    | succ k =>
      simp at h
      have := ih h
      unfold thereL at this ⊢
      simp only [List.set_cons_succ, List.map_cons, List.sum_cons]
      omega
set_option maxRecDepth 100000 in
theorem thereL_pos {left : List Bool} (h : 1 ≤ thereL left) : ∃ k : Nat, left[k]? = some false := by
  induction left with
  | nil => simp [thereL] at h
  | cons b t ih =>
    cases b with
    | false => exact ⟨0, rfl⟩
    | true =>
      obtain ⟨k, hk⟩ := ih (by unfold thereL at h ⊢; simp at h; omega)
      exact ⟨k + 1, by simpa using hk⟩
/-- The greatest count, or 0. -/
def mostL (cs : List Int) : Int := cs.foldl max 0
set_option maxRecDepth 100000 in
theorem mostL_snoc {cs : List Int} {k : Nat} {x : Int} (h : cs[k]? = some x) : mostL (cs.take (k + 1)) = max (mostL (cs.take k)) x := by
  unfold mostL
  rw [take_snoc _ _ _ h, List.foldl_append]; rfl
set_option maxRecDepth 100000 in
theorem mostL_bd {cs : List Int} {M : Int} (hM : 0 ≤ M) (h : ∀ x ∈ cs, x ≤ M) : 0 ≤ mostL cs ∧ mostL cs ≤ M := by
  unfold mostL
  refine ⟨(le_foldl_max cs 0).1, ?_⟩
  rcases foldl_max_mem cs 0 with e | e
  · omega
  · exact h _ e
set_option maxRecDepth 100000 in
theorem maxL_most {cs : List Int} (h0 : 0 < cs.length) (h : ∀ x ∈ cs, 0 ≤ x) : maxL cs = mostL cs := by
  cases cs with
  | nil => simp at h0
  | cons a t =>
    unfold maxL mostL
    simp only [List.foldl_cons]
    rw [show max 0 a = a by have := h a (by simp); omega]
/-- A round is the last one. -/
def doneF (cs : List Int) (left : List Bool) : Bool := (thereL left == 1) || decide (cs.sum < 2 * mostL cs)
/-- Who leaves: of those with the least count, the one whose lot comes last. -/
def atB (left : List Bool) (c : Int) : Bool := left.getD c.toNat true
def stepL (cs : List Int) (left : List Bool) (o c : Int) : Int := if atB left c = false ∧ (o < 0 ∨ atI cs c ≤ atI cs o) then c else o
def leastF (cs : List Int) (left : List Bool) (lots : List Int) : Int := lots.foldl (stepL cs left) (-1)
set_option maxRecDepth 100000 in
theorem leastF_snoc {cs : List Int} {left : List Bool} {ls : List Int} {k : Nat} {c : Int} (h : ls[k]? = some c) : leastF cs left (ls.take (k + 1)) = stepL cs left (leastF cs left (ls.take k)) c := by
  unfold leastF
  rw [take_snoc _ _ _ h, List.foldl_append]; rfl
set_option maxRecDepth 100000 in
theorem leastF_in (cs : List Int) (left : List Bool) (ls : List Int) : leastF cs left ls = -1 ∨ (leastF cs left ls ∈ ls ∧ atB left (leastF cs left ls) = false) := by
  have key : ∀ (ls : List Int) (o : Int) (S : List Int), (o = -1 ∨ (o ∈ S ∧ atB left o = false)) → (ls.foldl (stepL cs left) o = -1 ∨ (ls.foldl (stepL cs left) o ∈ S ++ ls ∧ atB left (ls.foldl (stepL cs left) o) = false)) := by
    intro ls
    induction ls with
    | nil => intro o S h; simpa using h
    | cons c t ih =>
      intro o S h
      have := ih (stepL cs left o c) (S ++ [c]) (by
        unfold stepL
        split
        · next hc => exact .inr ⟨by simp, hc.1⟩
        · rcases h with h | ⟨h1, h2⟩
          · exact .inl h
          · exact .inr ⟨by simp [h1], h2⟩)
      simpa using this
  have := key ls (-1) [] (.inl rfl)
  rw [List.nil_append] at this
  exact this
set_option maxRecDepth 100000 in
theorem leastF_some {cs : List Int} {left : List Bool} {ls : List Int} (hr : ∀ l ∈ ls, 0 ≤ l) {c : Int} (hc : c ∈ ls) (ha : atB left c = false) : leastF cs left ls ≠ -1 := by
  have key : ∀ (ls : List Int) (o : Int), (∀ l ∈ ls, 0 ≤ l) → (0 ≤ o ∨ ∃ c ∈ ls, atB left c = false) → 0 ≤ ls.foldl (stepL cs left) o := by
    intro ls
    induction ls with
    | nil =>
      intro o _ h
      rcases h with h | ⟨c, hc, _⟩
      · exact h
      · simp at hc
    | cons a t ih =>
      intro o hr h
      refine ih _ (fun l hl => hr l (by simp [hl])) ?_
      have ha := hr a (by simp)
      unfold stepL
      split
      · exact .inl ha
      · next hn =>
        rcases h with h | ⟨c, hc, hac⟩
        · exact .inl h
        · rcases List.mem_cons.1 hc with rfl | hc
          · by_cases ho : 0 ≤ o
            · exact .inl ho
            · exact absurd ⟨hac, .inl (by omega)⟩ hn
          · exact .inr ⟨c, hc, hac⟩
  have := key ls (-1) hr (.inr ⟨c, hc, ha⟩)
  unfold leastF
  omega
/-- The reference's second way: of those with this least count, the last one. -/
def stepE (cs : List Int) (left : List Bool) (b c : Int) : Int := if atB left c = false ∧ atI cs c = atI cs b then c else b
set_option maxRecDepth 100000 in
theorem least_two {cs : List Int} {left : List Bool} {ls : List Int} {b0 : Int} (hr : ∀ l ∈ ls, 0 ≤ l) (hb : b0 ∈ ls) (ha : atB left b0 = false) (hm : ∀ c ∈ ls, atB left c = false → atI cs b0 ≤ atI cs c) : ls.foldl (stepE cs left) b0 = leastF cs left ls := by
  have key : ∀ (ls : List Int) (o b : Int), (∀ l ∈ ls, 0 ≤ l) → (∀ c ∈ ls, atB left c = false → atI cs b0 ≤ atI cs c) → atI cs b = atI cs b0 →
      ((o = b ∧ 0 ≤ o) ∨ ((o < 0 ∨ atI cs b0 < atI cs o) ∧ ∃ c ∈ ls, atB left c = false ∧ atI cs c = atI cs b0)) → ls.foldl (stepE cs left) b = ls.foldl (stepL cs left) o := by
    intro ls
    induction ls with
    | nil =>
      intro o b _ _ _ h
      rcases h with ⟨h, _⟩ | ⟨_, c, hc, _⟩
      · rw [h]; rfl
      · simp at hc
    | cons a t ih =>
      intro o b hr hm hbm h
      have hra := hr a (by simp)
      simp only [List.foldl_cons]
      have hr' : ∀ l ∈ t, 0 ≤ l := fun l hl => hr l (by simp [hl])
      have hm' : ∀ c ∈ t, atB left c = false → atI cs b0 ≤ atI cs c := fun c hc => hm c (by simp [hc])
      by_cases haa : atB left a = false
      · have hma := hm a (by simp) haa
        by_cases he : atI cs a = atI cs b0
        · have e1 : stepE cs left b a = a := if_pos ⟨haa, by rw [he, hbm]⟩
          have e2 : stepL cs left o a = a := by
            refine if_pos ⟨haa, ?_⟩
            rcases h with ⟨h, _⟩ | ⟨h, _⟩
            · right; rw [h, hbm]; omega
            · rcases h with h | h
              · exact .inl h
              · right; omega
          rw [e1, e2]
          exact ih a a hr' hm' he (.inl ⟨rfl, hra⟩)
        · have e1 : stepE cs left b a = b := if_neg (fun hh => he (by rw [hh.2, hbm]))
          rw [e1]
          refine ih _ b hr' hm' hbm ?_
          rcases h with ⟨h, h0⟩ | ⟨h, c, hc, hac, hec⟩
          · left
            have : stepL cs left o a = o := if_neg (fun hh => by
              rcases hh.2 with h2 | h2
              · omega
              · rw [h, hbm] at h2; omega)
            rw [this]
            exact ⟨h, h0⟩
          · right
            refine ⟨?_, ?_⟩
            · unfold stepL
              split
              · right; omega
              · exact h
            · rcases List.mem_cons.1 hc with rfl | hc
              · exact absurd hec he
              · exact ⟨c, hc, hac, hec⟩
      · have e1 : stepE cs left b a = b := if_neg (fun hh => haa hh.1)
        have e2 : stepL cs left o a = o := if_neg (fun hh => haa hh.1)
        rw [e1, e2]
        refine ih o b hr' hm' hbm ?_
        rcases h with h | ⟨h, c, hc, hac, hec⟩
        · exact .inl h
        · right
          refine ⟨h, ?_⟩
          rcases List.mem_cons.1 hc with rfl | hc
          · exact absurd hac haa
          · exact ⟨c, hc, hac, hec⟩
  exact key ls (-1) b0 hr hm rfl (.inr ⟨.inl (by omega), b0, hb, ha, rfl⟩)
/-- All rounds. -/
def roundsF (ps : List Pl) (lots : List Int) : Nat → List Bool → List (List Int × Int)
  | 0, _ => []
  | k + 1, left => if doneF (cntL left ps) left = true then [(cntL left ps, -1)] else (cntL left ps, leastF (cntL left ps) left lots) :: roundsF ps lots k (left.set (leastF (cntL left ps) left lots).toNat true)
end Go.Proofs.Ytiinfbjlkbjmmaa
/-
  Slices of truths of the call's own: copies, stores.
-/
namespace Go.Proofs.Ytiinfbjlkbjmmaa
open Go.RowKit
set_option maxRecDepth 100000 in
theorem Bools.cells {w : World} {ad : Addr} {bs : List Bool} (h : Bools w (some ad) bs) : ∀ j u, (bs.map Value.bool)[j]? = some u → w.cell? (ad.add j) = some u := by
  intro j u hj
  rw [List.getElem?_map] at hj
  cases hb : bs[j]? with
  | none => rw [hb] at hj; cases hj
  | some b =>
    rw [hb] at hj
    injection hj with hj
    subst hj
    have hk := (List.getElem?_eq_some_iff.1 hb).1
    obtain ⟨ad', e, hr⟩ := h (by omega)
    injection e with e
    subst e
    exact hr j b hb
set_option maxRecDepth 100000 in
/-- append of some truths. -/
theorem wpList_appBs (w : World) {ops : Array Oper} {rest : List Oper} {o : Oper} {a : Act} {Q : Exit → Act → World → Prop}
    (hg : o.guard = none) (s x : Operand) (ho : o.op = .call { callee := .builtin .append, args := #[s, x], argTypes := #[44, 44] })
    (base : Nat) (A : Option Addr) (n c : Nat) (bs : List Bool) (hs : a.eval s = .slice A n c) (hown : OwnB w base A n c bs) (hbase : base ≤ w.heap.size) (hn : n ≤ 1048576)
    (ad : Addr) (qs : List Bool) (l cc : Nat) (hx : a.eval x = .slice (some ad) l cc) (hl : qs.length = l) (hl2 : l ≤ 1048576) (hc : Bools w (some ad) qs) (m : Nat) (hm : n + l = m)
    (hK : ∀ A' c' w', OwnB w' base A' m c' (bs ++ qs) → w.grownBy w' (Value.slice A n c).ownBlock → Below base w w' → wpList Try.prog ops Q rest (a.put o.dst (.slice A' m c')) w') :
    wpList Try.prog ops Q (o :: rest) a w := by
  obtain ⟨i0, hi, hz0, hz1, hz2⟩ := info_parts infoBool
  subst hm
  refine wpList_append_own w hg s x 44 ho base 4 i0 (.bool false) 1 1 Try.underlying44 hi hz0 hz1 hz2 rfl (by omega) _ _ _ hs hown.2 ad l cc (qs.map Value.bool) hx (by simp [hl]) hc.cells ?_ (by simp only [maxLen]; omega) (by omega) hbase ?_
  · intro u hu
    rw [List.mem_map] at hu
    obtain ⟨y, _, rfl⟩ := hu
    rfl
  · intro v' w' h1 h2 _
    obtain ⟨A', c', rfl⟩ := row_form h1
    exact hK A' c' w' (ownB_of_row (by simpa using h1)) h2 (below_of_grown h2 hbase (fun k hk => (World.ownsRow.lt hown.2 k hk).1))
set_option maxRecDepth 100000 in
theorem OwnB.form {w : World} {base n c : Nat} {A : Option Addr} {bs : List Bool} (h : OwnB w base A n c bs) (hn : 0 < n) : ∃ g, A = some ⟨g, 0, none⟩ ∧ base ≤ g ∧ g < w.heap.size := by
  rcases h.2.2 with ⟨hv, h0⟩ | ⟨g, cap, cur, hv, hb, hg, _⟩
  · omega
  · injection hv with hA
    exact ⟨g, hA, hb, (Array.getElem?_eq_some_iff.1 hg).1⟩
set_option maxRecDepth 100000 in
theorem OwnB.cellB {w : World} {base g n c : Nat} {bs : List Bool} (h : OwnB w base (some ⟨g, 0, none⟩) n c bs) {k : Nat} {b : Bool} (hb : bs[k]? = some b) : w.cell? ⟨g, k, none⟩ = some (.bool b) := by
  have hk := (List.getElem?_eq_some_iff.1 hb).1
  have hl := h.1
  rw [World.ownsRow.cellAt h.2 k (by omega)]; simp [hb]
set_option maxRecDepth 100000 in
theorem OwnB.frozenB {w : World} {base g n c : Nat} {bs : List Bool} (h : OwnB w base (some ⟨g, 0, none⟩) n c bs) (k : Nat) : w.frozen? ⟨g, k, none⟩ = false := World.ownsRow.frozenAt h.2 k
set_option maxRecDepth 100000 in
theorem OwnB.setB {w : World} {base g n c : Nat} {bs : List Bool} (h : OwnB w base (some ⟨g, 0, none⟩) n c bs) (k : Nat) (b : Bool) : OwnB (w.setCell ⟨g, k, none⟩ (.bool b)) base (some ⟨g, 0, none⟩) n c (bs.set k b) := by
  refine ⟨by simp [h.1], ?_⟩
  have := (World.ownsRow.stored h.2 k (.bool b)).1
  rw [List.map_set]
  exact this
set_option maxRecDepth 100000 in
theorem OwnB.mono {w : World} {base n c : Nat} {A : Option Addr} {bs : List Bool} (h : OwnB w base A n c bs) {b : Nat} (hb : b ≤ base) : OwnB w b A n c bs := by
  refine ⟨h.1, h.2.1, ?_⟩
  rcases h.2.2 with h2 | ⟨g, cap, cur, hv, hg, r⟩
  · exact .inl h2
  · exact .inr ⟨g, cap, cur, hv, by omega, r⟩
set_option maxRecDepth 100000 in
theorem OwnB.blockB {w : World} {base n c : Nat} {A : Option Addr} {bs : List Bool} (h : OwnB w base A n c bs) : ∀ k, (Value.slice A n c).ownBlock = some k → base ≤ k ∧ k < w.heap.size := World.ownsRow.lt h.2
set_option maxRecDepth 100000 in
theorem OwnB.grownB {w w' : World} {base n c : Nat} {A : Option Addr} {bs : List Bool} {row : Option Nat} (h : OwnB w base A n c bs) (hg : w.grownBy w' row) (hr : ∀ k, row = some k → (Value.slice A n c).ownBlock ≠ some k) : OwnB w' base A n c bs :=
  ⟨h.1, World.ownsRow.kept h.2 hg (by
    cases hv : (Value.slice A n c).ownBlock with
    | none => exact .inl rfl
    | some b => exact .inr (fun e => hr b e.symm hv))⟩
set_option maxRecDepth 100000 in
/-- 'make([]bool, n)'. -/
theorem wpList_makeB (w : World) {ops : Array Oper} {rest : List Oper} {o : Oper} {a : Act} {Q : Exit → Act → World → Prop}
    (hg : o.guard = none) (l c : Operand) (hop : o.op = Op.makeSlice 44 l c) (n : Nat) (hl : a.eval l = .int .i64 n) (hc : a.eval c = .int .i64 n) (hn : n ≤ 1099511627776)
    (hK : ∀ w', OwnB w' w.heap.size (some ⟨w.heap.size, 0, none⟩) n n (List.replicate n false) → Below w.heap.size w w' → w.heap.size < w'.heap.size → wpList Try.prog ops Q rest (a.put o.dst (.slice (some ⟨w.heap.size, 0, none⟩) n n)) w') :
    wpList Try.prog ops Q (o :: rest) a w := by
  obtain ⟨i0, hi, hz0, hz1, hz2⟩ := info_parts infoBool
  refine wpList_make_full w hg l c 44 hop w.heap.size 4 i0 _ 1 Try.underlying44 hi hz0 hz1 .i64 .i64 n n n hl hc rfl rfl (by rw [hz2]; omega) (by simp only [maxLen]; omega) (Nat.le_refl _) ?_
  intro w' hown hgr
  have hown' : OwnB w' w.heap.size (some ⟨w.heap.size, 0, none⟩) n n (List.replicate n false) := by
    refine ⟨by simp, ?_⟩
    have e : (madeCells (Value.bool false).cells (n * 1)).toList = (List.replicate n false).map Value.bool := by
      simp only [madeCells, Value.cells, Nat.mul_one, List.map_replicate]
      simp [Nat.mod_one]
      rw [List.map_const']; simp
    rw [e] at hown
    exact hown
  refine hK w' hown' ⟨hgr.os, hgr.tape, hgr.output, hgr.size, fun k hk => hgr.block k hk (by simp)⟩ ?_
  rcases hown.2 with ⟨hv, _⟩ | ⟨g, cap, cur, hv, hb, hgg, _⟩
  · cases hv
  · injection hv with hA
    injection hA with hA
    injection hA with hA
    subst hA
    exact (Array.getElem?_eq_some_iff.1 hgg).1
end Go.Proofs.Ytiinfbjlkbjmmaa
/-
  When a round of a runoff is the last one, and who leaves: both sides.
-/
namespace Go.Proofs.Ytiinfbjlkbjmmaa
open Go.RowKit
set_option maxRecDepth 100000 in
theorem atB_at {left : List Bool} {q : Nat} {b : Bool} (h : left[q]? = some b) : atB left (q : Int) = b := by
  unfold atB
  rw [Int.toNat_natCast, List.getD_eq_getElem?_getD, h]; rfl
set_option maxRecDepth 100000 in
set_option maxHeartbeats 1600000 in
theorem runoffDone_any (A A' : Option Addr) (cs : List Int) (left : List Bool) (c c' : Nat) (w : World) (h : Ints w A cs) (h' : Bools w A' left) (hlen : Hid (left.length = cs.length)) (hn1 : 1 ≤ cs.length) (hn5 : cs.length ≤ 5) (hb : Hid (∀ x ∈ cs, 0 ≤ x ∧ x ≤ 1188)) :
    Calls Try.prog 94 #[.slice A cs.length c, .slice A' left.length c'] w (Ret w (.bool (doneF cs left))) := by
  have hD := Lib.hid (show doneF cs left = ((thereL left == 1) || decide (cs.sum < 2 * mostL cs)) from rfl)
  go_enter Try.func94, Try.ntmps94
  go_wp2
  go_loop [5, 6, 7, 8, 11] (fun s t _ _ i => ∃ k : Nat, k ≤ cs.length ∧ i = .int .i64 k ∧ s = .int .i64 (cs.take k).sum ∧ t = .int .i64 (thereL (left.take k))) (fun _ _ _ _ i => cs.length - (intOf i).toNat)
  case atStart => exact ⟨0, by omega, rfl, rfl, rfl⟩
  case round =>
    obtain ⟨k, hk, rfl, rfl, rfl⟩ := hrel
    have hs1 := sum_bd (cs.take k) 1188 (fun x hx => by have := hb.out x (mem_take hx); omega)
    have hlk : (cs.take k).length ≤ k := List.length_take_le _ _
    have ht1 := thereL_bd (left.take k)
    have htk : (left.take k).length ≤ k := List.length_take_le _ _
    by_cases hlt : k < cs.length
    · obtain ⟨ad, x, rfl, hx, hc⟩ := h.at_ hlt
      have hlt2 : k < left.length := by have := hlen.out; omega
      obtain ⟨ad2, b, rfl, hy, hc2⟩ := h'.at_ hlt2
      obtain ⟨hx0, hx1⟩ := hb.out x (mem_of_at hx.out)
      have hn := Lib.hid (sum_snoc _ _ _ hx.out)
      have ht := Lib.hid (thereL_snoc hy.out)
      generalize (cs.take k).sum = S at *
      generalize thereL (left.take k) = T at *
      cases b
      · go_wp2
        go_round
        case rel => exact ⟨k + 1, by omega, by go_num, by rw [hn.out], by rw [ht.out]; rfl⟩
        case measure => simp [intOf]; omega
      · go_wp2
        go_round
        case rel => exact ⟨k + 1, by omega, by go_num, by rw [hn.out], by rw [ht.out]; exact val_int (by simp)⟩
        case measure => simp [intOf]; omega
    · obtain rfl : k = cs.length := by omega
      clear hlt hlk htk
      have e1 : cs.take cs.length = cs := List.take_length
      have e2 : left.take cs.length = left := by rw [← hlen.out, List.take_length]
      rw [e1, e2] at *
      clear e1 e2
      have hM := mostL_bd (M := 1188) (by omega) (fun x hx => (hb.out x hx).2)
      have cM := Lib.hid (sMax_any A cs c w h (by omega) (by omega))
      rw [maxL_most (by omega) (fun x hx => (hb.out x hx).1)] at cM
      generalize cs.sum = S at *
      generalize thereL left = T at *
      generalize mostL cs = M at *
      obtain ⟨hM0, hM1⟩ := hM
      cases hT : (T == 1)
      · rw [hT] at hD
        go_wp2_with (go_at_call 117; refine cM.out.mono ?_; rintro e w' ⟨rfl, rfl⟩)
        go_ret
        exact ⟨ret_bool (by rw [hD.out]; rfl), rfl⟩
      · rw [hT] at hD
        go_wp2
        go_ret
        exact ⟨ret_bool (by rw [hD.out]; rfl), rfl⟩
set_option maxRecDepth 100000 in
set_option maxHeartbeats 800000 in
theorem l12Many_any (A : Option Addr) (left : List Bool) (c : Nat) (w : World) (h : Bools w A left) (hn5 : left.length ≤ 5) :
    Calls Try.prog 91 #[.slice A left.length c] w (Ret w (.int .i64 (thereL left))) := by
  go_enter Try.func91, Try.ntmps91
  go_wp2
  go_loop [3, 4] (fun t i => ∃ k : Nat, k ≤ left.length ∧ i = .int .i64 k ∧ t = .int .i64 (thereL (left.take k))) (fun _ i => left.length - (intOf i).toNat)
  case atStart => exact ⟨0, by omega, rfl, rfl⟩
  case round =>
    obtain ⟨k, hk, rfl, rfl⟩ := hrel
    have ht1 := thereL_bd (left.take k)
    have htk : (left.take k).length ≤ k := List.length_take_le _ _
    by_cases hlt : k < left.length
    · obtain ⟨ad2, b, rfl, hy, hc2⟩ := h.at_ hlt
      have ht := Lib.hid (thereL_snoc hy.out)
      generalize thereL (left.take k) = T at *
      cases b
      · go_wp2
        go_round
        case rel => exact ⟨k + 1, by omega, by go_num, by rw [ht.out]; rfl⟩
        case measure => simp [intOf]; omega
      · go_wp2
        go_round
        case rel => exact ⟨k + 1, by omega, by go_num, by rw [ht.out]; exact val_int (by simp)⟩
        case measure => simp [intOf]; omega
    · obtain rfl : k = left.length := by omega
      clear hlt
      go_wp2
      go_ret
      exact ⟨ret_int rfl, rfl⟩
end Go.Proofs.Ytiinfbjlkbjmmaa
/-
  The reference's way to find who leaves in a round.
-/
namespace Go.Proofs.Ytiinfbjlkbjmmaa
open Go.RowKit
def negL (xs : List Int) : List Int := xs.map fun x => -x
set_option maxRecDepth 100000 in
theorem negL_snoc {xs : List Int} {k : Nat} {x : Int} (h : xs[k]? = some x) : negL (xs.take (k + 1)) = negL (xs.take k) ++ [-x] := by
  unfold negL
  rw [take_snoc _ _ _ h, List.map_append]; rfl
set_option maxRecDepth 100000 in
theorem negL_len (xs : List Int) : (negL xs).length = xs.length := by simp [negL]
set_option maxRecDepth 100000 in
theorem negL_at {xs : List Int} {k : Nat} {x : Int} (h : xs[k]? = some x) : (negL xs)[k]? = some (-x) := by simp [negL, h]
/-- The first of those still there before k who has the least count. -/
def LeastTo (cs : List Int) (left : List Bool) (k : Nat) (b : Int) : Prop :=
  (b = -1 ∧ ∀ j : Nat, j < k → atB left (j : Int) = true) ∨ (∃ q : Nat, b = (q : Int) ∧ q < k ∧ atB left (q : Int) = false ∧ ∀ j : Nat, j < k → atB left (j : Int) = false → atI cs (q : Int) ≤ atI cs (j : Int))
set_option maxRecDepth 100000 in
theorem leastTo_skip {cs : List Int} {left : List Bool} {k : Nat} {b : Int} (h : LeastTo cs left k b) (hk : left[k]? = some true) : LeastTo cs left (k + 1) b := by
  have hk2 := atB_at hk
  rcases h with ⟨rfl, h⟩ | ⟨q, rfl, hq, ha, h⟩
  · refine .inl ⟨rfl, fun j hj => ?_⟩
    by_cases e : j = k
    · subst e; exact hk2
    · exact h j (by omega)
  · refine .inr ⟨q, rfl, by omega, ha, fun j hj hja => ?_⟩
    by_cases e : j = k
    · subst e; rw [hk2] at hja; cases hja
    · exact h j (by omega) hja
set_option maxRecDepth 100000 in
theorem leastTo_first {cs : List Int} {left : List Bool} {k : Nat} (h : ∀ j : Nat, j < k → atB left (j : Int) = true) (hk : left[k]? = some false) : LeastTo cs left (k + 1) (k : Int) := by
  refine .inr ⟨k, rfl, by omega, atB_at hk, fun j hj hja => ?_⟩
  by_cases e : j = k
  · subst e; exact Int.le_refl _
  · rw [h j (by omega)] at hja; cases hja
set_option maxRecDepth 100000 in
theorem leastTo_take {cs : List Int} {left : List Bool} {k q : Nat} {x y : Int} (h : ∀ j : Nat, j < k → atB left (j : Int) = false → atI cs (q : Int) ≤ atI cs (j : Int)) (hk : left[k]? = some false) (hx : cs[k]? = some x) (hy : cs[q]? = some y) (hl : x < y) : LeastTo cs left (k + 1) (k : Int) := by
  refine .inr ⟨k, rfl, by omega, atB_at hk, fun j hj hja => ?_⟩
  by_cases e : j = k
  · subst e; exact Int.le_refl _
  · have := h j (by omega) hja
    rw [atI_at hx]; rw [atI_at hy] at this; omega
set_option maxRecDepth 100000 in
theorem leastTo_keep {cs : List Int} {left : List Bool} {k q : Nat} {x y : Int} (hq : q < k) (ha : atB left (q : Int) = false) (h : ∀ j : Nat, j < k → atB left (j : Int) = false → atI cs (q : Int) ≤ atI cs (j : Int)) (hx : cs[k]? = some x) (hy : cs[q]? = some y) (hl : ¬x < y) : LeastTo cs left (k + 1) (q : Int) := by
  refine .inr ⟨q, rfl, by omega, ha, fun j hj hja => ?_⟩
  by_cases e : j = k
  · subst e; rw [atI_at hx, atI_at hy]; omega
  · exact h j (by omega) hja
set_option maxRecDepth 100000 in
theorem leastTo_end {cs : List Int} {left : List Bool} {b : Int} (h : LeastTo cs left left.length b) (ht : 1 ≤ thereL left) : ∃ q : Nat, b = (q : Int) ∧ q < left.length ∧ atB left (q : Int) = false ∧ ∀ j : Nat, j < left.length → atB left (j : Int) = false → atI cs (q : Int) ≤ atI cs (j : Int) := by
  rcases h with ⟨_, h⟩ | h
  · obtain ⟨k, hk⟩ := thereL_pos ht
    have := h k (List.getElem?_eq_some_iff.1 hk).1
    rw [atB_at hk] at this
    cases this
  · exact h
set_option maxRecDepth 100000 in
theorem stepE_l {cs : List Int} {left : List Bool} {b : Int} {p : Nat} (hp : left[p]? = some true) : stepE cs left b (p : Int) = b := if_neg (fun h => by rw [atB_at hp] at h; cases h.1)
set_option maxRecDepth 100000 in
theorem stepE_t {cs : List Int} {left : List Bool} {b p : Nat} {x : Int} (hp : left[p]? = some false) (hx : cs[p]? = some x) (hy : cs[b]? = some x) : stepE cs left (b : Int) (p : Int) = (p : Int) := if_pos ⟨atB_at hp, by rw [atI_at hx, atI_at hy]⟩
set_option maxRecDepth 100000 in
theorem stepE_f {cs : List Int} {left : List Bool} {b p : Nat} {x y : Int} (hx : cs[p]? = some x) (hy : cs[b]? = some y) (h : ¬x = y) : stepE cs left (b : Int) (p : Int) = (b : Int) := if_neg (fun hh => h (by rw [← atI_at hx, ← atI_at hy]; exact hh.2))
end Go.Proofs.Ytiinfbjlkbjmmaa
