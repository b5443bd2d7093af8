/-
  Ballots of texts: parsing, valid ballots of the reference, valid piles.
-/
import Derived.Test.YtiinfbjlkbjmmaaQLots
import Derived.WalkLawsBesides
import Derived.Deep.Slices
namespace Go.Proofs.Ytiinfbjlkbjmmaa
open Go.RowKit
set_option maxRecDepth 100000 in
theorem newIB_mk {w w' : World} {r : List Int × Bool} {ys : List Int} {b : Bool} {A : Option Addr} {n c : Nat} (hr : r = (ys, b)) (ho : OwnN w' w.heap.size A n c ys) (hb : Below w.heap.size w w') : NewIB w r (.returned (.tuple #[.slice A n c, .bool b])) w' := by
  subst hr
  obtain ⟨rfl, ho⟩ := ho
  exact ⟨A, c, rfl, ho, hb⟩
set_option maxRecDepth 100000 in
theorem newI_mk {w w' : World} {ys : List Int} {A : Option Addr} {n c : Nat} (ho : OwnN w' w.heap.size A n c ys) (hb : Below w.heap.size w w') : NewI w ys (.returned (.slice A n c)) w' := by
  obtain ⟨rfl, ho⟩ := ho
  exact ⟨A, c, rfl, ho, hb⟩
set_option maxRecDepth 100000 in
theorem OwnN.nil (w : World) (base : Nat) : OwnN w base none 0 0 [] := ⟨rfl, OwnI.nil _ _⟩
set_option maxRecDepth 100000 in
theorem OwnN.congr {w : World} {base : Nat} {A : Option Addr} {n c : Nat} {xs ys : List Int} (h : OwnN w base A n c xs) (e : xs = ys) : OwnN w base A n c ys := e ▸ h
set_option maxRecDepth 100000 in
theorem OwnN.empty (w : World) {base : Nat} (hb : base ≤ w.heap.size) : OwnN (w.alloc (.cells #[] 3)) base (some ⟨w.heap.size, 0, none⟩) 0 0 [] := ⟨rfl, own_empty w hb⟩
set_option maxRecDepth 100000 in
theorem bal_take {s : ByteArray} {k : Nat} (h : k < s.size) : (bal s).take k ++ [(s[k].toNat : Int) - 97] = (bal s).take (k + 1) := (take_snoc _ _ _ (bal_at h)).symm
set_option maxRecDepth 100000 in
theorem bal_all {s : ByteArray} {k : Nat} (h : s.size ≤ k) : (bal s).take k = bal s := List.take_of_length_le (by rw [bal_len]; exact h)
set_option maxRecDepth 100000 in
set_option maxHeartbeats 1600000 in
theorem implParse_any (s : ByteArray) (w : World) (hs : s.size ≤ 1048576) : Calls Try.prog 95 #[.string s] w (NewIB w (parseF s)) := by
  go_enter Try.func95, Try.ntmps95
  go_wp2
  go_loopw [4, 5, 8] (fun b _ i wr => ∃ (k : Nat) (A : Option Addr) (c : Nat), k ≤ s.size ∧ k ≤ 5 ∧ i = .int .i64 k ∧ b = .slice A k c ∧ OwnN wr w.heap.size A k c ((bal s).take k) ∧ Below w.heap.size w wr) (fun _ _ i _ => s.size - (intOf i).toNat)
  case atStart => exact ⟨0, _, _, by omega, by omega, rfl, rfl, OwnN.nil _ _, Below.refl _ _⟩
  case round =>
    obtain ⟨k, A, c, hk, hk5, rfl, rfl, hown, hbel⟩ := hrel
    have hsz := hbel.size
    by_cases hlt : k < s.size
    · have hu := s[k].toNat_lt
      have HA := Lib.hid (bal_take hlt)
      by_cases h5 : k < 5
      · go_wp2_with (at_builtin; refine wpList_app1 _ rfl (.tmp 11) (.tmp 17) rfl w.heap.size A k c _ rfl hown hsz (by omega) _ rfl ?_; intro A' c' w' hown' hgr' hbl')
        go_roundw
        case rel => exact ⟨k + 1, A', c', by omega, by omega, by go_num, rfl, hown'.congr HA.out, hbel.trans hbl'⟩
        case measure => simp [intOf]; omega
      · have hq := Lib.hid (parse_f (bt_big (s := s) (by omega)))
        go_wp2_with (at_builtin; refine wpList_app1 _ rfl (.tmp 11) (.tmp 17) rfl w.heap.size A k c _ rfl hown hsz (by omega) _ rfl ?_; intro A' c' w' hown' hgr' hbl')
        go_ret2
        exact newIB_mk hq.out (OwnN.nil _ _) (hbel.trans hbl')
    · obtain rfl : k = s.size := by omega
      have hown := hown.congr (bal_all (Nat.le_refl _))
      have cV := Lib.hid (ballotValid_any A (bal s) c 5 wr hown.2.ints (by rw [bal_len]; exact hs) hown.2.le_cap)
      rw [bal_len, show bv (bal s) 5 = bt s from rfl] at cV
      clear hlt
      cases hb : bt s
      · rw [hb] at cV
        have hq := Lib.hid (parse_f hb)
        go_wp2_with (go_at_call 77; refine cV.out.mono ?_; rintro e w' ⟨rfl, rfl⟩)
        go_ret2
        exact newIB_mk hq.out (OwnN.nil _ _) hbel
      · rw [hb] at cV
        have hq := Lib.hid (parse_t hb)
        go_wp2_with (go_at_call 77; refine cV.out.mono ?_; rintro e w' ⟨rfl, rfl⟩)
        go_ret2
        exact newIB_mk hq.out hown hbel
/-- Parsing, its answer taken apart. -/
def Parsed (w : World) (s : ByteArray) (e : Ending) (w' : World) : Prop :=
  ∃ A c, e = .returned (.tuple #[.slice A (balP s).length c, .bool (bt s)]) ∧ OwnI w' w.heap.size A c (balP s) ∧ Below w.heap.size w w'
set_option maxRecDepth 100000 in
theorem parsed_of {P : Program} {f : FuncId} {args : Array Value} {w : World} {s : ByteArray} (h : Calls P f args w (NewIB w (parseF s))) : Calls P f args w (Parsed w s) :=
  h.mono fun e w' ⟨A, c, h1, h2, h3⟩ => by
    rw [parse_1, parse_2] at h1
    rw [parse_1] at h2
    exact ⟨A, c, h1, h2, h3⟩
set_option maxRecDepth 100000 in
theorem implParse_p (s : ByteArray) (w : World) (hs : s.size ≤ 1048576) : Calls Try.prog 95 #[.string s] w (Parsed w s) := parsed_of (implParse_any s w hs)
set_option maxRecDepth 100000 in
set_option maxHeartbeats 400000 in
theorem pileBallot_any (s : ByteArray) (m : Int) (w : World) (hs : s.size ≤ 1048576) : Calls Try.prog 60 #[.agg #[.string s, .int .i64 m]] w (NewI w (balP s)) := by
  go_enter Try.func60, Try.ntmps60
  go_wp2_with fail
  refine (implParse_p s _ hs).mono ?_
  rintro e w1 ⟨A, c, rfl, ho, hb⟩
  have hB : Below w.heap.size w w1 := ((Below.refl _ _).alloc (Nat.le_refl _) _).trans (hb.mono (by simp))
  have ho : OwnI w1 w.heap.size A c (balP s) := ho.mono (by simp)
  clear hb
  go_wp2
  go_ret
  exact ⟨A, c, rfl, ho, hB⟩
set_option maxRecDepth 100000 in
set_option maxHeartbeats 800000 in
theorem pileValid_any (s : ByteArray) (m : Int) (w : World) (hs : s.size ≤ 1048576) : Calls Try.prog 93 #[.agg #[.string s, .int .i64 m]] w (Bl w (.bool (pv (s, m)))) := by
  have hc := Lib.hid (show pv (s, m) = (bt s && inB m 1 99) from rfl)
  go_enter Try.func93, Try.ntmps93
  go_wp2_with fail
  refine (implParse_p s _ hs).mono ?_
  rintro e w1 ⟨A, c, rfl, ho, hb⟩
  have hB : Below w.heap.size w w1 := ((Below.refl _ _).alloc (Nat.le_refl _) _).trans (hb.mono (by simp))
  have hm : w1.cell? ⟨w.heap.size, 1, none⟩ = some (.int .i64 m) := (hb.cell (by simp)).trans (cell_of_row _ w.heap.size 1 #[.string s, .int .i64 m] 70 (0, 0) (heap_alloc_new w _))
  clear hb ho
  cases hbt : bt s
  · have hc2 := Lib.hid (show pv (s, m) = false from by rw [hc.out, hbt]; rfl)
    go_wp2
    go_ret
    exact ⟨ret_bool hc2.out.symm, hB⟩
  · by_cases h1 : 1 ≤ m
    · by_cases h2 : m ≤ 99
      · have hc2 := Lib.hid (show pv (s, m) = true from by rw [hc.out, hbt, inB_t ⟨h1, h2⟩]; rfl)
        go_wp2
        go_ret
        exact ⟨ret_bool hc2.out.symm, hB⟩
      · have hc2 := Lib.hid (show decide (m ≤ 99) = pv (s, m) from by rw [hc.out, hbt, inB_f (by omega)]; simp; omega)
        go_wp2
        go_ret
        exact ⟨ret_bool hc2.out, hB⟩
    · have hc2 := Lib.hid (show pv (s, m) = false from by rw [hc.out, hbt, inB_f (by omega)]; rfl)
      go_wp2
      go_ret
      exact ⟨ret_bool hc2.out.symm, hB⟩
set_option maxRecDepth 100000 in
set_option maxHeartbeats 1600000 in
theorem specBallotValid_any (A : Option Addr) (xs : List Int) (c : Nat) (n : Int) (w : World) (h : Ints w A xs) (hl : xs.length ≤ 1048576) (hcap : xs.length ≤ c) (hn0 : -1000000 ≤ n) (hn1 : n ≤ 1048576) :
    Calls Try.prog 104 #[.slice A xs.length c, .int .i64 n] w (Qt w (.bool (bv xs n))) := by
  have hL := Lib.hid (show bv xs n = (inB n 1 5 && bp n xs) from rfl)
  have cI := Lib.hid (fun (n low high : Int) (w : World) => l6In_any n low high w)
  go_enter Try.func104, Try.ntmps104
  go_wp2
  go_loopw [5] (fun i wr => ∃ k m : Nat, k ≤ xs.length ∧ i = .int .i64 k ∧ Hid (bp n (xs.take k) = true) ∧ wr = w.drewN m) (fun i _ => xs.length - (intOf i).toNat)
  case atStart => exact ⟨0, 0, by omega, rfl, bp_nil _, rfl⟩
  case round =>
    obtain ⟨k, m, hk, rfl, hp, rfl⟩ := hrel
    by_cases hlt : k < xs.length
    · obtain ⟨ad, x, rfl, hx, hc⟩ := h.at_ hlt
      obtain ⟨q, hq⟩ : ∃ q : Int, q = n - 1 := ⟨_, rfl⟩
      have hkc : k ≤ c := by omega
      have hw1 : IntKind.i64.wrap (n - 1) = q := by rw [hq]; exact IntWalk.i64_in _ (by omega)
      have cH := Lib.hid (fun (w' : World) (hh : Ints w' (some ad) (xs.take k)) => l1Has_any (some ad) (xs.take k) c k x w' hh (by simp; omega) (by omega))
      have hT := h.take k
      cases hi : inB x 0 q
      · have hf := Lib.hid (bp_range (n := n) (mem_of_at hx.out) (by simp [inB] at hi; omega))
        clear hq
        go_wp2
        go_quiet (first | (go_at_call 86; exact Ret.quiet_add (cI.out _ _ _ _)) | (go_at_call 105; exact Ret.quiet_add (cH.out _ (hT.drewN _))))
        clear hw1
        go_wp2
        go_ret
        exact ⟨ret_bool (by rw [hL.out, hf.out]; simp), _, World.drewN_drewN _ _ _⟩
      · have hir : 0 ≤ x ∧ x ≤ n - 1 := by simp [inB] at hi; omega
        cases hct : has (xs.take k) x
        · have hs := Lib.hid (bp_snoc hx.out hp.out hir hct)
          clear hq hir
          rw [hct] at cH
          go_wp2
          go_quiet (first | (go_at_call 86; exact Ret.quiet_add (cI.out _ _ _ _)) | (go_at_call 105; exact Ret.quiet_add (cH.out _ (hT.drewN _))))
          clear hw1
          go_wp2
          go_roundw
          case rel => exact ⟨k + 1, _, by omega, by go_num, hs, rfl⟩
          case measure => simp [intOf]; omega
        · have hf := Lib.hid (bp_twice (n := n) hx.out hct)
          clear hq hir
          rw [hct] at cH
          go_wp2
          go_quiet (first | (go_at_call 86; exact Ret.quiet_add (cI.out _ _ _ _)) | (go_at_call 105; exact Ret.quiet_add (cH.out _ (hT.drewN _))))
          clear hw1
          go_wp2
          go_ret
          exact ⟨ret_bool (by rw [hL.out, hf.out]; simp), _, World.drewN_drewN _ _ _⟩
    · have h2 : xs.length ≤ k := by omega
      clear hlt
      have hh := Lib.hid (show bv xs n = inB n 1 5 from by
        have := hp.out; rw [List.take_of_length_le (by omega)] at this; rw [hL.out, this]; simp)
      go_wp2_with (go_at_call 86; refine (l6In_any _ _ _ _).mono ?_; rintro e w' ⟨rfl, rfl⟩)
      go_ret
      exact ⟨ret_bool hh.out.symm, _, rfl⟩
set_option maxRecDepth 100000 in
set_option maxHeartbeats 1600000 in
theorem specParse_any (s : ByteArray) (w : World) (hs : s.size ≤ 1048576) : Calls Try.prog 113 #[.string s] w (NewIB w (parseF s)) := by
  go_enter Try.func113, Try.ntmps113
  go_wp2
  go_loopw [4, 5] (fun b i wr => ∃ (k : Nat) (A : Option Addr) (c : Nat), k ≤ s.size ∧ i = .int .i64 k ∧ b = .slice A k c ∧ OwnN wr w.heap.size A k c ((bal s).take k) ∧ Below w.heap.size w wr) (fun _ i _ => s.size - (intOf i).toNat)
  case atStart => exact ⟨0, _, _, by omega, rfl, rfl, OwnN.empty _ (Nat.le_refl _), (Below.refl _ _).alloc (Nat.le_refl _) _⟩
  case round =>
    obtain ⟨k, A, c, hk, rfl, rfl, hown, hbel⟩ := hrel
    have hsz := hbel.size
    by_cases hlt : k < s.size
    · have hu := s[k].toNat_lt
      have HA := Lib.hid (bal_take hlt)
      go_wp2_with (at_builtin; refine wpList_app1 _ rfl (.tmp 13) (.tmp 19) rfl w.heap.size A k c _ rfl hown hsz (by omega) _ rfl ?_; intro A' c' w' hown' hgr' hbl')
      go_roundw
      case rel => exact ⟨k + 1, A', c', by omega, by go_num, rfl, hown'.congr HA.out, hbel.trans hbl'⟩
      case measure => simp [intOf]; omega
    · obtain rfl : k = s.size := by omega
      have hown := hown.congr (bal_all (Nat.le_refl _))
      have cV := Lib.hid (specBallotValid_any A (bal s) c 5 wr hown.2.ints (by rw [bal_len]; exact hs) hown.2.le_cap (by omega) (by omega))
      rw [bal_len, show bv (bal s) 5 = bt s from rfl] at cV
      clear hlt
      cases hb : bt s
      · rw [hb] at cV
        have hq := Lib.hid (parse_f hb)
        go_wp2_with (go_at_call 104; refine cV.out.mono ?_; rintro e w' ⟨rfl, m, rfl⟩)
        go_ret2
        exact newIB_mk hq.out (OwnN.empty _ hsz) ((below_drewN hbel _).alloc hsz _)
      · rw [hb] at cV
        have hq := Lib.hid (parse_t hb)
        go_wp2_with (go_at_call 104; refine cV.out.mono ?_; rintro e w' ⟨rfl, m, rfl⟩)
        go_ret2
        exact newIB_mk hq.out ⟨hown.1, hown.2.drewN m⟩ (below_drewN hbel _)
set_option maxRecDepth 100000 in
theorem specParse_p (s : ByteArray) (w : World) (hs : s.size ≤ 1048576) : Calls Try.prog 113 #[.string s] w (Parsed w s) := parsed_of (specParse_any s w hs)
set_option maxRecDepth 100000 in
set_option maxHeartbeats 800000 in
theorem l3Pile_any (s : ByteArray) (m : Int) (w : World) (hs : s.size ≤ 1048576) : Calls Try.prog 102 #[.agg #[.string s, .int .i64 m]] w (Bl w (.bool (pv (s, m)))) := by
  have hc := Lib.hid (show pv (s, m) = (bt s && inB m 1 99) from rfl)
  go_enter Try.func102, Try.ntmps102
  go_wp2_with fail
  refine (specParse_p s _ hs).mono ?_
  rintro e w1 ⟨A, c, rfl, ho, hb⟩
  have hB : Below w.heap.size w w1 := ((Below.refl _ _).alloc (Nat.le_refl _) _).trans (hb.mono (by simp))
  have hm : w1.cell? ⟨w.heap.size, 1, none⟩ = some (.int .i64 m) := (hb.cell (by simp)).trans (cell_of_row _ w.heap.size 1 #[.string s, .int .i64 m] 70 (0, 0) (heap_alloc_new w _))
  clear hb ho
  cases hbt : bt s
  · have hc2 := Lib.hid (show pv (s, m) = false from by rw [hc.out, hbt]; rfl)
    go_wp2
    go_ret
    exact ⟨ret_bool hc2.out.symm, hB⟩
  · have hc2 := Lib.hid (show inB m 1 99 = pv (s, m) from by rw [hc.out, hbt]; rfl)
    go_wp2_with (go_at_call 86; refine (l6In_any _ _ _ _).mono ?_; rintro e w' ⟨rfl, rfl⟩)
    go_ret
    exact ⟨ret_bool hc2.out, hB⟩
end Go.Proofs.Ytiinfbjlkbjmmaa
/-
  Slices of piles: what reads as a list of piles; what the call owns.
-/
namespace Go.Proofs.Ytiinfbjlkbjmmaa
open Go.RowKit
set_option maxRecDepth 100000 in
theorem add_two (a : Addr) (k m : Nat) : (a.add k).add m = a.add (k + m) := Go.Deep.add_add a k m
/-- The slice of piles at A reads as ps. -/
structure PilesI (w : World) (A : Option Addr) (ps : List (ByteArray × Int)) : Prop where
  small : ∀ p ∈ ps, p.1.size ≤ 1048576
  read : 0 < ps.length → ∃ ad, A = some ad ∧ ∀ j p, ps[j]? = some p → w.cell? (ad.add (j * 2)) = some (.string p.1) ∧ w.cell? (ad.add (j * 2 + 1)) = some (.int .i64 p.2)
section
variable {w w' : World} {A : Option Addr} {ps : List (ByteArray × Int)}
set_option maxRecDepth 100000 in
theorem PilesI.at_ (h : PilesI w A ps) {k : Nat} (hk : k < ps.length) :
    ∃ ad s m, A = some ad ∧ Hid (ps[k]? = some (s, m)) ∧ s.size ≤ 1048576 ∧ w.cell? (ad.add (k * 2)) = some (.string s) ∧ w.cell? ⟨(ad.add (k * 2)).block, (ad.add (k * 2)).off + 1, none⟩ = some (.int .i64 m) := by
  obtain ⟨ad, e, hc⟩ := h.read (by omega)
  obtain ⟨h1, h2⟩ := hc k ps[k] (List.getElem?_eq_getElem hk)
  exact ⟨ad, ps[k].1, ps[k].2, e, List.getElem?_eq_getElem hk, h.small _ (List.getElem_mem hk), h1, (add_two ad (k * 2) 1).symm ▸ h2⟩
set_option maxRecDepth 100000 in
/-- The text of a pile, the address known. -/
theorem PilesI.at_p {ad : Addr} (h : PilesI w (some ad) ps) {k : Nat} (hk : k < ps.length) :
    ∃ s m, Hid (ps[k]? = some (s, m)) ∧ w.cell? (ad.add (k * 2)) = some (.string s) := by
  obtain ⟨ad', e, hc⟩ := h.read (by omega)
  injection e with e
  subst e
  exact ⟨ps[k].1, ps[k].2, List.getElem?_eq_getElem hk, (hc k ps[k] (List.getElem?_eq_getElem hk)).1⟩
set_option maxRecDepth 100000 in
theorem PilesI.keep (h : PilesI w A ps) (hk : ∀ ad, A = some ad → 0 < ps.length → ad.block < w.heap.size → w'.heap[ad.block]? = w.heap[ad.block]?) : PilesI w' A ps := by
  refine ⟨h.small, fun hn => ?_⟩
  obtain ⟨ad, e, hc⟩ := h.read hn
  refine ⟨ad, e, fun j p hp => ?_⟩
  obtain ⟨h1, h2⟩ := hc j p hp
  have hlt := World.block_lt_of_cell? w _ h1
  rw [block_add] at hlt
  have hb := hk ad e hn hlt
  exact ⟨(World.cell?_of_block (w := w) (by rw [block_add]; exact hb)).trans h1, (World.cell?_of_block (w := w) (by rw [block_add]; exact hb)).trans h2⟩
set_option maxRecDepth 100000 in
theorem PilesI.below (h : PilesI w A ps) (hb : Below w.heap.size w w') : PilesI w' A ps := h.keep fun _ _ _ hlt => hb.block _ hlt
set_option maxRecDepth 100000 in
theorem PilesI.drewN (h : PilesI w A ps) (n : Nat) : PilesI (w.drewN n) A ps := ⟨h.small, h.read⟩
set_option maxRecDepth 100000 in
theorem PilesI.drew (h : PilesI w A ps) : PilesI w.drew A ps := ⟨h.small, h.read⟩
set_option maxRecDepth 100000 in
theorem PilesI.alloc (h : PilesI w A ps) (o : Obj) : PilesI (w.alloc o) A ps := h.keep fun _ _ _ hlt => Below.heap_alloc w o _ hlt
set_option maxRecDepth 100000 in
theorem PilesI.nil (w : World) (A : Option Addr) : PilesI w A [] := ⟨by simp, fun h => absurd h (by simp)⟩
end
/-- The cells of piles. -/
def pcs (ps : List (ByteArray × Int)) : List Value := ps.flatMap fun p => [.string p.1, .int .i64 p.2]
set_option maxRecDepth 100000 in
theorem pcs_len (ps : List (ByteArray × Int)) : (pcs ps).length = ps.length * 2 := by
  induction ps with
  | nil => rfl
  | cons p t ih => simp only [pcs, List.flatMap_cons, List.length_append, List.length_cons, List.length_nil] at ih ⊢; omega
set_option maxRecDepth 100000 in
theorem pcs_app (ps qs : List (ByteArray × Int)) : pcs (ps ++ qs) = pcs ps ++ pcs qs := by simp [pcs]
set_option maxRecDepth 100000 in
theorem pcs_at {ps : List (ByteArray × Int)} {k : Nat} {p : ByteArray × Int} (h : ps[k]? = some p) : (pcs ps)[k * 2]? = some (.string p.1) ∧ (pcs ps)[k * 2 + 1]? = some (.int .i64 p.2) := by
  induction ps generalizing k with
  | nil => simp at h
  | cons q t ih =>
    have e : pcs (q :: t) = .string q.1 :: .int .i64 q.2 :: pcs t := rfl
    cases k with
    | zero =>
      simp at h
      subst h
      rw [e]
      exact ⟨rfl, rfl⟩
    | succ k =>
      simp at h
      obtain ⟨h1, h2⟩ := ih h
      rw [e, show (k + 1) * 2 = k * 2 + 1 + 1 by omega]
      exact ⟨by rw [List.getElem?_cons_succ, List.getElem?_cons_succ]; exact h1, by rw [List.getElem?_cons_succ, List.getElem?_cons_succ]; exact h2⟩
set_option maxRecDepth 100000 in
theorem pcs_take (ps : List (ByteArray × Int)) (k : Nat) : (pcs ps).take (k * 2) = pcs (ps.take k) := by
  induction ps generalizing k with
  | nil => simp [pcs]
  | cons q t ih =>
    have e : pcs (q :: t) = .string q.1 :: .int .i64 q.2 :: pcs t := rfl
    cases k with
    | zero => simp [pcs]
    | succ k =>
      rw [e, show (k + 1) * 2 = k * 2 + 1 + 1 by omega, List.take_succ_cons, List.take_succ_cons, ih k]
      rfl
/-- The call owns the slice of piles. -/
structure OwnP (w : World) (base : Nat) (A : Option Addr) (n c : Nat) (ps : List (ByteArray × Int)) : Prop where
  len : ps.length = n
  small : ∀ p ∈ ps, p.1.size ≤ 1048576
  row : w.ownsRow base 70 2 (.slice A n c) n (pcs ps)
set_option maxRecDepth 100000 in
theorem infoPile : (Try.prog.info? 70).map (fun i => (i.zero, i.size, i.bytes)) = some (some (.agg #[.string ⟨#[]⟩, .int .i64 0]), 2, 24) := by kernel_rfl
section
variable {w w' : World} {base n c : Nat} {A : Option Addr} {ps : List (ByteArray × Int)}
set_option maxRecDepth 100000 in
theorem OwnP.piles (h : OwnP w base A n c ps) : PilesI w A ps := by
  refine ⟨h.small, fun hn => ?_⟩
  have hl := h.len
  rcases h.row.2 with ⟨hv, h0⟩ | ⟨g, cap, cur, hv, _⟩
  · omega
  · injection hv with hA
    subst hA
    refine ⟨_, rfl, fun j p hp => ?_⟩
    obtain ⟨h1, h2⟩ := pcs_at hp
    exact ⟨World.ownsRow.cells h.row (g := g) rfl _ _ h1, World.ownsRow.cells h.row (g := g) rfl _ _ h2⟩
set_option maxRecDepth 100000 in
theorem OwnP.alloc (h : OwnP w base A n c ps) (o : Obj) : OwnP (w.alloc o) base A n c ps := ⟨h.len, h.small, World.ownsRow.alloc h.row o⟩
set_option maxRecDepth 100000 in
theorem OwnP.drewN (h : OwnP w base A n c ps) (m : Nat) : OwnP (w.drewN m) base A n c ps := ⟨h.len, h.small, h.row⟩
set_option maxRecDepth 100000 in
theorem OwnP.drew (h : OwnP w base A n c ps) : OwnP w.drew base A n c ps := ⟨h.len, h.small, h.row⟩
set_option maxRecDepth 100000 in
theorem OwnP.below (h : OwnP w base A n c ps) (hb : Below w.heap.size w w') : OwnP w' base A n c ps :=
  ⟨h.len, h.small, World.ownsRow.kept h.row (row := none) ⟨hb.os, hb.tape, hb.output, hb.size, fun k hk _ => hb.block k hk⟩ (by cases hv : (Value.slice A n c).ownBlock <;> simp)⟩
set_option maxRecDepth 100000 in
theorem OwnP.mono (h : OwnP w base A n c ps) {b : Nat} (hb : b ≤ base) : OwnP w b A n c ps := by
  refine ⟨h.len, h.small, h.row.1, ?_⟩
  rcases h.row.2 with h2 | ⟨g, cap, cur, hv, hg, r⟩
  · exact .inl h2
  · exact .inr ⟨g, cap, cur, hv, by omega, r⟩
set_option maxRecDepth 100000 in
theorem OwnP.grown {row : Option Nat} (h : OwnP w base A n c ps) (hg : w.grownBy w' row) (hr : ∀ k, row = some k → (Value.slice A n c).ownBlock ≠ some k) : OwnP w' base A n c ps :=
  ⟨h.len, h.small, World.ownsRow.kept h.row hg (by
    cases hv : (Value.slice A n c).ownBlock with
    | none => exact .inl rfl
    | some b => exact .inr (fun e => hr b e.symm hv))⟩
set_option maxRecDepth 100000 in
theorem OwnP.block (h : OwnP w base A n c ps) : ∀ k, (Value.slice A n c).ownBlock = some k → base ≤ k ∧ k < w.heap.size := World.ownsRow.lt h.row
set_option maxRecDepth 100000 in
theorem OwnP.le_cap (h : OwnP w base A n c ps) : n ≤ c := by
  rcases h.row.2 with ⟨hv, h0⟩ | ⟨g, cap, cur, hv, hb, hg, h1, _⟩
  · omega
  · injection hv with _ _ hc
    omega
set_option maxRecDepth 100000 in
theorem OwnP.form (h : OwnP w base A n c ps) (hn : 0 < n) : ∃ g, A = some ⟨g, 0, none⟩ ∧ base ≤ g ∧ g < w.heap.size := by
  rcases h.row.2 with ⟨hv, h0⟩ | ⟨g, cap, cur, hv, hb, hg, _⟩
  · omega
  · injection hv with hA
    exact ⟨g, hA, hb, (Array.getElem?_eq_some_iff.1 hg).1⟩
set_option maxRecDepth 100000 in
theorem OwnP.congr {qs : List (ByteArray × Int)} (h : OwnP w base A n c ps) (e : ps = qs) : OwnP w base A n c qs := e ▸ h
set_option maxRecDepth 100000 in
theorem OwnP.nil (w : World) (base : Nat) : OwnP w base none 0 0 [] := ⟨rfl, by simp, World.ownsRow_nil w base _ _⟩
set_option maxRecDepth 100000 in
theorem OwnP.empty (w : World) {base : Nat} (hb : base ≤ w.heap.size) : OwnP (w.alloc (.cells #[] 70)) base (some ⟨w.heap.size, 0, none⟩) 0 0 [] :=
  ⟨rfl, by simp, World.ownsRow_made w #[] 0 hb (by simp [maxLen]) (by simp)⟩
set_option maxRecDepth 100000 in
theorem OwnP.btw {lo hi : Nat} (h : OwnP w base A n c ps) (hg : Btw lo hi w w') (hr : ∀ k, (Value.slice A n c).ownBlock = some k → k < lo ∨ hi ≤ k) : OwnP w' base A n c ps := by
  refine ⟨h.len, h.small, h.row.1, ?_⟩
  rcases h.row.2 with h2 | ⟨g, cap, cur, hv, hb, hgg, r⟩
  · exact .inl h2
  · refine .inr ⟨g, cap, cur, hv, hb, ?_, r⟩
    rw [hg.block g (Array.getElem?_eq_some_iff.1 hgg).1 (hr g (by rw [hv]; rfl))]
    exact hgg
set_option maxRecDepth 100000 in
theorem OwnP.takeN (h : OwnP w base A n c ps) {k : Nat} (hk : k ≤ n) (hA : 0 < n) : OwnP w base A k c (ps.take k) := by
  have hl := h.len
  refine ⟨by simp; omega, fun p hp => h.small p (List.mem_of_mem_take hp), ?_⟩
  rcases h.row.2 with ⟨hv, h0⟩ | ⟨g, cap, cur, hv, hb, hg, h1, h2, h3, h4⟩
  · omega
  · injection hv with hA hB hC
    subst hA
    subst hC
    refine ⟨by rw [pcs_len]; simp; omega, .inr ⟨g, c, cur, rfl, hb, hg, by omega, h2, h3, ?_⟩⟩
    rw [← pcs_take, ← h4, List.take_take, Nat.min_eq_left (by omega)]
end
end Go.Proofs.Ytiinfbjlkbjmmaa
