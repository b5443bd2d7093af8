/-
  Ballots of texts: parsing, valid ballots of the reference, valid piles.
-/
import Derived.Test.YthngafmnkihkgaaPileV
import Derived.Test.YthngafmnkihkgaaApp
import Derived.WalkLawsBesides
namespace Go.Proofs.Ythngafmnkihkgaa
open Go.RowKit
theorem newIB_mk {w w' : World} {r : List Int × Bool} {ys : List Int} {b : Bool} {A : Option Addr} {n c : Nat} (hr : r = (ys, b)) (ho : OwnN w' w.heap.size A n c ys) (hb : Below w.heap.size w w') : NewIB w r (.returned (.tuple #[.slice A n c, .bool b])) w' := by
  subst hr
  obtain ⟨rfl, ho⟩ := ho
  exact ⟨A, c, rfl, ho, hb⟩
theorem newI_mk {w w' : World} {ys : List Int} {A : Option Addr} {n c : Nat} (ho : OwnN w' w.heap.size A n c ys) (hb : Below w.heap.size w w') : NewI w ys (.returned (.slice A n c)) w' := by
  obtain ⟨rfl, ho⟩ := ho
  exact ⟨A, c, rfl, ho, hb⟩
theorem OwnN.nil (w : World) (base : Nat) : OwnN w base none 0 0 [] := ⟨rfl, OwnI.nil _ _⟩
theorem OwnN.congr {w : World} {base : Nat} {A : Option Addr} {n c : Nat} {xs ys : List Int} (h : OwnN w base A n c xs) (e : xs = ys) : OwnN w base A n c ys := e ▸ h
theorem OwnN.empty (w : World) {base : Nat} (hb : base ≤ w.heap.size) : OwnN (w.alloc (.cells #[] 3)) base (some ⟨w.heap.size, 0, none⟩) 0 0 [] := ⟨rfl, own_empty w hb⟩
theorem bal_take {s : ByteArray} {k : Nat} (h : k < s.size) : (bal s).take k ++ [(s[k].toNat : Int) - 97] = (bal s).take (k + 1) := (take_snoc _ _ _ (bal_at h)).symm
theorem bal_all {s : ByteArray} {k : Nat} (h : s.size ≤ k) : (bal s).take k = bal s := List.take_of_length_le (by rw [bal_len]; exact h)
set_option maxHeartbeats 1600000 in
theorem implParse_any (s : ByteArray) (w : World) (hs : s.size ≤ 1048576) : Calls Try.prog 85 #[.string s] w (NewIB w (parseF s)) := by
  go_enter Try.func85, Try.ntmps85
  go_wp2
  go_loopw [4, 5, 8] (fun b _ i wr => ∃ (k : Nat) (A : Option Addr) (c : Nat), k ≤ s.size ∧ k ≤ 5 ∧ i = .int .i64 k ∧ b = .slice A k c ∧ OwnN wr w.heap.size A k c ((bal s).take k) ∧ Below w.heap.size w wr) (fun _ _ i _ => s.size - (intOf i).toNat)
  case atStart => exact ⟨0, _, _, by omega, by omega, rfl, rfl, OwnN.nil _ _, Below.refl _ _⟩
  case round =>
    obtain ⟨k, A, c, hk, hk5, rfl, rfl, hown, hbel⟩ := hrel
    have hsz := hbel.size
    by_cases hlt : k < s.size
    · have hu := s[k].toNat_lt
      have HA := Lib.hid (bal_take hlt)
      by_cases h5 : k < 5
      · go_wp2_with (at_builtin; refine wpList_app1 _ rfl (.tmp 11) (.tmp 17) rfl w.heap.size A k c _ rfl hown hsz (by omega) _ rfl ?_; intro A' c' w' hown' hgr' hbl')
        go_roundw
        case rel => exact ⟨k + 1, A', c', by omega, by omega, by go_num, rfl, hown'.congr HA.out, hbel.trans hbl'⟩
        case measure => simp [intOf]; omega
      · have hq := Lib.hid (parse_f (bt_big (s := s) (by omega)))
        go_wp2_with (at_builtin; refine wpList_app1 _ rfl (.tmp 11) (.tmp 17) rfl w.heap.size A k c _ rfl hown hsz (by omega) _ rfl ?_; intro A' c' w' hown' hgr' hbl')
        go_ret2
        exact newIB_mk hq.out (OwnN.nil _ _) (hbel.trans hbl')
    · obtain rfl : k = s.size := by omega
      have hown := hown.congr (bal_all (Nat.le_refl _))
      have cV := Lib.hid (ballotValid_any A (bal s) c 5 wr hown.2.ints (by rw [bal_len]; exact hs) hown.2.le_cap)
      rw [bal_len, show bv (bal s) 5 = bt s from rfl] at cV
      clear hlt
      cases hb : bt s
      · rw [hb] at cV
        have hq := Lib.hid (parse_f hb)
        go_wp2_with (go_at_call 67; refine cV.out.mono ?_; rintro e w' ⟨rfl, rfl⟩)
        go_ret2
        exact newIB_mk hq.out (OwnN.nil _ _) hbel
      · rw [hb] at cV
        have hq := Lib.hid (parse_t hb)
        go_wp2_with (go_at_call 67; refine cV.out.mono ?_; rintro e w' ⟨rfl, rfl⟩)
        go_ret2
        exact newIB_mk hq.out hown hbel
/-- Parsing, its answer taken apart. -/
def Parsed (w : World) (s : ByteArray) (e : Ending) (w' : World) : Prop :=
  ∃ A c, e = .returned (.tuple #[.slice A (balP s).length c, .bool (bt s)]) ∧ OwnI w' w.heap.size A c (balP s) ∧ Below w.heap.size w w'
theorem parsed_of {P : Program} {f : FuncId} {args : Array Value} {w : World} {s : ByteArray} (h : Calls P f args w (NewIB w (parseF s))) : Calls P f args w (Parsed w s) :=
  h.mono fun e w' ⟨A, c, h1, h2, h3⟩ => by
    rw [parse_1, parse_2] at h1
    rw [parse_1] at h2
    exact ⟨A, c, h1, h2, h3⟩
theorem implParse_p (s : ByteArray) (w : World) (hs : s.size ≤ 1048576) : Calls Try.prog 85 #[.string s] w (Parsed w s) := parsed_of (implParse_any s w hs)
set_option maxHeartbeats 400000 in
theorem pileBallot_any (s : ByteArray) (m : Int) (w : World) (hs : s.size ≤ 1048576) : Calls Try.prog 68 #[.agg #[.string s, .int .i64 m]] w (NewI w (balP s)) := by
  go_enter Try.func68, Try.ntmps68
  go_wp2_with fail
  refine (implParse_p s _ hs).mono ?_
  rintro e w1 ⟨A, c, rfl, ho, hb⟩
  have hB : Below w.heap.size w w1 := ((Below.refl _ _).alloc (Nat.le_refl _) _).trans (hb.mono (by simp))
  have ho : OwnI w1 w.heap.size A c (balP s) := ho.mono (by simp)
  clear hb
  go_wp2
  go_ret
  exact ⟨A, c, rfl, ho, hB⟩
set_option maxHeartbeats 800000 in
theorem pileValid_any (s : ByteArray) (m : Int) (w : World) (hs : s.size ≤ 1048576) : Calls Try.prog 78 #[.agg #[.string s, .int .i64 m]] w (Bl w (.bool (pv (s, m)))) := by
  have hc := Lib.hid (show pv (s, m) = (bt s && inB m 1 99) from rfl)
  go_enter Try.func78, Try.ntmps78
  go_wp2_with fail
  refine (implParse_p s _ hs).mono ?_
  rintro e w1 ⟨A, c, rfl, ho, hb⟩
  have hB : Below w.heap.size w w1 := ((Below.refl _ _).alloc (Nat.le_refl _) _).trans (hb.mono (by simp))
  have hm : w1.cell? ⟨w.heap.size, 1, none⟩ = some (.int .i64 m) := (hb.cell (by simp)).trans (cell_of_row _ w.heap.size 1 #[.string s, .int .i64 m] 31 (0, 0) (heap_alloc_new w _))
  clear hb ho
  cases hbt : bt s
  · have hc2 := Lib.hid (show pv (s, m) = false from by rw [hc.out, hbt]; rfl)
    go_wp2
    go_ret
    exact ⟨ret_bool hc2.out.symm, hB⟩
  · by_cases h1 : 1 ≤ m
    · by_cases h2 : m ≤ 99
      · have hc2 := Lib.hid (show pv (s, m) = true from by rw [hc.out, hbt, inB_t ⟨h1, h2⟩]; rfl)
        go_wp2
        go_ret
        exact ⟨ret_bool hc2.out.symm, hB⟩
      · have hc2 := Lib.hid (show decide (m ≤ 99) = pv (s, m) from by rw [hc.out, hbt, inB_f (by omega)]; simp; omega)
        go_wp2
        go_ret
        exact ⟨ret_bool hc2.out, hB⟩
    · have hc2 := Lib.hid (show pv (s, m) = false from by rw [hc.out, hbt, inB_f (by omega)]; rfl)
      go_wp2
      go_ret
      exact ⟨ret_bool hc2.out.symm, hB⟩
set_option maxHeartbeats 1600000 in
theorem specBallotValid_any (A : Option Addr) (xs : List Int) (c : Nat) (n : Int) (w : World) (h : Ints w A xs) (hl : xs.length ≤ 1048576) (hcap : xs.length ≤ c) (hn0 : -1000000 ≤ n) (hn1 : n ≤ 1000000) :
    Calls Try.prog 69 #[.slice A xs.length c, .int .i64 n] w (Qt w (.bool (bv xs n))) := by
  have hL := Lib.hid (show bv xs n = (inB n 1 5 && bp n xs) from rfl)
  have cI := Lib.hid (fun (n low high : Int) (w : World) => l6In_any n low high w)
  go_enter Try.func69, Try.ntmps69
  go_wp2
  go_loopw [5] (fun i wr => ∃ k m : Nat, k ≤ xs.length ∧ i = .int .i64 k ∧ Hid (bp n (xs.take k) = true) ∧ wr = w.drewN m) (fun i _ => xs.length - (intOf i).toNat)
  case atStart => exact ⟨0, 0, by omega, rfl, bp_nil _, rfl⟩
  case round =>
    obtain ⟨k, m, hk, rfl, hp, rfl⟩ := hrel
    by_cases hlt : k < xs.length
    · obtain ⟨ad, x, rfl, hx, hc⟩ := h.at_ hlt
      obtain ⟨q, hq⟩ : ∃ q : Int, q = n - 1 := ⟨_, rfl⟩
      have hkc : k ≤ c := by omega
      have hw1 : IntKind.i64.wrap (n - 1) = q := by rw [hq]; exact IntWalk.i64_in _ (by omega)
      have cH := Lib.hid (fun (w' : World) (hh : Ints w' (some ad) (xs.take k)) => l1Has_any (some ad) (xs.take k) c k x w' hh (by simp; omega) (by omega))
      have hT := h.take k
      cases hi : inB x 0 q
      · have hf := Lib.hid (bp_range (n := n) (mem_of_at hx.out) (by simp [inB] at hi; omega))
        clear hq
        go_wp2
        go_quiet (first | (go_at_call 44; exact Ret.quiet_add (cI.out _ _ _ _)) | (go_at_call 81; exact Ret.quiet_add (cH.out _ (hT.drewN _))))
        clear hw1
        go_wp2
        go_ret
        exact ⟨ret_bool (by rw [hL.out, hf.out]; simp), _, World.drewN_drewN _ _ _⟩
      · have hir : 0 ≤ x ∧ x ≤ n - 1 := by simp [inB] at hi; omega
        cases hct : has (xs.take k) x
        · have hs := Lib.hid (bp_snoc hx.out hp.out hir hct)
          clear hq hir
          rw [hct] at cH
          go_wp2
          go_quiet (first | (go_at_call 44; exact Ret.quiet_add (cI.out _ _ _ _)) | (go_at_call 81; exact Ret.quiet_add (cH.out _ (hT.drewN _))))
          clear hw1
          go_wp2
          go_roundw
          case rel => exact ⟨k + 1, _, by omega, by go_num, hs, rfl⟩
          case measure => simp [intOf]; omega
        · have hf := Lib.hid (bp_twice (n := n) hx.out hct)
          clear hq hir
          rw [hct] at cH
          go_wp2
          go_quiet (first | (go_at_call 44; exact Ret.quiet_add (cI.out _ _ _ _)) | (go_at_call 81; exact Ret.quiet_add (cH.out _ (hT.drewN _))))
          clear hw1
          go_wp2
          go_ret
          exact ⟨ret_bool (by rw [hL.out, hf.out]; simp), _, World.drewN_drewN _ _ _⟩
    · have h2 : xs.length ≤ k := by omega
      clear hlt
      have hh := Lib.hid (show bv xs n = inB n 1 5 from by
        have := hp.out; rw [List.take_of_length_le (by omega)] at this; rw [hL.out, this]; simp)
      go_wp2_with (go_at_call 44; refine (l6In_any _ _ _ _).mono ?_; rintro e w' ⟨rfl, rfl⟩)
      go_ret
      exact ⟨ret_bool hh.out.symm, _, rfl⟩
set_option maxHeartbeats 1600000 in
theorem specParse_any (s : ByteArray) (w : World) (hs : s.size ≤ 1048576) : Calls Try.prog 55 #[.string s] w (NewIB w (parseF s)) := by
  go_enter Try.func55, Try.ntmps55
  go_wp2
  go_loopw [4, 5] (fun b i wr => ∃ (k : Nat) (A : Option Addr) (c : Nat), k ≤ s.size ∧ i = .int .i64 k ∧ b = .slice A k c ∧ OwnN wr w.heap.size A k c ((bal s).take k) ∧ Below w.heap.size w wr) (fun _ i _ => s.size - (intOf i).toNat)
  case atStart => exact ⟨0, _, _, by omega, rfl, rfl, OwnN.empty _ (Nat.le_refl _), (Below.refl _ _).alloc (Nat.le_refl _) _⟩
  case round =>
    obtain ⟨k, A, c, hk, rfl, rfl, hown, hbel⟩ := hrel
    have hsz := hbel.size
    by_cases hlt : k < s.size
    · have hu := s[k].toNat_lt
      have HA := Lib.hid (bal_take hlt)
      go_wp2_with (at_builtin; refine wpList_app1 _ rfl (.tmp 13) (.tmp 19) rfl w.heap.size A k c _ rfl hown hsz (by omega) _ rfl ?_; intro A' c' w' hown' hgr' hbl')
      go_roundw
      case rel => exact ⟨k + 1, A', c', by omega, by go_num, rfl, hown'.congr HA.out, hbel.trans hbl'⟩
      case measure => simp [intOf]; omega
    · obtain rfl : k = s.size := by omega
      have hown := hown.congr (bal_all (Nat.le_refl _))
      have cV := Lib.hid (specBallotValid_any A (bal s) c 5 wr hown.2.ints (by rw [bal_len]; exact hs) hown.2.le_cap (by omega) (by omega))
      rw [bal_len, show bv (bal s) 5 = bt s from rfl] at cV
      clear hlt
      cases hb : bt s
      · rw [hb] at cV
        have hq := Lib.hid (parse_f hb)
        go_wp2_with (go_at_call 69; refine cV.out.mono ?_; rintro e w' ⟨rfl, m, rfl⟩)
        go_ret2
        exact newIB_mk hq.out (OwnN.empty _ hsz) ((below_drewN hbel _).alloc hsz _)
      · rw [hb] at cV
        have hq := Lib.hid (parse_t hb)
        go_wp2_with (go_at_call 69; refine cV.out.mono ?_; rintro e w' ⟨rfl, m, rfl⟩)
        go_ret2
        exact newIB_mk hq.out ⟨hown.1, hown.2.drewN m⟩ (below_drewN hbel _)
theorem specParse_p (s : ByteArray) (w : World) (hs : s.size ≤ 1048576) : Calls Try.prog 55 #[.string s] w (Parsed w s) := parsed_of (specParse_any s w hs)
set_option maxHeartbeats 800000 in
theorem l3Pile_any (s : ByteArray) (m : Int) (w : World) (hs : s.size ≤ 1048576) : Calls Try.prog 86 #[.agg #[.string s, .int .i64 m]] w (Bl w (.bool (pv (s, m)))) := by
  have hc := Lib.hid (show pv (s, m) = (bt s && inB m 1 99) from rfl)
  go_enter Try.func86, Try.ntmps86
  go_wp2_with fail
  refine (specParse_p s _ hs).mono ?_
  rintro e w1 ⟨A, c, rfl, ho, hb⟩
  have hB : Below w.heap.size w w1 := ((Below.refl _ _).alloc (Nat.le_refl _) _).trans (hb.mono (by simp))
  have hm : w1.cell? ⟨w.heap.size, 1, none⟩ = some (.int .i64 m) := (hb.cell (by simp)).trans (cell_of_row _ w.heap.size 1 #[.string s, .int .i64 m] 31 (0, 0) (heap_alloc_new w _))
  clear hb ho
  cases hbt : bt s
  · have hc2 := Lib.hid (show pv (s, m) = false from by rw [hc.out, hbt]; rfl)
    go_wp2
    go_ret
    exact ⟨ret_bool hc2.out.symm, hB⟩
  · have hc2 := Lib.hid (show inB m 1 99 = pv (s, m) from by rw [hc.out, hbt]; rfl)
    go_wp2_with (go_at_call 44; refine (l6In_any _ _ _ _).mono ?_; rintro e w' ⟨rfl, rfl⟩)
    go_ret
    exact ⟨ret_bool hc2.out, hB⟩
end Go.Proofs.Ythngafmnkihkgaa
