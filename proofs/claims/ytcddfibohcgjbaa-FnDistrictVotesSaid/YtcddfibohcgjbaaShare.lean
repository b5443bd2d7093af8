/-
  Shares: hurdles, differences, gaps, squares.
-/
import Derived.Test.YtcddfibohcgjbaaSeats
import Derived.Test.YtcddfibohcgjbaaApp
namespace Go.Proofs.Ytcddfibohcgjbaa
open Go.RowKit
/-- Votes of which those below a hurdle are struck. -/
def cutV (xs : List Int) (p : Int) : List Int := xs.map fun n => if 100 * n < p * xs.sum then 0 else n
theorem cutV_length (xs : List Int) (p : Int) : (cutV xs p).length = xs.length := by simp [cutV]
theorem cutV_at {xs : List Int} {p x : Int} {k : Nat} (h : xs[k]? = some x) : (cutV xs p)[k]? = some (if 100 * x < p * xs.sum then 0 else x) := by simp [cutV, h]
def hurdleF (xs : List Int) (p : Int) : List Int × Bool := if (vv xs = true ∧ 0 ≤ p ∧ p ≤ 100) ∧ vv (cutV xs p) = true then (cutV xs p, true) else ([], false)
theorem hurdleF_t {xs : List Int} {p : Int} (hv : vv xs = true) (hp : 0 ≤ p ∧ p ≤ 100) (hc : vv (cutV xs p) = true) : hurdleF xs p = (cutV xs p, true) := if_pos ⟨⟨hv, hp⟩, hc⟩
theorem hurdleF_f {xs : List Int} {p : Int} (h : ¬((vv xs = true ∧ 0 ≤ p ∧ p ≤ 100) ∧ vv (cutV xs p) = true)) : hurdleF xs p = ([], false) := if_neg h
theorem newIB_of {w w' : World} {r : List Int × Bool} {ys : List Int} {b : Bool} {A : Option Addr} {n c : Nat} (hr : r = (ys, b)) (hn : ys.length = n) (ho : OwnI w' w.heap.size A c ys) (hb : Below w.heap.size w w') : NewIB w r (.returned (.tuple #[.slice A n c, .bool b])) w' := by
  subst hr
  subst hn
  exact ⟨A, c, rfl, ho, hb⟩
set_option maxHeartbeats 400000 in
theorem implHurdle_any (A : Option Addr) (xs : List Int) (c : Nat) (p : Int) (w : World) (h : Ints w A xs) (hl : xs.length ≤ 1048576) :
    Calls Try.prog 16 #[.slice A xs.length c, .int .i64 p] w (NewIB w (hurdleF xs p)) := by
  by_cases hall : vv xs = true ∧ 0 ≤ p ∧ p ≤ 100
  · obtain ⟨hv, hp0, hp1⟩ := hall
    obtain ⟨hb, ⟨hl1, hl5⟩, hs⟩ := vv_iff.1 hv
    have hsb := sum_bd xs 99 (fun x hx => by have := hb x hx; omega)
    have HB := Lib.hid (show ∀ x ∈ xs, -1000000000 ≤ x ∧ x ≤ 1000000000 from fun x hx => by have := hb x hx; omega)
    have hps := mul_bd (a := p) (b := xs.sum) (M := 100) (N := 495) ⟨hp0, hp1⟩ ⟨by omega, by omega⟩
    obtain ⟨hps0, hps1⟩ := hps
    have hlc := cutV_length xs p
    have HL := Lib.hid hlc
    clear hlc
    go_enter Try.func16, Try.ntmps16
    go_wp2_with (first | (go_at_call 48; refine (votesValid_any _ _ _ _ h hl).mono ?_; rintro e w' ⟨rfl, rfl⟩) | (at_make; refine wpList_makeI _ rfl _ _ rfl xs.length rfl rfl (by omega) ?_; intro w1 hown hbel hsz))
    go_loopw [7, 8, 25] (fun _ _ i wr => ∃ k : Nat, k ≤ xs.length ∧ i = .int .i64 k ∧ OwnI wr w.heap.size (some ⟨w.heap.size, 0, none⟩) xs.length (fill (cutV xs p) k) ∧ Below w.heap.size w wr) (fun _ _ i _ => xs.length - (intOf i).toNat)
    case atStart => exact ⟨0, by omega, rfl, by rw [fill_zero, HL.out]; assumption, by assumption⟩
    case round =>
      obtain ⟨k, hk, rfl, hown, hbel⟩ := hrel
      by_cases hlt : k < xs.length
      · have hi := h.below hbel
        obtain ⟨ad, x, rfl, hx, hc⟩ := hi.at_ hlt
        have hxb := hb x (mem_of_at hx.out)
        obtain ⟨hx0, hx1⟩ := hxb
        have hb' := Lib.hid hb
        clear hb
        by_cases hlt2 : 100 * x < p * xs.sum
        · have hat := Lib.hid (cutV_at (p := p) hx.out)
          go_wp2_with (go_at_call 49; refine (implSum_any _ _ _ _ hi hl HB.out).mono ?_; rintro e w' ⟨rfl, rfl⟩)
          go_roundw
          case rel => exact ⟨k + 1, by omega, by go_num, hown.congr (fill_skip _ (by rw [hat.out, if_pos hlt2])).symm, hbel⟩
          case measure => simp [intOf]; omega
        · have hat := Lib.hid (cutV_at (p := p) hx.out)
          have hc2 := hown.cell (fill_at (cutV xs p) (by rw [HL.out]; exact hlt))
          have hf2 := hown.frozen k
          go_wp2_with (go_at_call 49; refine (implSum_any _ _ _ _ hi hl HB.out).mono ?_; rintro e w' ⟨rfl, rfl⟩)
          go_roundw
          case rel => exact ⟨k + 1, by omega, by go_num, (hown.set k x).congr (fill_set _ (by rw [hat.out, if_neg (by omega)])), hbel.setCell (Nat.le_refl _) _⟩
          case measure => simp [intOf]; omega
      · obtain rfl : k = xs.length := by omega
        clear hlt hb
        have hown' : OwnI _ _ _ _ (cutV xs p) := hown.congr (by rw [← HL.out, fill_all])
        have hcl : (cutV xs p).length ≤ 1048576 := by rw [HL.out]; exact hl
        have hvc := votesValid_any _ _ xs.length _ hown'.ints hcl
        rw [HL.out] at hvc
        cases hv2 : vv (cutV xs p)
        · have hq := Lib.hid (hurdleF_f (xs := xs) (p := p) (fun hh => by simp [hv2] at hh))
          go_wp2_with (go_at_call 48; refine hvc.mono ?_; rintro e w' ⟨rfl, rfl⟩)
          go_ret2
          exact newIB_of hq.out rfl (OwnI.nil _ _) hbel
        · have hq := Lib.hid (hurdleF_t hv ⟨hp0, hp1⟩ hv2)
          go_wp2_with (go_at_call 48; refine hvc.mono ?_; rintro e w' ⟨rfl, rfl⟩)
          go_ret2
          exact newIB_of hq.out HL.out hown' hbel
  · have hq := Lib.hid (hurdleF_f (xs := xs) (p := p) (fun hh => hall hh.1))
    cases hv : vv xs
    · clear hall
      go_enter Try.func16, Try.ntmps16
      go_wp2_with (go_at_call 48; refine (votesValid_any _ _ _ _ h hl).mono ?_; rintro e w' ⟨rfl, rfl⟩)
      go_ret2
      exact newIB_of hq.out rfl (OwnI.nil _ _) (Below.refl _ _)
    · have hall' : ¬(0 ≤ p ∧ p ≤ 100) := fun hh => hall ⟨hv, hh⟩
      clear hall
      by_cases h0 : 0 ≤ p
      · have h1 : 100 < p := by omega
        clear hall'
        go_enter Try.func16, Try.ntmps16
        go_wp2_with (go_at_call 48; refine (votesValid_any _ _ _ _ h hl).mono ?_; rintro e w' ⟨rfl, rfl⟩)
        go_ret2
        exact newIB_of hq.out rfl (OwnI.nil _ _) (Below.refl _ _)
      · clear hall'
        go_enter Try.func16, Try.ntmps16
        go_wp2_with (go_at_call 48; refine (votesValid_any _ _ _ _ h hl).mono ?_; rintro e w' ⟨rfl, rfl⟩)
        go_ret2
        exact newIB_of hq.out rfl (OwnI.nil _ _) (Below.refl _ _)
set_option maxHeartbeats 400000 in
theorem specHurdle_any (A : Option Addr) (xs : List Int) (c : Nat) (p : Int) (w : World) (h : Ints w A xs) (hl : xs.length ≤ 1048576) :
    Calls Try.prog 17 #[.slice A xs.length c, .int .i64 p] w (NewIB w (hurdleF xs p)) := by
  by_cases hall : vv xs = true ∧ 0 ≤ p ∧ p ≤ 100
  · obtain ⟨hv, hp0, hp1⟩ := hall
    obtain ⟨hb, ⟨hl1, hl5⟩, hs⟩ := vv_iff.1 hv
    have hsb := sum_bd xs 99 (fun x hx => by have := hb x hx; omega)
    have HB := Lib.hid (show ∀ x ∈ xs, -1000000000 ≤ x ∧ x ≤ 1000000000 from fun x hx => by have := hb x hx; omega)
    have hps := mul_bd (a := p) (b := xs.sum) (M := 100) (N := 495) ⟨hp0, hp1⟩ ⟨by omega, by omega⟩
    obtain ⟨hps0, hps1⟩ := hps
    have hlc := cutV_length xs p
    have HL := Lib.hid hlc
    clear hlc
    have hi0 : inB p 0 100 = true := inB_t ⟨hp0, hp1⟩
    go_enter Try.func17, Try.ntmps17
    go_wp2_with (first | (go_at_call 50; refine (l21Votes_any _ _ _ _ h hl).mono ?_; rintro e w' ⟨rfl, rfl⟩) | (go_at_call 51; refine (l6In_any _ _ _ _).mono ?_; rintro e w' ⟨rfl, rfl⟩) | (go_at_call 52; refine (l22Sum_any _ _ _ _ (h.alloc _) hl HB.out).mono ?_; rintro e w' ⟨rfl, rfl⟩))
    go_loopw [6, 8, 9] (fun o i _ wr => ∃ (k : Nat) (B : Option Addr) (d : Nat), k ≤ xs.length ∧ i = .int .i64 k ∧ o = .slice B k d ∧ OwnN wr w.heap.size B k d ((cutV xs p).take k) ∧ Below w.heap.size w wr) (fun _ i _ _ => xs.length - (intOf i).toNat)
    case atStart => exact ⟨0, _, _, by omega, rfl, rfl, ⟨rfl, own_empty w (Nat.le_refl _)⟩, (Below.refl _ _).alloc (Nat.le_refl _) _⟩
    case round =>
      obtain ⟨k, B, d, hk, rfl, rfl, hown, hbel⟩ := hrel
      by_cases hlt : k < xs.length
      · have hi := h.below hbel
        obtain ⟨ad, x, rfl, hx, hc⟩ := hi.at_ hlt
        have hxb := hb x (mem_of_at hx.out)
        obtain ⟨hx0, hx1⟩ := hxb
        have hb' := Lib.hid hb
        clear hb
        have hat := Lib.hid (cutV_at (p := p) hx.out)
        by_cases hlt2 : 100 * x < p * xs.sum
        · go_wp2_with (at_builtin; refine wpList_app1 _ rfl (.tmp 38) (.tmp 40) rfl w.heap.size B k d _ rfl hown hbel.size (by omega) _ rfl ?_; intro A' c' w' hown' hgr' hbl')
          go_roundw
          case rel => exact ⟨k + 1, _, _, by omega, by go_num, rfl, ⟨by simp [HL.out]; omega, hown'.2.congr (by rw [take_snoc _ _ _ hat.out, if_pos hlt2])⟩, hbel.trans hbl'⟩
          case measure => simp [intOf]; omega
        · go_wp2_with (at_builtin; refine wpList_app1 _ rfl (.tmp 38) (.tmp 40) rfl w.heap.size B k d _ rfl hown hbel.size (by omega) _ rfl ?_; intro A' c' w' hown' hgr' hbl')
          go_roundw
          case rel => exact ⟨k + 1, _, _, by omega, by go_num, rfl, ⟨by simp [HL.out]; omega, hown'.2.congr (by rw [take_snoc _ _ _ hat.out, if_neg (by omega)])⟩, hbel.trans hbl'⟩
          case measure => simp [intOf]; omega
      · obtain rfl : k = xs.length := by omega
        clear hlt hb
        obtain ⟨hlen, hown⟩ := hown
        have hown' : OwnI _ _ _ _ (cutV xs p) := hown.congr (by rw [← HL.out, List.take_length])
        have hcl : (cutV xs p).length ≤ 1048576 := by rw [HL.out]; exact hl
        have hvc := l21Votes_any _ _ d _ hown'.ints hcl
        rw [HL.out] at hvc
        clear hlen
        cases hv2 : vv (cutV xs p)
        · have hq := Lib.hid (hurdleF_f (xs := xs) (p := p) (fun hh => by simp [hv2] at hh))
          go_wp2_with (go_at_call 50; refine hvc.mono ?_; rintro e w' ⟨rfl, rfl⟩)
          go_ret2
          exact newIB_of hq.out rfl (own_empty wr hbel.size) (hbel.alloc hbel.size _)
        · have hq := Lib.hid (hurdleF_t hv ⟨hp0, hp1⟩ hv2)
          go_wp2_with (go_at_call 50; refine hvc.mono ?_; rintro e w' ⟨rfl, rfl⟩)
          go_ret2
          exact newIB_of hq.out HL.out hown' hbel
  · have hq := Lib.hid (hurdleF_f (xs := xs) (p := p) (fun hh => hall hh.1))
    cases hv : vv xs
    · clear hall
      go_enter Try.func17, Try.ntmps17
      go_wp2_with (go_at_call 50; refine (l21Votes_any _ _ _ _ h hl).mono ?_; rintro e w' ⟨rfl, rfl⟩)
      go_ret2
      exact newIB_of hq.out rfl (own_empty w (Nat.le_refl _)) ((Below.refl _ _).alloc (Nat.le_refl _) _)
    · have hi0 : inB p 0 100 = false := inB_f (fun hh => hall ⟨hv, hh⟩)
      clear hall
      go_enter Try.func17, Try.ntmps17
      go_wp2_with (first | (go_at_call 50; refine (l21Votes_any _ _ _ _ h hl).mono ?_; rintro e w' ⟨rfl, rfl⟩) | (go_at_call 51; refine (l6In_any _ _ _ _).mono ?_; rintro e w' ⟨rfl, rfl⟩))
      go_ret2
      exact newIB_of hq.out rfl (own_empty w (Nat.le_refl _)) ((Below.refl _ _).alloc (Nat.le_refl _) _)
end Go.Proofs.Ytcddfibohcgjbaa
