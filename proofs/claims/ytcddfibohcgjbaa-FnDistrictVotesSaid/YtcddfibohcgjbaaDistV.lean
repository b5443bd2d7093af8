/-
  Which districts are valid, by the program and by the reference.
-/
import Derived.Test.YtcddfibohcgjbaaDist
namespace Go.Proofs.Ytcddfibohcgjbaa
open Go.RowKit
def rowOk (n : Nat) (xs : List Int) : Bool := vv xs && (((xs.length : Int)) == (n : Int))
def wid (xss : List (List Int)) : Nat := (xss.headD []).length
/-- Districts are valid. -/
def dvB (xss : List (List Int)) : Bool := inB xss.length 1 4 && xss.all (rowOk (wid xss)) && vv (tog (wid xss) xss)
theorem dvB_iff {xss : List (List Int)} : dvB xss = true ↔ (1 ≤ xss.length ∧ xss.length ≤ 4) ∧ (∀ xs ∈ xss, vv xs = true ∧ xs.length = wid xss) ∧ vv (tog (wid xss) xss) = true := by
  simp only [dvB, rowOk, Bool.and_eq_true, inB_iff, List.all_eq_true, beq_iff_eq]
  constructor
  · rintro ⟨⟨h1, h2⟩, h3⟩
    exact ⟨by omega, fun xs hx => ⟨(h2 xs hx).1, by have := (h2 xs hx).2; omega⟩, h3⟩
  · rintro ⟨h1, h2, h3⟩
    exact ⟨⟨by omega, fun xs hx => ⟨(h2 xs hx).1, by have := (h2 xs hx).2; omega⟩⟩, h3⟩
theorem dvB_row {xss : List (List Int)} {xs : List Int} (h : xs ∈ xss) (hx : rowOk (wid xss) xs = false) : dvB xss = false := by
  have : xss.all (rowOk (wid xss)) = false := by
    cases hh : xss.all (rowOk (wid xss)) with
    | false => rfl
    | true => rw [List.all_eq_true] at hh; exact absurd (hh xs h) (by simp [hx])
  simp [dvB, this]
theorem dvB_end {xss : List (List Int)} (h1 : inB xss.length 1 4 = true) (h2 : ∀ xs ∈ xss, rowOk (wid xss) xs = true) : dvB xss = vv (tog (wid xss) xss) := by
  have : xss.all (rowOk (wid xss)) = true := by rw [List.all_eq_true]; exact h2
  simp [dvB, this, h1]
theorem wid_of {xss : List (List Int)} {xs : List Int} (h : xss[0]? = some xs) : wid xss = xs.length := by
  cases xss with
  | nil => simp at h
  | cons a t => simp at h; subst h; rfl
theorem rowOk_iff {n : Nat} {xs : List Int} : rowOk n xs = true ↔ vv xs = true ∧ xs.length = n := by
  simp [rowOk]; omega
theorem rows_snoc {α : Type} {xss : List α} {k : Nat} {x : α} {P : α → Prop} (hx : xss[k]? = some x) (h : ∀ y ∈ xss.take k, P y) (h1 : P x) : ∀ y ∈ xss.take (k + 1), P y := by
  rw [take_snoc xss k x hx]
  intro y hy
  rcases List.mem_append.1 hy with hy | hy
  · exact h y hy
  · simp at hy; subst hy; exact h1
theorem vv_len {xs : List Int} (h : vv xs = true) : xs.length ≤ 5 := (vv_iff.1 h).2.1.2
set_option maxHeartbeats 1600000 in
theorem implDV_any (A : Option Addr) (xss : List (List Int)) (c : Nat) (w : World) (h : RowsI w A xss) (hl : tot xss ≤ 1048576) :
    Calls Try.prog 66 #[.slice A xss.length c] w (Bl w (.bool (dvB xss))) := by
  have HT := Lib.hid hl
  have hxl := tot_len hl
  clear hl
  by_cases h1 : 1 ≤ xss.length
  · by_cases h4 : xss.length ≤ 4
    · obtain ⟨ad0, ys0, B0, d0, rfl, hx0, hc0, hi0⟩ := h.at_ (show 0 < xss.length by omega)
      have hc0' : w.cell? ad0 = some (.slice B0 ys0.length d0) := by have := hc0; rwa [show ad0.add 0 = ad0 from by unfold Addr.add; simp] at this
      have hw := Lib.hid (wid_of hx0.out)
      have hin := Lib.hid (show inB xss.length 1 4 = true from inB_t ⟨by omega, by omega⟩)
      clear hi0
      go_enter Try.func66, Try.ntmps66
      go_wp2
      go_loop [15] (fun i => ∃ k : Nat, k ≤ xss.length ∧ i = .int .i64 k ∧ Hid (∀ xs ∈ xss.take k, rowOk (wid xss) xs = true)) (fun i => xss.length - (intOf i).toNat)
      case atStart => exact ⟨0, by omega, rfl, by simp [Hid]⟩
      case round =>
        obtain ⟨k, hk, rfl, hf⟩ := hrel
        by_cases hlt : k < xss.length
        · obtain ⟨ad, xs, B, d, e1, hx, hc, hi⟩ := h.at_ hlt
          obtain rfl : ad0 = ad := by injection e1
          clear e1
          have hlx := tot_row hx.out HT.out
          cases hvx : vv xs
          · have hq := Lib.hid (dvB_row (List.mem_of_getElem? hx.out) (by simp [rowOk, hvx]))
            go_wp2_with (go_at_call 48; refine (votesValid_any _ _ _ _ hi hlx).mono ?_; rintro e w' ⟨rfl, rfl⟩)
            go_ret
            exact ⟨ret_bool hq.out.symm, Below.refl _ _⟩
          · cases hlen : (((xs.length : Int)) != (ys0.length : Int))
            · have hrow := Lib.hid (rowOk_iff.2 ⟨hvx, show xs.length = wid xss from by rw [hw.out]; simp at hlen; omega⟩)
              go_wp2_with (go_at_call 48; refine (votesValid_any _ _ _ _ hi hlx).mono ?_; rintro e w' ⟨rfl, rfl⟩)
              go_round
              case rel => exact ⟨k + 1, by omega, by go_num, rows_snoc hx.out hf.out hrow.out⟩
              case measure => simp [intOf]; omega
            · have hq := Lib.hid (dvB_row (List.mem_of_getElem? hx.out) (show rowOk (wid xss) xs = false from by
                rw [hw.out]; simp [rowOk]; intro; simp at hlen; omega))
              go_wp2_with (go_at_call 48; refine (votesValid_any _ _ _ _ hi hlx).mono ?_; rintro e w' ⟨rfl, rfl⟩)
              go_ret
              exact ⟨ret_bool hq.out.symm, Below.refl _ _⟩
        · obtain rfl : k = xss.length := by omega
          clear hlt
          have hall : Hid (∀ xs ∈ xss, vv xs = true ∧ xs.length = wid xss) := fun xs hx => rowOk_iff.1 (hf.out xs (by rw [List.take_length]; exact hx))
          have hq := Lib.hid (dvB_end hin.out (fun xs hx => rowOk_iff.2 (hall.out xs hx)))
          have hy0 := hall.out ys0 (List.mem_of_getElem? hx0.out)
          have hw5 : wid xss ≤ 5 := by have := vv_len hy0.1; omega
          have cT := Lib.hid (together_any _ xss c (wid xss) w h (by omega) (by omega) (by omega) (fun xs hx => (hall.out xs hx).2) (fun xs hx x hxx => by
            have := (vv_iff.1 (hall.out xs hx).1).1 x hxx
            omega))
          have hlt5 : (tog (wid xss) xss).length ≤ 1048576 := by simp [tog]; omega
          clear hy0
          generalize tog (wid xss) xss = ts at cT hq hlt5
          go_wp2_with (first | (go_at_call 67; refine cT.out.mono ?_; rintro e w1 ⟨A1, c1, rfl, ho, hb⟩) | (go_at_call 48; refine (votesValid_any _ _ _ _ ho.ints hlt5).mono ?_; rintro e w' ⟨rfl, rfl⟩))
          go_ret
          exact ⟨ret_bool hq.out.symm, by assumption⟩
    · have hq := Lib.hid (show dvB xss = false from by simp [dvB, inB_f (show ¬((1 : Int) ≤ xss.length ∧ (xss.length : Int) ≤ 4) by omega)])
      go_enter Try.func66, Try.ntmps66
      go_wp2
      go_ret
      exact ⟨ret_bool hq.out.symm, Below.refl _ _⟩
  · have hq := Lib.hid (show dvB xss = false from by simp [dvB, inB_f (show ¬((1 : Int) ≤ xss.length ∧ (xss.length : Int) ≤ 4) by omega)])
    go_enter Try.func66, Try.ntmps66
    go_wp2
    go_ret
    exact ⟨ret_bool hq.out.symm, Below.refl _ _⟩
set_option maxHeartbeats 1600000 in
theorem specDV_any (A : Option Addr) (xss : List (List Int)) (c : Nat) (w : World) (h : RowsI w A xss) (hl : tot xss ≤ 1048576) :
    Calls Try.prog 64 #[.slice A xss.length c] w (Bl w (.bool (dvB xss))) := by
  have HT := Lib.hid hl
  have hxl := tot_len hl
  clear hl
  cases hin : inB xss.length 1 4
  · have hq := Lib.hid (show dvB xss = false from by simp [dvB, hin])
    go_enter Try.func64, Try.ntmps64
    go_wp2_with (go_at_call 51; refine (l6In_any _ _ _ _).mono ?_; rintro e w' ⟨rfl, rfl⟩)
    go_ret
    exact ⟨ret_bool hq.out.symm, Below.refl _ _⟩
  · have hin2 := inB_iff.1 hin
    have h1 : 1 ≤ xss.length := by omega
    have h4 : xss.length ≤ 4 := by omega
    clear hin2
    obtain ⟨ad0, ys0, B0, d0, rfl, hx0, hc0, hi0⟩ := h.at_ (show 0 < xss.length by omega)
    have hc0' : w.cell? ad0 = some (.slice B0 ys0.length d0) := by have := hc0; rwa [show ad0.add 0 = ad0 from by unfold Addr.add; simp] at this
    have hw := Lib.hid (wid_of hx0.out)
    have hinH := Lib.hid hin
    clear hi0
    go_enter Try.func64, Try.ntmps64
    go_wp2_with (go_at_call 51; refine (l6In_any _ _ _ _).mono ?_; rintro e w' ⟨rfl, rfl⟩)
    go_loopw [3] (fun i wr => ∃ k n : Nat, k ≤ xss.length ∧ i = .int .i64 k ∧ Hid (∀ xs ∈ xss.take k, rowOk (wid xss) xs = true) ∧ wr = w.drewN n) (fun i _ => xss.length - (intOf i).toNat)
    case atStart => exact ⟨0, 0, by omega, rfl, by simp [Hid], rfl⟩
    case round =>
      obtain ⟨k, n, hk, rfl, hf, rfl⟩ := hrel
      by_cases hlt : k < xss.length
      · obtain ⟨ad, xs, B, d, e1, hx, hc, hi⟩ := h.at_ hlt
        obtain rfl : ad0 = ad := by injection e1
        clear e1
        have hlx := tot_row hx.out HT.out
        have h0x : (0 : Int) < (xss.length : Int) := by omega
        have cV := Lib.hid (fun m => l21Votes_any B xs d (w.drewN m) hi hlx)
        cases hvx : vv xs
        · have hq := Lib.hid (dvB_row (List.mem_of_getElem? hx.out) (by simp [rowOk, hvx]))
          rw [hvx] at cV
          go_wp2
          go_quiet ((go_at_call 50; exact Ret.quiet_add (cV.out _)))
          go_wp2
          go_ret
          exact ⟨ret_bool hq.out.symm, below_drewN (below_drewN (Below.refl _ _) _) _⟩
        · rw [hvx] at cV
          cases hlen : (((xs.length : Int)) != (ys0.length : Int))
          · have hrow := Lib.hid (rowOk_iff.2 ⟨hvx, show xs.length = wid xss from by rw [hw.out]; simp at hlen; omega⟩)
            go_wp2
            go_quiet ((go_at_call 50; exact Ret.quiet_add (cV.out _)))
            go_wp2
            go_roundw
            case rel => exact ⟨k + 1, _, by omega, by go_num, rows_snoc hx.out hf.out hrow.out, rfl⟩
            case measure => simp [intOf]; omega
          · have hq := Lib.hid (dvB_row (List.mem_of_getElem? hx.out) (show rowOk (wid xss) xs = false from by
              rw [hw.out]; simp [rowOk]; intro; simp at hlen; omega))
            go_wp2
            go_quiet ((go_at_call 50; exact Ret.quiet_add (cV.out _)))
            go_wp2
            go_ret
            exact ⟨ret_bool hq.out.symm, below_drewN (below_drewN (Below.refl _ _) _) _⟩
      · obtain rfl : k = xss.length := by omega
        clear hlt
        have hall : Hid (∀ xs ∈ xss, vv xs = true ∧ xs.length = wid xss) := fun xs hx => rowOk_iff.1 (hf.out xs (by rw [List.take_length]; exact hx))
        have hq := Lib.hid (dvB_end hinH.out (fun xs hx => rowOk_iff.2 (hall.out xs hx)))
        have hy0 := hall.out ys0 (List.mem_of_getElem? hx0.out)
        have hw5 : wid xss ≤ 5 := by have := vv_len hy0.1; omega
        have cT := Lib.hid (l24Votes_any _ xss c (wid xss) _ (h.drewN n) (by omega) (by omega) (by omega) (fun xs hx => (hall.out xs hx).2) (fun xs hx x hxx => by
          have := (vv_iff.1 (hall.out xs hx).1).1 x hxx
          omega))
        have hlt5 : (tog (wid xss) xss).length ≤ 1048576 := by simp [tog]; omega
        clear hy0
        generalize tog (wid xss) xss = ts at cT hq hlt5
        go_wp2_with (first | (go_at_call 65; refine cT.out.mono ?_; rintro e w1 ⟨A1, c1, rfl, ho, hb⟩) | (go_at_call 50; refine (l21Votes_any _ _ _ _ ho.ints hlt5).mono ?_; rintro e w' ⟨rfl, rfl⟩))
        go_ret
        exact ⟨ret_bool hq.out.symm, (below_drewN (Below.refl _ _) n).trans (by assumption)⟩
end Go.Proofs.Ytcddfibohcgjbaa
