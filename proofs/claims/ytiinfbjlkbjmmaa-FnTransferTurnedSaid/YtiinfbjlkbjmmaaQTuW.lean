/-
  TransferWinners: the reference's.
-/
import Derived.Test.YtiinfbjlkbjmmaaQTraA
namespace Go.Proofs.Ytiinfbjlkbjmmaa
open Go.RowKit
set_option maxRecDepth 100000 in
theorem OwnS.grownN {w w' : World} {base bi n c base' n' c' : Nat} {A A' : Option Addr} {vs : List Vst} {xs : List Int} (h : OwnS w base bi A n c vs) (hr : OwnN w base' A' n' c' xs) (hg : w.grownBy w' (Value.slice A' n' c').ownBlock) : OwnS w' base bi A n c vs := by
  refine ⟨h.len, World.ownsRow.kept h.row hg ?_, fun v hv => (h.own v hv).grown hg (fun k hk e => own_ne hr.row (h.own v hv).row (by decide) hk e)⟩
  cases hv : (Value.slice A n c).ownBlock with
  | none => exact .inl rfl
  | some b => exact .inr (fun e => own_ne hr.row h.row (by decide) e.symm hv)
set_option maxRecDepth 100000 in
set_option maxHeartbeats 3200000 in
theorem specTransferWinners_any (A A2 : Option Addr) (ps : List (ByteArray × Int)) (lots : List Int) (c c2 : Nat) (s : Int) (w : World) (h : PilesI w A ps) (h2 : Ints w A2 lots) (hl : ps.length ≤ 1048576) (hl2 : lots.length ≤ 1048576) (hcap : lots.length ≤ c2) :
    Calls Try.prog 27 #[.slice A ps.length c, .slice A2 lots.length c2, .int .i64 s] w (NewI w (winT (trF ps lots s).1)) := by
  have hA1 : Below w.heap.size w (w.alloc (.cells #[] 3)) := (Below.refl _ w).alloc (Nat.le_refl _) _
  have cV := Lib.hid (l15Ok_any A A2 ps lots c c2 s _ (h.below hA1) (h2.below hA1) hl hl2 hcap)
  obtain ⟨hs1, _⟩ := tr_small ps lots s
  have hO0 := OwnN.empty w (Nat.le_refl w.heap.size)
  cases hv : trOk ps lots s
  · rw [hv] at cV
    have hq := Lib.hid (tr_f hv)
    go_enter Try.func27, Try.ntmps27
    go_wp2_with (go_at_call 52; refine cV.out.mono ?_; rintro e w1 ⟨rfl, hb1⟩)
    go_ret
    have hO1 := hO0.below hb1
    rw [hq.out]
    exact newI_of hO1.1 hO1.2 (hA1.trans (hb1.mono hA1.size))
  · rw [hv] at cV
    have hq := tr_t hv
    obtain ⟨h1, hf, ⟨hn1, hn2, hn3⟩, ht⟩ := trOk_iff.1 hv
    obtain ⟨n, rfl⟩ := Int.eq_ofNat_of_zero_le (show 0 ≤ s by omega)
    rw [Int.toNat_natCast] at hq
    rw [hq] at hs1 ⊢
    have hs1 : (startT ps lots n).length ≤ 5 := hs1
    have cS := Lib.hid (fun w (h : PilesI w A ps) (h2 : Ints w A2 lots) => l15Steps_any A A2 ps lots c c2 n w h h2 (Lib.hid (fitOk_of hf)) (Lib.hid h1) (by omega) (by omega) (by omega) (Lib.hid ht))
    show Calls _ _ _ _ (NewI w (winT (startT ps lots n)))
    generalize startT ps lots n = rs at *
    clear hv h1 hf ht hq
    have HA := Lib.hid h
    have HA2 := Lib.hid h2
    go_enter Try.func27, Try.ntmps27
    go_wp2_with (go_at_call 52; refine cV.out.mono ?_; rintro e w1 ⟨rfl, hb1⟩)
    have hO1 := hO0.below hb1
    have hB1 := hA1.trans (hb1.mono hA1.size)
    clear hO0 hb1 hA1 cV
    refine (cS.out w1 (HA.out.below hB1) (HA2.out.below hB1)).mono ?_
    rintro e w2 ⟨A3, c3, vs, rfl, ho, ev, hb2⟩
    have hO2 := hO1.below hb2
    have hB2 := below_down hB1 hb2
    have EV := Lib.hid ev
    clear cS hO1 hb2 ev
    go_wp2
    go_loopw [7, 9] (fun o i wr => ∃ (k m : Nat) (B : Option Addr) (d' : Nat), k ≤ rs.length ∧ m ≤ k ∧ i = .int .i64 k ∧ o = .slice B m d' ∧ OwnN wr w.heap.size B m d' (winT (rs.take k)) ∧ OwnS wr w1.heap.size w1.heap.size A3 rs.length c3 vs ∧ Below w.heap.size w wr) (fun _ i _ => rs.length - (intOf i).toNat)
    case atStart => exact ⟨0, 0, _, _, by omega, by omega, rfl, rfl, hO2, ho, hB2⟩
    case round =>
      clear hO2 ho hB2
      obtain ⟨k, m, B, d', hk, hm, rfl, rfl, hown, ho, hbel⟩ := hrel
      have hsz := hbel.size
      by_cases hlt : k < rs.length
      · have hst := ho.steps
        rw [EV.out] at hst
        obtain ⟨ad, C, cc, xs, o, t, rfl, hr, hxc, hxs, hc0, hc1, hc2⟩ := hst.at_ hlt
        have HW := Lib.hid (winT_snoc hr.out)
        clear hst hxs hxc hc0
        by_cases ht : t = 2
        · subst ht
          have hw : winT (rs.take (k + 1)) = winT (rs.take k) := by have := HW.out; simpa using this
          have HW2 := Lib.hid hw
          clear hw
          go_wp2
          go_roundw
          case rel => exact ⟨k + 1, m, B, d', by omega, by omega, by go_num, rfl, hown.congr HW2.out.symm, ho, hbel⟩
          case measure => simp [intOf]; omega
        · have hb : (t != 2) = true := by simp [ht]
          have hw : winT (rs.take (k + 1)) = winT (rs.take k) ++ [o] := by have := HW.out; rw [if_neg ht] at this; exact this
          have HW2 := Lib.hid hw
          have HO := Lib.hid ho
          clear hw ho
          go_wp2_with (at_builtin; refine wpList_app1 _ rfl (.tmp 33) (.tmp 39) rfl w.heap.size B m d' _ rfl hown hsz (by omega) o rfl ?_; intro B' d2 w' hown' hgr' hbl')
          go_roundw
          case rel => exact ⟨k + 1, m + 1, B', d2, by omega, by omega, by go_num, rfl, hown'.congr HW2.out.symm, HO.out.grownN hown hgr', hbel.trans hbl'⟩
          case measure => simp [intOf]; omega
      · obtain rfl : k = rs.length := by omega
        clear hlt
        rw [List.take_length] at hown
        go_wp2
        go_ret
        exact newI_of hown.1 hown.2 hbel
end Go.Proofs.Ytiinfbjlkbjmmaa
