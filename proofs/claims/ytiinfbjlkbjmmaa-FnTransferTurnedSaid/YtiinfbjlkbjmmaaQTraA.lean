/-
  TransferWinners: the program's.
-/
import Derived.Test.YtiinfbjlkbjmmaaQTraL
import Derived.Test.YtiinfbjlkbjmmaaQTraT
namespace Go.Proofs.Ytiinfbjlkbjmmaa
open Go.RowKit
set_option maxRecDepth 100000 in
theorem winT_snoc {rs : List Stp} {k : Nat} {xs : List Fr} {o t : Int} (h : rs[k]? = some (xs, o, t)) : winT (rs.take (k + 1)) = winT (rs.take k) ++ if t = 2 then [] else [o] := by
  unfold winT
  rw [take_snoc _ _ _ h, List.filter_append, List.map_append]
  by_cases ht : t = 2 <;> simp [ht]
set_option maxRecDepth 100000 in
theorem winT_len (rs : List Stp) : (winT rs).length ≤ rs.length := by
  unfold winT
  rw [List.length_map]
  exact List.length_filter_le _ _
set_option maxRecDepth 100000 in
set_option maxHeartbeats 3200000 in
theorem transferWinners_any (A A2 : Option Addr) (ps : List (ByteArray × Int)) (lots : List Int) (c c2 : Nat) (s : Int) (w : World) (h : PilesI w A ps) (h2 : Ints w A2 lots) (hl : ps.length ≤ 1048576) (hl2 : lots.length ≤ 1048576) (hcap : lots.length ≤ c2) :
    Calls Try.prog 23 #[.slice A ps.length c, .slice A2 lots.length c2, .int .i64 s] w (NewI w (winT (trF ps lots s).1)) := by
  have cT := Lib.hid (transferSteps_any A A2 ps lots c c2 s w h h2 hl hl2 hcap)
  obtain ⟨hs1, _⟩ := tr_small ps lots s
  generalize trF ps lots s = r at *
  obtain ⟨rs, b⟩ := r
  have hs1 : rs.length ≤ 5 := hs1
  show Calls _ _ _ _ (NewI w (winT rs))
  go_enter Try.func23, Try.ntmps23
  go_wp2_with fail
  refine cT.out.mono ?_
  rintro e w1 ⟨A', d, vs, rfl, ho, ev, hb1⟩
  have h' := ho.steps
  rw [ev] at h'
  have h' : StepsI w1 A' rs := h'
  clear ho ev
  have hz1 := hb1.size
  go_wp2
  go_loopw [9, 11, 21] (fun o _ i wr => ∃ (k m : Nat) (B : Option Addr) (d' : Nat), k ≤ rs.length ∧ m ≤ k ∧ i = .int .i64 k ∧ o = .slice B m d' ∧ OwnN wr w1.heap.size B m d' (winT (rs.take k)) ∧ Below w1.heap.size w1 wr) (fun _ _ i _ => rs.length - (intOf i).toNat)
  case atStart => exact ⟨0, 0, none, 0, by omega, by omega, rfl, rfl, OwnN.nil _ _, Below.refl _ _⟩
  case round =>
    obtain ⟨k, m, B, d', hk, hm, rfl, rfl, hown, hbel1⟩ := hrel
    have hsz := hbel1.size
    by_cases hlt : k < rs.length
    · obtain ⟨ad, C, cc, xs, o, t, rfl, hr, hxc, hxs, hc0, hc1, hc2⟩ := (h'.below hbel1).at_ hlt
      have q1 := ob0 wr #[.slice C xs.length cc, .int .i64 o, .int .i64 t] 68
      have k1 := q1.cell 1 rfl
      have k2 := q1.cell 2 rfl
      clear q1
      have hA1 : Below wr.heap.size wr (wr.alloc (.cells #[.slice C xs.length cc, .int .i64 o, .int .i64 t] 68)) := (Below.refl _ wr).alloc (Nat.le_refl _) _
      have hown1 := hown.below hA1
      have hbx2 := hbel1.trans (hA1.mono hsz)
      have hs2 := hbx2.size
      have HW := Lib.hid (winT_snoc hr.out)
      have HSZ := Lib.hid (show (wr.alloc (.cells #[.slice C xs.length cc, .int .i64 o, .int .i64 t] 68)).heap.size = wr.heap.size + 1 by simp)
      clear hA1
      by_cases ht : t = 2
      · subst ht
        have hw : winT (rs.take (k + 1)) = winT (rs.take k) := by have := HW.out; simpa using this
        have HW2 := Lib.hid hw
        clear hw
        go_wp2
        go_roundw
        case rel => exact ⟨k + 1, m, B, d', by omega, by omega, by go_num, rfl, hown1.congr HW2.out.symm, hbx2⟩
        case measure => simp [intOf]; omega
      · have hb : (t != 2) = true := by simp [ht]
        have hw : winT (rs.take (k + 1)) = winT (rs.take k) ++ [o] := by have := HW.out; rw [if_neg ht] at this; exact this
        have HW2 := Lib.hid hw
        clear hw
        go_wp2_with (at_builtin; refine wpList_app1 _ rfl (.tmp 28) (.tmp 31) rfl w1.heap.size B m d' _ rfl hown1 hs2 (by omega) o (by rw [HSZ.out]; rfl) ?_; intro B' d2 w' hown' hgr' hbl')
        go_roundw
        case rel => exact ⟨k + 1, m + 1, B', d2, by omega, by omega, by go_num, rfl, hown'.congr HW2.out.symm, hbx2.trans hbl'⟩
        case measure => simp [intOf]; omega
    · obtain rfl : k = rs.length := by omega
      clear hlt
      rw [List.take_length] at hown
      go_wp2
      go_ret
      exact newI_of hown.1 (hown.2.mono hz1) (below_down hb1 hbel1)
end Go.Proofs.Ytiinfbjlkbjmmaa
