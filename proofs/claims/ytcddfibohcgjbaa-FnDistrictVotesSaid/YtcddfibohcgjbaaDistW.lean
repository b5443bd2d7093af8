/-
  The votes of all districts together, where the districts are valid.
-/
import Derived.Test.YtcddfibohcgjbaaDistV
import Derived.Test.YtcddfibohcgjbaaShare
namespace Go.Proofs.Ytcddfibohcgjbaa
open Go.RowKit
def dvF (xss : List (List Int)) : List Int × Bool := if dvB xss = true then (tog (wid xss) xss, true) else ([], false)
theorem dvF_t {xss : List (List Int)} (h : dvB xss = true) : dvF xss = (tog (wid xss) xss, true) := if_pos h
theorem dvF_f {xss : List (List Int)} (h : dvB xss = false) : dvF xss = ([], false) := by unfold dvF; rw [h]; rfl
theorem tog_len (n : Nat) (xss : List (List Int)) : (tog n xss).length = n := by simp [tog]
/-- What valid districts are. -/
structure DvOk (xss : List (List Int)) : Prop where
  l1 : 1 ≤ xss.length ∧ xss.length ≤ 4
  row : ∀ xs ∈ xss, vv xs = true
  len : ∀ xs ∈ xss, xs.length = wid xss
  bd : ∀ xs ∈ xss, ∀ x ∈ xs, 0 ≤ x ∧ x ≤ 1000000
  all : vv (tog (wid xss) xss) = true
  wd : 1 ≤ wid xss ∧ wid xss ≤ 5
theorem dvOk_of {xss : List (List Int)} (h : dvB xss = true) : DvOk xss := by
  obtain ⟨h1, h2, h3⟩ := dvB_iff.1 h
  have hw := (vv_iff.1 h3).2.1
  rw [tog_len] at hw
  exact ⟨h1, fun xs hx => (h2 xs hx).1, fun xs hx => (h2 xs hx).2, fun xs hx x hxx => by have := (vv_iff.1 (h2 xs hx).1).1 x hxx; omega, h3, hw⟩
set_option maxHeartbeats 400000 in
theorem implDVotes_any (A : Option Addr) (xss : List (List Int)) (c : Nat) (w : World) (h : RowsI w A xss) (hl : tot xss ≤ 1048576) :
    Calls Try.prog 31 #[.slice A xss.length c] w (NewIB w (dvF xss)) := by
  have cD := Lib.hid (implDV_any A xss c w h hl)
  have HT := Lib.hid hl
  clear hl
  cases hd : dvB xss
  · have hq := Lib.hid (dvF_f hd)
    rw [hd] at cD
    go_enter Try.func31, Try.ntmps31
    go_wp2_with (go_at_call 66; refine cD.out.mono ?_; rintro e w1 ⟨rfl, hb1⟩)
    go_ret2
    exact newIB_of hq.out rfl (OwnI.nil _ _) hb1
  · have hq := Lib.hid (dvF_t hd)
    have o := dvOk_of hd
    have hw5 := o.wd.2
    have hx4 := o.l1
    have cT := Lib.hid (fun (w : World) (h : RowsI w A xss) => together_any A xss c (wid xss) w h (by omega) (by omega) (by omega) o.len o.bd)
    have HL := Lib.hid (tog_len (wid xss) xss)
    rw [hd] at cD
    go_enter Try.func31, Try.ntmps31
    go_wp2_with (first | (go_at_call 66; refine cD.out.mono ?_; rintro e w1 ⟨rfl, hb1⟩) | (go_at_call 67; refine (cT.out _ (h.below hb1)).mono ?_; rintro e w2 ⟨A2, c2, rfl, ho2, hb2⟩))
    go_ret2
    exact newIB_of hq.out rfl (ho2.mono hb1.size) (hb1.trans (hb2.mono hb1.size))
set_option maxHeartbeats 400000 in
theorem specDVotes_any (A : Option Addr) (xss : List (List Int)) (c : Nat) (w : World) (h : RowsI w A xss) (hl : tot xss ≤ 1048576) :
    Calls Try.prog 29 #[.slice A xss.length c] w (NewIB w (dvF xss)) := by
  have cD := Lib.hid (specDV_any A xss c w h hl)
  have HT := Lib.hid hl
  clear hl
  cases hd : dvB xss
  · have hq := Lib.hid (dvF_f hd)
    rw [hd] at cD
    go_enter Try.func29, Try.ntmps29
    go_wp2_with (go_at_call 64; refine cD.out.mono ?_; rintro e w1 ⟨rfl, hb1⟩)
    go_ret2
    exact newIB_of hq.out rfl (own_empty w1 hb1.size) (hb1.alloc hb1.size _)
  · have hq := Lib.hid (dvF_t hd)
    have o := dvOk_of hd
    have hw5 := o.wd.2
    have hx4 := o.l1
    have cT := Lib.hid (fun (w : World) (h : RowsI w A xss) => l24Votes_any A xss c (wid xss) w h (by omega) (by omega) (by omega) o.len o.bd)
    have HL := Lib.hid (tog_len (wid xss) xss)
    rw [hd] at cD
    go_enter Try.func29, Try.ntmps29
    go_wp2_with (first | (go_at_call 64; refine cD.out.mono ?_; rintro e w1 ⟨rfl, hb1⟩) | (go_at_call 65; refine (cT.out _ (h.below hb1)).mono ?_; rintro e w2 ⟨A2, c2, rfl, ho2, hb2⟩))
    go_ret2
    exact newIB_of hq.out rfl (ho2.mono hb1.size) (hb1.trans (hb2.mono hb1.size))
end Go.Proofs.Ytcddfibohcgjbaa
