/-
  The program's winner of a runoff.
-/
import Derived.Test.YtiinfbjlkbjmmaaQRunO
import Derived.Test.YtiinfbjlkbjmmaaQShare
import Derived.Lib.Walk
namespace Go.Proofs.Ytiinfbjlkbjmmaa
open Go.RowKit
set_option maxRecDepth 100000 in
set_option maxHeartbeats 800000 in
theorem sClone_any (ad : Addr) (xs : List Int) (c : Nat) (w : World) (h : Ints w (some ad) xs) (hl : xs.length ≤ 1048576) :
    Calls Try.prog 58 #[.slice (some ad) xs.length c] w (NewI w xs) := by
  have q22 : ∀ (w : World) (a : Option Addr) (n c n' c' : Nat), (binOp .eql 23 (.slice a n c) (.slice none n' c')).run Try.prog w = .ok (.bool a.isNone) w := fun w a n c n' c' => Lib.run_eql_slice_nil w _ _ a n c n' c' Try.underlying23
  go_enter Try.func58, Try.ntmps58
  go_wp2_with (at_builtin; refine wpList_appN _ rfl (.tmp 5) (.tmp 6) rfl w.heap.size (some ⟨w.heap.size, 0, none⟩) 0 0 [] rfl ⟨rfl, own_empty w (Nat.le_refl _)⟩ (by simp) (by omega) ad xs xs.length c rfl rfl (by omega) (h.alloc _) ?_; intro A' c' w' h1 hg1 hb1)
  go_ret
  rw [Nat.zero_add] at h1
  exact newI_mk (h1.congr (List.nil_append _)) (((Below.refl _ _).alloc (Nat.le_refl _) _).trans hb1)
set_option maxRecDepth 100000 in
set_option maxHeartbeats 1600000 in
theorem runoffWinner_any (A A2 : Option Addr) (ps : List (ByteArray × Int)) (lots : List Int) (c c2 : Nat) (w : World) (h : PilesI w A ps) (h2 : Ints w A2 lots) (hl : ps.length ≤ 1048576) (hl2 : lots.length ≤ 1000000) (hcap : lots.length ≤ c2) :
    Calls Try.prog 25 #[.slice A ps.length c, .slice A2 lots.length c2] w (Bl w (.int .i64 (rwF ps lots))) := by
  have cR := Lib.hid (runoffRounds_any A A2 ps lots c c2 w h h2 hl hl2 hcap)
  cases hv : (lv lots && fitV ps lots.length)
  · have hq := Lib.hid (rw_f hv)
    rw [rr_f hv] at cR
    go_enter Try.func25, Try.ntmps25
    go_wp2_with (go_at_call 57; refine cR.out.mono ?_; rintro e w1 ⟨A3, c3, rfl, ho3, hc3, hb1⟩)
    go_ret
    exact ⟨ret_int hq.out.symm, hb1⟩
  · have hq := rw_t hv
    rw [rr_t hv] at cR
    have hv2 := hv
    simp only [Bool.and_eq_true] at hv2
    obtain ⟨hlv, hfit⟩ := hv2
    have HF := fitOk_of hfit
    obtain ⟨init, hrs, hin, hth⟩ := rounds_form0 (ps := pl ps) hlv
    have HQ := Lib.hid (hq.trans (by rw [hrs, winF_form]))
    have hlr : Hid (∀ l ∈ lots, 0 ≤ l ∧ l < (lots.length : Int)) := Lib.hid (fun l hl => by have := (lv_iff.1 hlv).2.1 l hl; omega)
    have hl1 : 0 < lots.length := HF.n1
    have hl5 : lots.length ≤ 5 := HF.n5
    have hcl : (cntL (leftSet (List.replicate lots.length false) (init.map Prod.snd)) (pl ps)).length = lots.length := by rw [cntL_len, leftSet_len]; simp
    rw [hrs] at cR
    have hrl0 := rounds_le5 (ps := pl ps) (lots := lots) lots.length (List.replicate lots.length false)
    rw [hrs] at hrl0
    clear hrs hq hv hlv hfit HF hth
    generalize cntL (leftSet (List.replicate lots.length false) (init.map Prod.snd)) (pl ps) = cs at *
    obtain ⟨m, hm⟩ : ∃ m, m = init.length := ⟨_, rfl⟩
    have hrl : (init ++ [(cs, (-1 : Int))]).length = m + 1 := by simp [hm]
    have HR0 := Lib.hid (show (init ++ [(cs, (-1 : Int))])[m]? = some (cs, -1) from by rw [hm]; simp)
    have HRK := Lib.hid (show ∀ k : Nat, k < m → ∃ xs, ∃ q : Nat, (init ++ [(cs, (-1 : Int))])[k]? = some (xs, (q : Int)) ∧ (init.map Prod.snd)[k]? = some (q : Int) ∧ q < lots.length from fun k hk => by
      have hk2 : k < init.length := by omega
      obtain ⟨q, h1, h2⟩ := hin init[k] (List.getElem_mem hk2)
      refine ⟨init[k].1, q, ?_, ?_, h2⟩
      · rw [List.getElem?_append_left hk2, List.getElem?_eq_getElem hk2, ← h1]
      · rw [List.getElem?_map, List.getElem?_eq_getElem hk2, ← h1]; rfl)
    have HML := Lib.hid (show (init.map Prod.snd).length = m from by rw [hm]; simp)
    have HRL := Lib.hid hrl
    have hm5 : m + 1 ≤ 5 := by rw [hrl] at hrl0; omega
    clear hrl0
    have HCL := Lib.hid hcl
    have cR3 := Lib.hid (cR.out.mono (R' := fun e w' => ∃ A c, e = .returned (.tuple #[.slice A (m + 1) c, .bool true]) ∧ RoundsI w' A (init ++ [(cs, (-1 : Int))]) ∧ m + 1 ≤ c ∧ Below w.heap.size w w') (by
      rintro e w' ⟨A, c, he, h1, h2, h3⟩
      exact ⟨A, c, by rw [he, ← hrl], h1, by rw [← hrl]; exact h2, h3⟩))
    clear hm hrl hin cR
    generalize init ++ [(cs, (-1 : Int))] = rs at *
    generalize init.map Prod.snd = os at *
    have hc5 : cs.length ≤ 5 := by omega
    have hc0 : 0 < cs.length := by omega
    clear hcl
    have hmi : ((m + 1 : Nat) : Int) - 1 = (m : Int) := by omega
    go_enter Try.func25, Try.ntmps25
    go_wp2_with fail
    refine cR3.out.mono ?_
    rintro e w1 ⟨A3, c3, rfl, ho3, hc3, hb1⟩
    obtain ⟨ad, B, d, xs, o, rfl, hr, hx5, hxd, hx, hk0, hk1⟩ := ho3.at_ (k := m) (by have := HRL.out; omega)
    obtain ⟨rfl, rfl⟩ : cs = xs ∧ -1 = o := by
      have := hr.out.symm.trans HR0.out
      injection this with this
      injection this with h1 h2
      exact ⟨h1.symm, h2.symm⟩
    obtain ⟨adB, x0, rfl, hx0, hcx0⟩ := hx.at_ hc0
    clear hx0 hcx0 hr hk1
    have cC := Lib.hid (sClone_any adB cs d w1 hx (by omega))
    go_wp2_with fail
    refine cC.out.mono ?_
    rintro e w2 ⟨B2, d2, rfl, ho2, hb2⟩
    obtain ⟨g, rfl, hg0, hg1⟩ := ho2.form hc0
    clear cC cR3 hk0
    have hmc : m ≤ c3 := by omega
    have hm0 : (0 : Int) ≤ (m : Int) := by omega
    go_wp2_with fail
    go_loopw [9, 32] (fun _ i wr => ∃ k : Nat, k ≤ m ∧ i = .int .i64 k ∧ OwnN wr w1.heap.size (some ⟨g, 0, none⟩) cs.length d2 (outSet cs (os.take k)) ∧ Below w1.heap.size w1 wr) (fun _ i _ => m - (intOf i).toNat)
    case atStart => exact ⟨0, by omega, rfl, ⟨by simp [outSet], ho2⟩, hb2⟩
    case round =>
      clear ho2 hb2 hg1
      obtain ⟨k, hk, rfl, hown, hbel⟩ := hrel
      have hsz := hbel.size
      by_cases hlt : k < m
      · obtain ⟨xs1, q, hq1, hq2, hq3⟩ := HRK.out k hlt
        obtain ⟨ad', B', d', xs', o', hA, hr', hx5', hxd', hx', hk0, hk1⟩ := (ho3.below hbel).at_ (k := k) (by have := HRL.out; omega)
        obtain rfl : ad = ad' := by injection hA
        obtain rfl : (q : Int) = o' := by
          have := hr'.out.symm.trans hq1
          injection this with this
          injection this with h1 h2
          exact h2.symm
        have HS := Lib.hid (outSet_snoc (cs := cs) hq2)
        have hqc : q < cs.length := by have := HCL.out; omega
        have hownA := OwnN.alloc hown (.cells #[.slice B' xs'.length d', .int .i64 (q : Int)] 96)
        have hfz := hownA.frozenX q
        obtain ⟨y, hy⟩ : ∃ y, (outSet cs (os.take k))[q]? = some y := ⟨_, List.getElem?_eq_getElem (by rw [outSet_len]; exact hqc)⟩
        have hcy := hownA.cellX hy
        clear hA hr' hq1 hq2 hy hx' hx5' hxd'
        go_wp2
        go_roundw
        case rel => exact ⟨k + 1, by omega, by go_num, (OwnN.setX hownA q (-1)).congr (by rw [HS.out]; rfl), (hbel.alloc hsz _).setCell hg0 _⟩
        case measure => simp [intOf]; omega
      · obtain rfl : k = m := by omega
        clear hlt
        rw [← HML.out, List.take_length] at hown
        have cG := Lib.hid (greatest_any (some ⟨g, 0, none⟩) A2 (outSet cs os) lots cs.length lots.length d2 c2 wr hown.2.ints ((h2.below hb1).below hbel) hl1 (by omega) (Lib.hid (fun l hl => by have := hlr.out l hl; rw [outSet_len, HCL.out]; exact this)) (outSet_len _ _).symm rfl)
        go_wp2_with (go_at_call 59; refine cG.out.mono ?_; rintro e w4 ⟨rfl, n4, rfl⟩)
        go_ret
        exact ⟨ret_int HQ.out.symm, below_drewN (below_down hb1 hbel) _⟩
end Go.Proofs.Ytiinfbjlkbjmmaa
