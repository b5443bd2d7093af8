/-
  The reference's way to find who leaves in a round.
-/
import Derived.Test.YthngafmnkihkgaaRun
namespace Go.Proofs.Ythngafmnkihkgaa
open Go.RowKit
def negL (xs : List Int) : List Int := xs.map fun x => -x
theorem negL_snoc {xs : List Int} {k : Nat} {x : Int} (h : xs[k]? = some x) : negL (xs.take (k + 1)) = negL (xs.take k) ++ [-x] := by
  unfold negL
  rw [take_snoc _ _ _ h, List.map_append]; rfl
theorem negL_len (xs : List Int) : (negL xs).length = xs.length := by simp [negL]
theorem negL_at {xs : List Int} {k : Nat} {x : Int} (h : xs[k]? = some x) : (negL xs)[k]? = some (-x) := by simp [negL, h]
/-- The first of those still there before k who has the least count. -/
def LeastTo (cs : List Int) (left : List Bool) (k : Nat) (b : Int) : Prop :=
  (b = -1 ∧ ∀ j : Nat, j < k → atB left (j : Int) = true) ∨ (∃ q : Nat, b = (q : Int) ∧ q < k ∧ atB left (q : Int) = false ∧ ∀ j : Nat, j < k → atB left (j : Int) = false → atI cs (q : Int) ≤ atI cs (j : Int))
theorem leastTo_skip {cs : List Int} {left : List Bool} {k : Nat} {b : Int} (h : LeastTo cs left k b) (hk : left[k]? = some true) : LeastTo cs left (k + 1) b := by
  have hk2 := atB_at hk
  rcases h with ⟨rfl, h⟩ | ⟨q, rfl, hq, ha, h⟩
  · refine .inl ⟨rfl, fun j hj => ?_⟩
    by_cases e : j = k
    · subst e; exact hk2
    · exact h j (by omega)
  · refine .inr ⟨q, rfl, by omega, ha, fun j hj hja => ?_⟩
    by_cases e : j = k
    · subst e; rw [hk2] at hja; cases hja
    · exact h j (by omega) hja
theorem leastTo_first {cs : List Int} {left : List Bool} {k : Nat} (h : ∀ j : Nat, j < k → atB left (j : Int) = true) (hk : left[k]? = some false) : LeastTo cs left (k + 1) (k : Int) := by
  refine .inr ⟨k, rfl, by omega, atB_at hk, fun j hj hja => ?_⟩
  by_cases e : j = k
  · subst e; exact Int.le_refl _
  · rw [h j (by omega)] at hja; cases hja
theorem leastTo_take {cs : List Int} {left : List Bool} {k q : Nat} {x y : Int} (h : ∀ j : Nat, j < k → atB left (j : Int) = false → atI cs (q : Int) ≤ atI cs (j : Int)) (hk : left[k]? = some false) (hx : cs[k]? = some x) (hy : cs[q]? = some y) (hl : x < y) : LeastTo cs left (k + 1) (k : Int) := by
  refine .inr ⟨k, rfl, by omega, atB_at hk, fun j hj hja => ?_⟩
  by_cases e : j = k
  · subst e; exact Int.le_refl _
  · have := h j (by omega) hja
    rw [atI_at hx]; rw [atI_at hy] at this; omega
theorem leastTo_keep {cs : List Int} {left : List Bool} {k q : Nat} {x y : Int} (hq : q < k) (ha : atB left (q : Int) = false) (h : ∀ j : Nat, j < k → atB left (j : Int) = false → atI cs (q : Int) ≤ atI cs (j : Int)) (hx : cs[k]? = some x) (hy : cs[q]? = some y) (hl : ¬x < y) : LeastTo cs left (k + 1) (q : Int) := by
  refine .inr ⟨q, rfl, by omega, ha, fun j hj hja => ?_⟩
  by_cases e : j = k
  · subst e; rw [atI_at hx, atI_at hy]; omega
  · exact h j (by omega) hja
theorem leastTo_end {cs : List Int} {left : List Bool} {b : Int} (h : LeastTo cs left left.length b) (ht : 1 ≤ thereL left) : ∃ q : Nat, b = (q : Int) ∧ q < left.length ∧ atB left (q : Int) = false ∧ ∀ j : Nat, j < left.length → atB left (j : Int) = false → atI cs (q : Int) ≤ atI cs (j : Int) := by
  rcases h with ⟨_, h⟩ | h
  · obtain ⟨k, hk⟩ := thereL_pos ht
    have := h k (List.getElem?_eq_some_iff.1 hk).1
    rw [atB_at hk] at this
    cases this
  · exact h
theorem stepE_l {cs : List Int} {left : List Bool} {b : Int} {p : Nat} (hp : left[p]? = some true) : stepE cs left b (p : Int) = b := if_neg (fun h => by rw [atB_at hp] at h; cases h.1)
theorem stepE_t {cs : List Int} {left : List Bool} {b p : Nat} {x : Int} (hp : left[p]? = some false) (hx : cs[p]? = some x) (hy : cs[b]? = some x) : stepE cs left (b : Int) (p : Int) = (p : Int) := if_pos ⟨atB_at hp, by rw [atI_at hx, atI_at hy]⟩
theorem stepE_f {cs : List Int} {left : List Bool} {b p : Nat} {x y : Int} (hx : cs[p]? = some x) (hy : cs[b]? = some y) (h : ¬x = y) : stepE cs left (b : Int) (p : Int) = (b : Int) := if_neg (fun hh => h (by rw [← atI_at hx, ← atI_at hy]; exact hh.2))
set_option maxRecDepth 100000 in
set_option maxHeartbeats 3200000 in
theorem l12Least_any (A A' A2 : Option Addr) (cs lots : List Int) (left : List Bool) (c c' c2 : Nat) (w : World) (h : Ints w A cs) (h' : Bools w A' left) (h2 : Ints w A2 lots) (hle : Hid (left.length = cs.length)) (hlo : Hid (lots.length = cs.length)) (hn5 : cs.length ≤ 5) (hb : Hid (∀ x ∈ cs, 0 ≤ x ∧ x ≤ 1188)) (hv : Hid (lv lots = true)) (ht : Hid (1 ≤ thereL left)) :
    Calls Try.prog 83 #[.slice A cs.length c, .slice A' left.length c', .slice A2 lots.length c2] w (Bl w (.int .i64 (leastF cs left lots))) := by
  have hlo5 : lots.length ≤ 5 := by have := hlo.out; omega
  go_enter Try.func83, Try.ntmps83
  go_wp2
  go_loopw [7, 8] (fun o i wr => ∃ (k : Nat) (B : Option Addr) (d : Nat), k ≤ cs.length ∧ i = .int .i64 k ∧ o = .slice B k d ∧ OwnN wr w.heap.size B k d (negL (cs.take k)) ∧ Below w.heap.size w wr) (fun _ i _ => cs.length - (intOf i).toNat)
  case atStart => exact ⟨0, _, _, by omega, rfl, rfl, OwnN.empty _ (Nat.le_refl _), (Below.refl _ _).alloc (Nat.le_refl _) _⟩
  case round =>
    obtain ⟨k, B, d, hk, rfl, rfl, hown, hbel⟩ := hrel
    have hsz := hbel.size
    by_cases hlt : k < cs.length
    · obtain ⟨ad, x, rfl, hx, hc⟩ := (h.below hbel).at_ hlt
      obtain ⟨hx0, hx1⟩ := hb.out x (mem_of_at hx.out)
      have hn := Lib.hid (negL_snoc hx.out)
      have hwr : IntKind.i64.wrap (-x) = -x := IntWalk.i64_in _ (by omega)
      go_wp2_with (at_builtin; refine wpList_app1 _ rfl (.tmp 19) (.tmp 25) rfl w.heap.size B k d _ rfl hown hsz (by omega) (-x) rfl ?_; intro A' c' w' hown' hgr' hbl')
      go_roundw
      case rel => exact ⟨k + 1, _, _, by omega, by go_num, rfl, ⟨by rw [hn.out]; exact hown'.1, hown'.2.congr hn.out.symm⟩, hbel.trans hbl'⟩
      case measure => simp [intOf]; omega
    · obtain rfl : k = cs.length := by omega
      clear hlt hk
      have hT : Ints wr B (negL cs) := by have := hown.2.ints; rwa [List.take_length] at this
      have hC := h.below hbel
      have hL := h'.below hbel
      have hO := h2.below hbel
      clear hown
      go_wp2
      go_loopw [9, 10] (fun b i ws => ∃ (k m : Nat) (z : Int), k ≤ cs.length ∧ i = .int .i64 k ∧ b = .int .i64 z ∧ LeastTo cs left k z ∧ ws = wr.drewN m) (fun _ i _ => cs.length - (intOf i).toNat)
      case atStart => exact ⟨0, 0, -1, by omega, rfl, rfl, .inl ⟨rfl, fun j hj => absurd hj (by omega)⟩, rfl⟩
      case round =>
        obtain ⟨k, m, z, hk, rfl, rfl, hz, rfl⟩ := hrel
        by_cases hlt : k < cs.length
        · obtain ⟨ad, x, e1, hx, hcx⟩ := hC.at_ hlt
          clear e1 hcx
          obtain ⟨ad2, bk, e2, hy, hc2⟩ := hL.at_ (show k < left.length by have := hle.out; omega)
          obtain ⟨ad3, t, e3, htt, hc3⟩ := hT.at_ (show k < (negL cs).length by rw [negL_len]; exact hlt)
          subst e2
          subst e3
          obtain rfl : t = -x := by have := htt.out; rw [negL_at hx.out] at this; injection this with this; exact this.symm
          obtain ⟨hx0, hx1⟩ := hb.out x (mem_of_at hx.out)
          have hkl : k < left.length := by have := hle.out; omega
          clear htt
          cases bk
          · rcases hz with ⟨rfl, hz⟩ | ⟨q, rfl, hq, ha, hz⟩
            · have HZ := Lib.hid (leastTo_first (cs := cs) hz hy.out)
              clear hz
              go_wp2
              go_quiet (fail)
              go_wp2
              go_roundw
              case rel => exact ⟨k + 1, _, _, by omega, by go_num, rfl, HZ.out, rfl⟩
              case measure => simp [intOf]; omega
            · obtain ⟨ad5, y, e5, hyq, hcy⟩ := hC.at_ (show q < cs.length by omega)
              clear e5 hcy
              obtain ⟨ad4, t, e4, htt, hc4⟩ := hT.at_ (show q < (negL cs).length by rw [negL_len]; omega)
              obtain rfl : ad3 = ad4 := by injection e4
              obtain rfl : t = -y := by have := htt.out; rw [negL_at hyq.out] at this; injection this with this; exact this.symm
              obtain ⟨hy0, hy1⟩ := hb.out y (mem_of_at hyq.out)
              have hql : q < cs.length := by omega
              clear htt e4
              by_cases hxy : x < y
              · have HZ := Lib.hid (leastTo_take hz hy.out hx.out hyq.out hxy)
                have hd : (-y) < (-x) := by omega
                clear hz ha
                go_wp2
                go_quiet (fail)
                go_wp2
                go_roundw
                case rel => exact ⟨k + 1, _, _, by omega, by go_num, rfl, HZ.out, rfl⟩
                case measure => simp [intOf]; omega
              · have HZ := Lib.hid (leastTo_keep hq ha hz hx.out hyq.out hxy)
                have hd : ¬(-y) < (-x) := by omega
                clear hz ha
                go_wp2
                go_quiet (fail)
                go_wp2
                go_roundw
                case rel => exact ⟨k + 1, _, _, by omega, by go_num, rfl, HZ.out, rfl⟩
                case measure => simp [intOf]; omega
          · have HZ := Lib.hid (leastTo_skip hz hy.out)
            clear hz
            go_wp2
            go_quiet (fail)
            go_wp2
            go_roundw
            case rel => exact ⟨k + 1, _, _, by omega, by go_num, rfl, HZ.out, rfl⟩
            case measure => simp [intOf]; omega
        · obtain rfl : k = cs.length := by omega
          clear hlt hk
          rw [← hle.out] at hz
          obtain ⟨q, rfl, hq, ha, hz⟩ := leastTo_end hz ht.out
          have hqc : q < cs.length := by have := hle.out; omega
          have HF := Lib.hid (least_two (cs := cs) (left := left) (ls := lots) (b0 := (q : Int)) (fun l hl => ((lv_iff.1 hv.out).2.1 l hl).1) (lots_all hv.out (by have := hlo.out; omega)) ha (fun l hl hla => by
            have h3 := (lv_iff.1 hv.out).2.1 l hl
            have h4 := hlo.out
            have h5 := hle.out
            have := hz l.toNat (by omega) (by rw [Int.toNat_of_nonneg h3.1]; exact hla)
            rwa [Int.toNat_of_nonneg h3.1] at this))
          clear hz ha hq
          go_wp2
          go_loopw [9, 11] (fun b i ws => ∃ k p m1 : Nat, k ≤ lots.length ∧ i = .int .i64 k ∧ b = .int .i64 p ∧ p < cs.length ∧ Hid ((lots.take k).foldl (stepE cs left) (q : Int) = (p : Int)) ∧ ws = wr.drewN m1) (fun _ i _ => lots.length - (intOf i).toNat)
          case atStart => exact ⟨0, q, m, by omega, rfl, rfl, hqc, Lib.hid rfl, rfl⟩
          case round =>
            obtain ⟨k, b, m1, hk, rfl, rfl, hbl, hs, rfl⟩ := hrel
            by_cases hlt : k < lots.length
            · obtain ⟨ad3, l, e3, hl, hcl⟩ := hO.at_ hlt
              subst e3
              have hr := (lv_iff.1 hv.out).2.1 l (mem_of_at hl.out)
              obtain ⟨p, rfl⟩ := Int.eq_ofNat_of_zero_le hr.1
              have hp : p < cs.length := by have := hr.2; have := hlo.out; omega
              have hpl : p < left.length := by have := hle.out; omega
              clear hr
              obtain ⟨ad2, bk, e2, hyb, hc2⟩ := hL.at_ hpl
              subst e2
              obtain ⟨ad, x, e1, hx, cx⟩ := hC.at_ hp
              subst e1
              obtain ⟨ad', y, e6, hy, cy⟩ := hC.at_ hbl
              obtain rfl : ad = ad' := by injection e6
              clear e6
              cases bk
              · by_cases hxy : x = y
                · subst hxy
                  have hq := Lib.hid ((fold_snoc (f := stepE cs left) (a := (q : Int)) hl.out).trans (by rw [hs.out, stepE_t hyb.out hx.out hy.out]))
                  go_wp2
                  go_quiet (fail)
                  go_wp2
                  go_roundw
                  case rel => exact ⟨k + 1, p, _, by omega, by go_num, rfl, hp, hq, rfl⟩
                  case measure => simp [intOf]; omega
                · have hq := Lib.hid ((fold_snoc (f := stepE cs left) (a := (q : Int)) hl.out).trans (by rw [hs.out, stepE_f hx.out hy.out hxy]))
                  go_wp2
                  go_quiet (fail)
                  go_wp2
                  go_roundw
                  case rel => exact ⟨k + 1, b, _, by omega, by go_num, rfl, hbl, hq, rfl⟩
                  case measure => simp [intOf]; omega
              · have hq := Lib.hid ((fold_snoc (f := stepE cs left) (a := (q : Int)) hl.out).trans (by rw [hs.out, stepE_l hyb.out]))
                go_wp2
                go_quiet (fail)
                go_wp2
                go_roundw
                case rel => exact ⟨k + 1, b, _, by omega, by go_num, rfl, hbl, hq, rfl⟩
                case measure => simp [intOf]; omega
            · have hk2 : lots.length ≤ k := by omega
              clear hlt
              go_wp2
              go_ret
              refine ⟨ret_int ?_, below_drewN hbel _⟩
              have := hs.out
              rw [List.take_of_length_le hk2, HF.out] at this
              exact this.symm
end Go.Proofs.Ythngafmnkihkgaa
