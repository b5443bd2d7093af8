/-
  Seats by divisors of the reference.
-/
import Derived.Test.YtoblhmbpobbecaaDivis
namespace Go.Proofs.Ytoblhmbpobbecaa
open Go.RowKit
/-- 'append(out, ys...)', out a slice of ints that the call owns, ys not empty. -/
theorem wpList_appN (w : World) {ops : Array Oper} {rest : List Oper} {o : Oper} {a : Act} {Q : Exit → Act → World → Prop}
    (hg : o.guard = none) (s x : Operand) (ho : o.op = .call { callee := .builtin .append, args := #[s, x], argTypes := #[23, 23] })
    (base : Nat) (A : Option Addr) (n c : Nat) (xs : List Int) (hs : a.eval s = .slice A n c) (hown : OwnN w base A n c xs) (hbase : base ≤ w.heap.size) (hn : n ≤ 1048576)
    (ad : Addr) (ys : List Int) (l cc : Nat) (hx : a.eval x = .slice (some ad) l cc) (hl : ys.length = l) (hl2 : l ≤ 1048576) (hc : Ints w (some ad) ys)
    (hK : ∀ A' c' w', OwnN w' base A' (n + l) c' (xs ++ ys) → w.grownBy w' (Value.slice A n c).ownBlock → Below base w w' → wpList Try.prog ops Q rest (a.put o.dst (.slice A' (n + l) c')) w') :
    wpList Try.prog ops Q (o :: rest) a w := by
  obtain ⟨i0, hi, hz0, hz1, hz2⟩ := info_parts infoInt
  refine wpList_append_own w hg s x 23 ho base 3 i0 (.int .i64 0) 1 8 Try.underlying23 hi hz0 hz1 hz2 rfl (by omega) _ _ _ hs hown.row ad l cc (ys.map (Value.int .i64)) hx (by simp [hl]) ?_ ?_ (by simp only [maxLen]; omega) (by omega) hbase ?_
  · intro j u hj
    rw [List.getElem?_map] at hj
    cases hy : ys[j]? with
    | none => rw [hy] at hj; cases hj
    | some y =>
      rw [hy] at hj
      injection hj with hj
      subst hj
      exact hc.cell_of hy
  · intro u hu
    rw [List.mem_map] at hu
    obtain ⟨y, _, rfl⟩ := hu
    rfl
  · intro v' w' h1 h2 _
    obtain ⟨A', c', rfl⟩ := row_form h1
    exact hK A' c' w' (ownN_of_row (by simpa using h1)) h2 (below_of_grown h2 hbase (fun k hk => (World.ownsRow.lt hown.row k hk).1))
set_option maxHeartbeats 1600000 in
theorem specDivisor_any (A A2 : Option Addr) (xs ls : List Int) (c c2 : Nat) (s m : Int) (w : World) (h : Ints w A xs) (h2 : Ints w A2 ls) (hl1 : xs.length ≤ 1048576) (hl3 : ls.length ≤ 1048576) (hcap : ls.length ≤ c2) :
    Calls Try.prog 52 #[.slice A xs.length c, .int .i64 s, .int .i64 m, .slice A2 ls.length c2] w (NewIB w (divF xs s m ls)) := by
  have cI := Lib.hid (fun (w : World) => l6In_any s 0 20 w)
  cases hv : vv xs
  · have hq := Lib.hid (divF_f (xs := xs) (s := s) (m := m) (ls := ls) (by simp [divC, hv]))
    go_enter Try.func52, Try.ntmps52
    go_wp2_with (go_at_call 40; refine (l21Votes_any _ _ _ _ h hl1).mono ?_; rintro e w' ⟨rfl, rfl⟩)
    go_ret2
    exact newIB_of hq.out rfl (own_empty w (Nat.le_refl _)) ((Below.refl _ _).alloc (Nat.le_refl _) _)
  cases hi : inB s 0 20
  · have hq := Lib.hid (divF_f (xs := xs) (s := s) (m := m) (ls := ls) (by simp [hi]))
    go_enter Try.func52, Try.ntmps52
    go_wp2_with (first | (go_at_call 40; refine (l21Votes_any _ _ _ _ h hl1).mono ?_; rintro e w' ⟨rfl, rfl⟩) | (go_at_call 56; refine (l6In_any _ _ _ _).mono ?_; rintro e w' ⟨rfl, rfl⟩))
    go_ret2
    exact newIB_of hq.out rfl (own_empty w (Nat.le_refl _)) ((Below.refl _ _).alloc (Nat.le_refl _) _)
  cases hmv : mv m
  · have hq := Lib.hid (divF_f (xs := xs) (s := s) (m := m) (ls := ls) (by simp [divC, hmv]))
    go_enter Try.func52, Try.ntmps52
    go_wp2_with (first | (go_at_call 40; refine (l21Votes_any _ _ _ _ h hl1).mono ?_; rintro e w' ⟨rfl, rfl⟩) | (go_at_call 56; refine (l6In_any _ _ _ _).mono ?_; rintro e w' ⟨rfl, rfl⟩) | (go_at_call 70; refine (l21Method_any _ _).mono ?_; rintro e w' ⟨rfl, rfl⟩))
    go_ret2
    exact newIB_of hq.out rfl (own_empty w (Nat.le_refl _)) ((Below.refl _ _).alloc (Nat.le_refl _) _)
  cases hlv : lv ls
  · have hq := Lib.hid (divF_f (xs := xs) (s := s) (m := m) (ls := ls) (by simp [divC, hlv]))
    go_enter Try.func52, Try.ntmps52
    go_wp2_with (first | (go_at_call 40; refine (l21Votes_any _ _ _ _ h hl1).mono ?_; rintro e w' ⟨rfl, rfl⟩) | (go_at_call 56; refine (l6In_any _ _ _ _).mono ?_; rintro e w' ⟨rfl, rfl⟩) | (go_at_call 70; refine (l21Method_any _ _).mono ?_; rintro e w' ⟨rfl, rfl⟩) | (go_at_call 71; refine (specLotsValid_any _ _ _ _ h2 hl3 hcap).mono ?_; rintro e w' ⟨rfl, m1, rfl⟩))
    go_ret2
    exact newIB_of hq.out rfl (own_empty (w.drewN m1) (Nat.le_refl _)) ((below_drewN (Below.refl _ _) m1).alloc (Nat.le_refl _) _)
  by_cases hll : ls.length = xs.length
  · have hD : divC xs m ls = true := by simp [divC, hv, hmv, hlv, hll]
    have hge : ((ls.length : Int) != (xs.length : Int)) = false := by simp [hll]
    obtain ⟨hs0, hs1⟩ := inB_iff.1 hi
    obtain ⟨s, rfl⟩ := Int.eq_ofNat_of_zero_le hs0
    have hs : s ≤ 20 := by omega
    have hq := Lib.hid (divF_t (xs := xs) (m := m) (ls := ls) hs hD)
    have o := Lib.hid (divOk_of hD).1
    have hl1' := o.out.l1
    have HR := Lib.hid (show (List.replicate xs.length (0 : Int)).length = xs.length from by simp)
    have cM := Lib.hid (show ∀ (k : Nat) (hk : k ≤ 20), ∃ q : Nat, q < xs.length ∧ Hid (giveN xs m ls (k + 1) = bump (giveN xs m ls k) q) ∧ ∀ (A' : Option Addr) (c' : Nat) (w : World) (h : Ints w A xs) (h' : Ints w A' (giveN xs m ls k)) (h2 : Ints w A2 ls), Calls Try.prog 57 #[.slice A xs.length c, .slice A' xs.length c', .int .i64 m, .slice A2 ls.length c2] w (Qt w (.int .i64 q)) from fun k hk => by
      have ok := o.out.next (o.out.given k (by omega)) hk
      obtain ⟨q, e, hlt⟩ := nextP_lt ok
      refine ⟨q, hlt, ?_, fun A' c' w h h' h2 => ?_⟩
      · show Go.Proofs.Ytoblhmbpobbecaa.bump _ _ = _; rw [e]
      · have := l21Next_any A A' A2 xs (giveN xs m ls k) ls xs.length xs.length ls.length c c' c2 m w h h' h2 (Lib.hid ok) rfl (o.out.given k (by omega)).len.symm rfl
        rw [e] at this
        exact this)
    have HL := Lib.hid (fun (k : Nat) (hk : k ≤ 20) => (o.out.given k (by omega)).len)
    have hn1 : 1 ≤ xs.length := hl1'.1
    have hn5 : xs.length ≤ 5 := hl1'.2
    have hi2 : inB ((s : Nat) : Int) 0 20 = true := hi
    clear hl1' hll hD hi hs0 hs1
    go_enter Try.func52, Try.ntmps52
    go_wp2_with (first | (go_at_call 40; refine (l21Votes_any _ _ _ _ h hl1).mono ?_; rintro e w' ⟨rfl, rfl⟩) | (go_at_call 56; refine (l6In_any _ _ _ _).mono ?_; rintro e w' ⟨rfl, rfl⟩) | (go_at_call 70; refine (l21Method_any _ _).mono ?_; rintro e w' ⟨rfl, rfl⟩) | (go_at_call 71; refine (specLotsValid_any _ _ _ _ h2 hl3 hcap).mono ?_; rintro e w' ⟨rfl, m1, rfl⟩) | (at_make; refine wpList_makeI _ rfl _ _ rfl xs.length rfl rfl (by omega) ?_; intro w1 hown hbel hsz))
    go_loopw [10, 11, 12] (fun o i _ wr => ∃ (k : Nat) (B : Option Addr) (d : Nat), k ≤ s ∧ i = .int .i64 k ∧ o = .slice B xs.length d ∧ OwnN wr w.heap.size B xs.length d (giveN xs m ls k) ∧ Below w.heap.size w wr) (fun _ i _ _ => s - (intOf i).toNat)
    case atStart => exact ⟨0, _, _, by omega, rfl, rfl, ⟨HR.out, hown⟩, (below_drewN (Below.refl _ _) m1).trans hbel⟩
    case round =>
      obtain ⟨k, B, d, hk, rfl, rfl, hown, hbel⟩ := hrel
      by_cases hlt : k < s
      · obtain ⟨q, hqn, hstep, cQ⟩ := cM.out k (by omega)
        have cQ := Lib.hid cQ
        have hL := Lib.hid (HL.out k (by omega))
        obtain ⟨g, hg⟩ : ∃ g, (giveN xs m ls k)[q]? = some g := ⟨_, List.getElem?_eq_getElem (by rw [hL.out]; exact hqn)⟩
        have hgb := (o.out.given k (by omega)).bd g (mem_of_at hg)
        obtain ⟨hgb0, hgb1⟩ := hgb
        have hnew := Lib.hid (hstep.out.trans (bump_at hg))
        have hg := Lib.hid hg
        obtain ⟨gb, rfl, hgb2, hgb3⟩ := hown.2.form (by rw [hL.out]; omega)
        have hin := hown.2.ints
        have hsz := hbel.size
        go_wp2_with (first | (go_at_call 57; refine (cQ.out _ _ _ (h.below hbel) hin (h2.below hbel)).mono ?_; rintro e w' ⟨rfl, m1, rfl⟩; have hbel' := below_drewN hbel m1) | (at_builtin; refine wpList_appN _ rfl (.tmp 52) (.tmp 53) rfl w.heap.size _ 0 _ [] rfl ⟨rfl, own_empty (wr.drewN m1) hbel'.size⟩ (by simp; omega) (by omega) _ _ _ _ rfl hL.out (by omega) ((hin.drewN m1).alloc _) ?_; intro A' c' w' hown2 hgr' hbl'; obtain ⟨hlen2, hown2⟩ := hown2; obtain ⟨gb2, rfl, hgb4, hgb5⟩ := hown2.form (by rw [hlen2]; omega); have hc3 := hown2.cell hg.out; have hf3 := hown2.frozen q))
        go_roundw
        case rel => exact ⟨k + 1, _, _, by omega, by go_num, rfl, ⟨by rw [HL.out _ (by omega)], (hown2.set q _).congr hnew.out.symm⟩, ((hbel'.alloc hbel'.size _).trans hbl').setCell (by omega) _⟩
        case measure => simp [intOf]; omega
      · obtain rfl : k = s := by omega
        clear hlt
        have hL := Lib.hid (HL.out k hs)
        go_wp2
        go_ret2
        exact newIB_of hq.out hL.out hown.2 hbel
  · have hq := Lib.hid (divF_f (xs := xs) (s := s) (m := m) (ls := ls) (by
      have : ((ls.length : Int) == (xs.length : Int)) = false := by simp; omega
      simp only [divC, this]; simp))
    have hne : ((ls.length : Int) != (xs.length : Int)) = true := by simp; omega
    clear hll
    go_enter Try.func52, Try.ntmps52
    go_wp2_with (first | (go_at_call 40; refine (l21Votes_any _ _ _ _ h hl1).mono ?_; rintro e w' ⟨rfl, rfl⟩) | (go_at_call 56; refine (l6In_any _ _ _ _).mono ?_; rintro e w' ⟨rfl, rfl⟩) | (go_at_call 70; refine (l21Method_any _ _).mono ?_; rintro e w' ⟨rfl, rfl⟩) | (go_at_call 71; refine (specLotsValid_any _ _ _ _ h2 hl3 hcap).mono ?_; rintro e w' ⟨rfl, m1, rfl⟩))
    go_ret2
    exact newIB_of hq.out rfl (own_empty (w.drewN m1) (Nat.le_refl _)) ((below_drewN (Below.refl _ _) m1).alloc (Nat.le_refl _) _)
end Go.Proofs.Ytoblhmbpobbecaa
