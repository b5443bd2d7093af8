/-
  Seats by remainders in plain Lean: who gets a further seat, fair shares.
-/
import Derived.Test.YtimldfknbeiadaaRem
import Derived.Test.YtimldfknbeiadaaDivP
import Derived.Test.YtimldfknbeiadaaFair
import Derived.Test.YtimldfknbeiadaaQuotaP
namespace Go.Proofs.Ytimldfknbeiadaa
open Go.RowKit
/-- Party i has a further seat, or has none; the whole parts W and the rests r. -/
structure RemI (xs : List Int) (s : Int) (ls : List Int) (p : List Int × List Int) : Prop where
  one : ∀ i, i < xs.length → (p.2.getD i 0 = (restL xs s).getD i 0 ∧ p.1.getD i 0 = (wholeL xs s).getD i 0) ∨ (p.2.getD i 0 = -1 ∧ p.1.getD i 0 = (wholeL xs s).getD i 0 + 1)
  ord : ∀ i k, i < xs.length → k < xs.length → p.1.getD i 0 = (wholeL xs s).getD i 0 + 1 → p.1.getD k 0 = (wholeL xs s).getD k 0 →
    (restL xs s).getD k 0 ≤ (restL xs s).getD i 0 ∧ ((restL xs s).getD k 0 = (restL xs s).getD i 0 → bef ls k i = false)
theorem RemOk.rest0 {xs : List Int} {s : Int} {ls : List Int} (o : RemOk xs s ls) (i : Nat) : 0 ≤ (restL xs s).getD i 0 := by
  refine getD_nn (fun r hr => ?_) i
  obtain ⟨x, hx, rfl⟩ := List.mem_map.1 hr
  exact Int.emod_nonneg _ (by have := o.s0; omega)
theorem RemOk.rest1 {xs : List Int} {s : Int} {ls : List Int} (o : RemOk xs s ls) {i : Nat} (hi : i < xs.length) : (restL xs s).getD i 0 < xs.sum := by
  rw [getD_of (restL_at (at_getD hi))]
  exact Int.emod_lt_of_pos _ o.s0
theorem greatP_best {cs ls : List Int} (hv : lv ls = true) (hl : cs.length = ls.length) : ∃ q : Nat, greatP cs ls = q ∧ q < cs.length ∧ ∀ i, i < cs.length → cs.getD i 0 ≤ cs.getD q 0 ∧ (cs.getD i 0 = cs.getD q 0 → bef ls i q = false) := by
  obtain ⟨⟨hn, _⟩, hr, hd⟩ := lv_iff.1 hv
  obtain ⟨q, hq, hlt⟩ := greatP_lt (cs := cs) (n := cs.length) hn (fun l h => by have := hr l h; omega)
  obtain ⟨l1, b, l2, e, hb, h1, h2⟩ := greatP_split cs hn
  rw [hq] at hb
  subst hb
  have hin : ∀ i, i < cs.length → (i : Int) ∈ l1 ∨ (i : Int) = q ∨ (i : Int) ∈ l2 := fun i hi => by
    have := lots_all hv (i := i) (by omega)
    rw [e] at this
    simpa using this
  have hnd : (q : Int) ∉ l1 := by
    rw [e, List.nodup_append] at hd
    intro hm
    exact hd.2.2 _ hm _ (by simp) rfl
  refine ⟨q, hq, hlt, fun i hi => ⟨?_, fun he => ?_⟩⟩
  · rcases hin i hi with h | h | h
    · have := h1 _ h; rw [getD_atI, getD_atI] at this; omega
    · obtain rfl : i = q := by omega
      omega
    · have := h2 _ h; rw [getD_atI, getD_atI] at this; omega
  · rw [e]
    refine bef_not (fun h => ?_) hnd
    have := h1 _ h; rw [getD_atI, getD_atI] at this; omega
theorem set_getD {gs : List Int} {q : Nat} (hq : q < gs.length) (y : Int) (i : Nat) : (gs.set q y).getD i 0 = if i = q then y else gs.getD i 0 := by
  by_cases h : i = q
  · subst h; simp [hq]
  · rw [if_neg h, List.getD_eq_getElem?_getD, List.getD_eq_getElem?_getD, List.getElem?_set_ne (by omega)]
theorem sum_le_getD {xs ys : List Int} (hl : xs.length = ys.length) (h : ∀ k, k < xs.length → xs.getD k 0 ≤ ys.getD k 0) : xs.sum ≤ ys.sum :=
  sum_le_of hl (fun k x y hx hy => by
    have := h k (List.getElem?_eq_some_iff.1 hx).1
    rw [getD_of hx, getD_of hy] at this
    exact this)
theorem sum_lt_getD {xs ys : List Int} (hl : xs.length = ys.length) (h : ∀ k, k < xs.length → xs.getD k 0 ≤ ys.getD k 0) {i : Nat} (hi : i < xs.length) (hlt : xs.getD i 0 < ys.getD i 0) : xs.sum < ys.sum := by
  have h1 := sum_le_getD (xs := xs.set i (ys.getD i 0)) (ys := ys) (by simpa using hl) (fun k hk => by
    rw [set_getD hi]
    split
    · rename_i e; subst e; omega
    · exact h k (by simpa using hk))
  rw [sum_set (at_getD hi)] at h1
  omega
theorem sum_map_add (xs : List Int) (a : Int) : (xs.map fun x => x + a).sum = xs.sum + xs.length * a := by
  induction xs with
  | nil => simp
  | cons x t ih => simp only [List.map_cons, List.sum_cons, ih, List.length_cons]; have : ((t.length + 1 : Nat) : Int) * a = t.length * a + a := by push_cast; rw [Int.add_mul, Int.one_mul]
                   omega
/-- What is left over is what the rests are together. -/
theorem left_sum (xs : List Int) (s : Int) : (s - (wholeL xs s).sum) * xs.sum = (restL xs s).sum := by
  have key : ∀ l : List Int, ∀ T : Int, l.sum * s = (l.map fun x => x * s / T).sum * T + (l.map fun x => x * s % T).sum := by
    intro l T
    induction l with
    | nil => simp
    | cons x t ih =>
      simp only [List.map_cons, List.sum_cons, Int.add_mul, ih]
      have := Int.mul_ediv_add_emod (x * s) T
      rw [Int.mul_comm T] at this
      omega
  have h := key xs xs.sum
  have e1 : wholeL xs s = xs.map fun x => x * s / xs.sum := rfl
  have e2 : restL xs s = xs.map fun x => x * s % xs.sum := rfl
  rw [← e1, ← e2] at h
  rw [Int.sub_mul, Int.mul_comm s]
  omega
theorem RemOk.left_bd {xs : List Int} {s : Int} {ls : List Int} (o : RemOk xs s ls) : 0 ≤ s - (wholeL xs s).sum ∧ s - (wholeL xs s).sum < xs.length := by
  have h := left_sum xs s
  have h0 : 0 ≤ (restL xs s).sum := sum_nonneg _ (fun r hr => by
    obtain ⟨x, hx, rfl⟩ := List.mem_map.1 hr
    exact Int.emod_nonneg _ (by have := o.s0; omega))
  have h1 : (restL xs s).sum < xs.length * xs.sum := by
    have := sum_lt_getD (xs := restL xs s) (ys := List.replicate xs.length xs.sum) (by simp [restL_len]) (fun k hk => by
      rw [restL_len] at hk
      have := o.rest1 hk
      rw [getD_of (xs := List.replicate _ _) (i := k) (x := xs.sum) (by rw [List.getElem?_replicate, if_pos hk])]
      omega) (i := 0) (by rw [restL_len]; exact o.l1.1) (by
      have := o.rest1 (i := 0) o.l1.1
      rw [getD_of (xs := List.replicate _ _) (i := 0) (x := xs.sum) (by rw [List.getElem?_replicate, if_pos (show 0 < xs.length from o.l1.1)])]
      exact this)
    have e : (List.replicate xs.length xs.sum).sum = xs.length * xs.sum := by
      generalize xs.length = n
      generalize xs.sum = T
      induction n with
      | zero => simp
      | succ n ih => rw [List.replicate_succ, List.sum_cons, ih]; push_cast; rw [Int.add_mul, Int.one_mul]; omega
    omega
  have hs := o.s0
  constructor
  · rcases Int.lt_or_le (s - (wholeL xs s).sum) 0 with hh | hh
    · have := Int.mul_neg_of_neg_of_pos hh hs; omega
    · exact hh
  · exact Int.lt_of_mul_lt_mul_right (a := xs.sum) (by omega) (by omega)
theorem RemOk.inv {xs : List Int} {s : Int} {ls : List Int} (o : RemOk xs s ls) (k : Nat) (hk : k ≤ (leftN xs s)) : RemI xs s ls (remN xs s ls k) := by
  induction k with
  | zero =>
    refine ⟨fun i _ => .inl ⟨rfl, rfl⟩, fun i k _ _ h1 _ => ?_⟩
    have h1 : (wholeL xs s).getD i 0 = (wholeL xs s).getD i 0 + 1 := h1
    omega
  | succ k ih =>
    have I := ih (by omega)
    have st := o.st (s := s) (ls := ls) k
    have hlb := o.left_bd
    obtain ⟨q, hq, hlt, hbest⟩ := greatP_best (cs := (remN xs s ls k).2) o.lv (by rw [st.l2, o.ll])
    rw [st.l2] at hlt hbest
    -- somebody has none yet
    obtain ⟨f, hf, hf0⟩ : ∃ f, f < xs.length ∧ 0 ≤ (remN xs s ls k).2.getD f 0 := by
      by_cases h : ∃ f, f < xs.length ∧ 0 ≤ (remN xs s ls k).2.getD f 0
      · exact h
      · exfalso
        have hall : ∀ i, i < xs.length → (remN xs s ls k).1.getD i 0 = (wholeL xs s).getD i 0 + 1 := fun i hi => by
          rcases I.one i hi with ⟨h1, h2⟩ | ⟨h1, h2⟩
          · exact absurd ⟨i, hi, by rw [h1]; exact o.rest0 i⟩ h
          · exact h2
        have h1 := sum_le_getD (xs := (wholeL xs s).map fun x => x + 1) (ys := (remN xs s ls k).1) (by simp [wholeL_len, st.l1]) (fun i hi => by
          have hi' : i < xs.length := by simpa [wholeL_len] using hi
          rw [hall i hi']
          have hw : i < (wholeL xs s).length := by rw [wholeL_len]; exact hi'
          rw [getD_of (xs := List.map _ _) (i := i) (x := (wholeL xs s).getD i 0 + 1) (by rw [List.getElem?_map, at_getD hw]; rfl)]
          exact Int.le_refl _)
        rw [sum_map_add, wholeL_len, st.sum] at h1
        unfold leftN at hk
        omega
    have hqv : (remN xs s ls k).2.getD q 0 = (restL xs s).getD q 0 ∧ (remN xs s ls k).1.getD q 0 = (wholeL xs s).getD q 0 := by
      have := (hbest f hf).1
      rcases I.one q hlt with h | ⟨h1, _⟩
      · exact h
      · omega
    have e1 : (remN xs s ls (k + 1)).1 = bump (remN xs s ls k).1 q := by show (remStep ls _).1 = _; unfold remStep; rw [hq]
    have e2 : (remN xs s ls (k + 1)).2 = (remN xs s ls k).2.set q (-1) := by show (remStep ls _).2 = _; unfold remStep; rw [hq]; rfl
    have hq1 : q < (remN xs s ls k).1.length := by rw [st.l1]; exact hlt
    have hq2 : q < (remN xs s ls k).2.length := by rw [st.l2]; exact hlt
    refine ⟨fun i hi => ?_, fun i j hi hj h1 h2 => ?_⟩
    · rw [e1, e2, bump_getD hq1, set_getD hq2]
      by_cases e : i = q
      · subst e
        rw [if_pos rfl, if_pos rfl, hqv.2]
        exact .inr ⟨rfl, rfl⟩
      · rw [if_neg e, if_neg e]
        exact I.one i hi
    · rw [e1, bump_getD hq1] at h1 h2
      by_cases ej : j = q
      · subst ej
        rw [if_pos rfl, hqv.2] at h2
        omega
      · rw [if_neg ej] at h2
        by_cases ei : i = q
        · subst ei
          have hb := hbest j hj
          have hjr : (remN xs s ls k).2.getD j 0 = (restL xs s).getD j 0 := by
            rcases I.one j hj with h | ⟨_, h⟩
            · exact h.1
            · omega
          rw [hqv.1, hjr] at hb
          exact hb
        · rw [if_neg ei] at h1
          exact I.ord i j hi hj h1 h2
/-- The seats by remainders: a whole part, and perhaps one more. -/
structure RemFin (xs : List Int) (s : Int) (ls ys : List Int) : Prop where
  len : ys.length = xs.length
  sum : ys.sum = s
  nn : ∀ y ∈ ys, 0 ≤ y
  one : ∀ i, i < xs.length → ys.getD i 0 = (wholeL xs s).getD i 0 ∨ (ys.getD i 0 = (wholeL xs s).getD i 0 + 1 ∧ 0 < (restL xs s).getD i 0)
  ord : ∀ i k, i < xs.length → k < xs.length → ys.getD i 0 = (wholeL xs s).getD i 0 + 1 → ys.getD k 0 = (wholeL xs s).getD k 0 →
    (restL xs s).getD k 0 ≤ (restL xs s).getD i 0 ∧ ((restL xs s).getD k 0 = (restL xs s).getD i 0 → bef ls k i = false)
theorem RemOk.fin {xs : List Int} {s : Int} {ls : List Int} (o : RemOk xs s ls) : RemFin xs s ls (remN xs s ls (leftN xs s)).1 := by
  have I := o.inv (leftN xs s) (Nat.le_refl _)
  have st := o.st (s := s) (ls := ls) (leftN xs s)
  have hlb := o.left_bd
  have hsum : (remN xs s ls (leftN xs s)).1.sum = s := by rw [st.sum]; unfold leftN; omega
  refine ⟨st.l1, hsum, fun y hy => (st.b1 y hy).1, fun i hi => ?_, I.ord⟩
  rcases I.one i hi with h | h
  · exact .inl h.2
  · refine .inr ⟨h.2, ?_⟩
    rcases Int.lt_or_le 0 ((restL xs s).getD i 0) with h0 | h0
    · exact h0
    · exfalso
      have hr0 := o.rest0 i
      have hT := o.s0
      have hl := left_sum xs s
      have h1 := sum_lt_getD (xs := restL xs s) (ys := List.zipWith (fun a b => (a - b) * xs.sum) (remN xs s ls (leftN xs s)).1 (wholeL xs s)) (by simp [restL_len, wholeL_len, st.l1]) (fun k hk => by
        rw [restL_len] at hk
        have hk1 : k < (remN xs s ls (leftN xs s)).1.length := by rw [st.l1]; exact hk
        have hk2 : k < (wholeL xs s).length := by rw [wholeL_len]; exact hk
        rw [getD_of (xs := List.zipWith _ _ _) (by rw [List.getElem?_zipWith, at_getD hk1, at_getD hk2])]
        rcases I.one k hk with hh | hh
        · have := (I.ord i k hi hk h.2 hh.2).1
          rw [hh.2, Int.sub_self, Int.zero_mul]
          omega
        · rw [hh.2, show (wholeL xs s).getD k 0 + 1 - (wholeL xs s).getD k 0 = 1 from by omega, Int.one_mul]
          have := o.rest1 hk
          omega) (i := i) (by rw [restL_len]; exact hi) (by
        have hk1 : i < (remN xs s ls (leftN xs s)).1.length := by rw [st.l1]; exact hi
        have hk2 : i < (wholeL xs s).length := by rw [wholeL_len]; exact hi
        rw [getD_of (xs := List.zipWith _ _ _) (by rw [List.getElem?_zipWith, at_getD hk1, at_getD hk2])]
        rw [h.2, show (wholeL xs s).getD i 0 + 1 - (wholeL xs s).getD i 0 = 1 from by omega, Int.one_mul]
        omega)
      have key : ∀ (a b : List Int) (T : Int), a.length = b.length → (List.zipWith (fun a b => (a - b) * T) a b).sum = (a.sum - b.sum) * T := by
        intro a
        induction a with
        | nil => intro b T hb; cases b with
          | nil => simp
          | cons _ _ => simp at hb
        | cons a t ih => intro b T hb; cases b with
          | nil => simp at hb
          | cons b u =>
            simp only [List.zipWith_cons_cons, List.sum_cons, ih u T (by simpa using hb)]
            rw [← Int.add_mul]
            congr 1
            omega
      rw [key _ _ _ (by rw [st.l1, wholeL_len]), hsum] at h1
      omega
theorem whole_getD {xs : List Int} {s : Int} {i : Nat} (hi : i < xs.length) : (wholeL xs s).getD i 0 = xs.getD i 0 * s / xs.sum := getD_of (wholeL_at (at_getD hi))
theorem rest_getD {xs : List Int} {s : Int} {i : Nat} (hi : i < xs.length) : (restL xs s).getD i 0 = xs.getD i 0 * s % xs.sum := getD_of (restL_at (at_getD hi))
theorem RemFin.votes {xs : List Int} {s : Int} {ls ys : List Int} (f : RemFin xs s ls ys) (hT : 0 < xs.sum) (hs : 0 ≤ s) {i k : Nat} (hi : i < xs.length) (hk : k < xs.length) (hlt : xs.getD k 0 < xs.getD i 0) : ys.getD k 0 ≤ ys.getD i 0 := by
  rcases Int.lt_or_le (ys.getD i 0) (ys.getD k 0) with h0 | h0
  · exfalso
    have hm : xs.getD k 0 * s ≤ xs.getD i 0 * s := Int.mul_le_mul_of_nonneg_right (by omega) hs
    have hd := Int.ediv_le_ediv hT hm
    have wi := whole_getD (s := s) hi
    have wk := whole_getD (s := s) hk
    have ri := rest_getD (s := s) hi
    have rk := rest_getD (s := s) hk
    rcases f.one k hk with h1 | ⟨h1, hr⟩
    · rcases f.one i hi with h2 | ⟨h2, _⟩ <;> omega
    · rcases f.one i hi with h2 | ⟨h2, _⟩
      · have hw : xs.getD k 0 * s / xs.sum = xs.getD i 0 * s / xs.sum := by omega
        have ho := (f.ord k i hk hi h1 h2).1
        rw [ri, rk] at ho
        rw [rk] at hr
        have d1 := Int.mul_ediv_add_emod (xs.getD k 0 * s) xs.sum
        have d2 := Int.mul_ediv_add_emod (xs.getD i 0 * s) xs.sum
        rw [hw] at d1
        have hs0 : 0 < s := by
          rcases Int.lt_or_le 0 s with h | h
          · exact h
          · obtain rfl : s = 0 := by omega
            simp at hr
        have := Int.mul_lt_mul_of_pos_right hlt hs0
        omega
      · omega
  · exact h0
theorem RemFin.exact {xs : List Int} {s : Int} {ls ys : List Int} (f : RemFin xs s ls ys) {i : Nat} (hi : i < xs.length) (h : xs.getD i 0 * s % xs.sum = 0) : ys.getD i 0 * xs.sum = xs.getD i 0 * s := by
  have wi := whole_getD (s := s) hi
  have ri := rest_getD (s := s) hi
  have d := Int.mul_ediv_add_emod (xs.getD i 0 * s) xs.sum
  rcases f.one i hi with h1 | ⟨_, h1⟩
  · rw [h1, wi, Int.mul_comm]; omega
  · omega
theorem RemFin.fair {xs : List Int} {s : Int} {ls ys : List Int} (f : RemFin xs s ls ys) (hv : vv xs = true) (hs : 0 ≤ s ∧ s ≤ 20) : gv ys xs.length = true ∧ fairF xs ys = true := by
  obtain ⟨a1, a2, a3⟩ := vv_iff.1 hv
  have hg : gv ys xs.length = true := gv_iff.2 ⟨fun y hy => ⟨f.nn y hy, by
    have key : ∀ l : List Int, (∀ x ∈ l, 0 ≤ x) → ∀ y ∈ l, y ≤ l.sum := by
      intro l
      induction l with
      | nil => simp
      | cons a t ih =>
        intro hl y hy
        have h1 := hl a (by simp)
        have h2 := sum_nonneg t (fun x hx => hl x (by simp [hx]))
        simp only [List.sum_cons]
        rcases List.mem_cons.1 hy with rfl | hy
        · omega
        · have := ih (fun x hx => hl x (by simp [hx])) y hy
          omega
    have := key ys f.nn y hy
    have := f.sum
    omega⟩, by rw [f.len], by have := f.sum; omega⟩
  refine ⟨hg, ?_⟩
  rw [fairF_t hv hg]
  refine all_range_t fun j hj => ?_
  unfold fairAt
  rw [f.sum, quotaF_t (x := xs.getD j 0) hv hs ⟨by omega, by omega⟩ (by rw [Int.toNat_natCast]; exact at_getD hj)]
  refine inB_t ?_
  have wi := whole_getD (s := s) hj
  have ri := rest_getD (s := s) hj
  have d := Int.mul_ediv_add_emod (xs.getD j 0 * s) xs.sum
  have x0 : 0 ≤ xs.getD j 0 * s := Int.mul_nonneg (getD_nn (fun x hx => (a1 x hx).1) j) hs.1
  obtain ⟨u1, u2⟩ : xs.getD j 0 * s / xs.sum ≤ (xs.getD j 0 * s + xs.sum - 1) / xs.sum ∧ (0 < xs.getD j 0 * s % xs.sum → xs.getD j 0 * s / xs.sum + 1 ≤ (xs.getD j 0 * s + xs.sum - 1) / xs.sum) := by
    refine ⟨Int.ediv_le_ediv a3 (by omega), fun h => ?_⟩
    have : xs.getD j 0 * s / xs.sum + 1 = (xs.getD j 0 * s + xs.sum - xs.getD j 0 * s % xs.sum) / xs.sum := by
      rw [show xs.getD j 0 * s + xs.sum - xs.getD j 0 * s % xs.sum = xs.sum * (xs.getD j 0 * s / xs.sum + 1) from by rw [Int.mul_add, Int.mul_one]; omega]
      rw [Int.mul_ediv_cancel_left _ (by omega)]
    rw [this]
    exact Int.ediv_le_ediv a3 (by omega)
  rcases f.one j hj with h1 | ⟨h1, h2⟩
  · omega
  · rw [ri] at h2; have := u2 h2; omega
theorem remN_len (xs : List Int) (s : Int) (ls : List Int) (k : Nat) : (remN xs s ls k).1.length = xs.length := by
  induction k with
  | zero => exact wholeL_len _ _
  | succ k ih => show (bump _ _).length = _; rw [bump_len, ih]
theorem remF_len {xs : List Int} (h : xs.length ≤ 5) (s : Int) (ls : List Int) : (remF xs s ls).1.length ≤ 5 := by
  unfold remF; split
  · show (remN _ _ _ _).1.length ≤ 5; rw [remN_len]; exact h
  · simp
theorem remF_true {xs : List Int} {s : Int} {ls ys : List Int} (h : remF xs s ls = (ys, true)) : remC xs s ls = true ∧ (remN xs s ls (leftN xs s)).1 = ys := by
  unfold remF at h
  split at h
  · rename_i hc
    injection h with h1 h2
    exact ⟨hc, h1⟩
  · injection h with _ h2; cases h2
end Go.Proofs.Ytimldfknbeiadaa
