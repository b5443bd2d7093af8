/-
  Gaps and squares in plain Lean: even gaps, squares against gaps, the least ones.
-/
import Derived.Test.YtimldfknbeiadaaRemQ
import Derived.Test.YtimldfknbeiadaaDiff
import Derived.Test.YtimldfknbeiadaaSq
namespace Go.Proofs.Ytimldfknbeiadaa
theorem gapL_cons (a : Int) (t : List Int) : gapL (a :: t) = max a (-a) + gapL t := by simp [gapL]
theorem sqL_cons (a : Int) (t : List Int) : sqL (a :: t) = a * a + sqL t := by simp [sqL]
theorem gap_mod (ds : List Int) : gapL ds % 2 = ds.sum % 2 := by
  induction ds with
  | nil => rfl
  | cons a t ih => rw [gapL_cons, List.sum_cons]; omega
theorem gap_zero (ds : List Int) : gapL ds = 0 ↔ ∀ d ∈ ds, d = 0 := by
  induction ds with
  | nil => simp [gapL]
  | cons a t ih =>
    have h0 : 0 ≤ gapL t := sum_nonneg _ (fun y hy => by
      obtain ⟨d, _, rfl⟩ := List.mem_map.1 hy
      omega)
    rw [gapL_cons]
    simp only [List.mem_cons, forall_eq_or_imp, ← ih]
    omega
theorem diffs_sum {xs gs : List Int} (h : gs.length = xs.length) : (diffs xs gs).sum = 0 := by
  have key : ∀ (a b : List Int) (S T : Int), a.length = b.length → (List.zipWith (fun a b => a * S - b * T) a b).sum = a.sum * S - b.sum * T := by
    intro a
    induction a with
    | nil => intro b S T hb; cases b with
      | nil => simp
      | cons _ _ => simp at hb
    | cons a t ih => intro b S T hb; cases b with
      | nil => simp at hb
      | cons b u =>
        simp only [List.zipWith_cons_cons, List.sum_cons, ih u S T (by simpa using hb), Int.add_mul]
        omega
  unfold diffs
  rw [key _ _ _ _ h.symm, Int.mul_comm]
  omega
theorem abs_sums (ds : List Int) : sqL (ds.map fun d => max d (-d)) = sqL ds ∧ (ds.map fun d => max d (-d)).sum = gapL ds := by
  refine ⟨?_, rfl⟩
  induction ds with
  | nil => rfl
  | cons a t ih =>
    rw [List.map_cons, sqL_cons, sqL_cons, ih]
    rcases Int.le_total a (-a) with h | h
    · rw [Int.max_eq_right h, Int.neg_mul_neg]
    · rw [Int.max_eq_left h]
theorem sq_le_gap (ds : List Int) : sqL ds ≤ gapL ds * gapL ds := by
  obtain ⟨h1, h2⟩ := abs_sums ds
  have := sq_le_sum (xs := ds.map fun d => max d (-d)) (fun x hx => by
    obtain ⟨d, _, rfl⟩ := List.mem_map.1 hx
    omega)
  rwa [h1, h2] at this
theorem gap_le_sq (ds : List Int) : gapL ds * gapL ds ≤ sqL ds * ds.length := by
  obtain ⟨h1, h2⟩ := abs_sums ds
  have hnn : ∀ x ∈ ds.map (fun d => max d (-d)), 0 ≤ x := fun x hx => by
    obtain ⟨d, _, rfl⟩ := List.mem_map.1 hx
    omega
  have hq := sqL_nonneg ds
  have hb := posN_bd (ds.map fun d => max d (-d))
  rw [List.length_map] at hb
  have hs := sum_nonneg _ hnn
  rcases Int.lt_or_le 0 ((ds.map fun d => max d (-d)).sum) with h0 | h0
  · have hc := cauchy hnn (posN_pos h0)
    rw [h1, h2] at hc
    have := Int.mul_le_mul_of_nonneg_right hb.2 hq
    rw [Int.mul_comm (sqL ds)]
    omega
  · rw [h2] at h0 hs
    have : gapL ds = 0 := by omega
    rw [this, Int.zero_mul]
    exact Int.mul_nonneg hq (by omega)
/-- All given seats are exact shares. -/
def exactB (xs gs : List Int) (j : Nat) : Bool := (List.range j).all fun i => gs.getD i 0 * xs.sum == xs.getD i 0 * gs.sum
theorem exactB_snoc {xs gs : List Int} {j : Nat} {x g : Int} (hx : xs[j]? = some x) (hg : gs[j]? = some g) : exactB xs gs (j + 1) = (exactB xs gs j && (g * xs.sum == x * gs.sum)) := by
  unfold exactB
  rw [List.range_succ, List.all_append]
  simp [hx, hg]
theorem gap_exact {xs gs : List Int} (h : gs.length = xs.length) : (gapL (diffs xs gs) == 0) = exactB xs gs xs.length := by
  rw [Bool.eq_iff_iff, beq_iff_eq, gap_zero]
  unfold exactB
  rw [List.all_eq_true]
  constructor
  · intro hz i hi
    have hi : i < xs.length := by simpa using hi
    have h1 : xs[i]? = some (xs.getD i 0) := by simp [hi]
    have h2 : gs[i]? = some (gs.getD i 0) := by have : i < gs.length := by omega
                                                simp [this]
    have := hz _ (mem_of_at (diffs_at h1 h2))
    simp only [beq_iff_eq]
    omega
  · intro hz d hd
    obtain ⟨i, hi, rfl⟩ := List.mem_iff_getElem.1 hd
    have hix : i < xs.length := by rw [diffs_length h] at hi; exact hi
    have h1 : xs[i]? = some (xs.getD i 0) := by simp [hix]
    have h2 : gs[i]? = some (gs.getD i 0) := by have : i < gs.length := by omega
                                                simp [this]
    have h3 := diffs_at h1 h2
    rw [List.getElem?_eq_getElem hi] at h3
    injection h3 with h3
    rw [h3]
    have := hz i (by simpa using hix)
    simp only [beq_iff_eq] at this
    omega
/-! The least gap and the least squares. -/
/-- Sums over indices. -/
theorem sum_diff_le {n : Nat} {f g : Nat → Int} (h : ∀ i, i < n → f i ≤ g i) : ((List.range n).map f).sum ≤ ((List.range n).map g).sum :=
  sum_le_getD (by simp) (fun k hk => by
    have hk : k < n := by simpa using hk
    have := h k hk
    simpa [hk] using this)
theorem map_range (xs : List Int) (f : Int → Int) : (xs.map f).sum = ((List.range xs.length).map fun i => f (xs.getD i 0)).sum := by
  congr 1
  apply List.ext_getElem?
  intro i
  rw [List.getElem?_map, List.getElem?_map]
  by_cases h : i < xs.length
  · simp [h]
  · rw [List.getElem?_eq_none (by omega), List.getElem?_eq_none (by simp; omega)]; rfl
theorem range_add (n : Nat) (f g : Nat → Int) : ((List.range n).map fun i => f i + g i).sum = ((List.range n).map f).sum + ((List.range n).map g).sum := by
  induction n with
  | zero => rfl
  | succ n ih => simp only [List.range_succ, List.map_append, sum_append, List.map_cons, List.map_nil, List.sum_cons, List.sum_nil, ih]; omega
theorem range_mul (n : Nat) (f : Nat → Int) (a : Int) : ((List.range n).map fun i => a * f i).sum = a * ((List.range n).map f).sum := by
  induction n with
  | zero => simp
  | succ n ih => simp only [List.range_succ, List.map_append, sum_append, List.map_cons, List.map_nil, List.sum_cons, List.sum_nil, ih, Int.mul_add, Int.add_zero]
theorem range_sum (xs : List Int) : ((List.range xs.length).map fun i => xs.getD i 0).sum = xs.sum := by
  have := map_range xs (fun x => x)
  simpa using this.symm
/-- Between those with a further seat and those without one lies a rest. -/
theorem RemFin.thresh {xs : List Int} {s : Int} {ls ys : List Int} (f : RemFin xs s ls ys) (o : RemOk xs s ls) :
    ∃ θ : Int, 0 ≤ θ ∧ θ ≤ xs.sum ∧ ∀ i, i < xs.length →
      (ys.getD i 0 = (wholeL xs s).getD i 0 ∧ (restL xs s).getD i 0 ≤ θ) ∨ (ys.getD i 0 = (wholeL xs s).getD i 0 + 1 ∧ θ ≤ (restL xs s).getD i 0) := by
  -- the greatest rest of those without a further seat
  obtain ⟨θ, hθ⟩ : ∃ θ : Int, θ = (((List.range xs.length).filter fun i => ys.getD i 0 == (wholeL xs s).getD i 0).map fun i => (restL xs s).getD i 0).foldl max 0 := ⟨_, rfl⟩
  have hge : ∀ i, i < xs.length → ys.getD i 0 = (wholeL xs s).getD i 0 → (restL xs s).getD i 0 ≤ θ := fun i hi he => by
    rw [hθ]
    refine (le_foldl_max _ 0).2 _ ?_
    exact List.mem_map.2 ⟨i, List.mem_filter.2 ⟨by simpa using hi, by simpa using he⟩, rfl⟩
  have h0 : 0 ≤ θ := by rw [hθ]; exact (le_foldl_max _ 0).1
  have hmem : θ = 0 ∨ ∃ k, k < xs.length ∧ ys.getD k 0 = (wholeL xs s).getD k 0 ∧ (restL xs s).getD k 0 = θ := by
    rcases foldl_max_mem (((List.range xs.length).filter fun i => ys.getD i 0 == (wholeL xs s).getD i 0).map fun i => (restL xs s).getD i 0) 0 with h | h
    · exact .inl (hθ.trans h)
    · rw [← hθ] at h
      obtain ⟨k, hk, he⟩ := List.mem_map.1 h
      obtain ⟨h1, h2⟩ := List.mem_filter.1 hk
      exact .inr ⟨k, by simpa using h1, by simpa using h2, he⟩
  refine ⟨θ, h0, ?_, fun i hi => ?_⟩
  · rcases hmem with h | ⟨k, hk, _, h⟩
    · have := o.s0; omega
    · have := o.rest1 hk; omega
  · rcases f.one i hi with h | ⟨h, hr⟩
    · exact .inl ⟨h, hge i hi h⟩
    · refine .inr ⟨h, ?_⟩
      rcases hmem with h2 | ⟨k, hk, h2, h3⟩
      · omega
      · have := (f.ord i k hi hk h h2).1
        omega
theorem sq_step {T θ r d e : Int} (hT : 0 < T) (hd : (d = r ∧ 0 ≤ r ∧ r ≤ θ ∧ θ ≤ T) ∨ (d = r - T ∧ r < T ∧ θ ≤ r ∧ 0 ≤ θ)) : d * d + (T - 2 * θ) * T * e ≤ (d - e * T) * (d - e * T) := by
  have key : (d - e * T) * (d - e * T) = d * d + T * (e * (e * T - 2 * d)) := by
    rw [Int.sub_mul, Int.mul_sub, Int.mul_sub, Int.mul_sub, Int.mul_sub]
    have a1 : e * T * d = T * (e * d) := by ac_rfl
    have a2 : d * (e * T) = T * (e * d) := by ac_rfl
    have a3 : e * T * (e * T) = T * (e * (e * T)) := by ac_rfl
    have a4 : e * (2 * d) = 2 * (e * d) := by ac_rfl
    have a5 : T * (2 * (e * d)) = 2 * (T * (e * d)) := by ac_rfl
    rw [a1, a2, a3, a4, a5]; omega
  have key2 : (T - 2 * θ) * T * e = T * (e * (T - 2 * θ)) := by ac_rfl
  rw [key, key2]
  have h1 : e * (T - 2 * θ) ≤ e * (e * T - 2 * d) := by
    rcases Int.lt_trichotomy e 0 with he | he | he
    · -- e ≤ -1
      have h2 : e * T - 2 * d ≤ T - 2 * θ := by
        have : e * T ≤ -1 * T := Int.mul_le_mul_of_nonneg_right (by omega) (by omega)
        rcases hd with ⟨rfl, h0, h1, h3⟩ | ⟨rfl, h0, h1, h3⟩ <;> omega
      exact Int.mul_le_mul_of_nonpos_left (by omega) h2
    · subst he; simp
    · have h2 : T - 2 * θ ≤ e * T - 2 * d := by
        have : 1 * T ≤ e * T := Int.mul_le_mul_of_nonneg_right (by omega) (by omega)
        rcases hd with ⟨rfl, h0, h1, h3⟩ | ⟨rfl, h0, h1, h3⟩ <;> omega
      exact Int.mul_le_mul_of_nonneg_left h2 (by omega)
  have := Int.mul_le_mul_of_nonneg_left h1 (Int.le_of_lt hT)
  omega
theorem gap_step {T θ r d e : Int} (hT : 0 < T) (hd : (d = r ∧ 0 ≤ r ∧ r ≤ θ ∧ θ ≤ T) ∨ (d = r - T ∧ r < T ∧ θ ≤ r ∧ 0 ≤ θ)) : max d (-d) + (T - 2 * θ) * e ≤ max (d - e * T) (-(d - e * T)) := by
  rcases Int.lt_trichotomy e 0 with he | he | he
  · obtain ⟨k, rfl⟩ : ∃ k : Int, e = -k := ⟨-e, by omega⟩
    have hk : 1 ≤ k := by omega
    have a1 : (T - 2 * θ) * -k = 2 * (θ * k) - T * k := by rw [Int.mul_neg, Int.sub_mul, Int.mul_assoc]; omega
    have a2 : -k * T = -(T * k) := by rw [Int.neg_mul, Int.mul_comm]
    rw [a1, a2]
    have b1 : T ≤ T * k := by have := Int.mul_le_mul_of_nonneg_left hk (Int.le_of_lt hT); omega
    rcases hd with ⟨rfl, h0, h1, h3⟩ | ⟨rfl, h0, h1, h3⟩
    · have b2 : θ * k ≤ T * k := Int.mul_le_mul_of_nonneg_right h3 (by omega)
      omega
    · have b2 : 0 ≤ (T - θ) * (k - 1) := Int.mul_nonneg (by omega) (by omega)
      have b3 : (T - θ) * (k - 1) = T * k - T - (θ * k - θ) := by rw [Int.sub_mul, Int.mul_sub, Int.mul_sub]; omega
      omega
  · subst he; simp
  · have a1 : (T - 2 * θ) * e = T * e - 2 * (θ * e) := by rw [Int.sub_mul, Int.mul_assoc]
    have a2 : e * T = T * e := Int.mul_comm _ _
    rw [a1, a2]
    have b1 : T ≤ T * e := by have := Int.mul_le_mul_of_nonneg_left (show 1 ≤ e by omega) (Int.le_of_lt hT); omega
    rcases hd with ⟨rfl, h0, h1, h3⟩ | ⟨rfl, h0, h1, h3⟩
    · have b2 : θ ≤ θ * e := by have := Int.mul_le_mul_of_nonneg_left (show 1 ≤ e by omega) (show 0 ≤ θ by omega); omega
      omega
    · have b2 : 0 ≤ θ * e := Int.mul_nonneg h3 (by omega)
      omega
theorem diffs_map {xs gs : List Int} (h : gs.length = xs.length) (φ : Int → Int) : ((diffs xs gs).map φ).sum = ((List.range xs.length).map fun i => φ (xs.getD i 0 * gs.sum - gs.getD i 0 * xs.sum)).sum := by
  rw [map_range, diffs_length h]
  congr 1
  refine List.map_congr_left fun i hi => ?_
  have hi : i < xs.length := by simpa using hi
  rw [getD_of (diffs_at (at_getD hi) (at_getD (xs := gs) (by omega)))]
theorem least {xs ys gs ls : List Int} (f : RemFin xs gs.sum ls ys) (o : RemOk xs gs.sum ls) (hl : gs.length = xs.length) (φ : Int → Int) (c : Int → Int)
    (hφ : ∀ θ r d e : Int, ((d = r ∧ 0 ≤ r ∧ r ≤ θ ∧ θ ≤ xs.sum) ∨ (d = r - xs.sum ∧ r < xs.sum ∧ θ ≤ r ∧ 0 ≤ θ)) → φ d + c θ * e ≤ φ (d - e * xs.sum)) :
    ((diffs xs ys).map φ).sum ≤ ((diffs xs gs).map φ).sum := by
  obtain ⟨θ, h0, h1, hth⟩ := f.thresh o
  rw [diffs_map f.len, diffs_map hl, f.sum]
  have hz : ((List.range xs.length).map fun i => c θ * (gs.getD i 0 - ys.getD i 0)).sum = 0 := by
    rw [range_mul]
    have e1 : ((List.range xs.length).map fun i => gs.getD i 0 - ys.getD i 0).sum = 0 := by
      have e2 := range_sum gs
      have e3 := range_sum ys
      rw [hl] at e2
      rw [f.len, f.sum] at e3
      have := range_add xs.length (fun i => gs.getD i 0 - ys.getD i 0) (fun i => ys.getD i 0)
      simp only [Int.sub_add_cancel] at this
      omega
    rw [e1, Int.mul_zero]
  have hle := sum_diff_le (n := xs.length) (f := fun i => φ (xs.getD i 0 * gs.sum - ys.getD i 0 * xs.sum) + c θ * (gs.getD i 0 - ys.getD i 0)) (g := fun i => φ (xs.getD i 0 * gs.sum - gs.getD i 0 * xs.sum)) (fun i hi => by
    have hw := whole_getD (s := gs.sum) hi
    have hr := rest_getD (s := gs.sum) hi
    have hdm := Int.mul_ediv_add_emod (xs.getD i 0 * gs.sum) xs.sum
    rw [← hw, ← hr] at hdm
    have r0 := o.rest0 i
    have r1 := o.rest1 hi
    have e : xs.getD i 0 * gs.sum - gs.getD i 0 * xs.sum = (xs.getD i 0 * gs.sum - ys.getD i 0 * xs.sum) - (gs.getD i 0 - ys.getD i 0) * xs.sum := by rw [Int.sub_mul]; omega
    rw [e]
    refine hφ θ ((restL xs gs.sum).getD i 0) _ _ ?_
    rcases hth i hi with ⟨ha, hb⟩ | ⟨ha, hb⟩
    · refine .inl ⟨?_, r0, hb, h1⟩
      rw [ha, Int.mul_comm ((wholeL xs gs.sum).getD i 0)]; omega
    · refine .inr ⟨?_, r1, hb, h0⟩
      rw [ha, Int.add_mul, Int.one_mul, Int.mul_comm ((wholeL xs gs.sum).getD i 0)]; omega)
  rw [range_add, hz] at hle
  omega
theorem gap_least {xs ys gs ls : List Int} (f : RemFin xs gs.sum ls ys) (o : RemOk xs gs.sum ls) (hl : gs.length = xs.length) : gapL (diffs xs ys) ≤ gapL (diffs xs gs) :=
  least f o hl (fun d => max d (-d)) (fun θ => xs.sum - 2 * θ) (fun _ _ _ _ h => gap_step o.s0 h)
theorem sq_least {xs ys gs ls : List Int} (f : RemFin xs gs.sum ls ys) (o : RemOk xs gs.sum ls) (hl : gs.length = xs.length) : sqL (diffs xs ys) ≤ sqL (diffs xs gs) :=
  least f o hl (fun d => d * d) (fun θ => (xs.sum - 2 * θ) * xs.sum) (fun _ _ _ _ h => sq_step o.s0 h)
theorem gapF_val {xs gs : List Int} (hv : vv xs = true) (hg : gv gs xs.length = true) : gapF xs gs = gapL (diffs xs gs) := by simp [gapF, hv, hg]
theorem sqF_val {xs gs : List Int} (hv : vv xs = true) (hg : gv gs xs.length = true) : sqF xs gs = sqL (diffs xs gs) := by simp [sqF, hv, hg]
theorem gapF_pos {xs gs : List Int} {r : Int} (h : gapF xs gs = r) (h0 : 0 ≤ r) : vv xs = true ∧ gv gs xs.length = true ∧ r = gapL (diffs xs gs) := by
  unfold gapF at h
  split at h
  · rename_i hc
    rw [Bool.and_eq_true] at hc
    exact ⟨hc.1, hc.2, h.symm⟩
  · omega
theorem sqF_pos {xs gs : List Int} {r : Int} (h : sqF xs gs = r) (h0 : 0 ≤ r) : vv xs = true ∧ gv gs xs.length = true ∧ r = sqL (diffs xs gs) := by
  unfold sqF at h
  split at h
  · rename_i hc
    rw [Bool.and_eq_true] at hc
    exact ⟨hc.1, hc.2, h.symm⟩
  · omega
end Go.Proofs.Ytimldfknbeiadaa
