/-
  Districts in plain Lean; the drawn ones; what a law over a code learns of them.
-/
import Derived.Test.YtcddfibohcgjbaaDistD
import Derived.Test.YtcddfibohcgjbaaDistV
import Derived.Test.YtcddfibohcgjbaaDrawQ
namespace Go.Proofs.Ytcddfibohcgjbaa
open Go.ChangeShapes Go.WideShapes Go.ChangeAt Go.RowKit
theorem getD_out {xs : List Int} {j : Nat} (h : xs.length ≤ j) : xs.getD j 0 = 0 := by
  rw [List.getD_eq_getElem?_getD, List.getElem?_eq_none h]; rfl
theorem col_cons (x : List Int) (t : List (List Int)) (j : Nat) : col (x :: t) j = x.getD j 0 + col t j := by simp [col]
theorem col_append (a b : List (List Int)) (j : Nat) : col (a ++ b) j = col a j + col b j := by
  induction a with
  | nil => simp [col]
  | cons x t ih => rw [List.cons_append, col_cons, col_cons, ih]; omega
theorem tog_rot (n : Nat) (x : List Int) (t : List (List Int)) : tog n (t ++ [x]) = tog n (x :: t) := by
  unfold tog
  refine List.map_congr_left fun j _ => ?_
  rw [col_append, col_cons, col_cons]
  simp [col]; omega
theorem tog_one {n : Nat} {x : List Int} (h : x.length = n) : tog n [x] = x := by
  apply List.ext_getElem?
  intro i
  unfold tog
  rw [List.getElem?_map]
  by_cases hi : i < n
  · have : i < x.length := by omega
    simp [hi, col, this]
  · rw [List.getElem?_eq_none (by simp; omega), List.getElem?_eq_none (by omega)]; rfl
theorem rangeAdd (n : Nat) (f g : Nat → Int) : ((List.range n).map fun i => f i + g i).sum = ((List.range n).map f).sum + ((List.range n).map g).sum := by
  induction n with
  | zero => rfl
  | succ n ih => simp only [List.range_succ, List.map_append, sum_append, List.map_cons, List.map_nil, List.sum_cons, List.sum_nil, ih]; omega
theorem rangeSum {xs : List Int} {n : Nat} (h : xs.length = n) : ((List.range n).map fun i => xs.getD i 0).sum = xs.sum := by
  congr 1
  apply List.ext_getElem?
  intro i
  rw [List.getElem?_map]
  by_cases hi : i < n
  · have : i < xs.length := by omega
    simp [hi, this]
  · rw [List.getElem?_eq_none (by simp; omega), List.getElem?_eq_none (by omega)]; rfl
/-- The sums of the rows are together that of all. -/
theorem tog_sum {n : Nat} {xss : List (List Int)} (h : ∀ xs ∈ xss, xs.length = n) : (tog n xss).sum = (xss.map List.sum).sum := by
  induction xss with
  | nil => rw [tog_none, List.map_nil]; induction n with
    | zero => rfl
    | succ n ih => simp [List.replicate_succ]
  | cons x t ih =>
    have e : tog n (x :: t) = (List.range n).map fun j => x.getD j 0 + col t j := List.map_congr_left fun j _ => col_cons x t j
    rw [e, rangeAdd, rangeSum (h x (by simp))]
    have : ((List.range n).map fun j => col t j).sum = (tog n t).sum := rfl
    rw [this, ih (fun xs hx => h xs (by simp [hx]))]
    simp
theorem dv_rot {x : List Int} {t : List (List Int)} (h : dvB (x :: t) = true) : dvB (t ++ [x]) = true ∧ tog (wid (t ++ [x])) (t ++ [x]) = tog (wid (x :: t)) (x :: t) := by
  obtain ⟨h1, h2, h3⟩ := dvB_iff.1 h
  have hw : wid (t ++ [x]) = wid (x :: t) := by
    cases t with
    | nil => rfl
    | cons y u => exact (h2 y (by simp)).2
  have e : tog (wid (t ++ [x])) (t ++ [x]) = tog (wid (x :: t)) (x :: t) := by rw [hw, tog_rot]
  refine ⟨dvB_iff.2 ⟨by simp at h1 ⊢; omega, fun xs hx => ?_, by rw [e]; exact h3⟩, e⟩
  rw [hw]
  refine h2 xs ?_
  rcases List.mem_append.1 hx with hx | hx
  · simp [hx]
  · simp at hx; simp [hx]
theorem dv_first {xss : List (List Int)} (h : dvB xss = true) : dvB (xss.take 1) = true := by
  obtain ⟨h1, h2, h3⟩ := dvB_iff.1 h
  cases xss with
  | nil => simp at h1
  | cons x t =>
    have hx := h2 x (by simp)
    have hw : wid [x] = x.length := rfl
    refine dvB_iff.2 ⟨by simp, fun xs hxs => ?_, ?_⟩
    · simp at hxs; subst hxs; exact ⟨hx.1, rfl⟩
    · show vv (tog (wid [x]) [x]) = true
      rw [hw, tog_one rfl]
      exact hx.1
/-- A district with a further party is not one of them. -/
theorem dv_part {xss : List (List Int)} {k : Nat} {xs : List Int} (h : dvB xss = true) (hl : 1 < xss.length) (hk : xss[k]? = some xs) : dvB (xss.set k (xs ++ [1])) = false := by
  obtain ⟨_, h2, _⟩ := dvB_iff.1 h
  have hkl := (List.getElem?_eq_some_iff.1 hk).1
  have hx := (h2 xs (List.mem_of_getElem? hk)).2
  cases hc : dvB (xss.set k (xs ++ [1])) with
  | false => rfl
  | true =>
    exfalso
    obtain ⟨_, g2, _⟩ := dvB_iff.1 hc
    have e1 := (g2 (xs ++ [1]) (List.mem_of_getElem? (i := k) (List.getElem?_set_self hkl))).2
    have hw0 : wid xss = (xss[0]'(by omega)).length := by rw [wid_of (List.getElem?_eq_getElem (by omega))]
    by_cases h0 : k = 0
    · subst h0
      have hb := List.getElem?_eq_getElem (l := xss) (i := 1) hl
      have e2 := (g2 xss[1] (List.mem_of_getElem? (i := 1) (by rw [List.getElem?_set_ne (by omega)]; exact hb))).2
      have e3 := (h2 xss[1] (List.mem_of_getElem? hb)).2
      rw [← e2] at e1
      simp at e1
      omega
    · have hb := List.getElem?_eq_getElem (l := xss) (i := 0) (by omega)
      have e2 := (g2 xss[0] (List.mem_of_getElem? (i := 0) (by rw [List.getElem?_set_ne (by omega)]; exact hb))).2
      have e3 := (h2 xss[0] (List.mem_of_getElem? hb)).2
      rw [← e2] at e1
      simp at e1
      omega
/-- Districts that are drawn. -/
def DrawnD (w : World) (e : Ending) (w' : World) : Prop := ∃ (A : Option Addr) (c : Nat) (vs : List Row), e = .returned (.slice A vs.length c) ∧ vs.length ≤ 12 ∧ OwnT w' w.heap.size w.heap.size A vs.length c vs ∧ Below w.heap.size w w'
theorem tot_small {vs : List Row} {n : Nat} (hn : vs.length ≤ n) (h : ∀ v ∈ vs, v.2.2.length ≤ 10) : tot (vs.map fun v => v.2.2) ≤ n * 11 := by
  have key : ∀ l : List Row, (∀ v ∈ l, v.2.2.length ≤ 10) → tot (l.map fun v => v.2.2) ≤ l.length * 11 := by
    intro l
    induction l with
    | nil => intro _; simp [tot]
    | cons a t ih =>
      intro hl
      have h1 := hl a (by simp)
      have h2 := ih (fun v hv => hl v (by simp [hv]))
      unfold tot at h2 ⊢
      simp only [List.map_cons, List.length_cons, List.sum_cons] at h2 ⊢
      omega
  have := key vs h
  omega
set_option maxHeartbeats 400000 in
theorem drawDVotes_any (A : Option Addr) (n c : Nat) (w : World) (h : BytsA w A n c) : Calls Try.prog 36 #[.slice A n c] w (DrawnD w) := by
  go_enter Try.func36, Try.ntmps36
  go_wp2_with fail
  refine (l6Open_any _ _ _ _ h.read h.len h.cap).mono ?_
  rintro e w1 ⟨rb, rfl, hrb, hrd1, hb1⟩
  go_wp2_with fail
  refine (l93Districts_any rb 0 _ hrd1 (by omega)).mono ?_
  rintro e w2 ⟨A2, c2, vs, m2, p2, rfl, hm2, hT2, hp2, hrd2, hdr2, _⟩
  go_wp2
  go_ret
  obtain rfl := hT2.len
  exact ⟨A2, c2, vs, rfl, hm2, (⟨hT2.len, (hT2.mono hb1.size).row, fun v hv => ⟨(hT2.own v hv).1.mono hb1.size, (hT2.own v hv).2⟩⟩ : OwnT w2 w.heap.size w.heap.size _ _ _ _), hb1.trans (hdr2.to_below hrb hb1.size)⟩
end Go.Proofs.Ytcddfibohcgjbaa
