/-
  One seat, plain: who has a majority of the first choices wins at the first step.
-/
import Derived.Test.YtiinfbjlkbjmmaaQRunX
import Derived.Test.YtiinfbjlkbjmmaaQTraS
import Derived.Test.YtiinfbjlkbjmmaaQPilesF
namespace Go.Proofs.Ytiinfbjlkbjmmaa
open Go.RowKit
set_option maxRecDepth 100000 in
theorem pl_length (ps : List (ByteArray × Int)) : (pl ps).length = ps.length := by simp [pl]
set_option maxRecDepth 100000 in
theorem redP_one (a : Nat) : redP a 1 = (a, 1) := redP_self (a := (a, 1)) (Nat.gcd_one_right _)
set_option maxRecDepth 100000 in
/-- With weights of one the counts are the first counts. -/
theorem cnt_ones {left : List Bool} {ps : List (ByteArray × Int)} {n : Nat} (h : FitOk ps n) (hl : left.length = n) :
    cntT left ((pl ps).zip (List.replicate ps.length (1, 1))) = (cntL left (pl ps)).map fun c => (c.toNat, 1) := by
  have key : ∀ k, k ≤ ps.length → cntT left (((pl ps).zip (List.replicate ps.length (1, 1))).take k) = (cntL left ((pl ps).take k)).map fun c => (c.toNat, 1) := by
    intro k
    induction k with
    | zero =>
      intro _
      rw [List.take_zero, List.take_zero, cntL_nil]
      simp [cntT]
    | succ k ih =>
      intro hk
      have ih := ih (by omega)
      have hkp : k < (pl ps).length := by rw [pl_length]; omega
      obtain ⟨p, hp⟩ : ∃ p, (pl ps)[k]? = some p := ⟨_, List.getElem?_eq_getElem hkp⟩
      have hz : ((pl ps).zip (List.replicate ps.length ((1, 1) : Fr)))[k]? = some (p, (1, 1)) := by
        rw [List.getElem?_zip_eq_some]
        exact ⟨hp, by rw [List.getElem?_replicate]; simp; omega⟩
      rw [cntT_snoc hz, ih, take_snoc _ _ _ hp]
      have hpm := List.mem_of_getElem? hp
      rcases firstL_mem (left := left) (b := p.bal) with e | ⟨hm, _⟩
      · rw [cntL_miss e]
        unfold cntStep
        rw [if_neg (by rw [e]; omega)]
      · obtain ⟨h0, h1⟩ := pl_rng h p hpm _ hm
        obtain ⟨f, hf⟩ : ∃ f : Nat, firstL left p.bal = (f : Int) := ⟨(firstL left p.bal).toNat, by omega⟩
        have hfl : f < left.length := by omega
        rw [cntL_hit hf]
        unfold cntStep
        rw [if_pos h0, hf, Int.toNat_natCast, List.map_set]
        congr 1
        have hat := cntL_at (ps := (pl ps).take k) hfl
        rw [List.getD_eq_getElem?_getD, List.getElem?_map, hat]
        show addP ((cntC left f ((pl ps).take k)).toNat, 1) (mulP (1, 1) p.many.toNat) = _
        have hnn := cntC_nn (left := left) (ps := (pl ps).take k) (fun q hq => pl_nn h.many q (List.mem_of_mem_take hq)) f
        have hpn := pl_nn h.many p hpm
        have e1 : mulP (1, 1) p.many.toNat = (p.many.toNat, 1) := by
          unfold mulP
          rw [Nat.one_mul, redP_one]
        rw [e1]
        unfold addP
        rw [Nat.mul_one, Nat.mul_one, Nat.mul_one, redP_one]
        congr 1
        omega
  have := key ps.length (Nat.le_refl _)
  rw [List.take_of_length_le (by simp [pl_length]), List.take_of_length_le (by rw [pl_length]; exact Nat.le_refl _)] at this
  exact this
set_option maxRecDepth 100000 in
theorem sum_set0 {l : List Int} {i : Nat} {x : Int} (h : l[i]? = some x) : (l.set i 0).sum = l.sum - x := by
  induction l generalizing i with
  | nil => simp at h
  | cons a t ih =>
    cases i with
    | zero => simp at h; subst h; simp; omega
    | succ i =>
      simp at h
      have := ih (i := i) (by simpa using h)
      rw [List.set_cons_succ, List.sum_cons, List.sum_cons, this]
      omega
set_option maxRecDepth 100000 in
/-- Two of them are not more than all. -/
theorem two_le {l : List Int} (h0 : ∀ x ∈ l, 0 ≤ x) {i j : Nat} {x y : Int} (hij : i ≠ j) (hi : l[i]? = some x) (hj : l[j]? = some y) : x + y ≤ l.sum := by
  have h1 := sum_set0 hi
  have h2 : (l.set i 0)[j]? = some y := by rw [List.getElem?_set_ne hij]; exact hj
  have h3 := sum_set0 h2
  have h4 := sum_nonneg ((l.set i 0).set j 0) (by
    intro z hz
    rcases mem_set hz with hz | rfl
    · rcases mem_set hz with hz | rfl
      · exact h0 z hz
      · omega
    · omega)
  omega
set_option maxRecDepth 100000 in
theorem atF_map {cs : List Int} {q : Nat} {x : Int} (h : cs[q]? = some x) : atF (cs.map fun c => (c.toNat, 1)) (q : Int) = (x.toNat, 1) :=
  atF_at (by rw [List.getElem?_map, h]; rfl)
set_option maxRecDepth 100000 in
/-- Who has the only greatest count is the first. -/
theorem most_is {cs : List Int} {left : List Bool} {lots : List Int} {i : Nat} {x : Int} (hl : left.length = cs.length) (hf : ∀ q : Nat, q < cs.length → left[q]? = some false) (hr : ∀ l ∈ lots, 0 ≤ l ∧ l < cs.length) (hi : cs[i]? = some x) (hx : ∀ (j : Nat) y, cs[j]? = some y → j ≠ i → 0 ≤ y ∧ y < x) (hm : (i : Int) ∈ lots) :
    mostT (cs.map fun c => (c.toNat, 1)) left lots = i := by
  have hil := (List.getElem?_eq_some_iff.1 hi).1
  have stay : ∀ ls : List Int, (∀ l ∈ ls, 0 ≤ l ∧ l < cs.length) → ls.foldl (stepHi (cs.map fun c => (c.toNat, 1)) left) (i : Int) = i := by
    intro ls
    induction ls with
    | nil => intro _; rfl
    | cons a t ih =>
      intro hr
      obtain ⟨h0, h1⟩ := hr a (by simp)
      obtain ⟨q, rfl⟩ : ∃ q : Nat, a = (q : Int) := ⟨a.toNat, by omega⟩
      have hq : q < cs.length := by omega
      rw [List.foldl_cons]
      have e : stepHi (cs.map fun c => (c.toNat, 1)) left (i : Int) (q : Int) = i := by
        unfold stepHi
        rw [if_neg (by rw [atB_at (hf q hq)]; simp)]
        obtain ⟨y, hy⟩ : ∃ y, cs[q]? = some y := ⟨_, List.getElem?_eq_getElem hq⟩
        rw [atF_map hi, atF_map hy]
        by_cases hqi : q = i
        · subst hqi
          split <;> rfl
        · obtain ⟨h2, h3⟩ := hx q y hy hqi
          rw [if_neg]
          unfold lessP
          simp
          omega
      rw [e]
      exact ih (fun l hl => hr l (by simp [hl]))
  have key : ∀ (ls : List Int) (b : Int), (∀ l ∈ ls, 0 ≤ l ∧ l < cs.length) → (b < 0 ∨ ∃ q : Nat, b = q ∧ q < cs.length) → (i : Int) ∈ ls → ls.foldl (stepHi (cs.map fun c => (c.toNat, 1)) left) b = i := by
    intro ls
    induction ls with
    | nil => intro b _ _ h; simp at h
    | cons a t ih =>
      intro b hr hb hm
      obtain ⟨h0, h1⟩ := hr a (by simp)
      obtain ⟨q, rfl⟩ : ∃ q : Nat, a = (q : Int) := ⟨a.toNat, by omega⟩
      have hq : q < cs.length := by omega
      rw [List.foldl_cons]
      by_cases hqi : q = i
      · subst hqi
        have e : stepHi (cs.map fun c => (c.toNat, 1)) left b (q : Int) = q := by
          unfold stepHi
          rw [if_neg (by rw [atB_at (hf q hq)]; simp)]
          rcases hb with hb | ⟨p, rfl, hp⟩
          · rw [if_pos (.inl hb)]
          · obtain ⟨y, hy⟩ : ∃ y, cs[p]? = some y := ⟨_, List.getElem?_eq_getElem hp⟩
            rw [atF_map hi, atF_map hy]
            by_cases hpq : p = q
            · subst hpq
              split <;> rfl
            · obtain ⟨h2, h3⟩ := hx p y hy hpq
              rw [if_pos]
              right
              unfold lessP
              simp
              omega
        rw [e]
        exact stay t (fun l hl => hr l (by simp [hl]))
      · have hm' : (i : Int) ∈ t := by
          rcases List.mem_cons.1 hm with e | e
          · exact absurd (by omega) hqi
          · exact e
        refine ih _ (fun l hl => hr l (by simp [hl])) ?_ hm'
        rcases stepHi_or (cs.map fun c => (c.toNat, 1)) left b (q : Int) with e | ⟨e, _⟩
        · rw [e]; exact hb
        · rw [e]; exact .inr ⟨q, rfl, hq⟩
  exact key lots (-1) hr (.inl (by omega)) hm
set_option maxRecDepth 100000 in
theorem great_is {cs lots : List Int} {i : Nat} {x : Int} (hr : ∀ l ∈ lots, 0 ≤ l ∧ l < cs.length) (hi : cs[i]? = some x) (hx : ∀ (j : Nat) y, cs[j]? = some y → j ≠ i → 0 ≤ y ∧ y < x) (hm : (i : Int) ∈ lots) : greatP cs lots = i := by
  have hil := (List.getElem?_eq_some_iff.1 hi).1
  have stay : ∀ ls : List Int, (∀ l ∈ ls, 0 ≤ l ∧ l < cs.length) → ls.foldl (stepG cs) (i : Int) = i := by
    intro ls
    induction ls with
    | nil => intro _; rfl
    | cons a t ih =>
      intro hr
      obtain ⟨h0, h1⟩ := hr a (by simp)
      obtain ⟨q, rfl⟩ : ∃ q : Nat, a = (q : Int) := ⟨a.toNat, by omega⟩
      have hq : q < cs.length := by omega
      rw [List.foldl_cons]
      obtain ⟨y, hy⟩ : ∃ y, cs[q]? = some y := ⟨_, List.getElem?_eq_getElem hq⟩
      have e : stepG cs (i : Int) (q : Int) = i := by
        refine stepG_f hy hi ?_
        by_cases hqi : q = i
        · subst hqi
          rw [hi] at hy
          injection hy with hy
          omega
        · have := hx q y hy hqi
          omega
      rw [e]
      exact ih (fun l hl => hr l (by simp [hl]))
  have key : ∀ (ls : List Int) (b : Nat), b < cs.length → (∀ l ∈ ls, 0 ≤ l ∧ l < cs.length) → ((b : Int) = i ∨ (i : Int) ∈ ls) → ls.foldl (stepG cs) (b : Int) = i := by
    intro ls
    induction ls with
    | nil =>
      intro b _ _ h
      rcases h with h | h
      · exact h
      · simp at h
    | cons a t ih =>
      intro b hb hr hm
      obtain ⟨h0, h1⟩ := hr a (by simp)
      obtain ⟨q, rfl⟩ : ∃ q : Nat, a = (q : Int) := ⟨a.toNat, by omega⟩
      have hq : q < cs.length := by omega
      by_cases hbi : b = i
      · subst hbi
        exact stay _ hr
      · obtain ⟨y, hy⟩ : ∃ y, cs[q]? = some y := ⟨_, List.getElem?_eq_getElem hq⟩
        obtain ⟨z, hz⟩ : ∃ z, cs[b]? = some z := ⟨_, List.getElem?_eq_getElem hb⟩
        rw [List.foldl_cons]
        by_cases hqi : q = i
        · subst hqi
          rw [hi] at hy
          injection hy with hy
          subst hy
          rw [stepG_t hi hz (hx b z hz hbi).2]
          exact stay t (fun l hl => hr l (by simp [hl]))
        · have hm' : (i : Int) ∈ t := by
            rcases hm with e | e
            · exact absurd (by omega) hbi
            · rcases List.mem_cons.1 e with e | e
              · exact absurd (by omega) hqi
              · exact e
          by_cases hlt : z < y
          · rw [stepG_t hy hz hlt]
            exact ih q hq (fun l hl => hr l (by simp [hl])) (.inr hm')
          · rw [stepG_f hy hz hlt]
            exact ih b hb (fun l hl => hr l (by simp [hl])) (.inr hm')
  cases lots with
  | nil => simp at hm
  | cons a t =>
    obtain ⟨h0, h1⟩ := hr a (by simp)
    obtain ⟨q, rfl⟩ : ∃ q : Nat, a = (q : Int) := ⟨a.toNat, by omega⟩
    exact key _ q (by omega) hr (.inr hm)
set_option maxRecDepth 100000 in
theorem mostL_ge {cs : List Int} {x : Int} (h : x ∈ cs) : x ≤ mostL cs := (le_foldl_max cs 0).2 x h
set_option maxRecDepth 100000 in
/-- Who has a majority wins at once. -/
theorem major_at {ps : List (ByteArray × Int)} {lots : List Int} (h : (lv lots && fitV ps lots.length) = true) {x : Int} (hx : x ∈ cntL (List.replicate lots.length false) (pl ps)) (hs : (cntL (List.replicate lots.length false) (pl ps)).sum < 2 * x) :
    rwF ps lots = greatP (cntL (List.replicate lots.length false) (pl ps)) lots := by
  have h2 := h
  simp only [Bool.and_eq_true] at h2
  have hl := (lv_iff.1 h2.1).1.1
  obtain ⟨m, hm⟩ : ∃ m, lots.length = m + 1 := ⟨lots.length - 1, by omega⟩
  have hd : doneF (cntL (List.replicate lots.length false) (pl ps)) (List.replicate lots.length false) = true := by
    have := mostL_ge hx
    unfold doneF
    rw [Bool.or_eq_true]
    right
    simp
    omega
  have hr : roundsF (pl ps) lots lots.length (List.replicate lots.length false) = [(cntL (List.replicate lots.length false) (pl ps), -1)] := by
    conv => lhs; rw [show roundsF (pl ps) lots lots.length (List.replicate lots.length false) = roundsF (pl ps) lots (m + 1) (List.replicate lots.length false) by rw [← hm]]
    exact roundsF_done hd
  rw [rw_t h, hr]
  exact winF_form [] _ _ _
/-- Who is elected. -/
def winT (ss : List Stp) : List Int := (ss.filter fun s => s.2.2 != 2).map fun s => s.2.1
set_option maxRecDepth 100000 in
theorem one_seat {ps : List (ByteArray × Int)} {lots : List Int} (h : trOk ps lots 1 = true) {i : Nat} {x : Int} (hi : (cntL (List.replicate lots.length false) (pl ps))[i]? = some x) (hx : totM ps < 2 * x) :
    winT (trF ps lots 1).1 = [(i : Int)] ∧ rwF ps lots = i := by
  have h2 := h
  unfold trOk at h2
  simp only [Bool.and_eq_true] at h2
  obtain ⟨⟨⟨hlv, hfit⟩, _⟩, _⟩ := h2
  have hF := fitOk_of hfit
  have hsum := cntL_sum_le (List.replicate lots.length false) hF
  have hcb := cnt_bds hF (List.replicate lots.length false)
  have hcl : (cntL (List.replicate lots.length false) (pl ps)).length = lots.length := by rw [cntL_len, List.length_replicate]
  have htot := totM_all hF
  have hone := cnt_ones (left := List.replicate lots.length false) hF (by rw [List.length_replicate])
  have hmaj := major_at (ps := ps) (lots := lots) (by rw [hlv, hfit]; rfl) (List.mem_of_getElem? hi) (by omega)
  rw [tr_t h, hmaj]
  unfold startT
  generalize cntL (List.replicate lots.length false) (pl ps) = cs at *
  have hil := (List.getElem?_eq_some_iff.1 hi).1
  obtain ⟨_, hrng, _⟩ := lv_iff.1 hlv
  have hlen := (lv_iff.1 hlv).1.1
  have hother : ∀ (j : Nat) y, cs[j]? = some y → j ≠ i → 0 ≤ y ∧ y < x := by
    intro j y hy hne
    have h0 := (hcb y (List.mem_of_getElem? hy)).1
    have := two_le (fun z hz => (hcb z hz).1) hne hy hi
    omega
  have hrr : ∀ l ∈ lots, 0 ≤ l ∧ l < cs.length := fun l hl => by have := hrng l hl; omega
  have him := lots_all hlv (i := i) (by omega)
  have hmost := most_is (left := List.replicate lots.length false) (by rw [List.length_replicate]; omega) (fun q hq => by rw [List.getElem?_replicate]; simp; omega) hrr hi hother him
  refine ⟨?_, great_is hrr hi hother him⟩
  obtain ⟨m, hm⟩ : ∃ m, lots.length = m + 1 := ⟨lots.length - 1, by omega⟩
  have hstep : ∀ k, ∀ left ws, stepsT (pl ps) lots (quoT (totM ps).toNat 1) k left ws 0 = [] := by
    intro k left ws
    cases k with
    | zero => rfl
    | succ k => unfold stepsT; rw [if_pos rfl]
  have hx0 : 0 ≤ x := by omega
  show winT (stepsT (pl ps) lots (quoT (totM ps).toNat 1) lots.length (List.replicate lots.length false) (List.replicate ps.length (1, 1)) 1) = _
  have e : ∀ n, n = m + 1 → stepsT (pl ps) lots (quoT (totM ps).toNat 1) n (List.replicate lots.length false) (List.replicate ps.length (1, 1)) 1 = [(cs.map fun c => (c.toNat, 1), (i : Int), 1)] := by
    intro n hn
    subst hn
    unfold stepsT
    rw [if_neg (by omega), hone, hmost, if_pos ?_, hstep]
    rw [atF_map hi]
    unfold lessP quoT
    simp
    omega
  rw [e lots.length hm]
  rfl
set_option maxRecDepth 100000 in
theorem stepsT_small {ps : List Pl} {lots : List Int} {q : Nat} (k : Nat) : ∀ (left : List Bool) (ws : List Fr) (s : Nat), (stepsT ps lots q k left ws s).length ≤ k ∧ ∀ st ∈ stepsT ps lots q k left ws s, st.1.length = left.length := by
  induction k with
  | zero => intro left ws s; unfold stepsT; simp
  | succ k ih =>
    intro left ws s
    unfold stepsT
    split
    · simp
    · split
      · have h := ih (left.set (mostT (cntT left (ps.zip ws)) left lots).toNat true) (weighT left (mostT (cntT left (ps.zip ws)) left lots) (atF (cntT left (ps.zip ws)) (mostT (cntT left (ps.zip ws)) left lots)) q ps ws) (s - 1)
        refine ⟨by simp only [List.length_cons]; omega, fun st hst => ?_⟩
        rcases List.mem_cons.1 hst with rfl | hst
        · exact cntT_len _ _
        · have := h.2 st hst
          rwa [List.length_set] at this
      · split
        · have h := ih (left.set (mostT (cntT left (ps.zip ws)) left lots).toNat true) ws (s - 1)
          refine ⟨by simp only [List.length_cons]; omega, fun st hst => ?_⟩
          rcases List.mem_cons.1 hst with rfl | hst
          · exact cntT_len _ _
          · have := h.2 st hst
            rwa [List.length_set] at this
        · have h := ih (left.set (leastT (cntT left (ps.zip ws)) left lots).toNat true) ws s
          refine ⟨by simp only [List.length_cons]; omega, fun st hst => ?_⟩
          rcases List.mem_cons.1 hst with rfl | hst
          · exact cntT_len _ _
          · have := h.2 st hst
            rwa [List.length_set] at this
set_option maxRecDepth 100000 in
theorem tr_small (ps : List (ByteArray × Int)) (lots : List Int) (s : Int) : (trF ps lots s).1.length ≤ 5 ∧ ∀ st ∈ (trF ps lots s).1, st.1.length ≤ 5 := by
  cases h : trOk ps lots s
  · rw [tr_f h]; simp
  · rw [tr_t h]
    unfold startT
    have h2 := h
    unfold trOk at h2
    simp only [Bool.and_eq_true] at h2
    have hl := (lv_iff.1 h2.1.1.1).1.2
    have := stepsT_small (ps := pl ps) (lots := lots) (q := quoT (totM ps).toNat s.toNat) lots.length (List.replicate lots.length false) (List.replicate ps.length (1, 1)) s.toNat
    rw [List.length_replicate] at this
    exact ⟨by show (stepsT _ _ _ _ _ _ _).length ≤ 5; omega, fun st hst => by have := this.2 st hst; omega⟩
end Go.Proofs.Ytiinfbjlkbjmmaa
