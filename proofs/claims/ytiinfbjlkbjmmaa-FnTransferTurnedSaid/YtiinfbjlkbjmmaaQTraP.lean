/-
  Transfers, plain: weights, counts, who is first and last, steps. Fractions are pairs of numbers in lowest terms.
-/
import Derived.Test.YtiinfbjlkbjmmaaQRunO
import Derived.Test.YtiinfbjlkbjmmaaQFrac
import Derived.Test.YtiinfbjlkbjmmaaQPilesF
namespace Go.Proofs.Ytiinfbjlkbjmmaa
open Go.RowKit
abbrev Fr := Nat × Nat
/-- Lowest terms. -/
def redP (x y : Nat) : Fr := (x / Nat.gcd x y, y / Nat.gcd x y)
def addP (a b : Fr) : Fr := redP (a.1 * b.2 + b.1 * a.2) (a.2 * b.2)
def mulP (w : Fr) (m : Nat) : Fr := redP (w.1 * m) w.2
def lessP (a b : Fr) : Bool := decide (a.1 * b.2 < b.1 * a.2)
set_option maxRecDepth 100000 in
theorem redP_pos {x y : Nat} (hy : 0 < y) : 0 < (redP x y).2 := Nat.div_pos (Nat.le_of_dvd hy (Nat.gcd_dvd_right _ _)) (Nat.gcd_pos_of_pos_right _ hy)
set_option maxRecDepth 100000 in
theorem redP_cop {x y : Nat} (hy : 0 < y) : Nat.gcd (redP x y).1 (redP x y).2 = 1 := by
  have hg := Nat.gcd_pos_of_pos_right x hy
  show Nat.gcd (x / Nat.gcd x y) (y / Nat.gcd x y) = 1
  rw [Nat.gcd_div (Nat.gcd_dvd_left _ _) (Nat.gcd_dvd_right _ _), Nat.div_self hg]
set_option maxRecDepth 100000 in
theorem redP_mul {x y : Nat} (_hy : 0 < y) : (redP x y).1 * y = x * (redP x y).2 := by
  show x / Nat.gcd x y * y = x * (y / Nat.gcd x y)
  have h1 := Nat.div_mul_cancel (Nat.gcd_dvd_left x y)
  have h2 := Nat.div_mul_cancel (Nat.gcd_dvd_right x y)
  generalize x / Nat.gcd x y = a at *
  generalize y / Nat.gcd x y = b at *
  generalize Nat.gcd x y = g at *
  rw [← h1, ← h2, Nat.mul_assoc, Nat.mul_comm b g]
set_option maxRecDepth 100000 in
/-- Fractions in lowest terms that are equal are the same. -/
theorem fr_eq {a b : Fr} (_ha : 0 < a.2) (hb : 0 < b.2) (ca : Nat.gcd a.1 a.2 = 1) (cb : Nat.gcd b.1 b.2 = 1) (h : a.1 * b.2 = b.1 * a.2) : a = b := by
  have h1 : a.2 ∣ b.2 := by
    have : a.2 ∣ a.1 * b.2 := ⟨b.1, by rw [h, Nat.mul_comm]⟩
    exact Nat.Coprime.dvd_of_dvd_mul_left (show Nat.Coprime a.2 a.1 from by rw [Nat.Coprime, Nat.gcd_comm]; exact ca) this
  have h2 : b.2 ∣ a.2 := by
    have : b.2 ∣ b.1 * a.2 := ⟨a.1, by rw [← h, Nat.mul_comm]⟩
    exact Nat.Coprime.dvd_of_dvd_mul_left (show Nat.Coprime b.2 b.1 from by rw [Nat.Coprime, Nat.gcd_comm]; exact cb) this
  have e2 : a.2 = b.2 := Nat.dvd_antisymm h1 h2
  have e1 : a.1 = b.1 := by
    rw [e2] at h
    exact Nat.eq_of_mul_eq_mul_right hb h
  exact Prod.ext e1 e2
set_option maxRecDepth 100000 in
theorem redP_eq {x y u v : Nat} (hy : 0 < y) (hv : 0 < v) (h : x * v = u * y) : redP x y = redP u v := by
  refine fr_eq (redP_pos hy) (redP_pos hv) (redP_cop hy) (redP_cop hv) ?_
  have h1 := redP_mul (x := x) hy
  have h2 := redP_mul (x := u) hv
  have p1 := redP_pos (x := x) hy
  have p2 := redP_pos (x := u) hv
  generalize redP x y = a at *
  generalize redP u v = b at *
  -- a.1 * y = x * a.2, b.1 * v = u * b.2
  have e : (a.1 * b.2) * (y * v) = (b.1 * a.2) * (y * v) := by
    calc (a.1 * b.2) * (y * v) = (a.1 * y) * (b.2 * v) := by rw [Nat.mul_mul_mul_comm]
      _ = (x * a.2) * (b.2 * v) := by rw [h1]
      _ = (x * v) * (a.2 * b.2) := by rw [Nat.mul_comm b.2 v, Nat.mul_mul_mul_comm]
      _ = (u * y) * (a.2 * b.2) := by rw [h]
      _ = (u * b.2) * (y * a.2) := by rw [Nat.mul_comm a.2 b.2, Nat.mul_mul_mul_comm]
      _ = (b.1 * v) * (y * a.2) := by rw [h2]
      _ = (b.1 * a.2) * (y * v) := by rw [Nat.mul_comm y a.2, Nat.mul_mul_mul_comm, Nat.mul_comm v y]
  exact Nat.eq_of_mul_eq_mul_right (Nat.mul_pos hy hv) e
set_option maxRecDepth 100000 in
theorem redP_scale {x y k : Nat} (hy : 0 < y) (hk : 0 < k) : redP (x * k) (y * k) = redP x y :=
  redP_eq (Nat.mul_pos hy hk) hy (by rw [Nat.mul_right_comm, Nat.mul_assoc])
set_option maxRecDepth 100000 in
theorem redP_self {a : Fr} (h : Nat.gcd a.1 a.2 = 1) : redP a.1 a.2 = a := by
  unfold redP
  rw [h, Nat.div_one, Nat.div_one]
/-- A fraction in lowest terms whose denominator divides B, and which is at most T. -/
structure FrB (B T : Nat) (f : Fr) : Prop where
  pos : 1 ≤ f.2
  dvd : f.2 ∣ B
  le : f.1 ≤ T * f.2
  cop : Nat.gcd f.1 f.2 = 1
set_option maxRecDepth 100000 in
theorem FrB.den {B T : Nat} {f : Fr} (h : FrB B T f) (hB : 0 < B) : f.2 ≤ B := Nat.le_of_dvd hB h.dvd
set_option maxRecDepth 100000 in
theorem FrB.num {B T : Nat} {f : Fr} (h : FrB B T f) (hB : 0 < B) : f.1 ≤ T * B := Nat.le_trans h.le (Nat.mul_le_mul_left T (h.den hB))
set_option maxRecDepth 100000 in
theorem FrB.mono {B T T' : Nat} {f : Fr} (h : FrB B T f) (hT : T ≤ T') : FrB B T' f := ⟨h.pos, h.dvd, Nat.le_trans h.le (Nat.mul_le_mul_right _ hT), h.cop⟩
set_option maxRecDepth 100000 in
theorem frB_red {B T x : Nat} (hB : 0 < B) (hx : x ≤ T * B) : FrB B T (redP x B) := by
  refine ⟨redP_pos hB, Nat.div_dvd_of_dvd (Nat.gcd_dvd_right _ _), ?_, redP_cop hB⟩
  have h := redP_mul (x := x) hB
  refine Nat.le_of_mul_le_mul_right (?_ : _ * B ≤ _ * B) hB
  rw [h]
  calc x * (redP x B).2 ≤ T * B * (redP x B).2 := Nat.mul_le_mul_right _ hx
    _ = T * (redP x B).2 * B := Nat.mul_right_comm _ _ _
set_option maxRecDepth 100000 in
/-- As a fraction over B. -/
theorem FrB.over {B T : Nat} {f : Fr} (h : FrB B T f) (_hB : 0 < B) : ∃ n : Nat, f.1 * B = n * f.2 ∧ n ≤ T * B := by
  obtain ⟨u, hu⟩ := h.dvd
  refine ⟨f.1 * u, by rw [hu, Nat.mul_assoc, Nat.mul_comm u]; , ?_⟩
  rw [hu, ← Nat.mul_assoc]
  exact Nat.mul_le_mul_right _ h.le
set_option maxRecDepth 100000 in
theorem addP_over {B : Nat} {a b : Fr} {n m : Nat} (hB : 0 < B) (ha : 0 < a.2) (hb : 0 < b.2) (h1 : a.1 * B = n * a.2) (h2 : b.1 * B = m * b.2) : addP a b = redP (n + m) B := by
  refine redP_eq (Nat.mul_pos ha hb) hB ?_
  rw [Nat.add_mul, Nat.add_mul]
  congr 1
  · rw [Nat.mul_right_comm, h1, Nat.mul_assoc]
  · rw [Nat.mul_right_comm, h2, Nat.mul_assoc, Nat.mul_comm b.2]
set_option maxRecDepth 100000 in
theorem FrB.add {B S T : Nat} {a b : Fr} (hB : 0 < B) (ha : FrB B S a) (hb : FrB B T b) : FrB B (S + T) (addP a b) := by
  obtain ⟨n, h1, h2⟩ := ha.over hB
  obtain ⟨m, h3, h4⟩ := hb.over hB
  rw [addP_over hB ha.pos hb.pos h1 h3]
  exact frB_red hB (by rw [Nat.add_mul]; omega)
set_option maxRecDepth 100000 in
theorem mulP_over {B : Nat} {w : Fr} {n k : Nat} (hB : 0 < B) (hw : 0 < w.2) (h1 : w.1 * B = n * w.2) : mulP w k = redP (n * k) B :=
  redP_eq hw hB (by rw [Nat.mul_right_comm, h1, Nat.mul_right_comm])
set_option maxRecDepth 100000 in
theorem FrB.mul {B : Nat} {w : Fr} (hB : 0 < B) (hw : FrB B 1 w) (k : Nat) : FrB B k (mulP w k) := by
  obtain ⟨n, h1, h2⟩ := hw.over hB
  rw [mulP_over hB hw.pos h1]
  refine frB_red hB ?_
  rw [Nat.mul_comm n k]
  exact Nat.mul_le_mul_left k (by omega)
set_option maxRecDepth 100000 in
theorem frB_zero {B : Nat} : FrB B 0 ((0, 1) : Fr) := ⟨Nat.le_refl _, Nat.one_dvd _, Nat.zero_le _, rfl⟩
set_option maxRecDepth 100000 in
theorem frB_one {B : Nat} : FrB B 1 ((1, 1) : Fr) := ⟨Nat.le_refl _, Nat.one_dvd _, Nat.le_refl _, rfl⟩
/-- The counts: each pile's ballots with their weight at the first one who is still there. -/
def cntStep (left : List Bool) (out : List Fr) (pw : Pl × Fr) : List Fr :=
  if 0 ≤ firstL left pw.1.bal then out.set (firstL left pw.1.bal).toNat (addP (out.getD (firstL left pw.1.bal).toNat (0, 1)) (mulP pw.2 pw.1.many.toNat)) else out
def cntT (left : List Bool) (pws : List (Pl × Fr)) : List Fr := pws.foldl (cntStep left) (List.replicate left.length (0, 1))
set_option maxRecDepth 100000 in
theorem cntT_snoc {left : List Bool} {pws : List (Pl × Fr)} {k : Nat} {p : Pl × Fr} (h : pws[k]? = some p) : cntT left (pws.take (k + 1)) = cntStep left (cntT left (pws.take k)) p := by
  unfold cntT
  rw [take_snoc _ _ _ h, List.foldl_append]; rfl
set_option maxRecDepth 100000 in
theorem cntStep_len (left : List Bool) (out : List Fr) (p : Pl × Fr) : (cntStep left out p).length = out.length := by
  unfold cntStep
  split
  · rw [List.length_set]
  · rfl
set_option maxRecDepth 100000 in
theorem cntT_len (left : List Bool) (pws : List (Pl × Fr)) : (cntT left pws).length = left.length := by
  have key : ∀ (pws : List (Pl × Fr)) (out : List Fr), (pws.foldl (cntStep left) out).length = out.length := by
    intro pws
    induction pws with
    | nil => intro out; rfl
    | cons p t ih => intro out; rw [List.foldl_cons, ih, cntStep_len]
  unfold cntT
  rw [key, List.length_replicate]
/-- How many ballots. -/
def manyT (pws : List (Pl × Fr)) : Nat := (pws.map fun p => p.1.many.toNat).sum
set_option maxRecDepth 100000 in
theorem natsum_app (xs ys : List Nat) : (xs ++ ys).sum = xs.sum + ys.sum := by
  induction xs with
  | nil => simp
  | cons a t ih => simp only [List.cons_append, List.sum_cons, ih]; omega
set_option maxRecDepth 100000 in
theorem manyT_snoc {pws : List (Pl × Fr)} {k : Nat} {p : Pl × Fr} (h : pws[k]? = some p) : manyT (pws.take (k + 1)) = manyT (pws.take k) + p.1.many.toNat := by
  unfold manyT
  rw [take_snoc _ _ _ h, List.map_append, natsum_app]; simp
set_option maxRecDepth 100000 in
theorem manyT_le (pws : List (Pl × Fr)) (k : Nat) : manyT (pws.take k) ≤ manyT pws := by
  conv => rhs; rw [← List.take_append_drop k pws]
  unfold manyT
  rw [List.map_append, natsum_app]
  omega
set_option maxRecDepth 100000 in
theorem mem_set {α : Type} {l : List α} {k : Nat} {a x : α} (h : x ∈ l.set k a) : x ∈ l ∨ x = a := by
  induction l generalizing k with
  | nil => simp at h
  | cons b t ih =>
    cases k with
    | zero =>
      rw [List.set_cons_zero] at h
      rcases List.mem_cons.1 h with h | h
      · exact .inr h
      · exact .inl (List.mem_cons_of_mem _ h)
    | succ k =>
      rw [List.set_cons_succ] at h
      rcases List.mem_cons.1 h with h | h
      · exact .inl (by rw [h]; exact List.mem_cons_self)
      · rcases ih h with h | h
        · exact .inl (List.mem_cons_of_mem _ h)
        · exact .inr h
set_option maxRecDepth 100000 in
theorem cntT_frB {B : Nat} (hB : 0 < B) {left : List Bool} {pws : List (Pl × Fr)} (hw : ∀ p ∈ pws, FrB B 1 p.2) : ∀ f ∈ cntT left pws, FrB B (manyT pws) f := by
  have key : ∀ (pws : List (Pl × Fr)) (out : List Fr) (S : Nat), (∀ p ∈ pws, FrB B 1 p.2) → (∀ f ∈ out, FrB B S f) → ∀ f ∈ pws.foldl (cntStep left) out, FrB B (S + manyT pws) f := by
    intro pws
    induction pws with
    | nil => intro out S _ ho f hf; exact ho f hf
    | cons p t ih =>
      intro out S hw ho f hf
      rw [List.foldl_cons] at hf
      have hm : manyT (p :: t) = p.1.many.toNat + manyT t := by simp [manyT]
      rw [hm, ← Nat.add_assoc]
      refine ih (cntStep left out p) (S + p.1.many.toNat) (fun q hq => hw q (by simp [hq])) ?_ f hf
      intro g hg
      unfold cntStep at hg
      split at hg
      · rcases mem_set hg with hg | hg
        · exact (ho g hg).mono (by omega)
        · rw [hg]
          refine FrB.add hB ?_ (FrB.mul hB (hw p (by simp)) _)
          rw [List.getD_eq_getElem?_getD]
          cases hq : out[(firstL left p.1.bal).toNat]? with
          | none => exact (frB_zero).mono (by omega)
          | some x => exact ho x (List.mem_of_getElem? hq)
      · exact (ho g hg).mono (by omega)
  have := key pws (List.replicate left.length (0, 1)) 0 hw (fun f hf => by rw [(List.mem_replicate.1 hf).2]; exact frB_zero)
  rw [Nat.zero_add] at this
  exact this
/-- A count. -/
def atF (cs : List Fr) (c : Int) : Fr := cs.getD c.toNat (0, 1)
set_option maxRecDepth 100000 in
theorem atF_at {cs : List Fr} {p : Nat} {x : Fr} (h : cs[p]? = some x) : atF cs (p : Int) = x := by
  unfold atF
  rw [Int.toNat_natCast, List.getD_eq_getElem?_getD, h]; rfl
/-- Who is first, and who last. -/
def stepHi (cs : List Fr) (left : List Bool) (b c : Int) : Int := if atB left c = true then b else if b < 0 ∨ lessP (atF cs b) (atF cs c) = true then c else b
def stepLo (cs : List Fr) (left : List Bool) (b c : Int) : Int := if atB left c = true then b else if b < 0 ∨ lessP (atF cs b) (atF cs c) = false then c else b
def mostT (cs : List Fr) (left : List Bool) (lots : List Int) : Int := lots.foldl (stepHi cs left) (-1)
def leastT (cs : List Fr) (left : List Bool) (lots : List Int) : Int := lots.foldl (stepLo cs left) (-1)
set_option maxRecDepth 100000 in
theorem foldT_in {left : List Bool} {f : Int → Int → Int} (hf : ∀ b c, f b c = b ∨ (f b c = c ∧ atB left c = false)) (ls : List Int) : ls.foldl f (-1) = -1 ∨ (ls.foldl f (-1) ∈ ls ∧ atB left (ls.foldl f (-1)) = false) := by
  have key : ∀ (ls : List Int) (o : Int) (S : List Int), (o = -1 ∨ (o ∈ S ∧ atB left o = false)) → (ls.foldl f o = -1 ∨ (ls.foldl f o ∈ S ++ ls ∧ atB left (ls.foldl f o) = false)) := by
    intro ls
    induction ls with
    | nil => intro o S h; simpa using h
    | cons c t ih =>
      intro o S h
      have := ih (f o c) (S ++ [c]) (by
        rcases hf o c with e | ⟨e, h2⟩
        · rw [e]
          rcases h with h | ⟨h1, h2⟩
          · exact .inl h
          · exact .inr ⟨by simp [h1], h2⟩
        · rw [e]
          exact .inr ⟨by simp, h2⟩)
      simpa using this
  have := key ls (-1) [] (.inl rfl)
  rw [List.nil_append] at this
  exact this
set_option maxRecDepth 100000 in
theorem foldT_some {left : List Bool} {f : Int → Int → Int} (hf : ∀ b c, f b c = b ∨ f b c = c) (h1 : ∀ b c, b < 0 → atB left c = false → f b c = c) {ls : List Int} (hr : ∀ l ∈ ls, 0 ≤ l) {c : Int} (hc : c ∈ ls) (ha : atB left c = false) : 0 ≤ ls.foldl f (-1) := by
  have key : ∀ (ls : List Int) (o : Int), (∀ l ∈ ls, 0 ≤ l) → (0 ≤ o ∨ ∃ c ∈ ls, atB left c = false) → 0 ≤ ls.foldl f o := by
    intro ls
    induction ls with
    | nil =>
      intro o _ h
      rcases h with h | ⟨c, hc, _⟩
      · exact h
      · simp at hc
    | cons a t ih =>
      intro o hr h
      have ha0 := hr a (by simp)
      refine ih _ (fun l hl => hr l (by simp [hl])) ?_
      by_cases ho : 0 ≤ o
      · left
        rcases hf o a with e | e <;> rw [e] <;> assumption
      · rcases h with h | ⟨c, hc, hac⟩
        · exact absurd h ho
        · rcases List.mem_cons.1 hc with rfl | hc
          · left
            rw [h1 o c (by omega) hac]
            exact ha0
          · exact .inr ⟨c, hc, hac⟩
  exact key ls (-1) hr (.inr ⟨c, hc, ha⟩)
set_option maxRecDepth 100000 in
theorem stepHi_or (cs : List Fr) (left : List Bool) (b c : Int) : stepHi cs left b c = b ∨ (stepHi cs left b c = c ∧ atB left c = false) := by
  unfold stepHi
  cases h : atB left c
  · rw [if_neg (by simp)]
    split
    · exact .inr ⟨rfl, rfl⟩
    · exact .inl rfl
  · exact .inl (if_pos rfl)
set_option maxRecDepth 100000 in
theorem stepLo_or (cs : List Fr) (left : List Bool) (b c : Int) : stepLo cs left b c = b ∨ (stepLo cs left b c = c ∧ atB left c = false) := by
  unfold stepLo
  cases h : atB left c
  · rw [if_neg (by simp)]
    split
    · exact .inr ⟨rfl, rfl⟩
    · exact .inl rfl
  · exact .inl (if_pos rfl)
set_option maxRecDepth 100000 in
theorem stepHi_first {cs : List Fr} {left : List Bool} {b c : Int} (hb : b < 0) (h : atB left c = false) : stepHi cs left b c = c := by
  unfold stepHi
  rw [if_neg (by rw [h]; simp), if_pos (.inl hb)]
set_option maxRecDepth 100000 in
theorem stepLo_first {cs : List Fr} {left : List Bool} {b c : Int} (hb : b < 0) (h : atB left c = false) : stepLo cs left b c = c := by
  unfold stepLo
  rw [if_neg (by rw [h]; simp), if_pos (.inl hb)]
set_option maxRecDepth 100000 in
/-- One who is still there. -/
theorem foldT_at {left : List Bool} {f : Int → Int → Int} (hf : ∀ b c, f b c = b ∨ (f b c = c ∧ atB left c = false)) (h1 : ∀ b c, b < 0 → atB left c = false → f b c = c) {lots : List Int} (hv : lv lots = true) (hl : left.length = lots.length) (ht : 1 ≤ thereL left) : ∃ q : Nat, lots.foldl f (-1) = (q : Int) ∧ left[q]? = some false ∧ q < lots.length := by
  obtain ⟨k, hk⟩ := thereL_pos ht
  have hkl := (List.getElem?_eq_some_iff.1 hk).1
  have hr := (lv_iff.1 hv).2.1
  have h3 := foldT_some (left := left) (f := f) (fun b c => by rcases hf b c with h | h; exact .inl h; exact .inr h.1) h1 (fun l hl => (hr l hl).1) (lots_all hv (i := k) (by omega)) (atB_at hk)
  rcases foldT_in hf lots with h2 | ⟨h2, h4⟩
  · omega
  · have h5 := hr _ h2
    refine ⟨(lots.foldl f (-1)).toNat, by omega, ?_, by omega⟩
    have h6 : (lots.foldl f (-1)).toNat < left.length := by omega
    unfold atB at h4
    rw [List.getD_eq_getElem?_getD, List.getElem?_eq_getElem h6] at h4
    rw [List.getElem?_eq_getElem h6]
    exact congrArg some h4
set_option maxRecDepth 100000 in
theorem most_at {cs : List Fr} {left : List Bool} {lots : List Int} (hv : lv lots = true) (hl : left.length = lots.length) (ht : 1 ≤ thereL left) : ∃ q : Nat, mostT cs left lots = (q : Int) ∧ left[q]? = some false ∧ q < lots.length :=
  foldT_at (stepHi_or cs left) (fun _ _ => stepHi_first) hv hl ht
set_option maxRecDepth 100000 in
theorem leastT_at {cs : List Fr} {left : List Bool} {lots : List Int} (hv : lv lots = true) (hl : left.length = lots.length) (ht : 1 ≤ thereL left) : ∃ q : Nat, leastT cs left lots = (q : Int) ∧ left[q]? = some false ∧ q < lots.length :=
  foldT_at (stepLo_or cs left) (fun _ _ => stepLo_first) hv hl ht
/-- The weights behind a seat. -/
def weighP (left : List Bool) (who : Int) (x : Fr) (q : Nat) (p : Pl × Fr) : Fr := if firstL left p.1.bal = who then redP (p.2.1 * (x.1 - q * x.2)) (p.2.2 * x.1) else p.2
def weighT (left : List Bool) (who : Int) (x : Fr) (q : Nat) (ps : List Pl) (ws : List Fr) : List Fr := (ps.zip ws).map (weighP left who x q)
set_option maxRecDepth 100000 in
theorem weighT_len {left : List Bool} {who : Int} {x : Fr} {q : Nat} {ps : List Pl} {ws : List Fr} (h : ws.length = ps.length) : (weighT left who x q ps ws).length = ps.length := by simp [weighT, h]
/-- A step: the counts, the candidate, what happens. -/
abbrev Stp := List Fr × Int × Int
def stepsT (ps : List Pl) (lots : List Int) (q : Nat) : Nat → List Bool → List Fr → Nat → List Stp
  | 0, _, _, _ => []
  | k + 1, left, ws, s =>
    if s = 0 then []
    else if lessP (atF (cntT left (ps.zip ws)) (mostT (cntT left (ps.zip ws)) left lots)) (q, 1) = false then
      (cntT left (ps.zip ws), mostT (cntT left (ps.zip ws)) left lots, 1) :: stepsT ps lots q k (left.set (mostT (cntT left (ps.zip ws)) left lots).toNat true) (weighT left (mostT (cntT left (ps.zip ws)) left lots) (atF (cntT left (ps.zip ws)) (mostT (cntT left (ps.zip ws)) left lots)) q ps ws) (s - 1)
    else if thereL left ≤ s then
      (cntT left (ps.zip ws), mostT (cntT left (ps.zip ws)) left lots, 3) :: stepsT ps lots q k (left.set (mostT (cntT left (ps.zip ws)) left lots).toNat true) ws (s - 1)
    else
      (cntT left (ps.zip ws), leastT (cntT left (ps.zip ws)) left lots, 2) :: stepsT ps lots q k (left.set (leastT (cntT left (ps.zip ws)) left lots).toNat true) ws s
/-- What is known of weights while seats are left. -/
def WOk (ws : List Fr) (s : Nat) : Prop := s = 0 ∨ (∀ w ∈ ws, w = (1, 1)) ∨ (s = 1 ∧ ∃ B, 1 ≤ B ∧ B ≤ 60 ∧ ∀ w ∈ ws, FrB B 1 w)
set_option maxRecDepth 100000 in
theorem WOk.bd {ws : List Fr} {s : Nat} (h : WOk ws s) (hs : 1 ≤ s) : ∃ B, 1 ≤ B ∧ B ≤ 60 ∧ ∀ w ∈ ws, FrB B 1 w := by
  rcases h with h | h | ⟨_, h⟩
  · omega
  · exact ⟨1, by omega, by omega, fun w hw => by rw [h w hw]; exact frB_one⟩
  · exact h
set_option maxRecDepth 100000 in
theorem zip_mem2 {ps : List Pl} {ws : List Fr} {p : Pl × Fr} (h : p ∈ ps.zip ws) : p.1 ∈ ps ∧ p.2 ∈ ws := ⟨(List.of_mem_zip h).1, (List.of_mem_zip h).2⟩
set_option maxRecDepth 100000 in
theorem weighT_ok {left : List Bool} {who : Int} {x : Fr} {q s : Nat} {ps : List Pl} {ws : List Fr} (h : WOk ws s) (hs : 1 ≤ s) (hs2 : s ≤ 2) (hx : ∃ B, (s = 2 → B = 1) ∧ 1 ≤ B ∧ FrB B 60 x) (hq1 : 1 ≤ q) (hq : q * x.2 ≤ x.1) : WOk (weighT left who x q ps ws) (s - 1) := by
  by_cases h1 : s = 1
  · exact .inl (by omega)
  · right; right
    have h2 : s = 2 := by omega
    refine ⟨by omega, ?_⟩
    have hone : ∀ w ∈ ws, w = (1, 1) := by
      rcases h with h | h | ⟨h, _⟩
      · omega
      · exact h
      · omega
    obtain ⟨B, hB1, _, hB⟩ := hx
    have hB1 := hB1 h2
    subst hB1
    have hx2 : x.2 = 1 := Nat.dvd_one.1 hB.dvd
    have hxl : x.1 ≤ 60 := by have := hB.le; omega
    rw [hx2, Nat.mul_one] at hq
    refine ⟨x.1, by omega, hxl, fun w hw => ?_⟩
    unfold weighT at hw
    obtain ⟨p, hp, rfl⟩ := List.mem_map.1 hw
    have hp1 := hone _ (zip_mem2 hp).2
    unfold weighP
    split
    · rw [hp1, hx2]
      simp only [Nat.one_mul, Nat.mul_one]
      exact frB_red (by omega) (by omega)
    · rw [hp1]; exact frB_one
end Go.Proofs.Ytiinfbjlkbjmmaa
/-
  Slices of fractions: what can be read, what the call owns.
-/
namespace Go.Proofs.Ytiinfbjlkbjmmaa
open Go.RowKit
/-- The cells of fractions. -/
def fcs (fs : List Fr) : List Value := fs.flatMap fun f => [.int .i64 f.1, .int .i64 f.2]
set_option maxRecDepth 100000 in
theorem fcs_len (fs : List Fr) : (fcs fs).length = fs.length * 2 := by
  induction fs with
  | nil => rfl
  | cons p t ih => simp only [fcs, List.flatMap_cons, List.length_append, List.length_cons, List.length_nil] at ih ⊢; omega
set_option maxRecDepth 100000 in
theorem fcs_app (fs gs : List Fr) : fcs (fs ++ gs) = fcs fs ++ fcs gs := by simp [fcs]
set_option maxRecDepth 100000 in
theorem fcs_cons (f : Fr) (t : List Fr) : fcs (f :: t) = .int .i64 f.1 :: .int .i64 f.2 :: fcs t := rfl
set_option maxRecDepth 100000 in
theorem fcs_at {fs : List Fr} {k : Nat} {f : Fr} (h : fs[k]? = some f) : (fcs fs)[k * 2]? = some (.int .i64 f.1) ∧ (fcs fs)[k * 2 + 1]? = some (.int .i64 f.2) := by
  induction fs generalizing k with
  | nil => simp at h
  | cons q t ih =>
    cases k with
    | zero =>
      simp at h
      subst h
      rw [fcs_cons]
      exact ⟨rfl, rfl⟩
    | succ k =>
      simp at h
      obtain ⟨h1, h2⟩ := ih h
      rw [fcs_cons, show (k + 1) * 2 = k * 2 + 1 + 1 by omega]
      exact ⟨by rw [List.getElem?_cons_succ, List.getElem?_cons_succ]; exact h1, by rw [List.getElem?_cons_succ, List.getElem?_cons_succ]; exact h2⟩
set_option maxRecDepth 100000 in
theorem fcs_set (fs : List Fr) (k : Nat) (f : Fr) : ((fcs fs).set (k * 2) (.int .i64 f.1)).set (k * 2 + 1) (.int .i64 f.2) = fcs (fs.set k f) := by
  induction fs generalizing k with
  | nil => simp [fcs]
  | cons q t ih =>
    cases k with
    | zero => rw [fcs_cons]; simp [fcs_cons]
    | succ k =>
      rw [fcs_cons, show (k + 1) * 2 = k * 2 + 1 + 1 by omega, List.set_cons_succ, List.set_cons_succ, List.set_cons_succ, List.set_cons_succ, ih k]
      rfl
set_option maxRecDepth 100000 in
theorem fcs_one {fs : List Fr} : ∀ u ∈ fcs fs, u.oneCell' = true := by
  intro u hu
  simp only [fcs, List.mem_flatMap] at hu
  obtain ⟨p, _, hp⟩ := hu
  simp at hp
  rcases hp with rfl | rfl <;> rfl
set_option maxRecDepth 100000 in
theorem fcs_at_inv {fs : List Fr} {j : Nat} {u : Value} (h : (fcs fs)[j]? = some u) : ∃ k f, fs[k]? = some f ∧ ((j = k * 2 ∧ u = .int .i64 f.1) ∨ (j = k * 2 + 1 ∧ u = .int .i64 f.2)) := by
  have hj := (List.getElem?_eq_some_iff.1 h).1
  rw [fcs_len] at hj
  have hk : j / 2 < fs.length := by omega
  obtain ⟨h1, h2⟩ := fcs_at (List.getElem?_eq_getElem hk)
  refine ⟨j / 2, fs[j / 2], List.getElem?_eq_getElem hk, ?_⟩
  rcases (show j = j / 2 * 2 ∨ j = j / 2 * 2 + 1 by omega) with e | e
  · left
    rw [← e, h] at h1
    injection h1 with h1
    exact ⟨e, h1⟩
  · right
    rw [← e, h] at h2
    injection h2 with h2
    exact ⟨e, h2⟩
/-- The slice of fractions at A reads as fs. -/
def Fracs (w : World) (A : Option Addr) (fs : List Fr) : Prop :=
  0 < fs.length → ∃ ad, A = some ad ∧ ∀ j f, fs[j]? = some f → w.cell? (ad.add (j * 2)) = some (.int .i64 f.1) ∧ w.cell? (ad.add (j * 2 + 1)) = some (.int .i64 f.2)
section
variable {w w' : World} {A : Option Addr} {fs : List Fr}
set_option maxRecDepth 100000 in
theorem Fracs.at_ (h : Fracs w A fs) {k : Nat} (hk : k < fs.length) :
    ∃ ad x y, A = some ad ∧ Hid (fs[k]? = some (x, y)) ∧ w.cell? (ad.add (k * 2)) = some (.int .i64 (x : Nat)) ∧ w.cell? ⟨(ad.add (k * 2)).block, (ad.add (k * 2)).off + 1, none⟩ = some (.int .i64 (y : Nat)) := by
  obtain ⟨ad, e, hc⟩ := h (by omega)
  obtain ⟨h1, h2⟩ := hc k fs[k] (List.getElem?_eq_getElem hk)
  exact ⟨ad, fs[k].1, fs[k].2, e, List.getElem?_eq_getElem hk, h1, (add_two ad (k * 2) 1).symm ▸ h2⟩
set_option maxRecDepth 100000 in
theorem Fracs.keep (h : Fracs w A fs) (hk : ∀ ad, A = some ad → 0 < fs.length → ad.block < w.heap.size → w'.heap[ad.block]? = w.heap[ad.block]?) : Fracs w' A fs := by
  intro hn
  obtain ⟨ad, e, hc⟩ := h hn
  refine ⟨ad, e, fun j p hp => ?_⟩
  obtain ⟨h1, h2⟩ := hc j p hp
  have hlt := World.block_lt_of_cell? w _ h1
  rw [block_add] at hlt
  have hb := hk ad e hn hlt
  exact ⟨(World.cell?_of_block (w := w) (by rw [block_add]; exact hb)).trans h1, (World.cell?_of_block (w := w) (by rw [block_add]; exact hb)).trans h2⟩
set_option maxRecDepth 100000 in
theorem Fracs.below (h : Fracs w A fs) (hb : Below w.heap.size w w') : Fracs w' A fs := h.keep fun _ _ _ hlt => hb.block _ hlt
set_option maxRecDepth 100000 in
theorem Fracs.drewN (h : Fracs w A fs) (n : Nat) : Fracs (w.drewN n) A fs := h
set_option maxRecDepth 100000 in
theorem Fracs.drew (h : Fracs w A fs) : Fracs w.drew A fs := h
set_option maxRecDepth 100000 in
theorem Fracs.alloc (h : Fracs w A fs) (o : Obj) : Fracs (w.alloc o) A fs := h.keep fun _ _ _ hlt => Below.heap_alloc w o _ hlt
set_option maxRecDepth 100000 in
theorem Fracs.nil (w : World) (A : Option Addr) : Fracs w A [] := fun h => absurd h (by simp)
set_option maxRecDepth 100000 in
theorem Fracs.cells {ad : Addr} (h : Fracs w (some ad) fs) : ∀ j u, (fcs fs)[j]? = some u → w.cell? (ad.add j) = some u := by
  intro j u hj
  obtain ⟨k, p, hp, hc⟩ := fcs_at_inv hj
  have hk := (List.getElem?_eq_some_iff.1 hp).1
  obtain ⟨ad', e, hr⟩ := h (by omega)
  injection e with e
  subst e
  obtain ⟨h1, h2⟩ := hr k p hp
  rcases hc with ⟨rfl, rfl⟩ | ⟨rfl, rfl⟩
  · exact h1
  · exact h2
end
/-- The call owns the slice of fractions. -/
structure OwnF (w : World) (base : Nat) (A : Option Addr) (n c : Nat) (fs : List Fr) : Prop where
  len : fs.length = n
  row : w.ownsRow base 75 2 (.slice A n c) n (fcs fs)
set_option maxRecDepth 100000 in
theorem infoFrac : (Try.prog.info? 75).map (fun i => (i.zero, i.size, i.bytes)) = some (some (.agg #[.int .i64 0, .int .i64 0]), 2, 16) := by kernel_rfl
section
variable {w w' : World} {base n c : Nat} {A : Option Addr} {fs : List Fr}
set_option maxRecDepth 100000 in
theorem OwnF.fracs (h : OwnF w base A n c fs) : Fracs w A fs := by
  intro hn
  have hl := h.len
  rcases h.row.2 with ⟨hv, h0⟩ | ⟨g, cap, cur, hv, _⟩
  · omega
  · injection hv with hA
    subst hA
    refine ⟨_, rfl, fun j p hp => ?_⟩
    obtain ⟨h1, h2⟩ := fcs_at hp
    exact ⟨World.ownsRow.cells h.row (g := g) rfl _ _ h1, World.ownsRow.cells h.row (g := g) rfl _ _ h2⟩
set_option maxRecDepth 100000 in
theorem OwnF.alloc (h : OwnF w base A n c fs) (o : Obj) : OwnF (w.alloc o) base A n c fs := ⟨h.len, World.ownsRow.alloc h.row o⟩
set_option maxRecDepth 100000 in
theorem OwnF.drewN (h : OwnF w base A n c fs) (m : Nat) : OwnF (w.drewN m) base A n c fs := ⟨h.len, h.row⟩
set_option maxRecDepth 100000 in
theorem OwnF.drew (h : OwnF w base A n c fs) : OwnF w.drew base A n c fs := ⟨h.len, h.row⟩
set_option maxRecDepth 100000 in
theorem OwnF.below (h : OwnF w base A n c fs) (hb : Below w.heap.size w w') : OwnF w' base A n c fs :=
  ⟨h.len, World.ownsRow.kept h.row (row := none) ⟨hb.os, hb.tape, hb.output, hb.size, fun k hk _ => hb.block k hk⟩ (by cases hv : (Value.slice A n c).ownBlock <;> simp)⟩
set_option maxRecDepth 100000 in
theorem OwnF.mono (h : OwnF w base A n c fs) {b : Nat} (hb : b ≤ base) : OwnF w b A n c fs := by
  refine ⟨h.len, h.row.1, ?_⟩
  rcases h.row.2 with h2 | ⟨g, cap, cur, hv, hg, r⟩
  · exact .inl h2
  · exact .inr ⟨g, cap, cur, hv, by omega, r⟩
set_option maxRecDepth 100000 in
theorem OwnF.grown {row : Option Nat} (h : OwnF w base A n c fs) (hg : w.grownBy w' row) (hr : ∀ k, row = some k → (Value.slice A n c).ownBlock ≠ some k) : OwnF w' base A n c fs :=
  ⟨h.len, World.ownsRow.kept h.row hg (by
    cases hv : (Value.slice A n c).ownBlock with
    | none => exact .inl rfl
    | some b => exact .inr (fun e => hr b e.symm hv))⟩
set_option maxRecDepth 100000 in
theorem OwnF.block (h : OwnF w base A n c fs) : ∀ k, (Value.slice A n c).ownBlock = some k → base ≤ k ∧ k < w.heap.size := World.ownsRow.lt h.row
set_option maxRecDepth 100000 in
theorem OwnF.le_cap (h : OwnF w base A n c fs) : n ≤ c := by
  rcases h.row.2 with ⟨hv, h0⟩ | ⟨g, cap, cur, hv, hb, hg, h1, _⟩
  · omega
  · injection hv with _ _ hc
    omega
set_option maxRecDepth 100000 in
theorem OwnF.form (h : OwnF w base A n c fs) (hn : 0 < n) : ∃ g, A = some ⟨g, 0, none⟩ ∧ base ≤ g ∧ g < w.heap.size := by
  rcases h.row.2 with ⟨hv, h0⟩ | ⟨g, cap, cur, hv, hb, hg, _⟩
  · omega
  · injection hv with hA
    exact ⟨g, hA, hb, (Array.getElem?_eq_some_iff.1 hg).1⟩
set_option maxRecDepth 100000 in
theorem OwnF.congr {gs : List Fr} (h : OwnF w base A n c fs) (e : fs = gs) : OwnF w base A n c gs := e ▸ h
set_option maxRecDepth 100000 in
theorem OwnF.nil (w : World) (base : Nat) : OwnF w base none 0 0 [] := ⟨rfl, World.ownsRow_nil w base _ _⟩
set_option maxRecDepth 100000 in
theorem OwnF.empty (w : World) {base : Nat} (hb : base ≤ w.heap.size) : OwnF (w.alloc (.cells #[] 75)) base (some ⟨w.heap.size, 0, none⟩) 0 0 [] :=
  ⟨rfl, World.ownsRow_made w #[] 0 hb (by simp [maxLen]) (by simp)⟩
set_option maxRecDepth 100000 in
theorem OwnF.btw {lo hi : Nat} (h : OwnF w base A n c fs) (hg : Btw lo hi w w') (hr : ∀ k, (Value.slice A n c).ownBlock = some k → k < lo ∨ hi ≤ k) : OwnF w' base A n c fs := by
  refine ⟨h.len, h.row.1, ?_⟩
  rcases h.row.2 with h2 | ⟨g, cap, cur, hv, hb, hgg, r⟩
  · exact .inl h2
  · refine .inr ⟨g, cap, cur, hv, hb, ?_, r⟩
    rw [hg.block g (Array.getElem?_eq_some_iff.1 hgg).1 (hr g (by rw [hv]; rfl))]
    exact hgg
set_option maxRecDepth 100000 in
theorem OwnF.set {g : Nat} (h : OwnF w base (some ⟨g, 0, none⟩) n c fs) (k : Nat) (f : Fr) : OwnF ((w.setCell ⟨g, k * 2, none⟩ (.int .i64 f.1)).setCell ⟨g, k * 2 + 1, none⟩ (.int .i64 f.2)) base (some ⟨g, 0, none⟩) n c (fs.set k f) := by
  refine ⟨by rw [List.length_set]; exact h.len, ?_⟩
  have h1 := (World.ownsRow.stored h.row (k * 2) (.int .i64 f.1)).1
  have h2 := (World.ownsRow.stored h1 (k * 2 + 1) (.int .i64 f.2)).1
  rw [fcs_set] at h2
  exact h2
set_option maxRecDepth 100000 in
theorem OwnF.frozen {g : Nat} (h : OwnF w base (some ⟨g, 0, none⟩) n c fs) (k : Nat) : w.frozen? ⟨g, k, none⟩ = false := World.ownsRow.frozenAt h.row k
set_option maxRecDepth 100000 in
theorem OwnF.cell {g : Nat} (h : OwnF w base (some ⟨g, 0, none⟩) n c fs) {k : Nat} {f : Fr} (hf : fs[k]? = some f) : w.cell? ⟨g, k * 2, none⟩ = some (.int .i64 f.1) ∧ w.cell? ⟨g, k * 2 + 1, none⟩ = some (.int .i64 f.2) := by
  obtain ⟨h1, h2⟩ := fcs_at hf
  have e1 := World.ownsRow.cells h.row (g := g) rfl _ _ h1
  have e2 := World.ownsRow.cells h.row (g := g) rfl _ _ h2
  rw [add_row] at e1 e2
  exact ⟨e1, e2⟩
end
set_option maxRecDepth 100000 in
theorem ownF_of_row {w : World} {base : Nat} {A : Option Addr} {n c : Nat} {fs : List Fr} (h : w.ownsRow base 75 2 (.slice A n c) n (fcs fs)) : OwnF w base A n c fs :=
  ⟨by have := h.1; rw [fcs_len] at this; omega, h⟩
set_option maxRecDepth 100000 in
/-- append of one fraction that lies in a new block. -/
theorem wpList_appF1 (w : World) {ops : Array Oper} {rest : List Oper} {o : Oper} {a : Act} {Q : Exit → Act → World → Prop}
    (hg : o.guard = none) (s x : Operand) (ho : o.op = .call { callee := .builtin .append, args := #[s, x], argTypes := #[66, 66] })
    (base : Nat) (A : Option Addr) (n c : Nat) (fs : List Fr) (hs : a.eval s = .slice A n c) (hown : OwnF w base A n c fs) (hbase : base ≤ w.heap.size) (hn : n ≤ 1048576)
    (f : Fr) (x1 x2 : Int) (e1 : x1 = f.1) (e2 : x2 = f.2) (hx : a.eval x = .slice (some ⟨w.heap.size, 0, none⟩) 1 1)
    (hK : ∀ A' c' w', OwnF w' base A' (n + 1) c' (fs ++ [f]) → w.grownBy w' (Value.slice A n c).ownBlock → Below base w w' → wpList Try.prog ops Q rest (a.put o.dst (.slice A' (n + 1) c')) w') :
    wpList Try.prog ops Q (o :: rest) a (w.alloc (.cells #[.int .i64 x1, .int .i64 x2] 75)) := by
  subst e1
  subst e2
  obtain ⟨i0, hi, hz0, hz1, hz2⟩ := info_parts infoFrac
  refine wpList_append_own _ hg s x 66 ho base 75 i0 (.agg #[.int .i64 0, .int .i64 0]) 2 16 Try.underlying66 hi hz0 hz1 hz2 rfl (by omega) _ _ _ hs (hown.alloc _).row ⟨w.heap.size, 0, none⟩ 1 1 (fcs [f]) hx rfl ?_ fcs_one (by simp only [maxLen]; omega) (by omega) (by simp; omega) ?_
  · intro j u hj
    match j, hj with
    | 0, hj =>
      simp [fcs] at hj
      subst hj
      exact cell_of_row _ w.heap.size 0 #[.int .i64 f.1, .int .i64 f.2] 75 (0, 0) (heap_alloc_new w _)
    | 1, hj =>
      simp [fcs] at hj
      subst hj
      exact cell_of_row _ w.heap.size 1 #[.int .i64 f.1, .int .i64 f.2] 75 (0, 0) (heap_alloc_new w _)
  · intro v' w' h1 h2 _
    obtain ⟨A', c', rfl⟩ := row_form h1
    have h3 : w.grownBy w' (Value.slice A n c).ownBlock :=
      ⟨h2.os, h2.tape, h2.output, by have := h2.size; simp at this; omega, fun k hk hne => (h2.block k (heap_lt hk _) hne).trans (Below.heap_alloc w _ k hk)⟩
    rw [← fcs_app] at h1
    exact hK A' c' w' (ownF_of_row h1) h3 (below_of_grown h3 hbase (fun k hk => (World.ownsRow.lt hown.row k hk).1))
/-- It returns a new slice of fractions. -/
def NewF (w : World) (fs : List Fr) (e : Ending) (w' : World) : Prop := ∃ A c, e = .returned (.slice A fs.length c) ∧ OwnF w' w.heap.size A fs.length c fs ∧ Below w.heap.size w w'
set_option maxRecDepth 100000 in
theorem newF_of {w w' : World} {fs : List Fr} {A : Option Addr} {n c : Nat} (ho : OwnF w' w.heap.size A n c fs) (hb : Below w.heap.size w w') : NewF w fs (.returned (.slice A n c)) w' := by
  have hl := ho.len
  subst hl
  exact ⟨A, c, rfl, ho, hb⟩
end Go.Proofs.Ytiinfbjlkbjmmaa
/-
  The functions on fractions: the program's and the reference's.
-/
namespace Go.Proofs.Ytiinfbjlkbjmmaa
open Go.RowKit
/-- A block of cells. -/
def Ob (w : World) (k : Nat) (cs : Array Value) (t : TypeId) : Prop := w.heap[k]? = some (.cells cs t (0, 0))
section
variable {w w' : World} {k : Nat} {cs : Array Value} {t : TypeId}
set_option maxRecDepth 100000 in
theorem Ob.lt (h : Ob w k cs t) : k < w.heap.size := (Array.getElem?_eq_some_iff.1 h).1
set_option maxRecDepth 100000 in
theorem Ob.below (h : Ob w k cs t) (hb : Below w.heap.size w w') : Ob w' k cs t := (hb.block k h.lt).trans h
set_option maxRecDepth 100000 in
theorem Ob.alloc (h : Ob w k cs t) (o : Obj) : Ob (w.alloc o) k cs t := (Below.heap_alloc w o k h.lt).trans h
set_option maxRecDepth 100000 in
theorem Ob.drewN (h : Ob w k cs t) (n : Nat) : Ob (w.drewN n) k cs t := h
set_option maxRecDepth 100000 in
theorem Ob.drew (h : Ob w k cs t) : Ob w.drew k cs t := h
set_option maxRecDepth 100000 in
theorem Ob.cell (h : Ob w k cs t) (i : Nat) {v : Value} (hv : cs[i]? = some v) : w.cell? ⟨k, i, none⟩ = some v := by
  have := cell_of_row w k i cs t (0, 0) h
  rw [this]
  exact hv
set_option maxRecDepth 100000 in
theorem Ob.fz (h : Ob w k cs t) (i : Nat) : w.frozen? ⟨k, i, none⟩ = false := frozen_of_row w k i cs t h
set_option maxRecDepth 100000 in
theorem Ob.far {g : Nat} (h : Ob w k cs t) (hg : g ≠ k) (j : Nat) (u : Value) : Ob (w.setCell ⟨g, j, none⟩ u) k cs t := (Below.heap_setCell w ⟨g, j, none⟩ u k (fun e => hg e.symm)).trans h
end
set_option maxRecDepth 100000 in
theorem ob0 (w : World) (cs : Array Value) (t : TypeId) : Ob (w.alloc (.cells cs t)) w.heap.size cs t := heap_alloc_new w _
set_option maxRecDepth 100000 in
theorem ob1 (w : World) (o : Obj) (cs : Array Value) (t : TypeId) : Ob ((w.alloc o).alloc (.cells cs t)) (w.heap.size + 1) cs t := by
  have := ob0 (w.alloc o) cs t
  simpa using this
set_option maxRecDepth 100000 in
theorem ob2 (w : World) (o o' : Obj) (cs : Array Value) (t : TypeId) : Ob (((w.alloc o).alloc o').alloc (.cells cs t)) (w.heap.size + 1 + 1) cs t := by
  have := ob1 (w.alloc o) o' cs t
  simpa using this
set_option maxRecDepth 100000 in
theorem fvN_iff {x y : Nat} : fvN x y = true ↔ x ≤ 9999999 ∧ 1 ≤ y ∧ y ≤ 9999999 ∧ Nat.gcd x y = 1 := by
  simp [fvN, and_assoc]
set_option maxRecDepth 100000 in
theorem redF_ok {x y : Nat} (h : fvN (redP x y).1 (redP x y).2 = true) : redF x y = (redP x y, true) := by
  unfold redF
  exact if_pos h
set_option maxRecDepth 100000 in
theorem FrB.fv {B T : Nat} {f : Fr} (h : FrB B T f) (hB : 1 ≤ B) (hB2 : B ≤ 60) (hT : T ≤ 60) : fvN f.1 f.2 = true := by
  have h1 := h.num hB
  have h2 := h.den hB
  have h3 : T * B ≤ 60 * 60 := Nat.mul_le_mul hT hB2
  exact fvN_iff.2 ⟨by omega, h.pos, by omega, h.cop⟩
set_option maxRecDepth 100000 in
theorem nat_mul (a b : Nat) {A B M : Nat} (ha : a ≤ A) (hb : b ≤ B) (hM : A * B ≤ M) : ∃ p : Nat, (a : Int) * (b : Int) = (p : Int) ∧ p ≤ M ∧ Hid (p = a * b) :=
  ⟨a * b, by push_cast; rfl, Nat.le_trans (Nat.mul_le_mul ha hb) hM, rfl⟩
set_option maxRecDepth 100000 in
set_option maxHeartbeats 1600000 in
theorem fracTimes_any (a b c d : Nat) (w : World) (h1 : fvN a b = true) (h2 : fvN c d = true) : Calls Try.prog 109 #[.agg #[.int .i64 a, .int .i64 b], .agg #[.int .i64 c, .int .i64 d]] w (FracR w (redF (a * c) (b * d))) := by
  obtain ⟨ha, hb1, hb, _⟩ := fvN_iff.1 h1
  obtain ⟨hc, hd1, hd, _⟩ := fvN_iff.1 h2
  obtain ⟨p, hp, hpM, ep⟩ := nat_mul a c (A := 9999999) (B := 9999999) (M := 1000000000000000) ha hc (by omega)
  obtain ⟨q, hq, hqM, eq⟩ := nat_mul b d (A := 9999999) (B := 9999999) (M := 1000000000000000) hb hd (by omega)
  have hq0 : 0 < q := by rw [eq.out]; exact Nat.mul_pos hb1 hd1
  have HR := Lib.hid (show redF (a * c) (b * d) = redF p q by rw [ep.out, eq.out])
  have c1 := Lib.hid (fun w => fracValid_any a b w (by omega) (by omega))
  have c2 := Lib.hid (fun w => fracValid_any c d w (by omega) (by omega))
  rw [h1] at c1
  rw [h2] at c2
  have cR := Lib.hid (fun w => reduced_any p q w hpM hqM hq0)
  obtain ⟨⟨⟨r1, r2⟩, rb⟩, hr⟩ : ∃ r, r = redF p q := ⟨_, rfl⟩
  rw [← hr] at cR HR
  clear hr h1 h2 hb1 hd1
  have o2 := ((ob0 w #[.int .i64 a, .int .i64 b] 75).alloc (.cells #[.int .i64 c, .int .i64 d] 75)).alloc (.cells #[.int .i64 0, .int .i64 0] 75)
  have o3 := (ob1 w (.cells #[.int .i64 a, .int .i64 b] 75) #[.int .i64 c, .int .i64 d] 75).alloc (.cells #[.int .i64 0, .int .i64 0] 75)
  have o4 := ob2 w (.cells #[.int .i64 a, .int .i64 b] 75) (.cells #[.int .i64 c, .int .i64 d] 75) #[.int .i64 0, .int .i64 0] 75
  have hB : Below w.heap.size w (((w.alloc (.cells #[.int .i64 a, .int .i64 b] 75)).alloc (.cells #[.int .i64 c, .int .i64 d] 75)).alloc (.cells #[.int .i64 0, .int .i64 0] 75)) := (((Below.refl _ w).alloc (Nat.le_refl _) _).alloc (by simp) _).alloc (by simp; omega) _
  go_enter Try.func109, Try.ntmps109
  go_wp2_with fail
  refine (c1.out _).mono ?_
  rintro e w1 ⟨rfl, hb1⟩
  have o2 := o2.below hb1
  have o3 := o3.below hb1
  have o4 := o4.below hb1
  have hB := below_down hB hb1
  have k2 := o2.cell 0 rfl
  have k3 := o2.cell 1 rfl
  have k4 := o3.cell 0 rfl
  have k5 := o3.cell 1 rfl
  clear hb1
  go_wp2_with fail
  refine (c2.out _).mono ?_
  rintro e w2 ⟨rfl, hb2⟩
  have o2 := o2.below hb2
  have o3 := o3.below hb2
  have o4 := o4.below hb2
  have hB := below_down hB hb2
  clear k2 k3 k4 k5
  have k2 := o2.cell 0 rfl
  have k3 := o2.cell 1 rfl
  have k4 := o3.cell 0 rfl
  have k5 := o3.cell 1 rfl
  clear hb2
  go_wp2_with fail
  refine (cR.out _).mono ?_
  rintro e w3 ⟨rfl, hb3⟩
  have o4 := o4.below hb3
  have hB := below_down hB hb3
  clear k2 k3 k4 k5
  have k6 := o4.cell 0 rfl
  have k7 := o4.cell 1 rfl
  have f6 := o4.fz 0
  have f7 := o4.fz 1
  go_wp2_with fail
  (try simp only [Exit.inBlock, Exit.then])
  refine bodyPost_ret (v := .tuple #[.agg #[.int .i64 r1, .int .i64 r2], .bool rb]) ?_ rfl ⟨?_, ?_⟩
  · rw [results_cell_tmp rfl]; go_simp
  · rw [HR.out]
  · exact Below.setCell (Below.setCell hB (show w.heap.size ≤ (⟨w.heap.size + 1 + 1, 0, none⟩ : Addr).block from by show w.heap.size ≤ w.heap.size + 1 + 1; omega) _) (show w.heap.size ≤ (⟨w.heap.size + 1 + 1, 1, none⟩ : Addr).block from by show w.heap.size ≤ w.heap.size + 1 + 1; omega) _
set_option maxRecDepth 100000 in
set_option maxHeartbeats 1600000 in
theorem fracAdd_any (a b c d : Nat) (w : World) (h1 : fvN a b = true) (h2 : fvN c d = true) : Calls Try.prog 110 #[.agg #[.int .i64 a, .int .i64 b], .agg #[.int .i64 c, .int .i64 d]] w (FracR w (redF (a * d + c * b) (b * d))) := by
  obtain ⟨ha, hb1, hb, _⟩ := fvN_iff.1 h1
  obtain ⟨hc, hd1, hd, _⟩ := fvN_iff.1 h2
  obtain ⟨u, hu, huM, eu⟩ := nat_mul a d (A := 9999999) (B := 9999999) (M := 100000000000000) ha hd (by omega)
  obtain ⟨v, hv, hvM, ev⟩ := nat_mul c b (A := 9999999) (B := 9999999) (M := 100000000000000) hc hb (by omega)
  obtain ⟨p, hp, hpM, ep⟩ : ∃ p : Nat, (u : Int) + (v : Int) = (p : Int) ∧ p ≤ 1000000000000000 ∧ Hid (p = u + v) := ⟨u + v, by omega, by omega, rfl⟩
  obtain ⟨q, hq, hqM, eq⟩ := nat_mul b d (A := 9999999) (B := 9999999) (M := 1000000000000000) hb hd (by omega)
  have hq0 : 0 < q := by rw [eq.out]; exact Nat.mul_pos hb1 hd1
  have HR := Lib.hid (show redF (a * d + c * b) (b * d) = redF p q by rw [ep.out, eu.out, ev.out, eq.out])
  have c1 := Lib.hid (fun w => fracValid_any a b w (by omega) (by omega))
  have c2 := Lib.hid (fun w => fracValid_any c d w (by omega) (by omega))
  rw [h1] at c1
  rw [h2] at c2
  have cR := Lib.hid (fun w => reduced_any p q w hpM hqM hq0)
  obtain ⟨⟨⟨r1, r2⟩, rb⟩, hr⟩ : ∃ r, r = redF p q := ⟨_, rfl⟩
  rw [← hr] at cR HR
  clear hr h1 h2 hb1 hd1
  have o2 := ((ob0 w #[.int .i64 a, .int .i64 b] 75).alloc (.cells #[.int .i64 c, .int .i64 d] 75)).alloc (.cells #[.int .i64 0, .int .i64 0] 75)
  have o3 := (ob1 w (.cells #[.int .i64 a, .int .i64 b] 75) #[.int .i64 c, .int .i64 d] 75).alloc (.cells #[.int .i64 0, .int .i64 0] 75)
  have o4 := ob2 w (.cells #[.int .i64 a, .int .i64 b] 75) (.cells #[.int .i64 c, .int .i64 d] 75) #[.int .i64 0, .int .i64 0] 75
  have hB : Below w.heap.size w (((w.alloc (.cells #[.int .i64 a, .int .i64 b] 75)).alloc (.cells #[.int .i64 c, .int .i64 d] 75)).alloc (.cells #[.int .i64 0, .int .i64 0] 75)) := (((Below.refl _ w).alloc (Nat.le_refl _) _).alloc (by simp) _).alloc (by simp; omega) _
  go_enter Try.func110, Try.ntmps110
  go_wp2_with fail
  refine (c1.out _).mono ?_
  rintro e w1 ⟨rfl, hb1⟩
  have o2 := o2.below hb1
  have o3 := o3.below hb1
  have o4 := o4.below hb1
  have hB := below_down hB hb1
  have k2 := o2.cell 0 rfl
  have k3 := o2.cell 1 rfl
  have k4 := o3.cell 0 rfl
  have k5 := o3.cell 1 rfl
  clear hb1
  go_wp2_with fail
  refine (c2.out _).mono ?_
  rintro e w2 ⟨rfl, hb2⟩
  have o2 := o2.below hb2
  have o3 := o3.below hb2
  have o4 := o4.below hb2
  have hB := below_down hB hb2
  clear k2 k3 k4 k5
  have k2 := o2.cell 0 rfl
  have k3 := o2.cell 1 rfl
  have k4 := o3.cell 0 rfl
  have k5 := o3.cell 1 rfl
  clear hb2
  go_wp2_with fail
  refine (cR.out _).mono ?_
  rintro e w3 ⟨rfl, hb3⟩
  have o4 := o4.below hb3
  have hB := below_down hB hb3
  clear k2 k3 k4 k5
  have k6 := o4.cell 0 rfl
  have k7 := o4.cell 1 rfl
  have f6 := o4.fz 0
  have f7 := o4.fz 1
  go_wp2_with fail
  (try simp only [Exit.inBlock, Exit.then])
  refine bodyPost_ret (v := .tuple #[.agg #[.int .i64 r1, .int .i64 r2], .bool rb]) ?_ rfl ⟨?_, ?_⟩
  · rw [results_cell_tmp rfl]; go_simp
  · rw [HR.out]
  · exact Below.setCell (Below.setCell hB (show w.heap.size ≤ (⟨w.heap.size + 1 + 1, 0, none⟩ : Addr).block from by show w.heap.size ≤ w.heap.size + 1 + 1; omega) _) (show w.heap.size ≤ (⟨w.heap.size + 1 + 1, 1, none⟩ : Addr).block from by show w.heap.size ≤ w.heap.size + 1 + 1; omega) _
set_option maxRecDepth 100000 in
set_option maxHeartbeats 1600000 in
theorem fracLess_any (a b c d : Nat) (w : World) (h1 : fvN a b = true) (h2 : fvN c d = true) : Calls Try.prog 82 #[.agg #[.int .i64 a, .int .i64 b], .agg #[.int .i64 c, .int .i64 d]] w (Bl w (.bool (lessP (a, b) (c, d)))) := by
  obtain ⟨ha, hb1, hb, _⟩ := fvN_iff.1 h1
  obtain ⟨hc, hd1, hd, _⟩ := fvN_iff.1 h2
  obtain ⟨u, hu, huM, eu⟩ := nat_mul a d (A := 9999999) (B := 9999999) (M := 100000000000000) ha hd (by omega)
  obtain ⟨v, hv, hvM, ev⟩ := nat_mul c b (A := 9999999) (B := 9999999) (M := 100000000000000) hc hb (by omega)
  have HL := Lib.hid (show lessP (a, b) (c, d) = decide (u < v) by unfold lessP; rw [eu.out, ev.out])
  have c1 := Lib.hid (fun w => fracValid_any a b w (by omega) (by omega))
  have c2 := Lib.hid (fun w => fracValid_any c d w (by omega) (by omega))
  rw [h1] at c1
  rw [h2] at c2
  clear h1 h2 hb1 hd1
  have o2 := (ob0 w #[.int .i64 a, .int .i64 b] 75).alloc (.cells #[.int .i64 c, .int .i64 d] 75)
  have o3 := ob1 w (.cells #[.int .i64 a, .int .i64 b] 75) #[.int .i64 c, .int .i64 d] 75
  have hB : Below w.heap.size w ((w.alloc (.cells #[.int .i64 a, .int .i64 b] 75)).alloc (.cells #[.int .i64 c, .int .i64 d] 75)) := ((Below.refl _ w).alloc (Nat.le_refl _) _).alloc (by simp) _
  go_enter Try.func82, Try.ntmps82
  go_wp2_with fail
  refine (c1.out _).mono ?_
  rintro e w1 ⟨rfl, hb1⟩
  have o2 := o2.below hb1
  have o3 := o3.below hb1
  have hB := below_down hB hb1
  have k2 := o2.cell 0 rfl
  have k3 := o2.cell 1 rfl
  have k4 := o3.cell 0 rfl
  have k5 := o3.cell 1 rfl
  clear hb1
  go_wp2_with fail
  refine (c2.out _).mono ?_
  rintro e w2 ⟨rfl, hb2⟩
  have o2 := o2.below hb2
  have o3 := o3.below hb2
  have hB := below_down hB hb2
  clear k2 k3 k4 k5
  have k2 := o2.cell 0 rfl
  have k3 := o2.cell 1 rfl
  have k4 := o3.cell 0 rfl
  have k5 := o3.cell 1 rfl
  clear hb2
  go_wp2_with fail
  go_ret
  exact ⟨ret_bool HL.out.symm, hB⟩
set_option maxRecDepth 100000 in
set_option maxHeartbeats 1600000 in
theorem specFracValid_any (x y : Nat) (w : World) (hx : x ≤ 1000000000000000) (hy : y ≤ 1000000000000000) : Calls Try.prog 116 #[.agg #[.int .i64 x, .int .i64 y]] w (Bl w (.bool (fvN x y))) := by
  obtain ⟨G, hG⟩ : ∃ G, G = Nat.gcd x y := ⟨_, rfl⟩
  have cG := Lib.hid (fun (w : World) => l5Gcd_any x y w hx hy)
  rw [← hG] at cG
  have cI := Lib.hid (fun (n low high : Int) (w : World) => l6In_any n low high w)
  cases h1 : inB (x : Int) (-9999999) 9999999
  · have hq := Lib.hid (show fvN x y = false from by
      have : ¬ x ≤ 9999999 := by intro h; simp [inB] at h1; omega
      simp [fvN, this])
    go_enter Try.func116, Try.ntmps116
    go_wp2_with (go_at_call 86; refine (cI.out _ _ _ _).mono ?_; rintro e w1 ⟨rfl, rfl⟩)
    go_ret
    exact ⟨ret_bool hq.out.symm, (Below.refl _ _).alloc (Nat.le_refl _) _⟩
  · cases h2 : inB (y : Int) 1 9999999
    · have hq := Lib.hid (show fvN x y = false from by
        have : ¬ (1 ≤ y ∧ y ≤ 9999999) := by intro h; simp [inB] at h2; omega
        cases h : fvN x y
        · rfl
        · have := fvN_iff.1 h; omega)
      go_enter Try.func116, Try.ntmps116
      go_wp2_with (go_at_call 86; refine (cI.out _ _ _ _).mono ?_; rintro e w1 ⟨rfl, rfl⟩)
      go_ret
      exact ⟨ret_bool hq.out.symm, (Below.refl _ _).alloc (Nat.le_refl _) _⟩
    · have hq := Lib.hid (show fvN x y = ((G : Int) == 1) from by
        have h3 := inB_iff.1 h1
        have h4 := inB_iff.1 h2
        rw [Bool.eq_iff_iff, fvN_iff, ← hG]
        simp
        omega)
      clear hG
      go_enter Try.func116, Try.ntmps116
      go_wp2_with (first | (go_at_call 86; refine (cI.out _ _ _ _).mono ?_; rintro e w1 ⟨rfl, rfl⟩) | (go_at_call 121; refine (cG.out _).mono ?_; rintro e w1 ⟨rfl, rfl⟩))
      go_ret
      exact ⟨ret_bool hq.out.symm, (Below.refl _ _).alloc (Nat.le_refl _) _⟩
set_option maxRecDepth 100000 in
set_option maxHeartbeats 1600000 in
theorem specFracLess_any (a b c d : Nat) (w : World) (h1 : fvN a b = true) (h2 : fvN c d = true) : Calls Try.prog 89 #[.agg #[.int .i64 a, .int .i64 b], .agg #[.int .i64 c, .int .i64 d]] w (Bl w (.bool (lessP (a, b) (c, d)))) := by
  obtain ⟨ha, hb1, hb, _⟩ := fvN_iff.1 h1
  obtain ⟨hc, hd1, hd, _⟩ := fvN_iff.1 h2
  obtain ⟨u, hu, huM, eu⟩ := nat_mul a d (A := 9999999) (B := 9999999) (M := 100000000000000) ha hd (by omega)
  obtain ⟨v, hv, hvM, ev⟩ := nat_mul c b (A := 9999999) (B := 9999999) (M := 100000000000000) hc hb (by omega)
  have HL := Lib.hid (show lessP (a, b) (c, d) = decide (u < v) by unfold lessP; rw [eu.out, ev.out])
  have c1 := Lib.hid (fun w => specFracValid_any a b w (by omega) (by omega))
  have c2 := Lib.hid (fun w => specFracValid_any c d w (by omega) (by omega))
  rw [h1] at c1
  rw [h2] at c2
  clear h1 h2 hb1 hd1
  have o2 := (ob0 w #[.int .i64 a, .int .i64 b] 75).alloc (.cells #[.int .i64 c, .int .i64 d] 75)
  have o3 := ob1 w (.cells #[.int .i64 a, .int .i64 b] 75) #[.int .i64 c, .int .i64 d] 75
  have hB : Below w.heap.size w ((w.alloc (.cells #[.int .i64 a, .int .i64 b] 75)).alloc (.cells #[.int .i64 c, .int .i64 d] 75)) := ((Below.refl _ w).alloc (Nat.le_refl _) _).alloc (by simp) _
  go_enter Try.func89, Try.ntmps89
  go_wp2_with fail
  refine (c1.out _).mono ?_
  rintro e w1 ⟨rfl, hb1⟩
  have o2 := o2.below hb1
  have o3 := o3.below hb1
  have hB := below_down hB hb1
  have k2 := o2.cell 0 rfl
  have k3 := o2.cell 1 rfl
  have k4 := o3.cell 0 rfl
  have k5 := o3.cell 1 rfl
  clear hb1
  go_wp2_with fail
  refine (c2.out _).mono ?_
  rintro e w2 ⟨rfl, hb2⟩
  have o2 := o2.below hb2
  have o3 := o3.below hb2
  have hB := below_down hB hb2
  clear k2 k3 k4 k5
  have k2 := o2.cell 0 rfl
  have k3 := o2.cell 1 rfl
  have k4 := o3.cell 0 rfl
  have k5 := o3.cell 1 rfl
  clear hb2
  go_wp2_with fail
  go_ret
  exact ⟨ret_bool HL.out.symm, hB⟩
/-- It returns a fraction. -/
def FrR (w : World) (f : Fr) (e : Ending) (w' : World) : Prop := e = .returned (.agg #[.int .i64 f.1, .int .i64 f.2]) ∧ Below w.heap.size w w'
set_option maxRecDepth 100000 in
set_option maxHeartbeats 1600000 in
theorem l15Sum_any (a b c d : Nat) (w : World) (ha : a ≤ 9999999) (hb : b ≤ 9999999) (hc : c ≤ 9999999) (hd : d ≤ 9999999) (hb1 : 1 ≤ b) (hd1 : 1 ≤ d) : Calls Try.prog 115 #[.agg #[.int .i64 a, .int .i64 b], .agg #[.int .i64 c, .int .i64 d]] w (FrR w (addP (a, b) (c, d))) := by
  obtain ⟨u, hu, huM, eu⟩ := nat_mul a d (A := 9999999) (B := 9999999) (M := 100000000000000) ha hd (by omega)
  obtain ⟨v, hv, hvM, ev⟩ := nat_mul c b (A := 9999999) (B := 9999999) (M := 100000000000000) hc hb (by omega)
  obtain ⟨p, hp, hpM, ep⟩ : ∃ p : Nat, (u : Int) + (v : Int) = (p : Int) ∧ p ≤ 1000000000000000 ∧ Hid (p = u + v) := ⟨u + v, by omega, by omega, rfl⟩
  obtain ⟨q, hq, hqM, eq⟩ := nat_mul b d (A := 9999999) (B := 9999999) (M := 1000000000000000) hb hd (by omega)
  have hq0 : 0 < q := by rw [eq.out]; exact Nat.mul_pos hb1 hd1
  have HR := Lib.hid (show addP (a, b) (c, d) = (p / Nat.gcd p q, q / Nat.gcd p q) by unfold addP redP; rw [ep.out, eu.out, ev.out, eq.out])
  have cR := Lib.hid (fun w => l5Of_any p q w hpM hqM hq0)
  generalize p / Nat.gcd p q = r1 at *
  generalize q / Nat.gcd p q = r2 at *
  clear hb1 hd1
  have o2 := ((ob0 w #[.int .i64 a, .int .i64 b] 75).alloc (.cells #[.int .i64 c, .int .i64 d] 75)).alloc (.cells #[.int .i64 0, .int .i64 0] 75)
  have o3 := (ob1 w (.cells #[.int .i64 a, .int .i64 b] 75) #[.int .i64 c, .int .i64 d] 75).alloc (.cells #[.int .i64 0, .int .i64 0] 75)
  have o4 := ob2 w (.cells #[.int .i64 a, .int .i64 b] 75) (.cells #[.int .i64 c, .int .i64 d] 75) #[.int .i64 0, .int .i64 0] 75
  have hB : Below w.heap.size w (((w.alloc (.cells #[.int .i64 a, .int .i64 b] 75)).alloc (.cells #[.int .i64 c, .int .i64 d] 75)).alloc (.cells #[.int .i64 0, .int .i64 0] 75)) := (((Below.refl _ w).alloc (Nat.le_refl _) _).alloc (by simp) _).alloc (by simp; omega) _
  go_enter Try.func115, Try.ntmps115
  go_wp2_with fail
  refine (cR.out _).mono ?_
  rintro e w3 ⟨rfl, hb3⟩
  have o4 := o4.below hb3
  have hB := below_down hB hb3
  have k6 := o4.cell 0 rfl
  have k7 := o4.cell 1 rfl
  have f6 := o4.fz 0
  have f7 := o4.fz 1
  go_wp2_with fail
  (try simp only [Exit.inBlock, Exit.then])
  refine bodyPost_ret (v := .agg #[.int .i64 r1, .int .i64 r2]) ?_ rfl ⟨?_, ?_⟩
  · simp [results, Try.f115]
    go_simp
  · rw [HR.out]
  · exact Below.setCell (Below.setCell hB (show w.heap.size ≤ (⟨w.heap.size + 1 + 1, 0, none⟩ : Addr).block from by show w.heap.size ≤ w.heap.size + 1 + 1; omega) _) (show w.heap.size ≤ (⟨w.heap.size + 1 + 1, 1, none⟩ : Addr).block from by show w.heap.size ≤ w.heap.size + 1 + 1; omega) _
end Go.Proofs.Ytiinfbjlkbjmmaa
