/-
  Transfers after two candidates were exchanged, plain.
-/
import Derived.Test.YtiinfbjlkbjmmaaQTraL
namespace Go.Proofs.Ytiinfbjlkbjmmaa
open Go.RowKit
/-- Two candidates are exchanged. -/
def swn (x y i : Nat) : Nat := if i = x then y else if i = y then x else i
def sw (x y : Nat) (c : Int) : Int := if c = (x : Int) then (y : Int) else if c = (y : Int) then (x : Int) else c
set_option maxRecDepth 100000 in
theorem swn_swn (x y i : Nat) : swn x y (swn x y i) = i := by unfold swn; (repeat' split) <;> omega
set_option maxRecDepth 100000 in
theorem swn_inj {x y i j : Nat} : swn x y i = swn x y j ↔ i = j := ⟨fun h => by rw [← swn_swn x y i, h, swn_swn], fun h => by rw [h]⟩
set_option maxRecDepth 100000 in
theorem swn_lt {x y n i : Nat} (hx : x < n) (hy : y < n) : swn x y i < n ↔ i < n := by unfold swn; (repeat' split) <;> omega
set_option maxRecDepth 100000 in
theorem sw_nat (x y i : Nat) : sw x y (i : Int) = (swn x y i : Nat) := by unfold sw swn; (repeat' split) <;> omega
set_option maxRecDepth 100000 in
theorem sw_nonneg {x y : Nat} {c : Int} : 0 ≤ sw x y c ↔ 0 ≤ c := by unfold sw; (repeat' split) <;> omega
set_option maxRecDepth 100000 in
theorem sw_lt0 {x y : Nat} {c : Int} : sw x y c < 0 ↔ c < 0 := by unfold sw; (repeat' split) <;> omega
set_option maxRecDepth 100000 in
theorem sw_neg {x y : Nat} {c : Int} (h : c < 0) : sw x y c = c := by unfold sw; (repeat' split) <;> omega
set_option maxRecDepth 100000 in
theorem sw_sw (x y : Nat) (c : Int) : sw x y (sw x y c) = c := by unfold sw; (repeat' split) <;> omega
set_option maxRecDepth 100000 in
theorem sw_inj {x y : Nat} {c d : Int} : sw x y c = sw x y d ↔ c = d := ⟨fun h => by rw [← sw_sw x y c, h, sw_sw], fun h => by rw [h]⟩
set_option maxRecDepth 100000 in
theorem sw_toNat {x y : Nat} {c : Int} (h : 0 ≤ c) : (sw x y c).toNat = swn x y c.toNat := by unfold sw swn; (repeat' split) <;> omega
set_option maxRecDepth 100000 in
theorem sw_lt {x y n : Nat} {c : Int} (hx : x < n) (hy : y < n) : sw x y c < n ↔ c < n := by unfold sw; (repeat' split) <;> omega
/-- b is a after two places were exchanged. -/
def SwL {α : Type} (x y : Nat) (a b : List α) : Prop := b.length = a.length ∧ ∀ i : Nat, b[swn x y i]? = a[i]?
section
variable {α : Type} {x y : Nat} {a b : List α}
set_option maxRecDepth 100000 in
theorem SwL.getD (h : SwL x y a b) (i : Nat) (d : α) : b.getD (swn x y i) d = a.getD i d := by
  rw [List.getD_eq_getElem?_getD, List.getD_eq_getElem?_getD, h.2 i]
set_option maxRecDepth 100000 in
theorem SwL.lt (h : SwL x y a b) (i : Nat) : swn x y i < b.length ↔ i < a.length := by
  have e := h.2 i
  constructor
  · intro h1
    rw [List.getElem?_eq_getElem h1] at e
    exact (List.getElem?_eq_some_iff.1 e.symm).1
  · intro h1
    rw [List.getElem?_eq_getElem h1] at e
    exact (List.getElem?_eq_some_iff.1 e).1
set_option maxRecDepth 100000 in
theorem SwL.set (h : SwL x y a b) (i : Nat) (v : α) : SwL x y (a.set i v) (b.set (swn x y i) v) := by
  refine ⟨by rw [List.length_set, List.length_set]; exact h.1, fun j => ?_⟩
  rw [List.getElem?_set, List.getElem?_set, h.2 j]
  by_cases e : i = j
  · subst e
    rw [if_pos rfl, if_pos rfl]
    by_cases hi : i < a.length
    · rw [if_pos hi, if_pos ((h.lt i).2 hi)]
    · rw [if_neg hi, if_neg (fun h2 => hi ((h.lt i).1 h2))]
  · rw [if_neg e, if_neg (fun h2 => e (swn_inj.1 h2))]
set_option maxRecDepth 100000 in
theorem SwL.rep {n : Nat} (hx : x < n) (hy : y < n) (v : α) : SwL x y (List.replicate n v) (List.replicate n v) := by
  refine ⟨rfl, fun i => ?_⟩
  rw [List.getElem?_replicate, List.getElem?_replicate]
  by_cases hi : i < n
  · rw [if_pos hi, if_pos ((swn_lt hx hy).2 hi)]
  · rw [if_neg hi, if_neg (fun h2 => hi ((swn_lt hx hy).1 h2))]
end
set_option maxRecDepth 100000 in
theorem firstL_sw {x y : Nat} {left left' : List Bool} (h : SwL x y left left') {b : List Int} (hb : ∀ c ∈ b, 0 ≤ c) : firstL left' (b.map (sw x y)) = sw x y (firstL left b) := by
  induction b with
  | nil => exact (sw_neg (show (-1 : Int) < 0 by decide)).symm
  | cons c t ih =>
    have i := ih (fun c hc => hb c (by simp [hc]))
    have e := h.getD c.toNat false
    rw [← sw_toNat (hb c (by simp))] at e
    rw [List.map_cons]
    unfold firstL
    rw [e]
    split
    · rfl
    · exact i
def tuP (x y : Nat) (p : Pl) : Pl := ⟨p.bal.map (sw x y), p.many⟩
def tuZ (x y : Nat) (z : Pl × Fr) : Pl × Fr := (tuP x y z.1, z.2)
set_option maxRecDepth 100000 in
theorem cntStep_sw {x y : Nat} {left left' : List Bool} {out out' : List Fr} {z : Pl × Fr} (h : SwL x y left left') (ho : SwL x y out out') (hz : ∀ c ∈ z.1.bal, 0 ≤ c) : SwL x y (cntStep left out z) (cntStep left' out' (tuZ x y z)) := by
  unfold cntStep
  simp only [tuZ, tuP, firstL_sw h hz]
  by_cases h0 : 0 ≤ firstL left z.1.bal
  · rw [if_pos h0, if_pos (sw_nonneg.2 h0), sw_toNat h0, ho.getD]
    exact ho.set _ _
  · rw [if_neg h0, if_neg (fun h2 => h0 (sw_nonneg.1 h2))]
    exact ho
set_option maxRecDepth 100000 in
theorem cntFold_sw {x y : Nat} {left left' : List Bool} (h : SwL x y left left') (Z : List (Pl × Fr)) : ∀ {out out' : List Fr}, SwL x y out out' → (∀ z ∈ Z, ∀ c ∈ z.1.bal, 0 ≤ c) → SwL x y (Z.foldl (cntStep left) out) ((Z.map (tuZ x y)).foldl (cntStep left') out') := by
  induction Z with
  | nil => exact fun ho _ => ho
  | cons z t ih => exact fun ho hz => ih (cntStep_sw h ho (hz z (by simp))) (fun u hu => hz u (by simp [hu]))
set_option maxRecDepth 100000 in
theorem cntT_sw {x y : Nat} {left left' : List Bool} (h : SwL x y left left') (hx : x < left.length) (hy : y < left.length) {Z : List (Pl × Fr)} (hz : ∀ z ∈ Z, ∀ c ∈ z.1.bal, 0 ≤ c) : SwL x y (cntT left Z) (cntT left' (Z.map (tuZ x y))) := by
  unfold cntT
  rw [h.1]
  exact cntFold_sw h Z (SwL.rep hx hy _) hz
set_option maxRecDepth 100000 in
theorem addP_comm3 {a u v : Fr} (ha : 0 < a.2) (hu : 0 < u.2) (hv : 0 < v.2) : addP (addP a u) v = addP (addP a v) u := by
  have hB : 0 < a.2 * u.2 * v.2 := Nat.mul_pos (Nat.mul_pos ha hu) hv
  have e1 : a.1 * (a.2 * u.2 * v.2) = (a.1 * u.2 * v.2) * a.2 := by ac_rfl
  have e2 : u.1 * (a.2 * u.2 * v.2) = (u.1 * a.2 * v.2) * u.2 := by ac_rfl
  have e3 : v.1 * (a.2 * u.2 * v.2) = (v.1 * a.2 * u.2) * v.2 := by ac_rfl
  have p1 : 0 < (addP a u).2 := redP_pos (Nat.mul_pos ha hu)
  have p2 : 0 < (addP a v).2 := redP_pos (Nat.mul_pos ha hv)
  have h1 := addP_over hB ha hu e1 e2
  have h2 := addP_over hB ha hv e1 e3
  have m1 := redP_mul (x := a.1 * u.2 * v.2 + u.1 * a.2 * v.2) hB
  have m2 := redP_mul (x := a.1 * u.2 * v.2 + v.1 * a.2 * u.2) hB
  rw [← h1] at m1
  rw [← h2] at m2
  rw [addP_over hB p1 hv m1 e3, addP_over hB p2 hu m2 e2, Nat.add_right_comm]
set_option maxRecDepth 100000 in
theorem mulP_pos {w : Fr} (h : 0 < w.2) (m : Nat) : 0 < (mulP w m).2 := redP_pos h
set_option maxRecDepth 100000 in
theorem getD_pos {out : List Fr} (ho : ∀ f ∈ out, 0 < f.2) (i : Nat) : 0 < (out.getD i (0, 1)).2 := by
  rw [List.getD_eq_getElem?_getD]
  cases h : out[i]? with
  | none => exact Nat.one_pos
  | some f => exact ho f (List.mem_of_getElem? h)
set_option maxRecDepth 100000 in
theorem cntStep_pos {left : List Bool} {out : List Fr} {z : Pl × Fr} (ho : ∀ f ∈ out, 0 < f.2) (hz : 0 < z.2.2) : ∀ f ∈ cntStep left out z, 0 < f.2 := by
  intro f hf
  unfold cntStep at hf
  split at hf
  · rcases mem_set hf with hf | hf
    · exact ho f hf
    · rw [hf]
      exact redP_pos (Nat.mul_pos (getD_pos ho _) (mulP_pos hz _))
  · exact ho f hf
set_option maxRecDepth 100000 in
theorem cntFold_pos {left : List Bool} (Z : List (Pl × Fr)) : ∀ {out : List Fr}, (∀ f ∈ out, 0 < f.2) → (∀ z ∈ Z, 0 < z.2.2) → ∀ f ∈ Z.foldl (cntStep left) out, 0 < f.2 := by
  induction Z with
  | nil => exact fun ho _ => ho
  | cons z t ih => exact fun ho hz => ih (cntStep_pos ho (hz z (by simp))) (fun u hu => hz u (by simp [hu]))
set_option maxRecDepth 100000 in
theorem rep_pos (n : Nat) : ∀ f ∈ List.replicate n ((0, 1) : Fr), 0 < f.2 := fun f hf => by rw [(List.mem_replicate.1 hf).2]; exact Nat.one_pos
set_option maxRecDepth 100000 in
theorem getD_set {out : List Fr} {i j : Nat} {v d : Fr} : (out.set i v).getD j d = if i = j ∧ i < out.length then v else out.getD j d := by
  rw [List.getD_eq_getElem?_getD, List.getD_eq_getElem?_getD, List.getElem?_set]
  by_cases e : i = j
  · subst e
    rw [if_pos rfl]
    by_cases hi : i < out.length
    · rw [if_pos hi, if_pos ⟨rfl, hi⟩]; rfl
    · rw [if_neg hi, if_neg (fun h => hi h.2), List.getElem?_eq_none (by omega)]
  · rw [if_neg e, if_neg (fun h => e h.1)]
set_option maxRecDepth 100000 in
theorem cntStep_comm {left : List Bool} {out : List Fr} {z u : Pl × Fr} (ho : ∀ f ∈ out, 0 < f.2) (hz : 0 < z.2.2) (hu : 0 < u.2.2) : cntStep left (cntStep left out z) u = cntStep left (cntStep left out u) z := by
  unfold cntStep
  generalize firstL left z.1.bal = fz
  generalize firstL left u.1.bal = fu
  have mz := mulP_pos hz z.1.many.toNat
  have mu := mulP_pos hu u.1.many.toNat
  generalize mulP z.2 z.1.many.toNat = az at *
  generalize mulP u.2 u.1.many.toNat = au at *
  by_cases h1 : 0 ≤ fz
  · by_cases h2 : 0 ≤ fu
    · rw [if_pos h1, if_pos h2, if_pos h2, if_pos h1]
      generalize fz.toNat = i
      generalize fu.toNat = j
      by_cases e : i = j
      · subst e
        by_cases hi : i < out.length
        · rw [getD_set, getD_set, if_pos ⟨rfl, hi⟩, if_pos ⟨rfl, hi⟩, List.set_set, List.set_set, addP_comm3 (getD_pos ho i) mz mu]
        · have hn : ∀ v, out.set i v = out := fun v => List.set_eq_of_length_le (by omega)
          simp only [hn]
      · rw [getD_set, getD_set, if_neg (fun h => e h.1), if_neg (fun h => e h.1.symm), List.set_comm _ _ e]
    · simp only [h1, h2, if_true, if_false]
  · by_cases h2 : 0 ≤ fu
    · simp only [h1, h2, if_true, if_false]
    · simp only [h1, h2, if_false]
set_option maxRecDepth 100000 in
theorem cntFold_perm {left : List Bool} {Z Z' : List (Pl × Fr)} (h : Z.Perm Z') : ∀ {out : List Fr}, (∀ f ∈ out, 0 < f.2) → (∀ z ∈ Z, 0 < z.2.2) → Z.foldl (cntStep left) out = Z'.foldl (cntStep left) out := by
  induction h with
  | nil => exact fun _ _ => rfl
  | cons z _ ih => exact fun ho hz => ih (cntStep_pos ho (hz z (by simp))) (fun u hu => hz u (by simp [hu]))
  | swap z u l =>
    intro out ho hz
    simp only [List.foldl_cons]
    rw [cntStep_comm ho (hz u (by simp)) (hz z (by simp))]
  | trans h1 _ i1 i2 => exact fun ho hz => (i1 ho hz).trans (i2 ho (fun z hz' => hz z (h1.mem_iff.2 hz')))
set_option maxRecDepth 100000 in
theorem cntT_perm {left : List Bool} {Z Z' : List (Pl × Fr)} (h : Z.Perm Z') (hz : ∀ z ∈ Z, 0 < z.2.2) : cntT left Z = cntT left Z' := cntFold_perm h (rep_pos _) hz
set_option maxRecDepth 100000 in
theorem cntT_pos {left : List Bool} {Z : List (Pl × Fr)} (hz : ∀ z ∈ Z, 0 < z.2.2) : ∀ f ∈ cntT left Z, 0 < f.2 := cntFold_pos Z (rep_pos _) hz
set_option maxRecDepth 100000 in
theorem atF_sw {x y : Nat} {cs cs' : List Fr} (h : SwL x y cs cs') {c : Int} (hc : 0 ≤ c) : atF cs' (sw x y c) = atF cs c := by
  unfold atF
  rw [sw_toNat hc, h.getD]
set_option maxRecDepth 100000 in
theorem atB_sw {x y : Nat} {left left' : List Bool} (h : SwL x y left left') {c : Int} (hc : 0 ≤ c) : atB left' (sw x y c) = atB left c := by
  unfold atB
  rw [sw_toNat hc, h.getD]
set_option maxRecDepth 100000 in
theorem stepHi_sw {x y : Nat} {cs cs' : List Fr} {left left' : List Bool} (h : SwL x y cs cs') (hl : SwL x y left left') {b c : Int} (hc : 0 ≤ c) : stepHi cs' left' (sw x y b) (sw x y c) = sw x y (stepHi cs left b c) := by
  unfold stepHi
  rw [atB_sw hl hc, atF_sw h hc]
  by_cases hb : 0 ≤ b
  · rw [atF_sw h hb]
    have n1 : ¬ b < 0 := by omega
    have n2 : ¬ sw x y b < 0 := fun h2 => n1 (sw_lt0.1 h2)
    simp only [n1, n2, false_or]
    repeat' split
    all_goals rfl
  · have h1 : b < 0 := by omega
    have h2 : sw x y b < 0 := sw_lt0.2 h1
    simp only [h1, h2, true_or, if_true]
    repeat' split
    all_goals rfl
set_option maxRecDepth 100000 in
theorem stepLo_sw {x y : Nat} {cs cs' : List Fr} {left left' : List Bool} (h : SwL x y cs cs') (hl : SwL x y left left') {b c : Int} (hc : 0 ≤ c) : stepLo cs' left' (sw x y b) (sw x y c) = sw x y (stepLo cs left b c) := by
  unfold stepLo
  rw [atB_sw hl hc, atF_sw h hc]
  by_cases hb : 0 ≤ b
  · rw [atF_sw h hb]
    have n1 : ¬ b < 0 := by omega
    have n2 : ¬ sw x y b < 0 := fun h2 => n1 (sw_lt0.1 h2)
    simp only [n1, n2, false_or]
    repeat' split
    all_goals rfl
  · have h1 : b < 0 := by omega
    have h2 : sw x y b < 0 := sw_lt0.2 h1
    simp only [h1, h2, true_or, if_true]
    repeat' split
    all_goals rfl
set_option maxRecDepth 100000 in
theorem fold_sw {x y : Nat} {f f' : Int → Int → Int} (lots : List Int) (hr : ∀ c ∈ lots, 0 ≤ c) (hf : ∀ b c, 0 ≤ c → f' (sw x y b) (sw x y c) = sw x y (f b c)) : ∀ b : Int, (lots.map (sw x y)).foldl f' (sw x y b) = sw x y (lots.foldl f b) := by
  induction lots with
  | nil => exact fun b => rfl
  | cons c t ih =>
    intro b
    rw [List.map_cons, List.foldl_cons, List.foldl_cons, hf b c (hr c (by simp))]
    exact ih (fun d hd => hr d (by simp [hd])) _
set_option maxRecDepth 100000 in
theorem mostT_sw {x y : Nat} {cs cs' : List Fr} {left left' : List Bool} (h : SwL x y cs cs') (hl : SwL x y left left') {lots : List Int} (hr : ∀ c ∈ lots, 0 ≤ c) : mostT cs' left' (lots.map (sw x y)) = sw x y (mostT cs left lots) := by
  unfold mostT
  have := fold_sw (x := x) (y := y) lots hr (f := stepHi cs left) (f' := stepHi cs' left') (fun b c hc => stepHi_sw h hl hc) (-1)
  rw [sw_neg (by decide)] at this
  exact this
set_option maxRecDepth 100000 in
theorem leastT_sw {x y : Nat} {cs cs' : List Fr} {left left' : List Bool} (h : SwL x y cs cs') (hl : SwL x y left left') {lots : List Int} (hr : ∀ c ∈ lots, 0 ≤ c) : leastT cs' left' (lots.map (sw x y)) = sw x y (leastT cs left lots) := by
  unfold leastT
  have := fold_sw (x := x) (y := y) lots hr (f := stepLo cs left) (f' := stepLo cs' left') (fun b c hc => stepLo_sw h hl hc) (-1)
  rw [sw_neg (by decide)] at this
  exact this
set_option maxRecDepth 100000 in
theorem zip_weigh {f : Pl × Fr → Fr} : ∀ (ps : List Pl) (ws : List Fr), ps.zip ((ps.zip ws).map f) = (ps.zip ws).map (fun z => (z.1, f z)) := by
  intro ps
  induction ps with
  | nil => intro ws; simp
  | cons p t ih =>
    intro ws
    cases ws with
    | nil => simp
    | cons w u => simp [ih]
set_option maxRecDepth 100000 in
theorem weighP_sw {x y : Nat} {left left' : List Bool} (h : SwL x y left left') {p : Int} {f : Fr} {q : Nat} {z : Pl × Fr} (hz : ∀ c ∈ z.1.bal, 0 ≤ c) : weighP left' (sw x y p) f q (tuZ x y z) = weighP left p f q z := by
  unfold weighP
  simp only [tuZ, tuP, firstL_sw h hz]
  by_cases e : firstL left z.1.bal = p
  · rw [if_pos e, if_pos (by rw [e])]
  · rw [if_neg e, if_neg (fun e2 => e (sw_inj.1 e2))]
set_option maxRecDepth 100000 in
theorem zip_ok {ps : List Pl} {ws : List Fr} (hb : ∀ p ∈ ps, ∀ c ∈ p.bal, 0 ≤ c) (hw : ∀ w ∈ ws, 0 < w.2) : (∀ z ∈ ps.zip ws, ∀ c ∈ z.1.bal, 0 ≤ c) ∧ ∀ z ∈ ps.zip ws, 0 < z.2.2 :=
  ⟨fun _ hz => hb _ (zip_mem2 hz).1, fun _ hz => hw _ (zip_mem2 hz).2⟩
set_option maxRecDepth 100000 in
theorem stepsT_sw {x y q : Nat} {lots : List Int} {ps ps' : List Pl} (hv : lv lots = true) (hr : ∀ c ∈ lots, 0 ≤ c) (hx : x < lots.length) (hy : y < lots.length) (hq : 1 ≤ q) (hb : ∀ p ∈ ps, ∀ c ∈ p.bal, 0 ≤ c) (k : Nat) :
    ∀ (left left' : List Bool) (ws ws' : List Fr) (s : Nat), left.length = lots.length → SwL x y left left' → (s : Int) ≤ thereL left → thereL left' = thereL left → (ps'.zip ws').Perm ((ps.zip ws).map (tuZ x y)) → (∀ w ∈ ws, 0 < w.2) →
      (stepsT ps' (lots.map (sw x y)) q k left' ws' s).map (fun st => st.2) = (stepsT ps lots q k left ws s).map (fun st => (sw x y st.2.1, st.2.2)) := by
  induction k with
  | zero => intros; rfl
  | succ k ih =>
    intro left left' ws ws' s hl hs hts ht hz hw
    by_cases h0 : s = 0
    · subst h0; simp [stepsT]
    obtain ⟨zb, zw⟩ := zip_ok hb hw
    have zw' : ∀ z ∈ ps'.zip ws', 0 < z.2.2 := by
      intro z hm
      obtain ⟨u, hu, rfl⟩ := List.mem_map.1 (hz.mem_iff.1 hm)
      exact zw u hu
    have hcs : SwL x y (cntT left (ps.zip ws)) (cntT left' (ps'.zip ws')) := by
      rw [cntT_perm hz zw']
      exact cntT_sw hs (by omega) (by omega) zb
    have hcp := cntT_pos (left := left) zw
    have hmost := mostT_sw hcs hs hr
    have hleast := leastT_sw hcs hs hr
    obtain ⟨p, hp, hlp, hpn⟩ := most_at (cs := cntT left (ps.zip ws)) hv hl (by omega)
    obtain ⟨p2, hp2, hlp2, hpn2⟩ := leastT_at (cs := cntT left (ps.zip ws)) hv hl (by omega)
    have hat := atF_sw hcs (show 0 ≤ mostT (cntT left (ps.zip ws)) left lots by omega)
    rw [← hmost] at hat
    have hset : ∀ i : Nat, left[i]? = some false → SwL x y (left.set i true) (left'.set (swn x y i) true) ∧ thereL (left.set i true) = thereL left - 1 ∧ thereL (left'.set (swn x y i) true) = thereL (left.set i true) := by
      intro i hi
      refine ⟨hs.set i true, thereL_set hi, ?_⟩
      rw [thereL_set hi, thereL_set (by rw [hs.2 i]; exact hi), ht]
    obtain ⟨a1, a2, a3⟩ := hset p hlp
    obtain ⟨b1, b2, b3⟩ := hset p2 hlp2
    have e1 : (mostT (cntT left' (ps'.zip ws')) left' (lots.map (sw x y))).toNat = swn x y (mostT (cntT left (ps.zip ws)) left lots).toNat := by rw [hmost, sw_toNat (by omega)]
    have e2 : (leastT (cntT left' (ps'.zip ws')) left' (lots.map (sw x y))).toNat = swn x y (leastT (cntT left (ps.zip ws)) left lots).toNat := by rw [hleast, sw_toNat (by omega)]
    have ep : (mostT (cntT left (ps.zip ws)) left lots).toNat = p := by omega
    have ep2 : (leastT (cntT left (ps.zip ws)) left lots).toNat = p2 := by omega
    unfold stepsT
    rw [if_neg h0, if_neg h0, hat, ht, e1, e2, ep, ep2]
    by_cases h1 : lessP (atF (cntT left (ps.zip ws)) (mostT (cntT left (ps.zip ws)) left lots)) (q, 1) = false
    · rw [if_pos h1, if_pos h1, List.map_cons, List.map_cons]
      refine congr (congrArg List.cons (by rw [hmost])) ?_
      have hxp : 0 < (atF (cntT left (ps.zip ws)) (mostT (cntT left (ps.zip ws)) left lots)).1 := by
        have h2 : 0 < (atF (cntT left (ps.zip ws)) (mostT (cntT left (ps.zip ws)) left lots)).2 := getD_pos hcp _
        generalize atF (cntT left (ps.zip ws)) (mostT (cntT left (ps.zip ws)) left lots) = f at *
        have h3 : ¬ (f.1 * 1 < q * f.2) := by simpa [lessP] using h1
        have h4 : 0 < q * f.2 := Nat.mul_pos hq h2
        omega
      refine ih _ _ _ _ _ (by rw [List.length_set]; exact hl) a1 (by omega) a3 ?_ ?_
      · unfold weighT
        rw [zip_weigh, zip_weigh, List.map_map, hmost]
        refine (hz.map _).trans ?_
        rw [List.map_map]
        refine List.Perm.of_eq (List.map_congr_left fun z hzm => ?_)
        show (tuP x y z.1, weighP left' (sw x y (mostT (cntT left (ps.zip ws)) left lots)) _ q (tuZ x y z)) = tuZ x y (z.1, weighP left _ _ q z)
        rw [weighP_sw hs (zb z hzm)]
        rfl
      · intro w hwm
        obtain ⟨z, hzm, rfl⟩ := List.mem_map.1 hwm
        unfold weighP
        split
        · exact redP_pos (Nat.mul_pos (zw z hzm) hxp)
        · exact zw z hzm
    · rw [if_neg h1, if_neg h1]
      by_cases h2 : thereL left ≤ (s : Int)
      · rw [if_pos h2, if_pos h2, List.map_cons, List.map_cons]
        refine congr (congrArg List.cons (by rw [hmost])) ?_
        exact ih _ _ _ _ _ (by rw [List.length_set]; exact hl) a1 (by omega) a3 hz hw
      · rw [if_neg h2, if_neg h2, List.map_cons, List.map_cons]
        refine congr (congrArg List.cons (by rw [hleast])) ?_
        exact ih _ _ _ _ _ (by rw [List.length_set]; exact hl) b1 (by omega) b3 hz hw
set_option maxRecDepth 100000 in
theorem winT_via (ss : List Stp) : winT ss = ((ss.map fun st => st.2).filter fun t => t.2 != 2).map fun t => t.1 := by
  unfold winT
  rw [List.filter_map, List.map_map]
  rfl
set_option maxRecDepth 100000 in
theorem winT_sw {x y : Nat} {ss ss' : List Stp} (h : ss'.map (fun st => st.2) = ss.map (fun st => (sw x y st.2.1, st.2.2))) : winT ss' = (winT ss).map (sw x y) := by
  rw [winT_via, h, List.filter_map, List.map_map]
  unfold winT
  rw [List.map_map]
  rfl
end Go.Proofs.Ytiinfbjlkbjmmaa
