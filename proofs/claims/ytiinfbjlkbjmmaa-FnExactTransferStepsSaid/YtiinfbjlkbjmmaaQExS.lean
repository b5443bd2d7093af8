/-
  Slices of fractions and of steps of any numbers, owned by the call.
-/
import Derived.Test.YtiinfbjlkbjmmaaQExP
import Derived.Test.YtiinfbjlkbjmmaaQTraZ
import Derived.Test.YtiinfbjlkbjmmaaQTraN
namespace Go.Proofs.Ytiinfbjlkbjmmaa
open Go.RowKit
/-- The argument at A reads as ss. -/
structure StepsL (w : World) (A : Option Addr) (ss : List Stz) : Prop where
  len : ss.length ≤ maxLen
  read : 0 < ss.length → ∃ ad, A = some ad ∧ ∀ j r, ss[j]? = some r → ∃ B c, r.1.length ≤ maxLen ∧ r.1.length ≤ c ∧ w.cell? (ad.add (j * 3)) = some (.slice B r.1.length c) ∧ FracsZ w B r.1 ∧ w.cell? (ad.add (j * 3 + 1)) = some (.int .i64 r.2.1) ∧ w.cell? (ad.add (j * 3 + 2)) = some (.int .i64 r.2.2)
section
variable {w w' : World} {A : Option Addr} {rs : List Stz}
set_option maxRecDepth 100000 in
theorem StepsL.at_ (h : StepsL w A rs) {k : Nat} (hk : k < rs.length) :
    ∃ ad B c xs o t, A = some ad ∧ Hid (rs[k]? = some (xs, o, t)) ∧ xs.length ≤ maxLen ∧ xs.length ≤ c ∧ FracsZ w B xs ∧ w.cell? (ad.add (k * 3)) = some (.slice B xs.length c) ∧ w.cell? ⟨(ad.add (k * 3)).block, (ad.add (k * 3)).off + 1, none⟩ = some (.int .i64 o) ∧ w.cell? ⟨(ad.add (k * 3)).block, (ad.add (k * 3)).off + 2, none⟩ = some (.int .i64 t) := by
  obtain ⟨ad, e, hc⟩ := h.read (by omega)
  obtain ⟨B, c, hm, h0, h1, h2, h3, h4⟩ := hc k rs[k] (List.getElem?_eq_getElem hk)
  exact ⟨ad, B, c, rs[k].1, rs[k].2.1, rs[k].2.2, e, List.getElem?_eq_getElem hk, hm, h0, h2, h1, (add_two ad (k * 3) 1).symm ▸ h3, (add_two ad (k * 3) 2).symm ▸ h4⟩
set_option maxRecDepth 100000 in
theorem StepsL.below (h : StepsL w A rs) (hb : Below w.heap.size w w') : StepsL w' A rs := by
  refine ⟨h.len, fun hn => ?_⟩
  obtain ⟨ad, e, hc⟩ := h.read hn
  refine ⟨ad, e, fun j r hr => ?_⟩
  obtain ⟨B, c, hm, h0, h1, h2, h3, h4⟩ := hc j r hr
  exact ⟨B, c, hm, h0, cell_below hb h1, h2.below hb, cell_below hb h3, cell_below hb h4⟩
set_option maxRecDepth 100000 in
theorem StepsL.drewN (h : StepsL w A rs) (n : Nat) : StepsL (w.drewN n) A rs := ⟨h.len, h.read⟩
set_option maxRecDepth 100000 in
theorem StepsL.nil (w : World) (A : Option Addr) : StepsL w A [] := ⟨by simp, fun h => absurd h (by simp)⟩
set_option maxRecDepth 100000 in
theorem StepsL.steps (h : StepsL w A rs) (hs : ∀ s ∈ rs, s.1.length ≤ 1048576) : StepsZ w A rs := by
  refine ⟨fun hn => ?_⟩
  obtain ⟨ad, e, hc⟩ := h.read hn
  refine ⟨ad, e, fun j r hr => ?_⟩
  obtain ⟨B, c, _, h0, h1, h2, h3, h4⟩ := hc j r hr
  exact ⟨B, c, hs _ (List.mem_of_getElem? hr), h0, h1, h2, h3, h4⟩
end
/-- How much the counts of steps hold. -/
def szC (ss : List Stz) : Nat := (ss.map fun s => s.1.length).sum
def szS (ss : List Stz) : Nat := ss.length + szC ss
set_option maxRecDepth 100000 in
theorem szC_take {ss : List Stz} {k : Nat} {s : Stz} (h : ss[k]? = some s) : szC (ss.take (k + 1)) = szC (ss.take k) + s.1.length := by
  unfold szC
  rw [take_snoc ss k s h, List.map_append, List.sum_append]
  simp
set_option maxRecDepth 100000 in
theorem szC_take_le (ss : List Stz) (k : Nat) : szC (ss.take k) ≤ szC ss := by
  have h2 : szC ss = szC (ss.take k) + szC (ss.drop k) := by
    unfold szC
    rw [← List.sum_append, ← List.map_append, List.take_append_drop]
  omega
set_option maxRecDepth 100000 in
theorem szC_mem {ss : List Stz} : ∀ s ∈ ss, s.1.length ≤ szC ss := by
  intro p hp
  induction ss with
  | nil => cases hp
  | cons a t ih =>
    unfold szC at ih ⊢
    simp only [List.map_cons, List.sum_cons]
    rcases List.mem_cons.1 hp with rfl | hp
    · omega
    · have := ih hp; omega
/-- The cells of fractions of any numbers. -/
def jcs (fs : List (Int × Int)) : List Value := fs.flatMap fun f => [.int .i64 f.1, .int .i64 f.2]
set_option maxRecDepth 100000 in
theorem jcs_len (fs : List (Int × Int)) : (jcs fs).length = fs.length * 2 := by
  induction fs with
  | nil => rfl
  | cons p t ih => simp only [jcs, List.flatMap_cons, List.length_append, List.length_cons, List.length_nil] at ih ⊢; omega
set_option maxRecDepth 100000 in
theorem jcs_cons (f : Int × Int) (t : List (Int × Int)) : jcs (f :: t) = .int .i64 f.1 :: .int .i64 f.2 :: jcs t := rfl
set_option maxRecDepth 100000 in
theorem jcs_at {fs : List (Int × Int)} {k : Nat} {f : Int × Int} (h : fs[k]? = some f) : (jcs fs)[k * 2]? = some (.int .i64 f.1) ∧ (jcs fs)[k * 2 + 1]? = some (.int .i64 f.2) := by
  induction fs generalizing k with
  | nil => simp at h
  | cons q t ih =>
    cases k with
    | zero =>
      simp at h
      subst h
      rw [jcs_cons]
      exact ⟨rfl, rfl⟩
    | succ k =>
      simp at h
      obtain ⟨h1, h2⟩ := ih h
      rw [jcs_cons, show (k + 1) * 2 = k * 2 + 1 + 1 by omega]
      exact ⟨by rw [List.getElem?_cons_succ, List.getElem?_cons_succ]; exact h1, by rw [List.getElem?_cons_succ, List.getElem?_cons_succ]; exact h2⟩
set_option maxRecDepth 100000 in
theorem jcs_set (fs : List (Int × Int)) (k : Nat) (f : Int × Int) : ((jcs fs).set (k * 2) (.int .i64 f.1)).set (k * 2 + 1) (.int .i64 f.2) = jcs (fs.set k f) := by
  induction fs generalizing k with
  | nil => simp [jcs]
  | cons q t ih =>
    cases k with
    | zero => rw [jcs_cons]; simp [jcs_cons]
    | succ k =>
      rw [jcs_cons, show (k + 1) * 2 = k * 2 + 1 + 1 by omega, List.set_cons_succ, List.set_cons_succ, List.set_cons_succ, List.set_cons_succ, ih k]
      rfl
set_option maxRecDepth 100000 in
theorem fcs_jcs (fs : List Fr) : fcs fs = jcs (fs.map fz) := by
  induction fs with
  | nil => rfl
  | cons f t ih => rw [fcs_cons, ih]; rfl
/-- The call owns the slice of fractions of any numbers. -/
structure OwnJ (w : World) (base : Nat) (A : Option Addr) (n c : Nat) (fs : List (Int × Int)) : Prop where
  len : fs.length = n
  row : w.ownsRow base 75 2 (.slice A n c) n (jcs fs)
section
variable {w w' : World} {base n c : Nat} {A : Option Addr} {fs : List (Int × Int)}
set_option maxRecDepth 100000 in
theorem OwnF.j {fs : List Fr} (h : OwnF w base A n c fs) : OwnJ w base A n c (fs.map fz) := ⟨by rw [List.length_map]; exact h.len, fcs_jcs fs ▸ h.row⟩
set_option maxRecDepth 100000 in
theorem OwnJ.z (h : OwnJ w base A n c fs) : FracsZ w A fs := by
  intro hn
  have hl := h.len
  rcases h.row.2 with ⟨hv, h0⟩ | ⟨g, cap, cur, hv, _⟩
  · omega
  · injection hv with hA
    subst hA
    refine ⟨_, rfl, fun j p hp => ?_⟩
    obtain ⟨h1, h2⟩ := jcs_at hp
    exact ⟨World.ownsRow.cells h.row (g := g) rfl _ _ h1, World.ownsRow.cells h.row (g := g) rfl _ _ h2⟩
set_option maxRecDepth 100000 in
theorem OwnJ.below (h : OwnJ w base A n c fs) (hb : Below w.heap.size w w') : OwnJ w' base A n c fs :=
  ⟨h.len, World.ownsRow.kept h.row (row := none) ⟨hb.os, hb.tape, hb.output, hb.size, fun k hk _ => hb.block k hk⟩ (by cases hv : (Value.slice A n c).ownBlock <;> simp)⟩
set_option maxRecDepth 100000 in
theorem OwnJ.mono (h : OwnJ w base A n c fs) {b : Nat} (hb : b ≤ base) : OwnJ w b A n c fs := by
  refine ⟨h.len, h.row.1, ?_⟩
  rcases h.row.2 with h2 | ⟨g, cap, cur, hv, hg, r⟩
  · exact .inl h2
  · exact .inr ⟨g, cap, cur, hv, by omega, r⟩
set_option maxRecDepth 100000 in
theorem OwnJ.drewN (h : OwnJ w base A n c fs) (m : Nat) : OwnJ (w.drewN m) base A n c fs := ⟨h.len, h.row⟩
set_option maxRecDepth 100000 in
theorem OwnJ.grown {row : Option Nat} (h : OwnJ w base A n c fs) (hg : w.grownBy w' row) (hr : ∀ k, row = some k → (Value.slice A n c).ownBlock ≠ some k) : OwnJ w' base A n c fs :=
  ⟨h.len, World.ownsRow.kept h.row hg (by
    cases hv : (Value.slice A n c).ownBlock with
    | none => exact .inl rfl
    | some b => exact .inr (fun e => hr b e.symm hv))⟩
set_option maxRecDepth 100000 in
theorem OwnJ.block (h : OwnJ w base A n c fs) : ∀ k, (Value.slice A n c).ownBlock = some k → base ≤ k ∧ k < w.heap.size := World.ownsRow.lt h.row
set_option maxRecDepth 100000 in
theorem OwnJ.le_cap (h : OwnJ w base A n c fs) : n ≤ c := by
  rcases h.row.2 with ⟨hv, h0⟩ | ⟨g, cap, cur, hv, hb, hg, h1, _⟩
  · omega
  · injection hv with _ _ hc
    omega
set_option maxRecDepth 100000 in
theorem OwnJ.form (h : OwnJ w base A n c fs) (hn : 0 < n) : ∃ g, A = some ⟨g, 0, none⟩ ∧ base ≤ g ∧ g < w.heap.size := by
  rcases h.row.2 with ⟨hv, h0⟩ | ⟨g, cap, cur, hv, hb, hg, _⟩
  · omega
  · injection hv with hA
    exact ⟨g, hA, hb, (Array.getElem?_eq_some_iff.1 hg).1⟩
set_option maxRecDepth 100000 in
theorem OwnJ.congr {gs : List (Int × Int)} (h : OwnJ w base A n c fs) (e : fs = gs) : OwnJ w base A n c gs := e ▸ h
set_option maxRecDepth 100000 in
theorem OwnJ.btw {lo hi : Nat} (h : OwnJ w base A n c fs) (hg : Btw lo hi w w') (hr : ∀ k, (Value.slice A n c).ownBlock = some k → k < lo ∨ hi ≤ k) : OwnJ w' base A n c fs := by
  refine ⟨h.len, h.row.1, ?_⟩
  rcases h.row.2 with h2 | ⟨g, cap, cur, hv, hb, hgg, r⟩
  · exact .inl h2
  · refine .inr ⟨g, cap, cur, hv, hb, ?_, r⟩
    rw [hg.block g (Array.getElem?_eq_some_iff.1 hgg).1 (hr g (by rw [hv]; rfl))]
    exact hgg
set_option maxRecDepth 100000 in
theorem OwnJ.set {g : Nat} (h : OwnJ w base (some ⟨g, 0, none⟩) n c fs) (k : Nat) (f : Int × Int) : OwnJ ((w.setCell ⟨g, k * 2, none⟩ (.int .i64 f.1)).setCell ⟨g, k * 2 + 1, none⟩ (.int .i64 f.2)) base (some ⟨g, 0, none⟩) n c (fs.set k f) := by
  refine ⟨by rw [List.length_set]; exact h.len, ?_⟩
  have h1 := (World.ownsRow.stored h.row (k * 2) (.int .i64 f.1)).1
  have h2 := (World.ownsRow.stored h1 (k * 2 + 1) (.int .i64 f.2)).1
  rw [jcs_set] at h2
  exact h2
set_option maxRecDepth 100000 in
theorem OwnJ.frozen {g : Nat} (h : OwnJ w base (some ⟨g, 0, none⟩) n c fs) (k : Nat) : w.frozen? ⟨g, k, none⟩ = false := World.ownsRow.frozenAt h.row k
set_option maxRecDepth 100000 in
theorem OwnJ.cell {g : Nat} (h : OwnJ w base (some ⟨g, 0, none⟩) n c fs) {k : Nat} {f : Int × Int} (hf : fs[k]? = some f) : w.cell? ⟨g, k * 2, none⟩ = some (.int .i64 f.1) ∧ w.cell? ⟨g, k * 2 + 1, none⟩ = some (.int .i64 f.2) := by
  obtain ⟨h1, h2⟩ := jcs_at hf
  have e1 := World.ownsRow.cells h.row (g := g) rfl _ _ h1
  have e2 := World.ownsRow.cells h.row (g := g) rfl _ _ h2
  rw [add_row] at e1 e2
  exact ⟨e1, e2⟩
end
/-- A step: where its counts lie, their capacity, the counts, the candidate, what happens. -/
abbrev Vsz := Option Addr × Nat × List (Int × Int) × Int × Int
def spz (v : Vsz) : Stz := (v.2.2.1, v.2.2.2.1, v.2.2.2.2)
def vz (v : Vst) : Vsz := (v.1, v.2.1, v.2.2.1.map fz, v.2.2.2.1, v.2.2.2.2)
def zcs (vs : List Vsz) : List Value := vs.flatMap fun v => [.slice v.1 v.2.2.1.length v.2.1, .int .i64 v.2.2.2.1, .int .i64 v.2.2.2.2]
set_option maxRecDepth 100000 in
theorem zcs_len (vs : List Vsz) : (zcs vs).length = vs.length * 3 := by
  induction vs with
  | nil => rfl
  | cons p t ih => simp only [zcs, List.flatMap_cons, List.length_append, List.length_cons, List.length_nil] at ih ⊢; omega
set_option maxRecDepth 100000 in
theorem zcs_cons (v : Vsz) (t : List Vsz) : zcs (v :: t) = .slice v.1 v.2.2.1.length v.2.1 :: .int .i64 v.2.2.2.1 :: .int .i64 v.2.2.2.2 :: zcs t := rfl
set_option maxRecDepth 100000 in
theorem zcs_at {vs : List Vsz} {k : Nat} {v : Vsz} (h : vs[k]? = some v) : (zcs vs)[k * 3]? = some (.slice v.1 v.2.2.1.length v.2.1) ∧ (zcs vs)[k * 3 + 1]? = some (.int .i64 v.2.2.2.1) ∧ (zcs vs)[k * 3 + 2]? = some (.int .i64 v.2.2.2.2) := by
  induction vs generalizing k with
  | nil => simp at h
  | cons q t ih =>
    cases k with
    | zero =>
      simp at h
      subst h
      rw [zcs_cons]
      exact ⟨rfl, rfl, rfl⟩
    | succ k =>
      simp at h
      obtain ⟨h1, h2, h3⟩ := ih h
      rw [zcs_cons, show (k + 1) * 3 = k * 3 + 1 + 1 + 1 by omega]
      exact ⟨by simpa only [List.getElem?_cons_succ] using h1, by simpa only [List.getElem?_cons_succ] using h2, by simpa only [List.getElem?_cons_succ] using h3⟩
set_option maxRecDepth 100000 in
theorem zcs_set (vs : List Vsz) (k : Nat) (v : Vsz) : (((zcs vs).set (k * 3) (.slice v.1 v.2.2.1.length v.2.1)).set (k * 3 + 1) (.int .i64 v.2.2.2.1)).set (k * 3 + 2) (.int .i64 v.2.2.2.2) = zcs (vs.set k v) := by
  induction vs generalizing k with
  | nil => simp [zcs]
  | cons q t ih =>
    cases k with
    | zero => rw [zcs_cons]; simp [zcs_cons]
    | succ k =>
      rw [zcs_cons, show (k + 1) * 3 = k * 3 + 1 + 1 + 1 by omega]
      simp only [List.set_cons_succ]
      rw [ih k]
      rfl
set_option maxRecDepth 100000 in
theorem zcs_set2 (vs : List Vsz) (k : Nat) (v : Vsz) {u : Vsz} (hu : vs[k]? = some u) (e0 : v.1 = u.1) (e1 : v.2.1 = u.2.1) (e2 : v.2.2.1.length = u.2.2.1.length) : ((zcs vs).set (k * 3 + 1) (.int .i64 v.2.2.2.1)).set (k * 3 + 2) (.int .i64 v.2.2.2.2) = zcs (vs.set k v) := by
  rw [← zcs_set]
  have h := (zcs_at hu).1
  rw [← e0, ← e1, ← e2] at h
  congr 2
  refine List.ext_getElem? fun j => ?_
  rw [List.getElem?_set]
  split
  · rename_i hj
    subst hj
    rw [h, if_pos (List.getElem?_eq_some_iff.1 h).1]
  · rfl
/-- The call owns the slice of steps and the counts in it (from bi on). -/
structure OwnZ (w : World) (base bi : Nat) (A : Option Addr) (n c : Nat) (vs : List Vsz) : Prop where
  len : vs.length = n
  row : w.ownsRow base 68 3 (.slice A n c) n (zcs vs)
  own : ∀ v ∈ vs, OwnJ w bi v.1 v.2.2.1.length v.2.1 v.2.2.1
section
variable {w w' : World} {base bi n c : Nat} {A : Option Addr} {vs : List Vsz}
set_option maxRecDepth 100000 in
theorem scs_zcs (vs : List Vst) : scs vs = zcs (vs.map vz) := by
  induction vs with
  | nil => rfl
  | cons v t ih =>
    rw [List.map_cons, zcs_cons, ← ih]
    simp [scs, vz]
set_option maxRecDepth 100000 in
theorem OwnS.zz {vs : List Vst} (h : OwnS w base bi A n c vs) : OwnZ w base bi A n c (vs.map vz) := by
  refine ⟨by rw [List.length_map]; exact h.len, scs_zcs vs ▸ h.row, fun v hv => ?_⟩
  obtain ⟨u, hu, rfl⟩ := List.mem_map.1 hv
  have := (h.own u hu).j
  simpa [vz] using this
set_option maxRecDepth 100000 in
theorem OwnZ.z (h : OwnZ w base bi A n c vs) (hs : ∀ v ∈ vs, v.2.2.1.length ≤ 1048576) : StepsZ w A (vs.map spz) := by
  refine ⟨fun hn => ?_⟩
  have hl := h.len
  simp at hn
  rcases h.row.2 with ⟨hv, h0⟩ | ⟨g, cap, cur, hv, _⟩
  · omega
  · injection hv with hA
    subst hA
    refine ⟨_, rfl, fun j r hr => ?_⟩
    rw [List.getElem?_map] at hr
    cases hv : vs[j]? with
    | none => rw [hv] at hr; cases hr
    | some v =>
      rw [hv] at hr
      injection hr with hr
      subst hr
      obtain ⟨h1, h2, h3⟩ := zcs_at hv
      have ho := h.own v (List.mem_of_getElem? hv)
      exact ⟨v.1, v.2.1, hs v (List.mem_of_getElem? hv), ho.le_cap, World.ownsRow.cells h.row (g := g) rfl _ _ h1, ho.z, World.ownsRow.cells h.row (g := g) rfl _ _ h2, World.ownsRow.cells h.row (g := g) rfl _ _ h3⟩
set_option maxRecDepth 100000 in
theorem OwnZ.below (h : OwnZ w base bi A n c vs) (hb : Below w.heap.size w w') : OwnZ w' base bi A n c vs :=
  ⟨h.len, World.ownsRow.kept h.row (row := none) ⟨hb.os, hb.tape, hb.output, hb.size, fun k hk _ => hb.block k hk⟩ (by cases hv : (Value.slice A n c).ownBlock <;> simp), fun v hv => (h.own v hv).below hb⟩
set_option maxRecDepth 100000 in
theorem OwnZ.drewN (h : OwnZ w base bi A n c vs) (m : Nat) : OwnZ (w.drewN m) base bi A n c vs := ⟨h.len, h.row, fun v hv => (h.own v hv).drewN m⟩
set_option maxRecDepth 100000 in
theorem OwnZ.congr {us : List Vsz} (h : OwnZ w base bi A n c vs) (e : vs = us) : OwnZ w base bi A n c us := e ▸ h
set_option maxRecDepth 100000 in
theorem OwnZ.btw {lo hi : Nat} (h : OwnZ w base bi A n c vs) (hg : Btw lo hi w w') (hb : hi ≤ base) (hi' : hi ≤ bi) : OwnZ w' base bi A n c vs := by
  refine ⟨h.len, ⟨h.row.1, ?_⟩, fun v hv => (h.own v hv).btw hg (fun k hk => .inr (by have := ((h.own v hv).block k hk).1; omega))⟩
  rcases h.row.2 with h2 | ⟨g, cap, cur, hv, hgb, hgg, r⟩
  · exact .inl h2
  · refine .inr ⟨g, cap, cur, hv, hgb, ?_, r⟩
    rw [hg.block g (Array.getElem?_eq_some_iff.1 hgg).1 (.inr (by omega))]
    exact hgg
set_option maxRecDepth 100000 in
theorem OwnZ.form (h : OwnZ w base bi A n c vs) (hn : 0 < n) : ∃ g, A = some ⟨g, 0, none⟩ ∧ base ≤ g ∧ g < w.heap.size := by
  rcases h.row.2 with ⟨hv, h0⟩ | ⟨g, cap, cur, hv, hb, hg, _⟩
  · omega
  · injection hv with hA
    exact ⟨g, hA, hb, (Array.getElem?_eq_some_iff.1 hg).1⟩
set_option maxRecDepth 100000 in
theorem OwnZ.frozen {g : Nat} (h : OwnZ w base bi (some ⟨g, 0, none⟩) n c vs) (k : Nat) : w.frozen? ⟨g, k, none⟩ = false := World.ownsRow.frozenAt h.row k
set_option maxRecDepth 100000 in
theorem OwnZ.cell {g : Nat} (h : OwnZ w base bi (some ⟨g, 0, none⟩) n c vs) {k : Nat} {v : Vsz} (hf : vs[k]? = some v) : w.cell? ⟨g, k * 3, none⟩ = some (.slice v.1 v.2.2.1.length v.2.1) ∧ w.cell? ⟨g, k * 3 + 1, none⟩ = some (.int .i64 v.2.2.2.1) ∧ w.cell? ⟨g, k * 3 + 2, none⟩ = some (.int .i64 v.2.2.2.2) := by
  obtain ⟨h1, h2, h3⟩ := zcs_at hf
  have e1 := World.ownsRow.cells h.row (g := g) rfl _ _ h1
  have e2 := World.ownsRow.cells h.row (g := g) rfl _ _ h2
  have e3 := World.ownsRow.cells h.row (g := g) rfl _ _ h3
  rw [add_row] at e1 e2 e3
  exact ⟨e1, e2, e3⟩
set_option maxRecDepth 100000 in
/-- The counts lie elsewhere than the steps. -/
theorem OwnZ.far {g : Nat} (h : OwnZ w base bi (some ⟨g, 0, none⟩) n c vs) {v : Vsz} (hv : v ∈ vs) : (Value.slice v.1 v.2.2.1.length v.2.1).ownBlock ≠ some g := fun e => own_ne h.row (h.own v hv).row (by decide) rfl e
set_option maxRecDepth 100000 in
theorem OwnZ.set {g : Nat} (h : OwnZ w base bi (some ⟨g, 0, none⟩) n c vs) (k : Nat) (v : Vsz) (hv : OwnJ w bi v.1 v.2.2.1.length v.2.1 v.2.2.1) :
    OwnZ (((w.setCell ⟨g, k * 3, none⟩ (.slice v.1 v.2.2.1.length v.2.1)).setCell ⟨g, k * 3 + 1, none⟩ (.int .i64 v.2.2.2.1)).setCell ⟨g, k * 3 + 2, none⟩ (.int .i64 v.2.2.2.2)) base bi (some ⟨g, 0, none⟩) n c (vs.set k v) := by
  have hg := grown_setCell (grown_setCell (grown_setCell (grown_refl w (some g)) (k * 3) (.slice v.1 v.2.2.1.length v.2.1)) (k * 3 + 1) (.int .i64 v.2.2.2.1)) (k * 3 + 2) (.int .i64 v.2.2.2.2)
  have h1 := (World.ownsRow.stored h.row (k * 3) (.slice v.1 v.2.2.1.length v.2.1)).1
  have h2 := (World.ownsRow.stored h1 (k * 3 + 1) (.int .i64 v.2.2.2.1)).1
  have h3 := (World.ownsRow.stored h2 (k * 3 + 2) (.int .i64 v.2.2.2.2)).1
  rw [zcs_set] at h3
  refine ⟨by rw [List.length_set]; exact h.len, h3, fun u hu => ?_⟩
  rcases List.mem_or_eq_of_mem_set hu with hu | rfl
  · exact (h.own u hu).grown hg (fun x hx e => by injection hx with hx; subst hx; exact h.far hu e)
  · exact hv.grown hg (fun x hx e => by injection hx with hx; subst hx; exact own_ne h.row hv.row (by decide) rfl e)
end
end Go.Proofs.Ytiinfbjlkbjmmaa
