/-
  The laws' own marks on piles and on steps, written and read.
-/
import Derived.Test.YtiinfbjlkbjmmaaQExT
namespace Go.Proofs.Ytiinfbjlkbjmmaa
open Go.RowKit
set_option maxRecDepth 100000 in
theorem grownM_below {a w w' : World} {row : Option Nat} (h : a.grownBy w row) (hb : Below w.heap.size w w') : a.grownBy w' row := grown_trans h (grown_of_below hb row)
set_option maxRecDepth 100000 in
theorem row_at {w : World} {base n c g s : Nat} {t : TypeId} {cs : List Value} (h : w.ownsRow base t s (.slice (some ⟨g, 0, none⟩) n c) n cs) {j : Nat} (hj : j < n * s) : ∃ u, cs[j]? = some u ∧ w.cell? ⟨g, j, none⟩ = some u := by
  have hl := h.1
  have e : cs[j]? = some cs[j] := List.getElem?_eq_getElem (by omega)
  refine ⟨_, e, ?_⟩
  have := World.ownsRow.cells h (g := g) rfl _ _ e
  rwa [add_row] at this
set_option maxRecDepth 100000 in
theorem row_below {w w' : World} {base n c s : Nat} {A : Option Addr} {t : TypeId} {cs : List Value} (h : w.ownsRow base t s (.slice A n c) n cs) (hb : Below w.heap.size w w') : w'.ownsRow base t s (.slice A n c) n cs :=
  World.ownsRow.kept h (row := none) ⟨hb.os, hb.tape, hb.output, hb.size, fun k hk _ => hb.block k hk⟩ (by cases hv : (Value.slice A n c).ownBlock <;> simp)
set_option maxRecDepth 100000 in
set_option maxHeartbeats 1600000 in
theorem markPileS_any (A : Option Addr) (ps : List (ByteArray × Int)) (n c k base : Nat) (w : World) (h : OwnP w base A n c ps) (hl : n ≤ 1048576) (hk1 : k ≤ 10000000) :
    Calls Try.prog 31 #[.slice A n c, .int .i64 (k : Int)] w (fun e w' => e = .returned (.int .i64 ((k + 2 * n : Nat) : Int)) ∧ w.grownBy w' (Value.slice A n c).ownBlock) := by
  by_cases h0 : 0 < n
  · obtain ⟨g, rfl, hg0, hg1⟩ := h.form h0
    have hr0 := h.row
    clear h
    go_enter Try.func31, Try.ntmps31
    go_wp2
    go_loopw [1, 5] (fun m i wr => ∃ (j : Nat) (cs : List Value), j ≤ n ∧ i = .int .i64 j ∧ m = .int .i64 ((k + 2 * j : Nat) : Int) ∧ wr.ownsRow base 70 2 (.slice (some ⟨g, 0, none⟩) n c) n cs ∧ w.grownBy wr (some g)) (fun _ i _ => n - (intOf i).toNat)
    case atStart => exact ⟨0, _, by omega, rfl, by go_num, hr0, grown_refl _ _⟩
    case round =>
      obtain ⟨j, cs, hj, rfl, rfl, hown, hgr⟩ := hrel
      clear hr0
      by_cases hlt : j < n
      · have cM := Lib.hid (markText_any (k + 2 * j) wr (by omega))
        go_wp2_with fail
        refine cM.out.mono ?_
        rintro e w2 ⟨s, rfl, hb2⟩
        have hown2 := row_below hown hb2
        have hg2 := grownM_below hgr hb2
        obtain ⟨y0, _, e0⟩ := row_at hown2 (j := j * 2) (by omega)
        obtain ⟨y1, _, e1⟩ := row_at hown2 (j := j * 2 + 1) (by omega)
        have f0 : w2.frozen? ⟨g, j * 2, none⟩ = false := World.ownsRow.frozenAt hown2 (j * 2)
        have f1 : w2.frozen? ⟨g, j * 2 + 1, none⟩ = false := World.ownsRow.frozenAt hown2 (j * 2 + 1)
        have HO := Lib.hid hown2
        have HG := Lib.hid hg2
        clear hown hgr hb2 cM hown2 hg2
        obtain ⟨m, hm⟩ : ∃ m : Nat, k + 2 * j = m := ⟨_, rfl⟩
        have HM := Lib.hid hm
        have hm9 : m ≤ 20000000 := by omega
        rw [hm]
        clear hm
        go_wp2
        go_roundw
        case rel => exact ⟨j + 1, _, by omega, by go_num, by have := HM.out; go_num, (World.ownsRow.stored (World.ownsRow.stored HO.out (j * 2) _).1 (j * 2 + 1) _).1, grown_setCell (grown_setCell HG.out _ _) _ _⟩
        case measure => simp [intOf]; omega
      · obtain rfl : j = n := by omega
        clear hlt
        go_wp2
        go_ret
        exact ⟨rfl, hgr⟩
  · have hx : ps = [] := List.eq_nil_of_length_eq_zero (by have := h.len; omega)
    obtain rfl : n = 0 := by omega
    go_enter Try.func31, Try.ntmps31
    go_wp2
    refine wp_loop_rounds 1 ?_
    rw [rounds_succ]
    go_wp2
    go_ret
    exact ⟨ret_int (by simp), grown_refl _ _⟩
/-- The numbers k, k + 1 and so on, two by two. -/
def jmarks (k : Int) (n : Nat) : List (Int × Int) := (List.range n).map fun (j : Nat) => (k + 2 * (j : Int), k + 2 * (j : Int) + 1)
set_option maxRecDepth 100000 in
theorem jmarks_length (k : Int) (n : Nat) : (jmarks k n).length = n := by simp [jmarks]
set_option maxRecDepth 100000 in
theorem jmarks_at (k : Int) {n j : Nat} (hj : j < n) : (jmarks k n)[j]? = some (k + 2 * (j : Int), k + 2 * (j : Int) + 1) := by
  unfold jmarks
  rw [List.getElem?_map, List.getElem?_range hj]
  rfl
def jmarked (fs : List (Int × Int)) (k : Int) (j : Nat) : List (Int × Int) := jmarks k j ++ fs.drop j
set_option maxRecDepth 100000 in
theorem jmarked_set (fs : List (Int × Int)) (k : Int) {j : Nat} (hj : j < fs.length) : (jmarked fs k j).set j (k + 2 * (j : Int), k + 2 * (j : Int) + 1) = jmarked fs k (j + 1) := by
  unfold jmarked
  rw [List.set_append_right _ _ (by rw [jmarks_length]; omega), jmarks_length, Nat.sub_self, List.drop_eq_getElem_cons hj, List.set_cons_zero]
  simp [jmarks, List.range_succ]
set_option maxRecDepth 100000 in
theorem jmarked_all (fs : List (Int × Int)) (k : Int) : jmarked fs k fs.length = jmarks k fs.length := by simp [jmarked]
set_option maxRecDepth 100000 in
theorem jmarked_length (fs : List (Int × Int)) (k : Int) {j : Nat} (hj : j ≤ fs.length) : (jmarked fs k j).length = fs.length := by simp [jmarked, jmarks_length]; omega
set_option maxRecDepth 100000 in
set_option maxHeartbeats 1600000 in
theorem markFracS_any (A : Option Addr) (fs : List (Int × Int)) (n c : Nat) (k : Int) (base : Nat) (w : World) (h : OwnJ w base A n c fs) (hl : n ≤ 1048576) (hk0 : 0 ≤ k) (hk1 : k ≤ 1000000000) :
    Calls Try.prog 65 #[.slice A n c, .int .i64 k] w (fun e w' => e = .returned (.int .i64 (k + 2 * (n : Int))) ∧ OwnJ w' base A n c (jmarks k n) ∧ w.grownBy w' (Value.slice A n c).ownBlock) := by
  have hln := h.len
  subst hln
  by_cases h0 : 0 < fs.length
  · obtain ⟨g, rfl, hg0, hg1⟩ := h.form h0
    go_enter Try.func65, Try.ntmps65
    go_wp2
    go_loopw [1, 5] (fun m i wr => ∃ j : Nat, j ≤ fs.length ∧ i = .int .i64 j ∧ m = .int .i64 (k + 2 * (j : Int)) ∧ OwnJ wr base (some ⟨g, 0, none⟩) fs.length c (jmarked fs k j) ∧ w.grownBy wr (some g)) (fun _ i _ => fs.length - (intOf i).toNat)
    case atStart => exact ⟨0, by omega, rfl, by go_num, by simpa [jmarked, jmarks] using h, grown_refl _ _⟩
    case round =>
      obtain ⟨j, hj, rfl, rfl, hown, hgr⟩ := hrel
      by_cases hlt : j < fs.length
      · have f0 := hown.frozen (j * 2)
        have f1 := hown.frozen (j * 2 + 1)
        obtain ⟨y, hy⟩ : ∃ y, Hid ((jmarked fs k j)[j]? = some y) := ⟨_, List.getElem?_eq_getElem (by rw [jmarked_length _ _ hj]; exact hlt)⟩
        obtain ⟨e0, e1⟩ := hown.cell hy.out
        go_wp2
        go_roundw
        case rel => exact ⟨j + 1, by omega, by go_num, by go_num, (hown.set j (k + 2 * (j : Int), k + 2 * (j : Int) + 1)).congr (jmarked_set fs k hlt), grown_setCell (grown_setCell hgr _ _) _ _⟩
        case measure => simp [intOf]; omega
      · obtain rfl : j = fs.length := by omega
        clear hlt
        go_wp2
        go_ret
        exact ⟨rfl, hown.congr (jmarked_all fs k), hgr⟩
  · have hx : fs = [] := List.eq_nil_of_length_eq_zero (by omega)
    subst hx
    go_enter Try.func65, Try.ntmps65
    go_wp2
    refine wp_loop_rounds 1 ?_
    rw [rounds_succ]
    go_wp2
    go_ret
    exact ⟨ret_int (by simp), h.congr (by simp [jmarks]), grown_refl _ _⟩
set_option maxRecDepth 100000 in
set_option maxHeartbeats 1600000 in
theorem heldFracS_any (A : Option Addr) (n c : Nat) (k : Int) (w : World) (h : FracsZ w A (jmarks k n)) (hl : n ≤ 1048576) (hk0 : 0 ≤ k) (hk1 : k ≤ 1000000000) :
    Calls Try.prog 66 #[.slice A n c, .int .i64 k] w (Ret w (.int .i64 (k + 2 * (n : Int)))) := by
  go_enter Try.func66, Try.ntmps66
  go_wp2
  go_loop [1, 5] (fun m i => ∃ j : Nat, j ≤ n ∧ i = .int .i64 j ∧ m = .int .i64 (k + 2 * (j : Int))) (fun _ i => n - (intOf i).toNat)
  case atStart => exact ⟨0, by omega, rfl, by go_num⟩
  case round =>
    obtain ⟨j, hj, rfl, rfl⟩ := hrel
    by_cases hlt : j < n
    · obtain ⟨ad, x, y, rfl, hx, hc, hd⟩ := h.at_ (k := j) (by rw [jmarks_length]; exact hlt)
      have hx' := hx.out
      rw [jmarks_at k hlt] at hx'
      injection hx' with hx'
      injection hx' with hx1 hx2
      subst hx1
      subst hx2
      have hb : ((k + 2 * (j : Int)) != (k + 2 * (j : Int))) = false := by simp
      have hb2 : ((k + 2 * (j : Int) + 1) != (k + 2 * (j : Int) + 1)) = false := by simp
      go_wp2
      go_round
      case rel => exact ⟨j + 1, by omega, by go_num, by go_num⟩
      case measure => simp [intOf]; omega
    · obtain rfl : j = n := by omega
      clear hlt
      go_wp2
      go_ret
      exact ⟨rfl, rfl⟩
/-- Steps of given lengths, marked from k on. -/
def smark (k : Int) : List Nat → List Stz
  | [] => []
  | n :: t => (jmarks k n, k + 2 * (n : Int), k + 2 * (n : Int) + 1) :: smark (k + 2 * (n : Int) + 2) t
def slen (ls : List Nat) : Nat := (ls.map (2 * · + 2)).sum
set_option maxRecDepth 100000 in
theorem slen_cons (n : Nat) (t : List Nat) : slen (n :: t) = 2 * n + 2 + slen t := by simp [slen]
set_option maxRecDepth 100000 in
theorem slen_take {ls : List Nat} {j n : Nat} (h : ls[j]? = some n) : slen (ls.take (j + 1)) = slen (ls.take j) + (2 * n + 2) := by
  unfold slen
  rw [take_snoc ls j n h, List.map_append, List.sum_append]
  simp
set_option maxRecDepth 100000 in
theorem slen_take_le (ls : List Nat) (k : Nat) : slen (ls.take k) ≤ slen ls := by
  have h2 : slen ls = slen (ls.take k) + slen (ls.drop k) := by
    unfold slen
    rw [← List.sum_append, ← List.map_append, List.take_append_drop]
  omega
set_option maxRecDepth 100000 in
theorem smark_length (k : Int) (ls : List Nat) : (smark k ls).length = ls.length := by
  induction ls generalizing k with
  | nil => rfl
  | cons n t ih => simp [smark, ih]
set_option maxRecDepth 100000 in
theorem smark_at (k : Int) {ls : List Nat} {j n : Nat} (h : ls[j]? = some n) : (smark k ls)[j]? = some (jmarks (k + slen (ls.take j)) n, k + slen (ls.take j) + 2 * (n : Int), k + slen (ls.take j) + 2 * (n : Int) + 1) := by
  induction ls generalizing k j with
  | nil => simp at h
  | cons m t ih =>
    cases j with
    | zero =>
      simp at h
      subst h
      simp [smark, slen]
    | succ j =>
      simp at h
      rw [smark, List.getElem?_cons_succ, ih _ h, List.take_succ_cons, slen_cons]
      have e : k + 2 * (m : Int) + 2 + (slen (t.take j) : Nat) = k + ((2 * m + 2 + slen (t.take j) : Nat) : Int) := by omega
      rw [e]
set_option maxRecDepth 100000 in
set_option maxHeartbeats 1600000 in
theorem heldStepS_any (A : Option Addr) (ls : List Nat) (c : Nat) (k : Int) (w : World) (h : StepsZ w A (smark k ls)) (hl : ls.length ≤ 1048576) (hk0 : 0 ≤ k) (hk1 : k + slen ls ≤ 1000000000) :
    Calls Try.prog 34 #[.slice A ls.length c, .int .i64 k] w (Ret w (.int .i64 (k + slen ls))) := by
  go_enter Try.func34, Try.ntmps34
  go_wp2
  go_loop [1, 5] (fun m i => ∃ j : Nat, j ≤ ls.length ∧ i = .int .i64 j ∧ m = .int .i64 (k + slen (ls.take j))) (fun _ i => ls.length - (intOf i).toNat)
  case atStart => exact ⟨0, by omega, rfl, by simp [slen]⟩
  case round =>
    obtain ⟨j, hj, rfl, rfl⟩ := hrel
    by_cases hlt : j < ls.length
    · obtain ⟨n, hn⟩ : ∃ n, ls[j]? = some n := ⟨_, List.getElem?_eq_getElem hlt⟩
      obtain ⟨ad, B, d, xs, o, u, rfl, hx, hs, hd, hF, hc0, hc1, hc2⟩ := h.at_ (k := j) (by rw [smark_length]; exact hlt)
      have hx' := hx.out
      rw [smark_at k hn] at hx'
      have hst := slen_take hn
      have hle := slen_take_le ls (j + 1)
      have hST := Lib.hid hst
      obtain ⟨q, hq⟩ : ∃ q : Int, k + slen (ls.take j) = q := ⟨_, rfl⟩
      have HQ := Lib.hid hq
      have hq0 : 0 ≤ q := by omega
      have hq1 : q + 2 * (n : Int) + 2 ≤ 1000000000 := by omega
      rw [hq] at hx' ⊢
      injection hx' with hx'
      injection hx' with hx1 hx2
      injection hx2 with hx2 hx3
      subst hx1
      subst hx2
      subst hx3
      rw [jmarks_length] at hs hd hc0
      have cH := Lib.hid (fun w (h : FracsZ w B (jmarks q n)) => heldFracS_any B n d q w h hs hq0 (by omega))
      have hb : ((q + 2 * (n : Int)) != (q + 2 * (n : Int))) = false := by simp
      have hb2 : ((q + 2 * (n : Int) + 1) != (q + 2 * (n : Int) + 1)) = false := by simp
      clear hst hle hq hn
      go_wp2_with fail
      refine (cH.out _ hF).mono ?_
      rintro e w2 ⟨rfl, rfl⟩
      clear cH hF
      go_wp2
      go_round
      case rel => exact ⟨j + 1, by omega, by go_num, by rw [hST.out, ← HQ.out]; congr 1; omega⟩
      case measure => simp [intOf]; omega
    · obtain rfl : j = ls.length := by omega
      rw [List.take_length]
      clear hlt
      go_wp2
      go_ret
      exact ⟨rfl, rfl⟩
/-- Where a step's counts lie, how many they are, their capacity. -/
def vkey (v : Vsz) : Option Addr × Nat × Nat := (v.1, v.2.2.1.length, v.2.1)
def vlen (v : Vsz) : Nat := v.2.2.1.length
/-- The counts of different steps lie in different blocks. -/
def Apart (ks : List (Option Addr × Nat × Nat)) : Prop := ∀ (i j : Nat) (u v : Option Addr × Nat × Nat) (b : Nat), i ≠ j → ks[i]? = some u → ks[j]? = some v → (Value.slice u.1 u.2.1 u.2.2).ownBlock = some b → (Value.slice v.1 v.2.1 v.2.2).ownBlock ≠ some b
/-- The steps vs, marked from k on. -/
def zmark (k : Int) : List Vsz → List Vsz
  | [] => []
  | v :: t => (v.1, v.2.1, jmarks k v.2.2.1.length, k + 2 * (v.2.2.1.length : Int), k + 2 * (v.2.2.1.length : Int) + 1) :: zmark (k + 2 * (v.2.2.1.length : Int) + 2) t
set_option maxRecDepth 100000 in
theorem zmark_app (k : Int) (a b : List Vsz) : zmark k (a ++ b) = zmark k a ++ zmark (k + slen (a.map vlen)) b := by
  induction a generalizing k with
  | nil => simp [zmark, slen]
  | cons v t ih =>
    rw [List.cons_append, zmark, ih, zmark, List.map_cons, slen_cons]
    have e : k + 2 * (v.2.2.1.length : Int) + 2 + (slen (t.map vlen) : Nat) = k + ((2 * vlen v + 2 + slen (t.map vlen) : Nat) : Int) := by unfold vlen; omega
    rw [e]
    rfl
set_option maxRecDepth 100000 in
theorem zmark_length (k : Int) (vs : List Vsz) : (zmark k vs).length = vs.length := by
  induction vs generalizing k with
  | nil => rfl
  | cons n t ih => simp [zmark, ih]
set_option maxRecDepth 100000 in
theorem zmark_key (k : Int) (vs : List Vsz) : (zmark k vs).map vkey = vs.map vkey := by
  induction vs generalizing k with
  | nil => rfl
  | cons n t ih => simp [zmark, ih, vkey, jmarks_length]
set_option maxRecDepth 100000 in
theorem zmark_spz (k : Int) (vs : List Vsz) : (zmark k vs).map spz = smark k (vs.map vlen) := by
  induction vs generalizing k with
  | nil => rfl
  | cons n t ih => simp [zmark, smark, ih, spz, vlen]
def zst (vs : List Vsz) (k : Int) (j : Nat) : List Vsz := zmark k (vs.take j) ++ vs.drop j
set_option maxRecDepth 100000 in
theorem zst_key (vs : List Vsz) (k : Int) (j : Nat) : (zst vs k j).map vkey = vs.map vkey := by
  unfold zst
  rw [List.map_append, zmark_key, ← List.map_append, List.take_append_drop]
set_option maxRecDepth 100000 in
theorem zst_at {vs : List Vsz} (k : Int) {j : Nat} {v : Vsz} (h : vs[j]? = some v) : (zst vs k j)[j]? = some v := by
  have hj := (List.getElem?_eq_some_iff.1 h).1
  unfold zst
  rw [List.getElem?_append_right (by rw [zmark_length, List.length_take]; omega), zmark_length, List.length_take, Nat.min_eq_left (by omega), Nat.sub_self, List.getElem?_drop]
  exact h
set_option maxRecDepth 100000 in
theorem zst_set {vs : List Vsz} (k : Int) {j : Nat} {v : Vsz} (h : vs[j]? = some v) :
    (zst vs k j).set j (v.1, v.2.1, jmarks (k + slen ((vs.map vlen).take j)) v.2.2.1.length, k + slen ((vs.map vlen).take j) + 2 * (v.2.2.1.length : Int), k + slen ((vs.map vlen).take j) + 2 * (v.2.2.1.length : Int) + 1) = zst vs k (j + 1) := by
  have hj := (List.getElem?_eq_some_iff.1 h).1
  have hv : vs[j] = v := (List.getElem?_eq_some_iff.1 h).2
  unfold zst
  rw [List.set_append_right _ _ (by rw [zmark_length, List.length_take]; omega), zmark_length, List.length_take, Nat.min_eq_left (by omega), Nat.sub_self, List.drop_eq_getElem_cons hj, take_snoc vs j v h, zmark_app, List.set_cons_zero, List.map_take]
  simp [zmark]
set_option maxRecDepth 100000 in
theorem zst_zero (vs : List Vsz) (k : Int) : zst vs k 0 = vs := by simp [zst, zmark]
set_option maxRecDepth 100000 in
theorem zst_all (vs : List Vsz) (k : Int) : zst vs k vs.length = zmark k vs := by simp [zst]
set_option maxRecDepth 100000 in
theorem set_same {α : Type} {l : List α} {i : Nat} {x : α} (h : l[i]? = some x) : l.set i x = l := by
  refine List.ext_getElem? fun j => ?_
  rw [List.getElem?_set]
  split
  · rename_i hj
    subst hj
    rw [h, if_pos (List.getElem?_eq_some_iff.1 h).1]
  · rfl
section
variable {w w' : World} {base bi n c g : Nat} {vs : List Vsz}
set_option maxRecDepth 100000 in
theorem OwnZ.mark (h : OwnZ w base bi (some ⟨g, 0, none⟩) n c vs) (hap : Apart (vs.map vkey)) {j : Nat} {v : Vsz} (hv : vs[j]? = some v) {fs : List (Int × Int)} (hO : OwnJ w' bi v.1 v.2.2.1.length v.2.1 fs) (hg : w.grownBy w' (Value.slice v.1 v.2.2.1.length v.2.1).ownBlock) :
    OwnZ w' base bi (some ⟨g, 0, none⟩) n c (vs.set j (v.1, v.2.1, fs, v.2.2.2.1, v.2.2.2.2)) := by
  have hm := List.mem_of_getElem? hv
  have hl := hO.len
  obtain ⟨c1, c2, c3⟩ := zcs_at hv
  have e : zcs (vs.set j (v.1, v.2.1, fs, v.2.2.2.1, v.2.2.2.2)) = zcs vs := by
    rw [← zcs_set]
    show (((zcs vs).set (j * 3) (.slice v.1 fs.length v.2.1)).set (j * 3 + 1) (.int .i64 v.2.2.2.1)).set (j * 3 + 2) (.int .i64 v.2.2.2.2) = zcs vs
    rw [hl, set_same c1, set_same c2, set_same c3]
  refine ⟨by rw [List.length_set]; exact h.len, e ▸ World.ownsRow.kept h.row hg ?_, fun u hu => ?_⟩
  · cases hq : (Value.slice v.1 v.2.2.1.length v.2.1).ownBlock with
    | none => exact .inr (by simp [Value.ownBlock])
    | some x => exact .inr (fun e2 => own_ne h.row (h.own v hm).row (by decide) e2.symm.symm (by rw [hq]))
  · obtain ⟨i, hi⟩ := List.getElem?_of_mem hu
    rw [List.getElem?_set] at hi
    split at hi
    · rename_i hij
      have hjl := (List.getElem?_eq_some_iff.1 hv).1
      rw [if_pos hjl] at hi
      injection hi with hi
      subst hi
      show OwnJ w' bi v.1 fs.length v.2.1 fs
      rw [hl]
      exact hO
    · rename_i hij
      refine (h.own u (List.mem_of_getElem? hi)).grown hg (fun x hx => ?_)
      exact hap j i (vkey v) (vkey u) x hij (by rw [List.getElem?_map, hv]; rfl) (by rw [List.getElem?_map, hi]; rfl) hx
set_option maxRecDepth 100000 in
theorem OwnZ.wk (h : OwnZ w base bi (some ⟨g, 0, none⟩) n c vs) {j : Nat} {v : Vsz} (hv : vs[j]? = some v) (x y : Int) :
    OwnZ ((w.setCell ⟨g, j * 3 + 1, none⟩ (.int .i64 x)).setCell ⟨g, j * 3 + 2, none⟩ (.int .i64 y)) base bi (some ⟨g, 0, none⟩) n c (vs.set j (v.1, v.2.1, v.2.2.1, x, y)) := by
  have hm := List.mem_of_getElem? hv
  have hg := grown_setCell (grown_setCell (grown_refl w (some g)) (j * 3 + 1) (.int .i64 x)) (j * 3 + 2) (.int .i64 y)
  have h1 := (World.ownsRow.stored h.row (j * 3 + 1) (.int .i64 x)).1
  have h2 := (World.ownsRow.stored h1 (j * 3 + 2) (.int .i64 y)).1
  have e := zcs_set2 vs j (v.1, v.2.1, v.2.2.1, x, y) hv rfl rfl rfl
  simp only at e
  rw [e] at h2
  refine ⟨by rw [List.length_set]; exact h.len, h2, fun u hu => ?_⟩
  rcases List.mem_or_eq_of_mem_set hu with hu | rfl
  · exact (h.own u hu).grown hg (fun x hx e => by injection hx with hx; subst hx; exact h.far hu e)
  · exact (h.own v hm).grown hg (fun x hx e => by injection hx with hx; subst hx; exact h.far hm e)
end
set_option maxRecDepth 100000 in
set_option maxHeartbeats 1600000 in
theorem markStepS_any (A : Option Addr) (vs : List Vsz) (n c : Nat) (k : Int) (base : Nat) (w : World) (h : OwnZ w base base A n c vs) (hap : Apart (vs.map vkey)) (hbs : base ≤ w.heap.size) (hl : n ≤ 1048576) (hs : ∀ v ∈ vs, v.2.2.1.length ≤ 1048576) (hk0 : 0 ≤ k) (hk1 : k + slen (vs.map vlen) ≤ 1000000000) :
    Calls Try.prog 33 #[.slice A n c, .int .i64 k] w (fun e w' => e = .returned (.int .i64 (k + slen (vs.map vlen))) ∧ OwnZ w' base base A n c (zmark k vs) ∧ Below base w w') := by
  have hln := h.len
  subst hln
  by_cases h0 : 0 < vs.length
  · obtain ⟨g, rfl, hg0, hg1⟩ := h.form h0
    go_enter Try.func33, Try.ntmps33
    go_wp2
    go_loopw [1, 5] (fun m i wr => ∃ j : Nat, j ≤ vs.length ∧ i = .int .i64 j ∧ m = .int .i64 (k + slen ((vs.map vlen).take j)) ∧ OwnZ wr base base (some ⟨g, 0, none⟩) vs.length c (zst vs k j) ∧ Below base w wr) (fun _ i _ => vs.length - (intOf i).toNat)
    case atStart => exact ⟨0, by omega, rfl, by simp [slen], by rw [zst_zero]; exact h, Below.refl _ _⟩
    case round =>
      obtain ⟨j, hj, rfl, rfl, hown, hbel⟩ := hrel
      clear h
      by_cases hlt : j < vs.length
      · obtain ⟨v, hv⟩ : ∃ v, vs[j]? = some v := ⟨_, List.getElem?_eq_getElem hlt⟩
        have hn : (vs.map vlen)[j]? = some v.2.2.1.length := by rw [List.getElem?_map, hv]; rfl
        have hst := slen_take hn
        have hle := slen_take_le (vs.map vlen) (j + 1)
        have hsv := hs v (List.mem_of_getElem? hv)
        have hz := zst_at k hv
        have hset := Lib.hid (zst_set k hv)
        have hvm := hown.own v (List.mem_of_getElem? hz)
        have hST := Lib.hid hst
        obtain ⟨c0, c1, c2⟩ := hown.cell hz
        have hHz := Lib.hid hz
        have hap' := Lib.hid (show Apart ((zst vs k j).map vkey) by rw [zst_key]; exact hap)
        obtain ⟨q, hq⟩ : ∃ q : Int, k + slen ((vs.map vlen).take j) = q := ⟨_, rfl⟩
        have HQ := Lib.hid hq
        have hq0 : 0 ≤ q := by omega
        have hq1 : q + 2 * (v.2.2.1.length : Int) + 2 ≤ 1000000000 := by omega
        rw [hq] at hset ⊢
        have cM := Lib.hid (fun w h => markFracS_any v.1 v.2.2.1 v.2.2.1.length v.2.1 q base w h hsv hq0 (by omega))
        clear hst hle hq hn hz hv
        obtain ⟨B, d, fs, x, y⟩ := v
        dsimp only at *
        go_wp2_with fail
        refine (cM.out _ hvm).mono ?_
        rintro e w2 ⟨rfl, hO, hg2⟩
        have hB2 := hbel.trans (below_of_grown hg2 (Nat.le_trans hbs hbel.size) (fun b e => (hvm.block b e).1))
        have hO2 := hown.mark hap'.out hHz.out hO hg2
        have hz2 : ((zst vs k j).set j (B, d, jmarks q fs.length, x, y))[j]? = some (B, d, jmarks q fs.length, x, y) := by
          rw [List.getElem?_set, if_pos rfl, if_pos (List.getElem?_eq_some_iff.1 hHz.out).1]
        obtain ⟨e0, e1, e2⟩ := hO2.cell hz2
        have f1 := hO2.frozen (j * 3 + 1)
        have f2 := hO2.frozen (j * 3 + 2)
        have HO2 := Lib.hid hO2
        have HZ2 := Lib.hid hz2
        clear e0 c0 c1 c2 hO2 hz2 hO hg2 hown hvm cM hbel
        go_wp2
        go_roundw
        case rel => exact ⟨j + 1, by omega, by go_num, by rw [hST.out, ← HQ.out]; go_num, (HO2.out.wk HZ2.out (q + 2 * (fs.length : Int)) (q + 2 * (fs.length : Int) + 1)).congr (by rw [List.set_set]; exact hset.out), (hB2.setCell hg0 _).setCell hg0 _⟩
        case measure => simp [intOf]; omega
      · obtain rfl : j = vs.length := by omega
        have e : (vs.map vlen).take vs.length = vs.map vlen := by rw [← List.length_map (f := vlen), List.take_length]
        rw [e]
        clear hlt
        go_wp2
        go_ret
        exact ⟨rfl, hown.congr (zst_all vs k), hbel⟩
  · have hx : vs = [] := List.eq_nil_of_length_eq_zero (by omega)
    subst hx
    go_enter Try.func33, Try.ntmps33
    go_wp2
    refine wp_loop_rounds 1 ?_
    rw [rounds_succ]
    go_wp2
    go_ret
    exact ⟨ret_int (by simp [slen]), h, Below.refl _ _⟩
end Go.Proofs.Ytiinfbjlkbjmmaa
