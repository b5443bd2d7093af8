/-
  Slices of truths; the reference's functions that tell who has the greatest count, and who of some comes first in the lots.
-/
import Derived.Test.YthngafmnkihkgaaGreat
import Derived.Test.YthngafmnkihkgaaApp
namespace Go.Proofs.Ythngafmnkihkgaa
open Go.RowKit
/-- The slice of truths at A reads as bs. -/
def Bools (w : World) (A : Option Addr) (bs : List Bool) : Prop :=
  0 < bs.length → ∃ ad, A = some ad ∧ ∀ j x, bs[j]? = some x → w.cell? (ad.add j) = some (.bool x)
section
variable {w w' : World} {A : Option Addr} {bs : List Bool}
theorem Bools.at_ (h : Bools w A bs) {k : Nat} (hk : k < bs.length) :
    ∃ ad x, A = some ad ∧ Hid (bs[k]? = some x) ∧ w.cell? (ad.add k) = some (.bool x) := by
  obtain ⟨ad, e, hc⟩ := h (by omega)
  exact ⟨ad, bs[k], e, List.getElem?_eq_getElem hk, hc k _ (List.getElem?_eq_getElem hk)⟩
theorem Bools.keep (h : Bools w A bs) (hk : ∀ ad, A = some ad → 0 < bs.length → ad.block < w.heap.size → w'.heap[ad.block]? = w.heap[ad.block]?) : Bools w' A bs := by
  intro hn
  obtain ⟨ad, e, hc⟩ := h hn
  refine ⟨ad, e, fun j x hx => ?_⟩
  have h1 := hc j x hx
  have hlt := World.block_lt_of_cell? w _ h1
  rw [block_add] at hlt
  rw [← h1]
  exact World.cell?_of_block (w := w) (by rw [block_add]; exact hk ad e hn hlt)
theorem Bools.below (h : Bools w A bs) (hb : Below w.heap.size w w') : Bools w' A bs := h.keep fun _ _ _ hlt => hb.block _ hlt
theorem Bools.drewN (h : Bools w A bs) (n : Nat) : Bools (w.drewN n) A bs := h
theorem Bools.alloc (h : Bools w A bs) (o : Obj) : Bools (w.alloc o) A bs := h.keep fun _ _ _ hlt => Below.heap_alloc w o _ hlt
end
/-- The slice is one of truths that the call owns, in a block from base on. -/
def OwnB (w : World) (base : Nat) (A : Option Addr) (n c : Nat) (bs : List Bool) : Prop := bs.length = n ∧ w.ownsRow base 4 1 (.slice A n c) n (bs.map Value.bool)
theorem infoBool : (Try.prog.info? 4).map (fun i => (i.zero, i.size, i.bytes)) = some (some (.bool false), 1, 1) := by kernel_rfl
section
variable {w w' : World} {base : Nat} {A : Option Addr} {n c : Nat} {bs : List Bool}
theorem OwnB.bools (h : OwnB w base A n c bs) : Bools w A bs := by
  intro hn
  obtain ⟨hl, h⟩ := h
  have h0 := h
  rcases h.2 with ⟨hv, h0⟩ | ⟨g, cap, cur, hv, _⟩
  · omega
  · injection hv with hA
    subst hA
    refine ⟨_, rfl, fun j x hx => ?_⟩
    exact World.ownsRow.cells h0 (g := g) rfl j _ (by simp [hx])
theorem OwnB.alloc (h : OwnB w base A n c bs) (o : Obj) : OwnB (w.alloc o) base A n c bs := ⟨h.1, World.ownsRow.alloc h.2 o⟩
theorem OwnB.drewN (h : OwnB w base A n c bs) (m : Nat) : OwnB (w.drewN m) base A n c bs := h
theorem OwnB.below (h : OwnB w base A n c bs) (hb : Below w.heap.size w w') : OwnB w' base A n c bs :=
  ⟨h.1, World.ownsRow.kept h.2 (row := none) ⟨hb.os, hb.tape, hb.output, hb.size, fun k hk _ => hb.block k hk⟩ (by cases hv : (Value.slice A n c).ownBlock <;> simp)⟩
theorem OwnB.congr {ys : List Bool} (h : OwnB w base A n c bs) (e : bs = ys) : OwnB w base A n c ys := e ▸ h
end
theorem ownB_of_row {w : World} {base : Nat} {A : Option Addr} {n c : Nat} {bs : List Bool} (h : w.ownsRow base 4 1 (.slice A n c) n (bs.map Value.bool)) : OwnB w base A n c bs := ⟨by simpa using h.1, h⟩
/-- An empty slice that is not nil. -/
theorem ownB_empty (w : World) {base : Nat} (hb : base ≤ w.heap.size) : OwnB (w.alloc (.cells #[] 4)) base (some ⟨w.heap.size, 0, none⟩) 0 0 [] :=
  ⟨rfl, World.ownsRow_made w #[] 0 hb (by simp [maxLen]) (by simp)⟩
/-- It returns a new slice that reads as bs; nothing that was there has turned. -/
def NewB (w : World) (bs : List Bool) (e : Ending) (w' : World) : Prop := ∃ A c, e = .returned (.slice A bs.length c) ∧ OwnB w' w.heap.size A bs.length c bs ∧ Below w.heap.size w w'
theorem newB_of {w w' : World} {bs : List Bool} {A : Option Addr} {n c : Nat} (ho : OwnB w' w.heap.size A n c bs) (hb : Below w.heap.size w w') : NewB w bs (.returned (.slice A n c)) w' := by
  obtain ⟨rfl, h⟩ := ho
  exact ⟨A, c, rfl, ⟨rfl, h⟩, hb⟩
/-- 'append(out, y)': y lies in a new block of one cell. -/
theorem wpList_app1B (w : World) {ops : Array Oper} {rest : List Oper} {o : Oper} {a : Act} {Q : Exit → Act → World → Prop}
    (hg : o.guard = none) (s x : Operand) (ho : o.op = .call { callee := .builtin .append, args := #[s, x], argTypes := #[34, 34] })
    (base : Nat) (A : Option Addr) (n c : Nat) (bs : List Bool) (hs : a.eval s = .slice A n c) (hown : OwnB w base A n c bs) (hbase : base ≤ w.heap.size) (hn : n ≤ 1099511627776)
    (y : Bool) (hx : a.eval x = .slice (some ⟨w.heap.size, 0, none⟩) 1 1)
    (hK : ∀ A' c' w', OwnB w' base A' (n + 1) c' (bs ++ [y]) → w.grownBy w' (Value.slice A n c).ownBlock → Below base w w' → wpList Try.prog ops Q rest (a.put o.dst (.slice A' (n + 1) c')) w') :
    wpList Try.prog ops Q (o :: rest) a (w.alloc (.cells #[.bool y] 4)) := by
  obtain ⟨i0, hi, hz0, hz1, hz2⟩ := info_parts infoBool
  refine wpList_append_own _ hg s x 34 ho base 4 i0 (.bool false) 1 1 Try.underlying34 hi hz0 hz1 hz2 rfl (by omega) _ _ _ hs (hown.alloc _).2 ⟨w.heap.size, 0, none⟩ 1 1 [.bool y] hx rfl ?_ ?_ (by simp only [maxLen]; omega) (by omega) (by simp; omega) ?_
  · intro j u hj
    match j, hj with
    | 0, hj =>
      simp at hj
      subst hj
      exact cell_of_row _ w.heap.size 0 #[.bool y] 4 (0, 0) (heap_alloc_new w _)
  · intro u hu
    simp at hu
    subst hu
    rfl
  · intro v' w' h1 h2 _
    obtain ⟨A', c', rfl⟩ := row_form h1
    have h3 : w.grownBy w' (Value.slice A n c).ownBlock :=
      ⟨h2.os, h2.tape, h2.output, by have := h2.size; simp at this; omega, fun k hk hne => (h2.block k (heap_lt hk _) hne).trans (Below.heap_alloc w _ k hk)⟩
    exact hK A' c' w' (ownB_of_row (by simpa using h1)) h3 (below_of_grown h3 hbase (fun k hk => (World.ownsRow.lt hown.2 k hk).1))
/-- The greatest count of those who are some. -/
def bestZ (ps : List (Int × Bool)) : Int := ps.foldl (fun m p => if p.2 then max m p.1 else m) (-1)
def mostG (cs : List Int) (bs : List Bool) : List Bool := (cs.zip bs).map fun p => p.2 && (p.1 == bestZ (cs.zip bs))
theorem bestZ_snoc {ps : List (Int × Bool)} {k : Nat} {p : Int × Bool} (h : ps[k]? = some p) : bestZ (ps.take (k + 1)) = if p.2 then max (bestZ (ps.take k)) p.1 else bestZ (ps.take k) := by
  unfold bestZ
  rw [take_snoc _ _ _ h, List.foldl_append]; rfl
theorem zip_at {cs : List Int} {bs : List Bool} {k : Nat} {x : Int} {b : Bool} (h1 : cs[k]? = some x) (h2 : bs[k]? = some b) : (cs.zip bs)[k]? = some (x, b) := by
  rw [List.getElem?_zip_eq_some]; exact ⟨h1, h2⟩
theorem mostG_at {cs : List Int} {bs : List Bool} {k : Nat} {x : Int} {b : Bool} (h1 : cs[k]? = some x) (h2 : bs[k]? = some b) : (mostG cs bs)[k]? = some (b && (x == bestZ (cs.zip bs))) := by
  simp [mostG, zip_at h1 h2]
theorem mostG_len {cs : List Int} {bs : List Bool} (h : bs.length = cs.length) : (mostG cs bs).length = cs.length := by simp [mostG, h]
theorem bestZ_all (cs : List Int) (a : Int) : (cs.zip (List.replicate cs.length true)).foldl (fun m p => if p.2 then max m p.1 else m) a = cs.foldl max a := by
  induction cs generalizing a with
  | nil => rfl
  | cons c t ih => simp [List.replicate_succ, ih]
theorem mostG_all (cs : List Int) : mostG cs (List.replicate cs.length true) = mostB cs := by
  have e : bestZ (cs.zip (List.replicate cs.length true)) = bestL cs := bestZ_all cs (-1)
  unfold mostG mostB
  rw [e]
  generalize bestL cs = m
  induction cs with
  | nil => rfl
  | cons c t ih =>
    simp only [List.length_cons, List.replicate_succ, List.zip_cons_cons, List.map_cons, Bool.true_and]
    rw [ih]
    exact bestZ_all t (-1)
set_option maxHeartbeats 1600000 in
theorem l11Most_any (A A' : Option Addr) (cs : List Int) (bs : List Bool) (n1 n2 c c' : Nat) (w : World) (h : Ints w A cs) (h' : Bools w A' bs) (hl : n1 ≤ 1048576) (e1 : n1 = cs.length) (e2 : n2 = bs.length) (he : bs.length = cs.length) :
    Calls Try.prog 64 #[.slice A n1 c, .slice A' n2 c'] w (NewB w (mostG cs bs)) := by
  subst e1
  have HE := Lib.hid he
  have HM := Lib.hid (mostG_len he)
  obtain ⟨ps, hps⟩ : ∃ ps, ps = cs.zip bs := ⟨_, rfl⟩
  have HP := Lib.hid hps
  have HPL := Lib.hid (show ps.length = cs.length by rw [hps]; simp [he])
  clear he hps
  go_enter Try.func64, Try.ntmps64
  go_wp2
  go_loop [5, 6] (fun m i => ∃ k : Nat, k ≤ cs.length ∧ i = .int .i64 k ∧ m = .int .i64 (bestZ (ps.take k))) (fun _ i => cs.length - (intOf i).toNat)
  case atStart => exact ⟨0, by omega, rfl, rfl⟩
  case round =>
    obtain ⟨k, hk, rfl, rfl⟩ := hrel
    by_cases hlt : k < cs.length
    · obtain ⟨ad, x, rfl, hx, hc⟩ := h.at_ hlt
      have hk2 : k < n2 := by have := HE.out; omega
      obtain ⟨ad', b, rfl, hb, hc'⟩ := h'.at_ (show k < bs.length by have := HE.out; omega)
      have hz := Lib.hid (bestZ_snoc (ps := ps) (k := k) (p := (x, b)) (by rw [HP.out]; exact zip_at hx.out hb.out))
      cases b
      · go_wp2
        go_round
        case rel => exact ⟨k + 1, by omega, by go_num, by rw [hz.out]; rfl⟩
        case measure => simp [intOf]; omega
      · go_wp2
        go_round
        case rel => exact ⟨k + 1, by omega, by go_num, by rw [hz.out]; exact val_int (by simp only [if_true]; omega)⟩
        case measure => simp [intOf]; omega
    · obtain rfl : k = cs.length := by omega
      clear hlt
      obtain ⟨M, hM⟩ : ∃ M, M = bestZ (ps.take cs.length) := ⟨_, rfl⟩
      rw [← hM]
      have HMB := Lib.hid (show M = bestZ (cs.zip bs) by rw [hM, ← HPL.out, List.take_length, HP.out])
      clear hM
      go_wp2
      go_loopw [7, 8] (fun o i wr => ∃ (k : Nat) (B : Option Addr) (d : Nat), k ≤ cs.length ∧ i = .int .i64 k ∧ o = .slice B k d ∧ OwnB wr w.heap.size B k d ((mostG cs bs).take k) ∧ Below w.heap.size w wr) (fun _ i _ => cs.length - (intOf i).toNat)
      case atStart => exact ⟨0, _, _, by omega, rfl, rfl, ownB_empty w (Nat.le_refl _), (Below.refl _ _).alloc (Nat.le_refl _) _⟩
      case round =>
        obtain ⟨k, B, d, hk, rfl, rfl, hown, hbel⟩ := hrel
        by_cases hlt : k < cs.length
        · obtain ⟨ad, x, rfl, hx, hc⟩ := (h.below hbel).at_ hlt
          have hk2 : k < n2 := by have := HE.out; omega
          obtain ⟨ad', b, rfl, hb, hc'⟩ := (h'.below hbel).at_ (show k < bs.length by have := HE.out; omega)
          have hat := Lib.hid (mostG_at hx.out hb.out)
          cases b
          · have hat2 := Lib.hid (show (mostG cs bs)[k]? = some false from by rw [hat.out]; rfl)
            go_wp2_with (at_builtin; refine wpList_app1B _ rfl (.tmp 32) (.tmp 45) rfl w.heap.size B k d _ rfl hown hbel.size (by omega) _ rfl ?_; intro A' c' w' hown' hgr' hbl')
            go_roundw
            case rel => exact ⟨k + 1, _, _, by omega, by go_num, rfl, hown'.congr (by rw [take_snoc _ _ _ hat2.out]), hbel.trans hbl'⟩
            case measure => simp [intOf]; omega
          · have hat2 := Lib.hid (show (mostG cs bs)[k]? = some (x == M) from by rw [hat.out, HMB.out]; rfl)
            go_wp2_with (at_builtin; refine wpList_app1B _ rfl (.tmp 32) (.tmp 45) rfl w.heap.size B k d _ rfl hown hbel.size (by omega) _ rfl ?_; intro A' c' w' hown' hgr' hbl')
            go_roundw
            case rel => exact ⟨k + 1, _, _, by omega, by go_num, rfl, hown'.congr (by rw [take_snoc _ _ _ hat2.out]), hbel.trans hbl'⟩
            case measure => simp [intOf]; omega
        · obtain rfl : k = cs.length := by omega
          clear hlt
          go_wp2
          go_ret
          exact newB_of (hown.congr (by rw [← HM.out, List.take_length])) hbel
theorem firstP_snoc {bs : List Bool} {ls : List Int} {k : Nat} {l : Nat} (h : ls[k]? = some (l : Int)) (hn : (ls.take k).find? (fun l => bs.getD l.toNat false) = none) (hb : bs[l]? = some false) :
    (ls.take (k + 1)).find? (fun l => bs.getD l.toNat false) = none := by
  rw [take_snoc _ _ _ h, List.find?_append, hn]; simp [hb]
theorem firstP_hit {bs : List Bool} {ls : List Int} {k : Nat} {l : Nat} (h : ls[k]? = some (l : Int)) (hn : (ls.take k).find? (fun l => bs.getD l.toNat false) = none) (hb : bs[l]? = some true) : firstP bs ls = l := by
  unfold firstP
  have e : ls = ls.take (k + 1) ++ ls.drop (k + 1) := (List.take_append_drop _ _).symm
  rw [e, take_snoc _ _ _ h, List.find?_append, List.find?_append, hn]; simp [hb]
set_option maxHeartbeats 400000 in
theorem l4First_any (A A' : Option Addr) (ls : List Int) (bs : List Bool) (n1 n2 c c' : Nat) (w : World) (h : Ints w A ls) (h' : Bools w A' bs) (hl : n1 ≤ 1048576) (e1 : n1 = ls.length) (e2 : n2 = bs.length) (hr : Hid (∀ l ∈ ls, 0 ≤ l ∧ l < bs.length)) :
    Calls Try.prog 63 #[.slice A n1 c, .slice A' n2 c'] w (Ret w (.int .i64 (firstP bs ls))) := by
  subst e1
  subst e2
  go_enter Try.func63, Try.ntmps63
  go_wp2
  go_loop [5] (fun i => ∃ k : Nat, k ≤ ls.length ∧ i = .int .i64 k ∧ Hid ((ls.take k).find? (fun l => bs.getD l.toNat false) = none)) (fun i => ls.length - (intOf i).toNat)
  case atStart => exact ⟨0, by omega, rfl, by show List.find? _ [] = none; rfl⟩
  case round =>
    obtain ⟨k, hk, rfl, hno⟩ := hrel
    by_cases hlt : k < ls.length
    · obtain ⟨ad, l, rfl, hx, hc⟩ := h.at_ hlt
      obtain ⟨hl0, hl1⟩ := hr.out l (mem_of_at hx.out)
      obtain ⟨l, rfl⟩ := Int.eq_ofNat_of_zero_le hl0
      have hlb : l < bs.length := by omega
      clear hl0 hl1
      obtain ⟨ad', b, rfl, hb, hc'⟩ := h'.at_ hlb
      cases b
      · go_wp2
        go_round
        case rel => exact ⟨k + 1, by omega, by go_num, firstP_snoc hx.out hno.out hb.out⟩
        case measure => simp [intOf]; omega
      · have hq := Lib.hid (firstP_hit hx.out hno.out hb.out)
        go_wp2
        go_ret
        exact ⟨ret_int hq.out.symm, rfl⟩
    · have h2 : ls.length ≤ k := by omega
      clear hlt
      go_wp2
      go_ret
      exact ⟨ret_int (by have := hno.out; rw [List.take_of_length_le (by omega)] at this; unfold firstP; rw [this]; rfl), rfl⟩
end Go.Proofs.Ythngafmnkihkgaa
