/-
  Seats in all districts, of the program and of the reference.
-/
import Derived.Test.YtoblhmbpobbecaaDistP
import Derived.Test.YtoblhmbpobbecaaDivQ
import Derived.Test.YtoblhmbpobbecaaMatM
import Derived.Test.YtoblhmbpobbecaaDistW
namespace Go.Proofs.Ytoblhmbpobbecaa
open Go.RowKit
/-- The arguments are valid: each district has as many seats. -/
def dsC (xss : List (List Int)) (s m : Int) (ls : List Int) : Bool := dvB xss && inB s 0 (20 / (xss.length : Int)) && mv m && lv ls && ((ls.length : Int) == (wid xss : Int))
def dsF (xss : List (List Int)) (s m : Int) (ls : List Int) : List (List Int) × Bool := if dsC xss s m ls = true then (xss.map fun xs => giveN xs m ls s.toNat, true) else ([], false)
theorem dsF_f {xss : List (List Int)} {s m : Int} {ls : List Int} (h : dsC xss s m ls = false) : dsF xss s m ls = ([], false) := by unfold dsF; rw [h]; rfl
theorem dsF_t {xss : List (List Int)} {s m : Int} {ls : List Int} (h : dsC xss s m ls = true) : dsF xss s m ls = (xss.map fun xs => giveN xs m ls s.toNat, true) := if_pos h
theorem dsC_iff {xss : List (List Int)} {s m : Int} {ls : List Int} : dsC xss s m ls = true ↔ dvB xss = true ∧ (0 ≤ s ∧ s ≤ 20 / (xss.length : Int)) ∧ mv m = true ∧ lv ls = true ∧ ls.length = wid xss := by
  unfold dsC
  rw [Bool.and_eq_true, Bool.and_eq_true, Bool.and_eq_true, Bool.and_eq_true, inB_iff, beq_iff_eq]
  exact ⟨fun ⟨⟨⟨⟨a, b⟩, c⟩, d⟩, e⟩ => ⟨a, b, c, d, by omega⟩, fun ⟨a, b, c, d, e⟩ => ⟨⟨⟨⟨a, b⟩, c⟩, d⟩, by omega⟩⟩
theorem quo20 (n : Nat) (h : 1 ≤ n) : ∃ q : Int, 20 / (n : Int) = q ∧ 0 ≤ q ∧ q ≤ 20 := ⟨_, rfl, Int.ediv_nonneg (by omega) (by omega), Int.ediv_le_self _ (by omega)⟩
/-- A row's seats. -/
theorem ds_row {xss : List (List Int)} {s m : Int} {ls xs : List Int} (h : dvB xss = true) (hs : 0 ≤ s ∧ s ≤ 20) (hx : xs ∈ xss) :
    divF xs s m ls = if (mv m && lv ls && ((ls.length : Int) == (wid xss : Int))) = true then (giveN xs m ls s.toNat, true) else ([], false) := by
  have o := dvOk_of h
  have hv := o.row xs hx
  have hl := o.len xs hx
  have e : (inB s 0 20 && divC xs m ls) = (mv m && lv ls && ((ls.length : Int) == (wid xss : Int))) := by
    rw [inB_t hs, Bool.true_and]
    unfold divC
    rw [hv, hl]
    simp
  unfold divF
  rw [e]
theorem OwnRows.nil (w : World) (base : Nat) (R : Nat → Option Addr × Nat) : OwnRows w base none 0 0 R [] :=
  ⟨rfl, World.ownsRow_nil w base _ _, fun j xs hx => by simp at hx, fun i j h1 h2 => by omega⟩
theorem OwnRows.empty (w : World) {base : Nat} (hb : base ≤ w.heap.size) (R : Nat → Option Addr × Nat) : OwnRows (w.alloc (.cells #[] 23)) base (some ⟨w.heap.size, 0, none⟩) 0 0 R [] :=
  ⟨rfl, World.ownsRow_made w #[] 0 hb (by simp [maxLen]) (by simp), fun j xs hx => by simp at hx, fun i j h1 h2 => by omega⟩
/-- 'append(out, row)', row new. -/
theorem wpList_appR (w : World) {ops : Array Oper} {rest : List Oper} {o : Oper} {a : Act} {Q : Exit → Act → World → Prop}
    (hg : o.guard = none) (s x : Operand) (ho : o.op = .call { callee := .builtin .append, args := #[s, x], argTypes := #[32, 32] })
    (base : Nat) (A : Option Addr) (n c : Nat) (R : Nat → Option Addr × Nat) (xss : List (List Int)) (hs : a.eval s = .slice A n c) (hown : OwnRows w base A n c R xss) (hbase : base ≤ w.heap.size) (hn : n ≤ 1048570)
    (B : Option Addr) (l d : Nat) (xs : List Int) (hv : OwnN w base B l d xs) (hfar : ∀ j, j < n → ∀ b, (R j).1.map (·.block) = some b → B.map (·.block) ≠ some b) (hx : a.eval x = .slice (some ⟨w.heap.size, 0, none⟩) 1 1)
    (hK : ∀ A' c' w', OwnRows w' base A' (n + 1) c' (fun j => if j = n then (B, d) else R j) (xss ++ [xs]) → Below base w w' → wpList Try.prog ops Q rest (a.put o.dst (.slice A' (n + 1) c')) w') :
    wpList Try.prog ops Q (o :: rest) a (w.alloc (.cells #[.slice B l d] 23)) := by
  obtain ⟨rfl, hv⟩ := hv
  obtain ⟨i0, hi, hz0, hz1, hz2⟩ := info_parts infoRow
  have hrow : (w.alloc (.cells #[.slice B xs.length d] 23)).ownsRow base 23 1 (.slice A n c) n ((List.range n).map (rval R xss)) := World.ownsRow.alloc hown.row _
  refine wpList_append_own _ hg s x 32 ho base 23 i0 (.slice none 0 0) 1 24 Try.underlying32 hi hz0 hz1 hz2 rfl (by omega) _ _ _ hs hrow ⟨w.heap.size, 0, none⟩ 1 1 [.slice B xs.length d] hx rfl ?_ ?_ (by simp only [maxLen]; omega) (by omega) (by simp; omega) ?_
  · intro j u hj
    match j, hj with
    | 0, hj =>
      simp at hj
      subst hj
      exact cell_of_row _ w.heap.size 0 #[.slice B xs.length d] 23 (0, 0) (heap_alloc_new w _)
  · intro u hu
    simp at hu
    subst hu
    rfl
  · intro v' w' h1 h2 _
    obtain ⟨A', c', rfl⟩ := row_form h1
    have hb0 : Below base w (w.alloc (.cells #[.slice B xs.length d] 23)) := (Below.refl _ _).alloc hbase _
    have hb := below_of_grown h2 (by simp; omega) (fun k hk => (World.ownsRow.lt hown.row k hk).1)
    have keep : ∀ {B' : Option Addr} {c2 : Nat} {ys : List Int}, OwnI w base B' c2 ys → OwnI w' base B' c2 ys := fun h => (h.alloc _).grownT hrow h2
    refine hK A' c' w' ⟨by simp [hown.len], ?_, fun j ys hy => ?_, fun i j hij hj b hbi => ?_⟩ (hb0.trans hb)
    · have e : (List.range n).map (rval R xss) ++ [.slice B xs.length d] = (List.range (n + 1)).map (rval (fun j => if j = n then (B, d) else R j) (xss ++ [xs])) := by
        rw [List.range_succ, List.map_append]
        congr 1
        · refine List.map_congr_left fun j hj => ?_
          have hj : j < n := by simpa using hj
          have hne : ¬ j = n := by omega
          have hjx : j < xss.length := by rw [hown.len]; exact hj
          simp [rval, hne, List.getElem?_append_left hjx]
        · have : xss.length = n := hown.len
          simp [rval, ← this]
      exact e ▸ h1
    · by_cases hjn : j = n
      · subst hjn
        have hl := hown.len
        rw [List.getElem?_append_right (by omega), hl, Nat.sub_self] at hy
        simp at hy
        subst hy
        simp only [if_true]
        exact keep hv
      · have hjl : j < xss.length := by
          have := (List.getElem?_eq_some_iff.1 hy).1
          have := hown.len
          simp at *
          omega
        rw [List.getElem?_append_left hjl] at hy
        simp only [hjn, if_false]
        exact keep (hown.own j ys hy)
    · have hin : ¬ i = n := by omega
      simp only [hin, if_false] at hbi
      by_cases hjn : j = n
      · simp only [hjn, if_true]
        exact hfar i (by omega) b hbi
      · simp only [hjn, if_false]
        exact hown.apart i j hij (by omega) b hbi
/-- It returns a new table and a bool; nothing that was there has turned. -/
def NewIIB (w : World) (r : List (List Int) × Bool) (e : Ending) (w' : World) : Prop :=
  ∃ A c, e = .returned (.tuple #[.slice A r.1.length c, .bool r.2]) ∧ OwnII w' w.heap.size A c r.1 ∧ Below w.heap.size w w'
theorem newIIB_of {w w' : World} {r : List (List Int) × Bool} {ys : List (List Int)} {b : Bool} {A : Option Addr} {n c : Nat} {R : Nat → Option Addr × Nat} (hr : r = (ys, b)) (ho : OwnRows w' w.heap.size A n c R ys) (hb : Below w.heap.size w w') : NewIIB w r (.returned (.tuple #[.slice A n c, .bool b])) w' := by
  subst hr
  have hn := ho.len
  subst hn
  exact ⟨A, c, rfl, ⟨R, ho⟩, hb⟩
theorem take_map_snoc {xss : List (List Int)} {k : Nat} {xs : List Int} (f : List Int → List Int) (h : xss[k]? = some xs) : ((xss.map f).take (k + 1)) = (xss.map f).take k ++ [f xs] :=
  take_snoc _ _ _ (by rw [List.getElem?_map, h]; rfl)
theorem rows_far {w : World} {base n c d : Nat} {A B : Option Addr} {R : Nat → Option Addr × Nat} {xss : List (List Int)} {w1 : World} {ys : List Int} (h : OwnRows w base A n c R xss) (ho : OwnI w1 w.heap.size B d ys) : ∀ j, j < n → ∀ b, (R j).1.map (·.block) = some b → B.map (·.block) ≠ some b := fun j hj b hb e => by
  have hj' : j < xss.length := by rw [h.len]; exact hj
  have h1 := ((h.own j _ (List.getElem?_eq_getElem hj')).block b (by rw [ownBlock_slice]; exact hb)).2
  have h2 := (ho.block b (by rw [ownBlock_slice]; exact e)).1
  omega
set_option maxHeartbeats 1600000 in
theorem implDS_any (A A2 : Option Addr) (xss : List (List Int)) (ls : List Int) (c c2 : Nat) (s m : Int) (w : World) (h : RowsI w A xss) (h2 : Ints w A2 ls) (hl : tot xss ≤ 1048576) (hl3 : ls.length ≤ 1048576) (hcap : ls.length ≤ c2) :
    Calls Try.prog 24 #[.slice A xss.length c, .int .i64 s, .int .i64 m, .slice A2 ls.length c2] w (NewIIB w (dsF xss s m ls)) := by
  have cD := Lib.hid (implDV_any A xss c w h hl)
  cases hd : dvB xss
  · have hq := Lib.hid (dsF_f (s := s) (m := m) (ls := ls) (show dsC xss s m ls = false from by simp [dsC, hd]))
    rw [hd] at cD
    clear hl
    go_enter Try.func24, Try.ntmps24
    go_wp2_with (go_at_call 55; refine cD.out.mono ?_; rintro e w1 ⟨rfl, hb1⟩)
    go_ret2
    exact newIIB_of (R := fun _ => (none, 0)) hq.out (OwnRows.nil _ _ _) hb1
  have o := dvOk_of hd
  obtain ⟨hx1, hx4⟩ := o.l1
  obtain ⟨q, hq20, hq0, hq1⟩ := quo20 xss.length hx1
  rw [hd] at cD
  have hxz : ¬ (xss.length : Int) = 0 := by omega
  have hxn : ¬ xss = [] := by intro e; subst e; simp at hx1
  by_cases hs0 : 0 ≤ s
  case neg =>
    have hq := Lib.hid (dsF_f (m := m) (ls := ls) (show dsC xss s m ls = false from by
      have : inB s 0 (20 / (xss.length : Int)) = false := inB_f (by omega)
      simp [dsC, this]))
    clear hl hq20
    go_enter Try.func24, Try.ntmps24
    go_wp2_with (go_at_call 55; refine cD.out.mono ?_; rintro e w1 ⟨rfl, hb1⟩)
    go_ret2
    exact newIIB_of (R := fun _ => (none, 0)) hq.out (OwnRows.nil _ _ _) hb1
  by_cases hsq : s ≤ q
  case neg =>
    have hq := Lib.hid (dsF_f (m := m) (ls := ls) (show dsC xss s m ls = false from by
      have : inB s 0 (20 / (xss.length : Int)) = false := inB_f (by omega)
      simp [dsC, this]))
    have hgt : q < s := by omega
    have hsn : ¬ s < 0 := by omega
    clear hl
    go_enter Try.func24, Try.ntmps24
    go_wp2_with (go_at_call 55; refine cD.out.mono ?_; rintro e w1 ⟨rfl, hb1⟩)
    go_ret2
    exact newIIB_of (R := fun _ => (none, 0)) hq.out (OwnRows.nil _ _ _) hb1
  have hC := Lib.hid (show dsC xss s m ls = (mv m && lv ls && ((ls.length : Int) == (wid xss : Int))) from by
    have : inB s 0 (20 / (xss.length : Int)) = true := inB_t (by omega)
    simp [dsC, hd, this, Bool.and_assoc])
  have HD := Lib.hid (fun xs (hx : xs ∈ xss) => ds_row (m := m) (ls := ls) hd ⟨hs0, by omega⟩ hx)
  have HO := Lib.hid o
  have HT := Lib.hid hl
  have hQ20 := Lib.hid hq20
  clear hl o hd
  cases hm : (mv m && lv ls && ((ls.length : Int) == (wid xss : Int)))
  · -- the first row fails
    have hq := Lib.hid (dsF_f (hC.out.trans hm))
    have hlt0 : 0 < xss.length := by omega
    go_enter Try.func24, Try.ntmps24
    go_wp2_with (go_at_call 55; refine cD.out.mono ?_; rintro e w1 ⟨rfl, hb1⟩)
    clear hq20
    go_loopw [31] (fun i wr => i = .int .i64 0 ∧ wr = w1) (fun _ _ => 0)
    case atStart => exact ⟨rfl, rfl⟩
    case round =>
      obtain ⟨rfl, rfl⟩ := hrel
      obtain ⟨ad, xs, B, d, rfl, hx, hc, hi⟩ := (h.below hb1).at_ hlt0
      have cV := implDivisor_any B A2 xs ls d c2 s m wr hi (h2.below hb1) (tot_row hx.out HT.out) hl3 hcap
      rw [HD.out xs (List.mem_of_getElem? hx.out), hm] at cV
      have cV := Lib.hid cV
      have hc0 : wr.cell? ad = some (.slice B xs.length d) := by have := hc; rwa [show ad.add 0 = ad from by unfold Addr.add; simp] at this
      go_wp2_with (go_at_call 34; refine cV.out.mono ?_; rintro e w2 ⟨A3, c3, rfl, ho3, hb3⟩)
      go_ret2
      exact newIIB_of (R := fun _ => (none, 0)) hq.out (OwnRows.nil _ _ _) (hb1.trans (hb3.mono hb1.size))
  · have hq := Lib.hid (dsF_t (hC.out.trans hm))
    have hln := Lib.hid (show (xss.map fun xs => giveN xs m ls s.toNat).length = xss.length from by simp)
    go_enter Try.func24, Try.ntmps24
    go_wp2_with (go_at_call 55; refine cD.out.mono ?_; rintro e w1 ⟨rfl, hb1⟩)
    clear hq20
    go_loopw [10, 12, 13, 14, 31] (fun o _ _ _ i wr => ∃ (k : Nat) (B : Option Addr) (d : Nat) (R : Nat → Option Addr × Nat), k ≤ xss.length ∧ i = .int .i64 k ∧ o = .slice B k d ∧ OwnRows wr w.heap.size B k d R ((xss.map fun xs => giveN xs m ls s.toNat).take k) ∧ Below w.heap.size w wr) (fun _ _ _ _ i _ => xss.length - (intOf i).toNat)
    case atStart => exact ⟨0, none, 0, fun _ => (none, 0), by omega, rfl, rfl, OwnRows.nil _ _ _, hb1⟩
    case round =>
      obtain ⟨k, B, d, R, hk, rfl, rfl, hown, hbel⟩ := hrel
      have hsz := hbel.size
      by_cases hlt : k < xss.length
      · obtain ⟨ad, xs, B1, d1, rfl, hx, hc, hi⟩ := (h.below hbel).at_ hlt
        have cV := implDivisor_any B1 A2 xs ls d1 c2 s m wr hi (h2.below hbel) (tot_row hx.out HT.out) hl3 hcap
        rw [HD.out xs (List.mem_of_getElem? hx.out), hm] at cV
        have cV := Lib.hid cV
        have hst := Lib.hid (take_map_snoc (fun xs => giveN xs m ls s.toNat) hx.out)
        go_wp2_with (first | (go_at_call 34; refine cV.out.mono ?_; rintro e w2 ⟨A3, c3, rfl, ho3, hb3⟩; have hz3 := hb3.size; have hO3 := hown.below hb3; have hF3 := rows_far hown ho3) | (at_builtin; refine wpList_appR _ rfl (.tmp 45) (.tmp 47) rfl w.heap.size B k d R _ rfl hO3 (by omega) (by omega) A3 _ c3 _ ⟨rfl, ho3.mono hsz⟩ hF3 rfl ?_; intro A4 c4 w4 hO4 hb4))
        go_roundw
        case rel => exact ⟨k + 1, A4, c4, _, by omega, by go_num, rfl, hO4.congr hst.out.symm, (hbel.trans (hb3.mono hsz)).trans hb4⟩
        case measure => simp [intOf]; omega
      · obtain rfl : k = xss.length := by omega
        clear hlt
        have hO := hown.congr (List.take_of_length_le (by rw [hln.out]; exact Nat.le_refl _))
        go_wp2
        go_ret2
        exact newIIB_of hq.out hO hbel
end Go.Proofs.Ytoblhmbpobbecaa
