/-
  Piles from a map of texts: pilesOf.
-/
import Derived.Test.YtiinfbjlkbjmmaaQTuT
import Derived.Test.YtiinfbjlkbjmmaaQTuK
import Derived.Maps.OwnOps
import Derived.WalkArith
namespace Go.Proofs.Ytiinfbjlkbjmmaa
open Go.RowKit
open Go.Maps (Keyed string_keyed IsMap)
open Go.WideMaps (keyOf_string_mk)
/-- What the map reads as. -/
def litM (m : Int) : DataW Unit := .lit (.int .i64 m)
def putM (D : DataW Unit) (p : ByteArray × Int) : DataW Unit := D.put (.string (keyP p)) (litM p.2)
def mapF (qs : List (ByteArray × Int)) : DataW Unit := qs.foldl putM (.map [])
set_option maxRecDepth 100000 in
theorem mapF_snoc {qs : List (ByteArray × Int)} {k : Nat} {p : ByteArray × Int} (h : qs[k]? = some p) : mapF (qs.take (k + 1)) = (mapF (qs.take k)).put (.string (keyP p)) (litM p.2) := by
  unfold mapF
  rw [take_snoc _ _ _ h, List.foldl_append]
  rfl
set_option maxRecDepth 100000 in
theorem keyLit (t : List UInt8) : WideAt.IsKeyLit (.string t) := by simp [WideAt.IsKeyLit]
set_option maxRecDepth 100000 in
theorem isMap_fold (qs : List (ByteArray × Int)) : ∀ {D : DataW Unit}, IsMap D → IsMap (qs.foldl putM D) := by
  induction qs with
  | nil => exact fun h => h
  | cons p t ih => exact fun h => ih (h.put _ _)
set_option maxRecDepth 100000 in
theorem has_fold2 (qs : List (ByteArray × Int)) (t : List UInt8) : ∀ {D : DataW Unit}, IsMap D → Maps.has (qs.foldl putM D) (.string t) = (Maps.has D (.string t) || qs.any (fun p => keyP p == t)) := by
  induction qs with
  | nil => intro D _; simp
  | cons p u ih =>
    intro D h
    rw [List.foldl_cons, ih (D := putM D p) (h.put _ _), List.any_cons]
    by_cases e : keyP p = t
    · subst e
      rw [show Maps.has (putM D p) (.string (keyP p)) = true from Maps.has_put_same h (keyLit _) _]
      simp
    · rw [show Maps.has (putM D p) (.string t) = Maps.has D (.string t) from Maps.has_put_other (fun e2 => e (by injection e2 with e2; exact e2.symm)) _]
      have : (keyP p == t) = false := by simpa using e
      rw [this, Bool.false_or]
set_option maxRecDepth 100000 in
theorem has_mapF (qs : List (ByteArray × Int)) (t : List UInt8) : Maps.has (mapF qs) (.string t) = qs.any (fun p => keyP p == t) := by
  unfold mapF
  rw [has_fold2 qs t Maps.isMap_empty]
  rfl
set_option maxRecDepth 100000 in
theorem at_fold (qs : List (ByteArray × Int)) (t : List UInt8) (z : DataW Unit) : ∀ {D : DataW Unit}, (∀ p ∈ qs, keyP p ≠ t) → (qs.foldl putM D).atKey (.string t) z = D.atKey (.string t) z := by
  induction qs with
  | nil => exact fun _ => rfl
  | cons p u ih =>
    intro D h
    rw [List.foldl_cons, ih (D := putM D p) (fun q hq => h q (by simp [hq]))]
    exact Maps.atKey_put_other (fun e2 => h p (by simp) (by injection e2 with e2; exact e2.symm)) _ _
set_option maxRecDepth 100000 in
theorem at_mapF {qs : List (ByteArray × Int)} (hd : (qs.map keyP).Nodup) {p : ByteArray × Int} (hp : p ∈ qs) (z : DataW Unit) : (mapF qs).atKey (.string (keyP p)) z = litM p.2 := by
  have key : ∀ (qs : List (ByteArray × Int)) {D : DataW Unit}, IsMap D → (qs.map keyP).Nodup → p ∈ qs → (qs.foldl putM D).atKey (.string (keyP p)) z = litM p.2 := by
    intro qs
    induction qs with
    | nil => intro D _ _ h; cases h
    | cons a t ih =>
      intro D hD hd hp
      rw [List.map_cons, List.nodup_cons] at hd
      rw [List.foldl_cons]
      rcases List.mem_cons.1 hp with rfl | hp
      · rw [at_fold t (keyP p) z (fun q hq e => hd.1 (List.mem_map.2 ⟨q, hq, e⟩))]
        exact Maps.atKey_put_same hD (keyLit _) _ _
      · exact ih (hD.put _ _) hd.2 hp
  exact key qs Maps.isMap_empty hd hp
set_option maxRecDepth 100000 in
/-- At a text that is not there yet the map has nought. -/
theorem new_mapF {qs : List (ByteArray × Int)} (hd : (qs.map keyP).Nodup) {k : Nat} {p : ByteArray × Int} (hp : qs[k]? = some p) {c : Int} (h : (mapF (qs.take k)).atKey (.string (keyP p)) (litM 0) = litM c) : c = 0 := by
  have hh : Maps.has (mapF (qs.take k)) (.string (keyP p)) = false := by
    rw [has_mapF, List.any_eq_false]
    intro q hq e
    have e : keyP q = keyP p := by simpa using e
    obtain ⟨i, hi⟩ := List.getElem?_of_mem hq
    rw [List.getElem?_take] at hi
    split at hi
    · rename_i hik
      have h1 := List.pairwise_iff_getElem.1 hd i k (by rw [List.length_map]; exact (List.getElem?_eq_some_iff.1 hi).1) (by rw [List.length_map]; exact (List.getElem?_eq_some_iff.1 hp).1) hik
      rw [List.getElem_map, List.getElem_map, (List.getElem?_eq_some_iff.1 hi).2, (List.getElem?_eq_some_iff.1 hp).2] at h1
      exact h1 e
    · cases hi
  rw [Maps.atKey_of_not_has hh] at h
  unfold litM at h
  injection h with h
  injection h with _ h
  exact h.symm
set_option maxRecDepth 100000 in
theorem size_mapF (qs : List (ByteArray × Int)) : Maps.size (mapF qs) ≤ qs.length := by
  have key : ∀ (qs : List (ByteArray × Int)) {D : DataW Unit}, Maps.Tidy D → Maps.Tidy (qs.foldl putM D) ∧ Maps.size (qs.foldl putM D) ≤ Maps.size D + qs.length := by
    intro qs
    induction qs with
    | nil => exact fun h => ⟨h, by simp⟩
    | cons p t ih =>
      intro D h
      obtain ⟨h1, h2⟩ := ih (D := putM D p) (h.put (keyLit _) _)
      refine ⟨h1, ?_⟩
      have h3 : Maps.size (putM D p) = if Maps.has D (.string (keyP p)) then Maps.size D else Maps.size D + 1 := Maps.size_put h _
      rw [List.foldl_cons, List.length_cons]
      split at h3 <;> omega
  have := (key qs Maps.tidy_empty).2
  simpa [mapF, Maps.size] using this
set_option maxRecDepth 100000 in
theorem keysM (qs : List (ByteArray × Int)) (hd : (qs.map keyP).Nodup) {P : Program} {k e : TypeId} {w : World} {b n : Nat} (hown : w.ownsMap P k (plainElem P e) b n (mapF qs)) (hk : P.underlying k = some .string) : (qs.map keyP).Perm (strKeys (mapF qs)) := by
  have hC : Collected (mapF qs) (fun _ => false) (qs.map keyP) := by
    refine ⟨hd, fun x => ?_⟩
    rw [has_mapF, List.any_eq_true, List.mem_map]
    constructor
    · rintro ⟨p, hp, rfl⟩; exact ⟨⟨p, hp, by simp⟩, rfl⟩
    · rintro ⟨⟨p, hp, e⟩, _⟩; exact ⟨p, hp, by simpa using e⟩
  exact hC.perm hown (string_keyed hk) hk (fun _ => rfl)
set_option maxRecDepth 100000 in
theorem zeroInt (w : World) : (zeroValue 3).run Try.prog w = .ok (.int .i64 0) w := by kernel_rfl
/-- It returns new piles, and true. -/
def NewPB (w : World) (ps : List (ByteArray × Int)) (e : Ending) (w' : World) : Prop := ∃ A c, e = .returned (.tuple #[.slice A ps.length c, .bool true]) ∧ OwnP w' w.heap.size A ps.length c ps ∧ Below w.heap.size w w'
set_option maxRecDepth 100000 in
set_option maxHeartbeats 6400000 in
theorem pilesOf_any (g : Nat) (A : Option Addr) (qs : List (ByteArray × Int)) (c d : Nat) (w : World) (hg : w.cell? ⟨g, 0, none⟩ = some (.slice A qs.length c)) (h : PilesI w A qs) (hd : Hid ((qs.map keyP).Nodup)) (hv : Hid (∀ p ∈ qs, pv p = true)) (hl : qs.length ≤ 12) :
    Calls Try.prog 62 #[.slice (some ⟨g, 0, none⟩) 1 d] w (NewPB w (sortP qs)) := by
  have hmm := @run_makeMap Try.prog
  have law : Hid (Keyed Try.prog 9) := Lib.hid (string_keyed Try.underlying9)
  go_enter Try.func62, Try.ntmps62
  go_wp2
  go_loopw [6, 8, 15, 21] (fun _ _ i _ wr => ∃ k : Nat, k ≤ 1 ∧ i = .int .i64 k ∧ wr.ownsMap Try.prog 9 (plainElem Try.prog 3) w.heap.size (12 * k) (mapF (if k = 0 then [] else qs)) ∧ Below w.heap.size w wr) (fun _ _ i _ _ => 1 - (intOf i).toNat)
  case atStart => exact ⟨0, by omega, rfl, World.ownsMap_made _ _ _ _, (Below.refl _ _).alloc (Nat.le_refl _) _⟩
  case round =>
    obtain ⟨k, hk, rfl, hM, hbel⟩ := hrel
    by_cases hlt : k < 1
    · obtain rfl : k = 0 := by omega
      have hM : wr.ownsMap Try.prog 9 (plainElem Try.prog 3) w.heap.size 0 (mapF (qs.take 0)) := hM
      have hgc := cell_below hbel hg
      go_wp2
      obtain ⟨wo, rfl⟩ : ∃ wo : World, wo = wr := ⟨_, rfl⟩
      go_loopw [8, 21] (fun _ i wr => ∃ j : Nat, j ≤ qs.length ∧ i = .int .i64 j ∧ wr.ownsMap Try.prog 9 (plainElem Try.prog 3) w.heap.size j (mapF (qs.take j)) ∧ Below w.heap.size w wr) (fun _ i _ => qs.length - (intOf i).toNat)
      case atStart => exact ⟨0, by omega, rfl, hM, hbel⟩
      case round =>
        clear hM hbel hgc
        obtain ⟨j, hj, rfl, hM, hbel⟩ := hrel
        by_cases hltj : j < qs.length
        · obtain ⟨ad, s, m, rfl, hp, hs, hc0, hc1⟩ := (h.below hbel).at_ hltj
          obtain ⟨_, hm1, hm2⟩ := pv_iff.1 (hv.out _ (List.mem_of_getElem? hp.out))
          have hm1 : 1 ≤ m := hm1
          have hm2 : m ≤ 99 := hm2
          have hkey : Hid (keyOf Try.prog 9 (.string s) = some (.string (keyP (s, m)))) := Lib.hid (keyOf_string_mk Try.underlying9 (by unfold maxLen; omega))
          have hNew := Lib.hid (fun c h => new_mapF hd.out hp.out (c := c) h)
          have hSn := Lib.hid (mapF_snoc hp.out)
          have hM1 := hM.alloc (.cells #[.string s, .int .i64 m] 70)
          have hb1 := hbel.alloc hbel.size (.cells #[.string s, .int .i64 m] 70)
          have q1 := ob0 wr #[.string s, .int .i64 m] 70
          have k0 := q1.cell 0 rfl
          have k1 := q1.cell 1 rfl
          clear q1 hM
          go_wp2_with (first
            | (at_lookup; refine wpList_lookup_own_int _ rfl _ _ 129 rfl 9 3 .i64 law.out Try.underlying129 Try.underlying3 (zeroInt _) w.heap.size j _ rfl hM1 _ _ rfl hkey.out ?_; intro c0 hat hwc; obtain rfl := hNew.out c0 hat)
            | (at_mapUpdate; refine wpList_mapUpdate_own _ rfl _ _ _ 129 rfl 9 3 law.out Try.underlying129 _ w.heap.size j _ rfl hM1 (by unfold maxLen; omega) _ _ _ rfl rfl hkey.out _ [] (plainElem_int Try.underlying3 (WalkArith.wf_i64 (by omega))) ?_; intro w1 hM2 hg2))
          go_roundw
          case rel => exact ⟨j + 1, by omega, by go_num, by rw [hSn.out]; exact hM2, hb1.grown hg2 hb1.size (fun j hj => by cases hj; exact Nat.le_refl _)⟩
          case measure => simp [intOf]; omega
        · obtain rfl : j = qs.length := by omega
          clear hltj
          rw [List.take_length] at hM
          go_wp2
          go_roundw
          case rel => exact ⟨1, by omega, by go_num, hM.mono (by omega), hbel⟩
          case measure => simp [intOf]
    · obtain rfl : k = 1 := by omega
      clear hlt
      have hM : wr.ownsMap Try.prog 9 (plainElem Try.prog 3) w.heap.size 12 (mapF qs) := hM
      have hsz := size_mapF qs
      have hKP := Lib.hid (keysM qs hd.out hM Try.underlying9)
      have cK := Lib.hid (fun mb W => Go.callsIn_wide.1 (Try.maps_Keys_97 mb W))
      have cS := Lib.hid (Go.callsIn_wide.1 (Try.slices_Sorted_keys_96_97 w.heap.size 12 (mapF qs) _ wr hM (by unfold maxLen; omega) (by omega)))
      clear hsz
      go_wp2_with (first
        | (go_at_call 97; refine (cK.out _ _).mono ?_; rintro e w2 ⟨rfl, rfl⟩)
        | (go_at_call 96; refine cS.out.mono ?_; rintro e w3 ⟨v, ss, rfl, hS, hrow, _, hb3⟩; obtain ⟨KA, kc, rfl⟩ := row_form hrow))
      have hks : ss.mergeSort (fun x y => decide (x ≤ y)) = keysP qs := mergeSort_of_perm (hS.trans hKP.out.symm)
      have hlen : ss.length = (keysP qs).length := by rw [← hks, List.length_mergeSort]
      have hkl : (keysP qs).length = qs.length := by rw [(keysP_perm qs).length_eq, List.length_map]
      rw [hks] at hrow
      have hw2 : Below w.heap.size w (wr.alloc (Obj.cells #[Value.map (some w.heap.size)] 129)) := hbel.alloc hbel.size _
      have hM2 := hM.alloc (Obj.cells #[Value.map (some w.heap.size)] 129)
      have hB3 := hw2.trans (hb3.mono hw2.size)
      have hM3 := hM2.kept (grown_of_below hb3 none) (by simp)
      have hsz3 := hB3.size
      obtain ⟨n, hn⟩ : ∃ n, ss.length = n := ⟨_, rfl⟩
      rw [hn] at hrow ⊢
      have hnl : (keysP qs).length = n := by omega
      have hnq : n ≤ 12 := by omega
      have HN := Lib.hid hnl
      have HNQ := Lib.hid (show n = qs.length by omega)
      have hread : Hid (∀ k t, (keysP qs)[k]? = some t → ∃ kg, KA = some ⟨kg, 0, none⟩ ∧ w3.cell? ⟨kg, k, none⟩ = some (.string ⟨t.toArray⟩)) := Lib.hid (fun k t hk => by
        rcases hrow.2 with ⟨_, h0⟩ | ⟨kg, cap, cur, hv2, _⟩
        · have := (List.getElem?_eq_some_iff.1 hk).1
          omega
        · injection hv2 with hA
          refine ⟨kg, hA, ?_⟩
          subst hA
          have := World.ownsRow.cells hrow (g := kg) rfl k (encStr t) (by rw [List.getElem?_map, hk]; rfl)
          rwa [add_row] at this)
      clear hS hrow hks hlen hkl hw2 hM2 hM hbel hb3 cK cS hn hnl hKP
      go_loopw [9, 11, 38] (fun o _ i wr => ∃ (k : Nat) (C : Option Addr) (e : Nat), k ≤ n ∧ i = .int .i64 k ∧ o = .slice C k e ∧ OwnP wr w3.heap.size C k e ((sortP qs).take k) ∧ Below w3.heap.size w3 wr) (fun _ _ i _ => n - (intOf i).toNat)
      case atStart => exact ⟨0, _, _, by omega, rfl, rfl, OwnP.nil _ _, Below.refl _ _⟩
      case round =>
        obtain ⟨k, C, e, hk, rfl, rfl, hown, hbel⟩ := hrel
        by_cases hltk : k < n
        · obtain ⟨t, ht⟩ : ∃ t, (keysP qs)[k]? = some t := ⟨_, List.getElem?_eq_getElem (by have := HN.out; omega)⟩
          obtain ⟨kg, rfl, hc3⟩ := hread.out k t ht
          have hc := cell_below hbel hc3
          have hp : (sortP qs)[k]? = some (ofKey qs t) := by unfold sortP; rw [List.getElem?_map, ht]; rfl
          have hpm : ofKey qs t ∈ qs := (sortP_perm hd.out).mem_iff.1 (List.mem_of_getElem? hp)
          have hat := at_mapF hd.out hpm (litM 0)
          rw [keyP_ofKey] at hat
          obtain ⟨m, hm⟩ : ∃ m, lookP qs t = m := ⟨_, rfl⟩
          obtain ⟨s, hs⟩ : ∃ s : ByteArray, (⟨t.toArray⟩ : ByteArray) = s := ⟨_, rfl⟩
          have hof : ofKey qs t = (s, m) := by unfold ofKey; rw [hm, hs]
          have hss : s.size ≤ 1048576 := by
            have := bt_size (pv_iff.1 (hv.out _ hpm)).1
            rw [hof] at this
            have : s.size ≤ 5 := this
            omega
          have hkey : Hid (keyOf Try.prog 9 (.string s) = some (.string t)) := Lib.hid (by
            have := keyOf_string_mk (P := Try.prog) (k := 9) Try.underlying9 (s := s) (by unfold maxLen; omega)
            rw [this, ← hs])
          have HAT := Lib.hid (show ∀ c0 : Int, (mapF qs).atKey (.string t) (.lit (.int .i64 0)) = .lit (.int .i64 c0) → c0 = m from fun c0 h0 => by
            have h1 := hat.symm.trans h0
            rw [hof] at h1
            unfold litM at h1
            injection h1 with h1
            injection h1 with _ h1
            exact h1.symm)
          have HTK := Lib.hid (show (sortP qs).take (k + 1) = (sortP qs).take k ++ [(s, m)] by rw [take_snoc _ _ _ hp, hof])
          have hMk := hM3.kept (grown_of_below hbel none) (by simp)
          have hzb := hbel.size
          rw [hs] at hc
          clear hat hm hof hp hpm hc3 ht hs
          go_wp2_with (first
            | (at_lookup; refine wpList_lookup_own_int _ rfl _ _ 129 rfl 9 3 .i64 law.out Try.underlying129 Try.underlying3 (zeroInt _) w.heap.size (12 * 1) _ rfl hMk _ _ rfl hkey.out ?_; intro c0 hat hwc; obtain rfl := HAT.out c0 hat)
            | (at_builtin; refine wpList_appPs _ rfl (.tmp 42) (.tmp 48) rfl w3.heap.size C k e _ rfl (hown.alloc _) (by simp; omega) (by omega) ⟨wr.heap.size, 0, none⟩ [(s, c0)] 1 1 rfl rfl (by omega) (newPile wr s c0 hss) (k + 1) (by omega) ?_; intro A6 c6 w6 h6 hg6 hb6))
          go_roundw
          case rel => exact ⟨k + 1, A6, c6, by omega, by go_num, rfl, h6.congr HTK.out.symm, (hbel.alloc hzb _).trans hb6⟩
          case measure => simp [intOf]; omega
        · obtain rfl : k = n := by omega
          have e9 : (sortP qs).take k = sortP qs := List.take_of_length_le (by rw [sortP_len, HNQ.out]; exact Nat.le_refl _)
          rw [e9] at hown
          have cV := Lib.hid (pilesValid_any C (sortP qs) e wr hown.piles (by rw [sortP_len]; omega))
          have hln := hown.len
          rw [sortP_psv hd.out hv.out hl, hln] at cV
          have HO := Lib.hid hown
          have HL := Lib.hid hln
          clear e9 hown hltk hln
          go_wp2_with (go_at_call 56; refine cV.out.mono ?_; rintro e w' ⟨rfl, hb9⟩)
          go_ret2
          have hln := HL.out
          subst hln
          exact ⟨C, e, rfl, (HO.out.below hb9).mono hsz3, hB3.trans ((below_down hbel hb9).mono hsz3)⟩
end Go.Proofs.Ytiinfbjlkbjmmaa
