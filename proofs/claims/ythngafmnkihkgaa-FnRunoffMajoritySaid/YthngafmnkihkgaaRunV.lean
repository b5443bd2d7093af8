/-
  The reference's winner of a runoff; the winner by first preferences.
-/
import Derived.Test.YthngafmnkihkgaaRunX
import Derived.Test.YthngafmnkihkgaaRunI
import Derived.Deep.RegionHeld3
namespace Go.Proofs.Ythngafmnkihkgaa
open Go.RowKit
set_option maxHeartbeats 800000 in
theorem l12Stay_any (A : Option Addr) (bs : List Bool) (c : Nat) (w : World) (h : Bools w A bs) (hl : bs.length ≤ 1048576) :
    Calls Try.prog 65 #[.slice A bs.length c] w (NewB w (bs.map not)) := by
  go_enter Try.func65, Try.ntmps65
  go_wp2
  go_loopw [3, 4] (fun o i wr => ∃ (k : Nat) (B : Option Addr) (d : Nat), k ≤ bs.length ∧ i = .int .i64 k ∧ o = .slice B k d ∧ OwnB wr w.heap.size B k d ((bs.take k).map not) ∧ Below w.heap.size w wr) (fun _ i _ => bs.length - (intOf i).toNat)
  case atStart => exact ⟨0, _, _, by omega, rfl, rfl, ownB_empty w (Nat.le_refl _), (Below.refl _ _).alloc (Nat.le_refl _) _⟩
  case round =>
    obtain ⟨k, B, d, hk, rfl, rfl, hown, hbel⟩ := hrel
    by_cases hlt : k < bs.length
    · obtain ⟨ad, b, rfl, hb, hc⟩ := (h.below hbel).at_ hlt
      have hn := Lib.hid (take_snoc _ _ _ hb.out)
      go_wp2_with (at_builtin; refine wpList_app1B _ rfl (.tmp 12) (.tmp 18) rfl w.heap.size B k d _ rfl hown hbel.size (by omega) _ rfl ?_; intro A' c' w' hown' hgr' hbl')
      go_roundw
      case rel => exact ⟨k + 1, _, _, by omega, by go_num, rfl, hown'.congr (by rw [hn.out, List.map_append]; rfl), hbel.trans hbl'⟩
      case measure => simp [intOf]; omega
    · obtain rfl : k = bs.length := by omega
      clear hlt
      go_wp2
      go_ret
      obtain ⟨h1, h2⟩ := hown
      have e : (bs.take bs.length).map not = bs.map not := by rw [List.take_length]
      rw [e] at h1 h2
      have hq : bs.length = (bs.map not).length := by simp
      exact newB_of ⟨h1, h2⟩ hbel
theorem bestL_cons (c : Int) (t : List Int) : bestL (c :: t) = t.foldl max (max (-1) c) := rfl
/-- Counts of -1 for those who left do not matter. -/
theorem fold_left (cs : List Int) (left : List Bool) (h : left.length = cs.length) : ∀ a : Int, -1 ≤ a → (cs.zip (left.map not)).foldl (fun m p => if p.2 then max m p.1 else m) a = ((cs.zip left).map fun p => if p.2 then -1 else p.1).foldl max a := by
  induction cs generalizing left with
  | nil => intro a _; rfl
  | cons c t ih =>
    intro a ha
    cases left with
    | nil => simp at h
    | cons b l =>
      cases b
      · simp only [List.map_cons, List.zip_cons_cons, List.foldl_cons, Bool.not_false, if_true, Bool.false_eq_true, if_false]
        exact ih l (by simpa using h) _ (Int.le_trans ha (Int.le_max_left _ _))
      · simp only [List.map_cons, List.zip_cons_cons, List.foldl_cons, Bool.not_true, if_true, Bool.false_eq_true, if_false]
        rw [Int.max_eq_left ha]
        exact ih l (by simpa using h) _ ha
theorem maskL_at {cs : List Int} {left : List Bool} {k : Nat} {x : Int} {b : Bool} (h1 : cs[k]? = some x) (h2 : left[k]? = some b) : (maskL cs left)[k]? = some (if b then -1 else x) := by
  simp [maskL, zip_at h1 h2]
theorem most_mask {cs : List Int} {left : List Bool} (h : left.length = cs.length) (h0 : ∀ x ∈ cs, 0 ≤ x) (ht : 1 ≤ thereL left) : mostG cs (left.map not) = mostB (maskL cs left) := by
  have e : bestZ (cs.zip (left.map not)) = bestL (maskL cs left) := fold_left cs left h (-1) (by omega)
  obtain ⟨k, hk⟩ := thereL_pos ht
  have hkl := (List.getElem?_eq_some_iff.1 hk).1
  have hx : cs[k]? = some cs[k] := List.getElem?_eq_getElem (by omega)
  have hb : 0 ≤ bestL (maskL cs left) := by
    have h1 := bestL_le (maskL cs left) cs[k] (List.mem_of_getElem? (maskL_at hx hk))
    have h2 := h0 _ (List.getElem_mem (show k < cs.length by omega))
    omega
  apply List.ext_getElem?
  intro i
  by_cases hi : i < cs.length
  · have hx : cs[i]? = some cs[i] := List.getElem?_eq_getElem hi
    have hl : left[i]? = some (left[i]'(by omega)) := List.getElem?_eq_getElem (by omega)
    have hn : (left.map not)[i]? = some (!(left[i]'(by omega))) := by rw [List.getElem?_map, hl]; rfl
    rw [mostG_at hx hn, e]
    unfold mostB
    rw [List.getElem?_map, maskL_at hx hl]
    cases left[i]'(by omega)
    · simp
    · simp only [Bool.not_true, Bool.false_and, if_true, Option.map_some]
      congr 1
      symm
      simp
      omega
  · rw [List.getElem?_eq_none (by rw [mostG_len (by simpa using h)]; omega), List.getElem?_eq_none (by unfold mostB; rw [List.length_map, maskL_len h]; omega)]
/-- Both ways come to the same winner. -/
theorem win_same {cs lots : List Int} {left : List Bool} (hv : lv lots = true) (hc : cs.length = lots.length) (h : left.length = cs.length) (h0 : ∀ x ∈ cs, 0 ≤ x) (ht : 1 ≤ thereL left) : firstP (mostG cs (left.map not)) lots = greatP (maskL cs left) lots := by
  rw [most_mask h h0 ht]
  refine great_first hv (by rw [maskL_len h]; exact hc) (fun c hcm => ?_)
  obtain ⟨p, hp, rfl⟩ := List.mem_map.1 hcm
  have := h0 p.1 (List.of_mem_zip hp).1
  split <;> omega
set_option maxRecDepth 100000 in
set_option maxHeartbeats 1600000 in
theorem specRunoffWinner_any (A A2 : Option Addr) (ps : List (ByteArray × Int)) (lots : List Int) (c c2 : Nat) (w : World) (h : PilesI w A ps) (h2 : Ints w A2 lots) (hl : ps.length ≤ 1048576) (hl2 : lots.length ≤ 1000000) (hcap : lots.length ≤ c2) :
    Calls Try.prog 34 #[.slice A ps.length c, .slice A2 lots.length c2] w (Bl w (.int .i64 (rwF ps lots))) := by
  have cR := Lib.hid (specRunoffRounds_any A A2 ps lots c c2 w h h2 hl hl2 hcap)
  cases hv : (lv lots && fitV ps lots.length)
  · have hq := Lib.hid (rw_f hv)
    rw [rr_f hv] at cR
    go_enter Try.func34, Try.ntmps34
    go_wp2_with (go_at_call 29; refine cR.out.mono ?_; rintro e w1 ⟨A3, c3, rfl, ho3, hc3, hb1⟩)
    go_ret
    exact ⟨ret_int hq.out.symm, hb1⟩
  · have hq := rw_t hv
    rw [rr_t hv] at cR
    have hv2 := hv
    simp only [Bool.and_eq_true] at hv2
    obtain ⟨hlv, hfit⟩ := hv2
    have HF := fitOk_of hfit
    obtain ⟨init, hrs, hin, hth⟩ := rounds_form0 (ps := pl ps) hlv
    have HQ0 := hq.trans (by rw [hrs, winF_form])
    have hlr : Hid (∀ l ∈ lots, 0 ≤ l ∧ l < (lots.length : Int)) := Lib.hid (fun l hl => by have := (lv_iff.1 hlv).2.1 l hl; omega)
    have hl5 : lots.length ≤ 5 := HF.n5
    have hcl : (cntL (leftSet (List.replicate lots.length false) (init.map Prod.snd)) (pl ps)).length = lots.length := by rw [cntL_len, leftSet_len]; simp
    have HQ := Lib.hid (show rwF ps lots = firstP (mostG (cntL (leftSet (List.replicate lots.length false) (init.map Prod.snd)) (pl ps)) ((leftSet (List.replicate lots.length false) (init.map Prod.snd)).map not)) lots from by
      rw [win_same hlv hcl (by rw [leftSet_len, hcl]; simp) (fun x hx => (cnt_bds HF _ x hx).1) hth, HQ0]
      congr 1
      have e := outSet_mask (cs := cntL (leftSet (List.replicate lots.length false) (init.map Prod.snd)) (pl ps)) (left := List.replicate lots.length false) (by rw [hcl]; simp) (init.map Prod.snd) (fun o ho => by
        obtain ⟨r, hr, rfl⟩ := List.mem_map.1 ho
        rw [hcl]
        exact hin r hr)
      rw [← e]
      congr 1
      have e2 := maskL_none (cntL (leftSet (List.replicate lots.length false) (init.map Prod.snd)) (pl ps))
      rw [hcl] at e2
      exact e2.symm)
    have hl1 : 0 < lots.length := HF.n1
    have hrl0 := rounds_le5 (ps := pl ps) (lots := lots) lots.length (List.replicate lots.length false)
    rw [hrs] at hrl0 cR
    clear hrs hq hv hlv hfit HF hth HQ0
    have hll := leftSet_len (List.replicate lots.length false) (init.map Prod.snd)
    rw [List.length_replicate] at hll
    have HLL := Lib.hid hll
    clear hll
    generalize cntL (leftSet (List.replicate lots.length false) (init.map Prod.snd)) (pl ps) = cs at *
    obtain ⟨m, hm⟩ : ∃ m, m = init.length := ⟨_, rfl⟩
    have hrl : (init ++ [(cs, (-1 : Int))]).length = m + 1 := by simp [hm]
    have HR0 := Lib.hid (show (init ++ [(cs, (-1 : Int))])[m]? = some (cs, -1) from by rw [hm]; simp)
    have HRK := Lib.hid (show ∀ k : Nat, k < m → ∃ xs, ∃ q : Nat, (init ++ [(cs, (-1 : Int))])[k]? = some (xs, (q : Int)) ∧ (init.map Prod.snd)[k]? = some (q : Int) ∧ q < lots.length from fun k hk => by
      have hk2 : k < init.length := by omega
      obtain ⟨q, h1, h2⟩ := hin init[k] (List.getElem_mem hk2)
      refine ⟨init[k].1, q, ?_, ?_, h2⟩
      · rw [List.getElem?_append_left hk2, List.getElem?_eq_getElem hk2, ← h1]
      · rw [List.getElem?_map, List.getElem?_eq_getElem hk2, ← h1]; rfl)
    have HML := Lib.hid (show (init.map Prod.snd).length = m from by rw [hm]; simp)
    have hm5 : m + 1 ≤ 5 := by rw [hrl] at hrl0; omega
    clear hrl0
    have HRL := Lib.hid hrl
    have HCL := Lib.hid hcl
    have cR3 := Lib.hid (cR.out.mono (R' := fun e w' => ∃ A c, e = .returned (.tuple #[.slice A (m + 1) c, .bool true]) ∧ RoundsI w' A (init ++ [(cs, (-1 : Int))]) ∧ m + 1 ≤ c ∧ Below w.heap.size w w') (by
      rintro e w' ⟨A, c, he, h1, h2, h3⟩
      exact ⟨A, c, by rw [he, ← hrl], h1, by rw [← hrl]; exact h2, h3⟩))
    clear hm hrl hin cR
    generalize init ++ [(cs, (-1 : Int))] = rs at *
    generalize init.map Prod.snd = os at *
    have hc5 : cs.length ≤ 5 := by omega
    clear hcl
    have hmi : ((m + 1 : Nat) : Int) - 1 = (m : Int) := by omega
    go_enter Try.func34, Try.ntmps34
    go_wp2_with fail
    refine cR3.out.mono ?_
    rintro e w1 ⟨A3, c3, rfl, ho3, hc3, hb1⟩
    clear cR3
    go_wp2_with (at_make; refine wpList_makeB _ rfl _ _ rfl lots.length rfl rfl (by omega) ?_; intro w2 hown hb2 hsz2)
    have hown := hown.mono (b := w1.heap.size) (Nat.le_refl _)
    generalize hg : w1.heap.size = g at *
    go_loopw [8] (fun i wr => ∃ k : Nat, k ≤ m ∧ i = .int .i64 k ∧ OwnB wr g (some ⟨g, 0, none⟩) lots.length lots.length (leftSet (List.replicate lots.length false) (os.take k)) ∧ Below w1.heap.size w1 wr) (fun i _ => m - (intOf i).toNat)
    case atStart => exact ⟨0, by omega, rfl, hown.congr (by simp [leftSet]), hg ▸ hb2⟩
    case round =>
      clear hown hb2 hsz2
      obtain ⟨k, hk, rfl, hown, hbel⟩ := hrel
      have hsz := hbel.size
      by_cases hlt : k < m
      · obtain ⟨xs1, q, hq1, hq2, hq3⟩ := HRK.out k hlt
        obtain ⟨ad', B', d', xs', o', rfl, hr', hx5', hxd', hx', hk0, hk1⟩ := (ho3.below hbel).at_ (k := k) (by have := HRL.out; omega)
        obtain rfl : (q : Int) = o' := by
          have := hr'.out.symm.trans hq1
          injection this with this
          injection this with h1 h2
          exact h2.symm
        have HS := Lib.hid (leftSet_snoc (left := List.replicate lots.length false) hq2)
        have hfz := hown.frozenB q
        obtain ⟨y, hy⟩ : ∃ y, (leftSet (List.replicate lots.length false) (os.take k))[q]? = some y := ⟨_, List.getElem?_eq_getElem (by rw [leftSet_len]; simpa using hq3)⟩
        have hcy := hown.cellB hy
        clear hr' hq1 hq2 hy hx' hx5' hxd'
        go_wp2
        go_roundw
        case rel => exact ⟨k + 1, by omega, by go_num, (OwnB.setB hown q true).congr (by rw [HS.out]; rfl), hbel.setCell (by simp; omega) _⟩
        case measure => simp [intOf]; omega
      · obtain rfl : k = m := by omega
        clear hlt
        rw [← HML.out, List.take_length] at hown
        have hBB := hown.bools
        have hI2 := (h2.below hb1).below hbel
        have hRR := ho3.below hbel
        have hBW := below_down hb1 hbel
        obtain ⟨ad, B, d, xs, o, rfl, hr, hx5, hxd, hx, hk0, hk1⟩ := hRR.at_ (k := k) (by have := HRL.out; omega)
        obtain ⟨rfl, rfl⟩ : cs = xs ∧ -1 = o := by
          have := hr.out.symm.trans HR0.out
          injection this with this
          injection this with h1 h2
          exact ⟨h1.symm, h2.symm⟩
        generalize leftSet (List.replicate lots.length false) os = bs at *
        have cS := Lib.hid (fun w' (hb : Bools w' (some ⟨g, 0, none⟩) bs) => l12Stay_any (some ⟨g, 0, none⟩) bs lots.length w' hb (by have := HLL.out; omega))
        rw [HLL.out] at cS
        have HNL := Lib.hid (show (bs.map not).length = cs.length by rw [List.length_map, HLL.out, HCL.out])
        generalize bs.map not = ns at *
        have cM := Lib.hid (fun w' A4 c4 (h1 : Ints w' B cs) (h2 : Bools w' A4 ns) => l11Most_any B A4 cs ns cs.length ns.length d c4 w' h1 h2 (by omega) rfl rfl HNL.out)
        have HML2 := Lib.hid (mostG_len HNL.out)
        generalize mostG cs ns = ms at *
        have cF := Lib.hid (fun w' A5 c5 (h1 : Ints w' A2 lots) (h2 : Bools w' A5 ms) => l4First_any A2 A5 lots ms lots.length ms.length c2 c5 w' h1 h2 (by omega) rfl rfl (Lib.hid (fun l hl => by have := hlr.out l hl; rw [HML2.out, HCL.out]; exact this)))
        generalize firstP ms lots = F at *
        clear hr hk1 hown ho3 hRR hbel hsz
        have hm0 : (0 : Int) ≤ (k : Int) := by omega
        have hm1 : (k : Int) < (k : Int) + 1 := by omega
        have qk : IntKind.i64.wrap (k : Int) = k := IntWalk.i64_in _ (by omega)
        go_wp2
        refine wp_region_held_drew (S := (fun w' => w'.cell? (ad.add (k * 2)) = some (.slice B cs.length d) ∧ Bools w' (some ⟨g, 0, none⟩) bs ∧ Ints w' B cs ∧ Ints w' A2 lots ∧ Below w.heap.size w w')) (by kernel_rfl) ?_ (fun hS => ?_)
        · exact ⟨cell_drew hk0, hBB.drewN 1, hx.drewN 1, hI2.drewN 1, hBW.drew⟩
        refine wpAnyH_take (i := 0) (oi := ⟨some 34, _, _, _, _, _⟩) (v := ?_) rfl (by kernel_rfl) (by kernel_rfl) (by kernel_rfl) (fun _ _ _ h => h) (Or.inl ⟨by kernel_rfl, ?_⟩) hS ?_
        rotate_left
        · intro w hSw
          try dsimp only at hSw
          go_simp
          try with_reducible rfl
        try simp only [Act.put, List.setIfInBounds_toArray, List.set_cons_zero, List.set_cons_succ]
        refine wpAnyH_take (i := 1) (oi := ⟨some 35, _, _, _, _, _⟩) (v := ?_) rfl (by kernel_rfl) (by kernel_rfl) (by kernel_rfl) (fun _ _ _ h => h) (Or.inl ⟨by kernel_rfl, ?_⟩) hS ?_
        rotate_left
        · intro w hSw
          try dsimp only at hSw
          go_simp
          try with_reducible rfl
        try simp only [Act.put, List.setIfInBounds_toArray, List.set_cons_zero, List.set_cons_succ]
        refine wpAnyH_take (i := 2) (oi := ⟨some 36, _, _, _, _, _⟩) (v := ?_) rfl (by kernel_rfl) (by kernel_rfl) (by kernel_rfl) (fun _ _ _ h => h) (Or.inl ⟨by kernel_rfl, ?_⟩) hS ?_
        rotate_left
        · intro w hSw
          try dsimp only at hSw
          go_simp
          try with_reducible rfl
        try simp only [Act.put, List.setIfInBounds_toArray, List.set_cons_zero, List.set_cons_succ]
        refine wpAnyH_take (i := 3) (oi := ⟨some 37, _, _, _, _, _⟩) (v := ?_) rfl (by kernel_rfl) (by kernel_rfl) (by kernel_rfl) (fun _ _ _ h => h) (Or.inl ⟨by kernel_rfl, ?_⟩) hS ?_
        rotate_left
        · intro w hSw
          try dsimp only at hSw
          go_simp
          try with_reducible rfl
        try simp only [Act.put, List.setIfInBounds_toArray, List.set_cons_zero, List.set_cons_succ]
        refine wpAnyH_take (i := 4) (oi := ⟨some 38, _, _, _, _, _⟩) (v := ?_) rfl (by kernel_rfl) (by kernel_rfl) (by kernel_rfl) (fun _ _ _ h => h) (Or.inl ⟨by kernel_rfl, ?_⟩) hS ?_
        rotate_left
        · intro w hSw
          try dsimp only at hSw
          go_simp
          try with_reducible rfl
        try simp only [Act.put, List.setIfInBounds_toArray, List.set_cons_zero, List.set_cons_succ]
        refine wpAnyH_take (i := 5) (oi := ⟨some 39, _, _, _, _, _⟩) (v := ?_) rfl (by kernel_rfl) (by kernel_rfl) (by kernel_rfl) (fun _ _ _ h => h) (Or.inl ⟨by kernel_rfl, ?_⟩) hS ?_
        rotate_left
        · intro w hSw
          try dsimp only at hSw
          go_simp
          try with_reducible rfl
        try simp only [Act.put, List.setIfInBounds_toArray, List.set_cons_zero, List.set_cons_succ]
        refine wpAnyH_take (i := 6) (oi := ⟨some 40, _, _, _, _, _⟩) (v := ?_) rfl (by kernel_rfl) (by kernel_rfl) (by kernel_rfl) (fun _ _ _ h => h) (Or.inl ⟨by kernel_rfl, ?_⟩) hS ?_
        rotate_left
        · intro w hSw
          try dsimp only at hSw
          go_simp
          try with_reducible rfl
        try simp only [Act.put, List.setIfInBounds_toArray, List.set_cons_zero, List.set_cons_succ]
        refine wpAnyH_take (i := 7) (oi := ⟨some 41, _, _, _, _, _⟩) (v := ?_) rfl (by kernel_rfl) (by kernel_rfl) (by kernel_rfl) (fun _ _ _ h => h) (Or.inl ⟨by kernel_rfl, ?_⟩) hS ?_
        rotate_left
        · intro w hSw
          try dsimp only at hSw
          go_simp
          try with_reducible rfl
        try simp only [Act.put, List.setIfInBounds_toArray, List.set_cons_zero, List.set_cons_succ]
        refine wpAnyH_take (i := 8) (oi := ⟨some 42, _, _, _, _, _⟩) (v := ?_) rfl (by kernel_rfl) (by kernel_rfl) (by kernel_rfl) (fun _ _ _ h => h) (Or.inl ⟨by kernel_rfl, ?_⟩) hS ?_
        rotate_left
        · intro w hSw
          try dsimp only at hSw
          go_simp
          try with_reducible rfl
        try simp only [Act.put, List.setIfInBounds_toArray, List.set_cons_zero, List.set_cons_succ]
        refine wpAnyH_ready (rs := [9]) (by kernel_rfl) (by simp) ?_
        refine AllReadyH.cons (o := ⟨some 43, _, _, _, _, _⟩) rfl (fun K hK => ?_) AllReadyH.nil
        go_simp
        (go_at_call 65; refine (cS.out _ hS.2.1).mono ?_; rintro e w4 ⟨A4, c4, rfl, ho4, hb4⟩)
        have hS0 := hS
        clear hS
        refine hK.out _ _ ⟨cell_below hb4 hS0.1, hS0.2.1.below hb4, hS0.2.2.1.below hb4, hS0.2.2.2.1.below hb4, below_down hS0.2.2.2.2 hb4⟩ (fun hS => ?_)
        clear hK K hS0
        try simp only [Act.put, List.setIfInBounds_toArray, List.set_cons_zero, List.set_cons_succ]
        refine wpAnyH_ready (rs := [10]) (by kernel_rfl) (by simp) ?_
        refine AllReadyH.cons (o := ⟨some 44, _, _, _, _, _⟩) rfl (fun K hK => ?_) AllReadyH.nil
        go_simp
        (go_at_call 64; refine (cM.out _ A4 c4 hS.2.2.1 ho4.bools).mono ?_; rintro e w5 ⟨A5, c5, rfl, ho5, hb5⟩)
        have hS0 := hS
        clear hS
        refine hK.out _ _ ⟨cell_below hb5 hS0.1, hS0.2.1.below hb5, hS0.2.2.1.below hb5, hS0.2.2.2.1.below hb5, below_down hS0.2.2.2.2 hb5⟩ (fun hS => ?_)
        clear hK K hS0
        try simp only [Act.put, List.setIfInBounds_toArray, List.set_cons_zero, List.set_cons_succ]
        refine wpAnyH_ready (rs := [11]) (by kernel_rfl) (by simp) ?_
        refine AllReadyH.cons (o := ⟨some 45, _, _, _, _, _⟩) rfl (fun K hK => ?_) AllReadyH.nil
        go_simp
        (go_at_call 63; refine (cF.out _ A5 c5 hS.2.2.2.1 ho5.bools).mono ?_; rintro e w6 ⟨rfl, rfl⟩)
        have hS0 := hS
        clear hS
        refine hK.out _ _ hS0 (fun hS => ?_)
        clear hK K hS0
        try simp only [Act.put, List.setIfInBounds_toArray, List.set_cons_zero, List.set_cons_succ]
        refine wpAnyH_take (i := 12) (oi := ⟨some 4, _, _, _, _, _⟩) (v := ?_) rfl (by kernel_rfl) (by kernel_rfl) (by kernel_rfl) (fun _ _ _ h => h) (Or.inl ⟨by kernel_rfl, ?_⟩) hS ?_
        rotate_left
        · intro w hSw
          try dsimp only at hSw
          go_simp
          try with_reducible rfl
        try simp only [Act.put, List.setIfInBounds_toArray, List.set_cons_zero, List.set_cons_succ]
        refine wpAnyH_done (by kernel_rfl) ?_ _
        go_wp2
        go_ret
        exact ⟨ret_int HQ.out.symm, hS.2.2.2.2⟩
set_option maxRecDepth 100000 in
set_option maxHeartbeats 1600000 in
theorem pluralityWinner_any (A A2 : Option Addr) (ps : List (ByteArray × Int)) (lots : List Int) (c c2 : Nat) (w : World) (h : PilesI w A ps) (h2 : Ints w A2 lots) (hl : ps.length ≤ 1048576) (hl2 : lots.length ≤ 1000000) (hcap : lots.length ≤ c2) (hv : Hid (lv lots = true)) (hf : Hid (fitV ps lots.length = true)) :
    Calls Try.prog 35 #[.slice A ps.length c, .slice A2 lots.length c2] w (Bl w (.int .i64 (greatP (cntL (List.replicate lots.length false) (pl ps)) lots))) := by
  have cV := Lib.hid (lotsValid_any A2 lots c2 w h2 (by omega) hcap)
  have cF := Lib.hid (pilesFit_any A ps c lots.length w h hl)
  rw [hv.out] at cV
  rw [hf.out] at cF
  have hF := Lib.hid (fitOk_of hf.out)
  have hl1 := hF.out.n1
  have hl5 := hF.out.n5
  have hlr : Hid (∀ l ∈ lots, 0 ≤ l ∧ l < (lots.length : Int)) := Lib.hid (fun l hl => by have := (lv_iff.1 hv.out).2.1 l hl; omega)
  obtain ⟨bs, hbs⟩ : ∃ bs, bs = List.replicate lots.length false := ⟨_, rfl⟩
  have HBL := Lib.hid (show bs.length = lots.length by rw [hbs]; simp)
  have HCL := Lib.hid (cntL_len bs (pl ps))
  rw [← hbs]
  have HBS := Lib.hid hbs
  clear hbs
  go_enter Try.func35, Try.ntmps35
  go_wp2_with (first | (go_at_call 57; refine cV.out.mono ?_; rintro e w1 ⟨rfl, rfl⟩) | (go_at_call 39; refine cF.out.mono ?_; rintro e w1 ⟨rfl, hb1⟩) | (at_make; refine wpList_makeB _ rfl _ _ rfl lots.length rfl rfl (by omega) ?_; intro w2 hown hb2 hsz2))
  rw [← HBS.out] at hown
  try rw [← HBS.out]
  have hB2 := hb1.trans (hb2.mono hb1.size)
  have cC := Lib.hid (firstCounts_any A (some ⟨w1.heap.size, 0, none⟩) ps bs c lots.length w2 (h.below hB2) hown.bools (Lib.hid (by rw [HBL.out]; exact hF.out)))
  rw [HBL.out] at cC
  refine cC.out.mono ?_
  rintro e w3 ⟨B3, d3, rfl, ho3, hb3⟩
  have hB3 := below_down hB2 hb3
  have HCL2 := Lib.hid (HCL.out.trans HBL.out)
  generalize cntL bs (pl ps) = cs at *
  clear HCL
  have cG := Lib.hid (greatest_any B3 A2 cs lots cs.length lots.length d3 c2 w3 ho3.ints (h2.below hB3) (by omega) (by omega) (Lib.hid (fun l hl => by have := hlr.out l hl; rw [HCL2.out]; exact this)) rfl rfl)
  go_wp2_with (go_at_call 62; refine cG.out.mono ?_; rintro e w4 ⟨rfl, n4, rfl⟩)
  go_ret
  exact ⟨rfl, below_drewN hB3 _⟩
end Go.Proofs.Ythngafmnkihkgaa
