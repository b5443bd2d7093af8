/-
  Counts of pairs, of the program.
-/
import Derived.Test.YthngafmnkihkgaaPairP
import Derived.Test.YthngafmnkihkgaaMat
namespace Go.Proofs.Ythngafmnkihkgaa
open Go.RowKit
set_option maxHeartbeats 400000 in
theorem sIndexP_any (A : Option Addr) (xs : List Int) (c n : Nat) (x : Int) (w : World) (h : Ints w A xs) (hn : xs.length = n) (hl : n ≤ 1048576) :
    Calls Try.prog 88 #[.slice A n c, .int .i64 x] w (Ret w (.int .i64 (posL x xs 0))) := by
  subst hn
  go_enter Try.func88, Try.ntmps88
  go_wp2
  go_loop [5, 8] (fun _ i => ∃ k : Nat, k ≤ xs.length ∧ i = .int .i64 k ∧ Hid (posL x xs 0 = posL x (xs.drop k) k)) (fun _ i => xs.length - (intOf i).toNat)
  case atStart => exact ⟨0, by omega, rfl, rfl⟩
  case round =>
    obtain ⟨k, hk, rfl, hno⟩ := hrel
    by_cases hlt : k < xs.length
    · obtain ⟨ad, y, rfl, hy, hc⟩ := h.at_ hlt
      cases hxy : (x == y)
      · have hq := Lib.hid (show posL x xs 0 = posL x (xs.drop (k + 1)) (k + 1) from by
          rw [hno.out, drop_at hy.out]
          conv => lhs; unfold posL
          rw [if_neg (by simpa using hxy)])
        go_wp2
        go_round
        case rel => exact ⟨k + 1, by omega, by go_num, hq⟩
        case measure => simp [intOf]; omega
      · have hq := Lib.hid (show posL x xs 0 = (k : Int) from by
          rw [hno.out, drop_at hy.out]
          unfold posL
          rw [if_pos (by simpa using hxy)])
        go_wp2
        go_ret
        exact ⟨ret_int hq.out.symm, rfl⟩
    · have h2 : xs.length ≤ k := by omega
      clear hlt
      go_wp2
      go_ret
      exact ⟨ret_int (by rw [hno.out, List.drop_of_length_le h2]; rfl), rfl⟩
set_option maxHeartbeats 800000 in
theorem prefers_any (A : Option Addr) (b : List Int) (c : Nat) (x y : Nat) (w : World) (h : Ints w A b) (hv : Hid (bv b 5 = true)) (hcap : b.length ≤ c) (hl : b.length ≤ 5) :
    Calls Try.prog 77 #[.slice A b.length c, .int .i64 x, .int .i64 y] w (Ret w (.bool (prefB b x y))) := by
  have cV := Lib.hid (ballotValid_any A b c 5 w h (by omega) hcap)
  rw [hv.out] at cV
  by_cases hxy : x = y
  · have he : ((x : Int) == (y : Int)) = true := by simp [hxy]
    have hq := Lib.hid (show prefB b x y = false from if_pos (by omega))
    clear hxy
    go_enter Try.func77, Try.ntmps77
    go_wp2_with (go_at_call 67; refine cV.out.mono ?_; rintro e w' ⟨rfl, rfl⟩)
    go_ret
    exact ⟨ret_bool hq.out.symm, rfl⟩
  · have he : ((x : Int) == (y : Int)) = false := by simp; omega
    have hq := Lib.hid (show prefB b x y = (decide (0 ≤ posL x b 0) && (decide (posL y b 0 < 0) || decide (posL x b 0 < posL y b 0))) from by
      unfold prefB
      rw [if_neg (by omega)]
      exact pref_pos b x y 0 (by omega))
    have c1 := Lib.hid (sIndexP_any A b c b.length x w h rfl (by omega))
    have c2 := Lib.hid (sIndexP_any A b c b.length y w h rfl (by omega))
    clear hxy
    generalize posL x b 0 = px at *
    generalize posL y b 0 = py at *
    by_cases h0 : 0 ≤ px
    · by_cases h1 : py < 0
      · go_enter Try.func77, Try.ntmps77
        go_wp2_with (first | (go_at_call 67; refine cV.out.mono ?_; rintro e w' ⟨rfl, rfl⟩) | (go_at_call 88; first | ((with_reducible refine c1.out.mono ?_); rintro e w' ⟨rfl, rfl⟩) | ((with_reducible refine c2.out.mono ?_); rintro e w' ⟨rfl, rfl⟩)))
        go_ret
        exact ⟨ret_bool (by rw [hq.out]; simp [h0, h1]), rfl⟩
      · have hd : decide (py < 0) = false := by simpa using h1
        have hq2 := Lib.hid (show (decide (0 ≤ px) && (decide (py < 0) || decide (px < py))) = decide (px < py) by simp [h0]; omega)
        go_enter Try.func77, Try.ntmps77
        go_wp2_with (first | (go_at_call 67; refine cV.out.mono ?_; rintro e w' ⟨rfl, rfl⟩) | (go_at_call 88; first | ((with_reducible refine c1.out.mono ?_); rintro e w' ⟨rfl, rfl⟩) | ((with_reducible refine c2.out.mono ?_); rintro e w' ⟨rfl, rfl⟩)))
        go_ret
        exact ⟨ret_bool (by rw [hq.out, hq2.out]), rfl⟩
    · have hd : decide (0 ≤ px) = false := by simpa using h0
      go_enter Try.func77, Try.ntmps77
      go_wp2_with (first | (go_at_call 67; refine cV.out.mono ?_; rintro e w' ⟨rfl, rfl⟩) | (go_at_call 88; first | ((with_reducible refine c1.out.mono ?_); rintro e w' ⟨rfl, rfl⟩) | ((with_reducible refine c2.out.mono ?_); rintro e w' ⟨rfl, rfl⟩)))
      go_ret
      exact ⟨ret_bool (by rw [hq.out, hd]; rfl), rfl⟩
/-- A row whose first places are done. -/
def rowK (n x y : Nat) (v : Int) (ps : List Pl) : List Int := (List.range n).map fun z => if z < y then pairC x (z : Nat) ps else if z = y then v else 0
theorem rowK_len (n x y : Nat) (v : Int) (ps : List Pl) : (rowK n x y v ps).length = n := by simp [rowK]
theorem rowK_zero (n x : Nat) (ps : List Pl) : rowK n x 0 0 ps = List.replicate n 0 := by
  apply List.ext_getElem
  · simp [rowK]
  · intro i h1 h2
    simp [rowK]
theorem rowK_at {n x y : Nat} {v : Int} {ps : List Pl} (h : y < n) : (rowK n x y v ps)[y]? = some v := by simp [rowK, h]
theorem rowK_set {n x y : Nat} {v v' : Int} {ps : List Pl} : (rowK n x y v ps).set y v' = rowK n x y v' ps := by
  apply List.ext_getElem
  · simp [rowK]
  · intro i h1 h2
    rw [List.getElem_set]
    simp only [rowK, List.getElem_map, List.getElem_range]
    by_cases hi : y = i
    · subst hi; simp
    · rw [if_neg hi]
      split
      · rfl
      · rw [if_neg (fun e => hi e.symm), if_neg (fun e => hi e.symm)]
theorem rowK_next (n x y : Nat) (ps : List Pl) : rowK n x y (pairC x y ps) ps = rowK n x (y + 1) 0 ps := by
  unfold rowK
  apply List.map_congr_left
  intro z _
  by_cases h1 : z < y
  · rw [if_pos h1, if_pos (by omega)]
  · rw [if_neg h1]
    by_cases h2 : z = y
    · subst h2
      rw [if_pos rfl, if_pos (by omega)]
    · rw [if_neg h2, if_neg (by omega)]
      split <;> rfl
theorem rowK_full (n x : Nat) (v : Int) (ps : List Pl) : rowK n x n v ps = pairR n x ps := by
  unfold rowK pairR
  apply List.map_congr_left
  intro z hz
  rw [if_pos (List.mem_range.1 hz)]
def matK (n x : Nat) (ps : List Pl) : List (List Int) := (List.range n).map fun i => if i < x then pairR n i ps else []
def pairM (n : Nat) (ps : List Pl) : List (List Int) := (List.range n).map fun i => pairR n i ps
theorem matK_len (n x : Nat) (ps : List Pl) : (matK n x ps).length = n := by simp [matK]
theorem matK_zero (n : Nat) (ps : List Pl) : matK n 0 ps = List.replicate n [] := by
  apply List.ext_getElem
  · simp [matK]
  · intro i h1 h2
    simp [matK]
theorem matK_full (n : Nat) (ps : List Pl) : matK n n ps = pairM n ps := by
  unfold matK pairM
  apply List.map_congr_left
  intro z hz
  rw [if_pos (List.mem_range.1 hz)]
theorem matK_next {n x : Nat} {ps : List Pl} : (matK n x ps).set x (pairR n x ps) = matK n (x + 1) ps := by
  apply List.ext_getElem
  · simp [matK]
  · intro i h1 h2
    rw [List.getElem_set]
    simp only [matK, List.getElem_map, List.getElem_range]
    by_cases hi : x = i
    · subst hi; simp
    · rw [if_neg hi]
      by_cases h : i < x
      · rw [if_pos h, if_pos (by omega)]
      · rw [if_neg h, if_neg (by omega)]
theorem newII_mk {w w' : World} {xss : List (List Int)} {A : Option Addr} {n c : Nat} {R : Nat → Option Addr × Nat} (hn : xss.length = n) (ho : OwnRows w' w.heap.size A n c R xss) (hb : Below w.heap.size w w') : NewII w xss (.returned (.slice A n c)) w' := by
  subst hn
  exact ⟨A, c, rfl, ⟨R, ho⟩, hb⟩
theorem pairM_len (n : Nat) (ps : List Pl) : (pairM n ps).length = n := by simp [pairM]
/-- It returns rows that can be read, and true. -/
def NewMT (w : World) (n : Nat) (xss : List (List Int)) (e : Ending) (w' : World) : Prop := ∃ A c, e = .returned (.tuple #[.slice A n c, .bool true]) ∧ RowsI w' A xss ∧ Below w.heap.size w w'
theorem set_row {yss : List (List Int)} {x : Nat} {r : List Int} (h : x < yss.length) : (yss.set x r)[x]? = some r := by simp [h]
set_option maxRecDepth 100000 in
set_option maxHeartbeats 3200000 in
theorem pairCounts_any (A : Option Addr) (ps : List (ByteArray × Int)) (c n : Nat) (w : World) (h : PilesI w A ps) (hf : Hid (FitOk ps n)) :
    Calls Try.prog 52 #[.slice A ps.length c, .int .i64 n] w (NewII w (pairM n (pl ps))) := by
  have hl := hf.out.len
  have hl5 := hf.out.n5
  have hl1 := hf.out.n1
  go_enter Try.func52, Try.ntmps52
  go_wp2_with (at_make; refine wpList_makeR _ rfl _ _ rfl n rfl rfl (by omega) ?_; intro w1 hown hbel hsz)
  go_loopw [6, 7, 9, 14] (fun _ _ _ i wr => ∃ (x : Nat) (R : Nat → Option Addr × Nat), x ≤ n ∧ i = .int .i64 x ∧ OwnRows wr w.heap.size (some ⟨w.heap.size, 0, none⟩) n n R (matK n x (pl ps)) ∧ Below w.heap.size w wr) (fun _ _ _ i _ => n - (intOf i).toNat)
  case atStart => exact ⟨0, _, by omega, rfl, hown.congr (matK_zero n _).symm, hbel⟩
  case round =>
    clear hown hbel hsz
    obtain ⟨x, R, hx, rfl, hown, hbel⟩ := hrel
    by_cases hlt : x < n
    · have hx0 : (0 : Int) ≤ (x : Int) := by omega
      have hx1 : (x : Int) < (n : Int) := by omega
      have hsz := hbel.size
      have hgb := hown.block
      obtain ⟨_, hgl, _⟩ := hgb
      go_wp2_with (at_make; refine wpList_makeI _ rfl _ _ rfl n rfl rfl (by omega) ?_; intro w2 ho2 hb2 hz2; have hcc := (hown.below hb2).cellAt hlt; have hcf := (hown.below hb2).frozenAt x)
      have hput := hown.put hb2 hlt ho2
      rw [List.length_replicate] at hput
      have hB2 := (below_down hbel hb2).setCell (p := ⟨w.heap.size, x, none⟩) (Nat.le_refl _) (.slice (some ⟨wr.heap.size, 0, none⟩) n n)
      clear hown hbel hb2 ho2 hcc hcf hz2 hsz
      obtain ⟨R', hR'⟩ : ∃ R' : Nat → Option Addr × Nat, R' = (fun j => if j = x then (some ⟨wr.heap.size, 0, none⟩, n) else R j) := ⟨_, rfl⟩
      rw [← hR'] at hput
      have hR := Lib.hid (show R' x = (some ⟨wr.heap.size, 0, none⟩, n) by rw [hR']; simp)
      have hgx : wr.heap.size ≠ w.heap.size := by omega
      generalize wr.heap.size = gx at *
      clear hR' hgl
      generalize w2.setCell ⟨w.heap.size, x, none⟩ (.slice (some ⟨gx, 0, none⟩) n n) = w3 at *
      go_wp2
      go_loopw [7, 9, 23] (fun _ _ i wr => ∃ y : Nat, y ≤ n ∧ i = .int .i64 y ∧ OwnRows wr w.heap.size (some ⟨w.heap.size, 0, none⟩) n n R' ((matK n x (pl ps)).set x (rowK n x y 0 (pl ps))) ∧ Below w.heap.size w wr) (fun _ _ i _ => n - (intOf i).toNat)
      case atStart => exact ⟨0, by omega, rfl, hput.congr (by rw [rowK_zero]), hB2⟩
      case round =>
        clear hput hB2
        obtain ⟨y, hy, rfl, hown, hbel⟩ := hrel
        by_cases hlty : y < n
        · have hy0 : (0 : Int) ≤ (y : Int) := by omega
          have hy1 : (y : Int) < (n : Int) := by omega
          obtain ⟨wo, rfl⟩ : ∃ wo : World, wo = wr := ⟨_, rfl⟩
          go_wp2
          go_loopw [9, 28] (fun _ i wr => ∃ k : Nat, k ≤ ps.length ∧ i = .int .i64 k ∧ OwnRows wr w.heap.size (some ⟨w.heap.size, 0, none⟩) n n R' ((matK n x (pl ps)).set x (rowK n x y (pairC x y (pl (ps.take k))) (pl ps))) ∧ Below w.heap.size w wr) (fun _ i _ => ps.length - (intOf i).toNat)
          case atStart => exact ⟨0, by omega, rfl, hown, hbel⟩
          case round =>
            clear hown hbel
            obtain ⟨k, hk, rfl, hown, hbel⟩ := hrel
            have hsz := hbel.size
            by_cases hltk : k < ps.length
            · obtain ⟨ad, s, m, rfl, hp, hs, hc0, hc1⟩ := (h.below hbel).at_ hltk
              obtain ⟨hbp, hbv⟩ := hf.out.bvs (pmem_at hp.out)
              have hbt := hf.out.bts _ (pmem_at hp.out)
              have HV := Lib.hid (show bv (bal s) 5 = true from hbt)
              have hbl : (bal s).length ≤ 5 := by rw [bal_len]; exact bt_size hbt
              obtain ⟨hm0, hm1⟩ : 1 ≤ m ∧ m ≤ 99 := hf.out.many _ (pmem_at hp.out)
              have hpn := Lib.hid (show pairC x y (pl (ps.take (k + 1))) = pairC x y (pl (ps.take k)) + if prefB (bal s) x y = true then m else 0 by rw [pl_snoc hp.out, pairC_snoc])
              go_wp2_with fail
              refine (pileBallot_any s m _ hs).mono ?_
              rintro e w4 ⟨B, dd, rfl, ho, hb4⟩
              rw [hbp] at ho ⊢
              have hB4 := below_down (hbel.alloc hsz _) hb4
              have z1 : w4.cell? ⟨wr.heap.size, 1, none⟩ = some (.int .i64 m) := cell_below hb4 (cell_of_row _ wr.heap.size 1 #[.string s, .int .i64 m] 31 (0, 0) (heap_alloc_new wr _))
              have hown4 := hown.below (((Below.refl _ wr).alloc (Nat.le_refl _) (.cells #[.string s, .int .i64 m] 31)).trans (hb4.mono (by simp)))
              have cP := Lib.hid (prefers_any B (bal s) dd x y w4 ho.ints HV ho.le_cap hbl)
              clear hb4 hown hbel hbp hbv hsz hc0 hc1 hbt ho
              cases hpf : prefB (bal s) x y
              · rw [hpf] at cP hpn
                have hv := Lib.hid (show pairC x y (pl (ps.take (k + 1))) = pairC x y (pl (ps.take k)) by rw [hpn.out]; simp)
                clear hpn hpf
                go_wp2_with (go_at_call 77; refine cP.out.mono ?_; rintro e w' ⟨rfl, rfl⟩)
                go_roundw
                case rel => exact ⟨k + 1, by omega, by go_num, hown4.congr (by rw [hv.out]), hB4⟩
                case measure => simp [intOf]; omega
              · rw [hpf] at cP hpn
                have hrow := set_row (yss := matK n x (pl ps)) (x := x) (r := rowK n x y (pairC x y (pl (ps.take k))) (pl ps)) (by rw [matK_len]; exact hlt)
                have hcc := hown4.cellAt hlt
                have hcv : rval R' ((matK n x (pl ps)).set x (rowK n x y (pairC x y (pl (ps.take k))) (pl ps))) x = .slice (some ⟨gx, 0, none⟩) n n := by
                  unfold rval
                  rw [List.getD_eq_getElem?_getD, hrow, hR.out]
                  show Value.slice _ (rowK n x y _ _).length _ = _
                  rw [rowK_len]
                rw [hcv] at hcc
                have oi := hown4.own x _ hrow
                rw [hR.out] at oi
                have hv0 := pairC_bd x y (pl_nn_take hf.out k)
                have tt := pl_take_tot hf.out k
                obtain ⟨V, hV⟩ : ∃ V, V = pairC x y (pl (ps.take k)) := ⟨_, rfl⟩
                have hc := oi.cell (rowK_at (x := x) (v := pairC x y (pl (ps.take k))) (ps := pl ps) hlty)
                have hfz := oi.frozen y
                rw [← hV] at hc hv0
                have hv1 : 0 ≤ V ∧ V ≤ 1188 := by omega
                obtain ⟨hV0, hV1⟩ := hv1
                have HV2 := Lib.hid hV
                have v2 : IntKind.i64.wrap (V + m) = V + m := IntWalk.i64_in _ (by omega)
                have hset := Lib.hid (hown4.mark hrow (zs := rowK n x y (V + m) (pl ps)) (w' := (w4.drew).setCell ⟨gx, y, none⟩ (.int .i64 (V + m))) (by rw [rowK_len, rowK_len]) (by rw [hR.out]; exact (OwnI.set (oi.drewN 1) y (V + m)).congr rowK_set) (by
                  rw [hR.out]
                  exact grown_setCell (grown_drewN (grown_refl _ _) 1) _ _))
                have hB5 : Below w.heap.size w ((w4.drew).setCell ⟨gx, y, none⟩ (.int .i64 (V + m))) := (hB4.drew).setCell (by have := oi.block gx rfl; exact this.1) _
                clear hcv oi hV hv0 tt hrow hpf hR
                go_wp2_with (go_at_call 77; refine cP.out.mono ?_; rintro e w' ⟨rfl, rfl⟩)
                go_region
                clear v2
                go_wp2
                go_roundw
                case rel => exact ⟨k + 1, by omega, by go_num, hset.out.congr (by rw [List.set_set, hpn.out, HV2.out]; simp), hB5⟩
                case measure => simp [intOf]; omega
            · obtain rfl : k = ps.length := by omega
              clear hltk
              have hown' := hown.congr (show _ = (matK n x (pl ps)).set x (rowK n x (y + 1) 0 (pl ps)) by rw [List.take_length, rowK_next])
              go_wp2
              go_roundw
              case rel => exact ⟨y + 1, by omega, by go_num, hown', hbel⟩
              case measure => simp [intOf]; omega
        · obtain rfl : y = n := by omega
          clear hlty
          have hown' := hown.congr (show _ = matK y (x + 1) (pl ps) by rw [rowK_full, matK_next])
          go_wp2
          go_roundw
          case rel => exact ⟨x + 1, R', by omega, by go_num, hown', hbel⟩
          case measure => simp [intOf]; omega
    · obtain rfl : x = n := by omega
      clear hlt
      have hown' := hown.congr (matK_full x (pl ps))
      go_wp2
      go_ret
      exact newII_mk (by simp [pairM]) hown' hbel
set_option maxHeartbeats 800000 in
theorem implPairs_any (A : Option Addr) (ps : List (ByteArray × Int)) (c n : Nat) (w : World) (h : PilesI w A ps) (hl : ps.length ≤ 1048576) (hv : Hid (fitV ps n = true)) :
    Calls Try.prog 22 #[.slice A ps.length c, .int .i64 n] w (NewMT w n (pairM n (pl ps))) := by
  have cV := Lib.hid (pilesFit_any A ps c n w h hl)
  rw [hv.out] at cV
  have hF := Lib.hid (fitOk_of hv.out)
  go_enter Try.func22, Try.ntmps22
  go_wp2_with (go_at_call 39; refine cV.out.mono ?_; rintro e w1 ⟨rfl, hb1⟩)
  refine (pairCounts_any A ps c n w1 (h.below hb1) hF).mono ?_
  rintro e w2 ⟨B, dd, rfl, ho, hb2⟩
  rw [pairM_len]
  have hr := ho.rows
  have hB := below_down hb1 hb2
  clear hb1 hb2
  go_wp2
  go_ret2
  exact ⟨B, dd, rfl, hr, hB⟩
end Go.Proofs.Ythngafmnkihkgaa
