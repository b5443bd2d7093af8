/-
  The gap of districts, of the program and of the reference.
-/
import Derived.Test.YtoblhmbpobbecaaDistT
import Derived.Test.YtoblhmbpobbecaaDist
namespace Go.Proofs.Ytoblhmbpobbecaa
open Go.RowKit
/-- The seats of the districts, row by row. -/
def dsR (xss : List (List Int)) (m : Int) (ls : List Int) (k : Nat) : List (List Int) := xss.map fun xs => giveN xs m ls k
theorem dsR_len (xss : List (List Int)) (m : Int) (ls : List Int) (k : Nat) : (dsR xss m ls k).length = xss.length := by simp [dsR]
theorem dsR_at {xss : List (List Int)} {m : Int} {ls : List Int} {k i : Nat} {xs : List Int} (h : xss[i]? = some xs) : (dsR xss m ls k)[i]? = some (giveN xs m ls k) := by simp [dsR, h]
/-- What valid arguments are. -/
structure DsOk (xss : List (List Int)) (k : Nat) (m : Int) (ls : List Int) : Prop where
  dv : DvOk xss
  dvb : dvB xss = true
  hk : k * xss.length ≤ 20
  mm : mv m = true
  lv : lv ls = true
  ll : ls.length = wid xss
  row : ∀ ys ∈ dsR xss m ls k, ys.length = wid xss
  bd : ∀ ys ∈ dsR xss m ls k, ∀ y ∈ ys, 0 ≤ y ∧ y ≤ 20
theorem dsOk_of {xss : List (List Int)} {s m : Int} {ls : List Int} (h : dsC xss s m ls = true) : ∃ k : Nat, s = k ∧ k ≤ 20 ∧ DsOk xss k m ls := by
  obtain ⟨hd, ⟨h0, h1⟩, hm, hl, hw⟩ := dsC_iff.1 h
  obtain ⟨k, rfl⟩ := Int.eq_ofNat_of_zero_le h0
  have o := dvOk_of hd
  have hk20 : (k : Int) * xss.length ≤ 20 := by
    have := Int.mul_le_mul_of_nonneg_right h1 (show (0 : Int) ≤ xss.length by omega)
    have h2 := Int.ediv_mul_le 20 (show (xss.length : Int) ≠ 0 by have := o.l1; omega)
    omega
  have hk20' : k * xss.length ≤ 20 := by exact_mod_cast hk20
  have hk : k ≤ 20 := by
    have := Nat.le_mul_of_pos_right k (show 0 < xss.length from o.l1.1)
    omega
  refine ⟨k, rfl, hk, ⟨o, hd, hk20', hm, hl, hw, fun ys hy => ?_, fun ys hy y hyy => ?_⟩⟩
  · obtain ⟨xs, hx, rfl⟩ := List.mem_map.1 hy
    rw [giveN_len]; exact o.len xs hx
  · obtain ⟨xs, hx, rfl⟩ := List.mem_map.1 hy
    have hc : divC xs m ls = true := by simp [divC, o.row xs hx, hm, hl, hw, o.len xs hx]
    have g := (divOk_of hc).1.given k (by omega)
    have := g.bd y hyy
    omega
theorem DsOk.divF {xss : List (List Int)} {k : Nat} {m : Int} {ls xs : List Int} (o : DsOk xss k m ls) (hx : xs ∈ xss) : divF xs k m ls = (giveN xs m ls k, true) := by
  have hk : k ≤ 20 := by
    have := Nat.le_mul_of_pos_right k (show 0 < xss.length from o.dv.l1.1)
    have := o.hk
    omega
  exact divF_t hk (by simp [divC, o.dv.row xs hx, o.mm, o.lv, o.ll, o.dv.len xs hx])
theorem DsOk.whole {xss : List (List Int)} {k : Nat} {m : Int} {ls : List Int} (o : DsOk xss k m ls) : Go.Proofs.Ytoblhmbpobbecaa.divF (tog (wid xss) xss) ((k : Int) * xss.length) m ls = (giveN (tog (wid xss) xss) m ls (k * xss.length), true) := by
  have := divF_t (xs := tog (wid xss) xss) (m := m) (ls := ls) o.hk (by simp [divC, o.dv.all, o.mm, o.lv, o.ll, tog_len])
  simpa using this
/-- What some have more than others, together. -/
def moreL (us bs : List Int) : Int := (List.zipWith (fun a b => max 0 (a - b)) us bs).sum
theorem moreL_snoc {us bs : List Int} {k : Nat} {a b : Int} (ha : us[k]? = some a) (hb : bs[k]? = some b) : moreL (us.take (k + 1)) (bs.take (k + 1)) = moreL (us.take k) (bs.take k) + max 0 (a - b) := by
  have h1 := (List.getElem?_eq_some_iff.1 ha).1
  have h2 := (List.getElem?_eq_some_iff.1 hb).1
  unfold moreL
  rw [take_snoc _ _ _ ha, take_snoc _ _ _ hb, List.zipWith_append (by simp; omega), sum_append]
  simp
theorem moreL_bd {us bs : List Int} (h : ∀ a ∈ us, a ≤ 1000) (h' : ∀ b ∈ bs, 0 ≤ b) : 0 ≤ moreL us bs ∧ moreL us bs ≤ 1000 * us.length := by
  induction us generalizing bs with
  | nil => simp [moreL]
  | cons a t ih =>
    cases bs with
    | nil => simp [moreL]; omega
    | cons b u =>
      have i := ih (bs := u) (fun x hx => h x (by simp [hx])) (fun x hx => h' x (by simp [hx]))
      have ha := h a (by simp)
      have hb := h' b (by simp)
      have e : moreL (a :: t) (b :: u) = max 0 (a - b) + moreL t u := by simp [moreL]
      rw [e]
      simp only [List.length_cons]
      omega
/-- The gap of districts, or -1. -/
def dgF (xss : List (List Int)) (s m : Int) (ls : List Int) : Int :=
  if dsC xss s m ls = true then moreL (tog (wid xss) (dsR xss m ls s.toNat)) (giveN (tog (wid xss) xss) m ls (s.toNat * xss.length)) else -1
theorem dgF_f {xss : List (List Int)} {s m : Int} {ls : List Int} (h : dsC xss s m ls = false) : dgF xss s m ls = -1 := by unfold dgF; rw [h]; rfl
theorem dgF_t {xss : List (List Int)} {k : Nat} {m : Int} {ls : List Int} (h : dsC xss k m ls = true) : dgF xss k m ls = moreL (tog (wid xss) (dsR xss m ls k)) (giveN (tog (wid xss) xss) m ls (k * xss.length)) := by unfold dgF; rw [if_pos h]; rfl
/-- All numbers of a walk over both lists. -/
structure GapOk (xss : List (List Int)) (k : Nat) (m : Int) (ls us bs : List Int) : Prop where
  ea : us = tog (wid xss) (dsR xss m ls k)
  eb : bs = giveN (tog (wid xss) xss) m ls (k * xss.length)
  la : us.length = wid xss
  lb : bs.length = wid xss
  ba : ∀ a ∈ us, 0 ≤ a ∧ a ≤ 80
  bb : ∀ b ∈ bs, 0 ≤ b ∧ b ≤ 20
theorem DsOk.gap {xss : List (List Int)} {k : Nat} {m : Int} {ls : List Int} (o : DsOk xss k m ls) : GapOk xss k m ls (tog (wid xss) (dsR xss m ls k)) (giveN (tog (wid xss) xss) m ls (k * xss.length)) := by
  refine ⟨rfl, rfl, tog_len _ _, by rw [giveN_len, tog_len], fun a ha => ?_, fun b hb => ?_⟩
  · unfold tog at ha
    obtain ⟨j, _, rfl⟩ := List.mem_map.1 ha
    have := col_bd 20 (dsR xss m ls k) o.bd (by omega) j
    rw [dsR_len] at this
    have := o.dv.l1
    omega
  · have hc : divC (tog (wid xss) xss) m ls = true := by simp [divC, o.dv.all, o.mm, o.lv, o.ll, tog_len]
    have g := (divOk_of hc).1.given (k * xss.length) (by have := o.hk; omega)
    have := g.bd b hb
    have := o.hk
    omega
theorem dsF_k {xss : List (List Int)} {k : Nat} {m : Int} {ls : List Int} (h : dsC xss k m ls = true) : dsF xss k m ls = (dsR xss m ls k, true) := dsF_t h
theorem rows_keep {w w1 : World} {A : Option Addr} {c : Nat} {base : Nat} {yss : List (List Int)} (h : OwnII w base A c yss) (hb : Below w.heap.size w w1) : OwnII w1 base A c yss := h.below hb
set_option maxHeartbeats 1600000 in
theorem implDG_any (A A2 : Option Addr) (xss : List (List Int)) (ls : List Int) (c c2 : Nat) (s m : Int) (w : World) (h : RowsI w A xss) (h2 : Ints w A2 ls) (hl : tot xss ≤ 1048576) (hl3 : ls.length ≤ 1048576) (hcap : ls.length ≤ c2) :
    Calls Try.prog 20 #[.slice A xss.length c, .int .i64 s, .int .i64 m, .slice A2 ls.length c2] w (Bl w (.int .i64 (dgF xss s m ls))) := by
  have cS := Lib.hid (implDS_any A A2 xss ls c c2 s m w h h2 hl hl3 hcap)
  obtain ⟨r, hr⟩ : ∃ r, dsC xss s m ls = r := ⟨_, rfl⟩
  have HR := Lib.hid hr
  cases r
  · rw [dsF_f hr] at cS
    have hq := Lib.hid (dgF_f hr)
    clear hr
    go_enter Try.func20, Try.ntmps20
    go_wp2_with (go_at_call 24; refine cS.out.mono ?_; rintro e w1 ⟨A3, c3, rfl, ho3, hb1⟩)
    go_ret
    exact ⟨ret_int hq.out.symm, hb1⟩
  obtain ⟨k, rfl, hk20, o⟩ := dsOk_of hr
  rw [dsF_k hr] at cS
  have hq := Lib.hid (dgF_t hr)
  have OK := Lib.hid o
  have G := Lib.hid o.gap
  obtain ⟨hx1, hx4⟩ := o.dv.l1
  obtain ⟨hw1, hw5⟩ := o.dv.wd
  have cT := Lib.hid (fun (w : World) (h : RowsI w A xss) => together_any A xss c (wid xss) w h (by omega) (by omega) (by omega) o.dv.len o.dv.bd)
  have cA := Lib.hid (fun (A : Option Addr) (c : Nat) (w : World) (h : RowsI w A (dsR xss m ls k)) => together_any A (dsR xss m ls k) c (wid xss) w h (by rw [dsR_len]; omega) (by rw [dsR_len]; omega) (by omega) o.row (fun ys hy y hyy => by have := o.bd ys hy y hyy; omega))
  have hrl := dsR_len xss m ls k
  have htl := tog_len (wid xss) xss
  have hwhole := o.whole
  have cW := Lib.hid (fun (B : Option Addr) (d : Nat) (w : World) (h : Ints w B (tog (wid xss) xss)) (h2 : Ints w A2 ls) => implDivisor_any B A2 (tog (wid xss) xss) ls d c2 ((k : Int) * xss.length) m w h h2 (by rw [htl]; omega) hl3 hcap)
  rw [hwhole, htl] at cW
  obtain ⟨p0, p1⟩ := mul_bd (a := (k : Int)) (b := (xss.length : Int)) (M := 20) (N := 4) ⟨by omega, by omega⟩ ⟨by omega, by omega⟩
  have hla := G.out.la
  have hlb := G.out.lb
  generalize has : tog (wid xss) (dsR xss m ls k) = us at *
  generalize hbs : giveN (tog (wid xss) xss) m ls (k * xss.length) = bs at *
  generalize tog (wid xss) xss = ts at *
  have HRL := Lib.hid hrl
  have HLA := Lib.hid hla
  have HLB := Lib.hid hlb
  clear hr o has hbs hrl hwhole hla hlb
  have hkx : (k : Int) * (xss.length : Int) ≤ 80 := by omega
  go_enter Try.func20, Try.ntmps20
  go_wp2_with fail
  refine cS.out.mono ?_
  rintro e w1 ⟨A3, c3, rfl, ho3, hb1⟩
  go_wp2_with fail
  refine (cT.out _ (h.below hb1)).mono ?_
  rintro e w2 ⟨A4, c4, rfl, ho4, hb2⟩
  have hB2 := hb1.trans (hb2.mono hb1.size)
  have ho3 := ho3.below hb2
  go_wp2_with fail
  refine (cW.out _ _ _ ho4.ints (h2.below hB2)).mono ?_
  rintro e w3 ⟨A5, c5, rfl, ho5, hb3⟩
  have hB3 := hB2.trans (hb3.mono hB2.size)
  have ho3 := ho3.below hb3
  go_wp2_with fail
  refine (cA.out _ _ _ ho3.rows).mono ?_
  rintro e w4 ⟨A6, c6, rfl, ho6, hb4⟩
  have hB4 := hB3.trans (hb4.mono hB3.size)
  have ho5 := ho5.below hb4
  have i5 := ho5.ints
  have i6 := ho6.ints
  clear ho3 ho4 ho5 ho6 hb1 hb2 hb3 hb4
  have hal : us.length ≤ 5 := by have := HLA.out; omega
  go_wp2
  go_loop [13, 14, 15, 41] (fun g _ _ i => ∃ j : Nat, j ≤ us.length ∧ i = .int .i64 j ∧ g = .int .i64 (moreL (us.take j) (bs.take j))) (fun _ _ _ i => us.length - (intOf i).toNat)
  case atStart => exact ⟨0, by omega, rfl, rfl⟩
  case round =>
    obtain ⟨j, hj, rfl, rfl⟩ := hrel
    by_cases hlt : j < us.length
    · have hlt2 : j < bs.length := by have := HLA.out; have := HLB.out; omega
      obtain ⟨ad, a, rfl, ha, hca⟩ := i6.at_ hlt
      obtain ⟨ad2, b, rfl, hb, hcb⟩ := i5.at_ hlt2
      obtain ⟨a0, a1⟩ := G.out.ba a (mem_of_at ha.out)
      obtain ⟨b0, b1⟩ := G.out.bb b (mem_of_at hb.out)
      obtain ⟨m0, m1⟩ := moreL_bd (us := us.take j) (bs := bs.take j) (fun x hx => by have := G.out.ba x (mem_take hx); omega) (fun x hx => (G.out.bb x (mem_take hx)).1)
      have hlk : (us.take j).length ≤ j := List.length_take_le _ _
      have HS := Lib.hid (moreL_snoc ha.out hb.out)
      go_wp2
      go_round
      case rel => exact ⟨j + 1, by omega, by go_num, by rw [HS.out]; first | rfl | exact val_int (by split <;> omega) | exact val_int (by omega)⟩
      case measure => simp [intOf]; omega
    · obtain rfl : j = us.length := by omega
      clear hlt
      have hbl : bs.length ≤ us.length := by have := HLA.out; have := HLB.out; omega
      go_wp2
      go_ret
      exact ⟨ret_int (by rw [hq.out]; first | rw [List.take_of_length_le (Nat.le_refl us.length), List.take_of_length_le hbl] | rw [List.take_of_length_le hbl]), hB4⟩
set_option maxHeartbeats 1600000 in
theorem l24Sum_any (A A2 : Option Addr) (xss : List (List Int)) (ls : List Int) (c c2 k : Nat) (m : Int) (w : World) (h : RowsI w A xss) (h2 : Ints w A2 ls) (hl : tot xss ≤ 1048576) (hl3 : ls.length ≤ 1048576) (hcap : ls.length ≤ c2) (o : Hid (DsOk xss k m ls)) :
    Calls Try.prog 51 #[.slice A xss.length c, .int .i64 k, .int .i64 m, .slice A2 ls.length c2] w (NewI w (tog (wid xss) (dsR xss m ls k))) := by
  obtain ⟨hx1, hx4⟩ := o.out.dv.l1
  obtain ⟨hw1, hw5⟩ := o.out.dv.wd
  have hll := o.out.ll
  have HT := Lib.hid hl
  have cV := Lib.hid (fun (xs : List Int) (hx : xs ∈ xss) (B : Option Addr) (d : Nat) (w : World) (hxl : xs.length ≤ 1048576) (h : Ints w B xs) (h2 : Ints w A2 ls) => specDivisor_any B A2 xs ls d c2 k m w h h2 hxl hl3 hcap)
  obtain ⟨n, hn⟩ : ∃ n, n = ls.length := ⟨_, rfl⟩
  have hnw : wid xss = n := by omega
  have hlen : (tog n (dsR xss m ls k)).length = n := by simp [tog]
  rw [hnw]
  rw [hnw] at hw1 hw5
  have HDL := Lib.hid (dsR_len xss m ls k)
  have HNW := Lib.hid hnw
  have HN := Lib.hid hn
  clear hl hll hnw
  rw [← hn]
  rw [← hn] at hl3 hcap
  clear hn
  go_enter Try.func51, Try.ntmps51
  go_wp2_with (at_make; refine wpList_makeI _ rfl _ _ rfl n rfl rfl (by omega) ?_; intro w1 hown hbel hsz)
  go_loopw [10, 11, 12, 13] (fun i _ _ _ wr => ∃ j : Nat, j ≤ xss.length ∧ i = .int .i64 j ∧ OwnI wr w.heap.size (some ⟨w.heap.size, 0, none⟩) n (tog n ((dsR xss m ls k).take j)) ∧ Below w.heap.size w wr ∧ w.heap.size < wr.heap.size) (fun i _ _ _ _ => xss.length - (intOf i).toNat)
  case atStart => exact ⟨0, by omega, rfl, by simpa [tog_none] using ‹OwnI _ _ _ _ _›, by assumption, by assumption⟩
  case round =>
    obtain ⟨j, hj, rfl, hown, hbel, hlt0⟩ := hrel
    by_cases hlt : j < xss.length
    · obtain ⟨ad, xs, B, d, rfl, hx, hc, hi⟩ := (h.below hbel).at_ hlt
      have hxm := List.mem_of_getElem? hx.out
      have hys := o.out.row (giveN xs m ls k) (List.mem_of_getElem? (dsR_at hx.out))
      have hyb := o.out.bd (giveN xs m ls k) (List.mem_of_getElem? (dsR_at hx.out))
      have cW := cV.out xs hxm B d wr (tot_row hx.out HT.out) hi (h2.below hbel)
      rw [o.out.divF hxm, ← HN.out] at cW
      have hdr := Lib.hid (dsR_at (m := m) (ls := ls) (k := k) hx.out)
      generalize giveN xs m ls k = ys at *
      have HYS := Lib.hid hys
      have HYB := Lib.hid hyb
      have cW := Lib.hid cW
      clear hys hyb
      go_wp2_with fail
      refine cW.out.mono ?_
      rintro e w2 ⟨A3, c3, rfl, ho3, hb3⟩
      have hown2 := hown.below hb3
      have hbel2 := hbel.trans (hb3.mono hbel.size)
      have hz3 := hb3.size
      have ho3 := ho3.mono (show w.heap.size + 1 ≤ wr.heap.size by omega)
      clear hown hc hi
      go_wp2
      go_loopw [13] (fun i wr2 => ∃ t : Nat, t ≤ n ∧ i = .int .i64 t ∧ OwnI wr2 w.heap.size (some ⟨w.heap.size, 0, none⟩) n (mix n (dsR xss m ls k) j t) ∧ OwnI wr2 (w.heap.size + 1) A3 c3 ys ∧ Below w.heap.size w wr2 ∧ w.heap.size < wr2.heap.size) (fun i _ => n - (intOf i).toNat)
      case atStart => exact ⟨0, by omega, rfl, by rw [mix_start]; exact hown2, ho3, hbel2, by omega⟩
      case round =>
        clear hown2 ho3 hbel2
        obtain ⟨t, ht, rfl, hown2, ho3, hbel2, hlt3⟩ := hrel
        by_cases htn : t < n
        · have hlt2 : t < ys.length := by have := HYS.out; have := HNW.out; omega
          obtain ⟨g3, rfl, hg3, hg3l⟩ := ho3.form (by omega)
          obtain ⟨y, hy⟩ : ∃ y, ys[t]? = some y := ⟨_, List.getElem?_eq_getElem hlt2⟩
          obtain ⟨hb0, hb1⟩ := HYB.out y (mem_of_at hy)
          have hcb := col_bd 20 ((dsR xss m ls k).take j) (fun zs hz => o.out.bd zs (List.mem_of_mem_take hz)) (by omega) t
          have hlk : ((dsR xss m ls k).take j).length ≤ j := List.length_take_le _ _
          have hcy := ho3.cell hy
          have hco := hown2.cell (mix_at n (dsR xss m ls k) j htn)
          have hfo := hown2.frozen t
          have hy := Lib.hid hy
          have q1 : IntKind.i64.wrap (col ((dsR xss m ls k).take j) t + y) = col ((dsR xss m ls k).take j) t + y := IntWalk.i64_in _ (by omega)
          go_wp2
          refine wp_still_tail 12 (by kernel_rfl) (by kernel_rfl) ?_
          simp only [List.take_succ_cons, List.take_zero, List.drop_succ_cons, List.drop_zero]
          repeat still_step
          refine wpStill_nil ?_
          clear q1
          go_wp2
          go_roundw
          case rel => exact ⟨t + 1, by omega, by go_num, (hown2.set t _).congr (mix_set hdr.out hy.out), (ho3.drewN 1).grown (grown_setCell1 _ _ t _) (fun q hq e => by injection hq with hq; injection e with e; have e : g3 = q := e; omega), hbel2.drew.setCell (Nat.le_refl _) _, by simpa using hlt3⟩
          case measure => simp [intOf]; omega
        · obtain rfl : t = n := by omega
          clear htn
          go_wp2
          go_roundw
          case rel =>
            first
              | exact ⟨j + 1, by omega, by go_num, hown2.congr (by rw [mix_end]), hbel2, hlt3⟩
              | (repeat apply Exists.intro); exact ⟨⟨j + 1, by omega, by go_num, hown2.congr (by rw [mix_end]), hbel2, hlt3⟩, rfl⟩
          case measure => simp [intOf]; omega
    · obtain rfl : j = xss.length := by omega
      clear hlt
      go_wp2
      go_ret
      rw [List.take_of_length_le (by rw [HDL.out]; exact Nat.le_refl _)] at hown
      exact newI_of hlen hown hbel
set_option maxHeartbeats 1600000 in
theorem specDG_any (A A2 : Option Addr) (xss : List (List Int)) (ls : List Int) (c c2 : Nat) (s m : Int) (w : World) (h : RowsI w A xss) (h2 : Ints w A2 ls) (hl : tot xss ≤ 1048576) (hl3 : ls.length ≤ 1048576) (hcap : ls.length ≤ c2) :
    Calls Try.prog 17 #[.slice A xss.length c, .int .i64 s, .int .i64 m, .slice A2 ls.length c2] w (Bl w (.int .i64 (dgF xss s m ls))) := by
  have cK := Lib.hid (l24Ok_any A A2 xss ls c c2 s m w h h2 hl hl3 hcap)
  obtain ⟨r, hr⟩ : ∃ r, dsC xss s m ls = r := ⟨_, rfl⟩
  rw [hr] at cK
  cases r
  · have hq := Lib.hid (dgF_f hr)
    clear hr
    go_enter Try.func17, Try.ntmps17
    go_wp2_with (go_at_call 50; refine cK.out.mono ?_; rintro e w1 ⟨rfl, hb1⟩)
    go_ret
    exact ⟨ret_int hq.out.symm, hb1⟩
  obtain ⟨k, rfl, hk20, o⟩ := dsOk_of hr
  have hq := Lib.hid (dgF_t hr)
  have OK := Lib.hid o
  have G := Lib.hid o.gap
  obtain ⟨hx1, hx4⟩ := o.dv.l1
  obtain ⟨hw1, hw5⟩ := o.dv.wd
  have cT := Lib.hid (fun (w : World) (h : RowsI w A xss) => l24Votes_any A xss c (wid xss) w h (by omega) (by omega) (by omega) o.dv.len o.dv.bd)
  have cA := Lib.hid (fun (w : World) (h : RowsI w A xss) (h2 : Ints w A2 ls) => l24Sum_any A A2 xss ls c c2 k m w h h2 hl hl3 hcap OK)
  have htl := tog_len (wid xss) xss
  have hwhole := o.whole
  have cW := Lib.hid (fun (B : Option Addr) (d : Nat) (w : World) (h : Ints w B (tog (wid xss) xss)) (h2 : Ints w A2 ls) => specDivisor_any B A2 (tog (wid xss) xss) ls d c2 ((k : Int) * xss.length) m w h h2 (by rw [htl]; omega) hl3 hcap)
  rw [hwhole, htl] at cW
  obtain ⟨p0, p1⟩ := mul_bd (a := (k : Int)) (b := (xss.length : Int)) (M := 20) (N := 4) ⟨by omega, by omega⟩ ⟨by omega, by omega⟩
  have hla := G.out.la
  have hlb := G.out.lb
  generalize has : tog (wid xss) (dsR xss m ls k) = us at *
  generalize hbs : giveN (tog (wid xss) xss) m ls (k * xss.length) = bs at *
  generalize tog (wid xss) xss = ts at *
  have HLA := Lib.hid hla
  have HLB := Lib.hid hlb
  clear hr o has hbs hwhole hla hlb
  have hkx : (k : Int) * (xss.length : Int) ≤ 80 := by omega
  go_enter Try.func17, Try.ntmps17
  go_wp2_with (go_at_call 50; refine cK.out.mono ?_; rintro e w1 ⟨rfl, hb1⟩)
  refine (cA.out _ (h.below hb1) (h2.below hb1)).mono ?_
  rintro e w2 ⟨A6, c6, rfl, ho6, hb2⟩
  have hB2 := hb1.trans (hb2.mono hb1.size)
  go_wp2_with fail
  refine (cT.out _ (h.below hB2)).mono ?_
  rintro e w3 ⟨A4, c4, rfl, ho4, hb3⟩
  have hB3 := hB2.trans (hb3.mono hB2.size)
  have ho6 := ho6.below hb3
  go_wp2_with fail
  refine (cW.out _ _ _ ho4.ints (h2.below hB3)).mono ?_
  rintro e w4 ⟨A5, c5, rfl, ho5, hb4⟩
  have hB4 := hB3.trans (hb4.mono hB3.size)
  have ho6 := ho6.below hb4
  have i5 := ho5.ints
  have i6 := ho6.ints
  clear ho4 ho5 ho6 hb1 hb2 hb3 hb4
  have hal : us.length ≤ 5 := by have := HLA.out; omega
  go_wp2
  go_loopw [12, 13] (fun g i wr => ∃ j n : Nat, j ≤ us.length ∧ i = .int .i64 j ∧ g = .int .i64 (moreL (us.take j) (bs.take j)) ∧ wr = w4.drewN n) (fun _ i _ => us.length - (intOf i).toNat)
  case atStart => exact ⟨0, 0, by omega, rfl, rfl, rfl⟩
  case round =>
    obtain ⟨j, n, hj, rfl, rfl, rfl⟩ := hrel
    by_cases hlt : j < us.length
    · have hlt2 : j < bs.length := by have := HLA.out; have := HLB.out; omega
      obtain ⟨ad, a, rfl, ha, hca⟩ := i6.at_ hlt
      obtain ⟨ad2, b, rfl, hb, hcb⟩ := i5.at_ hlt2
      obtain ⟨a0, a1⟩ := G.out.ba a (mem_of_at ha.out)
      obtain ⟨b0, b1⟩ := G.out.bb b (mem_of_at hb.out)
      obtain ⟨m0, m1⟩ := moreL_bd (us := us.take j) (bs := bs.take j) (fun x hx => by have := G.out.ba x (mem_take hx); omega) (fun x hx => (G.out.bb x (mem_take hx)).1)
      have hlk : (us.take j).length ≤ j := List.length_take_le _ _
      have HS := Lib.hid (moreL_snoc ha.out hb.out)
      have u1 : IntKind.i64.wrap (a - b) = a - b := IntWalk.i64_in _ (by omega)
      go_wp2
      go_quiet (fail)
      clear u1
      go_wp2
      go_roundw
      case rel => exact ⟨j + 1, _, by omega, by go_num, by rw [HS.out]; first | rfl | exact val_int (by split <;> omega) | exact val_int (by omega), rfl⟩
      case measure => simp [intOf]; omega
    · obtain rfl : j = us.length := by omega
      clear hlt
      have hbl : bs.length ≤ us.length := by have := HLA.out; have := HLB.out; omega
      go_wp2
      go_ret
      exact ⟨ret_int (by rw [hq.out]; first | rw [List.take_of_length_le (Nat.le_refl us.length), List.take_of_length_le hbl] | rw [List.take_of_length_le hbl]), below_drewN hB4 _⟩
end Go.Proofs.Ytoblhmbpobbecaa
