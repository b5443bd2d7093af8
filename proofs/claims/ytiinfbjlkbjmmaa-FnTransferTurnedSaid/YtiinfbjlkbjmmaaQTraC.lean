/-
  The reference's counts of a transfer, and who is first or last.
-/
import Derived.Test.YtiinfbjlkbjmmaaQHeld
import Derived.Test.YtiinfbjlkbjmmaaQPilesF
namespace Go.Proofs.Ytiinfbjlkbjmmaa
open Go.RowKit
set_option maxRecDepth 100000 in
theorem cntStep_hit {left : List Bool} {out : List Fr} {p : Pl} {wt x : Fr} {f : Nat} (h : firstL left p.bal = (f : Int)) (hx : out[f]? = some x) : cntStep left out (p, wt) = out.set f (addP x (mulP wt p.many.toNat)) := by
  unfold cntStep
  rw [h, if_pos (by show (0 : Int) ≤ (f : Int); omega), Int.toNat_natCast, List.getD_eq_getElem?_getD, hx]; rfl
set_option maxRecDepth 100000 in
theorem cntStep_miss {left : List Bool} {out : List Fr} {p : Pl} {wt : Fr} (h : firstL left p.bal = -1) : cntStep left out (p, wt) = out := by
  unfold cntStep
  rw [h, if_neg (by show ¬ (0 : Int) ≤ -1; omega)]
set_option maxRecDepth 100000 in
theorem replicate_snoc {α : Type} (k : Nat) (a : α) : List.replicate k a ++ [a] = List.replicate (k + 1) a := (List.replicate_succ' ..).symm
set_option maxRecDepth 100000 in
theorem plzip_at {ps : List (ByteArray × Int)} {ws : List Fr} {k : Nat} {s : ByteArray} {m : Int} {wt : Fr} (h : ps[k]? = some (s, m)) (h' : ws[k]? = some wt) : ((pl ps).zip ws)[k]? = some (⟨bal s, m⟩, wt) := by
  rw [List.getElem?_zip_eq_some]
  refine ⟨?_, h'⟩
  unfold pl
  rw [List.getElem?_map, h]; rfl
/-- What the counts' loop asks of weights. -/
structure CntOk (ps : List (ByteArray × Int)) (ws : List Fr) (n B : Nat) : Prop where
  fit : FitOk ps n
  len : ws.length = ps.length
  b1 : 1 ≤ B
  b60 : B ≤ 60
  wts : ∀ w ∈ ws, FrB B 1 w
  tot : totM ps ≤ 60
set_option maxRecDepth 100000 in
theorem manyT_zip {ps : List (ByteArray × Int)} {ws : List Fr} (hl : ws.length = ps.length) (hm : ∀ p ∈ ps, 1 ≤ p.2 ∧ p.2 ≤ 99) : (manyT ((pl ps).zip ws) : Int) = totM ps := by
  induction ps generalizing ws with
  | nil => rfl
  | cons p t ih =>
    cases ws with
    | nil => simp at hl
    | cons w ws =>
      have h1 := ih (ws := ws) (by simpa using hl) (fun q hq => hm q (by simp [hq]))
      have h2 := hm p (by simp)
      simp only [manyT, pl, totM, List.map_cons, List.zip_cons_cons, List.sum_cons] at h1 ⊢
      omega
set_option maxRecDepth 100000 in
theorem CntOk.mem {ps : List (ByteArray × Int)} {ws : List Fr} {n B : Nat} (h : CntOk ps ws n B) : ∀ p ∈ (pl ps).zip ws, FrB B 1 p.2 := fun _ hp => h.wts _ (zip_mem2 hp).2
set_option maxRecDepth 100000 in
theorem CntOk.cnt {ps : List (ByteArray × Int)} {ws : List Fr} {n B : Nat} (h : CntOk ps ws n B) (left : List Bool) (k : Nat) : ∀ f ∈ cntT left (((pl ps).zip ws).take k), FrB B 60 f := by
  intro f hf
  have h1 := manyT_zip h.len h.fit.many
  have h2 := h.tot
  have h3 := manyT_le ((pl ps).zip ws) k
  exact (cntT_frB h.b1 (fun p hp => h.mem p (List.mem_of_mem_take hp)) f hf).mono (by omega)
set_option maxRecDepth 100000 in
theorem CntOk.all {ps : List (ByteArray × Int)} {ws : List Fr} {n B : Nat} (h : CntOk ps ws n B) (left : List Bool) : ∀ f ∈ cntT left ((pl ps).zip ws), FrB B 60 f := by
  have := h.cnt left ((pl ps).zip ws).length
  rwa [List.take_length] at this
set_option maxRecDepth 100000 in
theorem FrB.bds {B : Nat} {f : Fr} (h : FrB B 60 f) (h1 : 1 ≤ B) (h2 : B ≤ 60) : f.1 ≤ 3600 ∧ 1 ≤ f.2 ∧ f.2 ≤ 60 := by
  have h3 := h.num h1
  have h4 := h.den h1
  have := h.pos
  omega
set_option maxRecDepth 100000 in
theorem FrB.bd1 {B : Nat} {f : Fr} (h : FrB B 1 f) (h1 : 1 ≤ B) (h2 : B ≤ 60) : f.1 ≤ 60 ∧ 1 ≤ f.2 ∧ f.2 ≤ 60 := by
  have h3 := h.num h1
  have h4 := h.den h1
  have := h.pos
  omega
set_option maxRecDepth 100000 in
set_option maxHeartbeats 3200000 in
theorem l15Counts_any (A A1 A2 : Option Addr) (ps : List (ByteArray × Int)) (ws : List Fr) (left : List Bool) (B c c1 c2 : Nat) (w : World) (h : PilesI w A ps) (h1 : Fracs w A1 ws) (h2 : Bools w A2 left) (ho : Hid (CntOk ps ws left.length B)) :
    Calls Try.prog 87 #[.slice A ps.length c, .slice A1 ps.length c1, .slice A2 left.length c2] w (NewF w (cntT left ((pl ps).zip ws))) := by
  have hl := ho.out.fit.len
  have hl5 := ho.out.fit.n5
  have hl1 := ho.out.fit.n1
  go_enter Try.func87, Try.ntmps87
  go_wp2
  go_loopw [7, 8] (fun o i wr => ∃ (k : Nat) (C : Option Addr) (d : Nat), k ≤ left.length ∧ i = .int .i64 k ∧ o = .slice C k d ∧ OwnF wr w.heap.size C k d (List.replicate k (0, 1)) ∧ Below w.heap.size w wr) (fun _ i _ => left.length - (intOf i).toNat)
  case atStart => exact ⟨0, _, _, by omega, rfl, rfl, OwnF.empty w (Nat.le_refl _), (Below.refl _ _).alloc (Nat.le_refl _) _⟩
  case round =>
    obtain ⟨k, C, d, hk, rfl, rfl, hown, hbel⟩ := hrel
    have hsz := hbel.size
    by_cases hlt : k < left.length
    · go_wp2_with (at_builtin; refine wpList_appF1 _ rfl (.tmp 20) (.tmp 22) rfl w.heap.size C k d _ rfl hown hsz (by omega) (0, 1) 0 1 rfl rfl rfl ?_; intro A' c' w' hown' hgr' hbl')
      go_roundw
      case rel => exact ⟨k + 1, _, _, by omega, by go_num, rfl, hown'.congr (replicate_snoc _ _), hbel.trans hbl'⟩
      case measure => simp [intOf]; omega
    · obtain rfl : k = left.length := by omega
      clear hlt
      obtain ⟨g, rfl, hg0, hg1⟩ := hown.form (by omega)
      go_wp2
      go_loopw [9, 10, 11, 12] (fun i _ _ _ ws' => ∃ k : Nat, k ≤ ps.length ∧ i = .int .i64 k ∧ OwnF ws' w.heap.size (some ⟨g, 0, none⟩) left.length d (cntT left (((pl ps).zip ws).take k)) ∧ Below w.heap.size w ws') (fun i _ _ _ _ => ps.length - (intOf i).toNat)
      case atStart => exact ⟨0, by omega, rfl, hown, hbel⟩
      case round =>
        clear hown hbel hg1
        obtain ⟨k, hk, rfl, hown, hbel⟩ := hrel
        have hsz := hbel.size
        by_cases hlt : k < ps.length
        · obtain ⟨ad, s, m, e0, hp, hs, hc0, hc1⟩ := (h.below hbel).at_ hlt
          subst e0
          obtain ⟨hbp, hbv⟩ := ho.out.fit.bvs (pmem_at hp.out)
          have hrg := ho.out.fit.rng _ (pmem_at hp.out)
          have hcase := firstL_cases (left := left) (b := bal s) hrg
          have HR := Lib.hid (show ∀ x ∈ balP s, 0 ≤ x ∧ x < left.length from by rw [hbp]; exact hrg)
          have hff : firstL left (balP s) = firstL left (bal s) := by rw [hbp]
          obtain ⟨hm0, hm1⟩ : 1 ≤ m ∧ m ≤ 99 := ho.out.fit.many _ (pmem_at hp.out)
          clear hbp hbv hrg
          go_wp2_with fail
          refine (specParse_p s _ hs).mono ?_
          rintro e w2 ⟨C, dd, rfl, hob, hb2⟩
          have hB2 := below_down hbel hb2
          have hown2 := hown.below hb2
          have hbl := balP_len s
          have cF := Lib.hid (l1First_any C A2 (balP s) left dd c2 w2 hob.ints (h2.below hB2) (by omega) (by omega) HR)
          rw [hff] at cF
          clear hb2 hob hown hff hbel hc0 HR hc1
          obtain ⟨ad', s', m', e1, hp', hs', hc0, hc1⟩ := (h.below hB2).at_ hlt
          obtain rfl : ad = ad' := by injection e1
          obtain ⟨rfl, rfl⟩ : s = s' ∧ m = m' := by
            have := hp.out.symm.trans hp'.out
            injection this with this
            injection this with h1 h2
            exact ⟨h1, h2⟩
          clear e1 hp' hs' hc0
          obtain ⟨ad1, x, y, e1, hw1, hcx, hcy⟩ := (h1.below hB2).at_ (k := k) (by have := ho.out.len; omega)
          subst e1
          have HN := Lib.hid (cntT_snoc (left := left) (plzip_at hp.out hw1.out))
          rcases hcase with hm | ⟨f, hm, hfl⟩
          · rw [hm] at cF
            have hq := Lib.hid (HN.out.trans (cntStep_miss hm))
            clear hm
            go_wp2_with (go_at_call 114; refine cF.out.mono ?_; rintro e w' ⟨rfl, rfl⟩)
            go_roundw
            case rel => exact ⟨k + 1, by omega, by go_num, hown2.congr hq.out.symm, hB2⟩
            case measure => simp [intOf]; omega
          · rw [hm] at cF
            obtain ⟨⟨p, q⟩, hx⟩ : ∃ z, (cntT left (((pl ps).zip ws).take k))[f]? = some z := ⟨_, List.getElem?_eq_getElem (by rw [cntT_len]; exact hfl)⟩
            have hq := Lib.hid (HN.out.trans (cntStep_hit hm hx))
            have hfr := ho.out.cnt left k _ (List.mem_of_getElem? hx)
            have hwr := ho.out.wts _ (List.mem_of_getElem? hw1.out)
            have hsum := FrB.mul ho.out.b1 hwr m.toNat
            obtain ⟨hp1, hq1, hq2⟩ := hfr.bds ho.out.b1 ho.out.b60
            obtain ⟨hx1, hy1, hy2⟩ := hwr.bd1 ho.out.b1 ho.out.b60
            have hpart := hsum.num ho.out.b1
            have hpart2 := hsum.den ho.out.b1
            have hpart3 := hsum.pos
            obtain ⟨mm, rfl⟩ := Int.eq_ofNat_of_zero_le (show 0 ≤ m by omega)
            rw [Int.toNat_natCast] at hsum hpart hpart2 hpart3
            have hpB := Nat.mul_le_mul (show mm ≤ 99 by omega) ho.out.b60
            obtain ⟨u, hu, huM, eu⟩ := nat_mul x mm (A := 60) (B := 99) (M := 6000) hx1 (by omega) (by omega)
            have cO := Lib.hid (fun w => l5Of_any u y w (by omega) (by omega) (by omega))
            obtain ⟨⟨r1, r2⟩, hr⟩ : ∃ r, r = mulP (x, y) mm := ⟨_, rfl⟩
            have HMP := Lib.hid (show (u / Nat.gcd u y, y / Nat.gcd u y) = (r1, r2) from by rw [hr]; unfold mulP redP; rw [eu.out])
            have e1 : u / Nat.gcd u y = r1 := congrArg Prod.fst HMP.out
            have e2 : y / Nat.gcd u y = r2 := congrArg Prod.snd HMP.out
            rw [e1, e2] at cO
            rw [Int.toNat_natCast, ← hr] at hq
            rw [← hr] at hpart hpart2 hpart3
            have hb60 := ho.out.b60
            have hr1 : r1 ≤ 6000 := by have : r1 ≤ mm * B := hpart; omega
            have hr2 : r2 ≤ 60 := by have : r2 ≤ B := hpart2; omega
            have hr3 : 1 ≤ r2 := hpart3
            have cS := Lib.hid (fun w => l15Sum_any p q r1 r2 w (by omega) (by omega) (by omega) (by omega) (by omega) (by omega))
            obtain ⟨z1, z2⟩ := hown2.cell hx
            obtain ⟨⟨t1, t2⟩, ht⟩ : ∃ t, t = addP (p, q) (r1, r2) := ⟨_, rfl⟩
            rw [← ht] at cS hq
            have hwm : IntKind.i64.wrap (u : Int) = u := IntWalk.i64_in _ (by omega)
            have hf00 : (0 : Int) ≤ (f : Int) := by omega
            have hf01 : (f : Int) < (left.length : Int) := by omega
            have hk0 : (0 : Int) ≤ (k : Int) := by omega
            have hk1 : (k : Int) < (ps.length : Int) := by omega
            clear hm hx hfr hwr hsum hpart hpart2 hpart3 hpB e1 e2 hr ht HMP eu hm0 hm1 hx1
            go_wp2_with (go_at_call 114; refine cF.out.mono ?_; rintro e w' ⟨rfl, rfl⟩)
            refine wp_region_X (fun w' => w'.cell? ⟨g, f * 2, none⟩ = some (.int .i64 p) ∧ w'.cell? ⟨g, f * 2 + 1, none⟩ = some (.int .i64 q) ∧ w'.cell? (ad1.add (k * 2)) = some (.int .i64 x) ∧ w'.cell? ⟨(ad1.add (k * 2)).block, (ad1.add (k * 2)).off + 1, none⟩ = some (.int .i64 y) ∧ w'.cell? ⟨(ad.add (k * 2)).block, (ad.add (k * 2)).off + 1, none⟩ = some (.int .i64 mm) ∧ OwnF w' w.heap.size (some ⟨g, 0, none⟩) left.length d (cntT left (((pl ps).zip ws).take k)) ∧ Below w.heap.size w w') 25 (by kernel_rfl) ?_ (fun hS => ?_)
            · exact ⟨cell_drew z1, cell_drew z2, cell_drew hcx, cell_drew hcy, cell_drew hc1, hown2.drew, hB2.drew⟩
            refine wpAnyX_take (i := 0) (oi := ⟨some 44, _, _, _, _, _⟩) (v := ?_) rfl (by kernel_rfl) (by kernel_rfl) (by kernel_rfl) (by kernel_rfl) (fun _ _ _ h => h) (Or.inl ⟨by kernel_rfl, ?_⟩) hS ?_
            rotate_left
            · intro w hSw
              try dsimp only at hSw
              go_simp
              try with_reducible rfl
            try simp only [Act.put, List.setIfInBounds_toArray, List.set_cons_zero, List.set_cons_succ]
            refine wpAnyX_take (i := 1) (oi := ⟨some 45, _, _, _, _, _⟩) (v := ?_) rfl (by kernel_rfl) (by kernel_rfl) (by kernel_rfl) (by kernel_rfl) (fun _ _ _ h => h) (Or.inl ⟨by kernel_rfl, ?_⟩) hS ?_
            rotate_left
            · intro w hSw
              try dsimp only at hSw
              go_simp
              try with_reducible rfl
            try simp only [Act.put, List.setIfInBounds_toArray, List.set_cons_zero, List.set_cons_succ]
            refine wpAnyX_take (i := 2) (oi := ⟨some 46, _, _, _, _, _⟩) (v := ?_) rfl (by kernel_rfl) (by kernel_rfl) (by kernel_rfl) (by kernel_rfl) (fun _ _ _ h => h) (Or.inl ⟨by kernel_rfl, ?_⟩) hS ?_
            rotate_left
            · intro w hSw
              try dsimp only at hSw
              go_simp
              try with_reducible rfl
            try simp only [Act.put, List.setIfInBounds_toArray, List.set_cons_zero, List.set_cons_succ]
            refine wpAnyX_take (i := 3) (oi := ⟨some 47, _, _, _, _, _⟩) (v := ?_) rfl (by kernel_rfl) (by kernel_rfl) (by kernel_rfl) (by kernel_rfl) (fun _ _ _ h => h) (Or.inl ⟨by kernel_rfl, ?_⟩) hS ?_
            rotate_left
            · intro w hSw
              try dsimp only at hSw
              go_simp
              try with_reducible rfl
            try simp only [Act.put, List.setIfInBounds_toArray, List.set_cons_zero, List.set_cons_succ]
            refine wpAnyX_take (i := 4) (oi := ⟨some 48, _, _, _, _, _⟩) (v := ?_) rfl (by kernel_rfl) (by kernel_rfl) (by kernel_rfl) (by kernel_rfl) (fun _ _ _ h => h) (Or.inl ⟨by kernel_rfl, ?_⟩) hS ?_
            rotate_left
            · intro w hSw
              try dsimp only at hSw
              go_simp
              try with_reducible rfl
            try simp only [Act.put, List.setIfInBounds_toArray, List.set_cons_zero, List.set_cons_succ]
            refine wpAnyX_take (i := 5) (oi := ⟨some 49, _, _, _, _, _⟩) (v := ?_) rfl (by kernel_rfl) (by kernel_rfl) (by kernel_rfl) (by kernel_rfl) (fun _ _ _ h => h) (Or.inl ⟨by kernel_rfl, ?_⟩) hS ?_
            rotate_left
            · intro w hSw
              try dsimp only at hSw
              go_simp
              try with_reducible rfl
            try simp only [Act.put, List.setIfInBounds_toArray, List.set_cons_zero, List.set_cons_succ]
            refine wpAnyX_take (i := 6) (oi := ⟨some 50, _, _, _, _, _⟩) (v := ?_) rfl (by kernel_rfl) (by kernel_rfl) (by kernel_rfl) (by kernel_rfl) (fun _ _ _ h => h) (Or.inl ⟨by kernel_rfl, ?_⟩) hS ?_
            rotate_left
            · intro w hSw
              try dsimp only at hSw
              go_simp
              try with_reducible rfl
            try simp only [Act.put, List.setIfInBounds_toArray, List.set_cons_zero, List.set_cons_succ]
            refine wpAnyX_take (i := 7) (oi := ⟨some 51, _, _, _, _, _⟩) (v := ?_) rfl (by kernel_rfl) (by kernel_rfl) (by kernel_rfl) (by kernel_rfl) (fun _ _ _ h => h) (Or.inl ⟨by kernel_rfl, ?_⟩) hS ?_
            rotate_left
            · intro w hSw
              try dsimp only at hSw
              go_simp
              try with_reducible rfl
            try simp only [Act.put, List.setIfInBounds_toArray, List.set_cons_zero, List.set_cons_succ]
            refine wpAnyX_take (i := 8) (oi := ⟨some 52, _, _, _, _, _⟩) (v := ?_) rfl (by kernel_rfl) (by kernel_rfl) (by kernel_rfl) (by kernel_rfl) (fun _ _ _ h => h) (Or.inl ⟨by kernel_rfl, ?_⟩) hS ?_
            rotate_left
            · intro w hSw
              try dsimp only at hSw
              go_simp
              try with_reducible rfl
            try simp only [Act.put, List.setIfInBounds_toArray, List.set_cons_zero, List.set_cons_succ]
            refine wpAnyX_take (i := 9) (oi := ⟨some 53, _, _, _, _, _⟩) (v := ?_) rfl (by kernel_rfl) (by kernel_rfl) (by kernel_rfl) (by kernel_rfl) (fun _ _ _ h => h) (Or.inl ⟨by kernel_rfl, ?_⟩) hS ?_
            rotate_left
            · intro w hSw
              try dsimp only at hSw
              go_simp
              try with_reducible rfl
            try simp only [Act.put, List.setIfInBounds_toArray, List.set_cons_zero, List.set_cons_succ]
            refine wpAnyX_take (i := 10) (oi := ⟨some 54, _, _, _, _, _⟩) (v := ?_) rfl (by kernel_rfl) (by kernel_rfl) (by kernel_rfl) (by kernel_rfl) (fun _ _ _ h => h) (Or.inl ⟨by kernel_rfl, ?_⟩) hS ?_
            rotate_left
            · intro w hSw
              try dsimp only at hSw
              go_simp
              try with_reducible rfl
            try simp only [Act.put, List.setIfInBounds_toArray, List.set_cons_zero, List.set_cons_succ]
            refine wpAnyX_take (i := 11) (oi := ⟨some 55, _, _, _, _, _⟩) (v := ?_) rfl (by kernel_rfl) (by kernel_rfl) (by kernel_rfl) (by kernel_rfl) (fun _ _ _ h => h) (Or.inl ⟨by kernel_rfl, ?_⟩) hS ?_
            rotate_left
            · intro w hSw
              try dsimp only at hSw
              go_simp
              try with_reducible rfl
            try simp only [Act.put, List.setIfInBounds_toArray, List.set_cons_zero, List.set_cons_succ]
            refine wpAnyX_take (i := 12) (oi := ⟨some 56, _, _, _, _, _⟩) (v := ?_) rfl (by kernel_rfl) (by kernel_rfl) (by kernel_rfl) (by kernel_rfl) (fun _ _ _ h => h) (Or.inl ⟨by kernel_rfl, ?_⟩) hS ?_
            rotate_left
            · intro w hSw
              try dsimp only at hSw
              go_simp
              try with_reducible rfl
            try simp only [Act.put, List.setIfInBounds_toArray, List.set_cons_zero, List.set_cons_succ]
            refine wpAnyX_take (i := 13) (oi := ⟨some 57, _, _, _, _, _⟩) (v := ?_) rfl (by kernel_rfl) (by kernel_rfl) (by kernel_rfl) (by kernel_rfl) (fun _ _ _ h => h) (Or.inl ⟨by kernel_rfl, ?_⟩) hS ?_
            rotate_left
            · intro w hSw
              try dsimp only at hSw
              go_simp
              try with_reducible rfl
            try simp only [Act.put, List.setIfInBounds_toArray, List.set_cons_zero, List.set_cons_succ]
            refine wpAnyX_take (i := 14) (oi := ⟨some 58, _, _, _, _, _⟩) (v := ?_) rfl (by kernel_rfl) (by kernel_rfl) (by kernel_rfl) (by kernel_rfl) (fun _ _ _ h => h) (Or.inl ⟨by kernel_rfl, ?_⟩) hS ?_
            rotate_left
            · intro w hSw
              try dsimp only at hSw
              go_simp
              try with_reducible rfl
            try simp only [Act.put, List.setIfInBounds_toArray, List.set_cons_zero, List.set_cons_succ]
            refine wpAnyX_take (i := 15) (oi := ⟨some 59, _, _, _, _, _⟩) (v := ?_) rfl (by kernel_rfl) (by kernel_rfl) (by kernel_rfl) (by kernel_rfl) (fun _ _ _ h => h) (Or.inl ⟨by kernel_rfl, ?_⟩) hS ?_
            rotate_left
            · intro w hSw
              try dsimp only at hSw
              go_simp
              try with_reducible rfl
            try simp only [Act.put, List.setIfInBounds_toArray, List.set_cons_zero, List.set_cons_succ]
            refine wpAnyX_take (i := 16) (oi := ⟨some 60, _, _, _, _, _⟩) (v := ?_) rfl (by kernel_rfl) (by kernel_rfl) (by kernel_rfl) (by kernel_rfl) (fun _ _ _ h => h) (Or.inl ⟨by kernel_rfl, ?_⟩) hS ?_
            rotate_left
            · intro w hSw
              try dsimp only at hSw
              go_simp
              try with_reducible rfl
            try simp only [Act.put, List.setIfInBounds_toArray, List.set_cons_zero, List.set_cons_succ]
            refine wpAnyX_take (i := 17) (oi := ⟨some 61, _, _, _, _, _⟩) (v := ?_) rfl (by kernel_rfl) (by kernel_rfl) (by kernel_rfl) (by kernel_rfl) (fun _ _ _ h => h) (Or.inl ⟨by kernel_rfl, ?_⟩) hS ?_
            rotate_left
            · intro w hSw
              try dsimp only at hSw
              go_simp
              try with_reducible rfl
            try simp only [Act.put, List.setIfInBounds_toArray, List.set_cons_zero, List.set_cons_succ]
            refine wpAnyX_take (i := 18) (oi := ⟨some 62, _, _, _, _, _⟩) (v := ?_) rfl (by kernel_rfl) (by kernel_rfl) (by kernel_rfl) (by kernel_rfl) (fun _ _ _ h => h) (Or.inl ⟨by kernel_rfl, ?_⟩) hS ?_
            rotate_left
            · intro w hSw
              try dsimp only at hSw
              go_simp
              try with_reducible rfl
            try simp only [Act.put, List.setIfInBounds_toArray, List.set_cons_zero, List.set_cons_succ]
            refine wpAnyX_take (i := 19) (oi := ⟨some 63, _, _, _, _, _⟩) (v := ?_) rfl (by kernel_rfl) (by kernel_rfl) (by kernel_rfl) (by kernel_rfl) (fun _ _ _ h => h) (Or.inl ⟨by kernel_rfl, ?_⟩) hS ?_
            rotate_left
            · intro w hSw
              try dsimp only at hSw
              go_simp
              try with_reducible rfl
            try simp only [Act.put, List.setIfInBounds_toArray, List.set_cons_zero, List.set_cons_succ]
            refine wpAnyX_take (i := 20) (oi := ⟨some 64, _, _, _, _, _⟩) (v := ?_) rfl (by kernel_rfl) (by kernel_rfl) (by kernel_rfl) (by kernel_rfl) (fun _ _ _ h => h) (Or.inl ⟨by kernel_rfl, ?_⟩) hS ?_
            rotate_left
            · intro w hSw
              try dsimp only at hSw
              go_simp
              try with_reducible rfl
            try simp only [Act.put, List.setIfInBounds_toArray, List.set_cons_zero, List.set_cons_succ]
            refine wpAnyX_take (i := 21) (oi := ⟨some 65, _, _, _, _, _⟩) (v := ?_) rfl (by kernel_rfl) (by kernel_rfl) (by kernel_rfl) (by kernel_rfl) (fun _ _ _ h => h) (Or.inl ⟨by kernel_rfl, ?_⟩) hS ?_
            rotate_left
            · intro w hSw
              try dsimp only at hSw
              go_simp
              try with_reducible rfl
            try simp only [Act.put, List.setIfInBounds_toArray, List.set_cons_zero, List.set_cons_succ]
            refine wpAnyX_ready (rs := [22]) (by kernel_rfl) (by simp) ?_
            refine AllReadyX.cons (o := ⟨some 66, _, _, _, _, _⟩) rfl (fun K hK => ?_) AllReadyX.nil
            go_simp
            (go_at_call 98; refine (cO.out _).mono ?_; rintro e w3 ⟨rfl, hb3⟩)
            have hS0 := hS
            clear hS
            refine hK.out _ _ (fun _ => ⟨cell_below hb3 hS0.1, cell_below hb3 hS0.2.1, cell_below hb3 hS0.2.2.1, cell_below hb3 hS0.2.2.2.1, cell_below hb3 hS0.2.2.2.2.1, hS0.2.2.2.2.2.1.below hb3, below_down hS0.2.2.2.2.2.2 hb3⟩) (fun hS => ?_)
            replace hS := hS (by kernel_rfl)
            clear hK K hS0
            try simp only [Act.put, List.setIfInBounds_toArray, List.set_cons_zero, List.set_cons_succ]
            refine wpAnyX_ready (rs := [23]) (by kernel_rfl) (by simp) ?_
            refine AllReadyX.cons (o := ⟨some 67, _, _, _, _, _⟩) rfl (fun K hK => ?_) AllReadyX.nil
            go_simp
            (go_at_call 115; refine (cS.out _).mono ?_; rintro e w4 ⟨rfl, hb4⟩)
            have hS0 := hS
            clear hS
            refine hK.out _ _ (fun _ => ⟨cell_below hb4 hS0.1, cell_below hb4 hS0.2.1, cell_below hb4 hS0.2.2.1, cell_below hb4 hS0.2.2.2.1, cell_below hb4 hS0.2.2.2.2.1, hS0.2.2.2.2.2.1.below hb4, below_down hS0.2.2.2.2.2.2 hb4⟩) (fun hS => ?_)
            replace hS := hS (by kernel_rfl)
            clear hK K hS0
            try simp only [Act.put, List.setIfInBounds_toArray, List.set_cons_zero, List.set_cons_succ]
            refine wpAnyX_take (i := 24) (oi := ⟨some 68, _, _, _, _, _⟩) (v := ?_) rfl (by kernel_rfl) (by kernel_rfl) (by kernel_rfl) (by kernel_rfl) (fun _ _ _ h => h) (Or.inl ⟨by kernel_rfl, ?_⟩) hS ?_
            rotate_left
            · intro w hSw
              try dsimp only at hSw
              go_simp
              try with_reducible rfl
            try simp only [Act.put, List.setIfInBounds_toArray, List.set_cons_zero, List.set_cons_succ]
            refine wpAnyX_ready (rs := [25]) (by kernel_rfl) (by simp) ?_
            refine AllReadyX.cons (o := ⟨none, _, _, _, _, _⟩) rfl (fun K hK => ?_) AllReadyX.nil
            (have hOw := hS.2.2.2.2.2.1; have hf0 := hOw.frozen (f * 2); have hf1 := hOw.frozen (f * 2 + 1); have y1 := hS.1; have y2 := hS.2.1; have hBw := hS.2.2.2.2.2.2)
            go_simp
            refine hK.out _ _ (fun h => absurd (h.symm.trans (by kernel_rfl : _ = true)) (by decide)) (fun _ => ?_)
            clear hK K
            try simp only [Act.put, List.setIfInBounds_toArray, List.set_cons_zero, List.set_cons_succ]
            refine wpAnyX_done (by kernel_rfl) ?_ _
            go_wp2
            go_roundw
            case rel => exact ⟨k + 1, by omega, by go_num, (hOw.set f (t1, t2)).congr hq.out.symm, (hBw.setCell hg0 _).setCell hg0 _⟩
            case measure => simp [intOf]; omega
        · obtain rfl : k = ps.length := by omega
          clear hlt
          have e : ((pl ps).zip ws).take ps.length = (pl ps).zip ws := by
            apply List.take_of_length_le
            simp [pl, ho.out.len]
          rw [e] at hown
          go_wp2
          go_ret
          exact newF_of hown hbel
end Go.Proofs.Ytiinfbjlkbjmmaa
