/-
  The reference's weights behind a seat.
-/
import Derived.Test.YtiinfbjlkbjmmaaQTraB
namespace Go.Proofs.Ytiinfbjlkbjmmaa
open Go.RowKit
/-- A variable that holds a fraction. -/
def BoxF (w : World) (k x y : Nat) : Prop := OwnF w k (some ⟨k, 0, none⟩) 1 1 [(x, y)]
set_option maxRecDepth 100000 in
theorem boxF_new (w : World) (x y : Nat) : BoxF (w.alloc (.cells #[.int .i64 x, .int .i64 y] 75)) w.heap.size x y :=
  ⟨rfl, rfl, .inr ⟨w.heap.size, 1, _, rfl, Nat.le_refl _, heap_alloc_new w _, by omega, by simp [maxLen], rfl, rfl⟩⟩
section
variable {w w' : World} {k x y : Nat}
set_option maxRecDepth 100000 in
theorem BoxF.c0 (h : BoxF w k x y) : w.cell? ⟨k, 0, none⟩ = some (.int .i64 x) := (OwnF.cell h (k := 0) rfl).1
set_option maxRecDepth 100000 in
theorem BoxF.c1 (h : BoxF w k x y) : w.cell? ⟨k, 1, none⟩ = some (.int .i64 y) := (OwnF.cell h (k := 0) rfl).2
set_option maxRecDepth 100000 in
theorem BoxF.f0 (h : BoxF w k x y) : w.frozen? ⟨k, 0, none⟩ = false := OwnF.frozen h 0
set_option maxRecDepth 100000 in
theorem BoxF.f1 (h : BoxF w k x y) : w.frozen? ⟨k, 1, none⟩ = false := OwnF.frozen h 1
set_option maxRecDepth 100000 in
theorem BoxF.below (h : BoxF w k x y) (hb : Below w.heap.size w w') : BoxF w' k x y := OwnF.below h hb
set_option maxRecDepth 100000 in
theorem BoxF.drewN (h : BoxF w k x y) (n : Nat) : BoxF (w.drewN n) k x y := OwnF.drewN h n
set_option maxRecDepth 100000 in
theorem BoxF.drew (h : BoxF w k x y) : BoxF w.drew k x y := OwnF.drew h
set_option maxRecDepth 100000 in
theorem BoxF.alloc (h : BoxF w k x y) (o : Obj) : BoxF (w.alloc o) k x y := OwnF.alloc h o
set_option maxRecDepth 100000 in
theorem BoxF.set (h : BoxF w k x y) (u v : Nat) : BoxF ((w.setCell ⟨k, 0, none⟩ (.int .i64 u)).setCell ⟨k, 1, none⟩ (.int .i64 v)) k u v := OwnF.set h 0 (u, v)
set_option maxRecDepth 100000 in
theorem BoxF.grown {g : Option Nat} (h : BoxF w k x y) (hg : w.grownBy w' g) (hn : g ≠ some k) : BoxF w' k x y := OwnF.grown h hg (fun j hj e => by
  have e : k = j := by injection e
  subst e
  exact hn hj)
set_option maxRecDepth 100000 in
theorem BoxF.lt (h : BoxF w k x y) : k < w.heap.size := (OwnF.block h k rfl).2
end
set_option maxRecDepth 100000 in
theorem weigh_snoc {left : List Bool} {who : Int} {x : Fr} {q : Nat} {pws : List (Pl × Fr)} {k : Nat} {p : Pl × Fr} (h : pws[k]? = some p) : (pws.take (k + 1)).map (weighP left who x q) = (pws.take k).map (weighP left who x q) ++ [weighP left who x q p] := by
  rw [take_snoc _ _ _ h, List.map_append]; rfl
set_option maxRecDepth 100000 in
theorem weighP_t {left : List Bool} {who : Int} {x : Fr} {q : Nat} {p : Pl} {w : Fr} (h : firstL left p.bal = who) : weighP left who x q (p, w) = redP (w.1 * (x.1 - q * x.2)) (w.2 * x.1) := if_pos h
set_option maxRecDepth 100000 in
theorem weighP_f {left : List Bool} {who : Int} {x : Fr} {q : Nat} {p : Pl} {w : Fr} (h : ¬ firstL left p.bal = who) : weighP left who x q (p, w) = w := if_neg h
set_option maxRecDepth 100000 in
theorem own_empty1F (w : World) (o : Obj) {base : Nat} (hb : base ≤ w.heap.size + 1) : OwnF ((w.alloc o).alloc (.cells #[] 75)) base (some ⟨w.heap.size + 1, 0, none⟩) 0 0 [] := by
  have := OwnF.empty (w.alloc o) (base := base) (by simpa using hb)
  simpa using this
set_option maxRecDepth 100000 in
set_option maxHeartbeats 3200000 in
theorem l15Weigh_any (A A1 A2 : Option Addr) (ps : List (ByteArray × Int)) (ws : List Fr) (left : List Bool) (B c c1 c2 x y q : Nat) (who : Int) (w : World) (h : PilesI w A ps) (h1 : Fracs w A1 ws) (h2 : Bools w A2 left) (ho : Hid (CntOk ps ws left.length B)) (hx : x ≤ 3600) (hx1 : 1 ≤ x) (hy : y ≤ 60) (hq : q ≤ 61) (hqx : q * y ≤ x) :
    Calls Try.prog 90 #[.slice A ps.length c, .slice A1 ps.length c1, .slice A2 left.length c2, .int .i64 who, .agg #[.int .i64 x, .int .i64 y], .int .i64 q] w (NewF w (weighT left who (x, y) q (pl ps) ws)) := by
  have hl := ho.out.fit.len
  have hl5 := ho.out.fit.n5
  obtain ⟨u, hu, huM, eu⟩ := nat_mul q y (A := 61) (B := 60) (M := 6000) hq hy (by omega)
  obtain ⟨v, hv, hvM, ev⟩ : ∃ v : Nat, (x : Int) - (u : Int) = (v : Int) ∧ v ≤ 3600 ∧ Hid (v = x - q * y) := ⟨x - q * y, by rw [eu.out]; omega, by omega, rfl⟩
  have bx := boxF_new w x y
  have hz0 : (w.alloc (.cells #[.int .i64 x, .int .i64 y] 75)).heap.size = w.heap.size + 1 := by simp
  have HB0 := Lib.hid ((Below.refl w.heap.size w).alloc (Nat.le_refl _) (.cells #[.int .i64 x, .int .i64 y] 75))
  have k0 := bx.c0
  have k1 := bx.c1
  clear hqx
  go_enter Try.func90, Try.ntmps90
  go_wp2
  go_loopw [13, 15, 16, 17, 18] (fun o i _ _ _ wr => ∃ (k : Nat) (C : Option Addr) (d : Nat), k ≤ ps.length ∧ i = .int .i64 k ∧ o = .slice C k d ∧ OwnF wr (w.heap.size + 1) C k d ((((pl ps).zip ws).take k).map (weighP left who (x, y) q)) ∧ BoxF wr w.heap.size x y ∧ Below w.heap.size w wr) (fun _ i _ _ _ _ => ps.length - (intOf i).toNat)
  case atStart => exact ⟨0, _, _, by omega, rfl, rfl, own_empty1F w _ (Nat.le_refl _), bx.alloc _, HB0.out.alloc (by rw [hz0]; omega) _⟩
  case round =>
    clear bx k0 k1 hz0 HB0
    obtain ⟨k, C, d, hk, rfl, rfl, hown, bx, hbel⟩ := hrel
    have hsz := hbel.size
    have hxl := bx.lt
    by_cases hlt : k < ps.length
    · obtain ⟨ad, s, m, e0, hp, hs, hc0, hc1⟩ := (h.below hbel).at_ hlt
      subst e0
      obtain ⟨hbp, hbv⟩ := ho.out.fit.bvs (pmem_at hp.out)
      have hrg := ho.out.fit.rng _ (pmem_at hp.out)
      have HR := Lib.hid (show ∀ x ∈ balP s, 0 ≤ x ∧ x < left.length from by rw [hbp]; exact hrg)
      have hff : firstL left (balP s) = firstL left (bal s) := by rw [hbp]
      clear hbp hbv hrg
      go_wp2_with fail
      refine (specParse_p s _ hs).mono ?_
      rintro e w2 ⟨C2, dd, rfl, hob, hb2⟩
      have hB2 := below_down hbel hb2
      have hown2 := hown.below hb2
      have bx2 := bx.below hb2
      have hbl := balP_len s
      obtain ⟨ad1, a, b, e1, hw1, hca, hcb⟩ := (h1.below hB2).at_ (k := k) (by have := ho.out.len; omega)
      subst e1
      have HN := Lib.hid (weigh_snoc (left := left) (who := who) (x := (x, y)) (q := q) (plzip_at hp.out hw1.out))
      have hwr := ho.out.wts _ (List.mem_of_getElem? hw1.out)
      obtain ⟨ha1, hb1, hb60⟩ := hwr.bd1 ho.out.b1 ho.out.b60
      have HCB := Lib.hid (fun j e => (hown2.block j e).2)
      have HCL := Lib.hid (fun j e => (hown2.block j e).1)
      have hb3 := (Below.refl w2.heap.size w2).alloc (Nat.le_refl _) (.cells #[.int .i64 a, .int .i64 b] 75)
      have b3 := boxF_new w2 a b
      have hob3 := hob.ints.below hb3
      clear hb2 hob hown hbel hc0 hc1 hsz hwr bx
      go_wp2_with fail
      generalize w2.alloc (.cells #[.int .i64 a, .int .i64 b] 75) = w3 at *
      have hB3 := below_down hB2 hb3
      have hown3 := hown2.below hb3
      have bx3 := bx2.below hb3
      have hne : w2.heap.size ≠ w.heap.size := by have := bx2.lt; omega
      have hgt : w.heap.size + 1 ≤ w2.heap.size := by have := bx2.lt; omega
      have hlt2 := b3.lt
      have cF := Lib.hid (l1First_any C2 A2 (balP s) left dd c2 w3 hob3 (h2.below hB3) (by omega) (by omega) HR)
      rw [hff] at cF
      have hz3 := hB3.size
      clear hb3 hB2 hown2 bx2 hob3 hca hcb
      generalize w2.heap.size = bk at *
      have k0 := b3.c0
      have k1 := b3.c1
      by_cases hfw : firstL left (bal s) = who
      · have hq := Lib.hid (HN.out.trans (by rw [weighP_t hfw]))
        have hfb : (firstL left (bal s) == who) = true := by simp [hfw]
        obtain ⟨t, ht, htM, et⟩ := nat_mul a v (A := 60) (B := 3600) (M := 1000000) ha1 hvM (by omega)
        obtain ⟨z, hz, hzM, ez⟩ := nat_mul b x (A := 60) (B := 3600) (M := 1000000) hb60 hx (by omega)
        have hz1 : 1 ≤ z := by rw [ez.out]; exact Nat.mul_pos hb1 hx1
        have cO := Lib.hid (fun w => l5Of_any t z w (by omega) (by omega) hz1)
        have HRD := Lib.hid (show redP (a * (x - q * y)) (b * x) = (t / Nat.gcd t z, z / Nat.gcd t z) by unfold redP; rw [et.out, ez.out, ev.out])
        generalize t / Nat.gcd t z = r1 at *
        generalize z / Nat.gcd t z = r2 at *
        have k2 := bx3.c0
        have k3 := bx3.c1
        clear hfw hff
        go_wp2_with (first | (go_at_call 114; refine cF.out.mono ?_; rintro e w' ⟨rfl, rfl⟩))
        refine (cO.out _).mono ?_
        rintro e w4 ⟨rfl, hb4⟩
        have hB4 := below_down hB3 hb4
        have hown4 := hown3.below hb4
        have bx4 := bx3.below hb4
        have b4 := b3.below hb4
        clear k0 k1 k2 k3
        have k0 := b4.c0
        have k1 := b4.c1
        have f0 := b4.f0
        have f1 := b4.f1
        have hg5 := grown_setCell (grown_setCell (grown_refl w4 (some bk)) 0 (.int .i64 (r1 : Int))) 1 (.int .i64 (r2 : Int))
        have b5 := b4.set r1 r2
        have hB5 := (hB4.setCell (show w.heap.size ≤ (⟨bk, 0, none⟩ : Addr).block from by show w.heap.size ≤ bk; omega) (.int .i64 (r1 : Int))).setCell (show w.heap.size ≤ (⟨bk, 1, none⟩ : Addr).block from by show w.heap.size ≤ bk; omega) (.int .i64 (r2 : Int))
        have hown5 := hown4.grown hg5 (fun k hk e => by
          injection hk with hk
          have := HCB.out k e
          omega)
        have bx5 := bx4.grown hg5 (by intro e; injection e with e; exact hne e)
        go_upto_region 10 with fail
        clear k0 k1 f0 f1 hg5 hB4 hown4 bx4 b4 hown3 bx3 b3 hB3
        generalize (w4.setCell ⟨bk, 0, none⟩ (.int .i64 (r1 : Int))).setCell ⟨bk, 1, none⟩ (.int .i64 (r2 : Int)) = w5 at *
        have k0 := b5.c0
        have k1 := b5.c1
        have hz5 := hB5.size
        go_wp2_with (at_builtin; refine wpList_appF1 _ rfl (.tmp 61) (.tmp 63) rfl (w.heap.size + 1) C k d _ rfl hown5 (by have := bx5.lt; omega) (by omega) (r1, r2) r1 r2 rfl rfl rfl ?_; intro A' c' w' hown' hgr' hbl')
        go_roundw
        case rel => exact ⟨k + 1, _, _, by omega, by go_num, rfl, hown'.congr (by rw [hq.out, HRD.out]), bx5.grown hgr' (fun e => by have := HCL.out _ e; omega), hB5.trans (hbl'.mono (by omega))⟩
        case measure => simp [intOf]; omega
      · have hq := Lib.hid (HN.out.trans (by rw [weighP_f hfw]))
        have hfb : (firstL left (bal s) == who) = false := by simp [hfw]
        clear hfw hff
        go_wp2_with (first | (go_at_call 114; refine cF.out.mono ?_; rintro e w' ⟨rfl, rfl⟩) | (at_builtin; refine wpList_appF1 _ rfl (.tmp 61) (.tmp 63) rfl (w.heap.size + 1) C k d _ rfl hown3 (by omega) (by omega) (a, b) a b rfl rfl rfl ?_; intro A' c' w' hown' hgr' hbl'))
        go_roundw
        case rel => exact ⟨k + 1, _, _, by omega, by go_num, rfl, hown'.congr hq.out.symm, bx3.grown hgr' (fun e => by have := HCL.out _ e; omega), hB3.trans (hbl'.mono (by omega))⟩
        case measure => simp [intOf]; omega
    · obtain rfl : k = ps.length := by omega
      clear hlt
      have e : ((pl ps).zip ws).take ps.length = (pl ps).zip ws := by
        apply List.take_of_length_le
        simp [pl, ho.out.len]
      rw [e] at hown
      go_wp2
      go_ret
      exact newF_of (hown.mono (by omega)) hbel
end Go.Proofs.Ytiinfbjlkbjmmaa
