/-
  The program's weights behind a seat.
-/
import Derived.Test.YtiinfbjlkbjmmaaQTraI
namespace Go.Proofs.Ytiinfbjlkbjmmaa
open Go.RowKit
/-- The first k are new ones. -/
def mixF (W ws : List Fr) (k : Nat) : List Fr := W.take k ++ ws.drop k
set_option maxRecDepth 100000 in
theorem mixF_len {W ws : List Fr} (h : W.length = ws.length) {k : Nat} (hk : k ≤ ws.length) : (mixF W ws k).length = ws.length := by simp [mixF]; omega
set_option maxRecDepth 100000 in
theorem mixF_at {W ws : List Fr} (h : W.length = ws.length) {k : Nat} {x : Fr} (hx : ws[k]? = some x) : (mixF W ws k)[k]? = some x := by
  have hk := (List.getElem?_eq_some_iff.1 hx).1
  unfold mixF
  rw [List.getElem?_append_right (by simp; omega), List.length_take, Nat.min_eq_left (by omega), Nat.sub_self, List.getElem?_drop, Nat.add_zero]
  exact hx
set_option maxRecDepth 100000 in
theorem drop_atF {xs : List Fr} {k : Nat} {x : Fr} (h : xs[k]? = some x) : xs.drop k = x :: xs.drop (k + 1) := by
  obtain ⟨hk, rfl⟩ := List.getElem?_eq_some_iff.1 h
  exact List.drop_eq_getElem_cons hk
set_option maxRecDepth 100000 in
theorem mixF_set {W ws : List Fr} (h : W.length = ws.length) {k : Nat} {z : Fr} (hz : W[k]? = some z) : (mixF W ws k).set k z = mixF W ws (k + 1) := by
  have hk := (List.getElem?_eq_some_iff.1 hz).1
  unfold mixF
  rw [List.set_append_right _ _ (by simp; omega), List.length_take, Nat.min_eq_left (by omega), Nat.sub_self, take_snoc _ _ _ hz, List.append_assoc]
  congr 1
  rw [drop_atF (show ws[k]? = some (ws[k]'(by omega)) from List.getElem?_eq_getElem _)]
  rfl
set_option maxRecDepth 100000 in
theorem mixF_skip {W ws : List Fr} (h : W.length = ws.length) {k : Nat} {z : Fr} (hz : W[k]? = some z) (hw : ws[k]? = some z) : mixF W ws (k + 1) = mixF W ws k := by
  rw [← mixF_set h hz]
  have := mixF_at h hw
  obtain ⟨h1, h2⟩ := List.getElem?_eq_some_iff.1 this
  rw [← h2]
  exact List.set_getElem_self h1
set_option maxRecDepth 100000 in
theorem mixF_all {W ws : List Fr} (h : W.length = ws.length) : mixF W ws ws.length = W := by
  unfold mixF
  rw [List.drop_length, List.append_nil, ← h, List.take_length]
set_option maxRecDepth 100000 in
theorem weighT_at {left : List Bool} {who : Int} {x : Fr} {q : Nat} {ps : List Pl} {ws : List Fr} {k : Nat} {p : Pl} {w : Fr} (h : (ps.zip ws)[k]? = some (p, w)) : (weighT left who x q ps ws)[k]? = some (weighP left who x q (p, w)) := by
  unfold weighT
  rw [List.getElem?_map, h]; rfl
set_option maxRecDepth 100000 in
theorem red_le (v x : Nat) : (redP v x).1 ≤ v ∧ (redP v x).2 ≤ x := ⟨Nat.div_le_self _ _, Nat.div_le_self _ _⟩
set_option maxRecDepth 100000 in
theorem red_fv {v x : Nat} (hv : v ≤ 9999999) (hx : x ≤ 9999999) (h1 : 1 ≤ x) : fvN (redP v x).1 (redP v x).2 = true := by
  obtain ⟨a, b⟩ := red_le v x
  exact fvN_iff.2 ⟨by omega, redP_pos h1, by omega, redP_cop h1⟩
set_option maxRecDepth 100000 in
theorem fracOf_ok {v x : Nat} (hv : v ≤ 9999999) (hx : x ≤ 9999999) (h1 : 1 ≤ x) : fracOfF v x = (redP v x, true) := by
  unfold fracOfF
  rw [if_pos ⟨hv, h1, hx⟩]
  exact redF_ok (red_fv hv hx h1)
set_option maxRecDepth 100000 in
theorem red_two {a b v x : Nat} (hb : 1 ≤ b) (hx : 1 ≤ x) : redP (a * (redP v x).1) (b * (redP v x).2) = redP (a * v) (b * x) := by
  have hm := redP_mul (x := v) hx
  have hp := redP_pos (x := v) hx
  generalize redP v x = r at *
  refine redP_eq (Nat.mul_pos hb hp) (Nat.mul_pos hb hx) ?_
  rw [Nat.mul_mul_mul_comm, hm, Nat.mul_mul_mul_comm a v b r.2]
set_option maxRecDepth 100000 in
theorem keptP {w0 w w' : World} {A : Option Addr} {ps : List (ByteArray × Int)} {row : Option Nat} (h : PilesI w0 A ps) (hB : Below w0.heap.size w0 w) (hg : w.grownBy w' row) (hr : ∀ k, row = some k → w0.heap.size ≤ k) : Below w0.heap.size w0 w' ∧ PilesI w' A ps := by
  have := hB.trans (below_of_grown hg hB.size hr)
  exact ⟨this, h.below this⟩
set_option maxRecDepth 100000 in
theorem grown_drewR {a w : World} {row : Option Nat} (h : a.grownBy w row) : a.grownBy w.drew row := ⟨h.os, h.tape, h.output, h.size, h.block⟩
set_option maxRecDepth 100000 in
theorem grown_below {a w w' : World} {row : Option Nat} (h : a.grownBy w row) (hb : Below w.heap.size w w') : a.grownBy w' row := grown_trans h (grown_of_below hb row)
set_option maxRecDepth 100000 in
set_option maxHeartbeats 12800000 in
theorem reweigh_any (tb : Nat) (Aw : Option Addr) (cw gl : Nat) (A A2 : Option Addr) (ps : List (ByteArray × Int)) (n c d2 B x y q : Nat) (who : Int) (ws : List Fr) (left : List Bool) (there seats : Int) (w0 w : World) (h : PilesI w0 A ps) (hB : Below w0.heap.size w0 w) (hT : Tr w w0.heap.size tb Aw cw gl A ps.length c A2 n d2 ws left there seats q) (ho : Hid (CntOk ps ws left.length B)) (hx : x ≤ 3600) (hx1 : 1 ≤ x) (hy : y ≤ 60) (hq : q ≤ 61) (hqx : q * y ≤ x) :
    Calls Try.prog 83 #[.pointer (some ⟨tb, 0, none⟩), .int .i64 who, .agg #[.int .i64 x, .int .i64 y]] w (fun e w' => e = .returned (.tuple #[]) ∧ Tr w' w0.heap.size tb Aw cw gl A ps.length c A2 n d2 (weighT left who (x, y) q (pl ps) ws) left there seats q ∧ w.grownBy w' (Value.slice Aw ps.length cw).ownBlock) := by
  have hl := ho.out.fit.len
  have hl5 := ho.out.fit.n5
  have hln := hT.lft.1
  have HLN := Lib.hid hln
  clear hln
  obtain ⟨u, hu, huM, eu⟩ := nat_mul q y (A := 61) (B := 60) (M := 6000) hq hy (by omega)
  obtain ⟨v, hv, hvM, ev⟩ : ∃ v : Nat, (x : Int) - (u : Int) = (v : Int) ∧ v ≤ 3600 ∧ Hid (v = x - q * y) := ⟨x - q * y, by rw [eu.out]; omega, by omega, rfl⟩
  have cO := Lib.hid (fun w => fracOf_any v x w)
  rw [fracOf_ok (by omega) (by omega) hx1] at cO
  obtain ⟨hr1, hr2⟩ := red_le v x
  have hrf := red_fv (v := v) (x := x) (by omega) (by omega) hx1
  have HR2 := Lib.hid (fun a b (hb : 1 ≤ b) => red_two (a := a) (b := b) (v := v) hb hx1)
  obtain ⟨⟨r1, r2⟩, hr⟩ : ∃ r, r = redP v x := ⟨_, rfl⟩
  rw [← hr] at cO hr1 hr2 hrf HR2
  have hr1 : r1 ≤ 3600 := by have : r1 ≤ v := hr1; omega
  have hr2 : r2 ≤ 3600 := by have : r2 ≤ x := hr2; omega
  have HW := Lib.hid (show (weighT left who (x, y) q (pl ps) ws).length = ps.length from by rw [weighT_len (by simp [pl, ho.out.len])]; simp [pl])
  have HWK := Lib.hid (fun k s m wt (hp : ps[k]? = some (s, m)) (hw : ws[k]? = some wt) => weighT_at (left := left) (who := who) (x := (x, y)) (q := q) (plzip_at hp hw))
  generalize hWe : weighT left who (x, y) q (pl ps) ws = W at *
  have HMA := Lib.hid (mixF_all (W := W) (ws := ws) (by rw [HW.out, ho.out.len]))
  have HM0 := Lib.hid (show mixF W ws 0 = ws by simp [mixF])
  rw [ho.out.len] at HMA
  have HRW := Lib.hid (fun k e => (hT.wts.block k e).1)
  have HRL := Lib.hid (fun k e => (hT.wts.block k e).2)
  have hwf : (fun k => True) tb := trivial
  have hbx := (Below.refl w.heap.size w).alloc (Nat.le_refl _) (.cells #[.int .i64 x, .int .i64 y] 75)
  have bx := boxF_new w x y
  have hTx := hT.below hbx
  have hBx := below_down hB hbx
  have hgx := grown_below (grown_refl w (Value.slice Aw ps.length cw).ownBlock) hbx
  clear hr hWe hqx hT hB hwf
  go_enter Try.func83, Try.ntmps83
  go_upto_region 1 with fail
  have HNX := Lib.hid (show ∀ k, (Value.slice Aw ps.length cw).ownBlock = some k → k < w.heap.size from HRL.out)
  generalize w.alloc (.cells #[.int .i64 x, .int .i64 y] 75) = wx at *
  have hzx := hBx.size
  have k0 := bx.c0
  have k1 := bx.c1
  have t6 := hTx.c6
  generalize w.heap.size = bk at *
  clear hbx
  go_cut [6] (fun p6 wq => ∃ b6 : Nat, p6 = .pointer (some ⟨b6, 0, none⟩) ∧ BoxF wq b6 r1 r2 ∧ (∀ g, Aw = some ⟨g, 0, none⟩ → b6 ≠ g) ∧ Below wx.heap.size wx wq)
  case first =>
    have hwu : IntKind.i64.wrap (u : Int) = u := IntWalk.i64_in _ (by omega)
    have hwv : IntKind.i64.wrap (v : Int) = v := IntWalk.i64_in _ (by omega)
    refine wp_region_X (fun w' => Below wx.heap.size wx w') 1000 (by kernel_rfl) ?_ (fun hS => ?_)
    · exact (Below.refl _ _).drew
    refine wpAnyX_take (i := 0) (oi := ⟨some 11, _, _, _, _, _⟩) (v := ?_) rfl (by kernel_rfl) (by kernel_rfl) (by kernel_rfl) (by kernel_rfl) (fun _ _ _ h => h) (Or.inl ⟨by kernel_rfl, ?_⟩) hS ?_
    rotate_left
    · intro w hSw
      have d0 := cell_below hSw k0; have d1 := cell_below hSw k1; have d2 := cell_below hSw t6
      try dsimp only at hSw
      go_simp
      try with_reducible rfl
    try simp only [Act.put, List.setIfInBounds_toArray, List.set_cons_zero, List.set_cons_succ]
    refine wpAnyX_take (i := 1) (oi := ⟨some 12, _, _, _, _, _⟩) (v := ?_) rfl (by kernel_rfl) (by kernel_rfl) (by kernel_rfl) (by kernel_rfl) (fun _ _ _ h => h) (Or.inl ⟨by kernel_rfl, ?_⟩) hS ?_
    rotate_left
    · intro w hSw
      have d0 := cell_below hSw k0; have d1 := cell_below hSw k1; have d2 := cell_below hSw t6
      try dsimp only at hSw
      go_simp
      try with_reducible rfl
    try simp only [Act.put, List.setIfInBounds_toArray, List.set_cons_zero, List.set_cons_succ]
    refine wpAnyX_take (i := 2) (oi := ⟨some 13, _, _, _, _, _⟩) (v := ?_) rfl (by kernel_rfl) (by kernel_rfl) (by kernel_rfl) (by kernel_rfl) (fun _ _ _ h => h) (Or.inl ⟨by kernel_rfl, ?_⟩) hS ?_
    rotate_left
    · intro w hSw
      have d0 := cell_below hSw k0; have d1 := cell_below hSw k1; have d2 := cell_below hSw t6
      try dsimp only at hSw
      go_simp
      try with_reducible rfl
    try simp only [Act.put, List.setIfInBounds_toArray, List.set_cons_zero, List.set_cons_succ]
    refine wpAnyX_take (i := 3) (oi := ⟨some 14, _, _, _, _, _⟩) (v := ?_) rfl (by kernel_rfl) (by kernel_rfl) (by kernel_rfl) (by kernel_rfl) (fun _ _ _ h => h) (Or.inl ⟨by kernel_rfl, ?_⟩) hS ?_
    rotate_left
    · intro w hSw
      have d0 := cell_below hSw k0; have d1 := cell_below hSw k1; have d2 := cell_below hSw t6
      try dsimp only at hSw
      go_simp
      try with_reducible rfl
    try simp only [Act.put, List.setIfInBounds_toArray, List.set_cons_zero, List.set_cons_succ]
    refine wpAnyX_take (i := 4) (oi := ⟨some 15, _, _, _, _, _⟩) (v := ?_) rfl (by kernel_rfl) (by kernel_rfl) (by kernel_rfl) (by kernel_rfl) (fun _ _ _ h => h) (Or.inl ⟨by kernel_rfl, ?_⟩) hS ?_
    rotate_left
    · intro w hSw
      have d0 := cell_below hSw k0; have d1 := cell_below hSw k1; have d2 := cell_below hSw t6
      try dsimp only at hSw
      go_simp
      try with_reducible rfl
    try simp only [Act.put, List.setIfInBounds_toArray, List.set_cons_zero, List.set_cons_succ]
    refine wpAnyX_take (i := 5) (oi := ⟨some 16, _, _, _, _, _⟩) (v := ?_) rfl (by kernel_rfl) (by kernel_rfl) (by kernel_rfl) (by kernel_rfl) (fun _ _ _ h => h) (Or.inl ⟨by kernel_rfl, ?_⟩) hS ?_
    rotate_left
    · intro w hSw
      have d0 := cell_below hSw k0; have d1 := cell_below hSw k1; have d2 := cell_below hSw t6
      try dsimp only at hSw
      go_simp
      try with_reducible rfl
    try simp only [Act.put, List.setIfInBounds_toArray, List.set_cons_zero, List.set_cons_succ]
    refine wpAnyX_take (i := 6) (oi := ⟨some 17, _, _, _, _, _⟩) (v := ?_) rfl (by kernel_rfl) (by kernel_rfl) (by kernel_rfl) (by kernel_rfl) (fun _ _ _ h => h) (Or.inl ⟨by kernel_rfl, ?_⟩) hS ?_
    rotate_left
    · intro w hSw
      have d0 := cell_below hSw k0; have d1 := cell_below hSw k1; have d2 := cell_below hSw t6
      try dsimp only at hSw
      go_simp
      try with_reducible rfl
    try simp only [Act.put, List.setIfInBounds_toArray, List.set_cons_zero, List.set_cons_succ]
    refine wpAnyX_take (i := 7) (oi := ⟨some 18, _, _, _, _, _⟩) (v := ?_) rfl (by kernel_rfl) (by kernel_rfl) (by kernel_rfl) (by kernel_rfl) (fun _ _ _ h => h) (Or.inl ⟨by kernel_rfl, ?_⟩) hS ?_
    rotate_left
    · intro w hSw
      have d0 := cell_below hSw k0; have d1 := cell_below hSw k1; have d2 := cell_below hSw t6
      try dsimp only at hSw
      go_simp
      try with_reducible rfl
    try simp only [Act.put, List.setIfInBounds_toArray, List.set_cons_zero, List.set_cons_succ]
    refine wpAnyX_take (i := 8) (oi := ⟨some 19, _, _, _, _, _⟩) (v := ?_) rfl (by kernel_rfl) (by kernel_rfl) (by kernel_rfl) (by kernel_rfl) (fun _ _ _ h => h) (Or.inl ⟨by kernel_rfl, ?_⟩) hS ?_
    rotate_left
    · intro w hSw
      have d0 := cell_below hSw k0; have d1 := cell_below hSw k1; have d2 := cell_below hSw t6
      try dsimp only at hSw
      go_simp
      try with_reducible rfl
    try simp only [Act.put, List.setIfInBounds_toArray, List.set_cons_zero, List.set_cons_succ]
    refine wpAnyX_take (i := 9) (oi := ⟨some 20, _, _, _, _, _⟩) (v := ?_) rfl (by kernel_rfl) (by kernel_rfl) (by kernel_rfl) (by kernel_rfl) (fun _ _ _ h => h) (Or.inl ⟨by kernel_rfl, ?_⟩) hS ?_
    rotate_left
    · intro w hSw
      have d0 := cell_below hSw k0; have d1 := cell_below hSw k1; have d2 := cell_below hSw t6
      try dsimp only at hSw
      go_simp
      try with_reducible rfl
    try simp only [Act.put, List.setIfInBounds_toArray, List.set_cons_zero, List.set_cons_succ]
    refine wpAnyX_take (i := 10) (oi := ⟨some 21, _, _, _, _, _⟩) (v := ?_) rfl (by kernel_rfl) (by kernel_rfl) (by kernel_rfl) (by kernel_rfl) (fun _ _ _ h => h) (Or.inl ⟨by kernel_rfl, ?_⟩) hS ?_
    rotate_left
    · intro w hSw
      have d0 := cell_below hSw k0; have d1 := cell_below hSw k1; have d2 := cell_below hSw t6
      try dsimp only at hSw
      go_simp
      try with_reducible rfl
    try simp only [Act.put, List.setIfInBounds_toArray, List.set_cons_zero, List.set_cons_succ]
    refine wpAnyX_take (i := 11) (oi := ⟨some 22, _, _, _, _, _⟩) (v := ?_) rfl (by kernel_rfl) (by kernel_rfl) (by kernel_rfl) (by kernel_rfl) (fun _ _ _ h => h) (Or.inl ⟨by kernel_rfl, ?_⟩) hS ?_
    rotate_left
    · intro w hSw
      have d0 := cell_below hSw k0; have d1 := cell_below hSw k1; have d2 := cell_below hSw t6
      try dsimp only at hSw
      go_simp
      try with_reducible rfl
    try simp only [Act.put, List.setIfInBounds_toArray, List.set_cons_zero, List.set_cons_succ]
    refine wpAnyX_ready (rs := [12, 16]) (by kernel_rfl) (by simp) ?_
    refine AllReadyX.cons (o := ⟨some 23, _, _, _, _, _⟩) rfl (fun K hK => ?_) (AllReadyX.cons (o := ⟨some 6, _, _, _, _, _⟩) rfl (fun K hK => ?_) AllReadyX.nil)
    · go_simp
      go_at_call 112
      refine (cO.out _).mono ?_
      rintro e w7 ⟨rfl, hb7⟩
      have hS0 := hS
      clear hS
      refine hK.out _ _ (fun _ => below_down hS0 hb7) (fun hS => ?_)
      replace hS := hS (by kernel_rfl)
      clear hK K hS0
      try simp only [Act.put, List.setIfInBounds_toArray, List.set_cons_zero, List.set_cons_succ]
      refine wpAnyX_take (i := 13) (oi := ⟨some 10, _, _, _, _, _⟩) (v := ?_) rfl (by kernel_rfl) (by kernel_rfl) (by kernel_rfl) (by kernel_rfl) (fun _ _ _ h => h) (Or.inl ⟨by kernel_rfl, ?_⟩) hS ?_
      rotate_left
      · intro w hSw
        try dsimp only at hSw
        go_simp
        try with_reducible rfl
      try simp only [Act.put, List.setIfInBounds_toArray, List.set_cons_zero, List.set_cons_succ]
      refine wpAnyX_take (i := 14) (oi := ⟨some 24, _, _, _, _, _⟩) (v := ?_) rfl (by kernel_rfl) (by kernel_rfl) (by kernel_rfl) (by kernel_rfl) (fun _ _ _ h => h) (Or.inl ⟨by kernel_rfl, ?_⟩) hS ?_
      rotate_left
      · intro w hSw
        try dsimp only at hSw
        go_simp
        try with_reducible rfl
      try simp only [Act.put, List.setIfInBounds_toArray, List.set_cons_zero, List.set_cons_succ]
      refine wpAnyX_take (i := 15) (oi := ⟨some 25, _, _, _, _, _⟩) (v := ?_) rfl (by kernel_rfl) (by kernel_rfl) (by kernel_rfl) (by kernel_rfl) (fun _ _ _ h => h) (Or.inl ⟨by kernel_rfl, ?_⟩) hS ?_
      rotate_left
      · intro w hSw
        try dsimp only at hSw
        go_simp
        try with_reducible rfl
      try simp only [Act.put, List.setIfInBounds_toArray, List.set_cons_zero, List.set_cons_succ]
      refine wpAnyX_ready (rs := [16]) (by kernel_rfl) (by simp) ?_
      refine AllReadyX.cons (o := ⟨some 6, _, _, _, _, _⟩) rfl (fun K hK => ?_) AllReadyX.nil
      have hbZ := (Below.refl w7.heap.size w7).alloc (Nat.le_refl _) (.cells #[.int .i64 0, .int .i64 0] 75)
      have bD := boxF_new w7 0 0
      go_simp
      have hS0 := hS
      clear hS
      refine hK.out _ _ (fun _ => below_down hS0 hbZ) (fun hS => ?_)
      replace hS := hS (by kernel_rfl)
      clear hK K hS0
      try simp only [Act.put, List.setIfInBounds_toArray, List.set_cons_zero, List.set_cons_succ]
      have hgt : wx.heap.size ≤ w7.heap.size := hb7.size
      replace bD : BoxF (w7.alloc (.cells #[.int .i64 0, .int .i64 0] 75)) w7.heap.size 0 0 := bD
      generalize w7.alloc (.cells #[.int .i64 0, .int .i64 0] 75) = w9 at *
      generalize w7.heap.size = b6 at *
      clear hb7 hbZ
      refine wpAnyX_ready (rs := [17]) (by kernel_rfl) (by simp) ?_
      refine AllReadyX.cons (o := ⟨none, _, _, _, _, _⟩) rfl (fun K hK => ?_) AllReadyX.nil
      have f0 := bD.f0
      have f1 := bD.f1
      have x0 := bD.c0
      have x1 := bD.c1
      go_simp
      have hS0 := hS
      clear hS
      refine hK.out _ _ (fun _ => (hS0.setCell hgt _).setCell hgt _) (fun hS => ?_)
      replace hS := hS (by kernel_rfl)
      clear hK K hS0
      try simp only [Act.put, List.setIfInBounds_toArray, List.set_cons_zero, List.set_cons_succ]
      replace bD := bD.set r1 r2
      clear f0 f1 x0 x1
      refine wpAnyX_take (i := 18) (oi := ⟨some 7, _, _, _, _, _⟩) (v := ?_) rfl (by kernel_rfl) (by kernel_rfl) (by kernel_rfl) (by kernel_rfl) (fun _ _ _ h => h) (Or.inl ⟨by kernel_rfl, ?_⟩) hS ?_
      rotate_left
      · intro w hSw
        try dsimp only at hSw
        go_simp
        try with_reducible rfl
      try simp only [Act.put, List.setIfInBounds_toArray, List.set_cons_zero, List.set_cons_succ]
      refine wpAnyX_done (by kernel_rfl) ?_ _
      go_wp2
      go_meet
      exact ⟨b6, rfl, bD, fun g hg => by have h1 := HNX.out g (by rw [hg]; rfl); have h2 := bx.lt; omega, hS⟩
    · have hbZ : Below wx.heap.size wx (wx.alloc (.cells #[.int .i64 0, .int .i64 0] 75)).drew := ((Below.refl _ _).alloc (Nat.le_refl _) _).drew
      have bD := (boxF_new wx 0 0).drew
      go_simp
      have hS0 := hS
      clear hS
      refine hK.out _ _ (fun _ => hbZ) (fun hS => ?_)
      replace hS := hS (by kernel_rfl)
      clear hK K hS0
      try simp only [Act.put, List.setIfInBounds_toArray, List.set_cons_zero, List.set_cons_succ]
      have hgt : wx.heap.size ≤ wx.heap.size := Nat.le_refl _
      replace bD : BoxF (wx.alloc (.cells #[.int .i64 0, .int .i64 0] 75)).drew wx.heap.size 0 0 := bD
      generalize (wx.alloc (.cells #[.int .i64 0, .int .i64 0] 75)).drew = w7 at *
      clear hbZ
      refine wpAnyX_ready (rs := [12]) (by kernel_rfl) (by simp) ?_
      refine AllReadyX.cons (o := ⟨some 23, _, _, _, _, _⟩) rfl (fun K hK => ?_) AllReadyX.nil
      go_simp
      go_at_call 112
      refine (cO.out _).mono ?_
      rintro e w9 ⟨rfl, hb7⟩
      have hS0 := hS
      clear hS
      refine hK.out _ _ (fun _ => below_down hS0 hb7) (fun hS => ?_)
      replace hS := hS (by kernel_rfl)
      clear hK K hS0
      try simp only [Act.put, List.setIfInBounds_toArray, List.set_cons_zero, List.set_cons_succ]
      replace bD := bD.below hb7
      clear hb7
      refine wpAnyX_take (i := 13) (oi := ⟨some 10, _, _, _, _, _⟩) (v := ?_) rfl (by kernel_rfl) (by kernel_rfl) (by kernel_rfl) (by kernel_rfl) (fun _ _ _ h => h) (Or.inl ⟨by kernel_rfl, ?_⟩) hS ?_
      rotate_left
      · intro w hSw
        try dsimp only at hSw
        go_simp
        try with_reducible rfl
      try simp only [Act.put, List.setIfInBounds_toArray, List.set_cons_zero, List.set_cons_succ]
      refine wpAnyX_take (i := 14) (oi := ⟨some 24, _, _, _, _, _⟩) (v := ?_) rfl (by kernel_rfl) (by kernel_rfl) (by kernel_rfl) (by kernel_rfl) (fun _ _ _ h => h) (Or.inl ⟨by kernel_rfl, ?_⟩) hS ?_
      rotate_left
      · intro w hSw
        try dsimp only at hSw
        go_simp
        try with_reducible rfl
      try simp only [Act.put, List.setIfInBounds_toArray, List.set_cons_zero, List.set_cons_succ]
      refine wpAnyX_take (i := 15) (oi := ⟨some 25, _, _, _, _, _⟩) (v := ?_) rfl (by kernel_rfl) (by kernel_rfl) (by kernel_rfl) (by kernel_rfl) (fun _ _ _ h => h) (Or.inl ⟨by kernel_rfl, ?_⟩) hS ?_
      rotate_left
      · intro w hSw
        try dsimp only at hSw
        go_simp
        try with_reducible rfl
      try simp only [Act.put, List.setIfInBounds_toArray, List.set_cons_zero, List.set_cons_succ]
      refine wpAnyX_ready (rs := [17]) (by kernel_rfl) (by simp) ?_
      refine AllReadyX.cons (o := ⟨none, _, _, _, _, _⟩) rfl (fun K hK => ?_) AllReadyX.nil
      have f0 := bD.f0
      have f1 := bD.f1
      have x0 := bD.c0
      have x1 := bD.c1
      go_simp
      have hS0 := hS
      clear hS
      refine hK.out _ _ (fun _ => (hS0.setCell hgt _).setCell hgt _) (fun hS => ?_)
      replace hS := hS (by kernel_rfl)
      clear hK K hS0
      try simp only [Act.put, List.setIfInBounds_toArray, List.set_cons_zero, List.set_cons_succ]
      replace bD := bD.set r1 r2
      clear f0 f1 x0 x1
      refine wpAnyX_take (i := 18) (oi := ⟨some 7, _, _, _, _, _⟩) (v := ?_) rfl (by kernel_rfl) (by kernel_rfl) (by kernel_rfl) (by kernel_rfl) (fun _ _ _ h => h) (Or.inl ⟨by kernel_rfl, ?_⟩) hS ?_
      rotate_left
      · intro w hSw
        try dsimp only at hSw
        go_simp
        try with_reducible rfl
      try simp only [Act.put, List.setIfInBounds_toArray, List.set_cons_zero, List.set_cons_succ]
      refine wpAnyX_done (by kernel_rfl) ?_ _
      go_wp2
      go_meet
      exact ⟨wx.heap.size, rfl, bD, fun g hg => by have h1 := HNX.out g (by rw [hg]; rfl); have h2 := bx.lt; omega, hS⟩
  case rest =>
    obtain ⟨b6, rfl, bD, hnb, hS⟩ := hcut
    have hTD := hTx.below hS
    have hBD := below_down hBx hS
    have hgD := grown_below hgx hS
    clear hTx hBx hgx k0 k1 t6 bx hS
    have t0 := hTD.c0
    go_wp2
    go_loopw [8, 9, 31] (fun _ _ i wr => ∃ k : Nat, k ≤ ps.length ∧ i = .int .i64 k ∧ Tr wr w0.heap.size tb Aw cw gl A ps.length c A2 n d2 (mixF W ws k) left there seats q ∧ BoxF wr b6 r1 r2 ∧ w.grownBy wr (Value.slice Aw ps.length cw).ownBlock ∧ Below w0.heap.size w0 wr) (fun _ _ i _ => ps.length - (intOf i).toNat)
    case atStart => exact ⟨0, by omega, rfl, by rw [HM0.out]; exact hTD, bD, hgD, hBD⟩
    case round =>
      clear hTD hBD hgD bD t0
      obtain ⟨k, hk, rfl, hT, bD, hgr, hbel⟩ := hrel
      have hsz := hbel.size
      by_cases hlt : k < ps.length
      · obtain ⟨ad, s, m, e0, hp, hs, hc0, hc1⟩ := (h.below hbel).at_ hlt
        subst e0
        obtain ⟨hbp, hbv⟩ := ho.out.fit.bvs (pmem_at hp.out)
        have hff : firstF left (balP s) = firstL left (bal s) := by rw [hbp]; unfold firstF; rw [if_pos hbv]
        have hbl := balP_len s
        clear hbp hbv
        have hbA := (Below.refl wr.heap.size wr).alloc (Nat.le_refl _) (.cells #[.string s, .int .i64 m] 70)
        have oP := pile_ob (w := wr) (s := s) (m := m)
        have hBA := below_down hbel hbA
        have hTA := hT.below hbA
        have hgA := grown_below hgr hbA
        have bDA := bD.below hbA
        go_wp2
        generalize wr.alloc (.cells #[.string s, .int .i64 m] 70) = wx at *
        generalize wr.heap.size = bp at *
        clear hbA hbel hc0 hc1 hT hgr bD
        have p0 := oP.cell 0 rfl
        have p1 := oP.cell 1 rfl
        have t3 := hTA.c3
        have hLA := hTA.lft.bools
        obtain ⟨wt, hwt⟩ : ∃ z, ws[k]? = some z := ⟨_, List.getElem?_eq_getElem (by have := ho.out.len; omega)⟩
        have hWK := HWK.out k s m wt hp.out hwt
        have HWT := Lib.hid hwt
        have hwr := ho.out.wts _ (List.mem_of_getElem? hwt)
        have hmx := mixF_at (W := W) (by rw [HW.out, ho.out.len]) hwt
        clear hwt
        by_cases hfw : firstL left (bal s) = who
        · have hfb : (firstL left (bal s) == who) = true := by simp [hfw]
          rw [weighP_t hfw] at hWK
          clear hfw
          refine wp_region_X (fun w' => Below wx.heap.size wx w') 1000 (by kernel_rfl) ?_ (fun hS => ?_)
          · exact (Below.refl _ _).drew
          refine wpAnyX_take (i := 0) (oi := ⟨some 36, _, _, _, _, _⟩) (v := ?_) rfl (by kernel_rfl) (by kernel_rfl) (by kernel_rfl) (by kernel_rfl) (fun _ _ _ h => h) (Or.inl ⟨by kernel_rfl, ?_⟩) hS ?_
          rotate_left
          · intro w hSw
            have d0 := cell_below hSw p0; have d1 := cell_below hSw p1; have d3 := cell_below hSw t3
            try dsimp only at hSw
            go_simp
            try with_reducible rfl
          try simp only [Act.put, List.setIfInBounds_toArray, List.set_cons_zero, List.set_cons_succ]
          refine wpAnyX_take (i := 2) (oi := ⟨some 38, _, _, _, _, _⟩) (v := ?_) rfl (by kernel_rfl) (by kernel_rfl) (by kernel_rfl) (by kernel_rfl) (fun _ _ _ h => h) (Or.inl ⟨by kernel_rfl, ?_⟩) hS ?_
          rotate_left
          · intro w hSw
            have d0 := cell_below hSw p0; have d1 := cell_below hSw p1; have d3 := cell_below hSw t3
            try dsimp only at hSw
            go_simp
            try with_reducible rfl
          try simp only [Act.put, List.setIfInBounds_toArray, List.set_cons_zero, List.set_cons_succ]
          refine wpAnyX_take (i := 3) (oi := ⟨some 39, _, _, _, _, _⟩) (v := ?_) rfl (by kernel_rfl) (by kernel_rfl) (by kernel_rfl) (by kernel_rfl) (fun _ _ _ h => h) (Or.inl ⟨by kernel_rfl, ?_⟩) hS ?_
          rotate_left
          · intro w hSw
            have d0 := cell_below hSw p0; have d1 := cell_below hSw p1; have d3 := cell_below hSw t3
            try dsimp only at hSw
            go_simp
            try with_reducible rfl
          try simp only [Act.put, List.setIfInBounds_toArray, List.set_cons_zero, List.set_cons_succ]
          refine wpAnyX_take (i := 4) (oi := ⟨some 40, _, _, _, _, _⟩) (v := ?_) rfl (by kernel_rfl) (by kernel_rfl) (by kernel_rfl) (by kernel_rfl) (fun _ _ _ h => h) (Or.inl ⟨by kernel_rfl, ?_⟩) hS ?_
          rotate_left
          · intro w hSw
            have d0 := cell_below hSw p0; have d1 := cell_below hSw p1; have d3 := cell_below hSw t3
            try dsimp only at hSw
            go_simp
            try with_reducible rfl
          try simp only [Act.put, List.setIfInBounds_toArray, List.set_cons_zero, List.set_cons_succ]
          refine wpAnyX_take (i := 5) (oi := ⟨some 41, _, _, _, _, _⟩) (v := ?_) rfl (by kernel_rfl) (by kernel_rfl) (by kernel_rfl) (by kernel_rfl) (fun _ _ _ h => h) (Or.inl ⟨by kernel_rfl, ?_⟩) hS ?_
          rotate_left
          · intro w hSw
            have d0 := cell_below hSw p0; have d1 := cell_below hSw p1; have d3 := cell_below hSw t3
            try dsimp only at hSw
            go_simp
            try with_reducible rfl
          try simp only [Act.put, List.setIfInBounds_toArray, List.set_cons_zero, List.set_cons_succ]
          refine wpAnyX_take (i := 7) (oi := ⟨some 43, _, _, _, _, _⟩) (v := ?_) rfl (by kernel_rfl) (by kernel_rfl) (by kernel_rfl) (by kernel_rfl) (fun _ _ _ h => h) (Or.inl ⟨by kernel_rfl, ?_⟩) hS ?_
          rotate_left
          · intro w hSw
            have d0 := cell_below hSw p0; have d1 := cell_below hSw p1; have d3 := cell_below hSw t3
            try dsimp only at hSw
            go_simp
            try with_reducible rfl
          try simp only [Act.put, List.setIfInBounds_toArray, List.set_cons_zero, List.set_cons_succ]
          refine wpAnyX_ready (rs := [1]) (by kernel_rfl) (by simp) ?_
          refine AllReadyX.cons (o := ⟨some 37, _, _, _, _, _⟩) rfl (fun K hK => ?_) AllReadyX.nil
          go_simp
          go_at_call 60
          refine (pileBallot_any s m _ hs).mono ?_
          rintro e w3 ⟨B5, d5, rfl, hob, hb3⟩
          have hS0 := hS
          clear hS
          refine hK.out _ _ (fun _ => below_down hS0 hb3) (fun hS => ?_)
          replace hS := hS (by kernel_rfl)
          clear hK K hS0
          try simp only [Act.put, List.setIfInBounds_toArray, List.set_cons_zero, List.set_cons_succ]
          refine wpAnyX_ready (rs := [6]) (by kernel_rfl) (by simp) ?_
          refine AllReadyX.cons (o := ⟨some 42, _, _, _, _, _⟩) rfl (fun K hK => ?_) AllReadyX.nil
          go_simp
          have cF := ballotFirst_any B5 (some ⟨gl, 0, none⟩) (balP s) left d5 n w3 hob.ints (hLA.below hS) (by omega) (by have := HLN.out; omega) hob.le_cap
          rw [HLN.out, hff] at cF
          go_at_call 92
          refine cF.mono ?_
          rintro e w4 ⟨rfl, hw4⟩
          subst hw4
          clear cF
          have hS0 := hS
          clear hS
          refine hK.out _ _ (fun _ => hS0) (fun hS => ?_)
          replace hS := hS (by kernel_rfl)
          clear hK K hS0
          try simp only [Act.put, List.setIfInBounds_toArray, List.set_cons_zero, List.set_cons_succ]
          refine wpAnyX_take (i := 8) (oi := ⟨some 44, _, _, _, _, _⟩) (v := ?_) rfl (by kernel_rfl) (by kernel_rfl) (by kernel_rfl) (by kernel_rfl) (fun _ _ _ h => h) (Or.inl ⟨by kernel_rfl, ?_⟩) hS ?_
          rotate_left
          · intro w hSw
            have d0 := cell_below hSw p0; have d1 := cell_below hSw p1; have d3 := cell_below hSw t3
            try dsimp only at hSw
            go_simp
            try with_reducible rfl
          try simp only [Act.put, List.setIfInBounds_toArray, List.set_cons_zero, List.set_cons_succ]
          refine wpAnyX_done (by kernel_rfl) ?_ _
          have hBB := below_down hBA hS
          have hTB := hTA.below hS
          have hgB := grown_below hgA hS
          have bDB := bDA.below hS
          clear hBA hTA hgA bDA oP p0 p1 t3 hLA hS hob
          generalize w3w : w3 = wy at *
          clear w3w
          obtain ⟨a, b⟩ := wt
          obtain ⟨gw, hgw, hgw0, hgw1⟩ := hTB.wts.form (by omega)
          subst hgw
          obtain ⟨ha1, hb1, hb60⟩ := hwr.bd1 ho.out.b1 ho.out.b60
          have z1 := (hTB.wts.cell hmx).1
          have z2 := (hTB.wts.cell hmx).2
          have y1 := bDB.c0
          have y2 := bDB.c1
          have t2 := hTB.c2
          have h13 : a * r1 ≤ 60 * 3600 := Nat.mul_le_mul ha1 hr1
          have h23 : b * r2 ≤ 60 * 3600 := Nat.mul_le_mul hb60 hr2
          have hr21 : 1 ≤ r2 := (fvN_iff.1 hrf).2.1
          have cT := fun w => fracTimes_any a b r1 r2 w (hwr.fvT ho.out.b1 ho.out.b60 (by omega)) hrf
          rw [redF_ok (red_fv (Nat.le_trans h13 (by omega)) (Nat.le_trans h23 (by omega)) (Nat.mul_pos hb1 hr21)), HR2.out a b hb1, show v = x - q * y from ev.out] at cT
          have cT := Lib.hid cT
          obtain ⟨⟨f1, f2⟩, hf⟩ : ∃ r, r = redP (a * (x - q * y)) (b * x) := ⟨_, rfl⟩
          have hWK2 : W[k]? = some (f1, f2) := by rw [hf]; exact hWK
          rw [← hf] at cT
          have HMS := Lib.hid (mixF_set (ws := ws) (by rw [HW.out, ho.out.len]) hWK2)
          have HMX := Lib.hid hmx
          have hk0 : (0 : Int) ≤ (k : Int) := by omega
          have hk1 : (k : Int) < (ps.length : Int) := by omega
          clear hwr hWK hWK2 hmx hf h13 h23 ha1 hb1
          have hzy := hBB.size
          go_wp2
          refine wp_region_X (fun w' => Below wy.heap.size wy w') 18 (by kernel_rfl) ?_ (fun hS => ?_)
          · exact (Below.refl _ _).drew
          refine wpAnyX_take (i := 0) (oi := ⟨some 46, _, _, _, _, _⟩) (v := ?_) rfl (by kernel_rfl) (by kernel_rfl) (by kernel_rfl) (by kernel_rfl) (fun _ _ _ h => h) (Or.inl ⟨by kernel_rfl, ?_⟩) hS ?_
          rotate_left
          · intro w hSw
            have d0 := cell_below hSw z1; have d1 := cell_below hSw z2; have d2 := cell_below hSw y1; have d3 := cell_below hSw y2; have d4 := cell_below hSw t2
            try dsimp only at hSw
            go_simp
            try with_reducible rfl
          try simp only [Act.put, List.setIfInBounds_toArray, List.set_cons_zero, List.set_cons_succ]
          refine wpAnyX_take (i := 1) (oi := ⟨some 47, _, _, _, _, _⟩) (v := ?_) rfl (by kernel_rfl) (by kernel_rfl) (by kernel_rfl) (by kernel_rfl) (fun _ _ _ h => h) (Or.inl ⟨by kernel_rfl, ?_⟩) hS ?_
          rotate_left
          · intro w hSw
            have d0 := cell_below hSw z1; have d1 := cell_below hSw z2; have d2 := cell_below hSw y1; have d3 := cell_below hSw y2; have d4 := cell_below hSw t2
            try dsimp only at hSw
            go_simp
            try with_reducible rfl
          try simp only [Act.put, List.setIfInBounds_toArray, List.set_cons_zero, List.set_cons_succ]
          refine wpAnyX_take (i := 2) (oi := ⟨some 48, _, _, _, _, _⟩) (v := ?_) rfl (by kernel_rfl) (by kernel_rfl) (by kernel_rfl) (by kernel_rfl) (fun _ _ _ h => h) (Or.inl ⟨by kernel_rfl, ?_⟩) hS ?_
          rotate_left
          · intro w hSw
            have d0 := cell_below hSw z1; have d1 := cell_below hSw z2; have d2 := cell_below hSw y1; have d3 := cell_below hSw y2; have d4 := cell_below hSw t2
            try dsimp only at hSw
            go_simp
            try with_reducible rfl
          try simp only [Act.put, List.setIfInBounds_toArray, List.set_cons_zero, List.set_cons_succ]
          refine wpAnyX_take (i := 3) (oi := ⟨some 49, _, _, _, _, _⟩) (v := ?_) rfl (by kernel_rfl) (by kernel_rfl) (by kernel_rfl) (by kernel_rfl) (fun _ _ _ h => h) (Or.inl ⟨by kernel_rfl, ?_⟩) hS ?_
          rotate_left
          · intro w hSw
            have d0 := cell_below hSw z1; have d1 := cell_below hSw z2; have d2 := cell_below hSw y1; have d3 := cell_below hSw y2; have d4 := cell_below hSw t2
            try dsimp only at hSw
            go_simp
            try with_reducible rfl
          try simp only [Act.put, List.setIfInBounds_toArray, List.set_cons_zero, List.set_cons_succ]
          refine wpAnyX_take (i := 4) (oi := ⟨some 50, _, _, _, _, _⟩) (v := ?_) rfl (by kernel_rfl) (by kernel_rfl) (by kernel_rfl) (by kernel_rfl) (fun _ _ _ h => h) (Or.inl ⟨by kernel_rfl, ?_⟩) hS ?_
          rotate_left
          · intro w hSw
            have d0 := cell_below hSw z1; have d1 := cell_below hSw z2; have d2 := cell_below hSw y1; have d3 := cell_below hSw y2; have d4 := cell_below hSw t2
            try dsimp only at hSw
            go_simp
            try with_reducible rfl
          try simp only [Act.put, List.setIfInBounds_toArray, List.set_cons_zero, List.set_cons_succ]
          refine wpAnyX_take (i := 5) (oi := ⟨some 51, _, _, _, _, _⟩) (v := ?_) rfl (by kernel_rfl) (by kernel_rfl) (by kernel_rfl) (by kernel_rfl) (fun _ _ _ h => h) (Or.inl ⟨by kernel_rfl, ?_⟩) hS ?_
          rotate_left
          · intro w hSw
            have d0 := cell_below hSw z1; have d1 := cell_below hSw z2; have d2 := cell_below hSw y1; have d3 := cell_below hSw y2; have d4 := cell_below hSw t2
            try dsimp only at hSw
            go_simp
            try with_reducible rfl
          try simp only [Act.put, List.setIfInBounds_toArray, List.set_cons_zero, List.set_cons_succ]
          refine wpAnyX_take (i := 6) (oi := ⟨some 52, _, _, _, _, _⟩) (v := ?_) rfl (by kernel_rfl) (by kernel_rfl) (by kernel_rfl) (by kernel_rfl) (fun _ _ _ h => h) (Or.inl ⟨by kernel_rfl, ?_⟩) hS ?_
          rotate_left
          · intro w hSw
            have d0 := cell_below hSw z1; have d1 := cell_below hSw z2; have d2 := cell_below hSw y1; have d3 := cell_below hSw y2; have d4 := cell_below hSw t2
            try dsimp only at hSw
            go_simp
            try with_reducible rfl
          try simp only [Act.put, List.setIfInBounds_toArray, List.set_cons_zero, List.set_cons_succ]
          refine wpAnyX_take (i := 7) (oi := ⟨some 53, _, _, _, _, _⟩) (v := ?_) rfl (by kernel_rfl) (by kernel_rfl) (by kernel_rfl) (by kernel_rfl) (fun _ _ _ h => h) (Or.inl ⟨by kernel_rfl, ?_⟩) hS ?_
          rotate_left
          · intro w hSw
            have d0 := cell_below hSw z1; have d1 := cell_below hSw z2; have d2 := cell_below hSw y1; have d3 := cell_below hSw y2; have d4 := cell_below hSw t2
            try dsimp only at hSw
            go_simp
            try with_reducible rfl
          try simp only [Act.put, List.setIfInBounds_toArray, List.set_cons_zero, List.set_cons_succ]
          refine wpAnyX_take (i := 8) (oi := ⟨some 54, _, _, _, _, _⟩) (v := ?_) rfl (by kernel_rfl) (by kernel_rfl) (by kernel_rfl) (by kernel_rfl) (fun _ _ _ h => h) (Or.inl ⟨by kernel_rfl, ?_⟩) hS ?_
          rotate_left
          · intro w hSw
            have d0 := cell_below hSw z1; have d1 := cell_below hSw z2; have d2 := cell_below hSw y1; have d3 := cell_below hSw y2; have d4 := cell_below hSw t2
            try dsimp only at hSw
            go_simp
            try with_reducible rfl
          try simp only [Act.put, List.setIfInBounds_toArray, List.set_cons_zero, List.set_cons_succ]
          refine wpAnyX_take (i := 9) (oi := ⟨some 55, _, _, _, _, _⟩) (v := ?_) rfl (by kernel_rfl) (by kernel_rfl) (by kernel_rfl) (by kernel_rfl) (fun _ _ _ h => h) (Or.inl ⟨by kernel_rfl, ?_⟩) hS ?_
          rotate_left
          · intro w hSw
            have d0 := cell_below hSw z1; have d1 := cell_below hSw z2; have d2 := cell_below hSw y1; have d3 := cell_below hSw y2; have d4 := cell_below hSw t2
            try dsimp only at hSw
            go_simp
            try with_reducible rfl
          try simp only [Act.put, List.setIfInBounds_toArray, List.set_cons_zero, List.set_cons_succ]
          refine wpAnyX_take (i := 10) (oi := ⟨some 56, _, _, _, _, _⟩) (v := ?_) rfl (by kernel_rfl) (by kernel_rfl) (by kernel_rfl) (by kernel_rfl) (fun _ _ _ h => h) (Or.inl ⟨by kernel_rfl, ?_⟩) hS ?_
          rotate_left
          · intro w hSw
            have d0 := cell_below hSw z1; have d1 := cell_below hSw z2; have d2 := cell_below hSw y1; have d3 := cell_below hSw y2; have d4 := cell_below hSw t2
            try dsimp only at hSw
            go_simp
            try with_reducible rfl
          try simp only [Act.put, List.setIfInBounds_toArray, List.set_cons_zero, List.set_cons_succ]
          refine wpAnyX_take (i := 11) (oi := ⟨some 57, _, _, _, _, _⟩) (v := ?_) rfl (by kernel_rfl) (by kernel_rfl) (by kernel_rfl) (by kernel_rfl) (fun _ _ _ h => h) (Or.inl ⟨by kernel_rfl, ?_⟩) hS ?_
          rotate_left
          · intro w hSw
            have d0 := cell_below hSw z1; have d1 := cell_below hSw z2; have d2 := cell_below hSw y1; have d3 := cell_below hSw y2; have d4 := cell_below hSw t2
            try dsimp only at hSw
            go_simp
            try with_reducible rfl
          try simp only [Act.put, List.setIfInBounds_toArray, List.set_cons_zero, List.set_cons_succ]
          refine wpAnyX_take (i := 12) (oi := ⟨some 58, _, _, _, _, _⟩) (v := ?_) rfl (by kernel_rfl) (by kernel_rfl) (by kernel_rfl) (by kernel_rfl) (fun _ _ _ h => h) (Or.inl ⟨by kernel_rfl, ?_⟩) hS ?_
          rotate_left
          · intro w hSw
            have d0 := cell_below hSw z1; have d1 := cell_below hSw z2; have d2 := cell_below hSw y1; have d3 := cell_below hSw y2; have d4 := cell_below hSw t2
            try dsimp only at hSw
            go_simp
            try with_reducible rfl
          try simp only [Act.put, List.setIfInBounds_toArray, List.set_cons_zero, List.set_cons_succ]
          refine wpAnyX_ready (rs := [13]) (by kernel_rfl) (by simp) ?_
          refine AllReadyX.cons (o := ⟨some 59, _, _, _, _, _⟩) rfl (fun K hK => ?_) AllReadyX.nil
          go_simp
          go_at_call 109
          refine (cT.out _).mono ?_
          rintro e w8 ⟨rfl, hb8⟩
          have hS0 := hS
          clear hS
          refine hK.out _ _ (fun _ => below_down hS0 hb8) (fun hS => ?_)
          replace hS := hS (by kernel_rfl)
          clear hK K hS0
          try simp only [Act.put, List.setIfInBounds_toArray, List.set_cons_zero, List.set_cons_succ]
          refine wpAnyX_take (i := 14) (oi := ⟨some 45, _, _, _, _, _⟩) (v := ?_) rfl (by kernel_rfl) (by kernel_rfl) (by kernel_rfl) (by kernel_rfl) (fun _ _ _ h => h) (Or.inl ⟨by kernel_rfl, ?_⟩) hS ?_
          rotate_left
          · intro w hSw
            have d0 := cell_below hSw z1; have d1 := cell_below hSw z2; have d2 := cell_below hSw y1; have d3 := cell_below hSw y2; have d4 := cell_below hSw t2
            try dsimp only at hSw
            go_simp
            try with_reducible rfl
          try simp only [Act.put, List.setIfInBounds_toArray, List.set_cons_zero, List.set_cons_succ]
          refine wpAnyX_take (i := 15) (oi := ⟨some 60, _, _, _, _, _⟩) (v := ?_) rfl (by kernel_rfl) (by kernel_rfl) (by kernel_rfl) (by kernel_rfl) (fun _ _ _ h => h) (Or.inl ⟨by kernel_rfl, ?_⟩) hS ?_
          rotate_left
          · intro w hSw
            have d0 := cell_below hSw z1; have d1 := cell_below hSw z2; have d2 := cell_below hSw y1; have d3 := cell_below hSw y2; have d4 := cell_below hSw t2
            try dsimp only at hSw
            go_simp
            try with_reducible rfl
          try simp only [Act.put, List.setIfInBounds_toArray, List.set_cons_zero, List.set_cons_succ]
          refine wpAnyX_takeB (i := 16) (oi := ⟨some 61, _, _, _, _, _⟩) (v := ?_) rfl (by kernel_rfl) (by kernel_rfl) (by kernel_rfl) (by kernel_rfl) (fun _ _ _ h => h) (Or.inl ⟨by kernel_rfl, ?_⟩) (fun _ => hS) ?_
          rotate_left
          · intro w hSw
            go_simp
            try with_reducible rfl
          try simp only [Act.put, List.setIfInBounds_toArray, List.set_cons_zero, List.set_cons_succ]
          refine wpAnyX_take (i := 17) (oi := ⟨some 62, _, _, _, _, _⟩) (v := ?_) rfl (by kernel_rfl) (by kernel_rfl) (by kernel_rfl) (by kernel_rfl) (fun _ _ _ h => h) (Or.inl ⟨by kernel_rfl, ?_⟩) hS ?_
          rotate_left
          · intro w hSw
            have d0 := cell_below hSw z1; have d1 := cell_below hSw z2; have d2 := cell_below hSw y1; have d3 := cell_below hSw y2; have d4 := cell_below hSw t2
            try dsimp only at hSw
            go_simp
            try with_reducible rfl
          try simp only [Act.put, List.setIfInBounds_toArray, List.set_cons_zero, List.set_cons_succ]
          refine wpAnyX_ready (rs := [18]) (by kernel_rfl) (by simp) ?_
          refine AllReadyX.cons (o := ⟨none, _, _, _, _, _⟩) rfl (fun K hK => ?_) AllReadyX.nil
          have hOw := hTB.below hS
          have hBw := below_down hBB hS
          have hgW := grown_below hgB hS
          have bE := bDB.below hS
          have hf0 := hOw.wts.frozen (k * 2)
          have hf1 := hOw.wts.frozen (k * 2 + 1)
          have x1 := (hOw.wts.cell HMX.out).1
          have x2 := (hOw.wts.cell HMX.out).2
          have hneb : b6 ≠ gw := hnb gw rfl
          have hgs := grown_setCell (grown_setCell (grown_refl w8 (some gw)) (k * 2) (.int .i64 (f1 : Int))) (k * 2 + 1) (.int .i64 (f2 : Int))
          go_simp
          refine hK.out _ _ (fun h => absurd (h.symm.trans (by kernel_rfl : _ = true)) (by decide)) (fun _ => ?_)
          clear hK K
          try simp only [Act.put, List.setIfInBounds_toArray, List.set_cons_zero, List.set_cons_succ]
          refine wpAnyX_done (by kernel_rfl) ?_ _
          go_wp2
          go_roundw
          case rel => exact ⟨k + 1, by omega, by go_num, by rw [← HMS.out]; exact hOw.setW k (f1, f2), bE.grown hgs (by intro e; injection e with e; exact hneb e.symm), grown_trans hgW hgs, hBw.trans (below_of_grown hgs hBw.size (fun k hk => by injection hk with hk; omega))⟩
          case measure => simp [intOf]; omega
        · have hfb : (firstL left (bal s) == who) = false := by simp [hfw]
          rw [weighP_f hfw] at hWK
          clear hfw
          refine wp_region_X (fun w' => Below wx.heap.size wx w') 1000 (by kernel_rfl) ?_ (fun hS => ?_)
          · exact (Below.refl _ _).drew
          refine wpAnyX_take (i := 0) (oi := ⟨some 36, _, _, _, _, _⟩) (v := ?_) rfl (by kernel_rfl) (by kernel_rfl) (by kernel_rfl) (by kernel_rfl) (fun _ _ _ h => h) (Or.inl ⟨by kernel_rfl, ?_⟩) hS ?_
          rotate_left
          · intro w hSw
            have d0 := cell_below hSw p0; have d1 := cell_below hSw p1; have d3 := cell_below hSw t3
            try dsimp only at hSw
            go_simp
            try with_reducible rfl
          try simp only [Act.put, List.setIfInBounds_toArray, List.set_cons_zero, List.set_cons_succ]
          refine wpAnyX_take (i := 2) (oi := ⟨some 38, _, _, _, _, _⟩) (v := ?_) rfl (by kernel_rfl) (by kernel_rfl) (by kernel_rfl) (by kernel_rfl) (fun _ _ _ h => h) (Or.inl ⟨by kernel_rfl, ?_⟩) hS ?_
          rotate_left
          · intro w hSw
            have d0 := cell_below hSw p0; have d1 := cell_below hSw p1; have d3 := cell_below hSw t3
            try dsimp only at hSw
            go_simp
            try with_reducible rfl
          try simp only [Act.put, List.setIfInBounds_toArray, List.set_cons_zero, List.set_cons_succ]
          refine wpAnyX_take (i := 3) (oi := ⟨some 39, _, _, _, _, _⟩) (v := ?_) rfl (by kernel_rfl) (by kernel_rfl) (by kernel_rfl) (by kernel_rfl) (fun _ _ _ h => h) (Or.inl ⟨by kernel_rfl, ?_⟩) hS ?_
          rotate_left
          · intro w hSw
            have d0 := cell_below hSw p0; have d1 := cell_below hSw p1; have d3 := cell_below hSw t3
            try dsimp only at hSw
            go_simp
            try with_reducible rfl
          try simp only [Act.put, List.setIfInBounds_toArray, List.set_cons_zero, List.set_cons_succ]
          refine wpAnyX_take (i := 4) (oi := ⟨some 40, _, _, _, _, _⟩) (v := ?_) rfl (by kernel_rfl) (by kernel_rfl) (by kernel_rfl) (by kernel_rfl) (fun _ _ _ h => h) (Or.inl ⟨by kernel_rfl, ?_⟩) hS ?_
          rotate_left
          · intro w hSw
            have d0 := cell_below hSw p0; have d1 := cell_below hSw p1; have d3 := cell_below hSw t3
            try dsimp only at hSw
            go_simp
            try with_reducible rfl
          try simp only [Act.put, List.setIfInBounds_toArray, List.set_cons_zero, List.set_cons_succ]
          refine wpAnyX_take (i := 5) (oi := ⟨some 41, _, _, _, _, _⟩) (v := ?_) rfl (by kernel_rfl) (by kernel_rfl) (by kernel_rfl) (by kernel_rfl) (fun _ _ _ h => h) (Or.inl ⟨by kernel_rfl, ?_⟩) hS ?_
          rotate_left
          · intro w hSw
            have d0 := cell_below hSw p0; have d1 := cell_below hSw p1; have d3 := cell_below hSw t3
            try dsimp only at hSw
            go_simp
            try with_reducible rfl
          try simp only [Act.put, List.setIfInBounds_toArray, List.set_cons_zero, List.set_cons_succ]
          refine wpAnyX_take (i := 7) (oi := ⟨some 43, _, _, _, _, _⟩) (v := ?_) rfl (by kernel_rfl) (by kernel_rfl) (by kernel_rfl) (by kernel_rfl) (fun _ _ _ h => h) (Or.inl ⟨by kernel_rfl, ?_⟩) hS ?_
          rotate_left
          · intro w hSw
            have d0 := cell_below hSw p0; have d1 := cell_below hSw p1; have d3 := cell_below hSw t3
            try dsimp only at hSw
            go_simp
            try with_reducible rfl
          try simp only [Act.put, List.setIfInBounds_toArray, List.set_cons_zero, List.set_cons_succ]
          refine wpAnyX_ready (rs := [1]) (by kernel_rfl) (by simp) ?_
          refine AllReadyX.cons (o := ⟨some 37, _, _, _, _, _⟩) rfl (fun K hK => ?_) AllReadyX.nil
          go_simp
          go_at_call 60
          refine (pileBallot_any s m _ hs).mono ?_
          rintro e w3 ⟨B5, d5, rfl, hob, hb3⟩
          have hS0 := hS
          clear hS
          refine hK.out _ _ (fun _ => below_down hS0 hb3) (fun hS => ?_)
          replace hS := hS (by kernel_rfl)
          clear hK K hS0
          try simp only [Act.put, List.setIfInBounds_toArray, List.set_cons_zero, List.set_cons_succ]
          refine wpAnyX_ready (rs := [6]) (by kernel_rfl) (by simp) ?_
          refine AllReadyX.cons (o := ⟨some 42, _, _, _, _, _⟩) rfl (fun K hK => ?_) AllReadyX.nil
          go_simp
          have cF := ballotFirst_any B5 (some ⟨gl, 0, none⟩) (balP s) left d5 n w3 hob.ints (hLA.below hS) (by omega) (by have := HLN.out; omega) hob.le_cap
          rw [HLN.out, hff] at cF
          go_at_call 92
          refine cF.mono ?_
          rintro e w4 ⟨rfl, hw4⟩
          subst hw4
          clear cF
          have hS0 := hS
          clear hS
          refine hK.out _ _ (fun _ => hS0) (fun hS => ?_)
          replace hS := hS (by kernel_rfl)
          clear hK K hS0
          try simp only [Act.put, List.setIfInBounds_toArray, List.set_cons_zero, List.set_cons_succ]
          refine wpAnyX_take (i := 8) (oi := ⟨some 44, _, _, _, _, _⟩) (v := ?_) rfl (by kernel_rfl) (by kernel_rfl) (by kernel_rfl) (by kernel_rfl) (fun _ _ _ h => h) (Or.inl ⟨by kernel_rfl, ?_⟩) hS ?_
          rotate_left
          · intro w hSw
            have d0 := cell_below hSw p0; have d1 := cell_below hSw p1; have d3 := cell_below hSw t3
            try dsimp only at hSw
            go_simp
            try with_reducible rfl
          try simp only [Act.put, List.setIfInBounds_toArray, List.set_cons_zero, List.set_cons_succ]
          refine wpAnyX_done (by kernel_rfl) ?_ _
          have hBB := below_down hBA hS
          have hTB := hTA.below hS
          have hgB := grown_below hgA hS
          have bDB := bDA.below hS
          have HMK := Lib.hid (mixF_skip (by rw [HW.out, ho.out.len]) hWK HWT.out)
          clear hBA hTA hgA bDA oP p0 p1 t3 hLA hS hob hWK hmx hwr
          go_wp2
          go_roundw
          case rel => exact ⟨k + 1, by omega, by go_num, by rw [HMK.out]; exact hTB, bDB, hgB, hBB⟩
          case measure => simp [intOf]; omega
      · obtain rfl : k = ps.length := by omega
        clear hlt
        rw [HMA.out] at hT
        go_wp2
        go_end0
        exact ⟨rfl, hT, hgr⟩
end Go.Proofs.Ytiinfbjlkbjmmaa
