/-
  Lots and ballots: each candidate is there once.
-/
import Derived.Test.YtiinfbjlkbjmmaaQBase
import Derived.Test.YtiinfbjlkbjmmaaQFrame
namespace Go.Proofs.Ytiinfbjlkbjmmaa
open Go.RowKit
set_option maxRecDepth 100000 in
theorem OwnI.le_cap {w : World} {base : Nat} {A : Option Addr} {c : Nat} {xs : List Int} (h : OwnI w base A c xs) : xs.length ≤ c := by
  rcases h.2 with ⟨hv, h0⟩ | ⟨g, cap, cur, hv, hb, hg, h1, _⟩
  · omega
  · injection hv with _ _ hc
    omega
/-- Each is in range and there once. -/
def bp (n : Int) (xs : List Int) : Bool := xs.all (fun x => inB x 0 (n - 1)) && decide xs.Nodup
def bv (xs : List Int) (n : Int) : Bool := inB n 1 5 && bp n xs
def lv (xs : List Int) : Bool := bv xs xs.length
/-- One of them. -/
def has (xs : List Int) (x : Int) : Bool := xs.contains x
set_option maxRecDepth 100000 in
theorem has_iff {xs : List Int} {x : Int} : has xs x = true ↔ x ∈ xs := by simp [has]
set_option maxRecDepth 100000 in
theorem has_no {xs : List Int} {x : Int} : has xs x = false ↔ x ∉ xs := by simp [has]
set_option maxRecDepth 100000 in
theorem has_snoc {xs : List Int} {k : Nat} {x y : Int} (h : xs[k]? = some y) (hn : has (xs.take k) x = false) (hy : (x == y) = false) : has (xs.take (k + 1)) x = false := by
  rw [take_snoc _ _ _ h]
  rw [has_no] at hn ⊢
  simp at hn hy ⊢
  exact ⟨hn, hy⟩
set_option maxRecDepth 100000 in
theorem has_t {xs : List Int} {k : Nat} {x : Int} (h : xs[k]? = some x) : has xs x = true := by
  rw [has_iff]
  exact mem_of_at h
set_option maxRecDepth 100000 in
theorem bp_iff {n : Int} {xs : List Int} : bp n xs = true ↔ (∀ x ∈ xs, 0 ≤ x ∧ x ≤ n - 1) ∧ xs.Nodup := by
  simp [bp, inB]
set_option maxRecDepth 100000 in
theorem bp_nil (n : Int) : bp n [] = true := by simp [bp]
set_option maxRecDepth 100000 in
theorem bp_snoc {n : Int} {xs : List Int} {k : Nat} {x : Int} (h : xs[k]? = some x) (hp : bp n (xs.take k) = true) (hi : 0 ≤ x ∧ x ≤ n - 1) (hc : has (xs.take k) x = false) : bp n (xs.take (k + 1)) = true := by
  rw [take_snoc _ _ _ h]
  rw [bp_iff] at hp ⊢
  refine ⟨fun y hy => ?_, ?_⟩
  · rcases List.mem_append.1 hy with hy | hy
    · exact hp.1 y hy
    · simp at hy; subst hy; exact hi
  · rw [List.nodup_append]
    refine ⟨hp.2, by simp, fun a ha b hb => ?_⟩
    rw [has_no] at hc
    simp at hb
    subst hb
    intro e
    subst e
    exact hc ha
set_option maxRecDepth 100000 in
theorem bp_range {n : Int} {xs : List Int} {x : Int} (h : x ∈ xs) (hi : ¬(0 ≤ x ∧ x ≤ n - 1)) : bp n xs = false := by
  cases hb : bp n xs
  · rfl
  · exact absurd ((bp_iff.1 hb).1 x h) hi
set_option maxRecDepth 100000 in
theorem bp_twice {n : Int} {xs : List Int} {k : Nat} {x : Int} (h : xs[k]? = some x) (hc : has (xs.take k) x = true) : bp n xs = false := by
  cases hb : bp n xs
  · rfl
  · exfalso
    have h1 := (bp_iff.1 hb).2
    obtain ⟨hk, e⟩ := List.getElem?_eq_some_iff.1 h
    rw [has_iff] at hc
    obtain ⟨j, hj, e2⟩ := List.getElem_of_mem hc
    simp at hj
    rw [List.getElem_take] at e2
    have h2 := List.pairwise_iff_getElem.1 h1 j k (by omega) hk (by omega)
    exact h2 (by rw [e2, e])
/-- A place, or one that is less than 0. -/
def IdxR (w : World) (xs : List Int) (x : Int) (e : Ending) (w' : World) : Prop := ∃ r : Int, e = .returned (.int .i64 r) ∧ Hid (decide (r ≥ 0) = has xs x) ∧ w = w'
set_option maxRecDepth 100000 in
set_option maxHeartbeats 400000 in
theorem sIndex_any (A : Option Addr) (xs : List Int) (c n : Nat) (x : Int) (w : World) (h : Ints w A xs) (hn : xs.length = n) (hl : n ≤ 1048576) :
    Calls Try.prog 122 #[.slice A n c, .int .i64 x] w (IdxR w xs x) := by
  subst hn
  go_enter Try.func122, Try.ntmps122
  go_wp2
  go_loop [5, 8] (fun _ i => ∃ k : Nat, k ≤ xs.length ∧ i = .int .i64 k ∧ Hid (has (xs.take k) x = false)) (fun _ i => xs.length - (intOf i).toNat)
  case atStart => exact ⟨0, by omega, rfl, by show has [] x = false; rfl⟩
  case round =>
    obtain ⟨k, hk, rfl, hno⟩ := hrel
    by_cases hlt : k < xs.length
    · obtain ⟨ad, y, rfl, hy, hc⟩ := h.at_ hlt
      cases hxy : (x == y)
      · go_wp2
        go_round
        case rel => exact ⟨k + 1, by omega, by go_num, has_snoc hy.out hno.out hxy⟩
        case measure => simp [intOf]; omega
      · have hin := Lib.hid (show has xs x = true from by
          simp at hxy
          subst hxy
          exact has_t hy.out)
        go_wp2
        go_ret
        exact ⟨_, rfl, by show decide _ = _; rw [hin.out]; simp, rfl⟩
    · have h2 : xs.length ≤ k := by omega
      clear hlt
      go_wp2
      go_ret
      exact ⟨_, rfl, by have := hno.out; rw [List.take_of_length_le (by omega)] at this; rw [this]; rfl, rfl⟩
set_option maxRecDepth 100000 in
set_option maxHeartbeats 400000 in
theorem sContains_any (A : Option Addr) (xs : List Int) (c n : Nat) (x : Int) (w : World) (h : Ints w A xs) (hn : xs.length = n) (hl : n ≤ 1048576) :
    Calls Try.prog 107 #[.slice A n c, .int .i64 x] w (Ret w (.bool (has xs x))) := by
  go_enter Try.func107, Try.ntmps107
  go_wp2_with (go_at_call 122; refine (sIndex_any _ _ _ _ _ _ h hn hl).mono ?_; rintro e w' ⟨r, rfl, hr, rfl⟩)
  go_ret
  exact ⟨ret_bool hr.out, rfl⟩
set_option maxRecDepth 100000 in
set_option maxHeartbeats 400000 in
theorem l1Has_any (A : Option Addr) (xs : List Int) (c n : Nat) (x : Int) (w : World) (h : Ints w A xs) (hn : xs.length = n) (hl : n ≤ 1048576) :
    Calls Try.prog 105 #[.slice A n c, .int .i64 x] w (Ret w (.bool (has xs x))) := by
  subst hn
  go_enter Try.func105, Try.ntmps105
  go_wp2
  go_loop [5] (fun i => ∃ k : Nat, k ≤ xs.length ∧ i = .int .i64 k ∧ Hid (has (xs.take k) x = false)) (fun i => xs.length - (intOf i).toNat)
  case atStart => exact ⟨0, by omega, rfl, by show has [] x = false; rfl⟩
  case round =>
    obtain ⟨k, hk, rfl, hno⟩ := hrel
    by_cases hlt : k < xs.length
    · obtain ⟨ad, y, rfl, hy, hc⟩ := h.at_ hlt
      cases hxy : (y == x)
      · go_wp2
        go_round
        case rel => exact ⟨k + 1, by omega, by go_num, has_snoc hy.out hno.out (by simp at hxy ⊢; omega)⟩
        case measure => simp [intOf]; omega
      · have hin := Lib.hid (show has xs x = true from by
          simp at hxy
          subst hxy
          exact has_t hy.out)
        go_wp2
        go_ret
        exact ⟨ret_bool hin.out.symm, rfl⟩
    · have h2 : xs.length ≤ k := by omega
      clear hlt
      go_wp2
      go_ret
      exact ⟨ret_bool (by have := hno.out; rw [List.take_of_length_le (by omega)] at this; rw [this]), rfl⟩
set_option maxRecDepth 100000 in
set_option maxHeartbeats 400000 in
theorem ballotValid_any (A : Option Addr) (xs : List Int) (c : Nat) (n : Int) (w : World) (h : Ints w A xs) (hl : xs.length ≤ 1048576) (hcap : xs.length ≤ c) :
    Calls Try.prog 77 #[.slice A xs.length c, .int .i64 n] w (Ret w (.bool (bv xs n))) := by
  cases hm : inB n 1 5
  · have hf := Lib.hid (show bv xs n = false from by simp [bv, hm])
    go_enter Try.func77, Try.ntmps77
    go_wp2_with (go_at_call 78; refine (isMany_any _ _).mono ?_; rintro e w' ⟨rfl, rfl⟩)
    go_ret
    exact ⟨ret_bool hf.out.symm, rfl⟩
  · have hb0 := Lib.hid (show bv xs n = bp n xs from by simp [bv, hm])
    go_enter Try.func77, Try.ntmps77
    go_wp2_with (go_at_call 78; refine (isMany_any _ _).mono ?_; rintro e w' ⟨rfl, rfl⟩)
    go_loop [5, 6, 12] (fun _ _ i => ∃ k : Nat, k ≤ xs.length ∧ i = .int .i64 k ∧ Hid (bp n (xs.take k) = true)) (fun _ _ i => xs.length - (intOf i).toNat)
    case atStart => exact ⟨0, by omega, rfl, bp_nil n⟩
    case round =>
      obtain ⟨k, hk, rfl, hp⟩ := hrel
      by_cases hlt : k < xs.length
      · obtain ⟨ad, x, rfl, hx, hc⟩ := h.at_ hlt
        by_cases hx0 : 0 ≤ x
        · by_cases hx1 : x < n
          · have hkc : k ≤ c := by omega
            cases hct : has (xs.take k) x
            · go_wp2_with (go_at_call 107; refine (sContains_any _ (xs.take k) _ _ _ _ (h.take k) (by simp; omega) (by omega)).mono ?_; rintro e w' ⟨rfl, rfl⟩)
              go_round
              case rel => exact ⟨k + 1, by omega, by go_num, bp_snoc hx.out hp.out ⟨hx0, by omega⟩ hct⟩
              case measure => simp [intOf]; omega
            · have hf := Lib.hid (bp_twice (n := n) hx.out hct)
              go_wp2_with (go_at_call 107; refine (sContains_any _ (xs.take k) _ _ _ _ (h.take k) (by simp; omega) (by omega)).mono ?_; rintro e w' ⟨rfl, rfl⟩)
              go_ret
              exact ⟨ret_bool (by rw [hb0.out, hf.out]), rfl⟩
          · have hf := Lib.hid (bp_range (n := n) (mem_of_at hx.out) (by omega))
            go_wp2
            go_ret
            exact ⟨ret_bool (by rw [hb0.out, hf.out]), rfl⟩
        · have hf := Lib.hid (bp_range (n := n) (mem_of_at hx.out) (by omega))
          go_wp2
          go_ret
          exact ⟨ret_bool (by rw [hb0.out, hf.out]), rfl⟩
      · have h2 : xs.length ≤ k := by omega
        clear hlt
        go_wp2
        go_ret
        exact ⟨ret_bool (by have := hp.out; rw [List.take_of_length_le (by omega)] at this; rw [hb0.out, this]), rfl⟩
set_option maxRecDepth 100000 in
set_option maxHeartbeats 400000 in
theorem lotsValid_any (A : Option Addr) (xs : List Int) (c : Nat) (w : World) (h : Ints w A xs) (hl : xs.length ≤ 1048576) (hcap : xs.length ≤ c) :
    Calls Try.prog 48 #[.slice A xs.length c] w (Ret w (.bool (lv xs))) := by
  by_cases h0 : 0 < xs.length
  · go_enter Try.func48, Try.ntmps48
    go_wp2_with (go_at_call 77; refine (ballotValid_any _ _ _ _ _ h hl hcap).mono ?_; rintro e w' ⟨rfl, rfl⟩)
    go_ret
    exact ⟨rfl, rfl⟩
  · have hf := Lib.hid (show lv xs = false from by simp [lv, bv, inB]; omega)
    go_enter Try.func48, Try.ntmps48
    go_wp2
    go_ret
    exact ⟨ret_bool hf.out.symm, rfl⟩
set_option maxRecDepth 100000 in
set_option maxHeartbeats 1600000 in
theorem specLotsValid_any (A : Option Addr) (xs : List Int) (c : Nat) (w : World) (h : Ints w A xs) (hl : xs.length ≤ 1048576) (hcap : xs.length ≤ c) :
    Calls Try.prog 84 #[.slice A xs.length c] w (Qt w (.bool (lv xs))) := by
  have hL := Lib.hid (show lv xs = (inB xs.length 1 5 && bp xs.length xs) from rfl)
  have cI := Lib.hid (fun (n low high : Int) (w : World) => l6In_any n low high w)
  go_enter Try.func84, Try.ntmps84
  go_wp2
  go_loopw [3] (fun i wr => ∃ k m : Nat, k ≤ xs.length ∧ i = .int .i64 k ∧ Hid (bp xs.length (xs.take k) = true) ∧ wr = w.drewN m) (fun i _ => xs.length - (intOf i).toNat)
  case atStart => exact ⟨0, 0, by omega, rfl, bp_nil _, rfl⟩
  case round =>
    obtain ⟨k, m, hk, rfl, hp, rfl⟩ := hrel
    by_cases hlt : k < xs.length
    · obtain ⟨ad, x, rfl, hx, hc⟩ := h.at_ hlt
      obtain ⟨q, hq⟩ : ∃ q : Int, q = xs.length - 1 := ⟨_, rfl⟩
      have hkc : k ≤ c := by omega
      have hw1 : IntKind.i64.wrap ((xs.length : Int) - 1) = q := by rw [hq]; exact IntWalk.i64_in _ (by omega)
      have cH := Lib.hid (fun (w' : World) (hh : Ints w' (some ad) (xs.take k)) => l1Has_any (some ad) (xs.take k) c k x w' hh (by simp; omega) (by omega))
      have hT := h.take k
      cases hi : inB x 0 q
      · have hf := Lib.hid (bp_range (n := xs.length) (mem_of_at hx.out) (by simp [inB] at hi; omega))
        clear hq
        go_wp2
        go_quiet (first | (go_at_call 86; exact Ret.quiet_add (cI.out _ _ _ _)) | (go_at_call 105; exact Ret.quiet_add (cH.out _ (hT.drewN _))))
        clear hw1
        go_wp2
        go_ret
        exact ⟨ret_bool (by rw [hL.out, hf.out]; simp), _, World.drewN_drewN _ _ _⟩
      · have hir : 0 ≤ x ∧ x ≤ (xs.length : Int) - 1 := by simp [inB] at hi; omega
        cases hct : has (xs.take k) x
        · have hs := Lib.hid (bp_snoc hx.out hp.out hir hct)
          clear hq hir
          rw [hct] at cH
          go_wp2
          go_quiet (first | (go_at_call 86; exact Ret.quiet_add (cI.out _ _ _ _)) | (go_at_call 105; exact Ret.quiet_add (cH.out _ (hT.drewN _))))
          clear hw1
          go_wp2
          go_roundw
          case rel => exact ⟨k + 1, _, by omega, by go_num, hs, rfl⟩
          case measure => simp [intOf]; omega
        · have hf := Lib.hid (bp_twice (n := xs.length) hx.out hct)
          clear hq hir
          rw [hct] at cH
          go_wp2
          go_quiet (first | (go_at_call 86; exact Ret.quiet_add (cI.out _ _ _ _)) | (go_at_call 105; exact Ret.quiet_add (cH.out _ (hT.drewN _))))
          clear hw1
          go_wp2
          go_ret
          exact ⟨ret_bool (by rw [hL.out, hf.out]; simp), _, World.drewN_drewN _ _ _⟩
    · have h2 : xs.length ≤ k := by omega
      clear hlt
      have hh := Lib.hid (show lv xs = inB xs.length 1 5 from by
        have := hp.out; rw [List.take_of_length_le (by omega)] at this; rw [hL.out, this]; simp)
      go_wp2_with (go_at_call 86; refine (l6In_any _ _ _ _).mono ?_; rintro e w' ⟨rfl, rfl⟩)
      go_ret
      exact ⟨ret_bool hh.out.symm, _, rfl⟩
end Go.Proofs.Ytiinfbjlkbjmmaa
/-
  The party that gets the next seat, of the program and of the reference.
-/
namespace Go.Proofs.Ytiinfbjlkbjmmaa
open Go.RowKit
set_option maxRecDepth 100000 in
theorem dv_bd' {s m : Int} (hm : m = 1 ∨ m = 2) (h0 : 0 ≤ s) (h1 : s ≤ 20) : 1 ≤ dv s m ∧ dv s m ≤ 41 := by
  rcases hm with rfl | rfl <;> unfold dv <;> omega
/-- What the next seat needs. -/
structure NextOk (xs gs : List Int) (m : Int) (ls : List Int) : Prop where
  xb : ∀ x ∈ xs, 0 ≤ x ∧ x ≤ 99
  gb : ∀ g ∈ gs, 0 ≤ g ∧ g ≤ 20
  gl : gs.length = xs.length
  ll : ls.length = xs.length
  l1 : 1 ≤ xs.length ∧ xs.length ≤ 5
  hm : m = 1 ∨ m = 2
  lb : ∀ l ∈ ls, 0 ≤ l ∧ l < xs.length
def atI (xs : List Int) (p : Int) : Int := xs.getD p.toNat 0
set_option maxRecDepth 100000 in
theorem atI_at {xs : List Int} {p : Nat} {x : Int} (h : xs[p]? = some x) : atI xs p = x := by simp [atI, h]
def stepN (xs gs : List Int) (m b p : Int) : Int := if atI xs b * dv (atI gs p) m < atI xs p * dv (atI gs b) m then p else b
def nextP (xs gs : List Int) (m : Int) (ls : List Int) : Int := ls.foldl (stepN xs gs m) (ls.headD 0)
set_option maxRecDepth 100000 in
theorem stepN_t {xs gs : List Int} {m : Int} {b p : Nat} {x y g e : Int} (hx : xs[p]? = some x) (hy : xs[b]? = some y) (hg : gs[b]? = some g) (he : gs[p]? = some e)
    (h : y * dv e m < x * dv g m) : stepN xs gs m b p = p := by unfold stepN; rw [atI_at hx, atI_at hy, atI_at hg, atI_at he, if_pos h]
set_option maxRecDepth 100000 in
theorem stepN_f {xs gs : List Int} {m : Int} {b p : Nat} {x y g e : Int} (hx : xs[p]? = some x) (hy : xs[b]? = some y) (hg : gs[b]? = some g) (he : gs[p]? = some e)
    (h : ¬y * dv e m < x * dv g m) : stepN xs gs m b p = b := by unfold stepN; rw [atI_at hx, atI_at hy, atI_at hg, atI_at he, if_neg h]
set_option maxRecDepth 100000 in
theorem stepN_self (xs gs : List Int) (m b : Int) : stepN xs gs m b b = b := by unfold stepN; split <;> rfl
set_option maxRecDepth 100000 in
theorem fold_snoc {f : Int → Int → Int} {a : Int} {ls : List Int} {k : Nat} {l : Int} (h : ls[k]? = some l) : (ls.take (k + 1)).foldl f a = f ((ls.take k).foldl f a) l := by
  rw [take_snoc _ _ _ h, List.foldl_append]; rfl
set_option maxRecDepth 100000 in
theorem headD_at {ls : List Int} {l : Int} (h : ls[0]? = some l) : ls.headD 0 = l := by
  cases ls with
  | nil => simp at h
  | cons a t => simp at h; simp [h]
/-- What one step of the loop reads. -/
structure StepSt (xs gs : List Int) (m : Int) (w : World) (A A' : Option Addr) (b p : Nat) : Prop where
  out : ∃ ad ad' x y g e, A = some ad ∧ A' = some ad' ∧ Hid (xs[p]? = some x) ∧ Hid (xs[b]? = some y) ∧ Hid (gs[b]? = some g) ∧ Hid (gs[p]? = some e)
    ∧ w.cell? (ad.add p) = some (.int .i64 x) ∧ w.cell? (ad.add b) = some (.int .i64 y) ∧ w.cell? (ad'.add b) = some (.int .i64 g) ∧ w.cell? (ad'.add p) = some (.int .i64 e)
    ∧ (0 ≤ g ∧ g ≤ 20) ∧ (0 ≤ e ∧ e ≤ 20) ∧ Hid (IntKind.i64.wrap (x * dv g m) = x * dv g m) ∧ Hid (IntKind.i64.wrap (y * dv e m) = y * dv e m)
set_option maxRecDepth 100000 in
theorem NextOk.step {xs gs : List Int} {m : Int} {ls : List Int} (o : NextOk xs gs m ls) {w : World} {A A' : Option Addr} (h : Ints w A xs) (h' : Ints w A' gs) {b p : Nat} (hb : b < xs.length) (hp : p < xs.length) :
    StepSt xs gs m w A A' b p := by
  obtain ⟨ad, x, e1, hx, hc⟩ := h.at_ hp
  obtain ⟨ad2, y, e2, hy, hc2⟩ := h.at_ hb
  obtain ⟨ad', g, e3, hg, hc3⟩ := h'.at_ (show b < gs.length by rw [o.gl]; exact hb)
  obtain ⟨ad3, e, e4, he, hc4⟩ := h'.at_ (show p < gs.length by rw [o.gl]; exact hp)
  rw [e1] at e2; injection e2 with e2; subst e2
  rw [e3] at e4; injection e4 with e4; subst e4
  have b1 := o.xb x (mem_of_at hx.out)
  have b2 := o.xb y (mem_of_at hy.out)
  have b3 := o.gb g (mem_of_at hg.out)
  have b4 := o.gb e (mem_of_at he.out)
  have d1 := dv_bd' o.hm b3.1 b3.2
  have d2 := dv_bd' o.hm b4.1 b4.2
  have m1 := mul_bd b1 ⟨show 0 ≤ dv g m by omega, d1.2⟩
  have m2 := mul_bd b2 ⟨show 0 ≤ dv e m by omega, d2.2⟩
  exact ⟨_, _, x, y, g, e, e1, e3, hx, hy, hg, he, hc, hc2, hc3, hc4, b3, b4, IntWalk.i64_in _ (by omega), IntWalk.i64_in _ (by omega)⟩
/-- The next seat, or -1. -/
def nextF (xs gs : List Int) (m : Int) (ls : List Int) : Int := if vv xs && gv gs xs.length && mv m && lv ls && ((ls.length : Int) == (xs.length : Int)) then nextP xs gs m ls else -1
set_option maxRecDepth 100000 in
theorem lv_iff {ls : List Int} : lv ls = true ↔ (1 ≤ ls.length ∧ ls.length ≤ 5) ∧ (∀ l ∈ ls, 0 ≤ l ∧ l ≤ (ls.length : Int) - 1) ∧ ls.Nodup := by
  unfold lv bv
  rw [Bool.and_eq_true, inB_iff, bp_iff]
  exact ⟨fun ⟨⟨a, b⟩, d⟩ => ⟨⟨by omega, by omega⟩, d⟩, fun ⟨⟨a, b⟩, d⟩ => ⟨⟨by omega, by omega⟩, d⟩⟩
set_option maxRecDepth 100000 in
theorem nextOk_of {xs gs : List Int} {m : Int} {ls : List Int} (hv : vv xs = true) (hg : gv gs xs.length = true) (hm : mv m = true) (hl : lv ls = true) (he : ls.length = xs.length) : NextOk xs gs m ls := by
  obtain ⟨a1, a2, a3⟩ := vv_iff.1 hv
  obtain ⟨b1, b2, b3⟩ := gv_iff.1 hg
  obtain ⟨c1, c2, c3⟩ := lv_iff.1 hl
  exact ⟨a1, b1, by omega, he, a2, mv_iff.1 hm, fun l h => by have := c2 l h; omega⟩
end Go.Proofs.Ytiinfbjlkbjmmaa
/-
  The greatest count, ties by lots: the program's loop and the reference's three functions.
-/
namespace Go.Proofs.Ytiinfbjlkbjmmaa
open Go.RowKit
def stepG (cs : List Int) (b c : Int) : Int := if atI cs b < atI cs c then c else b
def greatP (cs ls : List Int) : Int := ls.foldl (stepG cs) (ls.headD 0)
set_option maxRecDepth 100000 in
theorem stepG_t {cs : List Int} {b p : Nat} {x y : Int} (hx : cs[p]? = some x) (hy : cs[b]? = some y) (h : y < x) : stepG cs b p = p := by unfold stepG; rw [atI_at hx, atI_at hy, if_pos h]
set_option maxRecDepth 100000 in
theorem stepG_f {cs : List Int} {b p : Nat} {x y : Int} (hx : cs[p]? = some x) (hy : cs[b]? = some y) (h : ¬y < x) : stepG cs b p = b := by unfold stepG; rw [atI_at hx, atI_at hy, if_neg h]
/-- The greatest of some counts, and -1. -/
def bestL (cs : List Int) : Int := cs.foldl max (-1)
/-- The first of the lots whose count is the greatest. -/
def firstP (bs : List Bool) (ls : List Int) : Int := (ls.find? fun l => bs.getD l.toNat false).getD (-1)
def mostB (cs : List Int) : List Bool := cs.map fun c => c == bestL cs
set_option maxRecDepth 100000 in
theorem foldG (cs : List Int) (ls : List Int) (a : Int) :
    ∃ l1 b l2, a :: ls = l1 ++ b :: l2 ∧ ls.foldl (stepG cs) a = b ∧ (∀ x ∈ l1, atI cs x < atI cs b) ∧ (∀ x ∈ l2, atI cs x ≤ atI cs b) := by
  induction ls generalizing a with
  | nil => exact ⟨[], a, [], rfl, rfl, by simp, by simp⟩
  | cons c t ih =>
    rw [List.foldl_cons]
    unfold stepG
    split
    · rename_i hlt
      obtain ⟨l1, b, l2, e, hb, h1, h2⟩ := ih c
      refine ⟨a :: l1, b, l2, by rw [List.cons_append, ← e], hb, fun x hx => ?_, h2⟩
      have hc : atI cs c ≤ atI cs b := by
        cases l1 with
        | nil => simp at e; rw [e.1]; omega
        | cons d l1 => simp at e; have := h1 d (by simp); rw [e.1]; omega
      rcases List.mem_cons.1 hx with rfl | hx
      · omega
      · exact h1 x hx
    · rename_i hlt
      obtain ⟨l1, b, l2, e, hb, h1, h2⟩ := ih a
      have hc : atI cs a ≤ atI cs b := by
        cases l1 with
        | nil => simp at e; rw [e.1]; omega
        | cons d l1 => simp at e; have := h1 d (by simp); rw [e.1]; omega
      cases l1 with
      | nil =>
        simp at e
        obtain ⟨rfl, rfl⟩ := e
        refine ⟨[], a, c :: t, rfl, hb, by simp, fun x hx => ?_⟩
        rcases List.mem_cons.1 hx with rfl | hx
        · omega
        · exact h2 x hx
      | cons d l1 =>
        simp at e
        obtain ⟨rfl, rfl⟩ := e
        refine ⟨a :: c :: l1, b, l2, by simp, hb, fun x hx => ?_, h2⟩
        have h3 := h1 a (by simp)
        rcases List.mem_cons.1 hx with rfl | hx
        · exact h3
        · rcases List.mem_cons.1 hx with rfl | hx
          · omega
          · exact h1 x (by simp [hx])
set_option maxRecDepth 100000 in
theorem greatP_split (cs : List Int) {ls : List Int} (hn : 0 < ls.length) :
    ∃ l1 b l2, ls = l1 ++ b :: l2 ∧ greatP cs ls = b ∧ (∀ x ∈ l1, atI cs x < atI cs b) ∧ (∀ x ∈ l2, atI cs x ≤ atI cs b) := by
  cases ls with
  | nil => simp at hn
  | cons a t =>
    obtain ⟨l1, b, l2, e, hb, h1, h2⟩ := foldG cs t a
    refine ⟨l1, b, l2, e, ?_, h1, h2⟩
    rw [← hb]
    show (a :: t).foldl (stepG cs) a = _
    rw [List.foldl_cons]
    congr 1
    unfold stepG; split <;> rfl
set_option maxRecDepth 100000 in
/-- Lists without a number twice, all in range, are no longer than the range. -/
theorem nodup_len (n : Nat) (ls : List Int) (hd : ls.Nodup) (hr : ∀ l ∈ ls, 0 ≤ l ∧ l < n) : ls.length ≤ n := by
  induction n generalizing ls with
  | zero =>
    cases ls with
    | nil => simp
    | cons a t => have := hr a (by simp); omega
  | succ n ih =>
    have h1 := ih (ls.erase n) (hd.erase _) (fun l hl => by
      have hm := (hd.mem_erase_iff).1 hl
      have := hr l hm.2
      have h3 : l ≠ (n : Int) := hm.1
      omega)
    have h2 := List.length_erase (a := (n : Int)) (l := ls)
    split at h2 <;> omega
set_option maxRecDepth 100000 in
theorem lots_all {ls : List Int} (h : lv ls = true) {i : Nat} (hi : i < ls.length) : (i : Int) ∈ ls := by
  obtain ⟨_, hr, hd⟩ := lv_iff.1 h
  by_cases hm : (i : Int) ∈ ls
  · exact hm
  · have := nodup_len ls.length ((i : Int) :: ls) (List.nodup_cons.2 ⟨hm, hd⟩) (fun l hl => by
      rcases List.mem_cons.1 hl with rfl | hl
      · omega
      · have := hr l hl; omega)
    simp only [List.length_cons] at this
    omega
set_option maxRecDepth 100000 in
theorem bestL_le (cs : List Int) : ∀ c ∈ cs, c ≤ bestL cs := (le_foldl_max cs (-1)).2
set_option maxRecDepth 100000 in
theorem bestL_ge (cs : List Int) : -1 ≤ bestL cs := (le_foldl_max cs (-1)).1
set_option maxRecDepth 100000 in
theorem bestL_mem (cs : List Int) (a : Int) : cs.foldl max a = a ∨ cs.foldl max a ∈ cs := by
  induction cs generalizing a with
  | nil => exact .inl rfl
  | cons c t ih =>
    rw [List.foldl_cons]
    rcases ih (max a c) with h | h
    · rw [h]
      by_cases hac : a ≤ c
      · rw [Int.max_eq_right hac]; exact .inr (by simp)
      · rw [Int.max_eq_left (by omega)]; exact .inl rfl
    · exact .inr (by simp [h])
set_option maxRecDepth 100000 in
/-- The program's party is the reference's. -/
theorem great_first {cs ls : List Int} (h : lv ls = true) (hl : cs.length = ls.length) (hc : ∀ c ∈ cs, -1 ≤ c) : firstP (mostB cs) ls = greatP cs ls := by
  obtain ⟨hl1, hr, _⟩ := lv_iff.1 h
  obtain ⟨l1, b, l2, e, hb, h1, h2⟩ := greatP_split cs (ls := ls) (by omega)
  rw [hb]
  have hat : ∀ l ∈ ls, ∃ c, cs[l.toNat]? = some c ∧ atI cs l = c ∧ c ∈ cs := fun l hl' => by
    have := hr l hl'
    have hlt : l.toNat < cs.length := by omega
    exact ⟨cs[l.toNat], List.getElem?_eq_getElem hlt, by simp [atI, hlt], List.getElem_mem hlt⟩
  have hbm : b ∈ ls := by rw [e]; simp
  obtain ⟨vb, hvb, hvb2, hvbm⟩ := hat b hbm
  have hmax : ∀ l ∈ ls, atI cs l ≤ atI cs b := fun l hl' => by
    rw [e] at hl'
    rcases List.mem_append.1 hl' with h' | h'
    · have := h1 l h'; omega
    · rcases List.mem_cons.1 h' with rfl | h'
      · exact Int.le_refl _
      · exact h2 l h'
  have hbest : bestL cs = vb := by
    have hle := bestL_le cs vb hvbm
    rcases bestL_mem cs (-1) with h' | h'
    · have := hc vb hvbm
      unfold bestL at *; omega
    · obtain ⟨i, hi, hie⟩ := List.getElem_of_mem h'
      have hm := hmax (i : Int) (lots_all h (by omega))
      have : atI cs (i : Int) = bestL cs := by rw [atI_at (List.getElem?_eq_getElem hi)]; exact hie
      rw [this, hvb2] at hm
      omega
  have hget : ∀ l ∈ ls, (mostB cs).getD l.toNat false = (atI cs l == vb) := fun l hl' => by
    obtain ⟨c, hc1, hc2, _⟩ := hat l hl'
    simp [mostB, hc1, hc2, hbest]
  unfold firstP
  rw [e, List.find?_append]
  have hn : l1.find? (fun l => (mostB cs).getD l.toNat false) = none := by
    rw [List.find?_eq_none]
    intro x hx
    rw [hget x (by rw [e]; simp [hx])]
    have := h1 x hx
    simp; omega
  rw [hn, List.find?_cons, hget b hbm, hvb2]
  simp
set_option maxRecDepth 100000 in
set_option maxHeartbeats 1600000 in
theorem greatest_any (A A2 : Option Addr) (cs ls : List Int) (n1 n2 c c2 : Nat) (w : World) (h : Ints w A cs) (h2 : Ints w A2 ls) (hn : 0 < ls.length) (hl3 : ls.length ≤ 1048576) (hr : Hid (∀ l ∈ ls, 0 ≤ l ∧ l < cs.length))
    (e1 : n1 = cs.length) (e2 : n2 = ls.length) :
    Calls Try.prog 59 #[.slice A n1 c, .slice A2 n2 c2] w (Qt w (.int .i64 (greatP cs ls))) := by
  subst e1
  subst e2
  obtain ⟨ad2, l0, rfl, hl0, hc0⟩ := h2.at_ hn
  have hc0' : w.cell? ad2 = some (.int .i64 l0) := by have := hc0; rwa [show ad2.add 0 = ad2 from by unfold Addr.add; simp] at this
  obtain ⟨hlb0, hlb1⟩ := hr.out l0 (mem_of_at hl0.out)
  obtain ⟨b0, rfl⟩ := Int.eq_ofNat_of_zero_le hlb0
  have hb0 : b0 < cs.length := by omega
  have h00 := Lib.hid (headD_at hl0.out)
  clear hlb0 hlb1
  go_enter Try.func59, Try.ntmps59
  go_wp2
  go_loopw [5, 7, 13] (fun b _ i wr => ∃ k q m1 : Nat, k ≤ ls.length ∧ i = .int .i64 k ∧ b = .int .i64 q ∧ q < cs.length ∧ Hid ((ls.take k).foldl (stepG cs) (ls.headD 0) = (q : Int)) ∧ wr = w.drewN m1) (fun _ _ i _ => ls.length - (intOf i).toNat)
  case atStart => exact ⟨0, b0, 0, by omega, rfl, rfl, hb0, h00, rfl⟩
  case round =>
    obtain ⟨k, b, m1, hk, rfl, rfl, hb, hs, rfl⟩ := hrel
    by_cases hlt : k < ls.length
    · obtain ⟨ad3, l, e5, hl, hcl⟩ := h2.at_ hlt
      obtain rfl : ad2 = ad3 := by injection e5
      clear e5
      obtain ⟨hlb0, hlb1⟩ := hr.out l (mem_of_at hl.out)
      obtain ⟨p, rfl⟩ := Int.eq_ofNat_of_zero_le hlb0
      have hp : p < cs.length := by omega
      clear hlb0 hlb1
      obtain ⟨ad, x, rfl, hx, cx⟩ := h.at_ hp
      obtain ⟨ad', y, e6, hy, cy⟩ := h.at_ hb
      obtain rfl : ad = ad' := by injection e6
      clear e6
      by_cases hc2 : y < x
      · have hq := Lib.hid ((fold_snoc (f := stepG cs) (a := ls.headD 0) hl.out).trans (by rw [hs.out, stepG_t hx.out hy.out hc2]))
        go_wp2
        go_quiet (fail)
        go_wp2
        go_roundw
        case rel => exact ⟨k + 1, p, _, by omega, by go_num, rfl, hp, hq, rfl⟩
        case measure => simp [intOf]; omega
      · have hq := Lib.hid ((fold_snoc (f := stepG cs) (a := ls.headD 0) hl.out).trans (by rw [hs.out, stepG_f hx.out hy.out hc2]))
        go_wp2
        go_quiet (fail)
        go_wp2
        go_roundw
        case rel => exact ⟨k + 1, b, _, by omega, by go_num, rfl, hb, hq, rfl⟩
        case measure => simp [intOf]; omega
    · have hk2 : ls.length ≤ k := by omega
      clear hlt
      go_wp2
      go_ret
      exact ⟨ret_int (by have := hs.out; rw [List.take_of_length_le hk2] at this; exact this.symm), _, rfl⟩
end Go.Proofs.Ytiinfbjlkbjmmaa
/-
  Piles, plain: who gets which ballots. Built by itself (plain Lean), not yet as a template.
-/
namespace Go.Proofs.Ytiinfbjlkbjmmaa
/-- A pile, plain: the ballot (numbers of candidates) and how many. -/
structure Pl where
  bal : List Int
  many : Int
/-- The first candidate on a ballot who has not left, or -1. -/
def firstL (left : List Bool) : List Int → Int
  | [] => -1
  | c :: t => if left.getD c.toNat false = false then c else firstL left t
set_option maxRecDepth 100000 in
theorem firstL_mem {left : List Bool} {b : List Int} : firstL left b = -1 ∨ firstL left b ∈ b ∧ left.getD (firstL left b).toNat false = false := by
  induction b with
  | nil => exact .inl rfl
  | cons c t ih =>
    unfold firstL
    split
    · next h => exact .inr ⟨by simp, h⟩
    · rcases ih with h | ⟨h1, h2⟩
      · exact .inl h
      · exact .inr ⟨by simp [h1], h2⟩
set_option maxRecDepth 100000 in
/-- Who is not k stays first. -/
theorem firstL_more {left : List Bool} {b : List Int} {k : Nat} (hk : k < left.length) (hb : ∀ c ∈ b, 0 ≤ c) (h : firstL left b ≠ (k : Int)) : firstL (left.set k true) b = firstL left b := by
  induction b with
  | nil => rfl
  | cons c t ih =>
    have hc := hb c (by simp)
    unfold firstL at h ⊢
    by_cases hck : c.toNat = k
    · subst hck
      have e : (left.set c.toNat true).getD c.toNat false = true := by simp [hk]
      rw [e]
      by_cases hl : left.getD c.toNat false = false
      · rw [if_pos hl] at h
        exact absurd (by omega) h
      · rw [if_neg hl] at h
        rw [if_neg hl, if_neg (by simp)]
        exact ih (fun x hx => hb x (by simp [hx])) h
    · have e : (left.set k true).getD c.toNat false = left.getD c.toNat false := by
        simp only [List.getD_eq_getElem?_getD]
        rw [List.getElem?_set_ne (fun e => hck e.symm)]
      rw [e]
      split
      · rfl
      · next hl =>
        rw [if_neg hl] at h
        exact ih (fun x hx => hb x (by simp [hx])) h
/-- The count of candidate c. -/
def cntC (left : List Bool) (c : Int) (ps : List Pl) : Int := (ps.map fun p => if firstL left p.bal = c then p.many else 0).sum
set_option maxRecDepth 100000 in
theorem cntC_more {left : List Bool} {ps : List Pl} {k : Nat} {c : Int} (hk : k < left.length) (hb : ∀ p ∈ ps, ∀ c ∈ p.bal, 0 ≤ c) (hm : ∀ p ∈ ps, 0 ≤ p.many) (hc : c ≠ k) : cntC left c ps ≤ cntC (left.set k true) c ps := by
  induction ps with
  | nil => simp [cntC]
  | cons p t ih =>
    have i := ih (fun q hq => hb q (by simp [hq])) (fun q hq => hm q (by simp [hq]))
    have hp := hm p (by simp)
    unfold cntC at i ⊢
    simp only [List.map_cons, List.sum_cons]
    by_cases h : firstL left p.bal = c
    · have e := firstL_more hk (hb p (by simp)) (by rw [h]; exact hc)
      rw [if_pos h, if_pos (e.trans h)]
      omega
    · rw [if_neg h]
      split <;> omega
/-- All counts. -/
def cntL (left : List Bool) (ps : List Pl) : List Int := (List.range left.length).map fun c => cntC left (c : Nat) ps
set_option maxRecDepth 100000 in
theorem sum_app1 (l : List Int) (a : Int) : (l ++ [a]).sum = l.sum + a := by
  induction l with
  | nil => simp
  | cons b t ih => simp only [List.cons_append, List.sum_cons, ih]; omega
set_option maxRecDepth 100000 in
theorem oneSum (n : Nat) (x m : Int) : ((List.range n).map fun c : Nat => if x = (c : Int) then m else 0).sum = if 0 ≤ x ∧ x < n then m else 0 := by
  induction n with
  | zero => simp; intro h1 h2; omega
  | succ n ih =>
    rw [List.range_succ, List.map_append, List.map_singleton, sum_app1, ih]
    by_cases h : x = (n : Int)
    · rw [if_pos h, if_neg (by omega), if_pos (by omega)]; omega
    · rw [if_neg h]
      by_cases h2 : 0 ≤ x ∧ x < n
      · rw [if_pos h2, if_pos (by omega)]; omega
      · rw [if_neg h2, if_neg (by omega)]; rfl
set_option maxRecDepth 100000 in
theorem addSum (n : Nat) (f g : Nat → Int) : ((List.range n).map fun c => f c + g c).sum = ((List.range n).map f).sum + ((List.range n).map g).sum := by
  induction n with
  | zero => rfl
  | succ n ih => simp only [List.range_succ, List.map_append, List.map_singleton, sum_app1, ih]; omega
set_option maxRecDepth 100000 in
theorem nilSum (n : Nat) : ((List.range n).map fun _ => (0 : Int)).sum = 0 := by
  induction n with
  | zero => rfl
  | succ n ih => simp only [List.range_succ, List.map_append, List.map_singleton, sum_app1, ih]; rfl
set_option maxRecDepth 100000 in
/-- Each ballot counts at most once. -/
theorem cntL_sum (left : List Bool) (ps : List Pl) : (cntL left ps).sum = (ps.map fun p => if 0 ≤ firstL left p.bal ∧ firstL left p.bal < left.length then p.many else 0).sum := by
  induction ps with
  | nil => exact nilSum _
  | cons p t ih =>
    unfold cntL at ih ⊢
    have e : ((List.range left.length).map fun c => cntC left (c : Nat) (p :: t)) = (List.range left.length).map fun c : Nat => (if firstL left p.bal = (c : Int) then p.many else 0) + cntC left (c : Nat) t := by
      apply List.map_congr_left
      intro c _
      simp [cntC]
    rw [e, addSum, ih, oneSum]
    simp
set_option maxRecDepth 100000 in
theorem cntL_total {left : List Bool} {ps : List Pl} (hm : ∀ p ∈ ps, 0 ≤ p.many) : (cntL left ps).sum ≤ (ps.map Pl.many).sum := by
  rw [cntL_sum]
  induction ps with
  | nil => simp
  | cons p t ih =>
    have i := ih (fun q hq => hm q (by simp [hq]))
    have := hm p (by simp)
    simp only [List.map_cons, List.sum_cons]
    split <;> omega
set_option maxRecDepth 100000 in
theorem firstL_less {left : List Bool} {b : List Int} {k : Nat} (hb : ∀ c ∈ b, 0 ≤ c ∧ c < left.length) (h : firstL left b < 0) : firstL (left.set k true) b < 0 := by
  induction b with
  | nil => exact h
  | cons c t ih =>
    have hc := hb c (by simp)
    unfold firstL at h ⊢
    by_cases hl : left.getD c.toNat false = false
    · rw [if_pos hl] at h; omega
    · rw [if_neg hl] at h
      have e : ¬ (left.set k true).getD c.toNat false = false := by
        intro e
        by_cases hck : c.toNat = k
        · subst hck
          simp [show c.toNat < left.length by omega] at e
        · simp only [List.getD_eq_getElem?_getD] at e hl
          rw [List.getElem?_set_ne (fun e => hck e.symm)] at e
          exact hl e
      rw [if_neg e]
      exact ih (fun x hx => hb x (by simp [hx])) h
set_option maxRecDepth 100000 in
theorem firstL_lt {left : List Bool} {b : List Int} (hb : ∀ c ∈ b, 0 ≤ c ∧ c < left.length) : firstL left b < left.length := by
  rcases firstL_mem (left := left) (b := b) with h | ⟨h, _⟩
  · omega
  · exact (hb _ h).2
set_option maxRecDepth 100000 in
/-- Who leaves takes ballots away, at most. -/
theorem cntL_less {left : List Bool} {ps : List Pl} {k : Nat} (hb : ∀ p ∈ ps, ∀ c ∈ p.bal, 0 ≤ c ∧ c < left.length) (hm : ∀ p ∈ ps, 0 ≤ p.many) : (cntL (left.set k true) ps).sum ≤ (cntL left ps).sum := by
  rw [cntL_sum, cntL_sum, List.length_set]
  induction ps with
  | nil => simp
  | cons p t ih =>
    have i := ih (fun q hq => hb q (by simp [hq])) (fun q hq => hm q (by simp [hq]))
    have := hm p (by simp)
    have h1 := firstL_lt (hb p (by simp))
    simp only [List.map_cons, List.sum_cons]
    by_cases h : 0 ≤ firstL left p.bal
    · rw [if_pos (show 0 ≤ firstL left p.bal ∧ firstL left p.bal < left.length from ⟨h, h1⟩)]
      split <;> omega
    · have := firstL_less (k := k) (hb p (by simp)) (show firstL left p.bal < 0 by omega)
      rw [if_neg (show ¬ (0 ≤ firstL left p.bal ∧ firstL left p.bal < left.length) by omega), if_neg (by omega)]
      omega
set_option maxRecDepth 100000 in
theorem cntL_len (left : List Bool) (ps : List Pl) : (cntL left ps).length = left.length := by simp [cntL]
set_option maxRecDepth 100000 in
theorem cntL_at {left : List Bool} {ps : List Pl} {c : Nat} (h : c < left.length) : (cntL left ps)[c]? = some (cntC left c ps) := by simp [cntL, h]
set_option maxRecDepth 100000 in
theorem cntC_nn {left : List Bool} {ps : List Pl} (hm : ∀ p ∈ ps, 0 ≤ p.many) (c : Int) : 0 ≤ cntC left c ps := by
  unfold cntC
  induction ps with
  | nil => simp
  | cons p t ih =>
    have i := ih (fun q hq => hm q (by simp [hq]))
    have := hm p (by simp)
    simp only [List.map_cons, List.sum_cons]
    split <;> omega
set_option maxRecDepth 100000 in
/-- Who has left gets none. -/
theorem cntC_left {left : List Bool} {ps : List Pl} {c : Nat} (h : left.getD c false = true) : cntC left c ps = 0 := by
  unfold cntC
  induction ps with
  | nil => rfl
  | cons p t ih =>
    simp only [List.map_cons, List.sum_cons, ih]
    rw [if_neg]
    · rfl
    · intro e
      rcases firstL_mem (left := left) (b := p.bal) with h2 | ⟨_, h2⟩
      · omega
      · rw [e] at h2
        simp only [Int.toNat_natCast] at h2
        rw [h] at h2
        cases h2
end Go.Proofs.Ytiinfbjlkbjmmaa
/-
  append of one int onto a slice of the call's own, as the laws and the program write it.
-/
namespace Go.Proofs.Ytiinfbjlkbjmmaa
open Go.RowKit
set_option maxRecDepth 100000 in
theorem heap_lt {w : World} {k : Nat} (h : k < w.heap.size) (o : Obj) : k < (w.alloc o).heap.size := by simp; omega
set_option maxRecDepth 100000 in
/-- 'append(out, y)': y lies in a new block of one cell. -/
theorem wpList_app1 (w : World) {ops : Array Oper} {rest : List Oper} {o : Oper} {a : Act} {Q : Exit → Act → World → Prop}
    (hg : o.guard = none) (s x : Operand) (ho : o.op = .call { callee := .builtin .append, args := #[s, x], argTypes := #[23, 23] })
    (base : Nat) (A : Option Addr) (n c : Nat) (xs : List Int) (hs : a.eval s = .slice A n c) (hown : OwnN w base A n c xs) (hbase : base ≤ w.heap.size) (hn : n ≤ 1099511627776)
    (y : Int) (hx : a.eval x = .slice (some ⟨w.heap.size, 0, none⟩) 1 1)
    (hK : ∀ A' c' w', OwnN w' base A' (n + 1) c' (xs ++ [y]) → w.grownBy w' (Value.slice A n c).ownBlock → Below base w w' → wpList Try.prog ops Q rest (a.put o.dst (.slice A' (n + 1) c')) w') :
    wpList Try.prog ops Q (o :: rest) a (w.alloc (.cells #[.int .i64 y] 3)) := by
  refine wpList_append1 _ hg s x ho base A n c xs hs ⟨hown.1, hown.2.alloc _⟩ (by simp; omega) hn ⟨w.heap.size, 0, none⟩ y 1 hx ?_ ?_
  · exact cell_of_row _ w.heap.size 0 #[.int .i64 y] 3 (0, 0) (heap_alloc_new w _)
  · intro A' c' w' h1 h2
    have h3 : w.grownBy w' (Value.slice A n c).ownBlock :=
      ⟨h2.os, h2.tape, h2.output, by have := h2.size; simp at this; omega, fun k hk hne => (h2.block k (heap_lt hk _) hne).trans (Below.heap_alloc w _ k hk)⟩
    exact hK A' c' w' h1 h3 (below_of_grown h3 hbase (fun k hk => (World.ownsRow.lt hown.row k hk).1))
set_option maxRecDepth 100000 in
/-- The same in a region that draws its order. -/
theorem step_app1 (w : World) {ops : Array Oper} {o : Oper} {a : Act} {K : Act → World → Prop} {Q : Exit → Act → World → Prop} {E : Prop}
    (hg : o.guard = none) (s x : Operand) (ho : o.op = .call { callee := .builtin .append, args := #[s, x], argTypes := #[23, 23] })
    (base : Nat) (A : Option Addr) (n c : Nat) (xs : List Int) (hs : a.eval s = .slice A n c) (hown : OwnN w base A n c xs) (hbase : base ≤ w.heap.size) (hn : n ≤ 1099511627776)
    (ad : Addr) (y : Int) (cc : Nat) (hx : a.eval x = .slice (some ad) 1 cc) (hc : w.cell? ad = some (.int .i64 y))
    (hK : ∀ A' c' w', OwnN w' base A' (n + 1) c' (xs ++ [y]) → w.grownBy w' (Value.slice A n c).ownBlock → Below base w w' → K (a.put o.dst (.slice A' (n + 1) c')) w') :
    if Region.wanted o (yielded ops a.tmps) = true then Oper.wp Try.prog o a w K Q else E := by
  have hw : Region.wanted o (yielded ops a.tmps) = true := by simp [Region.wanted, hg]
  rw [if_pos hw]
  obtain ⟨i0, hi, hz0, hz1, hz2⟩ := info_parts infoInt
  refine wp_append_own _ s x 23 ho base 3 i0 (.int .i64 0) 1 8 Try.underlying23 hi hz0 hz1 hz2 rfl (by omega) _ _ _ hs hown.row ad 1 cc [.int .i64 y] hx rfl ?_ ?_ (by simp only [maxLen]; omega) (by omega) hbase ?_
  · intro j u hj
    match j, hj with
    | 0, hj =>
      simp at hj
      subst hj
      rw [show ad.add 0 = ad from by unfold Addr.add; simp]
      exact hc
  · intro u hu
    simp at hu
    subst hu
    rfl
  · intro v' w' h1 h2 _
    obtain ⟨A', c', rfl⟩ := row_form h1
    exact hK A' c' w' (ownN_of_row (by simpa using h1)) h2 (below_of_grown h2 hbase (fun k hk => (World.ownsRow.lt hown.row k hk).1))
set_option maxRecDepth 100000 in
/-- The same where the new element's block is spelled by its own literal. -/
theorem below_app {w0 w w' : World} {B : Nat} (h : Below B w0 w) (h' : Below B w w') : Below B w0 w' := h.trans h'
end Go.Proofs.Ytiinfbjlkbjmmaa
/-
  Piles as values: the ballot of a text, valid piles, piles that fit a number of candidates.
-/
namespace Go.Proofs.Ytiinfbjlkbjmmaa
open Go.RowKit
/-- The numbers of a text's letters. -/
def bal (s : ByteArray) : List Int := s.data.toList.map fun b => (b.toNat : Int) - 97
set_option maxRecDepth 100000 in
theorem bal_len (s : ByteArray) : (bal s).length = s.size := by simp [bal]
set_option maxRecDepth 100000 in
theorem bal_at {s : ByteArray} {k : Nat} (h : k < s.size) : (bal s)[k]? = some ((s[k].toNat : Int) - 97) := by
  unfold bal
  rw [List.getElem?_map, List.getElem?_eq_getElem (by simpa using h)]
  rfl
/-- The text is that of a ballot. -/
def bt (s : ByteArray) : Bool := bv (bal s) 5
def balP (s : ByteArray) : List Int := if bt s then bal s else []
def parseF (s : ByteArray) : List Int × Bool := if bt s then (bal s, true) else ([], false)
set_option maxRecDepth 100000 in
theorem parse_t {s : ByteArray} (h : bt s = true) : parseF s = (bal s, true) := by simp [parseF, h]
set_option maxRecDepth 100000 in
theorem parse_f {s : ByteArray} (h : bt s = false) : parseF s = ([], false) := by simp [parseF, h]
set_option maxRecDepth 100000 in
theorem balP_t {s : ByteArray} (h : bt s = true) : balP s = bal s := by simp [balP, h]
set_option maxRecDepth 100000 in
theorem balP_f {s : ByteArray} (h : bt s = false) : balP s = [] := by simp [balP, h]
set_option maxRecDepth 100000 in
theorem parse_1 (s : ByteArray) : (parseF s).1 = balP s := by cases h : bt s <;> simp [parseF, balP, h]
set_option maxRecDepth 100000 in
theorem parse_2 (s : ByteArray) : (parseF s).2 = bt s := by cases h : bt s <;> simp [parseF, h]
set_option maxRecDepth 100000 in
theorem bv_len {xs : List Int} {n : Int} (h : bv xs n = true) : (xs.length : Int) ≤ n ∧ n ≤ 5 := by
  simp only [bv, Bool.and_eq_true, inB_iff] at h
  obtain ⟨⟨h1, h5⟩, hp⟩ := h
  obtain ⟨hr, hd⟩ := bp_iff.1 hp
  obtain ⟨m, rfl⟩ := Int.eq_ofNat_of_zero_le (show 0 ≤ n by omega)
  have := nodup_len m xs hd (fun l hl => by have := hr l hl; omega)
  omega
set_option maxRecDepth 100000 in
theorem bt_size {s : ByteArray} (h : bt s = true) : s.size ≤ 5 := by
  have := bv_len h
  rw [bal_len] at this
  omega
set_option maxRecDepth 100000 in
theorem bt_big {s : ByteArray} (h : 5 < s.size) : bt s = false := by
  cases hb : bt s
  · rfl
  · have := bt_size hb; omega
set_option maxRecDepth 100000 in
theorem balP_len (s : ByteArray) : (balP s).length ≤ 5 := by
  cases h : bt s
  · rw [balP_f h]; simp
  · rw [balP_t h, bal_len]; exact bt_size h
set_option maxRecDepth 100000 in
theorem balP_bv (s : ByteArray) : bv (balP s) 5 = true := by
  cases h : bt s
  · rw [balP_f h]; rfl
  · rw [balP_t h]; exact h
/-- A pile is valid. -/
def pv (p : ByteArray × Int) : Bool := bt p.1 && inB p.2 1 99
/-- A text comes before another one. -/
def lts (s t : ByteArray) : Bool := Op.bytesLess s.toList t.toList
set_option maxRecDepth 100000 in
theorem bytes_total (a b : List UInt8) : (Op.bytesLess a b || a == b) = !(Op.bytesLess b a) := by
  induction a generalizing b with
  | nil => cases b <;> simp [Op.bytesLess]
  | cons x s ih =>
    cases b with
    | nil => simp [Op.bytesLess]
    | cons y t =>
      have h := ih t
      simp only [Op.bytesLess]
      rcases Nat.lt_trichotomy x.toNat y.toNat with hl | he | hg
      · have h1 : x < y := UInt8.lt_iff_toNat_lt.2 hl
        have h2 : ¬ y < x := fun hh => by have := UInt8.lt_iff_toNat_lt.1 hh; omega
        have h3 : (y == x) = false := by simp; rintro rfl; omega
        simp [h1, h2, h3]
      · have e : x = y := UInt8.toNat_inj.1 he
        subst e
        have h2 : ¬ x < x := fun hh => by have := UInt8.lt_iff_toNat_lt.1 hh; omega
        simp [h2]
        simpa using h
      · have h1 : y < x := UInt8.lt_iff_toNat_lt.2 hg
        have h2 : ¬ x < y := fun hh => by have := UInt8.lt_iff_toNat_lt.1 hh; omega
        have h3 : (x == y) = false := by simp; rintro rfl; omega
        simp [h1, h2, h3]
set_option maxRecDepth 100000 in
theorem les_not (s t : ByteArray) : (Op.bytesLess s.toList t.toList || s.toList == t.toList) = !(lts t s) := bytes_total _ _
/-- The pile at k is valid, and its text comes behind that of the one ahead. -/
def pAt (ps : List (ByteArray × Int)) (k : Nat) : Bool :=
  match ps[k]? with
  | none => true
  | some p => pv p && (k == 0 || match ps[k - 1]? with | none => true | some q => lts q.1 p.1)
def pUp (ps : List (ByteArray × Int)) (k : Nat) : Bool := (List.range k).all (pAt ps)
def psv (ps : List (ByteArray × Int)) : Bool := pUp ps ps.length && decide (ps.length ≤ 12)
set_option maxRecDepth 100000 in
theorem pUp_zero (ps : List (ByteArray × Int)) : pUp ps 0 = true := rfl
set_option maxRecDepth 100000 in
theorem pUp_succ (ps : List (ByteArray × Int)) (k : Nat) : pUp ps (k + 1) = (pUp ps k && pAt ps k) := by simp [pUp, List.range_succ]
set_option maxRecDepth 100000 in
theorem pUp_mono {ps : List (ByteArray × Int)} {k m : Nat} (h : pUp ps m = true) (hk : k ≤ m) : pUp ps k = true := by
  simp only [pUp, List.all_eq_true, List.mem_range] at h ⊢
  exact fun i hi => h i (by omega)
set_option maxRecDepth 100000 in
theorem psv_bad {ps : List (ByteArray × Int)} {k : Nat} (hk : k < ps.length) (h : pAt ps k = false) : psv ps = false := by
  cases hp : pUp ps ps.length
  · simp [psv, hp]
  · have := pUp_mono (k := k + 1) hp (by omega)
    rw [pUp_succ, h] at this
    simp at this
set_option maxRecDepth 100000 in
theorem pAt_at {ps : List (ByteArray × Int)} {k : Nat} {p : ByteArray × Int} (h : ps[k]? = some p) (hp : pAt ps k = true) : pv p = true := by
  unfold pAt at hp
  rw [h] at hp
  simp only [Bool.and_eq_true] at hp
  exact hp.1
set_option maxRecDepth 100000 in
theorem psv_mem {ps : List (ByteArray × Int)} (h : psv ps = true) {p : ByteArray × Int} (hp : p ∈ ps) : pv p = true := by
  simp only [psv, Bool.and_eq_true] at h
  obtain ⟨k, hk⟩ := List.getElem?_of_mem hp
  have hkl := (List.getElem?_eq_some_iff.1 hk).1
  have := pUp_mono (k := k + 1) h.1 (by omega)
  rw [pUp_succ] at this
  simp only [Bool.and_eq_true] at this
  exact pAt_at hk this.2
set_option maxRecDepth 100000 in
theorem psv_len {ps : List (ByteArray × Int)} (h : psv ps = true) : ps.length ≤ 12 := by
  simp only [psv, Bool.and_eq_true, decide_eq_true_eq] at h
  exact h.2
set_option maxRecDepth 100000 in
theorem pv_iff {p : ByteArray × Int} : pv p = true ↔ bt p.1 = true ∧ 1 ≤ p.2 ∧ p.2 ≤ 99 := by
  simp [pv, inB_iff]
set_option maxRecDepth 100000 in
theorem pAt_no {ps : List (ByteArray × Int)} {k : Nat} {p : ByteArray × Int} (h : ps[k]? = some p) (hp : pv p = false) : pAt ps k = false := by
  unfold pAt; rw [h]; simp [hp]
set_option maxRecDepth 100000 in
theorem pAt_zero {ps : List (ByteArray × Int)} {p : ByteArray × Int} (h : ps[0]? = some p) : pAt ps 0 = pv p := by
  unfold pAt; rw [h]; simp
set_option maxRecDepth 100000 in
theorem pAt_succ {ps : List (ByteArray × Int)} {k : Nat} {p q : ByteArray × Int} (h : ps[k + 1]? = some p) (hq : ps[k]? = some q) : pAt ps (k + 1) = (pv p && lts q.1 p.1) := by
  unfold pAt; rw [h]; simp [hq]
/-- Piles are valid, and fit n candidates. -/
def fitV (ps : List (ByteArray × Int)) (n : Int) : Bool := psv ps && inB n 1 5 && ps.all fun p => bp n (bal p.1)
set_option maxRecDepth 100000 in
theorem fitV_iff {ps : List (ByteArray × Int)} {n : Int} : fitV ps n = true ↔ psv ps = true ∧ (1 ≤ n ∧ n ≤ 5) ∧ ∀ p ∈ ps, bp n (bal p.1) = true := by
  simp only [fitV, Bool.and_eq_true, inB_iff, List.all_eq_true, and_assoc]
set_option maxRecDepth 100000 in
theorem fitV_bad {ps : List (ByteArray × Int)} {n : Int} {p : ByteArray × Int} (hp : p ∈ ps) (h : bv (balP p.1) n = false) : fitV ps n = false := by
  cases hf : fitV ps n
  · rfl
  · obtain ⟨h1, h2, h3⟩ := fitV_iff.1 hf
    have hb := (pv_iff.1 (psv_mem h1 hp)).1
    rw [balP_t hb] at h
    have : inB n 1 5 = true := inB_t h2
    simp [bv, this, h3 p hp] at h
set_option maxRecDepth 100000 in
/-- What the loops over piles come to. -/
theorem fitV_all {ps : List (ByteArray × Int)} {n : Int} (h : ∀ p ∈ ps, bv (balP p.1) n = true) : fitV ps n = (psv ps && inB n 1 5) := by
  cases hv : psv ps
  · simp [fitV, hv]
  · cases hn : inB n 1 5
    · simp [fitV, hn]
    · have : (ps.all fun p => bp n (bal p.1)) = true := by
        rw [List.all_eq_true]
        intro p hp
        have h1 := h p hp
        rw [balP_t (pv_iff.1 (psv_mem hv hp)).1] at h1
        simp only [bv, Bool.and_eq_true] at h1
        exact h1.2
      simp [fitV, hv, hn, this]
set_option maxRecDepth 100000 in
theorem fitV_no {ps : List (ByteArray × Int)} {n : Int} (h : (psv ps && inB n 1 5) = false) : fitV ps n = false := by simp [fitV, h]
/-- The piles' ballots and how many. -/
def pl (ps : List (ByteArray × Int)) : List Pl := ps.map fun p => ⟨bal p.1, p.2⟩
/-- What is known of piles that fit. -/
structure FitOk (ps : List (ByteArray × Int)) (n : Nat) : Prop where
  n1 : 1 ≤ n
  n5 : n ≤ 5
  len : ps.length ≤ 12
  bts : ∀ p ∈ ps, bt p.1 = true
  many : ∀ p ∈ ps, 1 ≤ p.2 ∧ p.2 ≤ 99
  rng : ∀ p ∈ ps, ∀ c ∈ bal p.1, 0 ≤ c ∧ c < n
  nod : ∀ p ∈ ps, (bal p.1).Nodup
set_option maxRecDepth 100000 in
theorem fitOk_of {ps : List (ByteArray × Int)} {n : Nat} (h : fitV ps n = true) : FitOk ps n := by
  obtain ⟨h1, h2, h3⟩ := fitV_iff.1 h
  exact ⟨by omega, by omega, psv_len h1, fun p hp => (pv_iff.1 (psv_mem h1 hp)).1, fun p hp => (pv_iff.1 (psv_mem h1 hp)).2,
    fun p hp c hc => by have := (bp_iff.1 (h3 p hp)).1 c hc; omega, fun p hp => (bp_iff.1 (h3 p hp)).2⟩
end Go.Proofs.Ytiinfbjlkbjmmaa
/-
  Slices of truths; the reference's functions that tell who has the greatest count, and who of some comes first in the lots.
-/
namespace Go.Proofs.Ytiinfbjlkbjmmaa
open Go.RowKit
/-- The slice of truths at A reads as bs. -/
def Bools (w : World) (A : Option Addr) (bs : List Bool) : Prop :=
  0 < bs.length → ∃ ad, A = some ad ∧ ∀ j x, bs[j]? = some x → w.cell? (ad.add j) = some (.bool x)
section
variable {w w' : World} {A : Option Addr} {bs : List Bool}
set_option maxRecDepth 100000 in
theorem Bools.at_ (h : Bools w A bs) {k : Nat} (hk : k < bs.length) :
    ∃ ad x, A = some ad ∧ Hid (bs[k]? = some x) ∧ w.cell? (ad.add k) = some (.bool x) := by
  obtain ⟨ad, e, hc⟩ := h (by omega)
  exact ⟨ad, bs[k], e, List.getElem?_eq_getElem hk, hc k _ (List.getElem?_eq_getElem hk)⟩
set_option maxRecDepth 100000 in
theorem Bools.keep (h : Bools w A bs) (hk : ∀ ad, A = some ad → 0 < bs.length → ad.block < w.heap.size → w'.heap[ad.block]? = w.heap[ad.block]?) : Bools w' A bs := by
  intro hn
  obtain ⟨ad, e, hc⟩ := h hn
  refine ⟨ad, e, fun j x hx => ?_⟩
  have h1 := hc j x hx
  have hlt := World.block_lt_of_cell? w _ h1
  rw [block_add] at hlt
  rw [← h1]
  exact World.cell?_of_block (w := w) (by rw [block_add]; exact hk ad e hn hlt)
set_option maxRecDepth 100000 in
theorem Bools.below (h : Bools w A bs) (hb : Below w.heap.size w w') : Bools w' A bs := h.keep fun _ _ _ hlt => hb.block _ hlt
set_option maxRecDepth 100000 in
theorem Bools.drewN (h : Bools w A bs) (n : Nat) : Bools (w.drewN n) A bs := h
set_option maxRecDepth 100000 in
theorem Bools.alloc (h : Bools w A bs) (o : Obj) : Bools (w.alloc o) A bs := h.keep fun _ _ _ hlt => Below.heap_alloc w o _ hlt
end
/-- The slice is one of truths that the call owns, in a block from base on. -/
def OwnB (w : World) (base : Nat) (A : Option Addr) (n c : Nat) (bs : List Bool) : Prop := bs.length = n ∧ w.ownsRow base 4 1 (.slice A n c) n (bs.map Value.bool)
set_option maxRecDepth 100000 in
theorem infoBool : (Try.prog.info? 4).map (fun i => (i.zero, i.size, i.bytes)) = some (some (.bool false), 1, 1) := by kernel_rfl
section
variable {w w' : World} {base : Nat} {A : Option Addr} {n c : Nat} {bs : List Bool}
set_option maxRecDepth 100000 in
theorem OwnB.bools (h : OwnB w base A n c bs) : Bools w A bs := by
  intro hn
  obtain ⟨hl, h⟩ := h
  have h0 := h
  rcases h.2 with ⟨hv, h0⟩ | ⟨g, cap, cur, hv, _⟩
  · omega
  · injection hv with hA
    subst hA
    refine ⟨_, rfl, fun j x hx => ?_⟩
    exact World.ownsRow.cells h0 (g := g) rfl j _ (by simp [hx])
set_option maxRecDepth 100000 in
theorem OwnB.alloc (h : OwnB w base A n c bs) (o : Obj) : OwnB (w.alloc o) base A n c bs := ⟨h.1, World.ownsRow.alloc h.2 o⟩
set_option maxRecDepth 100000 in
theorem OwnB.drewN (h : OwnB w base A n c bs) (m : Nat) : OwnB (w.drewN m) base A n c bs := h
set_option maxRecDepth 100000 in
theorem OwnB.below (h : OwnB w base A n c bs) (hb : Below w.heap.size w w') : OwnB w' base A n c bs :=
  ⟨h.1, World.ownsRow.kept h.2 (row := none) ⟨hb.os, hb.tape, hb.output, hb.size, fun k hk _ => hb.block k hk⟩ (by cases hv : (Value.slice A n c).ownBlock <;> simp)⟩
set_option maxRecDepth 100000 in
theorem OwnB.congr {ys : List Bool} (h : OwnB w base A n c bs) (e : bs = ys) : OwnB w base A n c ys := e ▸ h
end
set_option maxRecDepth 100000 in
theorem ownB_of_row {w : World} {base : Nat} {A : Option Addr} {n c : Nat} {bs : List Bool} (h : w.ownsRow base 4 1 (.slice A n c) n (bs.map Value.bool)) : OwnB w base A n c bs := ⟨by simpa using h.1, h⟩
set_option maxRecDepth 100000 in
/-- An empty slice that is not nil. -/
theorem ownB_empty (w : World) {base : Nat} (hb : base ≤ w.heap.size) : OwnB (w.alloc (.cells #[] 4)) base (some ⟨w.heap.size, 0, none⟩) 0 0 [] :=
  ⟨rfl, World.ownsRow_made w #[] 0 hb (by simp [maxLen]) (by simp)⟩
/-- It returns a new slice that reads as bs; nothing that was there has turned. -/
def NewB (w : World) (bs : List Bool) (e : Ending) (w' : World) : Prop := ∃ A c, e = .returned (.slice A bs.length c) ∧ OwnB w' w.heap.size A bs.length c bs ∧ Below w.heap.size w w'
set_option maxRecDepth 100000 in
theorem newB_of {w w' : World} {bs : List Bool} {A : Option Addr} {n c : Nat} (ho : OwnB w' w.heap.size A n c bs) (hb : Below w.heap.size w w') : NewB w bs (.returned (.slice A n c)) w' := by
  obtain ⟨rfl, h⟩ := ho
  exact ⟨A, c, rfl, ⟨rfl, h⟩, hb⟩
set_option maxRecDepth 100000 in
/-- 'append(out, y)': y lies in a new block of one cell. -/
theorem wpList_app1B (w : World) {ops : Array Oper} {rest : List Oper} {o : Oper} {a : Act} {Q : Exit → Act → World → Prop}
    (hg : o.guard = none) (s x : Operand) (ho : o.op = .call { callee := .builtin .append, args := #[s, x], argTypes := #[44, 44] })
    (base : Nat) (A : Option Addr) (n c : Nat) (bs : List Bool) (hs : a.eval s = .slice A n c) (hown : OwnB w base A n c bs) (hbase : base ≤ w.heap.size) (hn : n ≤ 1099511627776)
    (y : Bool) (hx : a.eval x = .slice (some ⟨w.heap.size, 0, none⟩) 1 1)
    (hK : ∀ A' c' w', OwnB w' base A' (n + 1) c' (bs ++ [y]) → w.grownBy w' (Value.slice A n c).ownBlock → Below base w w' → wpList Try.prog ops Q rest (a.put o.dst (.slice A' (n + 1) c')) w') :
    wpList Try.prog ops Q (o :: rest) a (w.alloc (.cells #[.bool y] 4)) := by
  obtain ⟨i0, hi, hz0, hz1, hz2⟩ := info_parts infoBool
  refine wpList_append_own _ hg s x 44 ho base 4 i0 (.bool false) 1 1 Try.underlying44 hi hz0 hz1 hz2 rfl (by omega) _ _ _ hs (hown.alloc _).2 ⟨w.heap.size, 0, none⟩ 1 1 [.bool y] hx rfl ?_ ?_ (by simp only [maxLen]; omega) (by omega) (by simp; omega) ?_
  · intro j u hj
    match j, hj with
    | 0, hj =>
      simp at hj
      subst hj
      exact cell_of_row _ w.heap.size 0 #[.bool y] 4 (0, 0) (heap_alloc_new w _)
  · intro u hu
    simp at hu
    subst hu
    rfl
  · intro v' w' h1 h2 _
    obtain ⟨A', c', rfl⟩ := row_form h1
    have h3 : w.grownBy w' (Value.slice A n c).ownBlock :=
      ⟨h2.os, h2.tape, h2.output, by have := h2.size; simp at this; omega, fun k hk hne => (h2.block k (heap_lt hk _) hne).trans (Below.heap_alloc w _ k hk)⟩
    exact hK A' c' w' (ownB_of_row (by simpa using h1)) h3 (below_of_grown h3 hbase (fun k hk => (World.ownsRow.lt hown.2 k hk).1))
end Go.Proofs.Ytiinfbjlkbjmmaa
