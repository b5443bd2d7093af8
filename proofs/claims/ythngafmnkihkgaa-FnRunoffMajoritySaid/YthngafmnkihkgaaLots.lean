/-
  Lots and ballots: each candidate is there once.
-/
import Derived.Test.YthngafmnkihkgaaSmall
import Derived.Test.YthngafmnkihkgaaFrame
namespace Go.Proofs.Ythngafmnkihkgaa
open Go.RowKit
theorem OwnI.le_cap {w : World} {base : Nat} {A : Option Addr} {c : Nat} {xs : List Int} (h : OwnI w base A c xs) : xs.length ≤ c := by
  rcases h.2 with ⟨hv, h0⟩ | ⟨g, cap, cur, hv, hb, hg, h1, _⟩
  · omega
  · injection hv with _ _ hc
    omega
/-- Each is in range and there once. -/
def bp (n : Int) (xs : List Int) : Bool := xs.all (fun x => inB x 0 (n - 1)) && decide xs.Nodup
def bv (xs : List Int) (n : Int) : Bool := inB n 1 5 && bp n xs
def lv (xs : List Int) : Bool := bv xs xs.length
/-- One of them. -/
def has (xs : List Int) (x : Int) : Bool := xs.contains x
theorem has_iff {xs : List Int} {x : Int} : has xs x = true ↔ x ∈ xs := by simp [has]
theorem has_no {xs : List Int} {x : Int} : has xs x = false ↔ x ∉ xs := by simp [has]
theorem has_snoc {xs : List Int} {k : Nat} {x y : Int} (h : xs[k]? = some y) (hn : has (xs.take k) x = false) (hy : (x == y) = false) : has (xs.take (k + 1)) x = false := by
  rw [take_snoc _ _ _ h]
  rw [has_no] at hn ⊢
  simp at hn hy ⊢
  exact ⟨hn, hy⟩
theorem has_t {xs : List Int} {k : Nat} {x : Int} (h : xs[k]? = some x) : has xs x = true := by
  rw [has_iff]
  exact mem_of_at h
theorem bp_iff {n : Int} {xs : List Int} : bp n xs = true ↔ (∀ x ∈ xs, 0 ≤ x ∧ x ≤ n - 1) ∧ xs.Nodup := by
  simp [bp, inB]
theorem bp_nil (n : Int) : bp n [] = true := by simp [bp]
theorem bp_snoc {n : Int} {xs : List Int} {k : Nat} {x : Int} (h : xs[k]? = some x) (hp : bp n (xs.take k) = true) (hi : 0 ≤ x ∧ x ≤ n - 1) (hc : has (xs.take k) x = false) : bp n (xs.take (k + 1)) = true := by
  rw [take_snoc _ _ _ h]
  rw [bp_iff] at hp ⊢
  refine ⟨fun y hy => ?_, ?_⟩
  · rcases List.mem_append.1 hy with hy | hy
    · exact hp.1 y hy
    · simp at hy; subst hy; exact hi
  · rw [List.nodup_append]
    refine ⟨hp.2, by simp, fun a ha b hb => ?_⟩
    rw [has_no] at hc
    simp at hb
    subst hb
    intro e
    subst e
    exact hc ha
theorem bp_range {n : Int} {xs : List Int} {x : Int} (h : x ∈ xs) (hi : ¬(0 ≤ x ∧ x ≤ n - 1)) : bp n xs = false := by
  cases hb : bp n xs
  · rfl
  · exact absurd ((bp_iff.1 hb).1 x h) hi
theorem bp_twice {n : Int} {xs : List Int} {k : Nat} {x : Int} (h : xs[k]? = some x) (hc : has (xs.take k) x = true) : bp n xs = false := by
  cases hb : bp n xs
  · rfl
  · exfalso
    have h1 := (bp_iff.1 hb).2
    obtain ⟨hk, e⟩ := List.getElem?_eq_some_iff.1 h
    rw [has_iff] at hc
    obtain ⟨j, hj, e2⟩ := List.getElem_of_mem hc
    simp at hj
    rw [List.getElem_take] at e2
    have h2 := List.pairwise_iff_getElem.1 h1 j k (by omega) hk (by omega)
    exact h2 (by rw [e2, e])
/-- A place, or one that is less than 0. -/
def IdxR (w : World) (xs : List Int) (x : Int) (e : Ending) (w' : World) : Prop := ∃ r : Int, e = .returned (.int .i64 r) ∧ Hid (decide (r ≥ 0) = has xs x) ∧ w = w'
set_option maxHeartbeats 400000 in
theorem sIndex_any (A : Option Addr) (xs : List Int) (c n : Nat) (x : Int) (w : World) (h : Ints w A xs) (hn : xs.length = n) (hl : n ≤ 1048576) :
    Calls Try.prog 88 #[.slice A n c, .int .i64 x] w (IdxR w xs x) := by
  subst hn
  go_enter Try.func88, Try.ntmps88
  go_wp2
  go_loop [5, 8] (fun _ i => ∃ k : Nat, k ≤ xs.length ∧ i = .int .i64 k ∧ Hid (has (xs.take k) x = false)) (fun _ i => xs.length - (intOf i).toNat)
  case atStart => exact ⟨0, by omega, rfl, by show has [] x = false; rfl⟩
  case round =>
    obtain ⟨k, hk, rfl, hno⟩ := hrel
    by_cases hlt : k < xs.length
    · obtain ⟨ad, y, rfl, hy, hc⟩ := h.at_ hlt
      cases hxy : (x == y)
      · go_wp2
        go_round
        case rel => exact ⟨k + 1, by omega, by go_num, has_snoc hy.out hno.out hxy⟩
        case measure => simp [intOf]; omega
      · have hin := Lib.hid (show has xs x = true from by
          simp at hxy
          subst hxy
          exact has_t hy.out)
        go_wp2
        go_ret
        exact ⟨_, rfl, by show decide _ = _; rw [hin.out]; simp, rfl⟩
    · have h2 : xs.length ≤ k := by omega
      clear hlt
      go_wp2
      go_ret
      exact ⟨_, rfl, by have := hno.out; rw [List.take_of_length_le (by omega)] at this; rw [this]; rfl, rfl⟩
set_option maxHeartbeats 400000 in
theorem sContains_any (A : Option Addr) (xs : List Int) (c n : Nat) (x : Int) (w : World) (h : Ints w A xs) (hn : xs.length = n) (hl : n ≤ 1048576) :
    Calls Try.prog 84 #[.slice A n c, .int .i64 x] w (Ret w (.bool (has xs x))) := by
  go_enter Try.func84, Try.ntmps84
  go_wp2_with (go_at_call 88; refine (sIndex_any _ _ _ _ _ _ h hn hl).mono ?_; rintro e w' ⟨r, rfl, hr, rfl⟩)
  go_ret
  exact ⟨ret_bool hr.out, rfl⟩
set_option maxHeartbeats 400000 in
theorem l1Has_any (A : Option Addr) (xs : List Int) (c n : Nat) (x : Int) (w : World) (h : Ints w A xs) (hn : xs.length = n) (hl : n ≤ 1048576) :
    Calls Try.prog 81 #[.slice A n c, .int .i64 x] w (Ret w (.bool (has xs x))) := by
  subst hn
  go_enter Try.func81, Try.ntmps81
  go_wp2
  go_loop [5] (fun i => ∃ k : Nat, k ≤ xs.length ∧ i = .int .i64 k ∧ Hid (has (xs.take k) x = false)) (fun i => xs.length - (intOf i).toNat)
  case atStart => exact ⟨0, by omega, rfl, by show has [] x = false; rfl⟩
  case round =>
    obtain ⟨k, hk, rfl, hno⟩ := hrel
    by_cases hlt : k < xs.length
    · obtain ⟨ad, y, rfl, hy, hc⟩ := h.at_ hlt
      cases hxy : (y == x)
      · go_wp2
        go_round
        case rel => exact ⟨k + 1, by omega, by go_num, has_snoc hy.out hno.out (by simp at hxy ⊢; omega)⟩
        case measure => simp [intOf]; omega
      · have hin := Lib.hid (show has xs x = true from by
          simp at hxy
          subst hxy
          exact has_t hy.out)
        go_wp2
        go_ret
        exact ⟨ret_bool hin.out.symm, rfl⟩
    · have h2 : xs.length ≤ k := by omega
      clear hlt
      go_wp2
      go_ret
      exact ⟨ret_bool (by have := hno.out; rw [List.take_of_length_le (by omega)] at this; rw [this]), rfl⟩
set_option maxHeartbeats 400000 in
theorem ballotValid_any (A : Option Addr) (xs : List Int) (c : Nat) (n : Int) (w : World) (h : Ints w A xs) (hl : xs.length ≤ 1048576) (hcap : xs.length ≤ c) :
    Calls Try.prog 67 #[.slice A xs.length c, .int .i64 n] w (Ret w (.bool (bv xs n))) := by
  cases hm : inB n 1 5
  · have hf := Lib.hid (show bv xs n = false from by simp [bv, hm])
    go_enter Try.func67, Try.ntmps67
    go_wp2_with (go_at_call 66; refine (isMany_any _ _).mono ?_; rintro e w' ⟨rfl, rfl⟩)
    go_ret
    exact ⟨ret_bool hf.out.symm, rfl⟩
  · have hb0 := Lib.hid (show bv xs n = bp n xs from by simp [bv, hm])
    go_enter Try.func67, Try.ntmps67
    go_wp2_with (go_at_call 66; refine (isMany_any _ _).mono ?_; rintro e w' ⟨rfl, rfl⟩)
    go_loop [5, 6, 12] (fun _ _ i => ∃ k : Nat, k ≤ xs.length ∧ i = .int .i64 k ∧ Hid (bp n (xs.take k) = true)) (fun _ _ i => xs.length - (intOf i).toNat)
    case atStart => exact ⟨0, by omega, rfl, bp_nil n⟩
    case round =>
      obtain ⟨k, hk, rfl, hp⟩ := hrel
      by_cases hlt : k < xs.length
      · obtain ⟨ad, x, rfl, hx, hc⟩ := h.at_ hlt
        by_cases hx0 : 0 ≤ x
        · by_cases hx1 : x < n
          · have hkc : k ≤ c := by omega
            cases hct : has (xs.take k) x
            · go_wp2_with (go_at_call 84; refine (sContains_any _ (xs.take k) _ _ _ _ (h.take k) (by simp; omega) (by omega)).mono ?_; rintro e w' ⟨rfl, rfl⟩)
              go_round
              case rel => exact ⟨k + 1, by omega, by go_num, bp_snoc hx.out hp.out ⟨hx0, by omega⟩ hct⟩
              case measure => simp [intOf]; omega
            · have hf := Lib.hid (bp_twice (n := n) hx.out hct)
              go_wp2_with (go_at_call 84; refine (sContains_any _ (xs.take k) _ _ _ _ (h.take k) (by simp; omega) (by omega)).mono ?_; rintro e w' ⟨rfl, rfl⟩)
              go_ret
              exact ⟨ret_bool (by rw [hb0.out, hf.out]), rfl⟩
          · have hf := Lib.hid (bp_range (n := n) (mem_of_at hx.out) (by omega))
            go_wp2
            go_ret
            exact ⟨ret_bool (by rw [hb0.out, hf.out]), rfl⟩
        · have hf := Lib.hid (bp_range (n := n) (mem_of_at hx.out) (by omega))
          go_wp2
          go_ret
          exact ⟨ret_bool (by rw [hb0.out, hf.out]), rfl⟩
      · have h2 : xs.length ≤ k := by omega
        clear hlt
        go_wp2
        go_ret
        exact ⟨ret_bool (by have := hp.out; rw [List.take_of_length_le (by omega)] at this; rw [hb0.out, this]), rfl⟩
set_option maxHeartbeats 400000 in
theorem lotsValid_any (A : Option Addr) (xs : List Int) (c : Nat) (w : World) (h : Ints w A xs) (hl : xs.length ≤ 1048576) (hcap : xs.length ≤ c) :
    Calls Try.prog 57 #[.slice A xs.length c] w (Ret w (.bool (lv xs))) := by
  by_cases h0 : 0 < xs.length
  · go_enter Try.func57, Try.ntmps57
    go_wp2_with (go_at_call 67; refine (ballotValid_any _ _ _ _ _ h hl hcap).mono ?_; rintro e w' ⟨rfl, rfl⟩)
    go_ret
    exact ⟨rfl, rfl⟩
  · have hf := Lib.hid (show lv xs = false from by simp [lv, bv, inB]; omega)
    go_enter Try.func57, Try.ntmps57
    go_wp2
    go_ret
    exact ⟨ret_bool hf.out.symm, rfl⟩
set_option maxHeartbeats 1600000 in
theorem specLotsValid_any (A : Option Addr) (xs : List Int) (c : Nat) (w : World) (h : Ints w A xs) (hl : xs.length ≤ 1048576) (hcap : xs.length ≤ c) :
    Calls Try.prog 59 #[.slice A xs.length c] w (Qt w (.bool (lv xs))) := by
  have hL := Lib.hid (show lv xs = (inB xs.length 1 5 && bp xs.length xs) from rfl)
  have cI := Lib.hid (fun (n low high : Int) (w : World) => l6In_any n low high w)
  go_enter Try.func59, Try.ntmps59
  go_wp2
  go_loopw [3] (fun i wr => ∃ k m : Nat, k ≤ xs.length ∧ i = .int .i64 k ∧ Hid (bp xs.length (xs.take k) = true) ∧ wr = w.drewN m) (fun i _ => xs.length - (intOf i).toNat)
  case atStart => exact ⟨0, 0, by omega, rfl, bp_nil _, rfl⟩
  case round =>
    obtain ⟨k, m, hk, rfl, hp, rfl⟩ := hrel
    by_cases hlt : k < xs.length
    · obtain ⟨ad, x, rfl, hx, hc⟩ := h.at_ hlt
      obtain ⟨q, hq⟩ : ∃ q : Int, q = xs.length - 1 := ⟨_, rfl⟩
      have hkc : k ≤ c := by omega
      have hw1 : IntKind.i64.wrap ((xs.length : Int) - 1) = q := by rw [hq]; exact IntWalk.i64_in _ (by omega)
      have cH := Lib.hid (fun (w' : World) (hh : Ints w' (some ad) (xs.take k)) => l1Has_any (some ad) (xs.take k) c k x w' hh (by simp; omega) (by omega))
      have hT := h.take k
      cases hi : inB x 0 q
      · have hf := Lib.hid (bp_range (n := xs.length) (mem_of_at hx.out) (by simp [inB] at hi; omega))
        clear hq
        go_wp2
        go_quiet (first | (go_at_call 44; exact Ret.quiet_add (cI.out _ _ _ _)) | (go_at_call 81; exact Ret.quiet_add (cH.out _ (hT.drewN _))))
        clear hw1
        go_wp2
        go_ret
        exact ⟨ret_bool (by rw [hL.out, hf.out]; simp), _, World.drewN_drewN _ _ _⟩
      · have hir : 0 ≤ x ∧ x ≤ (xs.length : Int) - 1 := by simp [inB] at hi; omega
        cases hct : has (xs.take k) x
        · have hs := Lib.hid (bp_snoc hx.out hp.out hir hct)
          clear hq hir
          rw [hct] at cH
          go_wp2
          go_quiet (first | (go_at_call 44; exact Ret.quiet_add (cI.out _ _ _ _)) | (go_at_call 81; exact Ret.quiet_add (cH.out _ (hT.drewN _))))
          clear hw1
          go_wp2
          go_roundw
          case rel => exact ⟨k + 1, _, by omega, by go_num, hs, rfl⟩
          case measure => simp [intOf]; omega
        · have hf := Lib.hid (bp_twice (n := xs.length) hx.out hct)
          clear hq hir
          rw [hct] at cH
          go_wp2
          go_quiet (first | (go_at_call 44; exact Ret.quiet_add (cI.out _ _ _ _)) | (go_at_call 81; exact Ret.quiet_add (cH.out _ (hT.drewN _))))
          clear hw1
          go_wp2
          go_ret
          exact ⟨ret_bool (by rw [hL.out, hf.out]; simp), _, World.drewN_drewN _ _ _⟩
    · have h2 : xs.length ≤ k := by omega
      clear hlt
      have hh := Lib.hid (show lv xs = inB xs.length 1 5 from by
        have := hp.out; rw [List.take_of_length_le (by omega)] at this; rw [hL.out, this]; simp)
      go_wp2_with (go_at_call 44; refine (l6In_any _ _ _ _).mono ?_; rintro e w' ⟨rfl, rfl⟩)
      go_ret
      exact ⟨ret_bool hh.out.symm, _, rfl⟩
end Go.Proofs.Ythngafmnkihkgaa
