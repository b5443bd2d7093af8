/-
  Differences of votes and seats, gaps and squares, fair seats, checked seats.
-/
import Derived.Test.YtimldfknbeiadaaSeats
import Derived.Test.YtimldfknbeiadaaApp
import Derived.Test.YtimldfknbeiadaaFrame
import Derived.StillTailTactics
namespace Go.Proofs.Ytimldfknbeiadaa
open Go.RowKit
def diffs (xs gs : List Int) : List Int := List.zipWith (fun a b => a * gs.sum - b * xs.sum) xs gs
theorem diffs_length {xs gs : List Int} (h : gs.length = xs.length) : (diffs xs gs).length = xs.length := by simp [diffs, h]
theorem diffs_at {xs gs : List Int} {k : Nat} {x g : Int} (hx : xs[k]? = some x) (hg : gs[k]? = some g) : (diffs xs gs)[k]? = some (x * gs.sum - g * xs.sum) := by
  simp [diffs, List.getElem?_zipWith, hx, hg]
/-- What valid votes and seats give. -/
theorem valid_facts {xs gs : List Int} (hv : vv xs = true) (hg : gv gs xs.length = true) :
    gs.length = xs.length ∧ (1 ≤ xs.length ∧ xs.length ≤ 5) ∧ (1 ≤ xs.sum ∧ xs.sum ≤ 495) ∧ (0 ≤ gs.sum ∧ gs.sum ≤ 20) ∧ (∀ x ∈ xs, 0 ≤ x ∧ x ≤ 99) ∧ (∀ x ∈ gs, 0 ≤ x ∧ x ≤ 20) := by
  obtain ⟨a1, a2, a3⟩ := vv_iff.1 hv
  obtain ⟨b1, b2, b3⟩ := gv_iff.1 hg
  have := sum_bd xs 99 (fun x hx => by have := a1 x hx; omega)
  have := sum_nonneg gs (fun x hx => (b1 x hx).1)
  exact ⟨by omega, a2, by omega, by omega, a1, b1⟩
theorem wide {xs : List Int} {M : Int} (h : ∀ x ∈ xs, 0 ≤ x ∧ x ≤ M) (hM : M ≤ 1000000000) : ∀ x ∈ xs, -1000000000 ≤ x ∧ x ≤ 1000000000 := fun x hx => by have := h x hx; omega
set_option maxHeartbeats 400000 in
theorem differences_any (A A' : Option Addr) (xs gs : List Int) (c c' : Nat) (w : World) (h : Ints w A xs) (h' : Ints w A' gs) (hv : vv xs = true) (hg : gv gs xs.length = true) :
    Calls Try.prog 61 #[.slice A xs.length c, .slice A' gs.length c'] w (NewI w (diffs xs gs)) := by
  obtain ⟨hlen, ⟨hl1, hl5⟩, ⟨hs0, hs1⟩, ⟨hg0, hg1⟩, hxb, hgb⟩ := valid_facts hv hg
  have HL := Lib.hid hlen
  have HD := Lib.hid (diffs_length hlen)
  have HX := Lib.hid hxb
  have HG := Lib.hid hgb
  clear hxb hgb
  have hlg : gs.length ≤ 5 := by omega
  clear hlen
  go_enter Try.func61, Try.ntmps61
  go_wp2_with (at_make; refine wpList_makeI _ rfl _ _ rfl xs.length rfl rfl (by omega) ?_; intro w1 hown hbel hsz)
  go_loopw [6, 12] (fun _ i wr => ∃ k : Nat, k ≤ xs.length ∧ i = .int .i64 k ∧ OwnI wr w.heap.size (some ⟨w.heap.size, 0, none⟩) xs.length (fill (diffs xs gs) k) ∧ Below w.heap.size w wr) (fun _ i _ => xs.length - (intOf i).toNat)
  case atStart => exact ⟨0, by omega, rfl, by rw [fill_zero, HD.out]; assumption, by assumption⟩
  case round =>
    obtain ⟨k, hk, rfl, hown, hbel⟩ := hrel
    by_cases hlt : k < xs.length
    · have hi := h.below hbel
      have hi' := h'.below hbel
      obtain ⟨ad, x, rfl, hx, hc⟩ := hi.at_ hlt
      obtain ⟨ad', g, rfl, hgx, hc'⟩ := hi'.at_ (k := k) (by have := HL.out; omega)
      have hat := Lib.hid (diffs_at hx.out hgx.out)
      obtain ⟨hx0, hx1⟩ := HX.out x (mem_of_at hx.out)
      obtain ⟨hgx0, hgx1⟩ := HG.out g (mem_of_at hgx.out)
      obtain ⟨hm0, hm1⟩ := mul_bd (M := 99) (N := 20) ⟨hx0, hx1⟩ ⟨hg0, hg1⟩
      obtain ⟨hn0, hn1⟩ := mul_bd (a := g) (b := xs.sum) (M := 20) (N := 495) ⟨hgx0, hgx1⟩ ⟨by omega, hs1⟩
      have hc2 := hown.cell (fill_at (diffs xs gs) (by rw [HD.out]; exact hlt))
      have hf2 := hown.frozen k
      have hkg : k < gs.length := by have := HL.out; omega
      have q1 : IntKind.i64.wrap (x * gs.sum) = x * gs.sum := IntWalk.i64_in _ (by omega)
      have q2 : IntKind.i64.wrap (g * xs.sum) = g * xs.sum := IntWalk.i64_in _ (by omega)
      have q3 : IntKind.i64.wrap (x * gs.sum - g * xs.sum) = x * gs.sum - g * xs.sum := IntWalk.i64_in _ (by omega)
      go_wp2
      refine wp_still_tail 17 (by kernel_rfl) (by kernel_rfl) ?_
      simp only [List.take_succ_cons, List.take_zero, List.drop_succ_cons, List.drop_zero]
      repeat (first | still_step | still_call (Ret.still (implSum_any _ _ _ _ hi.drew (by omega) (wide HX.out (by omega)))) | still_call (Ret.still (implSum_any _ _ _ _ hi'.drew (by omega) (wide HG.out (by omega)))))
      refine wpStill_nil ?_
      go_wp2
      go_roundw
      case rel => exact ⟨k + 1, by omega, by go_num, (hown.set k _).congr (fill_set _ hat.out), hbel.drew.setCell (Nat.le_refl _) _⟩
      case measure => simp [intOf]; omega
    · obtain rfl : k = xs.length := by omega
      clear hlt
      go_wp2
      go_ret
      exact newI_of HD.out (hown.congr (by rw [← HD.out, fill_all])) hbel
set_option maxHeartbeats 400000 in
theorem l23Diffs_any (A A' : Option Addr) (xs gs : List Int) (c c' : Nat) (w : World) (h : Ints w A xs) (h' : Ints w A' gs) (hv : vv xs = true) (hg : gv gs xs.length = true) :
    Calls Try.prog 62 #[.slice A xs.length c, .slice A' gs.length c'] w (NewI w (diffs xs gs)) := by
  obtain ⟨hlen, ⟨hl1, hl5⟩, ⟨hs0, hs1⟩, ⟨hg0, hg1⟩, hxb, hgb⟩ := valid_facts hv hg
  have HL := Lib.hid hlen
  have HD := Lib.hid (diffs_length hlen)
  have HX := Lib.hid hxb
  have HG := Lib.hid hgb
  clear hxb hgb
  have hlg : gs.length ≤ 5 := by omega
  clear hlen
  go_enter Try.func62, Try.ntmps62
  go_wp2
  go_loopw [5, 6] (fun o i wr => ∃ (k : Nat) (B : Option Addr) (d : Nat), k ≤ xs.length ∧ i = .int .i64 k ∧ o = .slice B k d ∧ OwnN wr w.heap.size B k d ((diffs xs gs).take k) ∧ Below w.heap.size w wr) (fun _ i _ => xs.length - (intOf i).toNat)
  case atStart => exact ⟨0, _, _, by omega, rfl, rfl, ⟨rfl, own_empty w (Nat.le_refl _)⟩, (Below.refl _ _).alloc (Nat.le_refl _) _⟩
  case round =>
    obtain ⟨k, B, d, hk, rfl, rfl, hown, hbel⟩ := hrel
    by_cases hlt : k < xs.length
    · have hi := h.below hbel
      have hi' := h'.below hbel
      have hkg : k < gs.length := by have := HL.out; omega
      obtain ⟨ad, x, rfl, hx, hc⟩ := hi.at_ hlt
      obtain ⟨ad', g, rfl, hgx, hc'⟩ := hi'.at_ hkg
      have hat := Lib.hid (diffs_at hx.out hgx.out)
      obtain ⟨hx0, hx1⟩ := HX.out x (mem_of_at hx.out)
      obtain ⟨hgx0, hgx1⟩ := HG.out g (mem_of_at hgx.out)
      obtain ⟨hm0, hm1⟩ := mul_bd (M := 99) (N := 20) ⟨hx0, hx1⟩ ⟨hg0, hg1⟩
      obtain ⟨hn0, hn1⟩ := mul_bd (a := g) (b := xs.sum) (M := 20) (N := 495) ⟨hgx0, hgx1⟩ ⟨by omega, hs1⟩
      have q1 : IntKind.i64.wrap (x * gs.sum) = x * gs.sum := IntWalk.i64_in _ (by omega)
      have q2 : IntKind.i64.wrap (g * xs.sum) = g * xs.sum := IntWalk.i64_in _ (by omega)
      have q3 : IntKind.i64.wrap (x * gs.sum - g * xs.sum) = x * gs.sum - g * xs.sum := IntWalk.i64_in _ (by omega)
      go_wp2
      have hsz := hbel.size
      have cS := Lib.hid (show ∀ (A : Option Addr) (ys : List Int) (c : Nat) (w' : World), (ys = xs ∨ ys = gs) → Ints w' A ys → Calls Try.prog 52 #[.slice A ys.length c] w' (Ret w' (.int .i64 ys.sum)) from
        fun A ys c w' hy hj => by rcases hy with rfl | rfl; exact l22Sum_any _ _ _ _ hj (by omega) (wide HX.out (by omega)); exact l22Sum_any _ _ _ _ hj (by omega) (wide HG.out (by omega)))
      go_region_held3 (fun w' => w'.cell? (ad.add k) = some (.int .i64 x) ∧ w'.cell? (ad'.add k) = some (.int .i64 g) ∧ Ints w' (some ad) xs ∧ Ints w' (some ad') gs) (first | (refine ⟨?_, ?_, ?_, ?_⟩ <;> first | assumption | (exact Ints.drew (by assumption)) | (exact Ints.alloc (by assumption) _) | (exact cell_drew (by assumption)) | (exact cell_alloc (by assumption) _) | (exact Ints.cell_of (h.below ((Below.drew (below_alloc hbel _)).trans (by assumption))) hx.out) | (exact Ints.cell_of (h'.below ((Below.drew (below_alloc hbel _)).trans (by assumption))) hgx.out) | (exact h.below ((Below.drew (below_alloc hbel _)).trans (by assumption))) | (exact h'.below ((Below.drew (below_alloc hbel _)).trans (by assumption))))) (first | (go_at_call 52; refine (cS.out _ _ _ _ (by first | exact .inl rfl | exact .inr rfl) (by assumption)).mono ?_; rintro e w' ⟨rfl, rfl⟩) | (refine step_app1 _ rfl (.tmp 14) (.tmp 30) rfl w.heap.size _ k _ _ rfl (OwnN.drew (OwnN.alloc hown _)) (below_sz (Below.drew (below_alloc hbel _))) (by omega) _ _ _ rfl (cell_drew (new_cell wr _)) ?_; intro A' c' w' hown' hgr' hbl'))
      clear q1 q2 q3
      go_wp2
      go_roundw
      case rel => exact ⟨k + 1, _, _, by omega, by go_num, rfl, ⟨by simp [HD.out]; omega, hown'.2.congr (by rw [take_snoc _ _ _ hat.out])⟩, (Below.drew (below_alloc hbel _)).trans hbl'⟩
      case measure => simp [intOf]; omega
    · obtain rfl : k = xs.length := by omega
      clear hlt
      obtain ⟨hlen, hown⟩ := hown
      clear hlen
      go_wp2
      go_ret
      exact newI_of HD.out (hown.congr (by rw [← HD.out, List.take_length])) hbel
/-- The sum of the numbers without their signs. -/
def gapL (ds : List Int) : Int := (ds.map fun d => max d (-d)).sum
def sqL (ds : List Int) : Int := (ds.map fun d => d * d).sum
theorem gapL_snoc (ds : List Int) (k : Nat) (d : Int) (h : ds[k]? = some d) : gapL (ds.take (k + 1)) = gapL (ds.take k) + max d (-d) := by
  unfold gapL; rw [take_snoc ds k d h, List.map_append, sum_append]; simp
theorem sqL_snoc (ds : List Int) (k : Nat) (d : Int) (h : ds[k]? = some d) : sqL (ds.take (k + 1)) = sqL (ds.take k) + d * d := by
  unfold sqL; rw [take_snoc ds k d h, List.map_append, sum_append]; simp
theorem gapL_bd (ds : List Int) (M : Int) (h : ∀ d ∈ ds, -M ≤ d ∧ d ≤ M) : 0 ≤ gapL ds ∧ gapL ds ≤ M * ds.length := by
  induction ds with
  | nil => simp [gapL]
  | cons a t ih =>
    have h1 := h a (by simp)
    have h2 := ih (fun x hx => h x (by simp [hx]))
    have e : gapL (a :: t) = max a (-a) + gapL t := by simp [gapL]
    have : M * ((t.length + 1 : Nat) : Int) = M * t.length + M := by push_cast; rw [Int.mul_add, Int.mul_one]
    rw [e]; simp only [List.length_cons]; omega
theorem sq_bd {d M : Int} (h : -M ≤ d ∧ d ≤ M) : 0 ≤ d * d ∧ d * d ≤ M * M := by
  rcases Int.le_total 0 d with h0 | h0
  · exact mul_bd ⟨h0, h.2⟩ ⟨h0, h.2⟩
  · have := mul_bd (a := -d) (b := -d) (M := M) (N := M) ⟨by omega, by omega⟩ ⟨by omega, by omega⟩
    rwa [Int.neg_mul_neg] at this
theorem sqL_bd (ds : List Int) (M : Int) (h : ∀ d ∈ ds, -M ≤ d ∧ d ≤ M) : 0 ≤ sqL ds ∧ sqL ds ≤ M * M * ds.length := by
  induction ds with
  | nil => simp [sqL]
  | cons a t ih =>
    have h1 := sq_bd (h a (by simp))
    have h2 := ih (fun x hx => h x (by simp [hx]))
    have e : sqL (a :: t) = a * a + sqL t := by simp [sqL]
    have : M * M * ((t.length + 1 : Nat) : Int) = M * M * t.length + M * M := by push_cast; rw [Int.mul_add, Int.mul_one]
    rw [e]; simp only [List.length_cons]; omega
theorem diffs_bd {xs gs : List Int} (hv : vv xs = true) (hg : gv gs xs.length = true) : ∀ d ∈ diffs xs gs, -10000 ≤ d ∧ d ≤ 10000 := by
  obtain ⟨hlen, ⟨hl1, hl5⟩, ⟨hs0, hs1⟩, ⟨hg0, hg1⟩, hxb, hgb⟩ := valid_facts hv hg
  intro d hd
  obtain ⟨k, hk⟩ := List.getElem?_of_mem hd
  have hk' := (List.getElem?_eq_some_iff.1 hk).1
  rw [diffs_length hlen] at hk'
  have hx : xs[k]? = some xs[k] := List.getElem?_eq_getElem hk'
  have hgk : gs[k]? = some (gs[k]'(by omega)) := List.getElem?_eq_getElem (by omega)
  have e := diffs_at hx hgk
  rw [hk] at e
  injection e with e
  obtain ⟨hm0, hm1⟩ := mul_bd (M := 99) (N := 20) (hxb _ (mem_of_at hx)) ⟨hg0, hg1⟩
  obtain ⟨hn0, hn1⟩ := mul_bd (b := xs.sum) (M := 20) (N := 495) (hgb _ (mem_of_at hgk)) ⟨by omega, hs1⟩
  omega
def gapF (xs gs : List Int) : Int := if (vv xs && gv gs xs.length) = true then gapL (diffs xs gs) else -1
def sqF (xs gs : List Int) : Int := if (vv xs && gv gs xs.length) = true then sqL (diffs xs gs) else -1
set_option maxHeartbeats 400000 in
theorem implGap_any (A A' : Option Addr) (xs gs : List Int) (c c' : Nat) (w : World) (h : Ints w A xs) (h' : Ints w A' gs) (hl : xs.length ≤ 1048576) (hl' : gs.length ≤ 1048576) :
    Calls Try.prog 30 #[.slice A xs.length c, .slice A' gs.length c'] w (Bl w (.int .i64 (gapF xs gs))) := by
  cases hall : vv xs && gv gs xs.length
  · have hq := Lib.hid (show gapF xs gs = -1 from by simp [gapF, hall])
    go_enter Try.func30, Try.ntmps30
    go_wp2_with (go_at_call 56; refine (seatsValid_any _ _ _ _ _ _ _ h h' hl hl').mono ?_; rintro e w' ⟨rfl, rfl⟩)
    go_ret
    exact ⟨ret_int hq.out.symm, Below.refl _ _⟩
  · have hq := Lib.hid (show gapF xs gs = gapL (diffs xs gs) from by simp [gapF, hall])
    have hh : vv xs = true ∧ gv gs xs.length = true := by simpa using hall
    obtain ⟨hv, hg⟩ := hh
    have HB := Lib.hid (diffs_bd hv hg)
    have hdl : (diffs xs gs).length ≤ 5 := by have := valid_facts hv hg; rw [diffs_length this.1]; omega
    go_enter Try.func30, Try.ntmps30
    go_wp2_with (first | (go_at_call 56; refine (seatsValid_any _ _ _ _ _ _ _ h h' hl hl').mono ?_; rintro e w' ⟨rfl, rfl⟩) | (go_at_call 61; refine (differences_any _ _ _ _ _ _ _ h h' hv hg).mono ?_; rintro e w1 ⟨A1, c1, rfl, hown, hbel⟩))
    have hi := hown.ints
    generalize diffs xs gs = ds at hi hdl HB hq hown
    go_loop [5, 16] (fun n i => ∃ k : Nat, k ≤ ds.length ∧ i = .int .i64 k ∧ n = .int .i64 (gapL (ds.take k))) (fun _ i => ds.length - (intOf i).toNat)
    case atStart => exact ⟨0, by omega, rfl, rfl⟩
    case round =>
      obtain ⟨k, hk, rfl, rfl⟩ := hrel
      have hbd := gapL_bd (ds.take k) 10000 (fun x hx => HB.out x (mem_take hx))
      have hlk : (ds.take k).length ≤ k := List.length_take_le _ _
      by_cases hlt : k < ds.length
      · obtain ⟨ad, x, rfl, hx, hc⟩ := hi.at_ hlt
        obtain ⟨hx0, hx1⟩ := HB.out x (mem_of_at hx.out)
        by_cases hs : 0 ≤ x
        · go_wp2
          go_round
          case rel => exact ⟨k + 1, by omega, by go_num, by rw [gapL_snoc _ _ _ hx.out]; exact val_int (by omega)⟩
          case measure => simp [intOf]; omega
        · go_wp2
          go_round
          case rel => exact ⟨k + 1, by omega, by go_num, by rw [gapL_snoc _ _ _ hx.out]; exact val_int (by omega)⟩
          case measure => simp [intOf]; omega
      · have h2 : ds.length ≤ k := by omega
        clear hlt
        go_wp2
        go_ret
        exact ⟨ret_int (by rw [hq.out, List.take_of_length_le (by omega)]), by assumption⟩
end Go.Proofs.Ytimldfknbeiadaa
