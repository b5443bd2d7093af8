/-
  The party that gets the next seat, of the program and of the reference.
-/
import Derived.Test.YtoblhmbpobbecaaLots
import Derived.Test.YtoblhmbpobbecaaSeats
namespace Go.Proofs.Ytoblhmbpobbecaa
open Go.RowKit
theorem dv_bd' {s m : Int} (hm : m = 1 ∨ m = 2) (h0 : 0 ≤ s) (h1 : s ≤ 20) : 1 ≤ dv s m ∧ dv s m ≤ 41 := by
  rcases hm with rfl | rfl <;> unfold dv <;> omega
/-- What the next seat needs. -/
structure NextOk (xs gs : List Int) (m : Int) (ls : List Int) : Prop where
  xb : ∀ x ∈ xs, 0 ≤ x ∧ x ≤ 99
  gb : ∀ g ∈ gs, 0 ≤ g ∧ g ≤ 20
  gl : gs.length = xs.length
  ll : ls.length = xs.length
  l1 : 1 ≤ xs.length ∧ xs.length ≤ 5
  hm : m = 1 ∨ m = 2
  lb : ∀ l ∈ ls, 0 ≤ l ∧ l < xs.length
def atI (xs : List Int) (p : Int) : Int := xs.getD p.toNat 0
theorem atI_at {xs : List Int} {p : Nat} {x : Int} (h : xs[p]? = some x) : atI xs p = x := by simp [atI, h]
def stepN (xs gs : List Int) (m b p : Int) : Int := if atI xs b * dv (atI gs p) m < atI xs p * dv (atI gs b) m then p else b
def nextP (xs gs : List Int) (m : Int) (ls : List Int) : Int := ls.foldl (stepN xs gs m) (ls.headD 0)
theorem stepN_t {xs gs : List Int} {m : Int} {b p : Nat} {x y g e : Int} (hx : xs[p]? = some x) (hy : xs[b]? = some y) (hg : gs[b]? = some g) (he : gs[p]? = some e)
    (h : y * dv e m < x * dv g m) : stepN xs gs m b p = p := by unfold stepN; rw [atI_at hx, atI_at hy, atI_at hg, atI_at he, if_pos h]
theorem stepN_f {xs gs : List Int} {m : Int} {b p : Nat} {x y g e : Int} (hx : xs[p]? = some x) (hy : xs[b]? = some y) (hg : gs[b]? = some g) (he : gs[p]? = some e)
    (h : ¬y * dv e m < x * dv g m) : stepN xs gs m b p = b := by unfold stepN; rw [atI_at hx, atI_at hy, atI_at hg, atI_at he, if_neg h]
theorem stepN_self (xs gs : List Int) (m b : Int) : stepN xs gs m b b = b := by unfold stepN; split <;> rfl
theorem fold_snoc {f : Int → Int → Int} {a : Int} {ls : List Int} {k : Nat} {l : Int} (h : ls[k]? = some l) : (ls.take (k + 1)).foldl f a = f ((ls.take k).foldl f a) l := by
  rw [take_snoc _ _ _ h, List.foldl_append]; rfl
theorem headD_at {ls : List Int} {l : Int} (h : ls[0]? = some l) : ls.headD 0 = l := by
  cases ls with
  | nil => simp at h
  | cons a t => simp at h; simp [h]
/-- What one step of the loop reads. -/
structure StepSt (xs gs : List Int) (m : Int) (w : World) (A A' : Option Addr) (b p : Nat) : Prop where
  out : ∃ ad ad' x y g e, A = some ad ∧ A' = some ad' ∧ Hid (xs[p]? = some x) ∧ Hid (xs[b]? = some y) ∧ Hid (gs[b]? = some g) ∧ Hid (gs[p]? = some e)
    ∧ w.cell? (ad.add p) = some (.int .i64 x) ∧ w.cell? (ad.add b) = some (.int .i64 y) ∧ w.cell? (ad'.add b) = some (.int .i64 g) ∧ w.cell? (ad'.add p) = some (.int .i64 e)
    ∧ (0 ≤ g ∧ g ≤ 20) ∧ (0 ≤ e ∧ e ≤ 20) ∧ Hid (IntKind.i64.wrap (x * dv g m) = x * dv g m) ∧ Hid (IntKind.i64.wrap (y * dv e m) = y * dv e m)
theorem NextOk.step {xs gs : List Int} {m : Int} {ls : List Int} (o : NextOk xs gs m ls) {w : World} {A A' : Option Addr} (h : Ints w A xs) (h' : Ints w A' gs) {b p : Nat} (hb : b < xs.length) (hp : p < xs.length) :
    StepSt xs gs m w A A' b p := by
  obtain ⟨ad, x, e1, hx, hc⟩ := h.at_ hp
  obtain ⟨ad2, y, e2, hy, hc2⟩ := h.at_ hb
  obtain ⟨ad', g, e3, hg, hc3⟩ := h'.at_ (show b < gs.length by rw [o.gl]; exact hb)
  obtain ⟨ad3, e, e4, he, hc4⟩ := h'.at_ (show p < gs.length by rw [o.gl]; exact hp)
  rw [e1] at e2; injection e2 with e2; subst e2
  rw [e3] at e4; injection e4 with e4; subst e4
  have b1 := o.xb x (mem_of_at hx.out)
  have b2 := o.xb y (mem_of_at hy.out)
  have b3 := o.gb g (mem_of_at hg.out)
  have b4 := o.gb e (mem_of_at he.out)
  have d1 := dv_bd' o.hm b3.1 b3.2
  have d2 := dv_bd' o.hm b4.1 b4.2
  have m1 := mul_bd b1 ⟨show 0 ≤ dv g m by omega, d1.2⟩
  have m2 := mul_bd b2 ⟨show 0 ≤ dv e m by omega, d2.2⟩
  exact ⟨_, _, x, y, g, e, e1, e3, hx, hy, hg, he, hc, hc2, hc3, hc4, b3, b4, IntWalk.i64_in _ (by omega), IntWalk.i64_in _ (by omega)⟩
set_option maxHeartbeats 1600000 in
theorem l21Next_any (A A' A2 : Option Addr) (xs gs ls : List Int) (n1 n2 n3 c c' c2 : Nat) (m : Int) (w : World) (h : Ints w A xs) (h' : Ints w A' gs) (h2 : Ints w A2 ls) (o : Hid (NextOk xs gs m ls))
    (e1 : n1 = xs.length) (e2 : n2 = gs.length) (e3 : n3 = ls.length) :
    Calls Try.prog 57 #[.slice A n1 c, .slice A' n2 c', .int .i64 m, .slice A2 n3 c2] w (Qt w (.int .i64 (nextP xs gs m ls))) := by
  obtain ⟨N, hN⟩ : ∃ N, N = xs.length := ⟨_, rfl⟩
  have hn1 : N = n1 := by omega
  have hn2 : N = n2 := by have := o.out.gl; omega
  have hn3 : N = n3 := by have := o.out.ll; omega
  have hN1 : 1 ≤ N := by have := o.out.l1; omega
  have hN5 : N ≤ 5 := by have := o.out.l1; omega
  have HN := Lib.hid hN
  have HL := Lib.hid (show ls.length = N by have := o.out.ll; omega)
  subst hn1
  subst hn2
  subst hn3
  clear e1 e2 e3 hN
  obtain ⟨ad2, l0, rfl, hl0, hc0⟩ := h2.at_ (show 0 < ls.length by have := HL.out; omega)
  have hc0' : w.cell? ad2 = some (.int .i64 l0) := by have := hc0; rwa [show ad2.add 0 = ad2 from by unfold Addr.add; simp] at this
  obtain ⟨hlb0, hlb1⟩ := o.out.lb l0 (mem_of_at hl0.out)
  obtain ⟨b0, rfl⟩ := Int.eq_ofNat_of_zero_le hlb0
  have hb0 : b0 < N := by have := HN.out; omega
  have hs0 := Lib.hid (show (ls.take 1).foldl (stepN xs gs m) (ls.headD 0) = (b0 : Int) from by
    rw [headD_at hl0.out, fold_snoc hl0.out]
    simp [stepN_self])
  clear hlb0 hlb1
  go_enter Try.func57, Try.ntmps57
  go_wp2
  go_loopw [9, 10, 11] (fun b i _ wr => ∃ k q m1 : Nat, 1 ≤ k ∧ k ≤ N ∧ i = .int .i64 k ∧ b = .int .i64 q ∧ q < N ∧ Hid ((ls.take k).foldl (stepN xs gs m) (ls.headD 0) = (q : Int)) ∧ wr = w.drewN m1) (fun _ i _ _ => N - (intOf i).toNat)
  case atStart => exact ⟨1, b0, 0, by omega, by omega, rfl, rfl, hb0, hs0, rfl⟩
  case round =>
    obtain ⟨k, b, m1, hk1, hk, rfl, rfl, hb, hs, rfl⟩ := hrel
    by_cases hlt : k < N
    · obtain ⟨ad3, l, e5, hl, hcl⟩ := h2.at_ (show k < ls.length by have := HL.out; omega)
      obtain rfl : ad2 = ad3 := by injection e5
      clear e5
      obtain ⟨hlb0, hlb1⟩ := o.out.lb l (mem_of_at hl.out)
      obtain ⟨p, rfl⟩ := Int.eq_ofNat_of_zero_le hlb0
      have hp : p < N := by have := HN.out; omega
      clear hlb0 hlb1
      obtain ⟨ad, ad', x, y, g, e, rfl, rfl, hx, hy, hg, he, cx, cy, cg, ce, ⟨hg0, hg1⟩, ⟨he0, he1⟩, q1, q2⟩ := (o.out.step h h' (b := b) (p := p) (by have := HN.out; omega) (by have := HN.out; omega)).out
      have cD := Lib.hid (fun (w : World) (s : Int) (h0 : 0 ≤ s) (h1 : s ≤ 20) => l21Divisor_any s m w (by omega) (by omega) o.out.hm)
      have q1 := q1.out
      have q2 := q2.out
      by_cases hc2 : y * dv e m < x * dv g m
      · have hq := Lib.hid ((fold_snoc (f := stepN xs gs m) (a := ls.headD 0) hl.out).trans (by rw [hs.out, stepN_t hx.out hy.out hg.out he.out hc2]))
        go_wp2
        go_quiet ((go_at_call 72; exact Ret.quiet_add (cD.out _ _ (by omega) (by omega))))
        clear q1 q2
        go_wp2
        go_roundw
        case rel => exact ⟨k + 1, p, _, by omega, by omega, by go_num, rfl, hp, hq, rfl⟩
        case measure => simp [intOf]; omega
      · have hq := Lib.hid ((fold_snoc (f := stepN xs gs m) (a := ls.headD 0) hl.out).trans (by rw [hs.out, stepN_f hx.out hy.out hg.out he.out hc2]))
        go_wp2
        go_quiet ((go_at_call 72; exact Ret.quiet_add (cD.out _ _ (by omega) (by omega))))
        clear q1 q2
        go_wp2
        go_roundw
        case rel => exact ⟨k + 1, b, _, by omega, by omega, by go_num, rfl, hb, hq, rfl⟩
        case measure => simp [intOf]; omega
    · have hk2 : ls.length ≤ k := by have := HL.out; omega
      have hk3 : N ≤ k := by omega
      clear hlt
      go_wp2
      go_ret
      exact ⟨ret_int (by have := hs.out; rw [List.take_of_length_le hk2] at this; exact this.symm), _, rfl⟩
/-- The next seat, or -1. -/
def nextF (xs gs : List Int) (m : Int) (ls : List Int) : Int := if vv xs && gv gs xs.length && mv m && lv ls && ((ls.length : Int) == (xs.length : Int)) then nextP xs gs m ls else -1
theorem lv_iff {ls : List Int} : lv ls = true ↔ (1 ≤ ls.length ∧ ls.length ≤ 5) ∧ (∀ l ∈ ls, 0 ≤ l ∧ l ≤ (ls.length : Int) - 1) ∧ ls.Nodup := by
  unfold lv bv
  rw [Bool.and_eq_true, inB_iff, bp_iff]
  exact ⟨fun ⟨⟨a, b⟩, d⟩ => ⟨⟨by omega, by omega⟩, d⟩, fun ⟨⟨a, b⟩, d⟩ => ⟨⟨by omega, by omega⟩, d⟩⟩
theorem nextOk_of {xs gs : List Int} {m : Int} {ls : List Int} (hv : vv xs = true) (hg : gv gs xs.length = true) (hm : mv m = true) (hl : lv ls = true) (he : ls.length = xs.length) : NextOk xs gs m ls := by
  obtain ⟨a1, a2, a3⟩ := vv_iff.1 hv
  obtain ⟨b1, b2, b3⟩ := gv_iff.1 hg
  obtain ⟨c1, c2, c3⟩ := lv_iff.1 hl
  exact ⟨a1, b1, by omega, he, a2, mv_iff.1 hm, fun l h => by have := c2 l h; omega⟩
set_option maxHeartbeats 1600000 in
theorem implNext_any (A A' A2 : Option Addr) (xs gs ls : List Int) (c c' c2 : Nat) (m : Int) (w : World) (h : Ints w A xs) (h' : Ints w A' gs) (h2 : Ints w A2 ls) (hl1 : xs.length ≤ 1048576) (hl2 : gs.length ≤ 1048576) (hl3 : ls.length ≤ 1048576) (hcap : ls.length ≤ c2) :
    Calls Try.prog 58 #[.slice A xs.length c, .slice A' gs.length c', .int .i64 m, .slice A2 ls.length c2] w (Qt w (.int .i64 (nextF xs gs m ls))) := by
  cases hall : vv xs && gv gs xs.length
  · have hq := Lib.hid (show nextF xs gs m ls = -1 from by simp [nextF, hall])
    go_enter Try.func58, Try.ntmps58
    go_wp2_with (go_at_call 38; refine (seatsValid_any _ _ _ _ _ _ _ h h' hl1 hl2).mono ?_; rintro e w' ⟨rfl, rfl⟩)
    go_ret
    exact ⟨ret_int hq.out.symm, 0, rfl⟩
  cases hmv : mv m
  · have hq := Lib.hid (show nextF xs gs m ls = -1 from by simp [nextF, hmv])
    go_enter Try.func58, Try.ntmps58
    go_wp2_with (first | (go_at_call 38; refine (seatsValid_any _ _ _ _ _ _ _ h h' hl1 hl2).mono ?_; rintro e w' ⟨rfl, rfl⟩) | (go_at_call 73; refine (isMethod_any _ _).mono ?_; rintro e w' ⟨rfl, rfl⟩))
    go_ret
    exact ⟨ret_int hq.out.symm, 0, rfl⟩
  cases hlv : lv ls
  · have hq := Lib.hid (show nextF xs gs m ls = -1 from by simp [nextF, hlv])
    go_enter Try.func58, Try.ntmps58
    go_wp2_with (first | (go_at_call 38; refine (seatsValid_any _ _ _ _ _ _ _ h h' hl1 hl2).mono ?_; rintro e w' ⟨rfl, rfl⟩) | (go_at_call 73; refine (isMethod_any _ _).mono ?_; rintro e w' ⟨rfl, rfl⟩) | (go_at_call 46; refine (lotsValid_any _ _ _ _ h2 hl3 hcap).mono ?_; rintro e w' ⟨rfl, rfl⟩))
    go_ret
    exact ⟨ret_int hq.out.symm, 0, rfl⟩
  by_cases hll : ls.length = xs.length
  · have hh : vv xs = true ∧ gv gs xs.length = true := by simpa using hall
    obtain ⟨hv, hg⟩ := hh
    have o := Lib.hid (nextOk_of hv hg hmv hlv hll)
    have hq := Lib.hid (show nextF xs gs m ls = nextP xs gs m ls from by simp [nextF, hv, hg, hmv, hlv, hll])
    have HN := Lib.hid hll
    have hge : ((ls.length : Int) != (xs.length : Int)) = false := by simp [hll]
    obtain ⟨ad2, l0, rfl, hl0, hc0⟩ := h2.at_ (show 0 < ls.length by have := o.out.l1; omega)
    have hc0' : w.cell? ad2 = some (.int .i64 l0) := by have := hc0; rwa [show ad2.add 0 = ad2 from by unfold Addr.add; simp] at this
    obtain ⟨hlb0, hlb1⟩ := o.out.lb l0 (mem_of_at hl0.out)
    obtain ⟨b0, rfl⟩ := Int.eq_ofNat_of_zero_le hlb0
    have hb0 : b0 < ls.length := by omega
    have h00 := Lib.hid (headD_at hl0.out)
    clear hlb0 hlb1 hll
    have hN1 : 1 ≤ ls.length := by omega
    go_enter Try.func58, Try.ntmps58
    go_wp2_with (first | (go_at_call 38; refine (seatsValid_any _ _ _ _ _ _ _ h h' hl1 hl2).mono ?_; rintro e w' ⟨rfl, rfl⟩) | (go_at_call 73; refine (isMethod_any _ _).mono ?_; rintro e w' ⟨rfl, rfl⟩) | (go_at_call 46; refine (lotsValid_any _ _ _ _ h2 hl3 hcap).mono ?_; rintro e w' ⟨rfl, rfl⟩))
    go_loopw [9, 11, 38] (fun b _ i wr => ∃ k q m1 : Nat, k ≤ ls.length ∧ i = .int .i64 k ∧ b = .int .i64 q ∧ q < ls.length ∧ Hid ((ls.take k).foldl (stepN xs gs m) (ls.headD 0) = (q : Int)) ∧ wr = w.drewN m1) (fun _ _ i _ => ls.length - (intOf i).toNat)
    case atStart => exact ⟨0, b0, 0, by omega, rfl, rfl, hb0, h00, rfl⟩
    case round =>
      obtain ⟨k, b, m1, hk, rfl, rfl, hb, hs, rfl⟩ := hrel
      by_cases hlt : k < ls.length
      · obtain ⟨ad3, l, e5, hl, hcl⟩ := h2.at_ hlt
        obtain rfl : ad2 = ad3 := by injection e5
        clear e5
        obtain ⟨hlb0, hlb1⟩ := o.out.lb l (mem_of_at hl.out)
        obtain ⟨p, rfl⟩ := Int.eq_ofNat_of_zero_le hlb0
        have hp : p < ls.length := by have := HN.out; omega
        have hpx : p < xs.length := by have := HN.out; omega
        have hbx : b < xs.length := by have := HN.out; omega
        have hpg : p < gs.length := by have := HN.out; have := o.out.gl; omega
        have hbg : b < gs.length := by have := HN.out; have := o.out.gl; omega
        clear hlb0 hlb1
        obtain ⟨ad, ad', x, y, g, e, rfl, rfl, hx, hy, hg', he, cx, cy, cg, ce, ⟨hg0, hg1⟩, ⟨he0, he1⟩, q1, q2⟩ := (o.out.step h h' hbx hpx).out
        have cD := Lib.hid (fun (w : World) (s : Int) (h0 : 0 ≤ s) (h1 : s ≤ 20) => divisor_any s m w (by omega) (by omega) o.out.hm)
        have q1 := q1.out
        have q2 := q2.out
        by_cases hc2 : y * dv e m < x * dv g m
        · have hq := Lib.hid ((fold_snoc (f := stepN xs gs m) (a := ls.headD 0) hl.out).trans (by rw [hs.out, stepN_t hx.out hy.out hg'.out he.out hc2]))
          go_wp2
          go_quiet ((go_at_call 74; exact Ret.quiet_add (cD.out _ _ (by omega) (by omega))))
          clear q1 q2
          go_wp2
          go_roundw
          case rel => exact ⟨k + 1, p, _, by omega, by go_num, rfl, hp, hq, rfl⟩
          case measure => simp [intOf]; omega
        · have hq := Lib.hid ((fold_snoc (f := stepN xs gs m) (a := ls.headD 0) hl.out).trans (by rw [hs.out, stepN_f hx.out hy.out hg'.out he.out hc2]))
          go_wp2
          go_quiet ((go_at_call 74; exact Ret.quiet_add (cD.out _ _ (by omega) (by omega))))
          clear q1 q2
          go_wp2
          go_roundw
          case rel => exact ⟨k + 1, b, _, by omega, by go_num, rfl, hb, hq, rfl⟩
          case measure => simp [intOf]; omega
      · have hk2 : ls.length ≤ k := by omega
        clear hlt
        go_wp2
        go_ret
        exact ⟨ret_int (by have := hs.out; rw [List.take_of_length_le hk2] at this; rw [hq.out]; exact this.symm), _, rfl⟩
  · have hq := Lib.hid (show nextF xs gs m ls = -1 from by
      have : ((ls.length : Int) == (xs.length : Int)) = false := by simp; omega
      simp only [nextF, this]; simp)
    have hne : ((ls.length : Int) != (xs.length : Int)) = true := by simp; omega
    clear hll
    go_enter Try.func58, Try.ntmps58
    go_wp2_with (first | (go_at_call 38; refine (seatsValid_any _ _ _ _ _ _ _ h h' hl1 hl2).mono ?_; rintro e w' ⟨rfl, rfl⟩) | (go_at_call 73; refine (isMethod_any _ _).mono ?_; rintro e w' ⟨rfl, rfl⟩) | (go_at_call 46; refine (lotsValid_any _ _ _ _ h2 hl3 hcap).mono ?_; rintro e w' ⟨rfl, rfl⟩))
    go_ret
    exact ⟨ret_int hq.out.symm, 0, rfl⟩
end Go.Proofs.Ytoblhmbpobbecaa
