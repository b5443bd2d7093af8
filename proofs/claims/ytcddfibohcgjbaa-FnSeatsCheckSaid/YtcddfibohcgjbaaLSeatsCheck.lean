/-
  For every code, the law FnSeatsCheck returns true: a seat that is moved is noticed, or the quotients are equal. There are no conditions.
-/
import Derived.Test.YtcddfibohcgjbaaDrawH
import Derived.Test.YtcddfibohcgjbaaDivQ
namespace Go.Proofs.Ytcddfibohcgjbaa
open Go.ChangeShapes Go.WideShapes Go.ChangeAt Go.RowKit
theorem check_facts {xs gs : List Int} {m : Int} (h : checkF xs gs m = true) : vv xs = true ∧ gv gs xs.length = true ∧ mv m = true ∧ Fit xs gs m := by
  have h1 := h
  unfold checkF at h1
  simp only [Bool.and_eq_true] at h1
  obtain ⟨⟨⟨hv, hg⟩, hm⟩, _⟩ := h1
  exact ⟨hv, hg, hm, (checkF_iff hv hg hm).1 h⟩
theorem check_moved {xs gs : List Int} {m x y g e : Int} {i k : Nat} (h : checkF xs gs m = true) (hik : i ≠ k) (hx : xs[i]? = some x) (hy : xs[k]? = some y) (hg : gs[i]? = some g) (he : gs[k]? = some e) (h0 : 0 < g)
    (h2 : checkF xs ((gs.set i (g - 1)).set k (e + 1)) m = true) : x * (m * e + 1) = y * (m * (g - 1) + 1) := by
  obtain ⟨_, hgv, _, f⟩ := check_facts h
  obtain ⟨_, _, _, f2⟩ := check_facts h2
  obtain ⟨b1, b2, _⟩ := gv_iff.1 hgv
  have q1 := getD_of hx
  have q2 := getD_of hy
  have q3 := getD_of hg
  have q4 := getD_of he
  have := f.moved (i := i) (k := k) (by omega) (fun g hg => (b1 g hg).1) (List.getElem?_eq_some_iff.1 hx).1 (List.getElem?_eq_some_iff.1 hy).1 hik (by omega) (by rw [q3, q4]; exact f2)
  rw [q1, q2, q3, q4] at this
  exact this
set_option maxRecDepth 100000 in
set_option maxHeartbeats 3200000 in
theorem FnSeatsCheck_walk (A : Option Addr) (n c : Nat) (B : Option Addr) (n' c' : Nat) (w : World) (h : BytsA w A n c) (h' : BytsA w B n' c') :
    Calls Try.prog 11 #[.slice A n c, .slice B n' c'] w (LawOk w) := by
  by_cases hl : n ≤ 1048576
  case neg =>
    have hbig : (1048576 : Int) < n := by omega
    clear hl
    go_enter Try.func11, Try.ntmps11
    go_wp2
    go_ret
    exact ⟨rfl, Below.refl _ _⟩
  by_cases hl' : n' ≤ 1048576
  case neg =>
    have hbig : (1048576 : Int) < n' := by omega
    clear hl'
    go_enter Try.func11, Try.ntmps11
    go_wp2
    go_ret
    exact ⟨rfl, Below.refl _ _⟩
  go_enter Try.func11, Try.ntmps11
  go_wp2_with fail
  refine (drawCheck_any _ _ _ _ h).mono ?_
  rintro e w1 ⟨A1, c1, xs, A2, c2, gs, m, rfl, ⟨hx5, hox, hb1⟩, ⟨hg5, hog, _⟩⟩
  have cI := Lib.hid (fun (w : World) (h : Ints w A1 xs) (h' : Ints w A2 gs) => implCheck_any A1 A2 xs gs c1 c2 m w h h' (by omega) (by omega))
  have cS := Lib.hid (fun (w : World) (h : Ints w A1 xs) (h' : Ints w A2 gs) => specCheck_any A1 A2 xs gs c1 c2 m w h h' (by omega) (by omega))
  obtain ⟨r, hr⟩ : ∃ r, checkF xs gs m = r := ⟨_, rfl⟩
  rw [hr] at cI cS
  have HR := Lib.hid hr
  clear hr
  go_wp2_with fail
  refine (cI.out _ hox.ints hog.ints).mono ?_
  rintro e w2 ⟨rfl, n2, rfl⟩
  go_wp2_with fail
  refine (cS.out _ (hox.drewN n2).ints (hog.drewN n2).ints).mono ?_
  rintro e w3 ⟨rfl, n3, rfl⟩
  have hB3 := below_drewN (below_drewN hb1 n2) n3
  have hox := (hox.drewN n2).drewN n3
  have hog := (hog.drewN n2).drewN n3
  clear cI cS
  generalize (w1.drewN n2).drewN n3 = w3 at *
  cases r
  case false =>
    go_wp2
    go_ret
    exact ⟨rfl, hB3⟩
  obtain ⟨hv, hgv, hmv, hfit⟩ := check_facts HR.out
  obtain ⟨a1, ⟨a2, a2'⟩, a3⟩ := vv_iff.1 hv
  obtain ⟨b1, b2, b3⟩ := gv_iff.1 hgv
  have hm12 := mv_iff.1 hmv
  have hm1 : 1 ≤ m := by omega
  have hm2 : m ≤ 2 := by omega
  obtain ⟨i, hi, hil⟩ : ∃ i : Nat, (n' : Int) % (xs.length : Int) = (i : Int) ∧ i < xs.length := ⟨n' % xs.length, rfl, Nat.mod_lt _ (by omega)⟩
  obtain ⟨k, hk, hkl⟩ : ∃ k : Nat, (n' : Int) / 7 % (xs.length : Int) = (k : Int) ∧ k < xs.length := ⟨n' / 7 % xs.length, rfl, Nat.mod_lt _ (by omega)⟩
  have hlz : ¬ (xs.length : Int) = 0 := by omega
  have hgl : gs.length = xs.length := by omega
  have hig : i < gs.length := by omega
  have hkg : k < gs.length := by omega
  obtain ⟨ad, x, rfl, hx, hcx⟩ := hox.ints.at_ hil
  obtain ⟨ad1, y, e1, hy, hcy⟩ := hox.ints.at_ hkl
  obtain rfl : ad = ad1 := by injection e1
  obtain ⟨ad2, g, rfl, hg, hcg⟩ := hog.ints.at_ hig
  obtain ⟨ad3, f, e2, hf, hcf⟩ := hog.ints.at_ hkg
  obtain rfl : ad2 = ad3 := by injection e2
  obtain ⟨x0, x1⟩ := a1 x (mem_of_at hx.out)
  obtain ⟨y0, y1⟩ := a1 y (mem_of_at hy.out)
  obtain ⟨g0, g1⟩ := b1 g (mem_of_at hg.out)
  obtain ⟨f0, f1⟩ := b1 f (mem_of_at hf.out)
  have HGL := Lib.hid hgl
  have h0g : 0 < gs.length := by omega
  clear e1 e2 hgl a1 b1 b2 b3 a3 hm12 hmv hfit hv hgv
  by_cases hik : i = k
  · have hikb : ((i : Int) == (k : Int)) = true := by simp; omega
    clear hik
    go_wp2
    go_ret
    exact ⟨rfl, hB3⟩
  have hikb : ((i : Int) == (k : Int)) = false := by simp; omega
  have HIK := Lib.hid hik
  clear hik
  by_cases hgz : g = 0
  · have hgzb : (g == 0) = true := by simp; omega
    clear hgz
    go_wp2
    go_ret
    exact ⟨rfl, hB3⟩
  have hgzb : (g == 0) = false := by simp; omega
  have hg2 : 0 < g := by omega
  clear hgz
  go_wp2_with (at_builtin; refine wpList_appN _ rfl (.tmp 68) (.tmp 69) rfl w3.heap.size _ 0 _ [] rfl ⟨rfl, own_empty w3 (Nat.le_refl _)⟩ (by simp) (by omega) _ gs _ _ rfl rfl (by omega) (hog.ints.alloc _) ?_; intro B5 d5 w5 hown5 hgr5 hbl5; obtain ⟨hlen5, hown5⟩ := hown5; have hown5 := hown5.congr (List.nil_append gs); obtain ⟨g5, rfl, hg5b, hg5l⟩ := hown5.form h0g; have hc5 := hown5.cell hg.out; have hf5 := hown5.frozen i; have hc6 := (hown5.set i (g - 1)).cell (k := k) (x := f) (by show (gs.set i (g - 1))[k]? = some f; rw [List.getElem?_set_ne HIK.out]; exact hf.out); have hf6 := (hown5.set i (g - 1)).frozen k)
  have hown7 := (hown5.set i (g - 1)).set k (f + 1)
  have hb5 : Below w3.heap.size w3 w5 := ((Below.refl _ _).alloc (Nat.le_refl _) _).trans hbl5
  have hb7 := (hb5.setCell (p := ⟨g5, i, none⟩) hg5b (.int .i64 (g - 1))).setCell (p := ⟨g5, k, none⟩) hg5b (.int .i64 (f + 1))
  have hox7 := hox.ints.below hb7
  have hog7 := hog.ints.below hb7
  have hB7 := hB3.trans (hb7.mono hB3.size)
  clear hc5 hf5 hc6 hf6 hb5 hb7 hown5 hgr5 hbl5 hcx hcy hcg hcf
  generalize (w5.setCell ⟨g5, i, none⟩ (.int .i64 (g - 1))).setCell ⟨g5, k, none⟩ (.int .i64 (f + 1)) = w7 at *
  have hcx := hox7.cell_of hx.out
  have hcy := hox7.cell_of hy.out
  have hcg := hog7.cell_of hg.out
  have hcf := hog7.cell_of hf.out
  obtain ⟨p0, p1⟩ := mul_bd (a := m) (b := f) (M := 2) (N := 20) ⟨by omega, hm2⟩ ⟨f0, f1⟩
  obtain ⟨p2, p3⟩ := mul_bd (a := m) (b := g - 1) (M := 2) (N := 20) ⟨by omega, hm2⟩ ⟨by omega, by omega⟩
  obtain ⟨p4, p5⟩ := mul_bd (a := x) (b := m * f + 1) (M := 99) (N := 41) ⟨x0, x1⟩ ⟨by omega, by omega⟩
  obtain ⟨p6, p7⟩ := mul_bd (a := y) (b := m * (g - 1) + 1) (M := 99) (N := 41) ⟨y0, y1⟩ ⟨by omega, by omega⟩
  have u1 : IntKind.i64.wrap (m * f) = m * f := IntWalk.i64_in _ (by omega)
  have u2 : IntKind.i64.wrap (m * f + 1) = m * f + 1 := IntWalk.i64_in _ (by omega)
  have u3 : IntKind.i64.wrap (x * (m * f + 1)) = x * (m * f + 1) := IntWalk.i64_in _ (by omega)
  have u4 : IntKind.i64.wrap (g - 1) = g - 1 := IntWalk.i64_in _ (by omega)
  have u5 : IntKind.i64.wrap (m * (g - 1)) = m * (g - 1) := IntWalk.i64_in _ (by omega)
  have u6 : IntKind.i64.wrap (m * (g - 1) + 1) = m * (g - 1) + 1 := IntWalk.i64_in _ (by omega)
  have u7 : IntKind.i64.wrap (y * (m * (g - 1) + 1)) = y * (m * (g - 1) + 1) := IntWalk.i64_in _ (by omega)
  go_quiet (fail)
  go_wp2
  go_quiet (fail)
  clear u1 u2 u3 u4 u5 u6 u7
  have HM := Lib.hid (fun h2 => check_moved (m := m) HR.out HIK.out hx.out hy.out hg.out hf.out hg2 h2)
  have hzl : ((gs.set i (g - 1)).set k (f + 1)).length = gs.length := by simp
  generalize (gs.set i (g - 1)).set k (f + 1) = zs at *
  have cX := Lib.hid (fun (w : World) (h : Ints w (some ad) xs) (h' : Ints w (some ⟨g5, 0, none⟩) zs) => implCheck_any (some ad) (some ⟨g5, 0, none⟩) xs zs c1 d5 m w h h' (by omega) (by omega))
  rw [hzl] at cX
  obtain ⟨r, hr⟩ : ∃ r, checkF xs zs m = r := ⟨_, rfl⟩
  rw [hr] at cX HM
  have HM := Lib.hid HM.out
  clear hr hzl hlen5
  have i7 := hown7.ints
  cases r
  · go_wp2_with (go_at_call 42; refine (cX.out _ (hox7.drewN _) (i7.drewN _)).mono ?_; rintro e w' ⟨rfl, n9, rfl⟩)
    go_ret
    exact ⟨rfl, below_drewN hB7 _⟩
  · have hab := HM.out rfl
    have habb : (x * (m * f + 1) == y * (m * (g - 1) + 1)) = true := by rw [hab]; simp
    clear hab
    go_wp2_with (go_at_call 42; refine (cX.out _ (hox7.drewN _) (i7.drewN _)).mono ?_; rintro e w' ⟨rfl, n9, rfl⟩)
    go_ret
    exact ⟨rfl, below_drewN hB7 _⟩
set_option maxRecDepth 100000 in
theorem FnSeatsCheck_lifted (os : Os) (started : os.Started) (H : Type) (enc : TypeId × Value → H) :
    ReturnsInHanded {} Try.checked os 11 .any (Rows.fnSeatsCheckSpec.pre6 enc Try.prog Try.f11 Rows.fnSeatsCheckRow.domain false) (Rows.fnSeatsCheckSpec.post enc Try.prog Try.f11 false true false false) := by
  refine returnsInHanded_of_change (C := Try.checked) Try.own started (by kernel_rfl) Try.func11
    (ChangeSpec.witness6 (enc := enc) (C := Try.checked) false ⟨#[], #[.slice none 0 0, .slice none 0 0], []⟩ 8 (by kernel_rfl) (by kernel_rfl) (by kernel_rfl) (by kernel_rfl)) ?_
  intro W base args ds gs before hval0 hW hcnd _
  have hval : ∀ (j : Nat) t v, Try.f11.params[j]? = some t → args[j]? = some v → Value.okWide Try.prog W .any base t v := hval0
  have hW' := hW
  obtain ⟨p, q, hA0, hV, rfl, hfz, hnd⟩ := hW
  have hA : DataW.TrodAll enc Try.prog W 0 (fun _ => true) true Try.f11.params.toList args.toList ds p := hA0
  rw [Try.params11] at hA hval
  obtain ⟨v0, vs0, d0, ds0, p0, q0, hargs, rfl, rfl, h0, r0⟩ := trodAll_cons hA
  obtain ⟨v1, vs1, d1, ds1, p1, q1, rfl, rfl, rfl, h1, r1⟩ := trodAll_cons r0
  obtain ⟨rfl, rfl, rfl⟩ := trodAll_nil r1
  obtain rfl : args = #[v0, v1] := by cases args; simp_all
  obtain ⟨rfl, rfl⟩ := trodVars_none hV
  have k0 := h0
  have lt0 : ∀ x ∈ p0, x.block < W.heap.size := by obtain ⟨m, hm⟩ := k0; exact DataW.trod_lt m _ _ _ hm
  obtain ⟨a0, z0, c0, rfl, w0⟩ := openByts (hval 0 22 v0 rfl rfl) h0
  have k1 := h1
  have lt1 : ∀ x ∈ p1, x.block < W.heap.size := by obtain ⟨m, hm⟩ := k1; exact DataW.trod_lt m _ _ _ hm
  obtain ⟨a1, z1, c1, rfl, w1⟩ := openByts (hval 1 22 v1 rfl rfl) h1
  clear hA0 hval0
  refine (FnSeatsCheck_walk a0 z0 c0 a1 z1 c1 W w0 w1).mono fun e W' ⟨he, bel⟩ => ?_
  subst he
  exact ⟨_, rfl, _, _, _, [], _, [], hW', trodAll_mk1 (shut_bool Try.underlying4 _), (trodAll_cons_mk (Below.trod Try.laidOut (by kernel_rfl) (of_decide_eq_true (by kernel_rfl)) k0 bel lt0) (trodAll_cons_mk (Below.trod Try.laidOut (by kernel_rfl) (of_decide_eq_true (by kernel_rfl)) k1 bel lt1) trodAll_mk0)), rfl, bel.frame _, fun h => by cases h⟩
/-- The given statement. -/
theorem FnSeatsCheck_holds : Rows.FnSeatsCheckSaid :=
  OpenClaim.holds_of_wide 11 Try.f11 rfl rfl rfl rfl rfl rfl rfl ⟨rfl, rfl, rfl, rfl, rfl⟩ rfl rfl rfl rfl rfl (by kernel_rfl) Try.func11 (by kernel_rfl)
    (of_decide_eq_true (by kernel_rfl)) (by unfold Func.isWrapper; first | (rw [if_pos (by decide +kernel)]; kernel_rfl) | (rw [if_neg (by decide +kernel)]; exact ⟨rfl, rfl⟩))
    (fun os started H enc _ => FnSeatsCheck_lifted os started H enc)
end Go.Proofs.Ytcddfibohcgjbaa
