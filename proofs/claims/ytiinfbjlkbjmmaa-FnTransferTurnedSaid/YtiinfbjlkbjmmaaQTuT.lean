/-
  The laws' exchange of two candidates; the text of a ballot.
-/
import Derived.Test.YtiinfbjlkbjmmaaQTuV
import Derived.Test.YtiinfbjlkbjmmaaQDrawL
import Derived.Laws.BytesArg
import Derived.Test.YtiinfbjlkbjmmaaQTraA
namespace Go.Proofs.Ytiinfbjlkbjmmaa
open Go.RowKit
set_option maxRecDepth 100000 in
theorem rowW_at {w : World} {base n c g s : Nat} {t : TypeId} {cs : List Value} (h : w.ownsRow base t s (.slice (some ⟨g, 0, none⟩) n c) n cs) {j : Nat} (hj : j < n * s) : ∃ u, cs[j]? = some u ∧ w.cell? ⟨g, j, none⟩ = some u := by
  have hl := h.1
  have e : cs[j]? = some cs[j] := List.getElem?_eq_getElem (by omega)
  refine ⟨_, e, ?_⟩
  have := World.ownsRow.cells h (g := g) rfl _ _ e
  rwa [add_row] at this
set_option maxRecDepth 100000 in
theorem rowW_below {w w' : World} {base n c s : Nat} {A : Option Addr} {t : TypeId} {cs : List Value} (h : w.ownsRow base t s (.slice A n c) n cs) (hb : Below w.heap.size w w') : w'.ownsRow base t s (.slice A n c) n cs :=
  World.ownsRow.kept h (row := none) ⟨hb.os, hb.tape, hb.output, hb.size, fun k hk _ => hb.block k hk⟩ (by cases hv : (Value.slice A n c).ownBlock <;> simp)
set_option maxRecDepth 100000 in
set_option maxHeartbeats 400000 in
theorem turned_any (k : Int) (x y : Nat) (w : World) : Calls Try.prog 63 #[.int .i64 k, .int .i64 x, .int .i64 y] w (Ret w (.int .i64 (sw x y k))) := by
  by_cases h1 : k = (x : Int)
  · have e := Lib.hid (show sw x y k = y by unfold sw; rw [if_pos h1])
    have hb : (k == (x : Int)) = true := by simpa using h1
    clear h1
    go_enter Try.func63, Try.ntmps63
    go_wp2
    go_ret
    exact ⟨ret_int (by rw [e.out]), rfl⟩
  · have hb : (k == (x : Int)) = false := by simpa using h1
    by_cases h2 : k = (y : Int)
    · have e := Lib.hid (show sw x y k = x by unfold sw; rw [if_neg h1, if_pos h2])
      have hb2 : (k == (y : Int)) = true := by simpa using h2
      clear h1 h2
      go_enter Try.func63, Try.ntmps63
      go_wp2
      go_ret
      exact ⟨ret_int (by rw [e.out]), rfl⟩
    · have e := Lib.hid (show sw x y k = k by unfold sw; rw [if_neg h1, if_neg h2])
      have hb2 : (k == (y : Int)) = false := by simpa using h2
      clear h1 h2
      go_enter Try.func63, Try.ntmps63
      go_wp2
      go_ret
      exact ⟨ret_int (by rw [e.out]), rfl⟩
set_option maxRecDepth 100000 in
set_option maxHeartbeats 800000 in
theorem turnedAll_any (A : Option Addr) (xs : List Int) (c x y : Nat) (w : World) (h : Ints w A xs) (hl : xs.length ≤ 1048576) :
    Calls Try.prog 30 #[.slice A xs.length c, .int .i64 x, .int .i64 y] w (NewI w (xs.map (sw x y))) := by
  go_enter Try.func30, Try.ntmps30
  go_wp2
  go_loopw [7, 8] (fun o i wr => ∃ (k : Nat) (B : Option Addr) (d : Nat), k ≤ xs.length ∧ i = .int .i64 k ∧ o = .slice B k d ∧ OwnN wr w.heap.size B k d ((xs.take k).map (sw x y)) ∧ Below w.heap.size w wr) (fun _ i _ => xs.length - (intOf i).toNat)
  case atStart => exact ⟨0, _, _, by omega, rfl, rfl, OwnN.empty w (Nat.le_refl _), (Below.refl _ _).alloc (Nat.le_refl _) _⟩
  case round =>
    obtain ⟨k, B, d, hk, rfl, rfl, hown, hbel⟩ := hrel
    by_cases hlt : k < xs.length
    · obtain ⟨ad, z, rfl, hz, hc⟩ := (h.below hbel).at_ hlt
      have hs1 := hbel.size
      have HW := Lib.hid (show (xs.take (k + 1)).map (sw x y) = (xs.take k).map (sw x y) ++ [sw x y z] by rw [take_snoc _ _ _ hz.out, List.map_append]; rfl)
      go_wp2_with (first | (go_at_call 63; refine (turned_any z x y _).mono ?_; rintro e w' ⟨rfl, rfl⟩) | (at_builtin; refine wpList_app1 _ rfl (.tmp 16) (.tmp 24) rfl w.heap.size B k d _ rfl hown hs1 (by omega) (sw x y z) rfl ?_; intro B' d2 w' hown' hgr' hbl'))
      go_roundw
      case rel => exact ⟨k + 1, B', d2, by omega, by go_num, rfl, hown'.congr HW.out.symm, hbel.trans hbl'⟩
      case measure => simp [intOf]; omega
    · obtain rfl : k = xs.length := by omega
      clear hlt
      rw [List.take_length] at hown
      go_wp2
      go_ret
      exact newI_of hown.1 hown.2 hbel
set_option maxRecDepth 100000 in
theorem infoU8 : (Try.prog.info? 5).map (fun i => (i.zero, i.size, i.bytes)) = some (some (.int .u8 0), 1, 1) := by kernel_rfl
set_option maxRecDepth 100000 in
/-- 'make([]byte, n)'. -/
theorem wpList_makeU (w : World) {ops : Array Oper} {rest : List Oper} {o : Oper} {a : Act} {Q : Exit → Act → World → Prop}
    (hg : o.guard = none) (l c : Operand) (hop : o.op = Op.makeSlice 37 l c) (n : Nat) (hl : a.eval l = .int .i64 n) (hc : a.eval c = .int .i64 n) (hn : n ≤ 1099511627776)
    (hK : ∀ w', w'.ownsRow w.heap.size 5 1 (.slice (some ⟨w.heap.size, 0, none⟩) n n) n (List.replicate n (.int .u8 0)) → Below w.heap.size w w' → wpList Try.prog ops Q rest (a.put o.dst (.slice (some ⟨w.heap.size, 0, none⟩) n n)) w') :
    wpList Try.prog ops Q (o :: rest) a w := by
  obtain ⟨i0, hi, hz0, hz1, hz2⟩ := info_parts infoU8
  refine wpList_make_full w hg l c 37 hop w.heap.size 5 i0 _ 1 Try.underlying37 hi hz0 hz1 .i64 .i64 n n n hl hc rfl rfl (by rw [hz2]; omega) (by simp only [maxLen]; omega) (Nat.le_refl _) ?_
  intro w' hown hgr
  have e : (madeCells (Value.int .u8 0).cells (n * 1)).toList = List.replicate n (.int .u8 0) := by
    simp only [madeCells, Value.cells, Nat.mul_one]
    simp [Nat.mod_one]
    rw [List.map_const']; simp
  rw [e] at hown
  exact hK w' hown ⟨hgr.os, hgr.tape, hgr.output, hgr.size, fun k hk => hgr.block k hk (by simp)⟩
/-- The bytes of a ballot. -/
def ubs (b : List Int) : List Int := b.map fun c => 97 + c
set_option maxRecDepth 100000 in
theorem unbal_nums {b : List Int} (h : ∀ c ∈ b, 0 ≤ c) : strOfNums (ubs b) = unbal b := by
  unfold strOfNums unbal ubs
  rw [List.map_map]
  congr 2
  refine List.map_congr_left fun c hc => ?_
  have := h c hc
  show UInt8.ofNat (97 + c).toNat = UInt8.ofNat (c.toNat + 97)
  congr 1
  omega
def utS (b : List Int) (k : Nat) : List Value := (ubs (b.take k)).map (Value.int .u8) ++ List.replicate (b.length - k) (.int .u8 0)
set_option maxRecDepth 100000 in
theorem utS_set {b : List Int} {k : Nat} {c : Int} (h : b[k]? = some c) : (utS b k).set k (.int .u8 (97 + c)) = utS b (k + 1) := by
  have hk := (List.getElem?_eq_some_iff.1 h).1
  unfold utS
  have hl : ((ubs (b.take k)).map (Value.int .u8)).length = k := by unfold ubs; simp; omega
  rw [List.set_append_right _ _ (by omega), hl, Nat.sub_self, take_snoc b k c h]
  obtain ⟨m, hm⟩ : ∃ m, b.length - k = m + 1 := ⟨b.length - k - 1, by omega⟩
  rw [hm, show b.length - (k + 1) = m from by omega, List.replicate_succ]
  simp [ubs]
set_option maxRecDepth 100000 in
set_option maxHeartbeats 1600000 in
theorem implText_any (A : Option Addr) (b : List Int) (c : Nat) (w : World) (h : Ints w A b) (hv : Hid (bv b 5 = true)) (hcap : b.length ≤ c) :
    Calls Try.prog 61 #[.slice A b.length c] w (Bl w (.string (unbal b))) := by
  obtain ⟨_, hr0, _⟩ := bv_iff.1 hv.out
  have hl5 := (bv_len hv.out).1
  have hr := Lib.hid hr0
  have cV := Lib.hid (ballotValid_any A b c 5 w h (by omega) hcap)
  rw [hv.out] at cV
  clear hr0
  go_enter Try.func61, Try.ntmps61
  go_wp2_with (first | (go_at_call 77; refine cV.out.mono ?_; rintro e w' ⟨rfl, rfl⟩) | (at_make; refine wpList_makeU _ rfl _ _ rfl b.length rfl rfl (by omega) ?_; intro w1 hrow hb1))
  go_loopw [4, 5, 14] (fun _ _ i wr => ∃ k : Nat, k ≤ b.length ∧ i = .int .i64 k ∧ wr.ownsRow w.heap.size 5 1 (.slice (some ⟨w.heap.size, 0, none⟩) b.length b.length) b.length (utS b k) ∧ Below w.heap.size w wr) (fun _ _ i _ => b.length - (intOf i).toNat)
  case atStart => exact ⟨0, by omega, rfl, by simpa [utS, ubs] using hrow, hb1⟩
  case round =>
    clear hrow hb1
    obtain ⟨k, hk, rfl, hrow, hbel⟩ := hrel
    by_cases hlt : k < b.length
    · obtain ⟨ad, z, rfl, hz, hc⟩ := (h.below hbel).at_ hlt
      obtain ⟨hz0, hz1⟩ := hr.out z (mem_of_at hz.out)
      obtain ⟨u, _, hcu⟩ := rowW_at hrow (j := k) (by omega)
      have hfz : wr.frozen? ⟨w.heap.size, k, none⟩ = false := World.ownsRow.frozenAt hrow k
      have hw8 : IntKind.u8.wrap (97 + z) = 97 + z := by rw [show IntKind.u8.wrap (97 + z) = (97 + z) % 256 from by simp [IntKind.wrap]; rfl]; omega
      go_wp2
      go_roundw
      case rel => exact ⟨k + 1, by omega, by go_num, (utS_set hz.out) ▸ (World.ownsRow.stored hrow k (.int .u8 (97 + z))).1, hbel.setCell (Nat.le_refl _) _⟩
      case measure => simp [intOf]; omega
    · obtain rfl : k = b.length := by omega
      clear hlt
      have e : utS b b.length = (ubs b).map (Value.int .u8) := by simp [utS]
      rw [e] at hrow
      have hcv := run_convert_bytes_arg (P := Try.prog) wr 37 5 Try.underlying37 Try.underlying5 w.heap.size 0 b.length b.length (ubs b) (by simp [ubs]) (fun i hi => by
        have := World.ownsRow.cells hrow (g := w.heap.size) rfl i (.int .u8 ((ubs b)[i]'(by simp [ubs]; omega))) (by rw [List.getElem?_map, List.getElem?_eq_getElem (by simp [ubs]; omega)]; rfl)
        rw [add_row] at this
        have hi2 : i < (ubs b).length := by simp [ubs]; omega
        simpa [List.getElem?_eq_getElem hi2] using this) 9 Try.underlying9
      rw [unbal_nums (fun c hc => (hr.out c hc).1)] at hcv
      go_wp2
      go_ret
      exact ⟨rfl, hbel⟩
end Go.Proofs.Ytiinfbjlkbjmmaa
