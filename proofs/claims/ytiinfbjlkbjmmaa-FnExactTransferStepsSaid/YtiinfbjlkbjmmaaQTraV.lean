/-
  TransferCheck: the program's and the reference's.
-/
import Derived.Test.YtiinfbjlkbjmmaaQTraU
import Derived.Test.YtiinfbjlkbjmmaaQTraL
namespace Go.Proofs.Ytiinfbjlkbjmmaa
open Go.RowKit
set_option maxRecDepth 100000 in
theorem OwnS.z {w : World} {base bi n c : Nat} {A : Option Addr} {vs : List Vst} {r : List Stp} (h : OwnS w base bi A n c vs) (e : vs.map sp = r) (hs : ∀ st ∈ r, st.1.length ≤ 5) : StepsZ w A (r.map stz) := by
  have := h.steps
  rw [e] at this
  exact this.z (fun s hs' => by have := hs s hs'; omega)
/-- What TransferCheck tells. -/
def tcF (ps : List (ByteArray × Int)) (lots : List Int) (s : Int) (ss : List Stz) : Bool := (trF ps lots s).2 && ((trF ps lots s).1.map stz == ss)
set_option maxRecDepth 100000 in
set_option maxHeartbeats 1600000 in
theorem transferCheck_any (A A2 A3 : Option Addr) (ps : List (ByteArray × Int)) (lots : List Int) (ss : List Stz) (c c2 c3 : Nat) (s : Int) (w : World) (h : PilesI w A ps) (h2 : Ints w A2 lots) (h3 : StepsZ w A3 ss) (hl : ps.length ≤ 1048576) (hl2 : lots.length ≤ 1048576) (hl3 : ss.length ≤ 1048576) (hcap : lots.length ≤ c2) :
    Calls Try.prog 14 #[.slice A ps.length c, .slice A2 lots.length c2, .int .i64 s, .slice A3 ss.length c3] w (Bl w (.bool (tcF ps lots s ss))) := by
  have cT := Lib.hid (transferSteps_any A A2 ps lots c c2 s w h h2 hl hl2 hcap)
  obtain ⟨hs1, hs2⟩ := tr_small ps lots s
  unfold tcF
  generalize trF ps lots s = r at *
  obtain ⟨rs, b⟩ := r
  have hs1 : rs.length ≤ 5 := hs1
  have HS := Lib.hid hs2
  clear hs2
  cases b
  · go_enter Try.func14, Try.ntmps14
    go_wp2_with (go_at_call 19; refine cT.out.mono ?_; rintro e w1 ⟨B, d, vs, rfl, ho, ev, hb1⟩)
    go_ret
    exact ⟨rfl, hb1⟩
  · go_enter Try.func14, Try.ntmps14
    go_wp2_with fail
    refine cT.out.mono ?_
    rintro e w1 ⟨B, d, vs, rfl, ho, ev, hb1⟩
    have hz := ho.z ev HS.out
    have h31 := h3.below hb1
    have cE := equalFunc_any B A3 (rs.map stz) ss d c3 w1 hz h31 (by rw [List.length_map]; omega) hl3
    rw [List.length_map] at cE
    have cE := Lib.hid cE
    clear ho ev
    go_wp2_with (go_at_call 41; refine cE.out.mono ?_; rintro e w2 ⟨rfl, hb2⟩)
    go_ret
    exact ⟨ret_bool (by simp), below_down hb1 hb2⟩
end Go.Proofs.Ytiinfbjlkbjmmaa
