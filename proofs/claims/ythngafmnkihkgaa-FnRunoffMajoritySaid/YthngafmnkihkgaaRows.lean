/-
  No cell of these rows narrows 'for every input' (looked for: loops, veiled, ifaces, maps, wideKeys, modest, calm, conditions, laid).
  DERIVED. THE GIVEN ROWS OF THIS SEAT. 8 by the template 'for every input the law returns true; each argument reads behind the call as it read before'; 0 by the template 'total and deterministic' (their statements: YthngafmnkihkgaaTotals.lean).
  GIVEN WITH THE SEED: the statements are not yours to turn. If you find one false, say at which input.
  Laid BY PROGRAM, IN A SANDBOX (cutbox-rows.mjs): the forced cells as the released guide's own fill.sh prints them over the translation 87deb82a352c3a62… (all of the seat's roots in one cut). By AI agents, Wed Nov 11 2026. No macro, syntax, notation, axiom, sorry.
-/
import Derived.Test.YthngafmnkihkgaaChecked
import GoSem.Claim
import GoSem.ClaimJoined
import GoSem.ClaimMapViews
import Derived.JoinedTies
import Derived.KernelRfl
namespace Go.Proofs.Ythngafmnkihkgaa
/- THE CELL 'sum', in the pinned program and in every row, IS THE sha256 OF THE DUMP (.gsa) THAT YthngafmnkihkgaaProg.lean LOADS. Nothing in Lean hashes anything: it is a label: what it is worth is what the hold of that sum in a sandbox is worth. -/
noncomputable def Try.pinned : Pinned := { name := "ythngafmnkihkgaa", sum := "87deb82a352c3a62dfb62e34510e98b7d97e4c7d0095fc60bca25135cf9d99b2", checked := Try.checked }
namespace Rows
def none {H : Type} : Left H := { results := [], args := [] }

/-- 'laws.FnDepthAll': WHATEVER THE INPUT: true; the input reads as it did. -/
def fnDepthAllSpec : ChangeSpec := { name := "fnDepthAll", fn := fun _ => fun
  | [d] => { results := [.lit (.bool true)], args := [d] }
  | _ => none }
def fnDepthAllRow : OpenClaim := { program := "ythngafmnkihkgaa", sum := "87deb82a352c3a62dfb62e34510e98b7d97e4c7d0095fc60bca25135cf9d99b2", func := "loop.example/tallyaudit/laws.FnDepthAll", spec := "fnDepthAll", unfollowed := true, recurses := true, apart := false }
def FnDepthAllSaid : Prop := fnDepthAllRow.holds Try.pinned (OpenSpec.ofChange fnDepthAllSpec)

/-- ITS FALSE NEIGHBOUR: 'it returns false'. Refute it at one input. -/
def fnDepthAllWrong : ChangeSpec := { name := "fnDepthAll", fn := fun _ => fun
  | [d] => { results := [.lit (.bool false)], args := [d] }
  | _ => none }
def FnDepthAllWrongFalsely : Prop := fnDepthAllRow.holds Try.pinned (OpenSpec.ofChange fnDepthAllWrong)

/-- 'laws.FnFirstCountsMore': WHATEVER THE INPUT: true; the input reads as it did. -/
def fnFirstCountsMoreSpec : ChangeSpec := { name := "fnFirstCountsMore", fn := fun _ => fun
  | [d1, d2] => { results := [.lit (.bool true)], args := [d1, d2] }
  | _ => none }
def fnFirstCountsMoreRow : OpenClaim := { program := "ythngafmnkihkgaa", sum := "87deb82a352c3a62dfb62e34510e98b7d97e4c7d0095fc60bca25135cf9d99b2", func := "loop.example/tallyaudit/laws.FnFirstCountsMore", spec := "fnFirstCountsMore", apart := false }
def FnFirstCountsMoreSaid : Prop := fnFirstCountsMoreRow.holds Try.pinned (OpenSpec.ofChange fnFirstCountsMoreSpec)

/-- ITS FALSE NEIGHBOUR: 'it returns false'. Refute it at one input. -/
def fnFirstCountsMoreWrong : ChangeSpec := { name := "fnFirstCountsMore", fn := fun _ => fun
  | [d1, d2] => { results := [.lit (.bool false)], args := [d1, d2] }
  | _ => none }
def FnFirstCountsMoreWrongFalsely : Prop := fnFirstCountsMoreRow.holds Try.pinned (OpenSpec.ofChange fnFirstCountsMoreWrong)

/-- 'laws.FnPlaces': WHATEVER THE INPUT: true; the input reads as it did. -/
def fnPlacesSpec : ChangeSpec := { name := "fnPlaces", fn := fun _ => fun
  | [d] => { results := [.lit (.bool true)], args := [d] }
  | _ => none }
def fnPlacesRow : OpenClaim := { program := "ythngafmnkihkgaa", sum := "87deb82a352c3a62dfb62e34510e98b7d97e4c7d0095fc60bca25135cf9d99b2", func := "loop.example/tallyaudit/laws.FnPlaces", spec := "fnPlaces", unfollowed := true, recurses := true, apart := false }
def FnPlacesSaid : Prop := fnPlacesRow.holds Try.pinned (OpenSpec.ofChange fnPlacesSpec)

/-- ITS FALSE NEIGHBOUR: 'it returns false'. Refute it at one input. -/
def fnPlacesWrong : ChangeSpec := { name := "fnPlaces", fn := fun _ => fun
  | [d] => { results := [.lit (.bool false)], args := [d] }
  | _ => none }
def FnPlacesWrongFalsely : Prop := fnPlacesRow.holds Try.pinned (OpenSpec.ofChange fnPlacesWrong)

/-- 'laws.FnFirstCounts': WHATEVER THE INPUT: true; the input reads as it did. -/
def fnFirstCountsSpec : ChangeSpec := { name := "fnFirstCounts", fn := fun _ => fun
  | [d] => { results := [.lit (.bool true)], args := [d] }
  | _ => none }
def fnFirstCountsRow : OpenClaim := { program := "ythngafmnkihkgaa", sum := "87deb82a352c3a62dfb62e34510e98b7d97e4c7d0095fc60bca25135cf9d99b2", func := "loop.example/tallyaudit/laws.FnFirstCounts", spec := "fnFirstCounts", apart := false }
def FnFirstCountsSaid : Prop := fnFirstCountsRow.holds Try.pinned (OpenSpec.ofChange fnFirstCountsSpec)

/-- ITS FALSE NEIGHBOUR: 'it returns false'. Refute it at one input. -/
def fnFirstCountsWrong : ChangeSpec := { name := "fnFirstCounts", fn := fun _ => fun
  | [d] => { results := [.lit (.bool false)], args := [d] }
  | _ => none }
def FnFirstCountsWrongFalsely : Prop := fnFirstCountsRow.holds Try.pinned (OpenSpec.ofChange fnFirstCountsWrong)

/-- 'laws.FnLast': WHATEVER THE INPUT: true; the input reads as it did. -/
def fnLastSpec : ChangeSpec := { name := "fnLast", fn := fun _ => fun
  | [d] => { results := [.lit (.bool true)], args := [d] }
  | _ => none }
def fnLastRow : OpenClaim := { program := "ythngafmnkihkgaa", sum := "87deb82a352c3a62dfb62e34510e98b7d97e4c7d0095fc60bca25135cf9d99b2", func := "loop.example/tallyaudit/laws.FnLast", spec := "fnLast", unfollowed := true, recurses := true, apart := false }
def FnLastSaid : Prop := fnLastRow.holds Try.pinned (OpenSpec.ofChange fnLastSpec)

/-- ITS FALSE NEIGHBOUR: 'it returns false'. Refute it at one input. -/
def fnLastWrong : ChangeSpec := { name := "fnLast", fn := fun _ => fun
  | [d] => { results := [.lit (.bool false)], args := [d] }
  | _ => none }
def FnLastWrongFalsely : Prop := fnLastRow.holds Try.pinned (OpenSpec.ofChange fnLastWrong)

/-- 'laws.FnDepth': WHATEVER THE INPUT: true; the input reads as it did. -/
def fnDepthSpec : ChangeSpec := { name := "fnDepth", fn := fun _ => fun
  | [d] => { results := [.lit (.bool true)], args := [d] }
  | _ => none }
def fnDepthRow : OpenClaim := { program := "ythngafmnkihkgaa", sum := "87deb82a352c3a62dfb62e34510e98b7d97e4c7d0095fc60bca25135cf9d99b2", func := "loop.example/tallyaudit/laws.FnDepth", spec := "fnDepth", unfollowed := true, recurses := true, apart := false }
def FnDepthSaid : Prop := fnDepthRow.holds Try.pinned (OpenSpec.ofChange fnDepthSpec)

/-- ITS FALSE NEIGHBOUR: 'it returns false'. Refute it at one input. -/
def fnDepthWrong : ChangeSpec := { name := "fnDepth", fn := fun _ => fun
  | [d] => { results := [.lit (.bool false)], args := [d] }
  | _ => none }
def FnDepthWrongFalsely : Prop := fnDepthRow.holds Try.pinned (OpenSpec.ofChange fnDepthWrong)

/-- 'laws.FnRunoffEnd': WHATEVER THE INPUT: true; the input reads as it did. -/
def fnRunoffEndSpec : ChangeSpec := { name := "fnRunoffEnd", fn := fun _ => fun
  | [d] => { results := [.lit (.bool true)], args := [d] }
  | _ => none }
def fnRunoffEndRow : OpenClaim := { program := "ythngafmnkihkgaa", sum := "87deb82a352c3a62dfb62e34510e98b7d97e4c7d0095fc60bca25135cf9d99b2", func := "loop.example/tallyaudit/laws.FnRunoffEnd", spec := "fnRunoffEnd", apart := false }
def FnRunoffEndSaid : Prop := fnRunoffEndRow.holds Try.pinned (OpenSpec.ofChange fnRunoffEndSpec)

/-- ITS FALSE NEIGHBOUR: 'it returns false'. Refute it at one input. -/
def fnRunoffEndWrong : ChangeSpec := { name := "fnRunoffEnd", fn := fun _ => fun
  | [d] => { results := [.lit (.bool false)], args := [d] }
  | _ => none }
def FnRunoffEndWrongFalsely : Prop := fnRunoffEndRow.holds Try.pinned (OpenSpec.ofChange fnRunoffEndWrong)

/-- 'laws.FnRunoffMajority': WHATEVER THE INPUT: true; the input reads as it did. -/
def fnRunoffMajoritySpec : ChangeSpec := { name := "fnRunoffMajority", fn := fun _ => fun
  | [d] => { results := [.lit (.bool true)], args := [d] }
  | _ => none }
def fnRunoffMajorityRow : OpenClaim := { program := "ythngafmnkihkgaa", sum := "87deb82a352c3a62dfb62e34510e98b7d97e4c7d0095fc60bca25135cf9d99b2", func := "loop.example/tallyaudit/laws.FnRunoffMajority", spec := "fnRunoffMajority", apart := false }
def FnRunoffMajoritySaid : Prop := fnRunoffMajorityRow.holds Try.pinned (OpenSpec.ofChange fnRunoffMajoritySpec)

/-- ITS FALSE NEIGHBOUR: 'it returns false'. Refute it at one input. -/
def fnRunoffMajorityWrong : ChangeSpec := { name := "fnRunoffMajority", fn := fun _ => fun
  | [d] => { results := [.lit (.bool false)], args := [d] }
  | _ => none }
def FnRunoffMajorityWrongFalsely : Prop := fnRunoffMajorityRow.holds Try.pinned (OpenSpec.ofChange fnRunoffMajorityWrong)

/- THE SECOND FORM. 'bulk': how many values and letters a reading holds, each counted each time it is reached (what is shared counts as often as it is met; a slice's spare places count too). A statement '..UptoSaid' is the law's where the arguments, and the package variables that the reading takes, are together of bulk at most 1048576: NARROWER than '..Said'. Prove '..Said' where nothing that the law and all that it calls make is longer than what came in: it says more and counts as full. Else prove '..UptoSaid'. A law counts once. -/
mutual
def uptoBulk {H : Type} : DataW H → Nat
  | .lit (.string bytes) => bytes.length + 1
  | .lit _ => 1
  | .nil => 1
  | .ptr d => uptoBulk d + 1
  | .slice elems spare => uptoBulkAll elems + uptoBulkAll spare + 1
  | .agg parts => uptoBulkAll parts + 1
  | .iface _ d => uptoBulk d + 1
  | .map entries => uptoBulkEntries entries + 1
  | .held _ => 1
def uptoBulkAll {H : Type} : List (DataW H) → Nat
  | [] => 0
  | d :: r => uptoBulk d + uptoBulkAll r
def uptoBulkEntries {H : Type} : List (Lit × DataW H) → Nat
  | [] => 0
  | x :: r => uptoBulkEntry x + uptoBulkEntries r
def uptoBulkEntry {H : Type} : Lit × DataW H → Nat
  | (.string bytes, d) => bytes.length + uptoBulk d + 1
  | (_, d) => uptoBulk d + 1
 end
def uptoSmall : (H : Type) → List (DataW H) → Bool := fun _ ds => decide (uptoBulkAll ds ≤ 1048576)
def OpenSpec.upto (s : _root_.Go.ChangeSpec) : _root_.Go.OpenSpec := { _root_.Go.OpenSpec.ofChange s with cond := some uptoSmall }

/-- 'laws.FnDepthAll', WHERE WHAT IT READS IS OF BULK AT MOST 1048576: true; the input reads as it did. -/
def fnDepthAllUptoRow : OpenClaim := { program := "ythngafmnkihkgaa", sum := "87deb82a352c3a62dfb62e34510e98b7d97e4c7d0095fc60bca25135cf9d99b2", func := "loop.example/tallyaudit/laws.FnDepthAll", spec := "fnDepthAll", unfollowed := true, recurses := true, apart := false, narrowed := true }
def FnDepthAllUptoSaid : Prop := fnDepthAllUptoRow.holds Try.pinned (OpenSpec.upto fnDepthAllSpec)

/-- 'laws.FnFirstCountsMore', WHERE WHAT IT READS IS OF BULK AT MOST 1048576: true; the input reads as it did. -/
def fnFirstCountsMoreUptoRow : OpenClaim := { program := "ythngafmnkihkgaa", sum := "87deb82a352c3a62dfb62e34510e98b7d97e4c7d0095fc60bca25135cf9d99b2", func := "loop.example/tallyaudit/laws.FnFirstCountsMore", spec := "fnFirstCountsMore", apart := false, narrowed := true }
def FnFirstCountsMoreUptoSaid : Prop := fnFirstCountsMoreUptoRow.holds Try.pinned (OpenSpec.upto fnFirstCountsMoreSpec)

/-- 'laws.FnPlaces', WHERE WHAT IT READS IS OF BULK AT MOST 1048576: true; the input reads as it did. -/
def fnPlacesUptoRow : OpenClaim := { program := "ythngafmnkihkgaa", sum := "87deb82a352c3a62dfb62e34510e98b7d97e4c7d0095fc60bca25135cf9d99b2", func := "loop.example/tallyaudit/laws.FnPlaces", spec := "fnPlaces", unfollowed := true, recurses := true, apart := false, narrowed := true }
def FnPlacesUptoSaid : Prop := fnPlacesUptoRow.holds Try.pinned (OpenSpec.upto fnPlacesSpec)

/-- 'laws.FnFirstCounts', WHERE WHAT IT READS IS OF BULK AT MOST 1048576: true; the input reads as it did. -/
def fnFirstCountsUptoRow : OpenClaim := { program := "ythngafmnkihkgaa", sum := "87deb82a352c3a62dfb62e34510e98b7d97e4c7d0095fc60bca25135cf9d99b2", func := "loop.example/tallyaudit/laws.FnFirstCounts", spec := "fnFirstCounts", apart := false, narrowed := true }
def FnFirstCountsUptoSaid : Prop := fnFirstCountsUptoRow.holds Try.pinned (OpenSpec.upto fnFirstCountsSpec)

/-- 'laws.FnLast', WHERE WHAT IT READS IS OF BULK AT MOST 1048576: true; the input reads as it did. -/
def fnLastUptoRow : OpenClaim := { program := "ythngafmnkihkgaa", sum := "87deb82a352c3a62dfb62e34510e98b7d97e4c7d0095fc60bca25135cf9d99b2", func := "loop.example/tallyaudit/laws.FnLast", spec := "fnLast", unfollowed := true, recurses := true, apart := false, narrowed := true }
def FnLastUptoSaid : Prop := fnLastUptoRow.holds Try.pinned (OpenSpec.upto fnLastSpec)

/-- 'laws.FnDepth', WHERE WHAT IT READS IS OF BULK AT MOST 1048576: true; the input reads as it did. -/
def fnDepthUptoRow : OpenClaim := { program := "ythngafmnkihkgaa", sum := "87deb82a352c3a62dfb62e34510e98b7d97e4c7d0095fc60bca25135cf9d99b2", func := "loop.example/tallyaudit/laws.FnDepth", spec := "fnDepth", unfollowed := true, recurses := true, apart := false, narrowed := true }
def FnDepthUptoSaid : Prop := fnDepthUptoRow.holds Try.pinned (OpenSpec.upto fnDepthSpec)

/-- 'laws.FnRunoffEnd', WHERE WHAT IT READS IS OF BULK AT MOST 1048576: true; the input reads as it did. -/
def fnRunoffEndUptoRow : OpenClaim := { program := "ythngafmnkihkgaa", sum := "87deb82a352c3a62dfb62e34510e98b7d97e4c7d0095fc60bca25135cf9d99b2", func := "loop.example/tallyaudit/laws.FnRunoffEnd", spec := "fnRunoffEnd", apart := false, narrowed := true }
def FnRunoffEndUptoSaid : Prop := fnRunoffEndUptoRow.holds Try.pinned (OpenSpec.upto fnRunoffEndSpec)

/-- 'laws.FnRunoffMajority', WHERE WHAT IT READS IS OF BULK AT MOST 1048576: true; the input reads as it did. -/
def fnRunoffMajorityUptoRow : OpenClaim := { program := "ythngafmnkihkgaa", sum := "87deb82a352c3a62dfb62e34510e98b7d97e4c7d0095fc60bca25135cf9d99b2", func := "loop.example/tallyaudit/laws.FnRunoffMajority", spec := "fnRunoffMajority", apart := false, narrowed := true }
def FnRunoffMajorityUptoSaid : Prop := fnRunoffMajorityUptoRow.holds Try.pinned (OpenSpec.upto fnRunoffMajoritySpec)

end Rows
end Go.Proofs.Ythngafmnkihkgaa
