/-
  No cell of these rows narrows 'for every input' (looked for: loops, veiled, ifaces, maps, wideKeys, modest, calm, conditions, laid).
  DERIVED. THE GIVEN ROWS OF THIS SEAT. 7 by the template 'for every input the law returns true; each argument reads behind the call as it read before'; 0 by the template 'total and deterministic' (their statements: YtoblhmbpobbecaaTotals.lean).
  GIVEN WITH THE SEED: the statements are not yours to turn. If you find one false, say at which input.
  Laid BY PROGRAM, IN A SANDBOX (cutbox-rows.mjs): the forced cells as the released guide's own fill.sh prints them over the translation aaee8f6fa13e6aed… (all of the seat's roots in one cut). By AI agents, Wed Nov 11 2026. No macro, syntax, notation, axiom, sorry.
-/
import Derived.Test.YtoblhmbpobbecaaChecked
import GoSem.Claim
import GoSem.ClaimJoined
import GoSem.ClaimMapViews
import Derived.JoinedTies
import Derived.KernelRfl
namespace Go.Proofs.Ytoblhmbpobbecaa
/- THE CELL 'sum', in the pinned program and in every row, IS THE sha256 OF THE DUMP (.gsa) THAT YtoblhmbpobbecaaProg.lean LOADS. Nothing in Lean hashes anything: it is a label: what it is worth is what the hold of that sum in a sandbox is worth. -/
noncomputable def Try.pinned : Pinned := { name := "ytoblhmbpobbecaa", sum := "aaee8f6fa13e6aed820320bb9dc53e02357aa4547cf88a63bb1b7823478dd25d", checked := Try.checked }
namespace Rows
def none {H : Type} : Left H := { results := [], args := [] }

/-- 'laws.FnSquaresRemainder': WHATEVER THE INPUT: true; the input reads as it did. -/
def fnSquaresRemainderSpec : ChangeSpec := { name := "fnSquaresRemainder", fn := fun _ => fun
  | [d] => { results := [.lit (.bool true)], args := [d] }
  | _ => none }
def fnSquaresRemainderRow : OpenClaim := { program := "ytoblhmbpobbecaa", sum := "aaee8f6fa13e6aed820320bb9dc53e02357aa4547cf88a63bb1b7823478dd25d", func := "loop.example/tallyaudit/laws.FnSquaresRemainder", spec := "fnSquaresRemainder", apart := false }
def FnSquaresRemainderSaid : Prop := fnSquaresRemainderRow.holds Try.pinned (OpenSpec.ofChange fnSquaresRemainderSpec)

/-- ITS FALSE NEIGHBOUR: 'it returns false'. Refute it at one input. -/
def fnSquaresRemainderWrong : ChangeSpec := { name := "fnSquaresRemainder", fn := fun _ => fun
  | [d] => { results := [.lit (.bool false)], args := [d] }
  | _ => none }
def FnSquaresRemainderWrongFalsely : Prop := fnSquaresRemainderRow.holds Try.pinned (OpenSpec.ofChange fnSquaresRemainderWrong)

/-- 'laws.FnExactDistrictGap': WHATEVER THE INPUT: true; the input reads as it did. -/
def fnExactDistrictGapSpec : ChangeSpec := { name := "fnExactDistrictGap", fn := fun _ => fun
  | [d1, d2, d3, d4] => { results := [.lit (.bool true)], args := [d1, d2, d3, d4] }
  | _ => none }
def fnExactDistrictGapRow : OpenClaim := { program := "ytoblhmbpobbecaa", sum := "aaee8f6fa13e6aed820320bb9dc53e02357aa4547cf88a63bb1b7823478dd25d", func := "loop.example/tallyaudit/laws.FnExactDistrictGap", spec := "fnExactDistrictGap", apart := false }
def FnExactDistrictGapSaid : Prop := fnExactDistrictGapRow.holds Try.pinned (OpenSpec.ofChange fnExactDistrictGapSpec)

/-- ITS FALSE NEIGHBOUR: 'it returns false'. Refute it at one input. -/
def fnExactDistrictGapWrong : ChangeSpec := { name := "fnExactDistrictGap", fn := fun _ => fun
  | [d1, d2, d3, d4] => { results := [.lit (.bool false)], args := [d1, d2, d3, d4] }
  | _ => none }
def FnExactDistrictGapWrongFalsely : Prop := fnExactDistrictGapRow.holds Try.pinned (OpenSpec.ofChange fnExactDistrictGapWrong)

/-- 'laws.FnExactDistrictSeats': WHATEVER THE INPUT: true; the input reads as it did. -/
def fnExactDistrictSeatsSpec : ChangeSpec := { name := "fnExactDistrictSeats", fn := fun _ => fun
  | [d1, d2, d3, d4] => { results := [.lit (.bool true)], args := [d1, d2, d3, d4] }
  | _ => none }
def fnExactDistrictSeatsRow : OpenClaim := { program := "ytoblhmbpobbecaa", sum := "aaee8f6fa13e6aed820320bb9dc53e02357aa4547cf88a63bb1b7823478dd25d", func := "loop.example/tallyaudit/laws.FnExactDistrictSeats", spec := "fnExactDistrictSeats", apart := false }
def FnExactDistrictSeatsSaid : Prop := fnExactDistrictSeatsRow.holds Try.pinned (OpenSpec.ofChange fnExactDistrictSeatsSpec)

/-- ITS FALSE NEIGHBOUR: 'it returns false'. Refute it at one input. -/
def fnExactDistrictSeatsWrong : ChangeSpec := { name := "fnExactDistrictSeats", fn := fun _ => fun
  | [d1, d2, d3, d4] => { results := [.lit (.bool false)], args := [d1, d2, d3, d4] }
  | _ => none }
def FnExactDistrictSeatsWrongFalsely : Prop := fnExactDistrictSeatsRow.holds Try.pinned (OpenSpec.ofChange fnExactDistrictSeatsWrong)

/-- 'laws.FnExactDistrictLevel': WHATEVER THE INPUT: true; the input reads as it did. -/
def fnExactDistrictLevelSpec : ChangeSpec := { name := "fnExactDistrictLevel", fn := fun _ => fun
  | [d1, d2, d3, d4, d5] => { results := [.lit (.bool true)], args := [d1, d2, d3, d4, d5] }
  | _ => none }
def fnExactDistrictLevelRow : OpenClaim := { program := "ytoblhmbpobbecaa", sum := "aaee8f6fa13e6aed820320bb9dc53e02357aa4547cf88a63bb1b7823478dd25d", func := "loop.example/tallyaudit/laws.FnExactDistrictLevel", spec := "fnExactDistrictLevel", apart := false }
def FnExactDistrictLevelSaid : Prop := fnExactDistrictLevelRow.holds Try.pinned (OpenSpec.ofChange fnExactDistrictLevelSpec)

/-- ITS FALSE NEIGHBOUR: 'it returns false'. Refute it at one input. -/
def fnExactDistrictLevelWrong : ChangeSpec := { name := "fnExactDistrictLevel", fn := fun _ => fun
  | [d1, d2, d3, d4, d5] => { results := [.lit (.bool false)], args := [d1, d2, d3, d4, d5] }
  | _ => none }
def FnExactDistrictLevelWrongFalsely : Prop := fnExactDistrictLevelRow.holds Try.pinned (OpenSpec.ofChange fnExactDistrictLevelWrong)

/-- 'laws.FnDistrictOne': WHATEVER THE INPUT: true; the input reads as it did. -/
def fnDistrictOneSpec : ChangeSpec := { name := "fnDistrictOne", fn := fun _ => fun
  | [d] => { results := [.lit (.bool true)], args := [d] }
  | _ => none }
def fnDistrictOneRow : OpenClaim := { program := "ytoblhmbpobbecaa", sum := "aaee8f6fa13e6aed820320bb9dc53e02357aa4547cf88a63bb1b7823478dd25d", func := "loop.example/tallyaudit/laws.FnDistrictOne", spec := "fnDistrictOne", apart := false }
def FnDistrictOneSaid : Prop := fnDistrictOneRow.holds Try.pinned (OpenSpec.ofChange fnDistrictOneSpec)

/-- ITS FALSE NEIGHBOUR: 'it returns false'. Refute it at one input. -/
def fnDistrictOneWrong : ChangeSpec := { name := "fnDistrictOne", fn := fun _ => fun
  | [d] => { results := [.lit (.bool false)], args := [d] }
  | _ => none }
def FnDistrictOneWrongFalsely : Prop := fnDistrictOneRow.holds Try.pinned (OpenSpec.ofChange fnDistrictOneWrong)

/-- 'laws.FnDistrictSeats': WHATEVER THE INPUT: true; the input reads as it did. -/
def fnDistrictSeatsSpec : ChangeSpec := { name := "fnDistrictSeats", fn := fun _ => fun
  | [d] => { results := [.lit (.bool true)], args := [d] }
  | _ => none }
def fnDistrictSeatsRow : OpenClaim := { program := "ytoblhmbpobbecaa", sum := "aaee8f6fa13e6aed820320bb9dc53e02357aa4547cf88a63bb1b7823478dd25d", func := "loop.example/tallyaudit/laws.FnDistrictSeats", spec := "fnDistrictSeats", apart := false }
def FnDistrictSeatsSaid : Prop := fnDistrictSeatsRow.holds Try.pinned (OpenSpec.ofChange fnDistrictSeatsSpec)

/-- ITS FALSE NEIGHBOUR: 'it returns false'. Refute it at one input. -/
def fnDistrictSeatsWrong : ChangeSpec := { name := "fnDistrictSeats", fn := fun _ => fun
  | [d] => { results := [.lit (.bool false)], args := [d] }
  | _ => none }
def FnDistrictSeatsWrongFalsely : Prop := fnDistrictSeatsRow.holds Try.pinned (OpenSpec.ofChange fnDistrictSeatsWrong)

/-- 'laws.FnDistrictGap': WHATEVER THE INPUT: true; the input reads as it did. -/
def fnDistrictGapSpec : ChangeSpec := { name := "fnDistrictGap", fn := fun _ => fun
  | [d] => { results := [.lit (.bool true)], args := [d] }
  | _ => none }
def fnDistrictGapRow : OpenClaim := { program := "ytoblhmbpobbecaa", sum := "aaee8f6fa13e6aed820320bb9dc53e02357aa4547cf88a63bb1b7823478dd25d", func := "loop.example/tallyaudit/laws.FnDistrictGap", spec := "fnDistrictGap", apart := false }
def FnDistrictGapSaid : Prop := fnDistrictGapRow.holds Try.pinned (OpenSpec.ofChange fnDistrictGapSpec)

/-- ITS FALSE NEIGHBOUR: 'it returns false'. Refute it at one input. -/
def fnDistrictGapWrong : ChangeSpec := { name := "fnDistrictGap", fn := fun _ => fun
  | [d] => { results := [.lit (.bool false)], args := [d] }
  | _ => none }
def FnDistrictGapWrongFalsely : Prop := fnDistrictGapRow.holds Try.pinned (OpenSpec.ofChange fnDistrictGapWrong)

/- THE SECOND FORM. 'bulk': how many values and letters a reading holds, each counted each time it is reached (what is shared counts as often as it is met; a slice's spare places count too). A statement '..UptoSaid' is the law's where the arguments, and the package variables that the reading takes, are together of bulk at most 1048576: NARROWER than '..Said'. Prove '..Said' where nothing that the law and all that it calls make is longer than what came in: it says more and counts as full. Else prove '..UptoSaid'. A law counts once. -/
mutual
def uptoBulk {H : Type} : DataW H → Nat
  | .lit (.string bytes) => bytes.length + 1
  | .lit _ => 1
  | .nil => 1
  | .ptr d => uptoBulk d + 1
  | .slice elems spare => uptoBulkAll elems + uptoBulkAll spare + 1
  | .agg parts => uptoBulkAll parts + 1
  | .iface _ d => uptoBulk d + 1
  | .map entries => uptoBulkEntries entries + 1
  | .held _ => 1
def uptoBulkAll {H : Type} : List (DataW H) → Nat
  | [] => 0
  | d :: r => uptoBulk d + uptoBulkAll r
def uptoBulkEntries {H : Type} : List (Lit × DataW H) → Nat
  | [] => 0
  | x :: r => uptoBulkEntry x + uptoBulkEntries r
def uptoBulkEntry {H : Type} : Lit × DataW H → Nat
  | (.string bytes, d) => bytes.length + uptoBulk d + 1
  | (_, d) => uptoBulk d + 1
 end
def uptoSmall : (H : Type) → List (DataW H) → Bool := fun _ ds => decide (uptoBulkAll ds ≤ 1048576)
def OpenSpec.upto (s : _root_.Go.ChangeSpec) : _root_.Go.OpenSpec := { _root_.Go.OpenSpec.ofChange s with cond := some uptoSmall }

/-- 'laws.FnSquaresRemainder', WHERE WHAT IT READS IS OF BULK AT MOST 1048576: true; the input reads as it did. -/
def fnSquaresRemainderUptoRow : OpenClaim := { program := "ytoblhmbpobbecaa", sum := "aaee8f6fa13e6aed820320bb9dc53e02357aa4547cf88a63bb1b7823478dd25d", func := "loop.example/tallyaudit/laws.FnSquaresRemainder", spec := "fnSquaresRemainder", apart := false, narrowed := true }
def FnSquaresRemainderUptoSaid : Prop := fnSquaresRemainderUptoRow.holds Try.pinned (OpenSpec.upto fnSquaresRemainderSpec)

/-- 'laws.FnExactDistrictGap', WHERE WHAT IT READS IS OF BULK AT MOST 1048576: true; the input reads as it did. -/
def fnExactDistrictGapUptoRow : OpenClaim := { program := "ytoblhmbpobbecaa", sum := "aaee8f6fa13e6aed820320bb9dc53e02357aa4547cf88a63bb1b7823478dd25d", func := "loop.example/tallyaudit/laws.FnExactDistrictGap", spec := "fnExactDistrictGap", apart := false, narrowed := true }
def FnExactDistrictGapUptoSaid : Prop := fnExactDistrictGapUptoRow.holds Try.pinned (OpenSpec.upto fnExactDistrictGapSpec)

/-- 'laws.FnExactDistrictSeats', WHERE WHAT IT READS IS OF BULK AT MOST 1048576: true; the input reads as it did. -/
def fnExactDistrictSeatsUptoRow : OpenClaim := { program := "ytoblhmbpobbecaa", sum := "aaee8f6fa13e6aed820320bb9dc53e02357aa4547cf88a63bb1b7823478dd25d", func := "loop.example/tallyaudit/laws.FnExactDistrictSeats", spec := "fnExactDistrictSeats", apart := false, narrowed := true }
def FnExactDistrictSeatsUptoSaid : Prop := fnExactDistrictSeatsUptoRow.holds Try.pinned (OpenSpec.upto fnExactDistrictSeatsSpec)

/-- 'laws.FnExactDistrictLevel', WHERE WHAT IT READS IS OF BULK AT MOST 1048576: true; the input reads as it did. -/
def fnExactDistrictLevelUptoRow : OpenClaim := { program := "ytoblhmbpobbecaa", sum := "aaee8f6fa13e6aed820320bb9dc53e02357aa4547cf88a63bb1b7823478dd25d", func := "loop.example/tallyaudit/laws.FnExactDistrictLevel", spec := "fnExactDistrictLevel", apart := false, narrowed := true }
def FnExactDistrictLevelUptoSaid : Prop := fnExactDistrictLevelUptoRow.holds Try.pinned (OpenSpec.upto fnExactDistrictLevelSpec)

/-- 'laws.FnDistrictOne', WHERE WHAT IT READS IS OF BULK AT MOST 1048576: true; the input reads as it did. -/
def fnDistrictOneUptoRow : OpenClaim := { program := "ytoblhmbpobbecaa", sum := "aaee8f6fa13e6aed820320bb9dc53e02357aa4547cf88a63bb1b7823478dd25d", func := "loop.example/tallyaudit/laws.FnDistrictOne", spec := "fnDistrictOne", apart := false, narrowed := true }
def FnDistrictOneUptoSaid : Prop := fnDistrictOneUptoRow.holds Try.pinned (OpenSpec.upto fnDistrictOneSpec)

/-- 'laws.FnDistrictSeats', WHERE WHAT IT READS IS OF BULK AT MOST 1048576: true; the input reads as it did. -/
def fnDistrictSeatsUptoRow : OpenClaim := { program := "ytoblhmbpobbecaa", sum := "aaee8f6fa13e6aed820320bb9dc53e02357aa4547cf88a63bb1b7823478dd25d", func := "loop.example/tallyaudit/laws.FnDistrictSeats", spec := "fnDistrictSeats", apart := false, narrowed := true }
def FnDistrictSeatsUptoSaid : Prop := fnDistrictSeatsUptoRow.holds Try.pinned (OpenSpec.upto fnDistrictSeatsSpec)

/-- 'laws.FnDistrictGap', WHERE WHAT IT READS IS OF BULK AT MOST 1048576: true; the input reads as it did. -/
def fnDistrictGapUptoRow : OpenClaim := { program := "ytoblhmbpobbecaa", sum := "aaee8f6fa13e6aed820320bb9dc53e02357aa4547cf88a63bb1b7823478dd25d", func := "loop.example/tallyaudit/laws.FnDistrictGap", spec := "fnDistrictGap", apart := false, narrowed := true }
def FnDistrictGapUptoSaid : Prop := fnDistrictGapUptoRow.holds Try.pinned (OpenSpec.upto fnDistrictGapSpec)

end Rows
end Go.Proofs.Ytoblhmbpobbecaa
