/-
  No cell of these rows narrows 'for every input' (looked for: loops, veiled, ifaces, maps, wideKeys, modest, calm, conditions, laid).
  DERIVED. THE GIVEN ROWS OF THIS SEAT. 12 by the template 'for every input the law returns true; each argument reads behind the call as it read before'; 0 by the template 'total and deterministic' (their statements: YtcddfibohcgjbaaTotals.lean).
  GIVEN WITH THE SEED: the statements are not yours to turn. If you find one false, say at which input.
  Laid BY PROGRAM, IN A SANDBOX (cutbox-rows.mjs): the forced cells as the released guide's own fill.sh prints them over the translation dc8dab6dfce2d2c2… (all of the seat's roots in one cut). By AI agents, Wed Nov 11 2026. No macro, syntax, notation, axiom, sorry.
-/
import Derived.Test.YtcddfibohcgjbaaChecked
import GoSem.Claim
import GoSem.ClaimJoined
import GoSem.ClaimMapViews
import Derived.JoinedTies
import Derived.KernelRfl
namespace Go.Proofs.Ytcddfibohcgjbaa
/- THE CELL 'sum', in the pinned program and in every row, IS THE sha256 OF THE DUMP (.gsa) THAT YtcddfibohcgjbaaProg.lean LOADS. Nothing in Lean hashes anything: it is a label: what it is worth is what the hold of that sum in a sandbox is worth. -/
noncomputable def Try.pinned : Pinned := { name := "ytcddfibohcgjbaa", sum := "dc8dab6dfce2d2c2a5b6660ca4c4d1db10c190b9d796a03ac5e96de56ef9fbdc", checked := Try.checked }
namespace Rows
def none {H : Type} : Left H := { results := [], args := [] }

/-- 'laws.FnHurdle': WHATEVER THE INPUT: true; the input reads as it did. -/
def fnHurdleSpec : ChangeSpec := { name := "fnHurdle", fn := fun _ => fun
  | [d] => { results := [.lit (.bool true)], args := [d] }
  | _ => none }
def fnHurdleRow : OpenClaim := { program := "ytcddfibohcgjbaa", sum := "dc8dab6dfce2d2c2a5b6660ca4c4d1db10c190b9d796a03ac5e96de56ef9fbdc", func := "loop.example/tallyaudit/laws.FnHurdle", spec := "fnHurdle", apart := false }
def FnHurdleSaid : Prop := fnHurdleRow.holds Try.pinned (OpenSpec.ofChange fnHurdleSpec)

/-- ITS FALSE NEIGHBOUR: 'it returns false'. Refute it at one input. -/
def fnHurdleWrong : ChangeSpec := { name := "fnHurdle", fn := fun _ => fun
  | [d] => { results := [.lit (.bool false)], args := [d] }
  | _ => none }
def FnHurdleWrongFalsely : Prop := fnHurdleRow.holds Try.pinned (OpenSpec.ofChange fnHurdleWrong)

/-- 'laws.FnParties': WHATEVER THE INPUT: true; the input reads as it did. -/
def fnPartiesSpec : ChangeSpec := { name := "fnParties", fn := fun _ => fun
  | [d] => { results := [.lit (.bool true)], args := [d] }
  | _ => none }
def fnPartiesRow : OpenClaim := { program := "ytcddfibohcgjbaa", sum := "dc8dab6dfce2d2c2a5b6660ca4c4d1db10c190b9d796a03ac5e96de56ef9fbdc", func := "loop.example/tallyaudit/laws.FnParties", spec := "fnParties", apart := false }
def FnPartiesSaid : Prop := fnPartiesRow.holds Try.pinned (OpenSpec.ofChange fnPartiesSpec)

/-- ITS FALSE NEIGHBOUR: 'it returns false'. Refute it at one input. -/
def fnPartiesWrong : ChangeSpec := { name := "fnParties", fn := fun _ => fun
  | [d] => { results := [.lit (.bool false)], args := [d] }
  | _ => none }
def FnPartiesWrongFalsely : Prop := fnPartiesRow.holds Try.pinned (OpenSpec.ofChange fnPartiesWrong)

/-- 'laws.FnPartiesScale': WHATEVER THE INPUT: true; the input reads as it did. -/
def fnPartiesScaleSpec : ChangeSpec := { name := "fnPartiesScale", fn := fun _ => fun
  | [d] => { results := [.lit (.bool true)], args := [d] }
  | _ => none }
def fnPartiesScaleRow : OpenClaim := { program := "ytcddfibohcgjbaa", sum := "dc8dab6dfce2d2c2a5b6660ca4c4d1db10c190b9d796a03ac5e96de56ef9fbdc", func := "loop.example/tallyaudit/laws.FnPartiesScale", spec := "fnPartiesScale", apart := false }
def FnPartiesScaleSaid : Prop := fnPartiesScaleRow.holds Try.pinned (OpenSpec.ofChange fnPartiesScaleSpec)

/-- ITS FALSE NEIGHBOUR: 'it returns false'. Refute it at one input. -/
def fnPartiesScaleWrong : ChangeSpec := { name := "fnPartiesScale", fn := fun _ => fun
  | [d] => { results := [.lit (.bool false)], args := [d] }
  | _ => none }
def FnPartiesScaleWrongFalsely : Prop := fnPartiesScaleRow.holds Try.pinned (OpenSpec.ofChange fnPartiesScaleWrong)

/-- 'laws.FnExactSeatsNext': WHATEVER THE INPUT: true; the input reads as it did. -/
def fnExactSeatsNextSpec : ChangeSpec := { name := "fnExactSeatsNext", fn := fun _ => fun
  | [d1, d2, d3, d4] => { results := [.lit (.bool true)], args := [d1, d2, d3, d4] }
  | _ => none }
def fnExactSeatsNextRow : OpenClaim := { program := "ytcddfibohcgjbaa", sum := "dc8dab6dfce2d2c2a5b6660ca4c4d1db10c190b9d796a03ac5e96de56ef9fbdc", func := "loop.example/tallyaudit/laws.FnExactSeatsNext", spec := "fnExactSeatsNext", apart := false }
def FnExactSeatsNextSaid : Prop := fnExactSeatsNextRow.holds Try.pinned (OpenSpec.ofChange fnExactSeatsNextSpec)

/-- ITS FALSE NEIGHBOUR: 'it returns false'. Refute it at one input. -/
def fnExactSeatsNextWrong : ChangeSpec := { name := "fnExactSeatsNext", fn := fun _ => fun
  | [d1, d2, d3, d4] => { results := [.lit (.bool false)], args := [d1, d2, d3, d4] }
  | _ => none }
def FnExactSeatsNextWrongFalsely : Prop := fnExactSeatsNextRow.holds Try.pinned (OpenSpec.ofChange fnExactSeatsNextWrong)

/-- 'laws.FnExactDistrictVotes': WHATEVER THE INPUT: true; the input reads as it did. -/
def fnExactDistrictVotesSpec : ChangeSpec := { name := "fnExactDistrictVotes", fn := fun _ => fun
  | [d] => { results := [.lit (.bool true)], args := [d] }
  | _ => none }
def fnExactDistrictVotesRow : OpenClaim := { program := "ytcddfibohcgjbaa", sum := "dc8dab6dfce2d2c2a5b6660ca4c4d1db10c190b9d796a03ac5e96de56ef9fbdc", func := "loop.example/tallyaudit/laws.FnExactDistrictVotes", spec := "fnExactDistrictVotes", apart := false }
def FnExactDistrictVotesSaid : Prop := fnExactDistrictVotesRow.holds Try.pinned (OpenSpec.ofChange fnExactDistrictVotesSpec)

/-- ITS FALSE NEIGHBOUR: 'it returns false'. Refute it at one input. -/
def fnExactDistrictVotesWrong : ChangeSpec := { name := "fnExactDistrictVotes", fn := fun _ => fun
  | [d] => { results := [.lit (.bool false)], args := [d] }
  | _ => none }
def FnExactDistrictVotesWrongFalsely : Prop := fnExactDistrictVotesRow.holds Try.pinned (OpenSpec.ofChange fnExactDistrictVotesWrong)

/-- 'laws.FnDistrictVotes': WHATEVER THE INPUT: true; the input reads as it did. -/
def fnDistrictVotesSpec : ChangeSpec := { name := "fnDistrictVotes", fn := fun _ => fun
  | [d] => { results := [.lit (.bool true)], args := [d] }
  | _ => none }
def fnDistrictVotesRow : OpenClaim := { program := "ytcddfibohcgjbaa", sum := "dc8dab6dfce2d2c2a5b6660ca4c4d1db10c190b9d796a03ac5e96de56ef9fbdc", func := "loop.example/tallyaudit/laws.FnDistrictVotes", spec := "fnDistrictVotes", apart := false }
def FnDistrictVotesSaid : Prop := fnDistrictVotesRow.holds Try.pinned (OpenSpec.ofChange fnDistrictVotesSpec)

/-- ITS FALSE NEIGHBOUR: 'it returns false'. Refute it at one input. -/
def fnDistrictVotesWrong : ChangeSpec := { name := "fnDistrictVotes", fn := fun _ => fun
  | [d] => { results := [.lit (.bool false)], args := [d] }
  | _ => none }
def FnDistrictVotesWrongFalsely : Prop := fnDistrictVotesRow.holds Try.pinned (OpenSpec.ofChange fnDistrictVotesWrong)

/-- 'laws.FnExactSeatsDivisor': WHATEVER THE INPUT: true; the input reads as it did. -/
def fnExactSeatsDivisorSpec : ChangeSpec := { name := "fnExactSeatsDivisor", fn := fun _ => fun
  | [d1, d2, d3, d4] => { results := [.lit (.bool true)], args := [d1, d2, d3, d4] }
  | _ => none }
def fnExactSeatsDivisorRow : OpenClaim := { program := "ytcddfibohcgjbaa", sum := "dc8dab6dfce2d2c2a5b6660ca4c4d1db10c190b9d796a03ac5e96de56ef9fbdc", func := "loop.example/tallyaudit/laws.FnExactSeatsDivisor", spec := "fnExactSeatsDivisor", apart := false }
def FnExactSeatsDivisorSaid : Prop := fnExactSeatsDivisorRow.holds Try.pinned (OpenSpec.ofChange fnExactSeatsDivisorSpec)

/-- ITS FALSE NEIGHBOUR: 'it returns false'. Refute it at one input. -/
def fnExactSeatsDivisorWrong : ChangeSpec := { name := "fnExactSeatsDivisor", fn := fun _ => fun
  | [d1, d2, d3, d4] => { results := [.lit (.bool false)], args := [d1, d2, d3, d4] }
  | _ => none }
def FnExactSeatsDivisorWrongFalsely : Prop := fnExactSeatsDivisorRow.holds Try.pinned (OpenSpec.ofChange fnExactSeatsDivisorWrong)

/-- 'laws.FnExactSeatsRemainder': WHATEVER THE INPUT: true; the input reads as it did. -/
def fnExactSeatsRemainderSpec : ChangeSpec := { name := "fnExactSeatsRemainder", fn := fun _ => fun
  | [d1, d2, d3] => { results := [.lit (.bool true)], args := [d1, d2, d3] }
  | _ => none }
def fnExactSeatsRemainderRow : OpenClaim := { program := "ytcddfibohcgjbaa", sum := "dc8dab6dfce2d2c2a5b6660ca4c4d1db10c190b9d796a03ac5e96de56ef9fbdc", func := "loop.example/tallyaudit/laws.FnExactSeatsRemainder", spec := "fnExactSeatsRemainder", apart := false }
def FnExactSeatsRemainderSaid : Prop := fnExactSeatsRemainderRow.holds Try.pinned (OpenSpec.ofChange fnExactSeatsRemainderSpec)

/-- ITS FALSE NEIGHBOUR: 'it returns false'. Refute it at one input. -/
def fnExactSeatsRemainderWrong : ChangeSpec := { name := "fnExactSeatsRemainder", fn := fun _ => fun
  | [d1, d2, d3] => { results := [.lit (.bool false)], args := [d1, d2, d3] }
  | _ => none }
def FnExactSeatsRemainderWrongFalsely : Prop := fnExactSeatsRemainderRow.holds Try.pinned (OpenSpec.ofChange fnExactSeatsRemainderWrong)

/-- 'laws.FnSeatsCheck': WHATEVER THE INPUT: true; the input reads as it did. -/
def fnSeatsCheckSpec : ChangeSpec := { name := "fnSeatsCheck", fn := fun _ => fun
  | [d1, d2] => { results := [.lit (.bool true)], args := [d1, d2] }
  | _ => none }
def fnSeatsCheckRow : OpenClaim := { program := "ytcddfibohcgjbaa", sum := "dc8dab6dfce2d2c2a5b6660ca4c4d1db10c190b9d796a03ac5e96de56ef9fbdc", func := "loop.example/tallyaudit/laws.FnSeatsCheck", spec := "fnSeatsCheck", apart := false }
def FnSeatsCheckSaid : Prop := fnSeatsCheckRow.holds Try.pinned (OpenSpec.ofChange fnSeatsCheckSpec)

/-- ITS FALSE NEIGHBOUR: 'it returns false'. Refute it at one input. -/
def fnSeatsCheckWrong : ChangeSpec := { name := "fnSeatsCheck", fn := fun _ => fun
  | [d1, d2] => { results := [.lit (.bool false)], args := [d1, d2] }
  | _ => none }
def FnSeatsCheckWrongFalsely : Prop := fnSeatsCheckRow.holds Try.pinned (OpenSpec.ofChange fnSeatsCheckWrong)

/-- 'laws.FnSeatsMore': WHATEVER THE INPUT: true; the input reads as it did. -/
def fnSeatsMoreSpec : ChangeSpec := { name := "fnSeatsMore", fn := fun _ => fun
  | [d] => { results := [.lit (.bool true)], args := [d] }
  | _ => none }
def fnSeatsMoreRow : OpenClaim := { program := "ytcddfibohcgjbaa", sum := "dc8dab6dfce2d2c2a5b6660ca4c4d1db10c190b9d796a03ac5e96de56ef9fbdc", func := "loop.example/tallyaudit/laws.FnSeatsMore", spec := "fnSeatsMore", apart := false }
def FnSeatsMoreSaid : Prop := fnSeatsMoreRow.holds Try.pinned (OpenSpec.ofChange fnSeatsMoreSpec)

/-- ITS FALSE NEIGHBOUR: 'it returns false'. Refute it at one input. -/
def fnSeatsMoreWrong : ChangeSpec := { name := "fnSeatsMore", fn := fun _ => fun
  | [d] => { results := [.lit (.bool false)], args := [d] }
  | _ => none }
def FnSeatsMoreWrongFalsely : Prop := fnSeatsMoreRow.holds Try.pinned (OpenSpec.ofChange fnSeatsMoreWrong)

/-- 'laws.FnSeatsScale': WHATEVER THE INPUT: true; the input reads as it did. -/
def fnSeatsScaleSpec : ChangeSpec := { name := "fnSeatsScale", fn := fun _ => fun
  | [d] => { results := [.lit (.bool true)], args := [d] }
  | _ => none }
def fnSeatsScaleRow : OpenClaim := { program := "ytcddfibohcgjbaa", sum := "dc8dab6dfce2d2c2a5b6660ca4c4d1db10c190b9d796a03ac5e96de56ef9fbdc", func := "loop.example/tallyaudit/laws.FnSeatsScale", spec := "fnSeatsScale", apart := false }
def FnSeatsScaleSaid : Prop := fnSeatsScaleRow.holds Try.pinned (OpenSpec.ofChange fnSeatsScaleSpec)

/-- ITS FALSE NEIGHBOUR: 'it returns false'. Refute it at one input. -/
def fnSeatsScaleWrong : ChangeSpec := { name := "fnSeatsScale", fn := fun _ => fun
  | [d] => { results := [.lit (.bool false)], args := [d] }
  | _ => none }
def FnSeatsScaleWrongFalsely : Prop := fnSeatsScaleRow.holds Try.pinned (OpenSpec.ofChange fnSeatsScaleWrong)

/-- 'laws.FnSeatsFloor': WHATEVER THE INPUT: true; the input reads as it did. -/
def fnSeatsFloorSpec : ChangeSpec := { name := "fnSeatsFloor", fn := fun _ => fun
  | [d] => { results := [.lit (.bool true)], args := [d] }
  | _ => none }
def fnSeatsFloorRow : OpenClaim := { program := "ytcddfibohcgjbaa", sum := "dc8dab6dfce2d2c2a5b6660ca4c4d1db10c190b9d796a03ac5e96de56ef9fbdc", func := "loop.example/tallyaudit/laws.FnSeatsFloor", spec := "fnSeatsFloor", apart := false }
def FnSeatsFloorSaid : Prop := fnSeatsFloorRow.holds Try.pinned (OpenSpec.ofChange fnSeatsFloorSpec)

/-- ITS FALSE NEIGHBOUR: 'it returns false'. Refute it at one input. -/
def fnSeatsFloorWrong : ChangeSpec := { name := "fnSeatsFloor", fn := fun _ => fun
  | [d] => { results := [.lit (.bool false)], args := [d] }
  | _ => none }
def FnSeatsFloorWrongFalsely : Prop := fnSeatsFloorRow.holds Try.pinned (OpenSpec.ofChange fnSeatsFloorWrong)

/- THE SECOND FORM. 'bulk': how many values and letters a reading holds, each counted each time it is reached (what is shared counts as often as it is met; a slice's spare places count too). A statement '..UptoSaid' is the law's where the arguments, and the package variables that the reading takes, are together of bulk at most 1048576: NARROWER than '..Said'. Prove '..Said' where nothing that the law and all that it calls make is longer than what came in: it says more and counts as full. Else prove '..UptoSaid'. A law counts once. -/
mutual
def uptoBulk {H : Type} : DataW H → Nat
  | .lit (.string bytes) => bytes.length + 1
  | .lit _ => 1
  | .nil => 1
  | .ptr d => uptoBulk d + 1
  | .slice elems spare => uptoBulkAll elems + uptoBulkAll spare + 1
  | .agg parts => uptoBulkAll parts + 1
  | .iface _ d => uptoBulk d + 1
  | .map entries => uptoBulkEntries entries + 1
  | .held _ => 1
def uptoBulkAll {H : Type} : List (DataW H) → Nat
  | [] => 0
  | d :: r => uptoBulk d + uptoBulkAll r
def uptoBulkEntries {H : Type} : List (Lit × DataW H) → Nat
  | [] => 0
  | x :: r => uptoBulkEntry x + uptoBulkEntries r
def uptoBulkEntry {H : Type} : Lit × DataW H → Nat
  | (.string bytes, d) => bytes.length + uptoBulk d + 1
  | (_, d) => uptoBulk d + 1
 end
def uptoSmall : (H : Type) → List (DataW H) → Bool := fun _ ds => decide (uptoBulkAll ds ≤ 1048576)
def OpenSpec.upto (s : _root_.Go.ChangeSpec) : _root_.Go.OpenSpec := { _root_.Go.OpenSpec.ofChange s with cond := some uptoSmall }

/-- 'laws.FnHurdle', WHERE WHAT IT READS IS OF BULK AT MOST 1048576: true; the input reads as it did. -/
def fnHurdleUptoRow : OpenClaim := { program := "ytcddfibohcgjbaa", sum := "dc8dab6dfce2d2c2a5b6660ca4c4d1db10c190b9d796a03ac5e96de56ef9fbdc", func := "loop.example/tallyaudit/laws.FnHurdle", spec := "fnHurdle", apart := false, narrowed := true }
def FnHurdleUptoSaid : Prop := fnHurdleUptoRow.holds Try.pinned (OpenSpec.upto fnHurdleSpec)

/-- 'laws.FnParties', WHERE WHAT IT READS IS OF BULK AT MOST 1048576: true; the input reads as it did. -/
def fnPartiesUptoRow : OpenClaim := { program := "ytcddfibohcgjbaa", sum := "dc8dab6dfce2d2c2a5b6660ca4c4d1db10c190b9d796a03ac5e96de56ef9fbdc", func := "loop.example/tallyaudit/laws.FnParties", spec := "fnParties", apart := false, narrowed := true }
def FnPartiesUptoSaid : Prop := fnPartiesUptoRow.holds Try.pinned (OpenSpec.upto fnPartiesSpec)

/-- 'laws.FnPartiesScale', WHERE WHAT IT READS IS OF BULK AT MOST 1048576: true; the input reads as it did. -/
def fnPartiesScaleUptoRow : OpenClaim := { program := "ytcddfibohcgjbaa", sum := "dc8dab6dfce2d2c2a5b6660ca4c4d1db10c190b9d796a03ac5e96de56ef9fbdc", func := "loop.example/tallyaudit/laws.FnPartiesScale", spec := "fnPartiesScale", apart := false, narrowed := true }
def FnPartiesScaleUptoSaid : Prop := fnPartiesScaleUptoRow.holds Try.pinned (OpenSpec.upto fnPartiesScaleSpec)

/-- 'laws.FnExactSeatsNext', WHERE WHAT IT READS IS OF BULK AT MOST 1048576: true; the input reads as it did. -/
def fnExactSeatsNextUptoRow : OpenClaim := { program := "ytcddfibohcgjbaa", sum := "dc8dab6dfce2d2c2a5b6660ca4c4d1db10c190b9d796a03ac5e96de56ef9fbdc", func := "loop.example/tallyaudit/laws.FnExactSeatsNext", spec := "fnExactSeatsNext", apart := false, narrowed := true }
def FnExactSeatsNextUptoSaid : Prop := fnExactSeatsNextUptoRow.holds Try.pinned (OpenSpec.upto fnExactSeatsNextSpec)

/-- 'laws.FnExactDistrictVotes', WHERE WHAT IT READS IS OF BULK AT MOST 1048576: true; the input reads as it did. -/
def fnExactDistrictVotesUptoRow : OpenClaim := { program := "ytcddfibohcgjbaa", sum := "dc8dab6dfce2d2c2a5b6660ca4c4d1db10c190b9d796a03ac5e96de56ef9fbdc", func := "loop.example/tallyaudit/laws.FnExactDistrictVotes", spec := "fnExactDistrictVotes", apart := false, narrowed := true }
def FnExactDistrictVotesUptoSaid : Prop := fnExactDistrictVotesUptoRow.holds Try.pinned (OpenSpec.upto fnExactDistrictVotesSpec)

/-- 'laws.FnDistrictVotes', WHERE WHAT IT READS IS OF BULK AT MOST 1048576: true; the input reads as it did. -/
def fnDistrictVotesUptoRow : OpenClaim := { program := "ytcddfibohcgjbaa", sum := "dc8dab6dfce2d2c2a5b6660ca4c4d1db10c190b9d796a03ac5e96de56ef9fbdc", func := "loop.example/tallyaudit/laws.FnDistrictVotes", spec := "fnDistrictVotes", apart := false, narrowed := true }
def FnDistrictVotesUptoSaid : Prop := fnDistrictVotesUptoRow.holds Try.pinned (OpenSpec.upto fnDistrictVotesSpec)

/-- 'laws.FnExactSeatsDivisor', WHERE WHAT IT READS IS OF BULK AT MOST 1048576: true; the input reads as it did. -/
def fnExactSeatsDivisorUptoRow : OpenClaim := { program := "ytcddfibohcgjbaa", sum := "dc8dab6dfce2d2c2a5b6660ca4c4d1db10c190b9d796a03ac5e96de56ef9fbdc", func := "loop.example/tallyaudit/laws.FnExactSeatsDivisor", spec := "fnExactSeatsDivisor", apart := false, narrowed := true }
def FnExactSeatsDivisorUptoSaid : Prop := fnExactSeatsDivisorUptoRow.holds Try.pinned (OpenSpec.upto fnExactSeatsDivisorSpec)

/-- 'laws.FnExactSeatsRemainder', WHERE WHAT IT READS IS OF BULK AT MOST 1048576: true; the input reads as it did. -/
def fnExactSeatsRemainderUptoRow : OpenClaim := { program := "ytcddfibohcgjbaa", sum := "dc8dab6dfce2d2c2a5b6660ca4c4d1db10c190b9d796a03ac5e96de56ef9fbdc", func := "loop.example/tallyaudit/laws.FnExactSeatsRemainder", spec := "fnExactSeatsRemainder", apart := false, narrowed := true }
def FnExactSeatsRemainderUptoSaid : Prop := fnExactSeatsRemainderUptoRow.holds Try.pinned (OpenSpec.upto fnExactSeatsRemainderSpec)

/-- 'laws.FnSeatsCheck', WHERE WHAT IT READS IS OF BULK AT MOST 1048576: true; the input reads as it did. -/
def fnSeatsCheckUptoRow : OpenClaim := { program := "ytcddfibohcgjbaa", sum := "dc8dab6dfce2d2c2a5b6660ca4c4d1db10c190b9d796a03ac5e96de56ef9fbdc", func := "loop.example/tallyaudit/laws.FnSeatsCheck", spec := "fnSeatsCheck", apart := false, narrowed := true }
def FnSeatsCheckUptoSaid : Prop := fnSeatsCheckUptoRow.holds Try.pinned (OpenSpec.upto fnSeatsCheckSpec)

/-- 'laws.FnSeatsMore', WHERE WHAT IT READS IS OF BULK AT MOST 1048576: true; the input reads as it did. -/
def fnSeatsMoreUptoRow : OpenClaim := { program := "ytcddfibohcgjbaa", sum := "dc8dab6dfce2d2c2a5b6660ca4c4d1db10c190b9d796a03ac5e96de56ef9fbdc", func := "loop.example/tallyaudit/laws.FnSeatsMore", spec := "fnSeatsMore", apart := false, narrowed := true }
def FnSeatsMoreUptoSaid : Prop := fnSeatsMoreUptoRow.holds Try.pinned (OpenSpec.upto fnSeatsMoreSpec)

/-- 'laws.FnSeatsScale', WHERE WHAT IT READS IS OF BULK AT MOST 1048576: true; the input reads as it did. -/
def fnSeatsScaleUptoRow : OpenClaim := { program := "ytcddfibohcgjbaa", sum := "dc8dab6dfce2d2c2a5b6660ca4c4d1db10c190b9d796a03ac5e96de56ef9fbdc", func := "loop.example/tallyaudit/laws.FnSeatsScale", spec := "fnSeatsScale", apart := false, narrowed := true }
def FnSeatsScaleUptoSaid : Prop := fnSeatsScaleUptoRow.holds Try.pinned (OpenSpec.upto fnSeatsScaleSpec)

/-- 'laws.FnSeatsFloor', WHERE WHAT IT READS IS OF BULK AT MOST 1048576: true; the input reads as it did. -/
def fnSeatsFloorUptoRow : OpenClaim := { program := "ytcddfibohcgjbaa", sum := "dc8dab6dfce2d2c2a5b6660ca4c4d1db10c190b9d796a03ac5e96de56ef9fbdc", func := "loop.example/tallyaudit/laws.FnSeatsFloor", spec := "fnSeatsFloor", apart := false, narrowed := true }
def FnSeatsFloorUptoSaid : Prop := fnSeatsFloorUptoRow.holds Try.pinned (OpenSpec.upto fnSeatsFloorSpec)

end Rows
end Go.Proofs.Ytcddfibohcgjbaa
