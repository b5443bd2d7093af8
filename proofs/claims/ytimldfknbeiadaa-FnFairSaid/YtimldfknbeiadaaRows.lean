/-
  No cell of these rows narrows 'for every input' (looked for: loops, veiled, ifaces, maps, wideKeys, modest, calm, conditions, laid).
  DERIVED. THE GIVEN ROWS OF THIS SEAT. 12 by the template 'for every input the law returns true; each argument reads behind the call as it read before'; 0 by the template 'total and deterministic' (their statements: YtimldfknbeiadaaTotals.lean).
  GIVEN WITH THE SEED: the statements are not yours to turn. If you find one false, say at which input.
  Laid BY PROGRAM, IN A SANDBOX (cutbox-rows.mjs): the forced cells as the released guide's own fill.sh prints them over the translation e221dfd0ad96a95a… (all of the seat's roots in one cut). By AI agents, Wed Nov 11 2026. No macro, syntax, notation, axiom, sorry.
-/
import Derived.Test.YtimldfknbeiadaaChecked
import GoSem.Claim
import GoSem.ClaimJoined
import GoSem.ClaimMapViews
import Derived.JoinedTies
import Derived.KernelRfl
namespace Go.Proofs.Ytimldfknbeiadaa
/- THE CELL 'sum', in the pinned program and in every row, IS THE sha256 OF THE DUMP (.gsa) THAT YtimldfknbeiadaaProg.lean LOADS. Nothing in Lean hashes anything: it is a label: what it is worth is what the hold of that sum in a sandbox is worth. -/
noncomputable def Try.pinned : Pinned := { name := "ytimldfknbeiadaa", sum := "e221dfd0ad96a95ace8d8dd74e683711ebb216fae5cee21181bc8afe6e4bfba8", checked := Try.checked }
namespace Rows
def none {H : Type} : Left H := { results := [], args := [] }

/-- 'laws.FnSeatsOrder': WHATEVER THE INPUT: true; the input reads as it did. -/
def fnSeatsOrderSpec : ChangeSpec := { name := "fnSeatsOrder", fn := fun _ => fun
  | [d] => { results := [.lit (.bool true)], args := [d] }
  | _ => none }
def fnSeatsOrderRow : OpenClaim := { program := "ytimldfknbeiadaa", sum := "e221dfd0ad96a95ace8d8dd74e683711ebb216fae5cee21181bc8afe6e4bfba8", func := "loop.example/tallyaudit/laws.FnSeatsOrder", spec := "fnSeatsOrder", apart := false }
def FnSeatsOrderSaid : Prop := fnSeatsOrderRow.holds Try.pinned (OpenSpec.ofChange fnSeatsOrderSpec)

/-- ITS FALSE NEIGHBOUR: 'it returns false'. Refute it at one input. -/
def fnSeatsOrderWrong : ChangeSpec := { name := "fnSeatsOrder", fn := fun _ => fun
  | [d] => { results := [.lit (.bool false)], args := [d] }
  | _ => none }
def FnSeatsOrderWrongFalsely : Prop := fnSeatsOrderRow.holds Try.pinned (OpenSpec.ofChange fnSeatsOrderWrong)

/-- 'laws.FnRemainderVotes': WHATEVER THE INPUT: true; the input reads as it did. -/
def fnRemainderVotesSpec : ChangeSpec := { name := "fnRemainderVotes", fn := fun _ => fun
  | [d] => { results := [.lit (.bool true)], args := [d] }
  | _ => none }
def fnRemainderVotesRow : OpenClaim := { program := "ytimldfknbeiadaa", sum := "e221dfd0ad96a95ace8d8dd74e683711ebb216fae5cee21181bc8afe6e4bfba8", func := "loop.example/tallyaudit/laws.FnRemainderVotes", spec := "fnRemainderVotes", apart := false }
def FnRemainderVotesSaid : Prop := fnRemainderVotesRow.holds Try.pinned (OpenSpec.ofChange fnRemainderVotesSpec)

/-- ITS FALSE NEIGHBOUR: 'it returns false'. Refute it at one input. -/
def fnRemainderVotesWrong : ChangeSpec := { name := "fnRemainderVotes", fn := fun _ => fun
  | [d] => { results := [.lit (.bool false)], args := [d] }
  | _ => none }
def FnRemainderVotesWrongFalsely : Prop := fnRemainderVotesRow.holds Try.pinned (OpenSpec.ofChange fnRemainderVotesWrong)

/-- 'laws.FnRemainderExact': WHATEVER THE INPUT: true; the input reads as it did. -/
def fnRemainderExactSpec : ChangeSpec := { name := "fnRemainderExact", fn := fun _ => fun
  | [d] => { results := [.lit (.bool true)], args := [d] }
  | _ => none }
def fnRemainderExactRow : OpenClaim := { program := "ytimldfknbeiadaa", sum := "e221dfd0ad96a95ace8d8dd74e683711ebb216fae5cee21181bc8afe6e4bfba8", func := "loop.example/tallyaudit/laws.FnRemainderExact", spec := "fnRemainderExact", apart := false }
def FnRemainderExactSaid : Prop := fnRemainderExactRow.holds Try.pinned (OpenSpec.ofChange fnRemainderExactSpec)

/-- ITS FALSE NEIGHBOUR: 'it returns false'. Refute it at one input. -/
def fnRemainderExactWrong : ChangeSpec := { name := "fnRemainderExact", fn := fun _ => fun
  | [d] => { results := [.lit (.bool false)], args := [d] }
  | _ => none }
def FnRemainderExactWrongFalsely : Prop := fnRemainderExactRow.holds Try.pinned (OpenSpec.ofChange fnRemainderExactWrong)

/-- 'laws.FnSeats': WHATEVER THE INPUT: true; the input reads as it did. -/
def fnSeatsSpec : ChangeSpec := { name := "fnSeats", fn := fun _ => fun
  | [d] => { results := [.lit (.bool true)], args := [d] }
  | _ => none }
def fnSeatsRow : OpenClaim := { program := "ytimldfknbeiadaa", sum := "e221dfd0ad96a95ace8d8dd74e683711ebb216fae5cee21181bc8afe6e4bfba8", func := "loop.example/tallyaudit/laws.FnSeats", spec := "fnSeats", apart := false }
def FnSeatsSaid : Prop := fnSeatsRow.holds Try.pinned (OpenSpec.ofChange fnSeatsSpec)

/-- ITS FALSE NEIGHBOUR: 'it returns false'. Refute it at one input. -/
def fnSeatsWrong : ChangeSpec := { name := "fnSeats", fn := fun _ => fun
  | [d] => { results := [.lit (.bool false)], args := [d] }
  | _ => none }
def FnSeatsWrongFalsely : Prop := fnSeatsRow.holds Try.pinned (OpenSpec.ofChange fnSeatsWrong)

/-- 'laws.FnRemainderOrder': WHATEVER THE INPUT: true; the input reads as it did. -/
def fnRemainderOrderSpec : ChangeSpec := { name := "fnRemainderOrder", fn := fun _ => fun
  | [d] => { results := [.lit (.bool true)], args := [d] }
  | _ => none }
def fnRemainderOrderRow : OpenClaim := { program := "ytimldfknbeiadaa", sum := "e221dfd0ad96a95ace8d8dd74e683711ebb216fae5cee21181bc8afe6e4bfba8", func := "loop.example/tallyaudit/laws.FnRemainderOrder", spec := "fnRemainderOrder", apart := false }
def FnRemainderOrderSaid : Prop := fnRemainderOrderRow.holds Try.pinned (OpenSpec.ofChange fnRemainderOrderSpec)

/-- ITS FALSE NEIGHBOUR: 'it returns false'. Refute it at one input. -/
def fnRemainderOrderWrong : ChangeSpec := { name := "fnRemainderOrder", fn := fun _ => fun
  | [d] => { results := [.lit (.bool false)], args := [d] }
  | _ => none }
def FnRemainderOrderWrongFalsely : Prop := fnRemainderOrderRow.holds Try.pinned (OpenSpec.ofChange fnRemainderOrderWrong)

/-- 'laws.FnSeatsNext': WHATEVER THE INPUT: true; the input reads as it did. -/
def fnSeatsNextSpec : ChangeSpec := { name := "fnSeatsNext", fn := fun _ => fun
  | [d] => { results := [.lit (.bool true)], args := [d] }
  | _ => none }
def fnSeatsNextRow : OpenClaim := { program := "ytimldfknbeiadaa", sum := "e221dfd0ad96a95ace8d8dd74e683711ebb216fae5cee21181bc8afe6e4bfba8", func := "loop.example/tallyaudit/laws.FnSeatsNext", spec := "fnSeatsNext", apart := false }
def FnSeatsNextSaid : Prop := fnSeatsNextRow.holds Try.pinned (OpenSpec.ofChange fnSeatsNextSpec)

/-- ITS FALSE NEIGHBOUR: 'it returns false'. Refute it at one input. -/
def fnSeatsNextWrong : ChangeSpec := { name := "fnSeatsNext", fn := fun _ => fun
  | [d] => { results := [.lit (.bool false)], args := [d] }
  | _ => none }
def FnSeatsNextWrongFalsely : Prop := fnSeatsNextRow.holds Try.pinned (OpenSpec.ofChange fnSeatsNextWrong)

/-- 'laws.FnSeatsNextCheck': WHATEVER THE INPUT: true; the input reads as it did. -/
def fnSeatsNextCheckSpec : ChangeSpec := { name := "fnSeatsNextCheck", fn := fun _ => fun
  | [d] => { results := [.lit (.bool true)], args := [d] }
  | _ => none }
def fnSeatsNextCheckRow : OpenClaim := { program := "ytimldfknbeiadaa", sum := "e221dfd0ad96a95ace8d8dd74e683711ebb216fae5cee21181bc8afe6e4bfba8", func := "loop.example/tallyaudit/laws.FnSeatsNextCheck", spec := "fnSeatsNextCheck", apart := false }
def FnSeatsNextCheckSaid : Prop := fnSeatsNextCheckRow.holds Try.pinned (OpenSpec.ofChange fnSeatsNextCheckSpec)

/-- ITS FALSE NEIGHBOUR: 'it returns false'. Refute it at one input. -/
def fnSeatsNextCheckWrong : ChangeSpec := { name := "fnSeatsNextCheck", fn := fun _ => fun
  | [d] => { results := [.lit (.bool false)], args := [d] }
  | _ => none }
def FnSeatsNextCheckWrongFalsely : Prop := fnSeatsNextCheckRow.holds Try.pinned (OpenSpec.ofChange fnSeatsNextCheckWrong)

/-- 'laws.FnRemainder': WHATEVER THE INPUT: true; the input reads as it did. -/
def fnRemainderSpec : ChangeSpec := { name := "fnRemainder", fn := fun _ => fun
  | [d] => { results := [.lit (.bool true)], args := [d] }
  | _ => none }
def fnRemainderRow : OpenClaim := { program := "ytimldfknbeiadaa", sum := "e221dfd0ad96a95ace8d8dd74e683711ebb216fae5cee21181bc8afe6e4bfba8", func := "loop.example/tallyaudit/laws.FnRemainder", spec := "fnRemainder", apart := false }
def FnRemainderSaid : Prop := fnRemainderRow.holds Try.pinned (OpenSpec.ofChange fnRemainderSpec)

/-- ITS FALSE NEIGHBOUR: 'it returns false'. Refute it at one input. -/
def fnRemainderWrong : ChangeSpec := { name := "fnRemainder", fn := fun _ => fun
  | [d] => { results := [.lit (.bool false)], args := [d] }
  | _ => none }
def FnRemainderWrongFalsely : Prop := fnRemainderRow.holds Try.pinned (OpenSpec.ofChange fnRemainderWrong)

/-- 'laws.FnGap': WHATEVER THE INPUT: true; the input reads as it did. -/
def fnGapSpec : ChangeSpec := { name := "fnGap", fn := fun _ => fun
  | [d] => { results := [.lit (.bool true)], args := [d] }
  | _ => none }
def fnGapRow : OpenClaim := { program := "ytimldfknbeiadaa", sum := "e221dfd0ad96a95ace8d8dd74e683711ebb216fae5cee21181bc8afe6e4bfba8", func := "loop.example/tallyaudit/laws.FnGap", spec := "fnGap", apart := false }
def FnGapSaid : Prop := fnGapRow.holds Try.pinned (OpenSpec.ofChange fnGapSpec)

/-- ITS FALSE NEIGHBOUR: 'it returns false'. Refute it at one input. -/
def fnGapWrong : ChangeSpec := { name := "fnGap", fn := fun _ => fun
  | [d] => { results := [.lit (.bool false)], args := [d] }
  | _ => none }
def FnGapWrongFalsely : Prop := fnGapRow.holds Try.pinned (OpenSpec.ofChange fnGapWrong)

/-- 'laws.FnFair': WHATEVER THE INPUT: true; the input reads as it did. -/
def fnFairSpec : ChangeSpec := { name := "fnFair", fn := fun _ => fun
  | [d] => { results := [.lit (.bool true)], args := [d] }
  | _ => none }
def fnFairRow : OpenClaim := { program := "ytimldfknbeiadaa", sum := "e221dfd0ad96a95ace8d8dd74e683711ebb216fae5cee21181bc8afe6e4bfba8", func := "loop.example/tallyaudit/laws.FnFair", spec := "fnFair", apart := false }
def FnFairSaid : Prop := fnFairRow.holds Try.pinned (OpenSpec.ofChange fnFairSpec)

/-- ITS FALSE NEIGHBOUR: 'it returns false'. Refute it at one input. -/
def fnFairWrong : ChangeSpec := { name := "fnFair", fn := fun _ => fun
  | [d] => { results := [.lit (.bool false)], args := [d] }
  | _ => none }
def FnFairWrongFalsely : Prop := fnFairRow.holds Try.pinned (OpenSpec.ofChange fnFairWrong)

/-- 'laws.FnGapSquares': WHATEVER THE INPUT: true; the input reads as it did. -/
def fnGapSquaresSpec : ChangeSpec := { name := "fnGapSquares", fn := fun _ => fun
  | [d] => { results := [.lit (.bool true)], args := [d] }
  | _ => none }
def fnGapSquaresRow : OpenClaim := { program := "ytimldfknbeiadaa", sum := "e221dfd0ad96a95ace8d8dd74e683711ebb216fae5cee21181bc8afe6e4bfba8", func := "loop.example/tallyaudit/laws.FnGapSquares", spec := "fnGapSquares", apart := false }
def FnGapSquaresSaid : Prop := fnGapSquaresRow.holds Try.pinned (OpenSpec.ofChange fnGapSquaresSpec)

/-- ITS FALSE NEIGHBOUR: 'it returns false'. Refute it at one input. -/
def fnGapSquaresWrong : ChangeSpec := { name := "fnGapSquares", fn := fun _ => fun
  | [d] => { results := [.lit (.bool false)], args := [d] }
  | _ => none }
def FnGapSquaresWrongFalsely : Prop := fnGapSquaresRow.holds Try.pinned (OpenSpec.ofChange fnGapSquaresWrong)

/-- 'laws.FnGapRemainder': WHATEVER THE INPUT: true; the input reads as it did. -/
def fnGapRemainderSpec : ChangeSpec := { name := "fnGapRemainder", fn := fun _ => fun
  | [d] => { results := [.lit (.bool true)], args := [d] }
  | _ => none }
def fnGapRemainderRow : OpenClaim := { program := "ytimldfknbeiadaa", sum := "e221dfd0ad96a95ace8d8dd74e683711ebb216fae5cee21181bc8afe6e4bfba8", func := "loop.example/tallyaudit/laws.FnGapRemainder", spec := "fnGapRemainder", apart := false }
def FnGapRemainderSaid : Prop := fnGapRemainderRow.holds Try.pinned (OpenSpec.ofChange fnGapRemainderSpec)

/-- ITS FALSE NEIGHBOUR: 'it returns false'. Refute it at one input. -/
def fnGapRemainderWrong : ChangeSpec := { name := "fnGapRemainder", fn := fun _ => fun
  | [d] => { results := [.lit (.bool false)], args := [d] }
  | _ => none }
def FnGapRemainderWrongFalsely : Prop := fnGapRemainderRow.holds Try.pinned (OpenSpec.ofChange fnGapRemainderWrong)

/- THE SECOND FORM. 'bulk': how many values and letters a reading holds, each counted each time it is reached (what is shared counts as often as it is met; a slice's spare places count too). A statement '..UptoSaid' is the law's where the arguments, and the package variables that the reading takes, are together of bulk at most 1048576: NARROWER than '..Said'. Prove '..Said' where nothing that the law and all that it calls make is longer than what came in: it says more and counts as full. Else prove '..UptoSaid'. A law counts once. -/
mutual
def uptoBulk {H : Type} : DataW H → Nat
  | .lit (.string bytes) => bytes.length + 1
  | .lit _ => 1
  | .nil => 1
  | .ptr d => uptoBulk d + 1
  | .slice elems spare => uptoBulkAll elems + uptoBulkAll spare + 1
  | .agg parts => uptoBulkAll parts + 1
  | .iface _ d => uptoBulk d + 1
  | .map entries => uptoBulkEntries entries + 1
  | .held _ => 1
def uptoBulkAll {H : Type} : List (DataW H) → Nat
  | [] => 0
  | d :: r => uptoBulk d + uptoBulkAll r
def uptoBulkEntries {H : Type} : List (Lit × DataW H) → Nat
  | [] => 0
  | x :: r => uptoBulkEntry x + uptoBulkEntries r
def uptoBulkEntry {H : Type} : Lit × DataW H → Nat
  | (.string bytes, d) => bytes.length + uptoBulk d + 1
  | (_, d) => uptoBulk d + 1
 end
def uptoSmall : (H : Type) → List (DataW H) → Bool := fun _ ds => decide (uptoBulkAll ds ≤ 1048576)
def OpenSpec.upto (s : _root_.Go.ChangeSpec) : _root_.Go.OpenSpec := { _root_.Go.OpenSpec.ofChange s with cond := some uptoSmall }

/-- 'laws.FnSeatsOrder', WHERE WHAT IT READS IS OF BULK AT MOST 1048576: true; the input reads as it did. -/
def fnSeatsOrderUptoRow : OpenClaim := { program := "ytimldfknbeiadaa", sum := "e221dfd0ad96a95ace8d8dd74e683711ebb216fae5cee21181bc8afe6e4bfba8", func := "loop.example/tallyaudit/laws.FnSeatsOrder", spec := "fnSeatsOrder", apart := false, narrowed := true }
def FnSeatsOrderUptoSaid : Prop := fnSeatsOrderUptoRow.holds Try.pinned (OpenSpec.upto fnSeatsOrderSpec)

/-- 'laws.FnRemainderVotes', WHERE WHAT IT READS IS OF BULK AT MOST 1048576: true; the input reads as it did. -/
def fnRemainderVotesUptoRow : OpenClaim := { program := "ytimldfknbeiadaa", sum := "e221dfd0ad96a95ace8d8dd74e683711ebb216fae5cee21181bc8afe6e4bfba8", func := "loop.example/tallyaudit/laws.FnRemainderVotes", spec := "fnRemainderVotes", apart := false, narrowed := true }
def FnRemainderVotesUptoSaid : Prop := fnRemainderVotesUptoRow.holds Try.pinned (OpenSpec.upto fnRemainderVotesSpec)

/-- 'laws.FnRemainderExact', WHERE WHAT IT READS IS OF BULK AT MOST 1048576: true; the input reads as it did. -/
def fnRemainderExactUptoRow : OpenClaim := { program := "ytimldfknbeiadaa", sum := "e221dfd0ad96a95ace8d8dd74e683711ebb216fae5cee21181bc8afe6e4bfba8", func := "loop.example/tallyaudit/laws.FnRemainderExact", spec := "fnRemainderExact", apart := false, narrowed := true }
def FnRemainderExactUptoSaid : Prop := fnRemainderExactUptoRow.holds Try.pinned (OpenSpec.upto fnRemainderExactSpec)

/-- 'laws.FnSeats', WHERE WHAT IT READS IS OF BULK AT MOST 1048576: true; the input reads as it did. -/
def fnSeatsUptoRow : OpenClaim := { program := "ytimldfknbeiadaa", sum := "e221dfd0ad96a95ace8d8dd74e683711ebb216fae5cee21181bc8afe6e4bfba8", func := "loop.example/tallyaudit/laws.FnSeats", spec := "fnSeats", apart := false, narrowed := true }
def FnSeatsUptoSaid : Prop := fnSeatsUptoRow.holds Try.pinned (OpenSpec.upto fnSeatsSpec)

/-- 'laws.FnRemainderOrder', WHERE WHAT IT READS IS OF BULK AT MOST 1048576: true; the input reads as it did. -/
def fnRemainderOrderUptoRow : OpenClaim := { program := "ytimldfknbeiadaa", sum := "e221dfd0ad96a95ace8d8dd74e683711ebb216fae5cee21181bc8afe6e4bfba8", func := "loop.example/tallyaudit/laws.FnRemainderOrder", spec := "fnRemainderOrder", apart := false, narrowed := true }
def FnRemainderOrderUptoSaid : Prop := fnRemainderOrderUptoRow.holds Try.pinned (OpenSpec.upto fnRemainderOrderSpec)

/-- 'laws.FnSeatsNext', WHERE WHAT IT READS IS OF BULK AT MOST 1048576: true; the input reads as it did. -/
def fnSeatsNextUptoRow : OpenClaim := { program := "ytimldfknbeiadaa", sum := "e221dfd0ad96a95ace8d8dd74e683711ebb216fae5cee21181bc8afe6e4bfba8", func := "loop.example/tallyaudit/laws.FnSeatsNext", spec := "fnSeatsNext", apart := false, narrowed := true }
def FnSeatsNextUptoSaid : Prop := fnSeatsNextUptoRow.holds Try.pinned (OpenSpec.upto fnSeatsNextSpec)

/-- 'laws.FnSeatsNextCheck', WHERE WHAT IT READS IS OF BULK AT MOST 1048576: true; the input reads as it did. -/
def fnSeatsNextCheckUptoRow : OpenClaim := { program := "ytimldfknbeiadaa", sum := "e221dfd0ad96a95ace8d8dd74e683711ebb216fae5cee21181bc8afe6e4bfba8", func := "loop.example/tallyaudit/laws.FnSeatsNextCheck", spec := "fnSeatsNextCheck", apart := false, narrowed := true }
def FnSeatsNextCheckUptoSaid : Prop := fnSeatsNextCheckUptoRow.holds Try.pinned (OpenSpec.upto fnSeatsNextCheckSpec)

/-- 'laws.FnRemainder', WHERE WHAT IT READS IS OF BULK AT MOST 1048576: true; the input reads as it did. -/
def fnRemainderUptoRow : OpenClaim := { program := "ytimldfknbeiadaa", sum := "e221dfd0ad96a95ace8d8dd74e683711ebb216fae5cee21181bc8afe6e4bfba8", func := "loop.example/tallyaudit/laws.FnRemainder", spec := "fnRemainder", apart := false, narrowed := true }
def FnRemainderUptoSaid : Prop := fnRemainderUptoRow.holds Try.pinned (OpenSpec.upto fnRemainderSpec)

/-- 'laws.FnGap', WHERE WHAT IT READS IS OF BULK AT MOST 1048576: true; the input reads as it did. -/
def fnGapUptoRow : OpenClaim := { program := "ytimldfknbeiadaa", sum := "e221dfd0ad96a95ace8d8dd74e683711ebb216fae5cee21181bc8afe6e4bfba8", func := "loop.example/tallyaudit/laws.FnGap", spec := "fnGap", apart := false, narrowed := true }
def FnGapUptoSaid : Prop := fnGapUptoRow.holds Try.pinned (OpenSpec.upto fnGapSpec)

/-- 'laws.FnFair', WHERE WHAT IT READS IS OF BULK AT MOST 1048576: true; the input reads as it did. -/
def fnFairUptoRow : OpenClaim := { program := "ytimldfknbeiadaa", sum := "e221dfd0ad96a95ace8d8dd74e683711ebb216fae5cee21181bc8afe6e4bfba8", func := "loop.example/tallyaudit/laws.FnFair", spec := "fnFair", apart := false, narrowed := true }
def FnFairUptoSaid : Prop := fnFairUptoRow.holds Try.pinned (OpenSpec.upto fnFairSpec)

/-- 'laws.FnGapSquares', WHERE WHAT IT READS IS OF BULK AT MOST 1048576: true; the input reads as it did. -/
def fnGapSquaresUptoRow : OpenClaim := { program := "ytimldfknbeiadaa", sum := "e221dfd0ad96a95ace8d8dd74e683711ebb216fae5cee21181bc8afe6e4bfba8", func := "loop.example/tallyaudit/laws.FnGapSquares", spec := "fnGapSquares", apart := false, narrowed := true }
def FnGapSquaresUptoSaid : Prop := fnGapSquaresUptoRow.holds Try.pinned (OpenSpec.upto fnGapSquaresSpec)

/-- 'laws.FnGapRemainder', WHERE WHAT IT READS IS OF BULK AT MOST 1048576: true; the input reads as it did. -/
def fnGapRemainderUptoRow : OpenClaim := { program := "ytimldfknbeiadaa", sum := "e221dfd0ad96a95ace8d8dd74e683711ebb216fae5cee21181bc8afe6e4bfba8", func := "loop.example/tallyaudit/laws.FnGapRemainder", spec := "fnGapRemainder", apart := false, narrowed := true }
def FnGapRemainderUptoSaid : Prop := fnGapRemainderUptoRow.holds Try.pinned (OpenSpec.upto fnGapRemainderSpec)

end Rows
end Go.Proofs.Ytimldfknbeiadaa
