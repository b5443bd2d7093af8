/-
  No cell of these rows narrows 'for every input' (looked for: loops, veiled, ifaces, maps, wideKeys, modest, calm, conditions, laid).
  DERIVED. THE GIVEN ROWS OF THIS SEAT. 5 by the template 'for every input the law returns true; each argument reads behind the call as it read before'; 0 by the template 'total and deterministic' (their statements: YtiinfbjlkbjmmaaTotals.lean).
  GIVEN WITH THE SEED: the statements are not yours to turn. If you find one false, say at which input.
  Laid BY PROGRAM, IN A SANDBOX (cutbox-rows.mjs): the forced cells as the released guide's own fill.sh prints them over the translation ca485662095e1bdc… (all of the seat's roots in one cut). By AI agents, Wed Nov 11 2026. No macro, syntax, notation, axiom, sorry.
-/
import Derived.Test.YtiinfbjlkbjmmaaChecked
import GoSem.Claim
import GoSem.ClaimJoined
import GoSem.ClaimMapViews
import Derived.JoinedTies
import Derived.KernelRfl
namespace Go.Proofs.Ytiinfbjlkbjmmaa
/- THE CELL 'sum', in the pinned program and in every row, IS THE sha256 OF THE DUMP (.gsa) THAT YtiinfbjlkbjmmaaProg.lean LOADS. Nothing in Lean hashes anything: it is a label: what it is worth is what the hold of that sum in a sandbox is worth. -/
noncomputable def Try.pinned : Pinned := { name := "ytiinfbjlkbjmmaa", sum := "ca485662095e1bdc7352c48068b94691433a937699301c012d4b8305515a3b33", checked := Try.checked }
namespace Rows
def none {H : Type} : Left H := { results := [], args := [] }

/-- 'laws.FnExactTransferCheck': WHATEVER THE INPUT: true; the input reads as it did. -/
def fnExactTransferCheckSpec : ChangeSpec := { name := "fnExactTransferCheck", fn := fun _ => fun
  | [d1, d2, d3, d4] => { results := [.lit (.bool true)], args := [d1, d2, d3, d4] }
  | _ => none }
def fnExactTransferCheckRow : OpenClaim := { program := "ytiinfbjlkbjmmaa", sum := "ca485662095e1bdc7352c48068b94691433a937699301c012d4b8305515a3b33", func := "loop.example/tallyaudit/laws.FnExactTransferCheck", spec := "fnExactTransferCheck", unfollowed := true, recurses := true, apart := false }
def FnExactTransferCheckSaid : Prop := fnExactTransferCheckRow.holds Try.pinned (OpenSpec.ofChange fnExactTransferCheckSpec)

/-- ITS FALSE NEIGHBOUR: 'it returns false'. Refute it at one input. -/
def fnExactTransferCheckWrong : ChangeSpec := { name := "fnExactTransferCheck", fn := fun _ => fun
  | [d1, d2, d3, d4] => { results := [.lit (.bool false)], args := [d1, d2, d3, d4] }
  | _ => none }
def FnExactTransferCheckWrongFalsely : Prop := fnExactTransferCheckRow.holds Try.pinned (OpenSpec.ofChange fnExactTransferCheckWrong)

/-- 'laws.FnTransferOne': WHATEVER THE INPUT: true; the input reads as it did. -/
def fnTransferOneSpec : ChangeSpec := { name := "fnTransferOne", fn := fun _ => fun
  | [d] => { results := [.lit (.bool true)], args := [d] }
  | _ => none }
def fnTransferOneRow : OpenClaim := { program := "ytiinfbjlkbjmmaa", sum := "ca485662095e1bdc7352c48068b94691433a937699301c012d4b8305515a3b33", func := "loop.example/tallyaudit/laws.FnTransferOne", spec := "fnTransferOne", apart := false }
def FnTransferOneSaid : Prop := fnTransferOneRow.holds Try.pinned (OpenSpec.ofChange fnTransferOneSpec)

/-- ITS FALSE NEIGHBOUR: 'it returns false'. Refute it at one input. -/
def fnTransferOneWrong : ChangeSpec := { name := "fnTransferOne", fn := fun _ => fun
  | [d] => { results := [.lit (.bool false)], args := [d] }
  | _ => none }
def FnTransferOneWrongFalsely : Prop := fnTransferOneRow.holds Try.pinned (OpenSpec.ofChange fnTransferOneWrong)

/-- 'laws.FnTransferTurned': WHATEVER THE INPUT: true; the input reads as it did. -/
def fnTransferTurnedSpec : ChangeSpec := { name := "fnTransferTurned", fn := fun _ => fun
  | [d1, d2] => { results := [.lit (.bool true)], args := [d1, d2] }
  | _ => none }
def fnTransferTurnedRow : OpenClaim := { program := "ytiinfbjlkbjmmaa", sum := "ca485662095e1bdc7352c48068b94691433a937699301c012d4b8305515a3b33", func := "loop.example/tallyaudit/laws.FnTransferTurned", spec := "fnTransferTurned", unfollowed := true, recurses := true, apart := false }
def FnTransferTurnedSaid : Prop := fnTransferTurnedRow.holds Try.pinned (OpenSpec.ofChange fnTransferTurnedSpec)

/-- ITS FALSE NEIGHBOUR: 'it returns false'. Refute it at one input. -/
def fnTransferTurnedWrong : ChangeSpec := { name := "fnTransferTurned", fn := fun _ => fun
  | [d1, d2] => { results := [.lit (.bool false)], args := [d1, d2] }
  | _ => none }
def FnTransferTurnedWrongFalsely : Prop := fnTransferTurnedRow.holds Try.pinned (OpenSpec.ofChange fnTransferTurnedWrong)

/-- 'laws.FnExactTransferSteps': WHATEVER THE INPUT: true; the input reads as it did. -/
def fnExactTransferStepsSpec : ChangeSpec := { name := "fnExactTransferSteps", fn := fun _ => fun
  | [d1, d2, d3] => { results := [.lit (.bool true)], args := [d1, d2, d3] }
  | _ => none }
def fnExactTransferStepsRow : OpenClaim := { program := "ytiinfbjlkbjmmaa", sum := "ca485662095e1bdc7352c48068b94691433a937699301c012d4b8305515a3b33", func := "loop.example/tallyaudit/laws.FnExactTransferSteps", spec := "fnExactTransferSteps", apart := false }
def FnExactTransferStepsSaid : Prop := fnExactTransferStepsRow.holds Try.pinned (OpenSpec.ofChange fnExactTransferStepsSpec)

/-- ITS FALSE NEIGHBOUR: 'it returns false'. Refute it at one input. -/
def fnExactTransferStepsWrong : ChangeSpec := { name := "fnExactTransferSteps", fn := fun _ => fun
  | [d1, d2, d3] => { results := [.lit (.bool false)], args := [d1, d2, d3] }
  | _ => none }
def FnExactTransferStepsWrongFalsely : Prop := fnExactTransferStepsRow.holds Try.pinned (OpenSpec.ofChange fnExactTransferStepsWrong)

/-- 'laws.FnTransferCheck': WHATEVER THE INPUT: true; the input reads as it did. -/
def fnTransferCheckSpec : ChangeSpec := { name := "fnTransferCheck", fn := fun _ => fun
  | [d] => { results := [.lit (.bool true)], args := [d] }
  | _ => none }
def fnTransferCheckRow : OpenClaim := { program := "ytiinfbjlkbjmmaa", sum := "ca485662095e1bdc7352c48068b94691433a937699301c012d4b8305515a3b33", func := "loop.example/tallyaudit/laws.FnTransferCheck", spec := "fnTransferCheck", unfollowed := true, recurses := true, apart := false }
def FnTransferCheckSaid : Prop := fnTransferCheckRow.holds Try.pinned (OpenSpec.ofChange fnTransferCheckSpec)

/-- ITS FALSE NEIGHBOUR: 'it returns false'. Refute it at one input. -/
def fnTransferCheckWrong : ChangeSpec := { name := "fnTransferCheck", fn := fun _ => fun
  | [d] => { results := [.lit (.bool false)], args := [d] }
  | _ => none }
def FnTransferCheckWrongFalsely : Prop := fnTransferCheckRow.holds Try.pinned (OpenSpec.ofChange fnTransferCheckWrong)

/- THE SECOND FORM. 'bulk': how many values and letters a reading holds, each counted each time it is reached (what is shared counts as often as it is met; a slice's spare places count too). A statement '..UptoSaid' is the law's where the arguments, and the package variables that the reading takes, are together of bulk at most 1048576: NARROWER than '..Said'. Prove '..Said' where nothing that the law and all that it calls make is longer than what came in: it says more and counts as full. Else prove '..UptoSaid'. A law counts once. -/
mutual
def uptoBulk {H : Type} : DataW H → Nat
  | .lit (.string bytes) => bytes.length + 1
  | .lit _ => 1
  | .nil => 1
  | .ptr d => uptoBulk d + 1
  | .slice elems spare => uptoBulkAll elems + uptoBulkAll spare + 1
  | .agg parts => uptoBulkAll parts + 1
  | .iface _ d => uptoBulk d + 1
  | .map entries => uptoBulkEntries entries + 1
  | .held _ => 1
def uptoBulkAll {H : Type} : List (DataW H) → Nat
  | [] => 0
  | d :: r => uptoBulk d + uptoBulkAll r
def uptoBulkEntries {H : Type} : List (Lit × DataW H) → Nat
  | [] => 0
  | x :: r => uptoBulkEntry x + uptoBulkEntries r
def uptoBulkEntry {H : Type} : Lit × DataW H → Nat
  | (.string bytes, d) => bytes.length + uptoBulk d + 1
  | (_, d) => uptoBulk d + 1
 end
def uptoSmall : (H : Type) → List (DataW H) → Bool := fun _ ds => decide (uptoBulkAll ds ≤ 1048576)
def OpenSpec.upto (s : _root_.Go.ChangeSpec) : _root_.Go.OpenSpec := { _root_.Go.OpenSpec.ofChange s with cond := some uptoSmall }

/-- 'laws.FnExactTransferCheck', WHERE WHAT IT READS IS OF BULK AT MOST 1048576: true; the input reads as it did. -/
def fnExactTransferCheckUptoRow : OpenClaim := { program := "ytiinfbjlkbjmmaa", sum := "ca485662095e1bdc7352c48068b94691433a937699301c012d4b8305515a3b33", func := "loop.example/tallyaudit/laws.FnExactTransferCheck", spec := "fnExactTransferCheck", unfollowed := true, recurses := true, apart := false, narrowed := true }
def FnExactTransferCheckUptoSaid : Prop := fnExactTransferCheckUptoRow.holds Try.pinned (OpenSpec.upto fnExactTransferCheckSpec)

/-- 'laws.FnTransferOne', WHERE WHAT IT READS IS OF BULK AT MOST 1048576: true; the input reads as it did. -/
def fnTransferOneUptoRow : OpenClaim := { program := "ytiinfbjlkbjmmaa", sum := "ca485662095e1bdc7352c48068b94691433a937699301c012d4b8305515a3b33", func := "loop.example/tallyaudit/laws.FnTransferOne", spec := "fnTransferOne", apart := false, narrowed := true }
def FnTransferOneUptoSaid : Prop := fnTransferOneUptoRow.holds Try.pinned (OpenSpec.upto fnTransferOneSpec)

/-- 'laws.FnTransferTurned', WHERE WHAT IT READS IS OF BULK AT MOST 1048576: true; the input reads as it did. -/
def fnTransferTurnedUptoRow : OpenClaim := { program := "ytiinfbjlkbjmmaa", sum := "ca485662095e1bdc7352c48068b94691433a937699301c012d4b8305515a3b33", func := "loop.example/tallyaudit/laws.FnTransferTurned", spec := "fnTransferTurned", unfollowed := true, recurses := true, apart := false, narrowed := true }
def FnTransferTurnedUptoSaid : Prop := fnTransferTurnedUptoRow.holds Try.pinned (OpenSpec.upto fnTransferTurnedSpec)

/-- 'laws.FnExactTransferSteps', WHERE WHAT IT READS IS OF BULK AT MOST 1048576: true; the input reads as it did. -/
def fnExactTransferStepsUptoRow : OpenClaim := { program := "ytiinfbjlkbjmmaa", sum := "ca485662095e1bdc7352c48068b94691433a937699301c012d4b8305515a3b33", func := "loop.example/tallyaudit/laws.FnExactTransferSteps", spec := "fnExactTransferSteps", apart := false, narrowed := true }
def FnExactTransferStepsUptoSaid : Prop := fnExactTransferStepsUptoRow.holds Try.pinned (OpenSpec.upto fnExactTransferStepsSpec)

/-- 'laws.FnTransferCheck', WHERE WHAT IT READS IS OF BULK AT MOST 1048576: true; the input reads as it did. -/
def fnTransferCheckUptoRow : OpenClaim := { program := "ytiinfbjlkbjmmaa", sum := "ca485662095e1bdc7352c48068b94691433a937699301c012d4b8305515a3b33", func := "loop.example/tallyaudit/laws.FnTransferCheck", spec := "fnTransferCheck", unfollowed := true, recurses := true, apart := false, narrowed := true }
def FnTransferCheckUptoSaid : Prop := fnTransferCheckUptoRow.holds Try.pinned (OpenSpec.upto fnTransferCheckSpec)

end Rows
end Go.Proofs.Ytiinfbjlkbjmmaa
