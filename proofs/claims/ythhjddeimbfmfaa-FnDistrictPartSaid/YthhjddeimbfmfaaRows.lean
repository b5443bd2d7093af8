/-
  No cell of these rows narrows 'for every input' (looked for: loops, veiled, ifaces, maps, wideKeys, modest, calm, conditions, laid).
  DERIVED. THE GIVEN ROWS OF THIS SEAT. 12 by the template 'for every input the law returns true; each argument reads behind the call as it read before'; 0 by the template 'total and deterministic' (their statements: YthhjddeimbfmfaaTotals.lean).
  GIVEN WITH THE SEED: the statements are not yours to turn. If you find one false, say at which input.
  Laid BY PROGRAM, IN A SANDBOX (cutbox-rows.mjs): the forced cells as the released guide's own fill.sh prints them over the translation 5a6ee32bf73d2864… (all of the seat's roots in one cut). By AI agents, Wed Nov 11 2026. No macro, syntax, notation, axiom, sorry.
-/
import Derived.Test.YthhjddeimbfmfaaChecked
import GoSem.Claim
import GoSem.ClaimJoined
import GoSem.ClaimMapViews
import Derived.JoinedTies
import Derived.KernelRfl
namespace Go.Proofs.Ythhjddeimbfmfaa
/- THE CELL 'sum', in the pinned program and in every row, IS THE sha256 OF THE DUMP (.gsa) THAT YthhjddeimbfmfaaProg.lean LOADS. Nothing in Lean hashes anything: it is a label: what it is worth is what the hold of that sum in a sandbox is worth. -/
noncomputable def Try.pinned : Pinned := { name := "ythhjddeimbfmfaa", sum := "5a6ee32bf73d2864ded8a6674fbc578d838a591a3160b19a35b8ed21725e0eaf", checked := Try.checked }
namespace Rows
def none {H : Type} : Left H := { results := [], args := [] }

/-- 'laws.FnExactSeatsQuota': WHATEVER THE INPUT: true; the input reads as it did. -/
def fnExactSeatsQuotaSpec : ChangeSpec := { name := "fnExactSeatsQuota", fn := fun _ => fun
  | [d1, d2, d3] => { results := [.lit (.bool true)], args := [d1, d2, d3] }
  | _ => none }
def fnExactSeatsQuotaRow : OpenClaim := { program := "ythhjddeimbfmfaa", sum := "5a6ee32bf73d2864ded8a6674fbc578d838a591a3160b19a35b8ed21725e0eaf", func := "loop.example/tallyaudit/laws.FnExactSeatsQuota", spec := "fnExactSeatsQuota", apart := false }
def FnExactSeatsQuotaSaid : Prop := fnExactSeatsQuotaRow.holds Try.pinned (OpenSpec.ofChange fnExactSeatsQuotaSpec)

/-- ITS FALSE NEIGHBOUR: 'it returns false'. Refute it at one input. -/
def fnExactSeatsQuotaWrong : ChangeSpec := { name := "fnExactSeatsQuota", fn := fun _ => fun
  | [d1, d2, d3] => { results := [.lit (.bool false)], args := [d1, d2, d3] }
  | _ => none }
def FnExactSeatsQuotaWrongFalsely : Prop := fnExactSeatsQuotaRow.holds Try.pinned (OpenSpec.ofChange fnExactSeatsQuotaWrong)

/-- 'laws.FnQuotaSum': WHATEVER THE INPUT: true; the input reads as it did. -/
def fnQuotaSumSpec : ChangeSpec := { name := "fnQuotaSum", fn := fun _ => fun
  | [d] => { results := [.lit (.bool true)], args := [d] }
  | _ => none }
def fnQuotaSumRow : OpenClaim := { program := "ythhjddeimbfmfaa", sum := "5a6ee32bf73d2864ded8a6674fbc578d838a591a3160b19a35b8ed21725e0eaf", func := "loop.example/tallyaudit/laws.FnQuotaSum", spec := "fnQuotaSum", apart := false }
def FnQuotaSumSaid : Prop := fnQuotaSumRow.holds Try.pinned (OpenSpec.ofChange fnQuotaSumSpec)

/-- ITS FALSE NEIGHBOUR: 'it returns false'. Refute it at one input. -/
def fnQuotaSumWrong : ChangeSpec := { name := "fnQuotaSum", fn := fun _ => fun
  | [d] => { results := [.lit (.bool false)], args := [d] }
  | _ => none }
def FnQuotaSumWrongFalsely : Prop := fnQuotaSumRow.holds Try.pinned (OpenSpec.ofChange fnQuotaSumWrong)

/-- 'laws.FnQuota': WHATEVER THE INPUT: true; the input reads as it did. -/
def fnQuotaSpec : ChangeSpec := { name := "fnQuota", fn := fun _ => fun
  | [d] => { results := [.lit (.bool true)], args := [d] }
  | _ => none }
def fnQuotaRow : OpenClaim := { program := "ythhjddeimbfmfaa", sum := "5a6ee32bf73d2864ded8a6674fbc578d838a591a3160b19a35b8ed21725e0eaf", func := "loop.example/tallyaudit/laws.FnQuota", spec := "fnQuota", apart := false }
def FnQuotaSaid : Prop := fnQuotaRow.holds Try.pinned (OpenSpec.ofChange fnQuotaSpec)

/-- ITS FALSE NEIGHBOUR: 'it returns false'. Refute it at one input. -/
def fnQuotaWrong : ChangeSpec := { name := "fnQuota", fn := fun _ => fun
  | [d] => { results := [.lit (.bool false)], args := [d] }
  | _ => none }
def FnQuotaWrongFalsely : Prop := fnQuotaRow.holds Try.pinned (OpenSpec.ofChange fnQuotaWrong)

/-- 'laws.FnExactShareHurdle': WHATEVER THE INPUT: true; the input reads as it did. -/
def fnExactShareHurdleSpec : ChangeSpec := { name := "fnExactShareHurdle", fn := fun _ => fun
  | [d1, d2] => { results := [.lit (.bool true)], args := [d1, d2] }
  | _ => none }
def fnExactShareHurdleRow : OpenClaim := { program := "ythhjddeimbfmfaa", sum := "5a6ee32bf73d2864ded8a6674fbc578d838a591a3160b19a35b8ed21725e0eaf", func := "loop.example/tallyaudit/laws.FnExactShareHurdle", spec := "fnExactShareHurdle", apart := false }
def FnExactShareHurdleSaid : Prop := fnExactShareHurdleRow.holds Try.pinned (OpenSpec.ofChange fnExactShareHurdleSpec)

/-- ITS FALSE NEIGHBOUR: 'it returns false'. Refute it at one input. -/
def fnExactShareHurdleWrong : ChangeSpec := { name := "fnExactShareHurdle", fn := fun _ => fun
  | [d1, d2] => { results := [.lit (.bool false)], args := [d1, d2] }
  | _ => none }
def FnExactShareHurdleWrongFalsely : Prop := fnExactShareHurdleRow.holds Try.pinned (OpenSpec.ofChange fnExactShareHurdleWrong)

/-- 'laws.FnExactSeatsCheck': WHATEVER THE INPUT: true; the input reads as it did. -/
def fnExactSeatsCheckSpec : ChangeSpec := { name := "fnExactSeatsCheck", fn := fun _ => fun
  | [d1, d2, d3] => { results := [.lit (.bool true)], args := [d1, d2, d3] }
  | _ => none }
def fnExactSeatsCheckRow : OpenClaim := { program := "ythhjddeimbfmfaa", sum := "5a6ee32bf73d2864ded8a6674fbc578d838a591a3160b19a35b8ed21725e0eaf", func := "loop.example/tallyaudit/laws.FnExactSeatsCheck", spec := "fnExactSeatsCheck", apart := false }
def FnExactSeatsCheckSaid : Prop := fnExactSeatsCheckRow.holds Try.pinned (OpenSpec.ofChange fnExactSeatsCheckSpec)

/-- ITS FALSE NEIGHBOUR: 'it returns false'. Refute it at one input. -/
def fnExactSeatsCheckWrong : ChangeSpec := { name := "fnExactSeatsCheck", fn := fun _ => fun
  | [d1, d2, d3] => { results := [.lit (.bool false)], args := [d1, d2, d3] }
  | _ => none }
def FnExactSeatsCheckWrongFalsely : Prop := fnExactSeatsCheckRow.holds Try.pinned (OpenSpec.ofChange fnExactSeatsCheckWrong)

/-- 'laws.FnExactShareGap': WHATEVER THE INPUT: true; the input reads as it did. -/
def fnExactShareGapSpec : ChangeSpec := { name := "fnExactShareGap", fn := fun _ => fun
  | [d1, d2] => { results := [.lit (.bool true)], args := [d1, d2] }
  | _ => none }
def fnExactShareGapRow : OpenClaim := { program := "ythhjddeimbfmfaa", sum := "5a6ee32bf73d2864ded8a6674fbc578d838a591a3160b19a35b8ed21725e0eaf", func := "loop.example/tallyaudit/laws.FnExactShareGap", spec := "fnExactShareGap", apart := false }
def FnExactShareGapSaid : Prop := fnExactShareGapRow.holds Try.pinned (OpenSpec.ofChange fnExactShareGapSpec)

/-- ITS FALSE NEIGHBOUR: 'it returns false'. Refute it at one input. -/
def fnExactShareGapWrong : ChangeSpec := { name := "fnExactShareGap", fn := fun _ => fun
  | [d1, d2] => { results := [.lit (.bool false)], args := [d1, d2] }
  | _ => none }
def FnExactShareGapWrongFalsely : Prop := fnExactShareGapRow.holds Try.pinned (OpenSpec.ofChange fnExactShareGapWrong)

/-- 'laws.FnExactShareSquares': WHATEVER THE INPUT: true; the input reads as it did. -/
def fnExactShareSquaresSpec : ChangeSpec := { name := "fnExactShareSquares", fn := fun _ => fun
  | [d1, d2] => { results := [.lit (.bool true)], args := [d1, d2] }
  | _ => none }
def fnExactShareSquaresRow : OpenClaim := { program := "ythhjddeimbfmfaa", sum := "5a6ee32bf73d2864ded8a6674fbc578d838a591a3160b19a35b8ed21725e0eaf", func := "loop.example/tallyaudit/laws.FnExactShareSquares", spec := "fnExactShareSquares", apart := false }
def FnExactShareSquaresSaid : Prop := fnExactShareSquaresRow.holds Try.pinned (OpenSpec.ofChange fnExactShareSquaresSpec)

/-- ITS FALSE NEIGHBOUR: 'it returns false'. Refute it at one input. -/
def fnExactShareSquaresWrong : ChangeSpec := { name := "fnExactShareSquares", fn := fun _ => fun
  | [d1, d2] => { results := [.lit (.bool false)], args := [d1, d2] }
  | _ => none }
def FnExactShareSquaresWrongFalsely : Prop := fnExactShareSquaresRow.holds Try.pinned (OpenSpec.ofChange fnExactShareSquaresWrong)

/-- 'laws.FnExactSeatsFair': WHATEVER THE INPUT: true; the input reads as it did. -/
def fnExactSeatsFairSpec : ChangeSpec := { name := "fnExactSeatsFair", fn := fun _ => fun
  | [d1, d2] => { results := [.lit (.bool true)], args := [d1, d2] }
  | _ => none }
def fnExactSeatsFairRow : OpenClaim := { program := "ythhjddeimbfmfaa", sum := "5a6ee32bf73d2864ded8a6674fbc578d838a591a3160b19a35b8ed21725e0eaf", func := "loop.example/tallyaudit/laws.FnExactSeatsFair", spec := "fnExactSeatsFair", apart := false }
def FnExactSeatsFairSaid : Prop := fnExactSeatsFairRow.holds Try.pinned (OpenSpec.ofChange fnExactSeatsFairSpec)

/-- ITS FALSE NEIGHBOUR: 'it returns false'. Refute it at one input. -/
def fnExactSeatsFairWrong : ChangeSpec := { name := "fnExactSeatsFair", fn := fun _ => fun
  | [d1, d2] => { results := [.lit (.bool false)], args := [d1, d2] }
  | _ => none }
def FnExactSeatsFairWrongFalsely : Prop := fnExactSeatsFairRow.holds Try.pinned (OpenSpec.ofChange fnExactSeatsFairWrong)

/-- 'laws.FnExactDistrictsValid': WHATEVER THE INPUT: true; the input reads as it did. -/
def fnExactDistrictsValidSpec : ChangeSpec := { name := "fnExactDistrictsValid", fn := fun _ => fun
  | [d] => { results := [.lit (.bool true)], args := [d] }
  | _ => none }
def fnExactDistrictsValidRow : OpenClaim := { program := "ythhjddeimbfmfaa", sum := "5a6ee32bf73d2864ded8a6674fbc578d838a591a3160b19a35b8ed21725e0eaf", func := "loop.example/tallyaudit/laws.FnExactDistrictsValid", spec := "fnExactDistrictsValid", apart := false }
def FnExactDistrictsValidSaid : Prop := fnExactDistrictsValidRow.holds Try.pinned (OpenSpec.ofChange fnExactDistrictsValidSpec)

/-- ITS FALSE NEIGHBOUR: 'it returns false'. Refute it at one input. -/
def fnExactDistrictsValidWrong : ChangeSpec := { name := "fnExactDistrictsValid", fn := fun _ => fun
  | [d] => { results := [.lit (.bool false)], args := [d] }
  | _ => none }
def FnExactDistrictsValidWrongFalsely : Prop := fnExactDistrictsValidRow.holds Try.pinned (OpenSpec.ofChange fnExactDistrictsValidWrong)

/-- 'laws.FnExactShareParties': WHATEVER THE INPUT: true; the input reads as it did. -/
def fnExactSharePartiesSpec : ChangeSpec := { name := "fnExactShareParties", fn := fun _ => fun
  | [d] => { results := [.lit (.bool true)], args := [d] }
  | _ => none }
def fnExactSharePartiesRow : OpenClaim := { program := "ythhjddeimbfmfaa", sum := "5a6ee32bf73d2864ded8a6674fbc578d838a591a3160b19a35b8ed21725e0eaf", func := "loop.example/tallyaudit/laws.FnExactShareParties", spec := "fnExactShareParties", apart := false }
def FnExactSharePartiesSaid : Prop := fnExactSharePartiesRow.holds Try.pinned (OpenSpec.ofChange fnExactSharePartiesSpec)

/-- ITS FALSE NEIGHBOUR: 'it returns false'. Refute it at one input. -/
def fnExactSharePartiesWrong : ChangeSpec := { name := "fnExactShareParties", fn := fun _ => fun
  | [d] => { results := [.lit (.bool false)], args := [d] }
  | _ => none }
def FnExactSharePartiesWrongFalsely : Prop := fnExactSharePartiesRow.holds Try.pinned (OpenSpec.ofChange fnExactSharePartiesWrong)

/-- 'laws.FnHurdleMore': WHATEVER THE INPUT: true; the input reads as it did. -/
def fnHurdleMoreSpec : ChangeSpec := { name := "fnHurdleMore", fn := fun _ => fun
  | [d] => { results := [.lit (.bool true)], args := [d] }
  | _ => none }
def fnHurdleMoreRow : OpenClaim := { program := "ythhjddeimbfmfaa", sum := "5a6ee32bf73d2864ded8a6674fbc578d838a591a3160b19a35b8ed21725e0eaf", func := "loop.example/tallyaudit/laws.FnHurdleMore", spec := "fnHurdleMore", apart := false }
def FnHurdleMoreSaid : Prop := fnHurdleMoreRow.holds Try.pinned (OpenSpec.ofChange fnHurdleMoreSpec)

/-- ITS FALSE NEIGHBOUR: 'it returns false'. Refute it at one input. -/
def fnHurdleMoreWrong : ChangeSpec := { name := "fnHurdleMore", fn := fun _ => fun
  | [d] => { results := [.lit (.bool false)], args := [d] }
  | _ => none }
def FnHurdleMoreWrongFalsely : Prop := fnHurdleMoreRow.holds Try.pinned (OpenSpec.ofChange fnHurdleMoreWrong)

/-- 'laws.FnDistrictPart': WHATEVER THE INPUT: true; the input reads as it did. -/
def fnDistrictPartSpec : ChangeSpec := { name := "fnDistrictPart", fn := fun _ => fun
  | [d1, d2] => { results := [.lit (.bool true)], args := [d1, d2] }
  | _ => none }
def fnDistrictPartRow : OpenClaim := { program := "ythhjddeimbfmfaa", sum := "5a6ee32bf73d2864ded8a6674fbc578d838a591a3160b19a35b8ed21725e0eaf", func := "loop.example/tallyaudit/laws.FnDistrictPart", spec := "fnDistrictPart", apart := false }
def FnDistrictPartSaid : Prop := fnDistrictPartRow.holds Try.pinned (OpenSpec.ofChange fnDistrictPartSpec)

/-- ITS FALSE NEIGHBOUR: 'it returns false'. Refute it at one input. -/
def fnDistrictPartWrong : ChangeSpec := { name := "fnDistrictPart", fn := fun _ => fun
  | [d1, d2] => { results := [.lit (.bool false)], args := [d1, d2] }
  | _ => none }
def FnDistrictPartWrongFalsely : Prop := fnDistrictPartRow.holds Try.pinned (OpenSpec.ofChange fnDistrictPartWrong)

/- THE SECOND FORM. 'bulk': how many values and letters a reading holds, each counted each time it is reached (what is shared counts as often as it is met; a slice's spare places count too). A statement '..UptoSaid' is the law's where the arguments, and the package variables that the reading takes, are together of bulk at most 1048576: NARROWER than '..Said'. Prove '..Said' where nothing that the law and all that it calls make is longer than what came in: it says more and counts as full. Else prove '..UptoSaid'. A law counts once. -/
mutual
def uptoBulk {H : Type} : DataW H → Nat
  | .lit (.string bytes) => bytes.length + 1
  | .lit _ => 1
  | .nil => 1
  | .ptr d => uptoBulk d + 1
  | .slice elems spare => uptoBulkAll elems + uptoBulkAll spare + 1
  | .agg parts => uptoBulkAll parts + 1
  | .iface _ d => uptoBulk d + 1
  | .map entries => uptoBulkEntries entries + 1
  | .held _ => 1
def uptoBulkAll {H : Type} : List (DataW H) → Nat
  | [] => 0
  | d :: r => uptoBulk d + uptoBulkAll r
def uptoBulkEntries {H : Type} : List (Lit × DataW H) → Nat
  | [] => 0
  | x :: r => uptoBulkEntry x + uptoBulkEntries r
def uptoBulkEntry {H : Type} : Lit × DataW H → Nat
  | (.string bytes, d) => bytes.length + uptoBulk d + 1
  | (_, d) => uptoBulk d + 1
 end
def uptoSmall : (H : Type) → List (DataW H) → Bool := fun _ ds => decide (uptoBulkAll ds ≤ 1048576)
def OpenSpec.upto (s : _root_.Go.ChangeSpec) : _root_.Go.OpenSpec := { _root_.Go.OpenSpec.ofChange s with cond := some uptoSmall }

/-- 'laws.FnExactSeatsQuota', WHERE WHAT IT READS IS OF BULK AT MOST 1048576: true; the input reads as it did. -/
def fnExactSeatsQuotaUptoRow : OpenClaim := { program := "ythhjddeimbfmfaa", sum := "5a6ee32bf73d2864ded8a6674fbc578d838a591a3160b19a35b8ed21725e0eaf", func := "loop.example/tallyaudit/laws.FnExactSeatsQuota", spec := "fnExactSeatsQuota", apart := false, narrowed := true }
def FnExactSeatsQuotaUptoSaid : Prop := fnExactSeatsQuotaUptoRow.holds Try.pinned (OpenSpec.upto fnExactSeatsQuotaSpec)

/-- 'laws.FnQuotaSum', WHERE WHAT IT READS IS OF BULK AT MOST 1048576: true; the input reads as it did. -/
def fnQuotaSumUptoRow : OpenClaim := { program := "ythhjddeimbfmfaa", sum := "5a6ee32bf73d2864ded8a6674fbc578d838a591a3160b19a35b8ed21725e0eaf", func := "loop.example/tallyaudit/laws.FnQuotaSum", spec := "fnQuotaSum", apart := false, narrowed := true }
def FnQuotaSumUptoSaid : Prop := fnQuotaSumUptoRow.holds Try.pinned (OpenSpec.upto fnQuotaSumSpec)

/-- 'laws.FnQuota', WHERE WHAT IT READS IS OF BULK AT MOST 1048576: true; the input reads as it did. -/
def fnQuotaUptoRow : OpenClaim := { program := "ythhjddeimbfmfaa", sum := "5a6ee32bf73d2864ded8a6674fbc578d838a591a3160b19a35b8ed21725e0eaf", func := "loop.example/tallyaudit/laws.FnQuota", spec := "fnQuota", apart := false, narrowed := true }
def FnQuotaUptoSaid : Prop := fnQuotaUptoRow.holds Try.pinned (OpenSpec.upto fnQuotaSpec)

/-- 'laws.FnExactShareHurdle', WHERE WHAT IT READS IS OF BULK AT MOST 1048576: true; the input reads as it did. -/
def fnExactShareHurdleUptoRow : OpenClaim := { program := "ythhjddeimbfmfaa", sum := "5a6ee32bf73d2864ded8a6674fbc578d838a591a3160b19a35b8ed21725e0eaf", func := "loop.example/tallyaudit/laws.FnExactShareHurdle", spec := "fnExactShareHurdle", apart := false, narrowed := true }
def FnExactShareHurdleUptoSaid : Prop := fnExactShareHurdleUptoRow.holds Try.pinned (OpenSpec.upto fnExactShareHurdleSpec)

/-- 'laws.FnExactSeatsCheck', WHERE WHAT IT READS IS OF BULK AT MOST 1048576: true; the input reads as it did. -/
def fnExactSeatsCheckUptoRow : OpenClaim := { program := "ythhjddeimbfmfaa", sum := "5a6ee32bf73d2864ded8a6674fbc578d838a591a3160b19a35b8ed21725e0eaf", func := "loop.example/tallyaudit/laws.FnExactSeatsCheck", spec := "fnExactSeatsCheck", apart := false, narrowed := true }
def FnExactSeatsCheckUptoSaid : Prop := fnExactSeatsCheckUptoRow.holds Try.pinned (OpenSpec.upto fnExactSeatsCheckSpec)

/-- 'laws.FnExactShareGap', WHERE WHAT IT READS IS OF BULK AT MOST 1048576: true; the input reads as it did. -/
def fnExactShareGapUptoRow : OpenClaim := { program := "ythhjddeimbfmfaa", sum := "5a6ee32bf73d2864ded8a6674fbc578d838a591a3160b19a35b8ed21725e0eaf", func := "loop.example/tallyaudit/laws.FnExactShareGap", spec := "fnExactShareGap", apart := false, narrowed := true }
def FnExactShareGapUptoSaid : Prop := fnExactShareGapUptoRow.holds Try.pinned (OpenSpec.upto fnExactShareGapSpec)

/-- 'laws.FnExactShareSquares', WHERE WHAT IT READS IS OF BULK AT MOST 1048576: true; the input reads as it did. -/
def fnExactShareSquaresUptoRow : OpenClaim := { program := "ythhjddeimbfmfaa", sum := "5a6ee32bf73d2864ded8a6674fbc578d838a591a3160b19a35b8ed21725e0eaf", func := "loop.example/tallyaudit/laws.FnExactShareSquares", spec := "fnExactShareSquares", apart := false, narrowed := true }
def FnExactShareSquaresUptoSaid : Prop := fnExactShareSquaresUptoRow.holds Try.pinned (OpenSpec.upto fnExactShareSquaresSpec)

/-- 'laws.FnExactSeatsFair', WHERE WHAT IT READS IS OF BULK AT MOST 1048576: true; the input reads as it did. -/
def fnExactSeatsFairUptoRow : OpenClaim := { program := "ythhjddeimbfmfaa", sum := "5a6ee32bf73d2864ded8a6674fbc578d838a591a3160b19a35b8ed21725e0eaf", func := "loop.example/tallyaudit/laws.FnExactSeatsFair", spec := "fnExactSeatsFair", apart := false, narrowed := true }
def FnExactSeatsFairUptoSaid : Prop := fnExactSeatsFairUptoRow.holds Try.pinned (OpenSpec.upto fnExactSeatsFairSpec)

/-- 'laws.FnExactDistrictsValid', WHERE WHAT IT READS IS OF BULK AT MOST 1048576: true; the input reads as it did. -/
def fnExactDistrictsValidUptoRow : OpenClaim := { program := "ythhjddeimbfmfaa", sum := "5a6ee32bf73d2864ded8a6674fbc578d838a591a3160b19a35b8ed21725e0eaf", func := "loop.example/tallyaudit/laws.FnExactDistrictsValid", spec := "fnExactDistrictsValid", apart := false, narrowed := true }
def FnExactDistrictsValidUptoSaid : Prop := fnExactDistrictsValidUptoRow.holds Try.pinned (OpenSpec.upto fnExactDistrictsValidSpec)

/-- 'laws.FnExactShareParties', WHERE WHAT IT READS IS OF BULK AT MOST 1048576: true; the input reads as it did. -/
def fnExactSharePartiesUptoRow : OpenClaim := { program := "ythhjddeimbfmfaa", sum := "5a6ee32bf73d2864ded8a6674fbc578d838a591a3160b19a35b8ed21725e0eaf", func := "loop.example/tallyaudit/laws.FnExactShareParties", spec := "fnExactShareParties", apart := false, narrowed := true }
def FnExactSharePartiesUptoSaid : Prop := fnExactSharePartiesUptoRow.holds Try.pinned (OpenSpec.upto fnExactSharePartiesSpec)

/-- 'laws.FnHurdleMore', WHERE WHAT IT READS IS OF BULK AT MOST 1048576: true; the input reads as it did. -/
def fnHurdleMoreUptoRow : OpenClaim := { program := "ythhjddeimbfmfaa", sum := "5a6ee32bf73d2864ded8a6674fbc578d838a591a3160b19a35b8ed21725e0eaf", func := "loop.example/tallyaudit/laws.FnHurdleMore", spec := "fnHurdleMore", apart := false, narrowed := true }
def FnHurdleMoreUptoSaid : Prop := fnHurdleMoreUptoRow.holds Try.pinned (OpenSpec.upto fnHurdleMoreSpec)

/-- 'laws.FnDistrictPart', WHERE WHAT IT READS IS OF BULK AT MOST 1048576: true; the input reads as it did. -/
def fnDistrictPartUptoRow : OpenClaim := { program := "ythhjddeimbfmfaa", sum := "5a6ee32bf73d2864ded8a6674fbc578d838a591a3160b19a35b8ed21725e0eaf", func := "loop.example/tallyaudit/laws.FnDistrictPart", spec := "fnDistrictPart", apart := false, narrowed := true }
def FnDistrictPartUptoSaid : Prop := fnDistrictPartUptoRow.holds Try.pinned (OpenSpec.upto fnDistrictPartSpec)

end Rows
end Go.Proofs.Ythhjddeimbfmfaa
