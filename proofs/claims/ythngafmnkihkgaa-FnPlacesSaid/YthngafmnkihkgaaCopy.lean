/-
  The laws' own functions on slices of ints: a copy, marks written and read.
-/
import Derived.Test.YthngafmnkihkgaaSmall
namespace Go.Proofs.Ythngafmnkihkgaa
open Go.RowKit
end Go.Proofs.Ythngafmnkihkgaa
