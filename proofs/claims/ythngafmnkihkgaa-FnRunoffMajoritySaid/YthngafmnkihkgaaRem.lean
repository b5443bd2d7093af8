/-
  Seats by remainders, of the program and of the reference.
-/
import Derived.Test.YthngafmnkihkgaaBool
import Derived.Test.YthngafmnkihkgaaDivis
namespace Go.Proofs.Ythngafmnkihkgaa
open Go.RowKit
end Go.Proofs.Ythngafmnkihkgaa
