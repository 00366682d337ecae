/- slices.IndexFunc and slices.ContainsFunc at []int64, for whatever function value; relations and frames. -/
import Derived.Test.YtfedipeabbaccaaMaskOf
import Derived.Test.YtfedipeabbaccaaPred
import Derived.Deep.QuietTactic
import Derived.BigQuiet
import Derived.Deep.RegionHeld3
namespace Go.Proofs.Ytfedipeabbaccaa
open Go.RowKit




/-- Whether a list is a relation on n elements. -/
def masksB (n : Int) (xs : List Int) : Bool := xs.all (isMaskB n)
def relB (xs : List Int) : Bool := masksB xs.length xs



end Go.Proofs.Ytfedipeabbaccaa
