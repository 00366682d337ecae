/- Substitution in a formula, of the program. -/
import Derived.Test.YtfedipeabbaccaaSubst
namespace Go.Proofs.Ytfedipeabbaccaa
open Go.RowKit

end Go.Proofs.Ytfedipeabbaccaa
