/- Walks of ReplaceVariable, of the reference. -/
import Derived.Test.YtfedipeabbaccaaRepl
namespace Go.Proofs.Ytfedipeabbaccaa
open Go.RowKit



end Go.Proofs.Ytfedipeabbaccaa
