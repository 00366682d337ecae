/- The laws' own helpers on []int64: a copy, equality, the marks that are written into a result and read again. -/
import Derived.Test.YtkhbimdahjkgoaaRows
import Derived.Test.YtkhbimdahjkgoaaKit
namespace Go.Proofs.Ytkhbimdahjkgoaa
open Go.RowKit

theorem info_i64 : (Try.prog.info? 2).map (fun i => (i.zero, i.size, i.bytes)) = some (some (.int .i64 0), 1, 8) := by kernel_rfl





end Go.Proofs.Ytkhbimdahjkgoaa
