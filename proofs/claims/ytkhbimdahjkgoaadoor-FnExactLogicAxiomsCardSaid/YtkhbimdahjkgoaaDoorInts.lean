/- The laws' own helpers on []int64: a copy, equality, the marks that are written into a result and read again. -/
import Derived.Test.YtkhbimdahjkgoaaDoorRows
import Derived.Test.YtkhbimdahjkgoaaDoorKit
namespace Go.Proofs.YtkhbimdahjkgoaaDoor
open Go.RowKit

theorem info_i64 : (Tryd.prog.info? 2).map (fun i => (i.zero, i.size, i.bytes)) = some (some (.int .i64 0), 1, 8) := by kernel_rfl





end Go.Proofs.YtkhbimdahjkgoaaDoor
