/- Lists of formulas as arguments of the laws: the measure. -/
import Derived.Test.YtdpnkojchimmfaaIsSub
namespace Go.Proofs.Ytdpnkojchimmfaa
open Go.RowKit

end Go.Proofs.Ytdpnkojchimmfaa
