/- The reference's test of a bit. -/
import Derived.Test.YtfedipeabbaccaaMembers
namespace Go.Proofs.Ytfedipeabbaccaa
open Go.RowKit

theorem l01Bit_any (m i : Int) (h0 : 0 ≤ m) (h1 : m < 9223372036854775808) (h2 : 0 ≤ i) (h3 : i ≤ 63) (w : World) :
    Calls Try.prog 94 #[.int .i64 m, .int .i64 i] w fun e w' => e = .returned (.bool (hasB m i)) ∧ w = w' := by
  have hp := Lib.hid (has_bit m i h0 h1)
  clear h1
  go_enter Try.func94, Try.ntmps94
  go_wp2
  go_ret
  exact ⟨ret_bool hp.out, rfl⟩
end Go.Proofs.Ytfedipeabbaccaa
