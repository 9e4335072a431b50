/- What the texts of a seat lean on. -/
import Derived.Test.YtkgjibhbhddckaaDoorQClKNil5
import Derived.Test.YtkgjibhbhddckaaDoorChecked
namespace Go.Vc
open Go Go.Proofs
theorem follows_mixed : Tryd.prog.follows .mixedOrders = true := by kernel_rfl
end Go.Vc
