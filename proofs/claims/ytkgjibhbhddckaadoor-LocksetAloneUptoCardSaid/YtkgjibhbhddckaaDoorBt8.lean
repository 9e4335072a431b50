/- bits: lives. -/
import Derived.Test.YtkgjibhbhddckaaDoorBt7
namespace Go.Vc
open Go Go.Proofs
set_option maxRecDepth 10000
variable {w : World}

theorem map_encI (l : List Nat) : l.map encI = (l.map (fun k : Nat => (k : Int))).map I := by rw [List.map_map]; rfl

end Go.Vc
