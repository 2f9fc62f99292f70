/- The iterator's maker. -/
import Derived.Test.YtphgokaeonkjaaaDoorRefStep
namespace Chart
open Go Go.RowKit Go.Proofs

set_option maxHeartbeats 2000000 in
set_option maxRecDepth 100000 in
theorem chain_any (k : List (BitVec 8)) (w : World) :
    Calls Tryd.prog 55 #[.agg (dCells k)] w fun e w' => e = .returned (.func (.func 78) #[] #[.pointer (some ⟨w.heap.size, 0, none⟩)]) ∧ w' = w.alloc (.cells (dCells k) 23) := by
  go_enter Tryd.func55, Tryd.ntmps55
  go_wp2
  go_ret
  exact ⟨rfl, rfl⟩
end Chart
