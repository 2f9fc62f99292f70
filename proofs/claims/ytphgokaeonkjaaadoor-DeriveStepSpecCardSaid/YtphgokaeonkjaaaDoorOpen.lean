/- The door's own heap meets the conditions; bounds of arguments. -/
import Derived.Test.YtphgokaeonkjaaaDoorLaid
namespace Chart
open Go Go.Proofs Go.ChangeShapes Go.WideShapes Go.ChangeAt Go.RowKit

def laid7 : List (String × DataW Unit) := [("chartroom/digest.start", Go.Proofs.YtphgokaeonkjaaaDoor.Rows.laid_chartroom_digest_start), ("chartroom/digest.numbers", Go.Proofs.YtphgokaeonkjaaaDoor.Rows.laid_chartroom_digest_numbers), ("bytes.ErrTooLarge", Go.Proofs.YtphgokaeonkjaaaDoor.Rows.laid_bytes_ErrTooLarge)]
set_option maxRecDepth 100000 in
theorem laid7_door (os : Os) (args : Array Value) : laidMetH Tryd.prog laid7 ((World.doorLaid Tryd.prog 43 os).forCall (fun _ _ => 0) ⟨#[], args, []⟩).memory :=
  laidMetH_of_parts3 (fuel := 8) (laidMet_of_run' 8 (by kernel_rfl) (by kernel_rfl)) (by kernel_rfl) (by kernel_rfl)

theorem wf_le {n : Int} (h : (Lit.int .i64 n).wf = true) : n ≤ 9223372036854775807 := by
  simp [Lit.wf, IntKind.min, IntKind.max, IntKind.bits, IntKind.signed] at h; omega
theorem wf_ge {n : Int} (h : (Lit.int .i64 n).wf = true) : -9223372036854775808 ≤ n := by
  simp [Lit.wf, IntKind.min, IntKind.max, IntKind.bits, IntKind.signed] at h; omega
theorem wf_u8 {n : Int} (h : (Lit.int .u8 n).wf = true) : 0 ≤ n ∧ n < 256 := by
  simp [Lit.wf, IntKind.min, IntKind.max, IntKind.bits, IntKind.signed] at h; omega
theorem wf_uint {n : Int} (h : (Lit.int .u64 n).wf = true) : 0 ≤ n ∧ n < 18446744073709551616 := by
  simp [Lit.wf, IntKind.min, IntKind.max, IntKind.bits, IntKind.signed] at h; omega
end Chart
