/- The reference's scalar of bytes. -/
import Derived.Test.YtphgokaeonkjaaaDoorRefRest
namespace Chart
open Go Go.RowKit Go.Proofs

/-- The scalar of bytes under a tag. -/
def scal (tag : ByteArray) (l : List (BitVec 8)) : Nat := restN 2305843009213688668 (tagd tag l) 0 + 1

set_option maxHeartbeats 2000000 in
set_option maxRecDepth 100000 in
theorem refscalar_any (tag : ByteArray) (v : Value) (l : List (BitVec 8)) (w : World) (ht : tag.size + 128 ≤ 140737488355328) (hv : BS w v l) (hl : l.length + 160 ≤ 140737488355328) :
    Calls Tryd.prog 56 #[.string tag, v] w fun e w' => e = .returned (.int .i64 (scal tag l)) ∧ Below w.heap.size w w' := by
  have htg := reftagged_any tag v l w ht hv hl
  have hrs := fun w' => refrest_any (tagd tag l) 2305843009213688668 w' (length_tagd tag l) (by decide) (by decide)
  have hlt := restN_lt 2305843009213688668 (by decide) (tagd tag l) 0 (by decide)
  have HS := Lib.hid (show scal tag l = restN 2305843009213688668 (tagd tag l) 0 + 1 from rfl)
  generalize restN 2305843009213688668 (tagd tag l) 0 = q at *
  go_enter Tryd.func56, Tryd.ntmps56
  go_wp2_with fail
  refine htg.mono ?_
  rintro e w2 ⟨rfl, hb2⟩
  go_wp2_with fail
  refine (hrs _).mono ?_
  rintro e w3 ⟨rfl, hb3⟩
  go_wp2
  go_ret
  refine ⟨?_, hb2.trans (hb3.mono hb2.size)⟩
  rw [HS.out]
  simp; omega
end Chart
