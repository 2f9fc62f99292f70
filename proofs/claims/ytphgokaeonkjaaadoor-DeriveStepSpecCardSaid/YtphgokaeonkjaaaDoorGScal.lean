/- group.Scalar: the scalar of bytes. -/
import Derived.Test.YtphgokaeonkjaaaDoorRest
import Derived.Test.YtphgokaeonkjaaaDoorRefScal
import Derived.Test.YtphgokaeonkjaaaDoorTagged
namespace Chart
open Go Go.RowKit Go.Proofs

set_option maxHeartbeats 2000000 in
set_option maxRecDepth 100000 in
theorem scalar_any (tag : ByteArray) (v : Value) (l : List (BitVec 8)) (w : World) (ht : tag.size ≤ 140737488355328) (hv : BS w v l) (hl : l.length + 32 ≤ 140737488355328) (he : ShaEnv w) :
    Calls Tryd.prog 50 #[.string tag, v] w fun e w' => e = .returned (.int .i64 (scal tag l)) ∧ Below w.heap.size w w' := by
  have htg := tagged_any tag v l w ht hv hl he
  have hrs := fun w' => rest_any (tagd tag l) w' (length_tagd tag l)
  have hlt := restN_lt 2305843009213688668 (by decide) (tagd tag l) 0 (by decide)
  have HS := Lib.hid (show scal tag l = restN 2305843009213688668 (tagd tag l) 0 + 1 from rfl)
  generalize restN 2305843009213688668 (tagd tag l) 0 = q at *
  have hlt' : (q : Int) < 2305843009213688668 := by omega
  have HL := Lib.hid hlt
  clear hlt
  go_enter Tryd.func50, Tryd.ntmps50
  go_wp2_with fail
  refine htg.mono ?_
  rintro e w2 ⟨rfl, hb2⟩
  go_wp2_with fail
  refine (hrs _).mono ?_
  rintro e w3 ⟨rfl, hb3⟩
  go_wp2
  go_ret
  refine ⟨?_, hb2.trans (hb3.mono hb2.size)⟩
  rw [HS.out]
  simp; omega
end Chart
