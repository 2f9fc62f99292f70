/- Scalar, of the program and of the reference. -/
import Derived.Test.YtphgokaeonkjaaaDoorGScal
import Derived.Test.YtphgokaeonkjaaaDoorRefStep
namespace Chart
open Go Go.RowKit Go.Proofs

def bScalar : ByteArray := { data := #[115, 99, 97, 108, 97, 114] }
/-- The private key of a purpose. -/
def dscal (k : List (BitVec 8)) (label : ByteArray) : Nat := scal bScalar (expd k label [])

set_option maxHeartbeats 2000000 in
set_option maxRecDepth 100000 in
theorem dscalar_any (k : List (BitVec 8)) (label : ByteArray) (w : World) (hk : k.length = 32) (hla : label.size ≤ 1000000) (he : ShaEnv w) :
    Calls Tryd.prog 19 #[.agg (dCells k), .string label] w fun e w' => e = .returned (.int .i64 (dscal k label)) ∧ Below w.heap.size w w' := by
  have hlen := length_expd k label []
  have HI := Lib.hid (info_key' _ hk); have HI2 := Lib.hid (info_key' _ hlen); have HS2 := Lib.hid (size_dCells _ hlen); have HO2 := Lib.hid (one_dCells (expd k label []))
  have HL := Lib.hid hlen
  clear hlen
  have HSC := Lib.hid (show dscal k label = scal bScalar (expd k label []) from rfl)
  obtain ⟨B, hB⟩ : ∃ B, w.heap.size = B := ⟨_, rfl⟩
  rw [hB]
  have hb1 : Below B w (w.alloc (.cells (dCells k) 23)) := (Below.refl B w).alloc (by omega) _
  have hb1' : Below w.heap.size w (w.alloc (.cells (dCells k) 23)) := by rw [hB]; exact hb1
  have hr1 : (w.alloc (.cells (dCells k) 23)).heap[B]? = some (.cells (dCells k) 23 (0, 0)) := by rw [← hB]; exact heap_alloc_new w _
  have hs1 : (w.alloc (.cells (dCells k) 23)).heap.size = B + 1 := by simp [hB]
  have hex := expand_any k label (.slice none 0 0) [] (w.alloc (.cells (dCells k) 23)) hk (.inl ⟨rfl, rfl⟩) (by simp) hla (by simp) (he.below hb1')
  rw [hs1] at hex
  go_enter Tryd.func19, Tryd.ntmps19
  go_upto_region 1 with (fail)
  generalize w.alloc (.cells (dCells k) 23) = w1 at *
  go_upto_region 2 with (first
    | (refine wpList_load_row rfl 23 _ rfl B rfl 23 _ (0, 0) _ hr1 Tryd.underlying23 rfl HI.out ?_)
    | (go_at_call 23; refine hex.mono ?_; rintro e w2 ⟨rfl, hb2⟩)
    | (refine st_new rfl 23 _ _ rfl (dCells (expd k label [])) _ 23 rfl rfl HI2.out (by rw [HS2.out]; rfl) HO2.out ?_))
  have hs2 := hb2.size
  have hb3 : Below B w (w2.alloc (.cells (dCells (expd k label [])) 23)) := (hb1.trans (hb2.mono (by omega))).alloc (by omega) _
  have hbs : BS (w2.alloc (.cells (dCells (expd k label [])) 23)) (.slice (some ⟨w2.heap.size, 0, none⟩) 32 32) (expd k label []) := BS.of_digest (heap_alloc_new w2 _) HL.out
  have hsc := scalar_any bScalar _ _ _ (by decide) hbs (by rw [HL.out]; decide) (he.below (by rw [hB]; exact hb3))
  rw [← HSC.out] at hsc
  generalize w2.alloc (.cells (dCells (expd k label [])) 23) = w3 at *
  go_wp2_with fail
  refine hsc.mono ?_
  rintro e w4 ⟨rfl, hb4⟩
  go_wp2
  go_ret
  exact ⟨rfl, hb3.trans (hb4.mono (by have := hb3.size; omega))⟩

set_option maxHeartbeats 2000000 in
set_option maxRecDepth 100000 in
theorem refdscalar_any (k : List (BitVec 8)) (label : ByteArray) (w : World) (hk : k.length = 32) (hla : label.size ≤ 1000000) :
    Calls Tryd.prog 20 #[.agg (dCells k), .string label] w fun e w' => e = .returned (.int .i64 (dscal k label)) ∧ Below w.heap.size w w' := by
  have hlen := length_expd k label []
  have HI := Lib.hid (info_key' _ hk); have HI2 := Lib.hid (info_key' _ hlen); have HS2 := Lib.hid (size_dCells _ hlen); have HO2 := Lib.hid (one_dCells (expd k label []))
  have HL := Lib.hid hlen
  clear hlen
  have HSC := Lib.hid (show dscal k label = scal bScalar (expd k label []) from rfl)
  obtain ⟨B, hB⟩ : ∃ B, w.heap.size = B := ⟨_, rfl⟩
  rw [hB]
  have hb1 : Below B w (w.alloc (.cells (dCells k) 23)) := (Below.refl B w).alloc (by omega) _
  have hb1' : Below w.heap.size w (w.alloc (.cells (dCells k) 23)) := by rw [hB]; exact hb1
  have hr1 : (w.alloc (.cells (dCells k) 23)).heap[B]? = some (.cells (dCells k) 23 (0, 0)) := by rw [← hB]; exact heap_alloc_new w _
  have hs1 : (w.alloc (.cells (dCells k) 23)).heap.size = B + 1 := by simp [hB]
  have hex := refexpand_any k label (.slice none 0 0) [] (w.alloc (.cells (dCells k) 23)) hk (.inl ⟨rfl, rfl⟩) (by simp) hla (by simp)
  rw [hs1] at hex
  go_enter Tryd.func20, Tryd.ntmps20
  go_upto_region 1 with (fail)
  generalize w.alloc (.cells (dCells k) 23) = w1 at *
  go_upto_region 2 with (first
    | (refine wpList_load_row rfl 23 _ rfl B rfl 23 _ (0, 0) _ hr1 Tryd.underlying23 rfl HI.out ?_)
    | (go_at_call 24; refine hex.mono ?_; rintro e w2 ⟨rfl, hb2⟩)
    | (refine st_new rfl 23 _ _ rfl (dCells (expd k label [])) _ 23 rfl rfl HI2.out (by rw [HS2.out]; rfl) HO2.out ?_))
  have hs2 := hb2.size
  have hb3 : Below B w (w2.alloc (.cells (dCells (expd k label [])) 23)) := (hb1.trans (hb2.mono (by omega))).alloc (by omega) _
  have hbs : BS (w2.alloc (.cells (dCells (expd k label [])) 23)) (.slice (some ⟨w2.heap.size, 0, none⟩) 32 32) (expd k label []) := BS.of_digest (heap_alloc_new w2 _) HL.out
  have hsc := refscalar_any bScalar _ _ _ (by decide) hbs (by rw [HL.out]; decide)
  rw [← HSC.out] at hsc
  generalize w2.alloc (.cells (dCells (expd k label [])) 23) = w3 at *
  go_wp2_with fail
  refine hsc.mono ?_
  rintro e w4 ⟨rfl, hb4⟩
  go_wp2
  go_ret
  exact ⟨rfl, hb3.trans (hb4.mono (by have := hb3.size; omega))⟩
end Chart
