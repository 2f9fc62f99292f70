/- First, of the program and of the reference. -/
import Derived.Test.YtphgokaeonkjaaaDoorExpand
namespace Chart
open Go Go.RowKit Go.Proofs

def bSeed : ByteArray := { data := #[115, 101, 101, 100] }

set_option maxHeartbeats 2000000 in
set_option maxRecDepth 100000 in
theorem first_any (v : Value) (l : List (BitVec 8)) (w : World) (hv : BS w v l) (hl : l.length + 32 ≤ 140737488355328) (he : ShaEnv w) :
    Calls Tryd.prog 21 #[v] w fun e w' => e = .returned (.agg (dCells (tagd bSeed l))) ∧ Below w.heap.size w w' := by
  have htl := length_tagd bSeed l
  have HI2 := Lib.hid (info_key' _ htl); have HS2 := Lib.hid (size_dCells _ htl); have HO2 := Lib.hid (one_dCells (tagd bSeed l))
  clear htl
  obtain ⟨bd, hbd⟩ : ∃ bd, w.heap.size = bd := ⟨_, rfl⟩
  rw [hbd]
  have hb1 : Below bd w (w.alloc (.cells (zrow 32) 23)) := (Below.refl bd w).alloc (by omega) _
  have hb1' : Below w.heap.size w (w.alloc (.cells (zrow 32) 23)) := by rw [hbd]; exact hb1
  have hd1 : (w.alloc (.cells (zrow 32) 23)).heap[bd]? = some (.cells (zrow 32) 23 (0, 0)) := by rw [← hbd]; exact heap_alloc_new w _
  have hs1 : (w.alloc (.cells (zrow 32) 23)).heap.size = bd + 1 := by simp [hbd]
  have ht := tagged_any bSeed v l _ (by decide) (hv.below hb1') hl (he.below hb1')
  go_enter Tryd.func21, Tryd.ntmps21
  go_wp2_with fail
  rw [← zrow32]
  refine ht.mono ?_
  rintro e w3 ⟨rfl, hb3⟩
  rw [hs1] at hb3
  have hd3 : w3.heap[bd]? = some (.cells (zrow 32) 23 (0, 0)) := (hb3.block bd (by omega)).trans hd1
  have hz : (zrow 32).size = (dCells (tagd bSeed l)).size := by rw [HS2.out]; rfl
  go_wp2_with (refine wpList_store_row rfl 23 _ _ rfl bd _ rfl rfl 23 _ hd3 HI2.out hz HO2.out ?_)
  refine bodyPost_ret (results_cell_row rfl _ _ bd 23 _ (0, 0) _ rfl (setRow_heap _ _ _ _ _ _ hd3) Tryd.underlying23 rfl HI2.out) rfl ⟨rfl, ?_⟩
  exact (hb1.trans (hb3.mono (by omega))).trans ⟨rfl, rfl, rfl, by simp, fun i hi => by rw [setRow_other _ _ _ _ (by omega)]⟩

set_option maxHeartbeats 2000000 in
set_option maxRecDepth 100000 in
theorem reffirst_any (v : Value) (l : List (BitVec 8)) (w : World) (hv : BS w v l) (hl : l.length + 160 ≤ 140737488355328) :
    Calls Tryd.prog 22 #[v] w fun e w' => e = .returned (.agg (dCells (tagd bSeed l))) ∧ Below w.heap.size w w' := by
  have htl := length_tagd bSeed l
  have HI2 := Lib.hid (info_key' _ htl); have HS2 := Lib.hid (size_dCells _ htl); have HO2 := Lib.hid (one_dCells (tagd bSeed l))
  clear htl
  obtain ⟨bd, hbd⟩ : ∃ bd, w.heap.size = bd := ⟨_, rfl⟩
  rw [hbd]
  have hb1 : Below bd w (w.alloc (.cells (zrow 32) 23)) := (Below.refl bd w).alloc (by omega) _
  have hb1' : Below w.heap.size w (w.alloc (.cells (zrow 32) 23)) := by rw [hbd]; exact hb1
  have hd1 : (w.alloc (.cells (zrow 32) 23)).heap[bd]? = some (.cells (zrow 32) 23 (0, 0)) := by rw [← hbd]; exact heap_alloc_new w _
  have hs1 : (w.alloc (.cells (zrow 32) 23)).heap.size = bd + 1 := by simp [hbd]
  have ht := reftagged_any bSeed v l _ (by decide) (hv.below hb1') hl
  go_enter Tryd.func22, Tryd.ntmps22
  go_wp2_with fail
  rw [← zrow32]
  refine ht.mono ?_
  rintro e w3 ⟨rfl, hb3⟩
  rw [hs1] at hb3
  have hd3 : w3.heap[bd]? = some (.cells (zrow 32) 23 (0, 0)) := (hb3.block bd (by omega)).trans hd1
  have hz : (zrow 32).size = (dCells (tagd bSeed l)).size := by rw [HS2.out]; rfl
  go_wp2_with (refine wpList_store_row rfl 23 _ _ rfl bd _ rfl rfl 23 _ hd3 HI2.out hz HO2.out ?_)
  refine bodyPost_ret (results_cell_row rfl _ _ bd 23 _ (0, 0) _ rfl (setRow_heap _ _ _ _ _ _ hd3) Tryd.underlying23 rfl HI2.out) rfl ⟨rfl, ?_⟩
  exact (hb1.trans (hb3.mono (by omega))).trans ⟨rfl, rfl, rfl, by simp, fun i hi => by rw [setRow_other _ _ _ _ (by omega)]⟩
end Chart
