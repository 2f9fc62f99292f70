/- The reference's Tagged is the program's. -/
import Derived.Test.YtphgokaeonkjaaaDoorRefSum
namespace Chart
open Go Go.RowKit Go.Proofs

set_option maxHeartbeats 2000000 in
set_option maxRecDepth 100000 in
theorem reftagged_any (tag : ByteArray) (v : Value) (l : List (BitVec 8)) (w : World) (ht : tag.size + 128 ≤ 140737488355328) (hv : BS w v l) (hl : l.length + 160 ≤ 140737488355328) :
    Calls Tryd.prog 57 #[.string tag, v] w fun e w' => e = .returned (.agg (dCells (tagd tag l))) ∧ Below w.heap.size w w' := by
  obtain ⟨va, vn, vc, rfl⟩ := hv.form
  have hvn : vn = l.length := by
    rcases hv with ⟨h, rfl⟩ | ⟨_, _, _, h, _⟩ <;> cases h <;> rfl
  subst hvn
  have hsh := length_sha (strB tag)
  have htl := length_tagd tag l
  have hst := length_strB tag
  have i1 := info_digest' _ hsh
  have i2 := info_digest' _ htl
  have s1 := size_dCells _ hsh
  have s2 := size_dCells _ htl
  have HT := Lib.hid (show tagd tag l = sha (sha (strB tag) ++ l) from rfl)
  have HI1 := Lib.hid i1; have HI2 := Lib.hid i2; have HS1 := Lib.hid s1; have HS2 := Lib.hid s2; have HL1 := Lib.hid hsh
  have HO1 := Lib.hid (one_dCells (sha (strB tag))); have HO2 := Lib.hid (one_dCells (tagd tag l))
  clear i1 i2 s1 s2 hsh htl
  obtain ⟨D1, hD1⟩ : ∃ D1, sha (strB tag) = D1 := ⟨_, rfl⟩
  rw [hD1] at HT HI1 HS1 HL1 HO1
  obtain ⟨bd, hbd⟩ : ∃ bd, w.heap.size = bd := ⟨_, rfl⟩
  rw [hbd]
  go_enter Tryd.func57, Tryd.ntmps57
  go_wp2_with (refine conv_bytes rfl _ rfl _ rfl (by unfold maxLen; omega) ?_; intro v1 w1 hv1 hb1)
  rw [World.size_alloc] at hb1
  have hB1 : Below bd w w1 := ((Below.refl bd w).alloc (by omega) _).trans (hb1.mono (by omega))
  have hd1 : w1.heap[bd]? = some (.cells (zrow 32) 38 (0, 0)) := (hb1.block bd (by omega)).trans (by rw [← hbd]; exact heap_alloc_new w _)
  have hl1 : bd < w1.heap.size := (Array.getElem?_eq_some_iff.1 hd1).1
  refine (refsum_any v1 (strB tag) w1 hv1.bs (by omega)).mono ?_
  rw [hD1]
  rintro e w2 ⟨rfl, hb2⟩
  have hB2 : Below bd w w2 := hB1.trans (hb2.mono (by omega))
  have hd2 : w2.heap[bd]? = some (.cells (zrow 32) 38 (0, 0)) := (hb2.block bd hl1).trans hd1
  clear hv1 hb1 hb2 hd1
  have hl2 : bd < w2.heap.size := (Array.getElem?_eq_some_iff.1 hd2).1
  obtain ⟨b5, hb5⟩ : ∃ b5, w2.heap.size = b5 := ⟨_, rfl⟩
  have hw5 : Below bd w (w2.alloc (.cells (dCells D1) 38)) := hB2.alloc (by omega) _
  have hr5 : (w2.alloc (.cells (dCells D1) 38)).heap[b5]? = some (.cells (dCells D1) 38 (0, 0)) := by rw [← hb5]; exact heap_alloc_new w2 _
  have hd5 : (w2.alloc (.cells (dCells D1) 38)).heap[bd]? = some (.cells (zrow 32) 38 (0, 0)) := (Below.heap_alloc _ _ _ hl2).trans hd2
  have hz5 : (w2.alloc (.cells (dCells D1) 38)).heap.size = b5 + 1 := by simp [hb5]
  have hO : (zrow 32).size = (dCells D1).size := by rw [HS1.out]; rfl
  have HO := Lib.hid hO
  clear hO
  go_upto_region 2 with (refine st_new rfl 38 _ _ rfl (dCells D1) _ 38 (by show Value.pointer _ = Value.pointer _; rw [hb5]) rfl HI1.out HO.out HO1.out ?_)
  generalize w2.alloc (.cells (dCells D1) 38) = w5 at *
  have hv5 := hv.below (show Below w.heap.size w w5 by rw [hbd]; exact hw5)
  have hbs5 : BS w5 (.slice (some ⟨b5, 0, none⟩) 32 32) D1 := BS.of_digest hr5 HL1.out
  have hsz := hw5.size
  go_wp2_with (at_builtin; first
    | (refine app_bytes rfl _ _ rfl (bd + 1) _ _ rfl (OB.empty w5 (bd + 1) _ hz5 (by omega)) _ _ rfl (hbs5.below ((Below.refl _ w5).alloc (Nat.le_refl _) _)) (by simp only [List.length_nil, HL1.out]; omega) (by simp; omega) ?_; intro v1 w6 ho1 hg1)
    | (refine app_bytes rfl _ _ rfl (bd + 1) _ _ rfl ho1 _ _ rfl (hv5.below (((Below.refl _ w5).alloc (Nat.le_refl _) _).grown hg1 (by simp) (fun k h => by cases h; simp; omega))) (by simp only [List.nil_append, HL1.out]; omega) (by have := hg1.size; simp at this; omega) ?_; intro v2 w7 ho2 hg2))
  have hne : (some bd : Option Nat) ≠ some (b5 + 1) := by intro h; cases h; omega
  have hd6 : w6.heap[bd]? = some (.cells (zrow 32) 38 (0, 0)) := (hg1.block bd (by simp; omega) hne).trans ((Below.heap_alloc _ _ _ (by omega)).trans hd5)
  have hB6 : Below bd w w6 := (hw5.alloc (by omega) _).grown hg1 (by simp; omega) (fun k h => by cases h; simp; omega)
  have hs6 := hg1.size
  rw [World.size_alloc] at hs6
  have hne2 : some bd ≠ v1.ownBlock := fun h => by have := (ho1.lt bd h.symm); omega
  have hd7 := (hg2.block bd (by omega) hne2).trans hd6
  have hB7 : Below bd w w7 := hB6.grown hg2 (by omega) (fun k h => Nat.le_of_succ_le (ho1.lt k h).1)
  rw [List.nil_append] at ho2
  refine (refsum_any v2 (D1 ++ l) w7 ho2.bs (by rw [List.length_append, HL1.out]; omega)).mono ?_
  rw [← HT.out]
  rintro e w8 ⟨rfl, hb8⟩
  have hlt7 : bd < w7.heap.size := (Array.getElem?_eq_some_iff.1 hd7).1
  have hd8 := (hb8.block bd hlt7).trans hd7
  have hB8 : Below bd w w8 := hB7.trans (hb8.mono (by omega))
  have hz : (zrow 32).size = (dCells (tagd tag l)).size := by rw [HS2.out]; rfl
  go_wp2_with (refine wpList_store_row rfl 38 _ _ rfl bd _ rfl rfl 38 _ hd8 HI2.out hz HO2.out ?_)
  refine bodyPost_ret (results_cell_row rfl _ _ bd 38 _ (0, 0) _ rfl (setRow_heap _ _ _ _ _ _ hd8) Tryd.underlying38 rfl HI2.out) rfl ⟨rfl, ?_⟩
  exact hB8.trans ⟨rfl, rfl, rfl, by simp, fun i hi => by rw [setRow_other _ _ _ _ (by omega)]⟩
end Chart
