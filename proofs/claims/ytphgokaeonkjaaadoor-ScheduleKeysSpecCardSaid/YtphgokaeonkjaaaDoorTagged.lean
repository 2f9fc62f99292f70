/- digest.Tagged: the hash of the tag's hash and the bytes. -/
import Derived.Test.YtphgokaeonkjaaaDoorBytes
namespace Chart
open Go Go.RowKit Go.Proofs

/-- The hash of bytes under a tag. -/
def tagd (tag : ByteArray) (l : List (BitVec 8)) : List (BitVec 8) := sha (sha (strB tag) ++ l)
theorem length_tagd (tag : ByteArray) (l : List (BitVec 8)) : (tagd tag l).length = 32 := length_sha _

theorem size_dCells (l : List (BitVec 8)) (h : l.length = 32) : (dCells l).size = 32 := by simp [dCells, h]
theorem one_dCells (l : List (BitVec 8)) : (dCells l).all (·.oneCell') = true := by simp [dCells, Value.oneCell']
theorem info_digest : (Tryd.prog.info? 38).map (·.size) = some 32 := by kernel_rfl
theorem info_digest' (l : List (BitVec 8)) (h : l.length = 32) : (Tryd.prog.info? 38).map (·.size) = some (dCells l).size := by rw [size_dCells l h]; exact info_digest

/-- Bytes that lie in a block of 32 cells, as a slice. -/
theorem BS.of_digest {w : World} {b : Nat} {l : List (BitVec 8)} {t : TypeId} {fr : Nat × Nat} (h : w.heap[b]? = some (.cells (dCells l) t fr)) (hl : l.length = 32) : BS w (.slice (some ⟨b, 0, none⟩) 32 32) l :=
  .inr ⟨b, 0, 32, by rw [hl], by omega, by unfold maxLen; omega, BytesAt.of_row h, (Array.getElem?_eq_some_iff.1 h).1⟩

theorem BS.form {w : World} {v : Value} {l : List (BitVec 8)} (h : BS w v l) : ∃ a n c, v = .slice a n c := by
  rcases h with ⟨h, _⟩ | ⟨b, off, cap, h, _⟩
  · exact ⟨_, _, _, h⟩
  · exact ⟨_, _, _, h⟩

set_option maxHeartbeats 1000000 in
set_option maxRecDepth 100000 in
theorem tagged_any (tag : ByteArray) (v : Value) (l : List (BitVec 8)) (w : World) (ht : tag.size ≤ 140737488355328) (hv : BS w v l) (hl : l.length + 32 ≤ 140737488355328) (he : ShaEnv w) :
    Calls Tryd.prog 28 #[.string tag, v] w fun e w' => e = .returned (.agg (dCells (tagd tag l))) ∧ Below w.heap.size w w' := by
  obtain ⟨va, vn, vc, rfl⟩ := hv.form
  have hsh := length_sha (strB tag)
  have htl := length_tagd tag l
  have i1 := info_digest' _ hsh
  have i2 := info_digest' _ htl
  have s1 := size_dCells _ hsh
  have s2 := size_dCells _ htl
  have HT := Lib.hid (show tagd tag l = sha (sha (strB tag) ++ l) from rfl)
  have HI1 := Lib.hid i1; have HI2 := Lib.hid i2; have HS1 := Lib.hid s1; have HS2 := Lib.hid s2; have HL1 := Lib.hid hsh; have HL2 := Lib.hid htl
  clear i1 i2 s1 s2 hsh htl
  obtain ⟨bd, hbd⟩ : ∃ bd, w.heap.size = bd := ⟨_, rfl⟩
  go_enter Tryd.func28, Tryd.ntmps28
  go_wp2_with (refine conv_bytes rfl _ rfl _ rfl (by unfold maxLen; omega) ?_; intro v1 w1 hv1 hb1)
  have hB1 : Below w.heap.size w w1 := ((Below.refl _ w).alloc (Nat.le_refl _) _).trans (hb1.mono (by simp))
  have hd1 : w1.heap[bd]? = some (.cells (zrow 32) 38 (0, 0)) := (hb1.block bd (by simp; omega)).trans (by rw [← hbd]; exact heap_alloc_new w _)
  have hl1 : bd < w1.heap.size := (Array.getElem?_eq_some_iff.1 hd1).1
  have hv1' := hv.below hB1
  refine (sum_any v1 (strB tag) w1 hv1.bs (he.below hB1)).mono ?_
  rintro e w2 ⟨rfl, hb2⟩
  have hB2 := hB1.trans (hb2.mono hB1.size)
  have hd2 : w2.heap[bd]? = some (.cells (zrow 32) 38 (0, 0)) := (hb2.block bd hl1).trans hd1
  have hv2 := hv1'.below hb2
  clear hv1 hv1' hb1 hb2 hd1
  have hold : #[Value.int IntKind.u8 0, Value.int IntKind.u8 0, Value.int IntKind.u8 0, Value.int IntKind.u8 0,
          Value.int IntKind.u8 0, Value.int IntKind.u8 0, Value.int IntKind.u8 0, Value.int IntKind.u8 0,
          Value.int IntKind.u8 0, Value.int IntKind.u8 0, Value.int IntKind.u8 0, Value.int IntKind.u8 0,
          Value.int IntKind.u8 0, Value.int IntKind.u8 0, Value.int IntKind.u8 0, Value.int IntKind.u8 0,
          Value.int IntKind.u8 0, Value.int IntKind.u8 0, Value.int IntKind.u8 0, Value.int IntKind.u8 0,
          Value.int IntKind.u8 0, Value.int IntKind.u8 0, Value.int IntKind.u8 0, Value.int IntKind.u8 0,
          Value.int IntKind.u8 0, Value.int IntKind.u8 0, Value.int IntKind.u8 0, Value.int IntKind.u8 0,
          Value.int IntKind.u8 0, Value.int IntKind.u8 0, Value.int IntKind.u8 0, Value.int IntKind.u8 0].size = (dCells (sha (strB tag))).size := by rw [HS1.out]; rfl
  have HO := Lib.hid hold
  clear hold
  go_wp2_with (refine st_new rfl _ _ _ rfl (dCells (sha (strB tag))) _ _ rfl rfl HI1.out HO.out (one_dCells _) ?_)
  have hB3 : Below w.heap.size w ((w2.alloc (.cells (dCells (sha (strB tag))) 38)).alloc (.cells #[.slice (some ⟨w2.heap.size, 0, none⟩) 32 32, .slice va vn vc] 32)) :=
    (hB2.alloc hB2.size _).alloc (by have := hB2.size; simp; omega) _
  have hW : Below w2.heap.size w2 ((w2.alloc (.cells (dCells (sha (strB tag))) 38)).alloc (.cells #[.slice (some ⟨w2.heap.size, 0, none⟩) 32 32, .slice va vn vc] 32)) :=
    ((Below.refl _ w2).alloc (Nat.le_refl _) _).alloc (by simp) _
  have hrow := heap_alloc_new (w2.alloc (.cells (dCells (sha (strB tag))) 38)) (.cells #[.slice (some ⟨w2.heap.size, 0, none⟩) 32 32, .slice va vn vc] 32)
  have hdg : ((w2.alloc (.cells (dCells (sha (strB tag))) 38)).alloc (.cells #[.slice (some ⟨w2.heap.size, 0, none⟩) 32 32, .slice va vn vc] 32)).heap[w2.heap.size]? = some (.cells (dCells (sha (strB tag))) 38 (0, 0)) :=
    (Below.heap_alloc _ _ _ (by simp)).trans (heap_alloc_new w2 _)
  rw [World.size_alloc] at hrow
  generalize (w2.alloc (.cells (dCells (sha (strB tag))) 38)).alloc (.cells #[.slice (some ⟨w2.heap.size, 0, none⟩) 32 32, .slice va vn vc] 32) = w3 at *
  have hl2 : bd < w2.heap.size := (Array.getElem?_eq_some_iff.1 hd2).1
  have hd3 := (hW.block bd hl2).trans hd2
  have he3 := he.below hB3
  have htot : total [(Value.slice (some ⟨w2.heap.size, 0, none⟩) 32 32, sha (strB tag)), (Value.slice va vn vc, l)] = sha (strB tag) ++ l := by simp [total]
  refine (concat_any (w2.heap.size + 1) 0 2 2 [(.slice (some ⟨w2.heap.size, 0, none⟩) 32 32, sha (strB tag)), (.slice va vn vc, l)] w3 rfl (by unfold maxLen; omega) (by omega) (fun j p hp => ?_) (by rw [htot, List.length_append, HL1.out]; omega)).mono ?_
  · match j, hp with
    | 0, hp => cases hp; exact ⟨cell_of_row w3 _ 0 _ _ _ hrow, BS.of_digest hdg HL1.out⟩
    | 1, hp => cases hp; exact ⟨cell_of_row w3 _ 1 _ _ _ hrow, hv2.below hW⟩
  rintro e w4 ⟨v4, rfl, ho4, hb4⟩
  rw [htot] at ho4
  have hB4 := hB3.trans (hb4.mono hB3.size)
  have hl3 : bd < w3.heap.size := Nat.lt_of_lt_of_le hl2 hW.size
  have hd4 := (hb4.block bd hl3).trans hd3
  go_wp2_with fail
  refine (sum_any v4 (sha (strB tag) ++ l) w4 ho4.bs (he.below hB4)).mono ?_
  rintro e w5 ⟨rfl, hb5⟩
  have hB5 := hB4.trans (hb5.mono hB4.size)
  have hd5 := (hb5.block bd (Nat.lt_of_lt_of_le hl3 hb4.size)).trans hd4
  rw [← HT.out]
  have hz : (zrow 32).size = (dCells (tagd tag l)).size := by rw [HS2.out]; rfl
  go_wp2_with (refine wpList_store_row rfl 38 _ _ rfl bd _ rfl rfl 38 _ hd5 HI2.out hz (one_dCells _) ?_)
  have hd6 := setRow_heap w5 bd _ (dCells (tagd tag l)) _ _ hd5
  refine bodyPost_ret (results_cell_row rfl _ _ bd 38 _ (0, 0) _ rfl hd6 Tryd.underlying38 rfl HI2.out) rfl ?_
  exact ⟨rfl, ⟨hB5.os, hB5.tape, hB5.output, by simp; exact hB5.size, fun k hk => by rw [setRow_other _ _ _ _ (by omega)]; exact hB5.block k hk⟩⟩
end Chart
