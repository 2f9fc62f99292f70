/- The reference's Mix. -/
import Derived.Test.YtphgokaeonkjaaaDoorMix
namespace Chart
open Go Go.RowKit Go.Proofs

set_option maxHeartbeats 1000000 in
set_option maxRecDepth 100000 in
theorem refmix_any (label : ByteArray) (ka kb : List (BitVec 8)) (w : World) (ha : ka.length = 32) (hb : kb.length = 32) (hla : label.size ≤ 1000000) :
    Calls Tryd.prog 26 #[.string label, .agg (dCells ka), .agg (dCells kb)] w fun e w' => e = .returned (.agg (dCells (mixd label ka kb))) ∧ Below w.heap.size w w' := by
  have hsl := length_sha (strB label)
  have hml := length_mixd label ka kb
  have hMX : mixd label ka kb = tagd bMix ([] ++ sha (strB label) ++ ka ++ kb) := by rw [List.nil_append]; rfl
  obtain ⟨B, hB⟩ : ∃ B, w.heap.size = B := ⟨_, rfl⟩
  rw [hB]
  have HIs := Lib.hid (info_digest' _ hsl); have HSs := Lib.hid (size_dCells _ hsl); have HOs := Lib.hid (one_dCells (sha (strB label)))
  have HI := Lib.hid (info_key' _ hml); have HS := Lib.hid (size_dCells _ hml); have HO := Lib.hid (one_dCells (mixd label ka kb))
  obtain ⟨X, hX⟩ : ∃ X, mixd label ka kb = X := ⟨_, rfl⟩
  rw [hX] at HI HS HO hMX ⊢
  have hle : B ≤ w.heap.size := Nat.le_of_eq hB.symm
  obtain ⟨w1, hw1⟩ : ∃ w1, w1 = w.alloc (.cells (dCells ka) 23) := ⟨_, rfl⟩
  obtain ⟨w2, hw2⟩ : ∃ w2, w2 = w1.alloc (.cells (dCells kb) 23) := ⟨_, rfl⟩
  obtain ⟨w3, hw3⟩ : ∃ w3, w3 = w2.alloc (.cells (zrow 32) 23) := ⟨_, rfl⟩
  have s1 : w1.heap.size = B + 1 := by rw [hw1, World.size_alloc, hB]
  have s2 : w2.heap.size = B + 2 := by rw [hw2, World.size_alloc, s1]
  have s3 : w3.heap.size = B + 3 := by rw [hw3, World.size_alloc, s2]
  have b1 : Below w.heap.size w w1 := hw1 ▸ below_al w _
  have b2 : Below w1.heap.size w1 w2 := hw2 ▸ below_al w1 _
  have b3 : Below w2.heap.size w2 w3 := hw3 ▸ below_al w2 _
  have ra1 : w1.heap[B]? = some (.cells (dCells ka) 23 (0, 0)) := by rw [hw1, ← hB]; exact heap_alloc_new w _
  have rb2 : w2.heap[B + 1]? = some (.cells (dCells kb) 23 (0, 0)) := by rw [hw2, ← s1]; exact heap_alloc_new w1 _
  have rd : w3.heap[B + 2]? = some (.cells (zrow 32) 23 (0, 0)) := by rw [hw3, ← s2]; exact heap_alloc_new w2 _
  have ra := row_below (row_below ra1 b2) b3
  have rb := row_below rb2 b3
  have hb3 : Below B w w3 := below_trB hle (below_trB hle (hB ▸ b1) b2) b3
  clear ra1 rb2 b1 b2 b3
  have hlm : label.size ≤ maxLen := by unfold maxLen; omega
  have hll : (strB label).length + 128 ≤ 140737488355328 := by rw [length_strB]; omega
  go_enter Tryd.func26, Tryd.ntmps26
  go_upto_region 1 with (fail)
  rw [← zrow32]
  rw [show ((w.alloc (.cells (dCells ka) 23)).alloc (.cells (dCells kb) 23)).alloc (.cells (zrow 32) 23) = w3 by rw [hw3, hw2, hw1]]
  rw [show B + 1 + 1 = B + 2 from rfl]
  clear hw1 hw2 hw3 s1 s2
  go_upto_region 2 with (first
    | (refine conv_bytes rfl _ rfl label rfl hlm ?_; intro vb wb hob hbb; have hsm := refsum_any vb (strB label) wb hob.bs hll)
    | (go_at_call 62; refine hsm.mono ?_; rintro e wc ⟨rfl, hbc⟩)
    | (refine st_new rfl 38 _ _ rfl (dCells (sha (strB label))) _ 38 rfl rfl HIs.out (by rw [HSs.out]; rfl) HOs.out ?_))
  have hg : Below w3.heap.size w3 (wc.alloc (.cells (dCells (sha (strB label))) 38)) := below_tr (below_tr hbb hbc) (below_al _ _)
  have rs := heap_alloc_new wc (.cells (dCells (sha (strB label))) 38)
  have ra4 := row_below ra hg
  have rb4 := row_below rb hg
  have rd4 := row_below rd hg
  have hb4 := below_trB hle hb3 hg
  clear hsm hbb hbc hg hb3 ra rb rd
  generalize wc.alloc (.cells (dCells (sha (strB label))) 38) = w4 at *
  obtain ⟨bs, hbs⟩ : ∃ bs, wc.heap.size = bs := ⟨_, rfl⟩
  rw [hbs] at rs
  simp only [hbs]
  clear hbs
  have z4 := row_lt rs
  have za := row_lt ra4
  have zb := row_lt rb4
  have zd := row_lt rd4
  obtain ⟨N, hN⟩ : ∃ N, w4.heap.size = N := ⟨_, rfl⟩
  rw [hN] at z4 za zb zd
  have SA : ∀ w', Below N w4 w' → BS w' (.slice (some ⟨bs, 0, none⟩) 32 32) (sha (strB label)) := fun w' h => BS.of_digest ((h.block bs z4).trans rs) hsl
  have KA : ∀ w', Below N w4 w' → BS w' (.slice (some ⟨B, 0, none⟩) 32 32) ka := fun w' h => BS.of_digest ((h.block B za).trans ra4) ha
  have KB : ∀ w', Below N w4 w' → BS w' (.slice (some ⟨B + 1, 0, none⟩) 32 32) kb := fun w' h => BS.of_digest ((h.block (B + 1) zb).trans rb4) hb
  have hlen1 : ([] : List (BitVec 8)).length + (sha (strB label)).length ≤ 140737488355328 := by rw [hsl]; decide
  have hlen2 : ([] ++ sha (strB label)).length + ka.length ≤ 140737488355328 := by rw [List.nil_append, hsl, ha]; decide
  have hlen3 : ([] ++ sha (strB label) ++ ka).length + kb.length ≤ 140737488355328 := by rw [List.nil_append, List.length_append, hsl, ha, hb]; decide
  have HSZ : ∀ w', Below N w4 w' → N ≤ w'.heap.size := fun w' h => Nat.le_trans (Nat.le_of_eq hN.symm) h.size
  have htg : ∀ v w', BS w' v ([] ++ sha (strB label) ++ ka ++ kb) → Calls Tryd.prog 57 #[.string bMix, v] w' fun e w'' => e = .returned (.agg (dCells X)) ∧ Below w'.heap.size w' w'' := fun v w' h => by
    rw [hMX]
    exact reftagged_any bMix v ([] ++ sha (strB label) ++ ka ++ kb) w' (by decide) h (by rw [List.length_append, List.length_append, List.length_append, hsl, ha, hb]; decide)
  clear hMX
  have hr0 : Below N w4 w4.drew := (Below.refl _ _).drew
  have hrA0 : Below N w4 (w4.alloc (.cells #[] 5)) := (Below.refl _ _).alloc (Nat.le_of_eq hN.symm) _
  have hrA : Below N w4 (w4.alloc (.cells #[] 5)).drew := hrA0.drew
  have HO0 : OB (w4.alloc (.cells #[] 5)).drew N (.slice (some ⟨w4.heap.size, 0, none⟩) 0 0) [] := (OB.empty w4 N w4.heap.size rfl (Nat.le_of_eq hN.symm)).below ((Below.refl _ _).drew)
  have hBN : B ≤ N := by omega
  clear hN
  go_region_held3 (fun w' => Below N w4 w') (assumption)
    (first
      | (refine step_app2g rfl _ _ rfl N _ _ rfl ho5 _ _ rfl (KA _ hq5) hlen2 (HSZ _ hq5) ?_; intro v6 w6 ho6 hg6; have hq6 : Below N w4 w6 := hq5.trans (hg6.below (HSZ _ hq5) ho5))
      | (refine step_app2g rfl _ _ rfl N _ _ rfl HO0 _ _ rfl (SA _ hrA) hlen1 (HSZ _ hrA) ?_; intro v5 w5 ho5 hg5; have hq5 : Below N w4 w5 := hrA.trans (hg5.below (HSZ _ hrA) HO0)))
  clear HO0 SA KA hq5 ho5 hg5 hrA hrA0 hr0 ra4 rb4 rs
  go_wp2_with (at_builtin; refine app2 rfl _ _ rfl N _ _ rfl ho6 _ _ rfl (KB _ hq6) hlen3 (HSZ _ hq6) ?_; intro v7 w7 ho7 hg7)
  have hq7 : Below N w4 w7 := hq6.trans (hg7.below (HSZ _ hq6) ho6)
  refine (htg v7 w7 ho7.bs).mono ?_
  rintro e w8 ⟨rfl, hb8⟩
  have hq8 : Below N w4 w8 := hq7.trans (hb8.mono (HSZ _ hq7))
  have rd8 := (hq8.block (B + 2) zd).trans rd4
  have hz : (zrow 32).size = (dCells X).size := by rw [HS.out]; rfl
  go_wp2_with (refine wpList_store_row rfl 23 _ _ rfl (B + 2) _ rfl rfl 23 _ rd8 HI.out hz HO.out ?_)
  refine bodyPost_ret (results_cell_row rfl _ _ (B + 2) 23 _ (0, 0) _ rfl (setRow_heap _ _ _ _ _ _ rd8) Tryd.underlying23 rfl HI.out) rfl ⟨rfl, ?_⟩
  exact (hb4.trans (hq8.mono hBN)).trans ⟨rfl, rfl, rfl, by simp, fun i hi => by rw [setRow_other _ _ _ _ (by omega)]⟩
end Chart
