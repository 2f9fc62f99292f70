/- derive.Mix. The reference's Mix. -/
import Derived.Test.YtphgokaeonkjaaaDoorEqKey
namespace Chart
open Go Go.RowKit Go.Proofs
set_option linter.unusedSimpArgs false

def bMix : ByteArray := { data := #[109, 105, 120] }
/-- What Mix answers. -/
def mixd (label : ByteArray) (a b : List (BitVec 8)) : List (BitVec 8) := tagd bMix (sha (strB label) ++ a ++ b)
theorem length_mixd (label : ByteArray) (a b : List (BitVec 8)) : (mixd label a b).length = 32 := length_tagd _ _

set_option maxHeartbeats 4000000 in
set_option maxRecDepth 100000 in
theorem mix_any (label : ByteArray) (ka kb : List (BitVec 8)) (w : World) (ha : ka.length = 32) (hb : kb.length = 32) (hla : label.size ≤ 1000000) (he : ShaEnv w) :
    Calls Tryd.prog 25 #[.string label, .agg (dCells ka), .agg (dCells kb)] w fun e w' => e = .returned (.agg (dCells (mixd label ka kb))) ∧ Below w.heap.size w w' := by
  have hsl := length_sha (strB label)
  have hml := length_mixd label ka kb
  have hMX : mixd label ka kb = tagd bMix ([] ++ sha (strB label) ++ ka ++ kb) := by rw [List.nil_append]; rfl
  obtain ⟨B, hB⟩ : ∃ B, w.heap.size = B := ⟨_, rfl⟩
  rw [hB]
  have HIa := Lib.hid (info_key' _ ha); have HIb := Lib.hid (info_key' _ hb)
  have HI := Lib.hid (info_key' _ hml); have HS := Lib.hid (size_dCells _ hml); have HO := Lib.hid (one_dCells (mixd label ka kb))
  obtain ⟨X, hX⟩ : ∃ X, mixd label ka kb = X := ⟨_, rfl⟩
  rw [hX] at HI HS HO hMX ⊢
  have hle : B ≤ w.heap.size := Nat.le_of_eq hB.symm
  obtain ⟨w1, hw1⟩ : ∃ w1, w1 = w.alloc (.cells (dCells ka) 23) := ⟨_, rfl⟩
  obtain ⟨w2, hw2⟩ : ∃ w2, w2 = w1.alloc (.cells (dCells kb) 23) := ⟨_, rfl⟩
  obtain ⟨w3, hw3⟩ : ∃ w3, w3 = w2.alloc (.cells (zrow 32) 23) := ⟨_, rfl⟩
  obtain ⟨w4, hw4⟩ : ∃ w4, w4 = w3.alloc (.cells #[.slice none 0 0, .int .i64 0, .int .i8 0] 77) := ⟨_, rfl⟩
  have s1 : w1.heap.size = B + 1 := by rw [hw1, World.size_alloc, hB]
  have s2 : w2.heap.size = B + 2 := by rw [hw2, World.size_alloc, s1]
  have s3 : w3.heap.size = B + 3 := by rw [hw3, World.size_alloc, s2]
  have s4 : w4.heap.size = B + 4 := by rw [hw4, World.size_alloc, s3]
  have b1 : Below w.heap.size w w1 := hw1 ▸ below_al w _
  have b2 : Below w1.heap.size w1 w2 := hw2 ▸ below_al w1 _
  have b3 : Below w2.heap.size w2 w3 := hw3 ▸ below_al w2 _
  have b4 : Below w3.heap.size w3 w4 := hw4 ▸ below_al w3 _
  have ra1 : w1.heap[B]? = some (.cells (dCells ka) 23 (0, 0)) := by rw [hw1, ← hB]; exact heap_alloc_new w _
  have rb2 : w2.heap[B + 1]? = some (.cells (dCells kb) 23 (0, 0)) := by rw [hw2, ← s1]; exact heap_alloc_new w1 _
  have rd3 : w3.heap[B + 2]? = some (.cells (zrow 32) 23 (0, 0)) := by rw [hw3, ← s2]; exact heap_alloc_new w2 _
  have ra := row_below (row_below (row_below ra1 b2) b3) b4
  have rb := row_below (row_below rb2 b3) b4
  have rd := row_below rd3 b4
  have hi : Inp w4 (B + 3) (B + 3) [] := by rw [hw4, ← s3]; exact LibA.of_whole (Lib.fresh_isBuffer _ _ w3)
  have hb4 : Below B w w4 := below_trB hle (below_trB hle (below_trB hle (hB ▸ b1) b2) b3) b4
  have he4 : ShaEnv w4 := he.below (hB.symm ▸ hb4)
  clear ra1 rb2 rd3 b1 b2 b3 b4
  go_enter Tryd.func25, Tryd.ntmps25
  go_upto_region 2 with (fail)
  rw [← zrow32]
  rw [show (((w.alloc (.cells (dCells ka) 23)).alloc (.cells (dCells kb) 23)).alloc (.cells (zrow 32) 23)).alloc (.cells #[.slice none 0 0, .int .i64 0, .int .i8 0] 77) = w4 by rw [hw4, hw3, hw2, hw1]]
  rw [show B + 1 + 1 = B + 2 from rfl, show B + 2 + 1 = B + 3 from rfl]
  have hr0 : Below (B + 3) w4 w4.drew := (Below.refl _ _).drew
  have h34 : B + 3 ≤ w4.heap.size := by omega
  have hlm : label.size ≤ maxLen := by unfold maxLen; omega
  have i0 : Inp w4.drew (B + 3) (B + 3) [] := LibA.IsBuffer.drew hi
  have e0 : ShaEnv w4.drew := he4.below ((Below.refl _ _).drew)
  clear hw1 hw2 hw3 hw4 s1 s2 s3 hi
  refine wp_region_held_drew (S := fun w' => Below (B + 2) w4 w') (by kernel_rfl) (hr0.mono (by omega)) (fun hHeld => ?_)
  refine wpAnyH_take (i := 4) rfl (by kernel_rfl) (by kernel_rfl) (by kernel_rfl) (fun _ _ _ h => h) (yieldsIf_row rfl 23 _ rfl B rfl 23 (dCells ka) (0, 0) _ (fun w h => (h.block B (by omega)).trans ra) Tryd.underlying23 rfl HIa.out) hHeld ?_
  try simp only [Act.put, List.setIfInBounds_toArray, List.set_cons_zero, List.set_cons_succ]
  refine wpAnyH_take (i := 6) rfl (by kernel_rfl) (by kernel_rfl) (by kernel_rfl) (fun _ _ _ h => h) (yieldsIf_row rfl 23 _ rfl (B + 1) rfl 23 (dCells kb) (0, 0) _ (fun w h => (h.block (B + 1) (by omega)).trans rb) Tryd.underlying23 rfl HIb.out) hHeld ?_
  try simp only [Act.put, List.setIfInBounds_toArray, List.set_cons_zero, List.set_cons_succ]
  refine wpAnyH_take (i := 0) rfl (by kernel_rfl) (by kernel_rfl) (by kernel_rfl) (fun _ _ _ h => h) (Or.inl ⟨rfl, fun _ _ => rfl⟩) hHeld ?_
  try simp only [Act.put, List.setIfInBounds_toArray, List.set_cons_zero, List.set_cons_succ]
  refine wpAnyH_ready (rs := [1]) (by kernel_rfl) (by simp) (AllReadyH.cons rfl (fun K hK => ?_) AllReadyH.nil)
  refine step_conv rfl _ rfl label rfl hlm ?_
  intro vb wb hob hbb
  have g1 := below_trB h34 hr0 hbb
  have i1 := LibA.IsBuffer.old i0 hbb
  have e1 := e0.below hbb
  refine hK.out _ _ (g1.mono (by omega)) (fun hHeld => ?_)
  clear hK K
  try simp only [Act.put, List.setIfInBounds_toArray, List.set_cons_zero, List.set_cons_succ]
  refine wpAnyH_ready (rs := [2]) (by kernel_rfl) (by simp) (AllReadyH.cons rfl (fun K hK => ?_) AllReadyH.nil)
  go_simp
  go_at_call 27
  refine (sum_any vb (strB label) wb hob e1).mono ?_
  rintro e wc ⟨rfl, hbc⟩
  have g2 := below_trB h34 g1 hbc
  have i2 := LibA.IsBuffer.old i1 hbc
  have e2 := e1.below hbc
  have z2 : B + 3 ≤ wc.heap.size := Nat.le_trans h34 g2.size
  refine hK.out _ _ (g2.mono (by omega)) (fun hHeld => ?_)
  clear hK K
  try simp only [Act.put, List.setIfInBounds_toArray, List.set_cons_zero, List.set_cons_succ]
  refine wpAnyH_ready (rs := [3]) (by kernel_rfl) (by simp) (AllReadyH.cons rfl (fun K hK => ?_) AllReadyH.nil)
  go_simp
  go_at_call 58
  refine (key_any (B + 3) (B + 3) [] (sha (strB label)) wc i2 z2 hsl (by simp)).mono ?_
  rintro e wd ⟨rfl, i3, hbd, -⟩
  have g3 := g2.trans hbd
  have z3 : B + 3 ≤ wd.heap.size := Nat.le_trans h34 g3.size
  refine hK.out _ _ (g3.mono (by omega)) (fun hHeld => ?_)
  clear hK K
  try simp only [Act.put, List.setIfInBounds_toArray, List.set_cons_zero, List.set_cons_succ]
  refine wpAnyH_ready (rs := [5]) (by kernel_rfl) (by simp) (AllReadyH.cons rfl (fun K hK => ?_) AllReadyH.nil)
  go_simp
  go_at_call 58
  refine (key_any (B + 3) (B + 3) ([] ++ sha (strB label)) ka wd i3 z3 ha (by rw [List.length_append, hsl]; decide)).mono ?_
  rintro e we ⟨rfl, i4, hbe, -⟩
  have g4 := g3.trans hbe
  have z4 : B + 3 ≤ we.heap.size := Nat.le_trans h34 g4.size
  refine hK.out _ _ (g4.mono (by omega)) (fun hHeld => ?_)
  clear hK K
  try simp only [Act.put, List.setIfInBounds_toArray, List.set_cons_zero, List.set_cons_succ]
  refine wpAnyH_ready (rs := [7]) (by kernel_rfl) (by simp) (AllReadyH.cons rfl (fun K hK => ?_) AllReadyH.nil)
  go_simp
  go_at_call 58
  refine (key_any (B + 3) (B + 3) ([] ++ sha (strB label) ++ ka) kb we i4 z4 hb (by rw [List.length_append, List.length_append, hsl, ha]; decide)).mono ?_
  rintro e wf ⟨rfl, i5, hbf, -⟩
  have g5 := g4.trans hbf
  have z5 : B + 3 ≤ wf.heap.size := Nat.le_trans h34 g5.size
  have e5 : ShaEnv wf := he.below (hB.symm ▸ (hb4.trans (g5.mono (by omega))))
  refine hK.out _ _ (g5.mono (by omega)) (fun hHeld => ?_)
  clear hK K
  try simp only [Act.put, List.setIfInBounds_toArray, List.set_cons_zero, List.set_cons_succ]
  refine wpAnyH_ready (rs := [8]) (by kernel_rfl) (by simp) (AllReadyH.cons rfl (fun K hK => ?_) AllReadyH.nil)
  go_simp
  go_at_call 60
  refine (under_any (B + 3) (B + 3) ([] ++ sha (strB label) ++ ka ++ kb) bMix wf i5 (by decide) (by rw [List.length_append, List.length_append, List.length_append, hsl, ha, hb]; decide) e5).mono ?_
  rw [← hMX]
  rintro e wg ⟨rfl, hbg⟩
  have g6 := g5.trans (hbg.mono z5)
  have rd6 := (g6.block (B + 2) (by omega)).trans rd
  have hz : (zrow 32).size = (dCells X).size := by rw [HS.out]; rfl
  refine hK.out _ _ (g6.mono (by omega)) (fun hHeld => ?_)
  clear hK K
  try simp only [Act.put, List.setIfInBounds_toArray, List.set_cons_zero, List.set_cons_succ]
  refine wpAnyH_ready (rs := [9]) (by kernel_rfl) (by simp) (AllReadyH.cons rfl (fun K hK => ?_) AllReadyH.nil)
  rw [if_pos (by rfl)]
  refine wp_store_row 23 _ _ rfl (B + 2) (dCells X) rfl rfl 23 _ rd6 HI.out hz HO.out ?_
  refine hK.out _ _ (g6.mono (by omega) |>.trans ⟨rfl, rfl, rfl, by simp, fun i hi => by rw [setRow_other _ _ _ _ (by omega)]⟩) (fun hHeld => ?_)
  refine wpAnyH_done (by kernel_rfl) ?_ _
  try simp only [Act.put, List.setIfInBounds_toArray, List.set_cons_zero, List.set_cons_succ]
  go_wp2
  refine bodyPost_ret (results_cell_row rfl _ _ (B + 2) 23 _ (0, 0) _ rfl (setRow_heap _ _ _ _ _ _ rd6) Tryd.underlying23 rfl HI.out) rfl ⟨rfl, ?_⟩
  exact (hb4.trans (g6.mono (by omega))).trans ⟨rfl, rfl, rfl, by simp, fun i hi => by rw [setRow_other _ _ _ _ (by omega)]⟩
end Chart

namespace Chart
open Go Go.RowKit Go.Proofs

set_option maxHeartbeats 1000000 in
set_option maxRecDepth 100000 in
theorem refmix_any (label : ByteArray) (ka kb : List (BitVec 8)) (w : World) (ha : ka.length = 32) (hb : kb.length = 32) (hla : label.size ≤ 1000000) :
    Calls Tryd.prog 26 #[.string label, .agg (dCells ka), .agg (dCells kb)] w fun e w' => e = .returned (.agg (dCells (mixd label ka kb))) ∧ Below w.heap.size w w' := by
  have hsl := length_sha (strB label)
  have hml := length_mixd label ka kb
  have hMX : mixd label ka kb = tagd bMix ([] ++ sha (strB label) ++ ka ++ kb) := by rw [List.nil_append]; rfl
  obtain ⟨B, hB⟩ : ∃ B, w.heap.size = B := ⟨_, rfl⟩
  rw [hB]
  have HIs := Lib.hid (info_digest' _ hsl); have HSs := Lib.hid (size_dCells _ hsl); have HOs := Lib.hid (one_dCells (sha (strB label)))
  have HI := Lib.hid (info_key' _ hml); have HS := Lib.hid (size_dCells _ hml); have HO := Lib.hid (one_dCells (mixd label ka kb))
  obtain ⟨X, hX⟩ : ∃ X, mixd label ka kb = X := ⟨_, rfl⟩
  rw [hX] at HI HS HO hMX ⊢
  have hle : B ≤ w.heap.size := Nat.le_of_eq hB.symm
  obtain ⟨w1, hw1⟩ : ∃ w1, w1 = w.alloc (.cells (dCells ka) 23) := ⟨_, rfl⟩
  obtain ⟨w2, hw2⟩ : ∃ w2, w2 = w1.alloc (.cells (dCells kb) 23) := ⟨_, rfl⟩
  obtain ⟨w3, hw3⟩ : ∃ w3, w3 = w2.alloc (.cells (zrow 32) 23) := ⟨_, rfl⟩
  have s1 : w1.heap.size = B + 1 := by rw [hw1, World.size_alloc, hB]
  have s2 : w2.heap.size = B + 2 := by rw [hw2, World.size_alloc, s1]
  have s3 : w3.heap.size = B + 3 := by rw [hw3, World.size_alloc, s2]
  have b1 : Below w.heap.size w w1 := hw1 ▸ below_al w _
  have b2 : Below w1.heap.size w1 w2 := hw2 ▸ below_al w1 _
  have b3 : Below w2.heap.size w2 w3 := hw3 ▸ below_al w2 _
  have ra1 : w1.heap[B]? = some (.cells (dCells ka) 23 (0, 0)) := by rw [hw1, ← hB]; exact heap_alloc_new w _
  have rb2 : w2.heap[B + 1]? = some (.cells (dCells kb) 23 (0, 0)) := by rw [hw2, ← s1]; exact heap_alloc_new w1 _
  have rd : w3.heap[B + 2]? = some (.cells (zrow 32) 23 (0, 0)) := by rw [hw3, ← s2]; exact heap_alloc_new w2 _
  have ra := row_below (row_below ra1 b2) b3
  have rb := row_below rb2 b3
  have hb3 : Below B w w3 := below_trB hle (below_trB hle (hB ▸ b1) b2) b3
  clear ra1 rb2 b1 b2 b3
  have hlm : label.size ≤ maxLen := by unfold maxLen; omega
  have hll : (strB label).length + 128 ≤ 140737488355328 := by rw [length_strB]; omega
  go_enter Tryd.func26, Tryd.ntmps26
  go_upto_region 1 with (fail)
  rw [← zrow32]
  rw [show ((w.alloc (.cells (dCells ka) 23)).alloc (.cells (dCells kb) 23)).alloc (.cells (zrow 32) 23) = w3 by rw [hw3, hw2, hw1]]
  rw [show B + 1 + 1 = B + 2 from rfl]
  clear hw1 hw2 hw3 s1 s2
  go_upto_region 2 with (first
    | (refine conv_bytes rfl _ rfl label rfl hlm ?_; intro vb wb hob hbb; have hsm := refsum_any vb (strB label) wb hob.bs hll)
    | (go_at_call 62; refine hsm.mono ?_; rintro e wc ⟨rfl, hbc⟩)
    | (refine st_new rfl 38 _ _ rfl (dCells (sha (strB label))) _ 38 rfl rfl HIs.out (by rw [HSs.out]; rfl) HOs.out ?_))
  have hg : Below w3.heap.size w3 (wc.alloc (.cells (dCells (sha (strB label))) 38)) := below_tr (below_tr hbb hbc) (below_al _ _)
  have rs := heap_alloc_new wc (.cells (dCells (sha (strB label))) 38)
  have ra4 := row_below ra hg
  have rb4 := row_below rb hg
  have rd4 := row_below rd hg
  have hb4 := below_trB hle hb3 hg
  clear hsm hbb hbc hg hb3 ra rb rd
  generalize wc.alloc (.cells (dCells (sha (strB label))) 38) = w4 at *
  obtain ⟨bs, hbs⟩ : ∃ bs, wc.heap.size = bs := ⟨_, rfl⟩
  rw [hbs] at rs
  simp only [hbs]
  clear hbs
  have z4 := row_lt rs
  have za := row_lt ra4
  have zb := row_lt rb4
  have zd := row_lt rd4
  obtain ⟨N, hN⟩ : ∃ N, w4.heap.size = N := ⟨_, rfl⟩
  rw [hN] at z4 za zb zd
  have SA : ∀ w', Below N w4 w' → BS w' (.slice (some ⟨bs, 0, none⟩) 32 32) (sha (strB label)) := fun w' h => BS.of_digest ((h.block bs z4).trans rs) hsl
  have KA : ∀ w', Below N w4 w' → BS w' (.slice (some ⟨B, 0, none⟩) 32 32) ka := fun w' h => BS.of_digest ((h.block B za).trans ra4) ha
  have KB : ∀ w', Below N w4 w' → BS w' (.slice (some ⟨B + 1, 0, none⟩) 32 32) kb := fun w' h => BS.of_digest ((h.block (B + 1) zb).trans rb4) hb
  have hlen1 : ([] : List (BitVec 8)).length + (sha (strB label)).length ≤ 140737488355328 := by rw [hsl]; decide
  have hlen2 : ([] ++ sha (strB label)).length + ka.length ≤ 140737488355328 := by rw [List.nil_append, hsl, ha]; decide
  have hlen3 : ([] ++ sha (strB label) ++ ka).length + kb.length ≤ 140737488355328 := by rw [List.nil_append, List.length_append, hsl, ha, hb]; decide
  have HSZ : ∀ w', Below N w4 w' → N ≤ w'.heap.size := fun w' h => Nat.le_trans (Nat.le_of_eq hN.symm) h.size
  have htg : ∀ v w', BS w' v ([] ++ sha (strB label) ++ ka ++ kb) → Calls Tryd.prog 57 #[.string bMix, v] w' fun e w'' => e = .returned (.agg (dCells X)) ∧ Below w'.heap.size w' w'' := fun v w' h => by
    rw [hMX]
    exact reftagged_any bMix v ([] ++ sha (strB label) ++ ka ++ kb) w' (by decide) h (by rw [List.length_append, List.length_append, List.length_append, hsl, ha, hb]; decide)
  clear hMX
  have hr0 : Below N w4 w4.drew := (Below.refl _ _).drew
  have hrA0 : Below N w4 (w4.alloc (.cells #[] 5)) := (Below.refl _ _).alloc (Nat.le_of_eq hN.symm) _
  have hrA : Below N w4 (w4.alloc (.cells #[] 5)).drew := hrA0.drew
  have HO0 : OB (w4.alloc (.cells #[] 5)).drew N (.slice (some ⟨w4.heap.size, 0, none⟩) 0 0) [] := (OB.empty w4 N w4.heap.size rfl (Nat.le_of_eq hN.symm)).below ((Below.refl _ _).drew)
  have hBN : B ≤ N := by omega
  clear hN
  go_region_held3 (fun w' => Below N w4 w') (assumption)
    (first
      | (refine step_app2g rfl _ _ rfl N _ _ rfl ho5 _ _ rfl (KA _ hq5) hlen2 (HSZ _ hq5) ?_; intro v6 w6 ho6 hg6; have hq6 : Below N w4 w6 := hq5.trans (hg6.below (HSZ _ hq5) ho5))
      | (refine step_app2g rfl _ _ rfl N _ _ rfl HO0 _ _ rfl (SA _ hrA) hlen1 (HSZ _ hrA) ?_; intro v5 w5 ho5 hg5; have hq5 : Below N w4 w5 := hrA.trans (hg5.below (HSZ _ hrA) HO0)))
  clear HO0 SA KA hq5 ho5 hg5 hrA hrA0 hr0 ra4 rb4 rs
  go_wp2_with (at_builtin; refine app2 rfl _ _ rfl N _ _ rfl ho6 _ _ rfl (KB _ hq6) hlen3 (HSZ _ hq6) ?_; intro v7 w7 ho7 hg7)
  have hq7 : Below N w4 w7 := hq6.trans (hg7.below (HSZ _ hq6) ho6)
  refine (htg v7 w7 ho7.bs).mono ?_
  rintro e w8 ⟨rfl, hb8⟩
  have hq8 : Below N w4 w8 := hq7.trans (hb8.mono (HSZ _ hq7))
  have rd8 := (hq8.block (B + 2) zd).trans rd4
  have hz : (zrow 32).size = (dCells X).size := by rw [HS.out]; rfl
  go_wp2_with (refine wpList_store_row rfl 23 _ _ rfl (B + 2) _ rfl rfl 23 _ rd8 HI.out hz HO.out ?_)
  refine bodyPost_ret (results_cell_row rfl _ _ (B + 2) 23 _ (0, 0) _ rfl (setRow_heap _ _ _ _ _ _ rd8) Tryd.underlying23 rfl HI.out) rfl ⟨rfl, ?_⟩
  exact (hb4.trans (hq8.mono hBN)).trans ⟨rfl, rfl, rfl, by simp, fun i hi => by rw [setRow_other _ _ _ _ (by omega)]⟩
end Chart
