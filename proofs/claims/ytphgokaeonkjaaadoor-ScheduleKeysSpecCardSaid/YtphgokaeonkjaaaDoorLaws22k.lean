/- The law on Content, Link, Child and Confirm. -/
import Derived.Test.YtphgokaeonkjaaaDoorSane22
import Derived.Test.YtphgokaeonkjaaaDoorSched
namespace Chart
open Go Go.RowKit Go.Proofs
attribute [local go_sem] valAt valUpon spAt spUpon

set_option maxHeartbeats 4000000 in
set_option maxRecDepth 100000 in
theorem skeysLaw_any (k : List (BitVec 8)) (m n : Int) (d : List (BitVec 8)) (w : World) (h1 : k.length = 32) (h2 : d.length = 32) (hm1 : -9223372036854775808 ≤ m) (hm2 : m ≤ 9223372036854775807) (hn1 : -9223372036854775808 ≤ n) (hn2 : n ≤ 9223372036854775807) (he : ShaEnv w) (hl : LabEnv w) :
    Calls Tryd.prog 12 #[.agg (dCells k), .int .i64 m, .int .i64 n, .agg (dCells d)] w fun e w' => e = .returned (.bool true) ∧ Below w.heap.size w w' := by
  have HIi := Lib.hid (info_key' _ h1); have HIr := Lib.hid (info_digest' _ h2)
  obtain ⟨B, hB⟩ : ∃ B, w.heap.size = B := ⟨_, rfl⟩
  rw [hB]
  have hle : B ≤ w.heap.size := Nat.le_of_eq hB.symm
  obtain ⟨wa, hwa⟩ : ∃ wa, wa = w.alloc (.cells (dCells k) 23) := ⟨_, rfl⟩
  obtain ⟨w1, hw1⟩ : ∃ w1, w1 = wa.alloc (.cells (dCells d) 38) := ⟨_, rfl⟩
  have s1 : wa.heap.size = B + 1 := by rw [hwa, World.size_alloc, hB]
  have b1 : Below w.heap.size w wa := hwa ▸ below_al w _
  have b2 : Below wa.heap.size wa w1 := hw1 ▸ below_al wa _
  have ra0 : wa.heap[B]? = some (.cells (dCells k) 23 (0, 0)) := by rw [hwa, ← hB]; exact heap_alloc_new w _
  have rb : w1.heap[B + 1]? = some (.cells (dCells d) 38 (0, 0)) := by rw [hw1, ← s1]; exact heap_alloc_new wa _
  have ra := row_below ra0 b2
  have hb12 : Below w.heap.size w w1 := below_tr b1 b2
  have hsn := sane22_any w1 (he.below hb12) (hl.below hb12)
  clear ra0 b1 b2 s1
  go_enter Tryd.func12, Tryd.ntmps12
  go_upto_region 1 with (fail)
  rw [show (w.alloc (.cells (dCells k) 23)).alloc (.cells (dCells d) 38) = w1 by rw [hw1, hwa]]
  clear hw1 hwa
  go_upto_region 3 with (go_at_call 29; refine hsn.mono ?_; rintro e w2 ⟨rfl, hb2⟩)
  have rA := row_below ra hb2
  have rB := row_below rb hb2
  have hB2 := below_tr hb12 hb2
  have he2 := he.below hB2
  have hl2 := hl.below hB2
  rw [hB] at hB2
  clear hsn ra rb hb2 hb12 he hl
  obtain ⟨N, hN⟩ : ∃ N, w2.heap.size = N := ⟨_, rfl⟩
  have hNle : N ≤ w2.heap.size := Nat.le_of_eq hN.symm
  have zA := row_lt rA; have zB := row_lt rB
  rw [hN] at zA zB
  have hOB : ∀ p : Own N w2, Below w2.heap.size w2 p.w' := fun p => hN.symm ▸ p.below
  obtain ⟨T, hT⟩ : ∃ T, expd k bItem [m, n] = T := ⟨_, rfl⟩
  obtain ⟨sc, hsc⟩ : ∃ sc : Int, ((dscal k bLink : Nat) : Int) = sc := ⟨_, rfl⟩
  obtain ⟨X, hX⟩ : ∃ X, expd k bChild [] = X := ⟨_, rfl⟩
  obtain ⟨M, hM⟩ : ∃ M, confirmd k d = M := ⟨_, rfl⟩
  have hTl : T.length = 32 := by rw [← hT]; exact length_expd _ _ _
  have hXl : X.length = 32 := by rw [← hX]; exact length_expd _ _ _
  have hMl : M.length = 32 := by rw [← hM]; exact length_tagd _ _
  have c1 : ∀ p : Own N w2, Calls Tryd.prog 41 #[.agg (dCells k), .int .i64 m, .int .i64 n] p.w' fun e w'' => e = .returned (.agg (dCells T)) ∧ Below p.w'.heap.size p.w' w'' := fun p => hT ▸ scontent_any k m n p.w' h1 ⟨hm1, hm2⟩ ⟨hn1, hn2⟩ (he2.below (hOB p))
  have c2 : ∀ p : Own N w2, Calls Tryd.prog 42 #[.agg (dCells k), .int .i64 m, .int .i64 n] p.w' fun e w'' => e = .returned (.agg (dCells T)) ∧ Below p.w'.heap.size p.w' w'' := fun p => hT ▸ refscontent_any k m n p.w' h1 ⟨hm1, hm2⟩ ⟨hn1, hn2⟩
  have c3 : ∀ p : Own N w2, Calls Tryd.prog 43 #[.agg (dCells k)] p.w' fun e w'' => e = .returned (.int .i64 sc) ∧ Below p.w'.heap.size p.w' w'' := fun p => hsc ▸ slink_any k p.w' h1 (he2.below (hOB p))
  have c4 : ∀ p : Own N w2, Calls Tryd.prog 44 #[.agg (dCells k)] p.w' fun e w'' => e = .returned (.int .i64 sc) ∧ Below p.w'.heap.size p.w' w'' := fun p => hsc ▸ refslink_any k p.w' h1
  have c5 : ∀ p : Own N w2, Calls Tryd.prog 45 #[.agg (dCells k)] p.w' fun e w'' => e = .returned (.agg (dCells X)) ∧ Below p.w'.heap.size p.w' w'' := fun p => hX ▸ schild_any k p.w' h1 (he2.below (hOB p)) (hl2.below (hOB p))
  have c6 : ∀ p : Own N w2, Calls Tryd.prog 46 #[.agg (dCells k)] p.w' fun e w'' => e = .returned (.agg (dCells X)) ∧ Below p.w'.heap.size p.w' w'' := fun p => hX ▸ refschild_any k p.w' h1
  have c7 : ∀ p : Own N w2, Calls Tryd.prog 47 #[.agg (dCells k), .agg (dCells d)] p.w' fun e w'' => e = .returned (.agg (dCells M)) ∧ Below p.w'.heap.size p.w' w'' := fun p => hM ▸ sconfirm_any k d p.w' h1 h2 (he2.below (hOB p))
  have c8 : ∀ p : Own N w2, Calls Tryd.prog 48 #[.agg (dCells k), .agg (dCells d)] p.w' fun e w'' => e = .returned (.agg (dCells M)) ∧ Below p.w'.heap.size p.w' w'' := fun p => hM ▸ refsconfirm_any k d p.w' h1 h2
  have eT : ∀ w, (Op.equalIn 10000 23 (.agg (dCells T)) (.agg (dCells T))).run Tryd.prog w = .ok true w := fun w => (eqIn_key T T hTl hTl w).trans (by simp)
  have eX : ∀ w, (Op.equalIn 10000 23 (.agg (dCells X)) (.agg (dCells X))).run Tryd.prog w = .ok true w := fun w => (eqIn_key X X hXl hXl w).trans (by simp)
  have eM : ∀ w, (Op.equalIn 10000 38 (.agg (dCells M)) (.agg (dCells M))).run Tryd.prog w = .ok true w := fun w => (eqIn_digest M M hMl hMl w).trans (by simp)
  have hG := eqG_key
  have hG2 := eqG_digest
  have HA := Lib.hid (show ∀ w', (∃ p : Own N w2, w' = p.w') → w'.heap[B]? = some (.cells (dCells k) 23 (0, 0)) from fun w' ⟨p, hp⟩ => hp ▸ (p.below.block (B) zA).trans rA)
  have HB := Lib.hid (show ∀ w', (∃ p : Own N w2, w' = p.w') → w'.heap[B + 1]? = some (.cells (dCells d) 38 (0, 0)) from fun w' ⟨p, hp⟩ => hp ▸ (p.below.block (B + 1) zB).trans rB)
  clear hX hM hT hsc hXl hMl hTl hOB he2 hl2 rA rB hm1 hm2 hn1 hn2
  refine wp_region_sp (C := fun w' => ∃ p : Own N w2, w' = p.w') (Φ := Tab [(3, spV (.agg (dCells T))), (7, spV (.agg (dCells T))), (11, spV (.int .i64 sc)), (13, spV (.int .i64 sc)), (18, spV (.agg (dCells X))), (20, spV (.agg (dCells X))), (26, spV (.agg (dCells M))), (29, spV (.agg (dCells M)))])
    (by kernel_rfl) (by kernel_rfl) (Tab.stable _) ⟨.of (Below.refl N w2).drew, rfl⟩ ?_
  refine sp_load_row rfl rfl 23 _ rfl B rfl 23 _ (0, 0) _ HA.out Tryd.underlying23 rfl HIi.out ?_
  intro K hK; simp only [Act.put, List.setIfInBounds_toArray, List.set_cons_zero, List.set_cons_succ]; refine hK _ ?_; clear hK K
  iterate 2 (refine sp_plain rfl (fun K hK => ?_); go_simp; refine hK _ ?_; clear hK K)
  refine sp_spec rfl rfl (by rintro _ ⟨p, rfl⟩ hd; go_simp; exact own_spV hNle (c1 p)) ?_
  rintro v ⟨_, -, rfl⟩ K hK; simp only [Act.put, List.setIfInBounds_toArray, List.set_cons_zero, List.set_cons_succ]; refine hK _ ?_; clear hK K
  refine sp_load_row rfl rfl 23 _ rfl B rfl 23 _ (0, 0) _ HA.out Tryd.underlying23 rfl HIi.out ?_
  intro K hK; simp only [Act.put, List.setIfInBounds_toArray, List.set_cons_zero, List.set_cons_succ]; refine hK _ ?_; clear hK K
  iterate 2 (refine sp_plain rfl (fun K hK => ?_); go_simp; refine hK _ ?_; clear hK K)
  refine sp_spec rfl rfl (by rintro _ ⟨p, rfl⟩ hd; go_simp; exact own_spV hNle (c2 p)) ?_
  rintro v ⟨_, -, rfl⟩ K hK; simp only [Act.put, List.setIfInBounds_toArray, List.set_cons_zero, List.set_cons_succ]; refine hK _ ?_; clear hK K
  iterate 2 (refine sp_plain rfl (fun K hK => ?_); go_simp; refine hK _ ?_; clear hK K)
  refine sp_load_row rfl rfl 23 _ rfl B rfl 23 _ (0, 0) _ HA.out Tryd.underlying23 rfl HIi.out ?_
  intro K hK; simp only [Act.put, List.setIfInBounds_toArray, List.set_cons_zero, List.set_cons_succ]; refine hK _ ?_; clear hK K
  refine sp_spec rfl rfl (by rintro _ ⟨p, rfl⟩ hd; go_simp; exact own_spV hNle (c3 p)) ?_
  rintro v ⟨_, -, rfl⟩ K hK; simp only [Act.put, List.setIfInBounds_toArray, List.set_cons_zero, List.set_cons_succ]; refine hK _ ?_; clear hK K
  refine sp_load_row rfl rfl 23 _ rfl B rfl 23 _ (0, 0) _ HA.out Tryd.underlying23 rfl HIi.out ?_
  intro K hK; simp only [Act.put, List.setIfInBounds_toArray, List.set_cons_zero, List.set_cons_succ]; refine hK _ ?_; clear hK K
  refine sp_spec rfl rfl (by rintro _ ⟨p, rfl⟩ hd; go_simp; exact own_spV hNle (c4 p)) ?_
  rintro v ⟨_, -, rfl⟩ K hK; simp only [Act.put, List.setIfInBounds_toArray, List.set_cons_zero, List.set_cons_succ]; refine hK _ ?_; clear hK K
  iterate 3 (refine sp_plain rfl (fun K hK => ?_); go_simp; refine hK _ ?_; clear hK K)
  refine sp_load_row rfl rfl 23 _ rfl B rfl 23 _ (0, 0) _ HA.out Tryd.underlying23 rfl HIi.out ?_
  intro K hK; simp only [Act.put, List.setIfInBounds_toArray, List.set_cons_zero, List.set_cons_succ]; refine hK _ ?_; clear hK K
  refine sp_spec rfl rfl (by rintro _ ⟨p, rfl⟩ hd; go_simp; exact own_spV hNle (c5 p)) ?_
  rintro v ⟨_, -, rfl⟩ K hK; simp only [Act.put, List.setIfInBounds_toArray, List.set_cons_zero, List.set_cons_succ]; refine hK _ ?_; clear hK K
  refine sp_load_row rfl rfl 23 _ rfl B rfl 23 _ (0, 0) _ HA.out Tryd.underlying23 rfl HIi.out ?_
  intro K hK; simp only [Act.put, List.setIfInBounds_toArray, List.set_cons_zero, List.set_cons_succ]; refine hK _ ?_; clear hK K
  refine sp_spec rfl rfl (by rintro _ ⟨p, rfl⟩ hd; go_simp; exact own_spV hNle (c6 p)) ?_
  rintro v ⟨_, -, rfl⟩ K hK; simp only [Act.put, List.setIfInBounds_toArray, List.set_cons_zero, List.set_cons_succ]; refine hK _ ?_; clear hK K
  iterate 3 (refine sp_plain rfl (fun K hK => ?_); go_simp; refine hK _ ?_; clear hK K)
  refine sp_load_row rfl rfl 23 _ rfl B rfl 23 _ (0, 0) _ HA.out Tryd.underlying23 rfl HIi.out ?_
  intro K hK; simp only [Act.put, List.setIfInBounds_toArray, List.set_cons_zero, List.set_cons_succ]; refine hK _ ?_; clear hK K
  refine sp_load_row rfl rfl 38 _ rfl (B + 1) rfl 38 _ (0, 0) _ HB.out Tryd.underlying38 rfl HIr.out ?_
  intro K hK; simp only [Act.put, List.setIfInBounds_toArray, List.set_cons_zero, List.set_cons_succ]; refine hK _ ?_; clear hK K
  refine sp_spec rfl rfl (by rintro _ ⟨p, rfl⟩ hd; go_simp; exact own_spV hNle (c7 p)) ?_
  rintro v ⟨_, -, rfl⟩ K hK; simp only [Act.put, List.setIfInBounds_toArray, List.set_cons_zero, List.set_cons_succ]; refine hK _ ?_; clear hK K
  refine sp_load_row rfl rfl 23 _ rfl B rfl 23 _ (0, 0) _ HA.out Tryd.underlying23 rfl HIi.out ?_
  intro K hK; simp only [Act.put, List.setIfInBounds_toArray, List.set_cons_zero, List.set_cons_succ]; refine hK _ ?_; clear hK K
  refine sp_load_row rfl rfl 38 _ rfl (B + 1) rfl 38 _ (0, 0) _ HB.out Tryd.underlying38 rfl HIr.out ?_
  intro K hK; simp only [Act.put, List.setIfInBounds_toArray, List.set_cons_zero, List.set_cons_succ]; refine hK _ ?_; clear hK K
  refine sp_spec rfl rfl (by rintro _ ⟨p, rfl⟩ hd; go_simp; exact own_spV hNle (c8 p)) ?_
  rintro v ⟨_, -, rfl⟩ K hK; simp only [Act.put, List.setIfInBounds_toArray, List.set_cons_zero, List.set_cons_succ]; refine hK _ ?_; clear hK K
  iterate 3 (refine sp_plain rfl (fun K hK => ?_); go_simp; refine hK _ ?_; clear hK K)
  refine sp_nil ?_
  rintro _ ⟨p, rfl⟩ hd
  clear c1 c2 c3 c4 c5 c6 c7 c8 eT eM eX hG hG2
  go_wp2
  go_ret
  exact ⟨rfl, hB2.trans (p.below.mono (Nat.le_of_lt zA))⟩
end Chart
