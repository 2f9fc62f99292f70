/- The law on purposes. -/
import Derived.Test.YtphgokaeonkjaaaDoorSane22
import Derived.Test.YtphgokaeonkjaaaDoorSched
import Derived.Test.YtphgokaeonkjaaaDoorLaws7d
import Derived.Test.YtphgokaeonkjaaaDoorTakeB
namespace Chart
open Go Go.RowKit Go.Proofs
set_option linter.unusedSimpArgs false
attribute [local go_sem] valAt valUpon spAt spUpon

set_option maxHeartbeats 4000000 in
set_option maxRecDepth 100000 in
theorem purposesLaw_any (k : List (BitVec 8)) (m n : Int) (d : List (BitVec 8)) (w : World) (h1 : k.length = 32) (h2 : d.length = 32) (hm1 : -9223372036854775808 ≤ m) (hm2 : m ≤ 9223372036854775807) (hn1 : -9223372036854775808 ≤ n) (hn2 : n ≤ 9223372036854775807) (he : ShaEnv w) (hl : LabEnv w) :
    Calls Tryd.prog 15 #[.agg (dCells k), .int .i64 m, .int .i64 n, .agg (dCells d)] w fun e w' => e = .returned (.bool true) ∧ Below w.heap.size w w' := by
  have HIi := Lib.hid (info_key' _ h1); have HIr := Lib.hid (info_digest' _ h2)
  obtain ⟨B, hB⟩ : ∃ B, w.heap.size = B := ⟨_, rfl⟩
  rw [hB]
  have hle : B ≤ w.heap.size := Nat.le_of_eq hB.symm
  obtain ⟨wa, hwa⟩ : ∃ wa, wa = w.alloc (.cells (dCells k) 23) := ⟨_, rfl⟩
  obtain ⟨w1, hw1⟩ : ∃ w1, w1 = wa.alloc (.cells (dCells d) 38) := ⟨_, rfl⟩
  have s1 : wa.heap.size = B + 1 := by rw [hwa, World.size_alloc, hB]
  have b1 : Below w.heap.size w wa := hwa ▸ below_al w _
  have b2 : Below wa.heap.size wa w1 := hw1 ▸ below_al wa _
  have ra0 : wa.heap[B]? = some (.cells (dCells k) 23 (0, 0)) := by rw [hwa, ← hB]; exact heap_alloc_new w _
  have rb : w1.heap[B + 1]? = some (.cells (dCells d) 38 (0, 0)) := by rw [hw1, ← s1]; exact heap_alloc_new wa _
  have ra := row_below ra0 b2
  have hb12 : Below w.heap.size w w1 := below_tr b1 b2
  have hsn := sane22_any w1 (he.below hb12) (hl.below hb12)
  clear ra0 b1 b2 s1
  go_enter Tryd.func15, Tryd.ntmps15
  go_upto_region 1 with (fail)
  rw [show (w.alloc (.cells (dCells k) 23)).alloc (.cells (dCells d) 38) = w1 by rw [hw1, hwa]]
  clear hw1 hwa
  go_upto_region 3 with (go_at_call 29; refine hsn.mono ?_; rintro e w2 ⟨rfl, hb2⟩)
  have rA := row_below ra hb2
  have rB := row_below rb hb2
  have hB2 := below_tr hb12 hb2
  have he2 := he.below hB2
  have hl2 := hl.below hB2
  rw [hB] at hB2
  clear hsn ra rb hb2 hb12 he hl
  obtain ⟨x1, hx1⟩ : ∃ x, dscal k bNodeS = x := ⟨_, rfl⟩
  obtain ⟨x2, hx2⟩ : ∃ x, dscal k bLink = x := ⟨_, rfl⟩
  have r1 := dscal_range k bNodeS
  have r2 := dscal_range k bLink
  rw [hx1] at r1; rw [hx2] at r2
  have cp := fun w' (h : ShaEnv w') => hx1 ▸ sprivate_any k w' h1 h
  have cl := fun w' (h : ShaEnv w') => hx2 ▸ slink_any k w' h1 h
  have cb1 := fun w' => base_any x1 w' r1.2
  have cb2 := fun w' => base_any x2 w' r2.2
  have n1 : 4 ^ x1 % 4611686018427377339 ≠ 1 := four_ne x1 r1.1 r1.2
  have n2 : 4 ^ x2 % 4611686018427377339 ≠ 1 := four_ne x2 r2.1 r2.2
  obtain ⟨y1, hy1⟩ : ∃ y : Nat, 4 ^ x1 % 4611686018427377339 = y := ⟨_, rfl⟩
  obtain ⟨y2, hy2⟩ : ∃ y : Nat, 4 ^ x2 % 4611686018427377339 = y := ⟨_, rfl⟩
  rw [hy1] at cb1 n1; rw [hy2] at cb2 n2
  obtain ⟨Y1, hY1⟩ : ∃ Y : Int, (y1 : Int) = Y := ⟨_, rfl⟩
  obtain ⟨Y2, hY2⟩ : ∃ Y : Int, (y2 : Int) = Y := ⟨_, rfl⟩
  obtain ⟨Z1, hZ1⟩ : ∃ Z : Int, (x1 : Int) = Z := ⟨_, rfl⟩
  obtain ⟨Z2, hZ2⟩ : ∃ Z : Int, (x2 : Int) = Z := ⟨_, rfl⟩
  have e1 : ¬ (Y1 = 1) := by omega
  have e2 : ¬ (Y2 = 1) := by omega
  have e3 : (Y1 == 1) = false := by simp [e1]
  have e4 : (Y2 == 1) = false := by simp [e2]
  have E1 := Lib.hid hx1; have E2 := Lib.hid hx2
  simp only [hY1, hY2, hZ1, hZ2] at cb1 cb2 cp cl
  have F1 := Lib.hid hZ1; have F2 := Lib.hid hZ2
  clear hy1 hy2 hY1 hY2 n1 n2 r1 r2 hx1 hx2 hZ1 hZ2
  have cp2 := cp w2 he2
  go_upto_region 4 with (first
    | (refine wpList_load_row rfl 23 _ rfl B rfl 23 _ (0, 0) _ rA Tryd.underlying23 rfl HIi.out ?_)
    | (go_at_call 35; refine cp2.mono ?_; rintro e w3 ⟨rfl, hb3⟩; have cb3 := cb1 w3)
    | (go_at_call 49; refine cb3.mono ?_; rintro e w4 ⟨rfl, hb4⟩))
  have hb24 := below_tr hb3 hb4
  have rA4 := row_below rA hb24
  have cl4 := cl w4 (he2.below hb24)
  clear cb3 cb1 cp2
  go_upto_region 7 with (first
    | (refine wpList_load_row rfl 23 _ rfl B rfl 23 _ (0, 0) _ rA4 Tryd.underlying23 rfl HIi.out ?_)
    | (go_at_call 43; refine cl4.mono ?_; rintro e w5 ⟨rfl, hb5⟩; have cb5 := cb2 w5)
    | (go_at_call 49; refine cb5.mono ?_; rintro e w6 ⟨rfl, hb6⟩))
  have hb26 := below_tr hb24 (below_tr hb5 hb6)
  have rA6 := row_below rA hb26
  have rB6 := row_below rB hb26
  have he6 := he2.below hb26
  have hl6 := hl2.below hb26
  have hB6 := below_trB hle hB2 hb26
  clear rA rB he2 hl2 hB2 hb3 hb4 hb5 hb6 hb24 hb26 rA4 cl4 cb5 cb2 e1 e2 e3 e4
  obtain ⟨N, hN⟩ : ∃ N, w6.heap.size = N := ⟨_, rfl⟩
  have hNle : N ≤ w6.heap.size := Nat.le_of_eq hN.symm
  have zA := row_lt rA6; have zB := row_lt rB6
  rw [hN] at zA zB
  have hOB : ∀ p : Own N w6, Below w6.heap.size w6 p.w' := fun p => hN.symm ▸ p.below
  obtain ⟨T, hT⟩ : ∃ T, expd k bItem [m, n] = T := ⟨_, rfl⟩
  obtain ⟨X, hX⟩ : ∃ X, expd k bInit [] = X := ⟨_, rfl⟩
  obtain ⟨Y, hY⟩ : ∃ Y, expd k bChild [] = Y := ⟨_, rfl⟩
  obtain ⟨M, hM⟩ : ∃ M, confirmd k d = M := ⟨_, rfl⟩
  have hTl : T.length = 32 := by rw [← hT]; exact length_expd _ _ _
  have hXl : X.length = 32 := by rw [← hX]; exact length_expd _ _ _
  have hYl : Y.length = 32 := by rw [← hY]; exact length_expd _ _ _
  have hMl : M.length = 32 := by rw [← hM]; exact length_tagd _ _
  have hMc : tagd bConfirm (k ++ d) = M := hM
  have c1 : ∀ p : Own N w6, Calls Tryd.prog 35 #[.agg (dCells k)] p.w' fun e w'' => e = .returned (.int .i64 Z1) ∧ Below p.w'.heap.size p.w' w'' := fun p => cp p.w' (he6.below (hOB p))
  have c2 : ∀ p : Own N w6, Calls Tryd.prog 19 #[.agg (dCells k), .string bNodeS] p.w' fun e w'' => e = .returned (.int .i64 Z1) ∧ Below p.w'.heap.size p.w' w'' := fun p => by have := dscalar_any k bNodeS p.w' h1 (by decide) (he6.below (hOB p)); rw [E1.out, F1.out] at this; exact this
  have c3 : ∀ p : Own N w6, Calls Tryd.prog 43 #[.agg (dCells k)] p.w' fun e w'' => e = .returned (.int .i64 Z2) ∧ Below p.w'.heap.size p.w' w'' := fun p => cl p.w' (he6.below (hOB p))
  have c4 : ∀ p : Own N w6, Calls Tryd.prog 19 #[.agg (dCells k), .string bLink] p.w' fun e w'' => e = .returned (.int .i64 Z2) ∧ Below p.w'.heap.size p.w' w'' := fun p => by have := dscalar_any k bLink p.w' h1 (by decide) (he6.below (hOB p)); rw [E2.out, F2.out] at this; exact this
  have c5 : ∀ p : Own N w6, Calls Tryd.prog 39 #[.agg (dCells k)] p.w' fun e w'' => e = .returned (.agg (dCells X)) ∧ Below p.w'.heap.size p.w' w'' := fun p => hX ▸ sinit_any k p.w' h1 (he6.below (hOB p)) (hl6.below (hOB p))
  have c6 : ∀ p : Own N w6, Calls Tryd.prog 23 #[.agg (dCells k), .string bInit, .slice none 0 0] p.w' fun e w'' => e = .returned (.agg (dCells X)) ∧ Below p.w'.heap.size p.w' w'' := fun p => hX ▸ expand_any k bInit (.slice none 0 0) [] p.w' h1 (.inl ⟨rfl, rfl⟩) (by simp) (by decide) (by simp) (he6.below (hOB p))
  have c7 : ∀ p : Own N w6, Calls Tryd.prog 45 #[.agg (dCells k)] p.w' fun e w'' => e = .returned (.agg (dCells Y)) ∧ Below p.w'.heap.size p.w' w'' := fun p => hY ▸ schild_any k p.w' h1 (he6.below (hOB p)) (hl6.below (hOB p))
  have c8 : ∀ p : Own N w6, Calls Tryd.prog 23 #[.agg (dCells k), .string bChild, .slice none 0 0] p.w' fun e w'' => e = .returned (.agg (dCells Y)) ∧ Below p.w'.heap.size p.w' w'' := fun p => hY ▸ expand_any k bChild (.slice none 0 0) [] p.w' h1 (.inl ⟨rfl, rfl⟩) (by simp) (by decide) (by simp) (he6.below (hOB p))
  have eT : ∀ w, (Op.equalIn 10000 23 (.agg (dCells T)) (.agg (dCells T))).run Tryd.prog w = .ok true w := fun w => (eqIn_key T T hTl hTl w).trans (by simp)
  have eX : ∀ w, (Op.equalIn 10000 23 (.agg (dCells X)) (.agg (dCells X))).run Tryd.prog w = .ok true w := fun w => (eqIn_key X X hXl hXl w).trans (by simp)
  have eY : ∀ w, (Op.equalIn 10000 23 (.agg (dCells Y)) (.agg (dCells Y))).run Tryd.prog w = .ok true w := fun w => (eqIn_key Y Y hYl hYl w).trans (by simp)
  have eM : ∀ w, (Op.equalIn 10000 38 (.agg (dCells M)) (.agg (dCells M))).run Tryd.prog w = .ok true w := fun w => (eqIn_digest M M hMl hMl w).trans (by simp)
  have hG := eqG_key
  have hG2 := eqG_digest
  have HA := Lib.hid (show ∀ w', (∃ p : Own N w6, w' = p.w') → w'.heap[B]? = some (.cells (dCells k) 23 (0, 0)) from fun w' ⟨p, hp⟩ => hp ▸ (p.below.block (B) zA).trans rA6)
  have cp' := Lib.hid cp; have cl' := Lib.hid cl
  clear cp cl hX hY
  refine wp_region_sp (C := fun w' => ∃ p : Own N w6, w' = p.w') (Φ := Tab [(1, spV (.int .i64 Z1)), (3, spV (.int .i64 Z1)), (7, spV (.int .i64 Z2)), (9, spV (.int .i64 Z2)), (14, spV (.agg (dCells X))), (16, spV (.agg (dCells X))), (21, spV (.agg (dCells Y))), (23, spV (.agg (dCells Y)))])
    (by kernel_rfl) (by kernel_rfl) (Tab.stable _) ⟨.of (Below.refl N w6).drew, rfl⟩ ?_
  refine sp_load_row rfl rfl 23 _ rfl B rfl 23 _ (0, 0) _ HA.out Tryd.underlying23 rfl HIi.out ?_
  intro K hK; simp only [Act.put, List.setIfInBounds_toArray, List.set_cons_zero, List.set_cons_succ]; refine hK _ ?_; clear hK K
  refine sp_spec rfl rfl (by rintro _ ⟨p, rfl⟩ hd; go_simp; exact own_spV hNle (c1 p)) ?_
  rintro v ⟨_, -, rfl⟩ K hK; simp only [Act.put, List.setIfInBounds_toArray, List.set_cons_zero, List.set_cons_succ]; refine hK _ ?_; clear hK K
  refine sp_load_row rfl rfl 23 _ rfl B rfl 23 _ (0, 0) _ HA.out Tryd.underlying23 rfl HIi.out ?_
  intro K hK; simp only [Act.put, List.setIfInBounds_toArray, List.set_cons_zero, List.set_cons_succ]; refine hK _ ?_; clear hK K
  refine sp_spec rfl rfl (by rintro _ ⟨p, rfl⟩ hd; go_simp; exact own_spV hNle (c2 p)) ?_
  rintro v ⟨_, -, rfl⟩ K hK; simp only [Act.put, List.setIfInBounds_toArray, List.set_cons_zero, List.set_cons_succ]; refine hK _ ?_; clear hK K
  iterate 2 (refine sp_plain rfl (fun K hK => ?_); go_simp; refine hK _ ?_; clear hK K)
  refine sp_load_row rfl rfl 23 _ rfl B rfl 23 _ (0, 0) _ HA.out Tryd.underlying23 rfl HIi.out ?_
  intro K hK; simp only [Act.put, List.setIfInBounds_toArray, List.set_cons_zero, List.set_cons_succ]; refine hK _ ?_; clear hK K
  refine sp_spec rfl rfl (by rintro _ ⟨p, rfl⟩ hd; go_simp; exact own_spV hNle (c3 p)) ?_
  rintro v ⟨_, -, rfl⟩ K hK; simp only [Act.put, List.setIfInBounds_toArray, List.set_cons_zero, List.set_cons_succ]; refine hK _ ?_; clear hK K
  refine sp_load_row rfl rfl 23 _ rfl B rfl 23 _ (0, 0) _ HA.out Tryd.underlying23 rfl HIi.out ?_
  intro K hK; simp only [Act.put, List.setIfInBounds_toArray, List.set_cons_zero, List.set_cons_succ]; refine hK _ ?_; clear hK K
  refine sp_spec rfl rfl (by rintro _ ⟨p, rfl⟩ hd; go_simp; exact own_spV hNle (c4 p)) ?_
  rintro v ⟨_, -, rfl⟩ K hK; simp only [Act.put, List.setIfInBounds_toArray, List.set_cons_zero, List.set_cons_succ]; refine hK _ ?_; clear hK K
  iterate 3 (refine sp_plain rfl (fun K hK => ?_); go_simp; refine hK _ ?_; clear hK K)
  refine sp_load_row rfl rfl 23 _ rfl B rfl 23 _ (0, 0) _ HA.out Tryd.underlying23 rfl HIi.out ?_
  intro K hK; simp only [Act.put, List.setIfInBounds_toArray, List.set_cons_zero, List.set_cons_succ]; refine hK _ ?_; clear hK K
  refine sp_spec rfl rfl (by rintro _ ⟨p, rfl⟩ hd; go_simp; exact own_spV hNle (c5 p)) ?_
  rintro v ⟨_, -, rfl⟩ K hK; simp only [Act.put, List.setIfInBounds_toArray, List.set_cons_zero, List.set_cons_succ]; refine hK _ ?_; clear hK K
  refine sp_load_row rfl rfl 23 _ rfl B rfl 23 _ (0, 0) _ HA.out Tryd.underlying23 rfl HIi.out ?_
  intro K hK; simp only [Act.put, List.setIfInBounds_toArray, List.set_cons_zero, List.set_cons_succ]; refine hK _ ?_; clear hK K
  refine sp_spec rfl rfl (by rintro _ ⟨p, rfl⟩ hd; go_simp; exact own_spV hNle (c6 p)) ?_
  rintro v ⟨_, -, rfl⟩ K hK; simp only [Act.put, List.setIfInBounds_toArray, List.set_cons_zero, List.set_cons_succ]; refine hK _ ?_; clear hK K
  iterate 3 (refine sp_plain rfl (fun K hK => ?_); go_simp; refine hK _ ?_; clear hK K)
  refine sp_load_row rfl rfl 23 _ rfl B rfl 23 _ (0, 0) _ HA.out Tryd.underlying23 rfl HIi.out ?_
  intro K hK; simp only [Act.put, List.setIfInBounds_toArray, List.set_cons_zero, List.set_cons_succ]; refine hK _ ?_; clear hK K
  refine sp_spec rfl rfl (by rintro _ ⟨p, rfl⟩ hd; go_simp; exact own_spV hNle (c7 p)) ?_
  rintro v ⟨_, -, rfl⟩ K hK; simp only [Act.put, List.setIfInBounds_toArray, List.set_cons_zero, List.set_cons_succ]; refine hK _ ?_; clear hK K
  refine sp_load_row rfl rfl 23 _ rfl B rfl 23 _ (0, 0) _ HA.out Tryd.underlying23 rfl HIi.out ?_
  intro K hK; simp only [Act.put, List.setIfInBounds_toArray, List.set_cons_zero, List.set_cons_succ]; refine hK _ ?_; clear hK K
  refine sp_spec rfl rfl (by rintro _ ⟨p, rfl⟩ hd; go_simp; exact own_spV hNle (c8 p)) ?_
  rintro v ⟨_, -, rfl⟩ K hK; simp only [Act.put, List.setIfInBounds_toArray, List.set_cons_zero, List.set_cons_succ]; refine hK _ ?_; clear hK K
  iterate 2 (refine sp_plain rfl (fun K hK => ?_); go_simp; refine hK _ ?_; clear hK K)
  refine sp_nil ?_
  rintro _ ⟨p, rfl⟩ hd
  have rA7 := (p.below.block B zA).trans rA6
  have rB7 := (p.below.block (B + 1) zB).trans rB6
  have he7 := he6.below (hOB p)
  have hB7 := hB6.trans (p.below.mono (Nat.le_of_lt zA))
  clear c1 c2 c3 c4 c5 c6 c7 c8 hd HA he6 hl6 rA6 rB6 hB6 eX eY hXl hYl cp' cl' E1 E2 F1 F2 zA zB
  generalize p.w' = w7 at *
  clear hOB hNle hN p
  go_upto_region 9 with (fail)
  clear N
  obtain ⟨N, hN⟩ : ∃ N, w7.heap.size = N := ⟨_, rfl⟩
  have hNle : N ≤ w7.heap.size := Nat.le_of_eq hN.symm
  have zA := row_lt rA7; have zB := row_lt rB7
  rw [hN] at zA zB
  have hOB : ∀ p : Own N w7, Below w7.heap.size w7 p.w' := fun p => hN.symm ▸ p.below
  have hsz : ∀ p : Own N w7, N ≤ p.w'.heap.size := fun p => Nat.le_trans hNle p.below.size
  have c1 : ∀ p : Own N w7, Calls Tryd.prog 41 #[.agg (dCells k), .int .i64 m, .int .i64 n] p.w' fun e w'' => e = .returned (.agg (dCells T)) ∧ Below p.w'.heap.size p.w' w'' := fun p => hT ▸ scontent_any k m n p.w' h1 ⟨hm1, hm2⟩ ⟨hn1, hn2⟩ (he7.below (hOB p))
  have c2 : ∀ p : Own N w7, Calls Tryd.prog 47 #[.agg (dCells k), .agg (dCells d)] p.w' fun e w'' => e = .returned (.agg (dCells M)) ∧ Below p.w'.heap.size p.w' w'' := fun p => hM ▸ sconfirm_any k d p.w' h1 h2 (he7.below (hOB p))
  have c3 : ∀ (p : Own N w7) v, IS p.w' v [m, n] → Calls Tryd.prog 23 #[.agg (dCells k), .string bItem, v] p.w' fun e w'' => e = .returned (.agg (dCells T)) ∧ Below p.w'.heap.size p.w' w'' := fun p v hv => hT ▸ expand_any k bItem v [m, n] p.w' h1 hv (ok_two ⟨hm1, hm2⟩ ⟨hn1, hn2⟩) (by decide) (by simp) (he7.below (hOB p))
  have c4 : ∀ (p : Own N w7) v, BS p.w' v ([] ++ k ++ d) → Calls Tryd.prog 28 #[.string bConfirm, v] p.w' fun e w'' => e = .returned (.agg (dCells M)) ∧ Below p.w'.heap.size p.w' w'' := fun p v hv => hMc ▸ tagged_any bConfirm v (k ++ d) p.w' (by decide) (by simpa using hv) (by rw [List.length_append, h1, h2]; decide) (he7.below (hOB p))
  have HA := Lib.hid (show ∀ w', (∃ p : Own N w7, w' = p.w') → w'.heap[B]? = some (.cells (dCells k) 23 (0, 0)) from fun w' ⟨p, hp⟩ => hp ▸ (p.below.block (B) zA).trans rA7)
  have HB := Lib.hid (show ∀ w', (∃ p : Own N w7, w' = p.w') → w'.heap[B + 1]? = some (.cells (dCells d) 38 (0, 0)) from fun w' ⟨p, hp⟩ => hp ▸ (p.below.block (B + 1) zB).trans rB7)
  have hIS : ∀ p : Own N w7, IS (p.w'.alloc (.cells #[.int .i64 m, .int .i64 n] 3)) (.slice (some ⟨p.w'.heap.size, 0, none⟩) 2 2) [m, n] := fun p => by
    have hrow := heap_alloc_new p.w' (.cells #[.int .i64 m, .int .i64 n] 3)
    exact .inr ⟨p.w'.heap.size, 0, 2, rfl, row_lt hrow, fun j z hz => by
      match j, hz with
      | 0, hz => cases hz; exact cell_of_row _ _ 0 _ _ _ hrow
      | 1, hz => cases hz; exact cell_of_row _ _ 1 _ _ _ hrow⟩
  have hIS := Lib.hid hIS
  have hBk : ∀ p : Own N w7, BS p.w' (.slice (some ⟨B, 0, none⟩) 32 32) k := fun p => BS.of_digest ((p.below.block B zA).trans rA7) h1
  have hBd : ∀ p : Own N w7, BS p.w' (.slice (some ⟨B + 1, 0, none⟩) 32 32) d := fun p => BS.of_digest ((p.below.block (B + 1) zB).trans rB7) h2
  have hBk := Lib.hid hBk; have hBd := Lib.hid hBd
  have l1 : ([] : List (BitVec 8)).length + k.length ≤ 140737488355328 := by rw [h1]; decide
  have l2 : ([] ++ k).length + d.length ≤ 140737488355328 := by rw [List.nil_append, h1, h2]; decide
  have hfin : ∀ p : Own N w7, Below B w p.w' := fun p => hB7.trans (p.below.mono (Nat.le_of_lt zA))
  clear hM hT hMc hTl hMl hOB he7 rA7 rB7 hm1 hm2 hn1 hn2 zA zB hB7
  refine wp_region_M (C := fun w' => ∃ p : Own N w7, w' = p.w') (by kernel_rfl) ⟨.of (Below.refl N w7).drew, rfl⟩ ?_
  refine m_load_row 0 rfl (by kernel_rfl) (by kernel_rfl) (by kernel_rfl) rfl 23 _ rfl B rfl 23 _ (0, 0) _ HA.out Tryd.underlying23 rfl HIi.out ?_
  intro K hK; simp only [Act.put, List.setIfInBounds_toArray, List.set_cons_zero, List.set_cons_succ]; refine hK _ ?_; clear hK K
  refine m_plain 1 rfl (by kernel_rfl) (by kernel_rfl) (by kernel_rfl) (fun K hK => ?_); go_simp; refine hK _ ?_; clear hK K
  refine m_plain 2 rfl (by kernel_rfl) (by kernel_rfl) (by kernel_rfl) (fun K hK => ?_); go_simp; refine hK _ ?_; clear hK K
  refine m_take 3 (.agg (dCells T)) rfl (by kernel_rfl) (by kernel_rfl) (by kernel_rfl) rfl (by rintro _ ⟨p, rfl⟩; go_simp; exact own_mV hNle (c1 p)) ?_
  intro K hK; simp only [Act.put, List.setIfInBounds_toArray, List.set_cons_zero, List.set_cons_succ]; refine hK _ ?_; clear hK K
  refine m_load_row 4 rfl (by kernel_rfl) (by kernel_rfl) (by kernel_rfl) rfl 23 _ rfl B rfl 23 _ (0, 0) _ HA.out Tryd.underlying23 rfl HIi.out ?_
  intro K hK; simp only [Act.put, List.setIfInBounds_toArray, List.set_cons_zero, List.set_cons_succ]; refine hK _ ?_; clear hK K
  refine m_plain 5 rfl (by kernel_rfl) (by kernel_rfl) (by kernel_rfl) (fun K hK => ?_); go_simp; refine hK _ ?_; clear hK K
  refine m_plain 6 rfl (by kernel_rfl) (by kernel_rfl) (by kernel_rfl) (fun K hK => ?_); go_simp; refine hK _ ?_; clear hK K
  refine m_step 7 rfl (by kernel_rfl) rfl ?_
  rintro _ - ⟨p, rfl⟩ K hK
  go_simp
  refine hK _ _ ⟨.of (p.below.alloc (hsz p) _), rfl⟩ ?_
  clear hK K
  have hi2 := hIS.out p
  refine m_step 8 rfl (by kernel_rfl) rfl ?_
  rintro _ hb ⟨p2, rfl⟩ K hK
  have hc := c3 p2 _ (hi2.below hb)
  go_simp
  refine hc.mono ?_
  rintro e w8 ⟨rfl, hb8⟩
  refine ⟨_, rfl, ?_⟩
  try simp only [Act.put, List.setIfInBounds_toArray, List.set_cons_zero, List.set_cons_succ]
  refine hK _ _ ⟨.of (p2.below.trans (hb8.mono (hsz p2))), rfl⟩ ?_
  clear hK K hc hb hi2
  refine m_plain 9 rfl (by kernel_rfl) (by kernel_rfl) (by kernel_rfl) (fun K hK => ?_); go_simp; refine hK _ ?_; clear hK K
  refine m_plain 10 rfl (by kernel_rfl) (by kernel_rfl) (by kernel_rfl) (fun K hK => ?_); go_simp; refine hK _ ?_; clear hK K
  refine m_load_row 11 rfl (by kernel_rfl) (by kernel_rfl) (by kernel_rfl) rfl 23 _ rfl B rfl 23 _ (0, 0) _ HA.out Tryd.underlying23 rfl HIi.out ?_
  intro K hK; simp only [Act.put, List.setIfInBounds_toArray, List.set_cons_zero, List.set_cons_succ]; refine hK _ ?_; clear hK K
  refine m_load_row 12 rfl (by kernel_rfl) (by kernel_rfl) (by kernel_rfl) rfl 38 _ rfl (B + 1) rfl 38 _ (0, 0) _ HB.out Tryd.underlying38 rfl HIr.out ?_
  intro K hK; simp only [Act.put, List.setIfInBounds_toArray, List.set_cons_zero, List.set_cons_succ]; refine hK _ ?_; clear hK K
  refine m_take 13 (.agg (dCells M)) rfl (by kernel_rfl) (by kernel_rfl) (by kernel_rfl) rfl (by rintro _ ⟨p, rfl⟩; go_simp; exact own_mV hNle (c2 p)) ?_
  intro K hK; simp only [Act.put, List.setIfInBounds_toArray, List.set_cons_zero, List.set_cons_succ]; refine hK _ ?_; clear hK K
  refine m_plain 15 rfl (by kernel_rfl) (by kernel_rfl) (by kernel_rfl) (fun K hK => ?_); go_simp; refine hK _ ?_; clear hK K
  refine m_plain 17 rfl (by kernel_rfl) (by kernel_rfl) (by kernel_rfl) (fun K hK => ?_); go_simp; refine hK _ ?_; clear hK K
  refine m_step 14 rfl (by kernel_rfl) rfl ?_
  rintro _ - ⟨p3, rfl⟩ K hK
  go_simp
  refine hK _ _ ⟨.of (p3.below.alloc (hsz p3) _), rfl⟩ ?_
  clear hK K
  have ho3 := OB.empty p3.w' N p3.w'.heap.size rfl (hsz p3)
  refine m_step 16 rfl (by kernel_rfl) rfl ?_
  rintro _ hb ⟨p4, rfl⟩ K hK
  have ho4 := ho3.below hb
  refine sp_app _ _ rfl N _ _ rfl ho4 _ _ rfl (hBk.out p4) l1 (hsz p4) ?_
  intro v5 w5 ho5 hg5
  try simp only [Act.put, List.setIfInBounds_toArray, List.set_cons_zero, List.set_cons_succ]
  refine hK _ _ ⟨.of (p4.below.trans (hg5.below (hsz p4) ho4)), rfl⟩ ?_
  clear hK K hb ho3 ho4
  refine m_step 18 rfl (by kernel_rfl) rfl ?_
  rintro _ hb ⟨p6, rfl⟩ K hK
  have ho6 := ho5.below hb
  refine sp_app _ _ rfl N _ _ rfl ho6 _ _ rfl (hBd.out p6) l2 (hsz p6) ?_
  intro v7 w7' ho7 hg7
  try simp only [Act.put, List.setIfInBounds_toArray, List.set_cons_zero, List.set_cons_succ]
  refine hK _ _ ⟨.of (p6.below.trans (hg7.below (hsz p6) ho6)), rfl⟩ ?_
  clear hK K hb ho5 ho6
  refine m_step 19 rfl (by kernel_rfl) rfl ?_
  rintro _ hb ⟨p8, rfl⟩ K hK
  have hc := c4 p8 _ (ho7.below hb).bs
  go_simp
  refine hc.mono ?_
  rintro e w9 ⟨rfl, hb9⟩
  refine ⟨_, rfl, ?_⟩
  try simp only [Act.put, List.setIfInBounds_toArray, List.set_cons_zero, List.set_cons_succ]
  refine hK _ _ ⟨.of (p8.below.trans (hb9.mono (hsz p8))), rfl⟩ ?_
  clear hK K hc hb ho7
  refine m_plain 20 rfl (by kernel_rfl) (by kernel_rfl) (by kernel_rfl) (fun K hK => ?_); go_simp; refine hK _ ?_; clear hK K
  refine m_plain 21 rfl (by kernel_rfl) (by kernel_rfl) (by kernel_rfl) (fun K hK => ?_); go_simp; refine hK _ ?_; clear hK K
  refine m_plain 22 rfl (by kernel_rfl) (by kernel_rfl) (by kernel_rfl) (fun K hK => ?_); go_simp; refine hK _ ?_; clear hK K
  refine m_done (by kernel_rfl) ?_
  rintro _ - ⟨p9, rfl⟩
  clear c1 c2 c3 c4 eT eM hG hG2
  go_wp2
  go_ret
  exact ⟨rfl, hfin p9⟩
end Chart
