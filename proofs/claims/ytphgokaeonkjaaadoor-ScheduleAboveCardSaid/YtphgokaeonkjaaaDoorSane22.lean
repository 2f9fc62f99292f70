/- The examples of chapter 22: they hold. -/
import Derived.Test.YtphgokaeonkjaaaDoorSpecK
import Derived.Test.YtphgokaeonkjaaaDoorLadder
import Derived.Test.YtphgokaeonkjaaaDoorSched
namespace Chart
open Go Go.RowKit Go.Proofs
attribute [local go_sem] valAt valUpon spAt spUpon

def key5 : List (BitVec 8) := [5#8] ++ List.replicate 31 0#8

set_option maxHeartbeats 4000000 in
set_option maxRecDepth 100000 in
theorem sane22_any (w : World) (he : ShaEnv w) (hl : LabEnv w) :
    Calls Tryd.prog 29 #[] w fun e w' => e = .returned (.bool true) ∧ Below w.heap.size w w' := by
  have hk0 : key5.length = 32 := rfl
  obtain ⟨k0, hk⟩ : ∃ k0, k0 = key5 := ⟨_, rfl⟩
  rw [← hk] at hk0
  have HI0 := Lib.hid (info_key' _ hk0); have HS0 := Lib.hid (size_dCells _ hk0); have HO0 := Lib.hid (one_dCells k0)
  have HK := Lib.hid hk
  clear hk
  obtain ⟨B, hB⟩ : ∃ B, w.heap.size = B := ⟨_, rfl⟩
  rw [hB]
  have hle : B ≤ w.heap.size := Nat.le_of_eq hB.symm
  have hb1 : Below B w (w.alloc (.cells (dCells k0) 23)) := (Below.refl B w).alloc (by omega) _
  have hb1' : Below w.heap.size w (w.alloc (.cells (dCells k0) 23)) := by rw [hB]; exact hb1
  have rA : (w.alloc (.cells (dCells k0) 23)).heap[B]? = some (.cells (dCells k0) 23 (0, 0)) := by rw [← hB]; exact heap_alloc_new w _
  have he1 := he.below hb1'
  have hl1 := hl.below hb1'
  go_enter Tryd.func29, Tryd.ntmps29
  go_upto_region 2 with (first
    | (refine wpList_buildTo rfl 23 _ rfl (some 11) rfl (dCells k0) (by rw [HK.out]; kernel_rfl) ?_)
    | (refine st_new rfl 23 _ _ rfl (dCells k0) _ 23 (by show Value.pointer _ = Value.pointer _; rw [hB]) rfl HI0.out (by rw [HS0.out]; rfl) HO0.out ?_))
  clear hb1'
  generalize w.alloc (.cells (dCells k0) 23) = w1 at *
  have hc := ladder_any k0 w1 hk0 he1
  go_upto_region 3 with (first
    | (refine wpList_load_row rfl 23 _ rfl B rfl 23 _ (0, 0) _ rA Tryd.underlying23 rfl HI0.out ?_)
    | (go_at_call 33; refine hc.mono ?_; rintro e w2 ⟨vl, rfl, hol, hb2⟩))
  have rA2 := row_below rA hb2
  have he2 := he1.below hb2
  have hl2 := hl1.below hb2
  have hB2 := below_trB hle hb1 hb2
  have kl2 := hol.kr
  obtain ⟨al, cl, hvl⟩ := kl2.form
  rw [show (ladN k0 10).length = 10 by unfold ladN; simp] at hvl
  subst hvl
  clear rA he1 hl1 hb1 hc hol hb2
  have hc := sabove_any k0 0 w2 hk0 (by decide) he2
  go_upto_region 4 with (first
    | (refine wpList_load_row rfl 23 _ rfl B rfl 23 _ (0, 0) _ rA2 Tryd.underlying23 rfl HI0.out ?_)
    | (go_at_call 30; refine hc.mono ?_; rintro e w3 ⟨va, rfl, hoa, hb3⟩))
  have rA3 := row_below rA2 hb3
  have he3 := he2.below hb3
  have hl3 := hl2.below hb3
  have hB3 := below_trB hle hB2 hb3
  have kl3 := kl2.below hb3
  have ka3 := hoa.kr
  clear rA2 he2 hl2 hB2 hc hoa hb3 kl2
  have hc := sabove_any k0 9 w3 hk0 (by decide) he3
  go_upto_region 5 with (first
    | (refine wpList_load_row rfl 23 _ rfl B rfl 23 _ (0, 0) _ rA3 Tryd.underlying23 rfl HI0.out ?_)
    | (go_at_call 30; refine hc.mono ?_; rintro e w4 ⟨vb, rfl, hob, hb4⟩))
  have rA4 := row_below rA3 hb4
  have he4 := he3.below hb4
  have hl4 := hl3.below hb4
  have hB4 := below_trB hle hB3 hb4
  have kl4 := kl3.below hb4
  have ka4 := ka3.below hb4
  have kb4 := hob.kr
  clear rA3 he3 hl3 hB3 hc hob hb4 kl3 ka3
  have hc := sabove_err k0 10 w4 (.inr (by decide))
  go_upto_region 6 with (first
    | (refine wpList_load_row rfl 23 _ rfl B rfl 23 _ (0, 0) _ rA4 Tryd.underlying23 rfl HI0.out ?_)
    | (go_at_call 30; refine hc.mono ?_; rintro e w5 ⟨rfl, hb5⟩))
  have rA5 := row_below rA4 hb5
  clear hc
  have hc := sabove_err k0 (-1) w5 (.inl (by decide))
  go_upto_region 7 with (first
    | (refine wpList_load_row rfl 23 _ rfl B rfl 23 _ (0, 0) _ rA5 Tryd.underlying23 rfl HI0.out ?_)
    | (go_at_call 30; refine hc.mono ?_; rintro e w6 ⟨rfl, hb6⟩))
  have hb46 := below_tr hb5 hb6
  have rA6 := row_below rA5 hb6
  have he6 := he4.below hb46
  have hl6 := hl4.below hb46
  have hB6 := below_trB hle hB4 hb46
  have kl6 := kl4.below hb46
  have ka6 := ka4.below hb46
  have kb6 := kb4.below hb46
  clear rA4 rA5 he4 hl4 hB4 hc hb5 hb6 hb46 kl4 ka4 kb4
  -- the last region
  have h10 : 10 - 0 = 10 := rfl
  obtain ⟨N, hN⟩ : ∃ N, w6.heap.size = N := ⟨_, rfl⟩
  have hNle : N ≤ w6.heap.size := Nat.le_of_eq hN.symm
  have zA := row_lt rA6
  rw [hN] at zA
  have hOB : ∀ p : Own N w6, Below w6.heap.size w6 p.w' := fun p => hN.symm ▸ p.below
  have hl9 : ladN k0 (10 - 9) = [k0] := rfl
  rw [hl9] at kb6
  rw [show 10 - 0 = 10 from rfl] at ka6
  obtain ⟨sc, hsc⟩ : ∃ sc : Int, ((dscal k0 bNodeS : Nat) : Int) = sc := ⟨_, rfl⟩
  have hsp : (0 : Int) < ((dscal k0 bNodeS : Nat) : Int) := by
    have h1 : dscal k0 bNodeS = restN 2305843009213688668 (tagd bScalar (expd k0 bNodeS [])) 0 + 1 := rfl
    omega
  rw [hsc] at hsp
  obtain ⟨X, hX⟩ : ∃ X, expd k0 bCommit [] = X := ⟨_, rfl⟩
  have hXl : X.length = 32 := by rw [← hX]; exact length_expd _ _ _
  obtain ⟨M, hM⟩ : ∃ M, epochd k0 k0 = M := ⟨_, rfl⟩
  have hMX : mixd bEpoch k0 X = M := by rw [← hM, ← hX]; rfl
  have hMl : M.length = 32 := by rw [← hMX]; exact length_mixd _ _ _
  have c1 : ∀ p : Own N w6, Calls Tryd.prog 32 #[va, .slice al 10 cl] p.w' fun e w'' => e = .returned (.bool true) ∧ Below p.w'.heap.size p.w' w'' := fun p =>
    calls_dN ((refsame_any va _ _ _ p.w' (ka6.below (hOB p)) (kl6.below (hOB p))).mono fun _ _ ⟨h1, h2⟩ => ⟨by rw [h1]; simp, h2⟩)
  have c2 : ∀ (p : Own N w6) v, KR p.w' v [k0] → Calls Tryd.prog 32 #[vb, v] p.w' fun e w'' => e = .returned (.bool true) ∧ Below p.w'.heap.size p.w' w'' := fun p v hv =>
    calls_dN ((refsame_any vb v _ _ p.w' (kb6.below (hOB p)) hv).mono fun _ _ ⟨h1, h2⟩ => ⟨by rw [h1]; simp, h2⟩)
  have c3 : ∀ p : Own N w6, Calls Tryd.prog 35 #[.agg (dCells k0)] p.w' fun e w'' => e = .returned (.int .i64 sc) ∧ Below p.w'.heap.size p.w' w'' := fun p => hsc ▸ sprivate_any k0 p.w' hk0 (he6.below (hOB p))
  have c4 : ∀ p : Own N w6, Calls Tryd.prog 37 #[.agg (dCells k0), .agg (dCells k0)] p.w' fun e w'' => e = .returned (.agg (dCells M)) ∧ Below p.w'.heap.size p.w' w'' := fun p => hM ▸ sepoch_any k0 k0 p.w' hk0 hk0 (he6.below (hOB p)) (hl6.below (hOB p))
  have c5 : ∀ p : Own N w6, Calls Tryd.prog 23 #[.agg (dCells k0), .string bCommit, .slice none 0 0] p.w' fun e w'' => e = .returned (.agg (dCells X)) ∧ Below p.w'.heap.size p.w' w'' := fun p =>
    hX ▸ expand_any k0 bCommit (.slice none 0 0) [] p.w' hk0 (.inl ⟨rfl, rfl⟩) (by simp) (by decide) (by simp) (he6.below (hOB p))
  have c6 : ∀ p : Own N w6, Calls Tryd.prog 25 #[.string bEpoch, .agg (dCells k0), .agg (dCells X)] p.w' fun e w'' => e = .returned (.agg (dCells M)) ∧ Below p.w'.heap.size p.w' w'' := fun p =>
    hMX ▸ mix_any bEpoch k0 X p.w' hk0 hXl (by decide) (he6.below (hOB p))
  have eM : ∀ w, (Op.equalIn 10000 23 (.agg (dCells M)) (.agg (dCells M))).run Tryd.prog w = .ok true w := fun w => (eqIn_key M M hMl hMl w).trans (by simp)
  have hG := eqG_key
  clear hsc hX hM hMX hOB he hl he6 hl6 hl9 hXl hMl
  refine wp_region_sp (C := fun w' => ∃ p : Own N w6, w' = p.w') (Φ := Tab [(22, spV (.bool true)), (27, spK [k0]), (28, spV (.bool true)), (32, spV (.int .i64 sc)), (38, spV (.agg (dCells M))), (41, spV (.agg (dCells X))), (42, spV (.agg (dCells M)))])
    (by kernel_rfl) (by kernel_rfl) (Tab.stable _) ⟨.of (Below.refl N w6).drew, rfl⟩ ?_
  have LD : ∀ w', (∃ p : Own N w6, w' = p.w') → w'.heap[B]? = some (.cells (dCells k0) 23 (0, 0)) := fun w' ⟨p, hp⟩ => hp ▸ (p.below.block B zA).trans rA6
  have HLD := Lib.hid LD
  clear LD
  have HD : ∀ w', (∃ p : Own N w6, w' = p.w') → Below N w6 w' := fun w' ⟨p, hp⟩ => hp ▸ p.below
  have zB := zA
  clear rA6 kl6 ka6 kb6 zA
  iterate 22 (refine sp_plain rfl (fun K hK => ?_); go_simp; refine hK _ ?_; clear hK K)
  refine sp_spec rfl rfl (by rintro _ ⟨p, rfl⟩ hd; go_simp; exact own_spV hNle (c1 p)) ?_
  rintro v ⟨_, -, rfl⟩ K hK; simp only [Act.put, List.setIfInBounds_toArray, List.set_cons_zero, List.set_cons_succ]; refine hK _ ?_; clear hK K
  iterate 3 (refine sp_plain rfl (fun K hK => ?_); go_simp; refine hK _ ?_; clear hK K)
  refine sp_load_row rfl rfl 23 _ rfl B rfl 23 _ (0, 0) _ HLD.out Tryd.underlying23 rfl HI0.out ?_
  intro K hK; simp only [Act.put, List.setIfInBounds_toArray, List.set_cons_zero, List.set_cons_succ]; refine hK _ ?_; clear hK K
  refine sp_build_key k0 hk0 rfl rfl _ rfl rfl hNle ?_
  rintro vk - K hK; simp only [Act.put, List.setIfInBounds_toArray, List.set_cons_zero, List.set_cons_succ]; refine hK _ ?_; clear hK K
  refine sp_spec rfl rfl (by rintro _ ⟨p, rfl⟩ hd; have hk := (hd 27 (bef_of (by kernel_rfl))).2 rfl; go_simp; exact own_spV hNle (c2 p vk hk)) ?_
  rintro v ⟨_, -, rfl⟩ K hK; simp only [Act.put, List.setIfInBounds_toArray, List.set_cons_zero, List.set_cons_succ]; refine hK _ ?_; clear hK K
  iterate 2 (refine sp_plain rfl (fun K hK => ?_); go_simp; refine hK _ ?_; clear hK K)
  refine sp_load_row rfl rfl 23 _ rfl B rfl 23 _ (0, 0) _ HLD.out Tryd.underlying23 rfl HI0.out ?_
  intro K hK; simp only [Act.put, List.setIfInBounds_toArray, List.set_cons_zero, List.set_cons_succ]; refine hK _ ?_; clear hK K
  refine sp_spec rfl rfl (by rintro _ ⟨p, rfl⟩ hd; go_simp; exact own_spV hNle (c3 p)) ?_
  rintro v ⟨_, -, rfl⟩ K hK; simp only [Act.put, List.setIfInBounds_toArray, List.set_cons_zero, List.set_cons_succ]; refine hK _ ?_; clear hK K
  iterate 3 (refine sp_plain rfl (fun K hK => ?_); go_simp; refine hK _ ?_; clear hK K)
  refine sp_load_row rfl rfl 23 _ rfl B rfl 23 _ (0, 0) _ HLD.out Tryd.underlying23 rfl HI0.out ?_
  intro K hK; simp only [Act.put, List.setIfInBounds_toArray, List.set_cons_zero, List.set_cons_succ]; refine hK _ ?_; clear hK K
  refine sp_load_row rfl rfl 23 _ rfl B rfl 23 _ (0, 0) _ HLD.out Tryd.underlying23 rfl HI0.out ?_
  intro K hK; simp only [Act.put, List.setIfInBounds_toArray, List.set_cons_zero, List.set_cons_succ]; refine hK _ ?_; clear hK K
  refine sp_spec rfl rfl (by rintro _ ⟨p, rfl⟩ hd; go_simp; exact own_spV hNle (c4 p)) ?_
  rintro v ⟨_, -, rfl⟩ K hK; simp only [Act.put, List.setIfInBounds_toArray, List.set_cons_zero, List.set_cons_succ]; refine hK _ ?_; clear hK K
  refine sp_load_row rfl rfl 23 _ rfl B rfl 23 _ (0, 0) _ HLD.out Tryd.underlying23 rfl HI0.out ?_
  intro K hK; simp only [Act.put, List.setIfInBounds_toArray, List.set_cons_zero, List.set_cons_succ]; refine hK _ ?_; clear hK K
  refine sp_load_row rfl rfl 23 _ rfl B rfl 23 _ (0, 0) _ HLD.out Tryd.underlying23 rfl HI0.out ?_
  intro K hK; simp only [Act.put, List.setIfInBounds_toArray, List.set_cons_zero, List.set_cons_succ]; refine hK _ ?_; clear hK K
  refine sp_spec rfl rfl (by rintro _ ⟨p, rfl⟩ hd; go_simp; exact own_spV hNle (c5 p)) ?_
  rintro v ⟨_, -, rfl⟩ K hK; simp only [Act.put, List.setIfInBounds_toArray, List.set_cons_zero, List.set_cons_succ]; refine hK _ ?_; clear hK K
  refine sp_spec rfl rfl (by rintro _ ⟨p, rfl⟩ hd; go_simp; exact own_spV hNle (c6 p)) ?_
  rintro v ⟨_, -, rfl⟩ K hK; simp only [Act.put, List.setIfInBounds_toArray, List.set_cons_zero, List.set_cons_succ]; refine hK _ ?_; clear hK K
  iterate 3 (refine sp_plain rfl (fun K hK => ?_); go_simp; refine hK _ ?_; clear hK K)
  refine sp_nil ?_
  rintro _ ⟨p, rfl⟩ hd
  clear c1 c2 c3 c4 c5 c6 eM hG
  go_wp2
  go_ret
  exact ⟨rfl, hB6.trans (p.below.mono (Nat.le_of_lt zB))⟩
end Chart
