/- The law on Mix. -/
import Derived.Test.YtphgokaeonkjaaaDoorSane7
import Derived.Test.YtphgokaeonkjaaaDoorMix
import Derived.BigQuiet
namespace Chart
open Go Go.RowKit Go.Proofs

set_option maxHeartbeats 4000000 in
set_option maxRecDepth 100000 in
theorem mixedLaw_any (s : ByteArray) (ka kb : List (BitVec 8)) (w : World) (ha : ka.length = 32) (hb : kb.length = 32) (he : ShaEnv w) :
    Calls Tryd.prog 7 #[.string s, .agg (dCells ka), .agg (dCells kb)] w fun e w' => e = .returned (.bool true) ∧ Below w.heap.size w w' := by
  have hsl := length_sha (strB s)
  have HIa := Lib.hid (info_key' _ ha); have HIb := Lib.hid (info_key' _ hb)
  have HIs := Lib.hid (info_digest' _ hsl); have HSs := Lib.hid (size_dCells _ hsl); have HOs := Lib.hid (one_dCells (sha (strB s)))
  obtain ⟨B, hB⟩ : ∃ B, w.heap.size = B := ⟨_, rfl⟩
  rw [hB]
  have hle : B ≤ w.heap.size := Nat.le_of_eq hB.symm
  obtain ⟨wa, hwa⟩ : ∃ wa, wa = w.alloc (.cells (dCells ka) 23) := ⟨_, rfl⟩
  obtain ⟨w1, hw1⟩ : ∃ w1, w1 = wa.alloc (.cells (dCells kb) 23) := ⟨_, rfl⟩
  have s1 : wa.heap.size = B + 1 := by rw [hwa, World.size_alloc, hB]
  have b1 : Below w.heap.size w wa := hwa ▸ below_al w _
  have b2 : Below wa.heap.size wa w1 := hw1 ▸ below_al wa _
  have ra0 : wa.heap[B]? = some (.cells (dCells ka) 23 (0, 0)) := by rw [hwa, ← hB]; exact heap_alloc_new w _
  have rb : w1.heap[B + 1]? = some (.cells (dCells kb) 23 (0, 0)) := by rw [hw1, ← s1]; exact heap_alloc_new wa _
  have ra := row_below ra0 b2
  have hb12 : Below w.heap.size w w1 := below_tr b1 b2
  have he1 := he.below hb12
  clear ra0 b1 b2 s1
  go_enter Tryd.func7, Tryd.ntmps7
  go_upto_region 1 with (fail)
  rw [show (w.alloc (.cells (dCells ka) 23)).alloc (.cells (dCells kb) 23) = w1 by rw [hw1, hwa]]
  clear hw1 hwa
  have hsn := sane7_any w1 he1
  go_upto_region 3 with (go_at_call 16; refine hsn.mono ?_; rintro e w2 ⟨rfl, hb2⟩)
  have rA := row_below ra hb2
  have rB := row_below rb hb2
  have he2 := he1.below hb2
  have hB2 : Below B w w2 := below_trB hle (hB ▸ hb12) hb2
  clear hsn ra rb he1 hb2 hb12 he
  by_cases h1 : (500 : Int) < (s.size : Int)
  · go_wp2
    go_ret
    exact ⟨rfl, hB2⟩
  have hls : s.size ≤ 1000000 := by omega
  have hlm : s.size ≤ maxLen := by unfold maxLen; omega
  go_upto_region 6 with (first
    | (refine conv_bytes rfl _ rfl s rfl hlm ?_; intro vb wb hob hbb; have hsm := sum_any vb (strB s) wb hob.bs (he2.below hbb))
    | (go_at_call 27; refine hsm.mono ?_; rintro e wc ⟨rfl, hbc⟩)
    | (refine st_new rfl 38 _ _ rfl (dCells (sha (strB s))) _ 38 rfl rfl HIs.out (by rw [HSs.out]; rfl) HOs.out ?_))
  have hg : Below w2.heap.size w2 (wc.alloc (.cells (dCells (sha (strB s))) 38)) := below_tr (below_tr hbb hbc) (below_al _ _)
  have rs := heap_alloc_new wc (.cells (dCells (sha (strB s))) 38)
  have rA4 := row_below rA hg
  have rB4 := row_below rB hg
  have he4 := he2.below hg
  have hB4 := below_trB hle hB2 hg
  clear hsm hbb hbc hg hB2 rA rB he2
  generalize wc.alloc (.cells (dCells (sha (strB s))) 38) = w4 at *
  obtain ⟨bs, hbs⟩ : ∃ bs, wc.heap.size = bs := ⟨_, rfl⟩
  rw [hbs] at rs
  simp only [hbs]
  clear hbs
  have z4 := row_lt rs
  have za := row_lt rA4
  have zb := row_lt rB4
  obtain ⟨N, hN⟩ : ∃ N, w4.heap.size = N := ⟨_, rfl⟩
  rw [hN] at z4 za zb
  have hBN : B ≤ N := Nat.le_of_lt za
  have hOB : ∀ w', Below N w4 w' → Below w4.heap.size w4 w' := fun w' h => hN.symm ▸ h
  have SA : ∀ w', Below N w4 w' → BS w' (.slice (some ⟨bs, 0, none⟩) 32 32) (sha (strB s)) := fun w' h => BS.of_digest ((h.block bs z4).trans rs) hsl
  have KA : ∀ w', Below N w4 w' → BS w' (.slice (some ⟨B, 0, none⟩) 32 32) ka := fun w' h => BS.of_digest ((h.block B za).trans rA4) ha
  have KB : ∀ w', Below N w4 w' → BS w' (.slice (some ⟨B + 1, 0, none⟩) 32 32) kb := fun w' h => BS.of_digest ((h.block (B + 1) zb).trans rB4) hb
  have hlen1 : ([] : List (BitVec 8)).length + (sha (strB s)).length ≤ 140737488355328 := by rw [hsl]; decide
  have hlen2 : ([] ++ sha (strB s)).length + ka.length ≤ 140737488355328 := by rw [List.nil_append, hsl, ha]; decide
  have hlen3 : ([] ++ sha (strB s) ++ ka).length + kb.length ≤ 140737488355328 := by rw [List.nil_append, List.length_append, hsl, ha, hb]; decide
  have HSZ : ∀ w', Below N w4 w' → N ≤ w'.heap.size := fun w' h => Nat.le_trans (Nat.le_of_eq hN.symm) h.size
  obtain ⟨M, hM⟩ : ∃ M, mixd s ka kb = M := ⟨_, rfl⟩
  obtain ⟨M2, hM2⟩ : ∃ M2, mixd s kb ka = M2 := ⟨_, rfl⟩
  have hMl : M.length = 32 := by rw [← hM]; exact length_mixd _ _ _
  have hMl2 : M2.length = 32 := by rw [← hM2]; exact length_mixd _ _ _
  have htg : ∀ v w', Below N w4 w' → BS w' v ([] ++ sha (strB s) ++ ka ++ kb) → Calls Tryd.prog 28 #[.string bMix, v] w' fun e w'' => e = .returned (.agg (dCells M)) ∧ Below w'.heap.size w' w'' := fun v w' hw h => by
    rw [← hM, show mixd s ka kb = tagd bMix ([] ++ sha (strB s) ++ ka ++ kb) by rw [List.nil_append]; rfl]
    exact tagged_any bMix v ([] ++ sha (strB s) ++ ka ++ kb) w' (by decide) h (by rw [List.length_append, List.length_append, List.length_append, hsl, ha, hb]; decide) (he4.below (hOB _ hw))
  have hmx : ∀ w', Below N w4 w' → Calls Tryd.prog 25 #[.string s, .agg (dCells ka), .agg (dCells kb)] w' fun e w'' => e = .returned (.agg (dCells M)) ∧ Below w'.heap.size w' w'' := fun w' hw =>
    hM ▸ mix_any s ka kb w' ha hb hls (he4.below (hOB _ hw))
  have hmx2 : ∀ w', Below N w4 w' → Calls Tryd.prog 25 #[.string s, .agg (dCells kb), .agg (dCells ka)] w' fun e w'' => e = .returned (.agg (dCells M2)) ∧ Below w'.heap.size w' w'' := fun w' hw =>
    hM2 ▸ mix_any s kb ka w' hb ha hls (he4.below (hOB _ hw))
  have hMM : ka = kb → M = M2 := fun h => by rw [← hM, ← hM2, h]
  clear hM hM2
  have hrA0 : Below N w4 (w4.alloc (.cells #[] 5)) := (Below.refl _ _).alloc (Nat.le_of_eq hN.symm) _
  have hrA : Below N w4 (w4.alloc (.cells #[] 5)).drew := hrA0.drew
  have hr0 : Below N w4 w4.drew := (Below.refl _ _).drew
  have HO0 : OB (w4.alloc (.cells #[] 5)).drew N (.slice (some ⟨w4.heap.size, 0, none⟩) 0 0) [] := (OB.empty w4 N w4.heap.size rfl (Nat.le_of_eq hN.symm)).below ((Below.refl _ _).drew)
  clear hN
  go_region_held3 (fun w' => Below N w4 w') (assumption)
    (first
      | (refine step_app2g rfl _ _ rfl N _ _ rfl ho6 _ _ rfl (KB _ hq6) hlen3 (HSZ _ hq6) ?_; intro v7 w7 ho7 hg7; have hq7 : Below N w4 w7 := hq6.trans (hg7.below (HSZ _ hq6) ho6))
      | (refine step_app2g rfl _ _ rfl N _ _ rfl ho5 _ _ rfl (KA _ hq5) hlen2 (HSZ _ hq5) ?_; intro v6 w6 ho6 hg6; have hq6 : Below N w4 w6 := hq5.trans (hg6.below (HSZ _ hq5) ho5))
      | (refine step_app2g rfl _ _ rfl N _ _ rfl HO0 _ _ rfl (SA _ hrA) hlen1 (HSZ _ hrA) ?_; intro v5 w5 ho5 hg5; have hq5 : Below N w4 w5 := hrA.trans (hg5.below (HSZ _ hrA) HO0)))
  have rA7 := (hq7.block B za).trans rA4
  have rB7 := (hq7.block (B + 1) zb).trans rB4
  have hz7 := HSZ _ hq7
  have hob := ho7.bs
  clear HO0 SA KA KB hq5 hq6 ho5 ho6 hg5 hg6 hrA hrA0 hr0 rA4 rB4 rs
  obtain ⟨N7, hN7⟩ : ∃ N7, w7.heap.size = N7 := ⟨_, rfl⟩
  rw [hN7] at hz7
  have zA7 := row_lt rA7
  have zB7 := row_lt rB7
  rw [hN7] at zA7 zB7
  have hle7 : N7 ≤ w7.heap.size := Nat.le_of_eq hN7.symm
  have hQ : ∀ q : Own N7 w7, Below N w4 q.w' := fun q => hq7.trans (q.below.mono hz7)
  have c1 : ∀ q : Own N7 w7, Calls Tryd.prog 25 #[.string s, .agg (dCells ka), .agg (dCells kb)] q.w' fun e w'' => e = .returned (.agg (dCells M)) ∧ ∃ p : Own N7 w7, w'' = p.w' := fun q => own_calls hle7 (hmx q.w' (hQ q))
  have c2 : ∀ q : Own N7 w7, Calls Tryd.prog 28 #[.string bMix, v7] q.w' fun e w'' => e = .returned (.agg (dCells M)) ∧ ∃ p : Own N7 w7, w'' = p.w' := fun q => own_calls hle7 (htg v7 q.w' (hQ q) (hob.below (hN7.symm ▸ q.below)))
  have c3 : ∀ q : Own N7 w7, Calls Tryd.prog 25 #[.string s, .agg (dCells kb), .agg (dCells ka)] q.w' fun e w'' => e = .returned (.agg (dCells M2)) ∧ ∃ p : Own N7 w7, w'' = p.w' := fun q => own_calls hle7 (hmx2 q.w' (hQ q))
  have eM : ∀ w, (Op.equalIn 10000 23 (.agg (dCells M)) (.agg (dCells M))).run Tryd.prog w = .ok true w := fun w => (eqIn_key M M hMl hMl w).trans (by simp)
  have hG := eqG_key
  have hfin : ∀ q : Own N7 w7, Below B w q.w' := fun q => hB4.trans ((hQ q).mono hBN)
  have HF := Lib.hid hfin
  clear hfin hmx hmx2 htg hQ hle7 hz7 hob hq7 ho7 hg7 he4 hB4
  by_cases hab : ka = kb
  · have e3 := hMM hab
    subst hab
    subst e3
    have eK : ∀ w, (Op.equalIn 10000 23 (.agg (dCells ka)) (.agg (dCells ka))).run Tryd.prog w = .ok true w := fun w => (eqIn_key ka ka ha ha w).trans (by simp)
    go_upto_region 7 with (fail)
    refine wp_region_own N7 (by kernel_rfl) (by kernel_rfl) ?_
    quiet_step (fail)
    refine wpQuiet_load_rowg rfl 23 _ rfl B rfl 23 _ (0, 0) _ (fun _ ⟨q, hq⟩ => hq ▸ (q.below.block B zA7).trans rA7) Tryd.underlying23 rfl HIa.out ?_
    refine wpQuiet_load_rowg rfl 23 _ rfl (B + 1) rfl 23 _ (0, 0) _ (fun _ ⟨q, hq⟩ => hq ▸ (q.below.block (B + 1) zB7).trans rB7) Tryd.underlying23 rfl HIb.out ?_
    quiet_step ((go_at_call 25; exact c1 _))
    quiet_step (fail)
    quiet_step ((go_at_call 28; exact c2 _))
    quiet_step (fail)
    quiet_step (fail)
    refine wpQuiet_load_rowg rfl 23 _ rfl B rfl 23 _ (0, 0) _ (fun _ ⟨q, hq⟩ => hq ▸ (q.below.block B zA7).trans rA7) Tryd.underlying23 rfl HIa.out ?_
    refine wpQuiet_load_rowg rfl 23 _ rfl (B + 1) rfl 23 _ (0, 0) _ (fun _ ⟨q, hq⟩ => hq ▸ (q.below.block (B + 1) zB7).trans rB7) Tryd.underlying23 rfl HIb.out ?_
    quiet_step (fail)
    quiet_step (fail)
    quiet_step (fail)
    refine wpQuiet_load_rowg rfl 23 _ rfl B rfl 23 _ (0, 0) _ (fun _ ⟨q, hq⟩ => hq ▸ (q.below.block B zA7).trans rA7) Tryd.underlying23 rfl HIa.out ?_
    refine wpQuiet_load_rowg rfl 23 _ rfl (B + 1) rfl 23 _ (0, 0) _ (fun _ ⟨q, hq⟩ => hq ▸ (q.below.block (B + 1) zB7).trans rB7) Tryd.underlying23 rfl HIb.out ?_
    quiet_step ((go_at_call 25; exact c1 _))
    quiet_step (fail)
    refine wpQuiet_load_rowg rfl 23 _ rfl (B + 1) rfl 23 _ (0, 0) _ (fun _ ⟨q, hq⟩ => hq ▸ (q.below.block (B + 1) zB7).trans rB7) Tryd.underlying23 rfl HIb.out ?_
    refine wpQuiet_load_rowg rfl 23 _ rfl B rfl 23 _ (0, 0) _ (fun _ ⟨q, hq⟩ => hq ▸ (q.below.block B zA7).trans rA7) Tryd.underlying23 rfl HIa.out ?_
    quiet_step ((go_at_call 25; exact c1 _))
    repeat (quiet_step (fail))
    refine wpQuiet_nil ?_
    rintro _ ⟨q, rfl⟩
    go_wp2
    go_ret
    exact ⟨rfl, HF.out q⟩
  · have eK : ∀ w, (Op.equalIn 10000 23 (.agg (dCells ka)) (.agg (dCells kb))).run Tryd.prog w = .ok false w := fun w => (eqIn_key ka kb ha hb w).trans (by rw [decide_eq_false hab])
    go_upto_region 7 with (fail)
    refine wp_region_own N7 (by kernel_rfl) (by kernel_rfl) ?_
    quiet_step (fail)
    refine wpQuiet_load_rowg rfl 23 _ rfl B rfl 23 _ (0, 0) _ (fun _ ⟨q, hq⟩ => hq ▸ (q.below.block B zA7).trans rA7) Tryd.underlying23 rfl HIa.out ?_
    refine wpQuiet_load_rowg rfl 23 _ rfl (B + 1) rfl 23 _ (0, 0) _ (fun _ ⟨q, hq⟩ => hq ▸ (q.below.block (B + 1) zB7).trans rB7) Tryd.underlying23 rfl HIb.out ?_
    quiet_step ((go_at_call 25; exact c1 _))
    quiet_step (fail)
    quiet_step ((go_at_call 28; exact c2 _))
    quiet_step (fail)
    quiet_step (fail)
    refine wpQuiet_load_rowg rfl 23 _ rfl B rfl 23 _ (0, 0) _ (fun _ ⟨q, hq⟩ => hq ▸ (q.below.block B zA7).trans rA7) Tryd.underlying23 rfl HIa.out ?_
    refine wpQuiet_load_rowg rfl 23 _ rfl (B + 1) rfl 23 _ (0, 0) _ (fun _ ⟨q, hq⟩ => hq ▸ (q.below.block (B + 1) zB7).trans rB7) Tryd.underlying23 rfl HIb.out ?_
    quiet_step (fail)
    quiet_step (fail)
    clear c1 c2 c3 eM eK hG hMM
    iterate 9 (unfold wpQuiet; rw [if_neg (by simp [Region.wanted, yielded])]; simp only [Act.put, List.setIfInBounds_toArray, List.set_cons_zero, List.set_cons_succ])
    iterate 3 (quiet_step (fail))
    refine wpQuiet_nil ?_
    rintro _ ⟨q, rfl⟩
    go_wp2
    go_ret
    exact ⟨rfl, HF.out q⟩
end Chart
