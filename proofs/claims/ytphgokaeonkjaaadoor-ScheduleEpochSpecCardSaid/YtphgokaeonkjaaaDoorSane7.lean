/- The examples of chapter 7: they hold. -/
import Derived.Test.YtphgokaeonkjaaaDoorEqKey
namespace Chart
open Go Go.RowKit Go.Proofs

def key7 : List (BitVec 8) := [1#8, 2#8, 3#8] ++ List.replicate 29 0#8
def bPath : ByteArray := { data := #[112, 97, 116, 104] }
def bNode : ByteArray := { data := #[110, 111, 100, 101] }

set_option maxHeartbeats 8000000 in
set_option maxRecDepth 100000 in
theorem sane7_any (w : World) (he : ShaEnv w) :
    Calls Tryd.prog 16 #[] w fun e w' => e = .returned (.bool true) ∧ Below w.heap.size w w' := by
  have hk0 : key7.length = 32 := rfl
  obtain ⟨k0, hk⟩ : ∃ k0, k0 = key7 := ⟨_, rfl⟩
  rw [← hk] at hk0
  obtain ⟨k1, hk1⟩ : ∃ k1, stepN k0 1 = k1 := ⟨_, rfl⟩
  obtain ⟨k2, hk2⟩ : ∃ k2, stepN k0 2 = k2 := ⟨_, rfl⟩
  have hl1 : k1.length = 32 := by rw [← hk1]; exact length_stepN k0 hk0 1
  have hl2 : k2.length = 32 := by rw [← hk2]; exact length_stepN k0 hk0 2
  have hk21 : stepN k1 1 = k2 := by rw [← hk1, ← hk2]; exact stepN_add k0 1 1
  have so0 : stepOut k0 0 = .tuple #[.agg (dCells k0), .int .i64 0] := by rw [stepOut, if_neg (by decide), if_neg (by decide)]; rfl
  have so1 : stepOut k0 1 = .tuple #[.agg (dCells k1), .int .i64 0] := by rw [stepOut, if_neg (by decide), if_neg (by decide), ← hk1]; rfl
  have so2 : stepOut k0 2 = .tuple #[.agg (dCells k2), .int .i64 0] := by rw [stepOut, if_neg (by decide), if_neg (by decide), ← hk2]; rfl
  have so3 : stepOut k1 1 = .tuple #[.agg (dCells k2), .int .i64 0] := by rw [stepOut, if_neg (by decide), if_neg (by decide), ← hk21]; rfl
  have so4 : stepOut k0 (-1) = .tuple #[.agg (dCells zkey), .int .i64 1] := by rw [stepOut, if_pos (by decide)]
  have so5 : stepOut k0 65537 = .tuple #[.agg (dCells zkey), .int .i64 2] := by rw [stepOut, if_neg (by decide), if_pos (by decide)]
  have SO0 := Lib.hid so0; have SO1 := Lib.hid so1; have SO2 := Lib.hid so2; have SO3 := Lib.hid so3; have SO4 := Lib.hid so4; have SO5 := Lib.hid so5
  clear so0 so1 so2 so3 so4 so5 hk21 hk1 hk2
  have hlz : zkey.length = 32 := rfl
  have HI0 := Lib.hid (info_key' _ hk0); have HS0 := Lib.hid (size_dCells _ hk0); have HO0 := Lib.hid (one_dCells k0)
  have HI1 := Lib.hid (info_key' _ hl1); have HS1 := Lib.hid (size_dCells _ hl1); have HO1 := Lib.hid (one_dCells k1)
  have HI2 := Lib.hid (info_key' _ hl2); have HS2 := Lib.hid (size_dCells _ hl2); have HO2 := Lib.hid (one_dCells k2)
  have HIz := Lib.hid (info_key' _ hlz); have HSz := Lib.hid (size_dCells _ hlz); have HOz := Lib.hid (one_dCells zkey)
  generalize zkey = kz at *
  have HK := Lib.hid hk
  clear hk
  obtain ⟨B, hB⟩ : ∃ B, w.heap.size = B := ⟨_, rfl⟩
  rw [hB]
  have hb1 : Below B w (w.alloc (.cells (dCells k0) 23)) := (Below.refl B w).alloc (by omega) _
  have hb1' : Below w.heap.size w (w.alloc (.cells (dCells k0) 23)) := by rw [hB]; exact hb1
  have rA : (w.alloc (.cells (dCells k0) 23)).heap[B]? = some (.cells (dCells k0) 23 (0, 0)) := by rw [← hB]; exact heap_alloc_new w _
  have he1 := he.below hb1'
  have hs1 := hb1.size
  go_enter Tryd.func16, Tryd.ntmps16
  go_upto_region 2 with (first
    | (refine wpList_buildTo rfl 23 _ rfl (some 17) rfl (dCells k0) (by rw [HK.out]; kernel_rfl) ?_)
    | (refine st_new rfl 23 _ _ rfl (dCells k0) _ 23 (by show Value.pointer _ = Value.pointer _; rw [hB]) rfl HI0.out (by rw [HS0.out]; rfl) HO0.out ?_))
  clear hb1'
  generalize w.alloc (.cells (dCells k0) 23) = w1 at *
  have hst := step_any k0 0 w1 hk0 (by decide) he1
  rw [SO0.out] at hst
  go_upto_region 3 with (first
    | (refine wpList_load_row rfl 23 _ rfl B rfl 23 _ (0, 0) _ rA Tryd.underlying23 rfl HI0.out ?_)
    | (go_at_call 17; refine hst.mono ?_; rintro e v ⟨rfl, hv⟩)
    | (refine st_new rfl 23 _ _ rfl (dCells k0) _ 23 rfl rfl HI0.out (by rw [HS0.out]; rfl) HO0.out ?_))
  clear hst
  have hv2 : Below w1.heap.size w1 (v.alloc (.cells (dCells k0) 23)) := below_tr hv (below_al _ _)
  have rA' := row_below rA hv2
  obtain ⟨bZ, hbZ⟩ : ∃ b, v.heap.size = b := ⟨_, rfl⟩
  have rZ' : (v.alloc (.cells (dCells k0) 23)).heap[bZ]? = some (.cells (dCells k0) 23 (0, 0)) := by rw [← hbZ]; exact heap_alloc_new v _
  rw [hbZ]
  clear hbZ
  have he2 := he1.below hv2
  have hb2 := below_trB (Nat.le_of_eq hB.symm) hb1 hv2
  have hs2 := hb2.size
  clear hv hv2 he1 hb1 hs1
  clear rA
  generalize v.alloc (.cells (dCells k0) 23) = w2 at *
  have rA := rA'; clear rA'
  have rZ := rZ'; clear rZ'
  clear v
  have hst := step_any k0 1 w2 hk0 (by decide) he2
  rw [SO1.out] at hst
  go_upto_region 4 with (first
    | (refine wpList_load_row rfl 23 _ rfl B rfl 23 _ (0, 0) _ rA Tryd.underlying23 rfl HI0.out ?_)
    | (go_at_call 17; refine hst.mono ?_; rintro e v ⟨rfl, hv⟩)
    | (refine st_new rfl 23 _ _ rfl (dCells k1) _ 23 rfl rfl HI1.out (by rw [HS1.out]; rfl) HO1.out ?_))
  clear hst
  have hv2 : Below w2.heap.size w2 (v.alloc (.cells (dCells k1) 23)) := below_tr hv (below_al _ _)
  have rA' := row_below rA hv2
  have rZ' := row_below rZ hv2
  obtain ⟨bO, hbO⟩ : ∃ b, v.heap.size = b := ⟨_, rfl⟩
  have rO' : (v.alloc (.cells (dCells k1) 23)).heap[bO]? = some (.cells (dCells k1) 23 (0, 0)) := by rw [← hbO]; exact heap_alloc_new v _
  rw [hbO]
  clear hbO
  have he3 := he2.below hv2
  have hb3 := below_trB (Nat.le_of_eq hB.symm) hb2 hv2
  have hs3 := Nat.le_trans hs2 hv2.size
  clear hv hv2 he2 hb2 hs2
  clear rA
  clear rZ
  generalize v.alloc (.cells (dCells k1) 23) = w3 at *
  have rA := rA'; clear rA'
  have rZ := rZ'; clear rZ'
  have rO := rO'; clear rO'
  clear v
  have hst := step_any k0 2 w3 hk0 (by decide) he3
  rw [SO2.out] at hst
  go_upto_region 5 with (first
    | (refine wpList_load_row rfl 23 _ rfl B rfl 23 _ (0, 0) _ rA Tryd.underlying23 rfl HI0.out ?_)
    | (go_at_call 17; refine hst.mono ?_; rintro e v ⟨rfl, hv⟩)
    | (refine st_new rfl 23 _ _ rfl (dCells k2) _ 23 rfl rfl HI2.out (by rw [HS2.out]; rfl) HO2.out ?_))
  clear hst
  have hv2 : Below w3.heap.size w3 (v.alloc (.cells (dCells k2) 23)) := below_tr hv (below_al _ _)
  have rA' := row_below rA hv2
  have rZ' := row_below rZ hv2
  have rO' := row_below rO hv2
  obtain ⟨bT, hbT⟩ : ∃ b, v.heap.size = b := ⟨_, rfl⟩
  have rT' : (v.alloc (.cells (dCells k2) 23)).heap[bT]? = some (.cells (dCells k2) 23 (0, 0)) := by rw [← hbT]; exact heap_alloc_new v _
  rw [hbT]
  clear hbT
  have he4 := he3.below hv2
  have hb4 := below_trB (Nat.le_of_eq hB.symm) hb3 hv2
  have hs4 := Nat.le_trans hs3 hv2.size
  clear hv hv2 he3 hb3 hs3
  clear rA
  clear rZ
  clear rO
  generalize v.alloc (.cells (dCells k2) 23) = w4 at *
  have rA := rA'; clear rA'
  have rZ := rZ'; clear rZ'
  have rO := rO'; clear rO'
  have rT := rT'; clear rT'
  clear v
  have hst := step_any k1 1 w4 hl1 (by decide) he4
  rw [SO3.out] at hst
  go_upto_region 6 with (first
    | (refine wpList_load_row rfl 23 _ rfl bO rfl 23 _ (0, 0) _ rO Tryd.underlying23 rfl HI1.out ?_)
    | (go_at_call 17; refine hst.mono ?_; rintro e v ⟨rfl, hv⟩)
    | (refine st_new rfl 23 _ _ rfl (dCells k2) _ 23 rfl rfl HI2.out (by rw [HS2.out]; rfl) HO2.out ?_))
  clear hst
  have hv2 : Below w4.heap.size w4 (v.alloc (.cells (dCells k2) 23)) := below_tr hv (below_al _ _)
  have rA' := row_below rA hv2
  have rZ' := row_below rZ hv2
  have rO' := row_below rO hv2
  have rT' := row_below rT hv2
  obtain ⟨bG, hbG⟩ : ∃ b, v.heap.size = b := ⟨_, rfl⟩
  have rG' : (v.alloc (.cells (dCells k2) 23)).heap[bG]? = some (.cells (dCells k2) 23 (0, 0)) := by rw [← hbG]; exact heap_alloc_new v _
  rw [hbG]
  clear hbG
  have he5 := he4.below hv2
  have hb5 := below_trB (Nat.le_of_eq hB.symm) hb4 hv2
  have hs5 := Nat.le_trans hs4 hv2.size
  clear hv hv2 he4 hb4 hs4
  clear rA
  clear rZ
  clear rO
  clear rT
  generalize v.alloc (.cells (dCells k2) 23) = w5 at *
  have rA := rA'; clear rA'
  have rZ := rZ'; clear rZ'
  have rO := rO'; clear rO'
  have rT := rT'; clear rT'
  have rG := rG'; clear rG'
  clear v
  have hst := step_any k0 (-1) w5 hk0 (by decide) he5
  rw [SO4.out] at hst
  go_upto_region 7 with (first
    | (refine wpList_load_row rfl 23 _ rfl B rfl 23 _ (0, 0) _ rA Tryd.underlying23 rfl HI0.out ?_)
    | (go_at_call 17; refine hst.mono ?_; rintro e v ⟨rfl, hv⟩)
    | (refine st_new rfl 23 _ _ rfl (dCells kz) _ 23 rfl rfl HIz.out (by rw [HSz.out]; rfl) HOz.out ?_))
  clear hst
  have hv2 : Below w5.heap.size w5 (v.alloc (.cells (dCells kz) 23)) := below_tr hv (below_al _ _)
  have rA' := row_below rA hv2
  have rZ' := row_below rZ hv2
  have rO' := row_below rO hv2
  have rT' := row_below rT hv2
  have rG' := row_below rG hv2
  have he6 := he5.below hv2
  have hb6 := below_trB (Nat.le_of_eq hB.symm) hb5 hv2
  have hs6 := Nat.le_trans hs5 hv2.size
  clear hv hv2 he5 hb5 hs5
  clear rA
  clear rZ
  clear rO
  clear rT
  clear rG
  generalize v.alloc (.cells (dCells kz) 23) = w6 at *
  have rA := rA'; clear rA'
  have rZ := rZ'; clear rZ'
  have rO := rO'; clear rO'
  have rT := rT'; clear rT'
  have rG := rG'; clear rG'
  have hst := step_any k0 65537 w6 hk0 (by decide) he6
  rw [SO5.out] at hst
  go_upto_region 8 with (first
    | (refine wpList_load_row rfl 23 _ rfl B rfl 23 _ (0, 0) _ rA Tryd.underlying23 rfl HI0.out ?_)
    | (go_at_call 17; refine hst.mono ?_; rintro e v ⟨rfl, hv⟩)
    | (refine st_new rfl 23 _ _ rfl (dCells kz) _ 23 rfl rfl HIz.out (by rw [HSz.out]; rfl) HOz.out ?_))
  clear hst
  have hv2 : Below w6.heap.size w6 (v.alloc (.cells (dCells kz) 23)) := below_tr hv (below_al _ _)
  have rA' := row_below rA hv2
  have rZ' := row_below rZ hv2
  have rO' := row_below rO hv2
  have rT' := row_below rT hv2
  have rG' := row_below rG hv2
  have he7 := he6.below hv2
  have hb7 := below_trB (Nat.le_of_eq hB.symm) hb6 hv2
  have hs7 := Nat.le_trans hs6 hv2.size
  clear hv hv2 he6 hb6 hs6
  clear rA
  clear rZ
  clear rO
  clear rT
  clear rG
  generalize v.alloc (.cells (dCells kz) 23) = w7 at *
  have rA := rA'; clear rA'
  have rZ := rZ'; clear rZ'
  have rO := rO'; clear rO'
  have rT := rT'; clear rT'
  have rG := rG'; clear rG'
  have hsc0 := restN_lt 2305843009213688668 (by decide) (tagd bScalar (expd k0 bNode [])) 0 (by decide)
  have hsc1 : dscal k0 bNode = restN 2305843009213688668 (tagd bScalar (expd k0 bNode [])) 0 + 1 := rfl
  have hds := fun w' h => dscalar_any k0 bNode w' hk0 (by decide) h
  obtain ⟨sc, hsc⟩ : ∃ sc : Int, ((dscal k0 bNode : Nat) : Int) = sc := ⟨_, rfl⟩
  have hsc2 : (0 : Int) < sc := by omega
  have hsc3 : sc < 2305843009213688669 := by omega
  rw [hsc] at hds
  clear hsc0 hsc1 hsc
  obtain ⟨LS, hLS⟩ : ∃ LS, encL [.text bPath] = LS := ⟨_, rfl⟩
  have hnl : LS.length ≠ 0 ∧ LS.length ≤ 1000 := by rw [← hLS]; exact ⟨by decide +kernel, by decide +kernel⟩
  obtain ⟨bL, hbL⟩ : ∃ b, w7.heap.size = b := ⟨_, rfl⟩
  have ho1 := OL.one w7 bL bL (.text bPath) hbL (Nat.le_refl _)
  obtain ⟨g, cap, hgeq, hg1, hg2, hg3, hg4, hL⟩ := ho1.some (by simp)
  cases hgeq
  have henc := encode_list bL 0 1 1 [.text bPath] _ rfl hL (fun lf hlf => by rw [List.mem_singleton] at hlf; subst hlf; show bPath.size < _; decide) hg2 (by decide) (by unfold maxLen; decide) (by rw [hLS]; omega)
  rw [hLS] at henc
  have hal := below_al w7 (.cells (Leaf.text bPath).cells 62)
  have HAL := Lib.hid hal
  clear hal hL hg1 hg2 hg3 hg4 ho1
  unfold lCells Leaf.cells at henc

  go_upto_region 9 with (first
    | (go_at_call 52; refine henc.mono ?_; rintro e w8 ⟨vb, rfl, hob, hb8⟩; obtain ⟨va, vc, rfl⟩ := hob.form; have hv2 := below_tr HAL.out hb8))
  have rA' := row_below rA hv2; have rZ' := row_below rZ hv2; have rO' := row_below rO hv2; have rT' := row_below rT hv2; have rG' := row_below rG hv2
  have he8 := he7.below hv2
  have hB8 := below_trB (Nat.le_of_eq hB.symm) hb7 hv2
  clear rA rZ rO rT rG he7 hb7 henc HAL hb8 hv2
  obtain ⟨nl, hnl'⟩ : ∃ nl : Nat, LS.length = nl := ⟨_, rfl⟩
  rw [hnl'] at hnl
  have hnl2 : ¬ ((nl : Int) = 0) := by omega
  have HNL := Lib.hid hnl'
  simp only [hnl']
  clear hnl'
  go_upto_region 11 with (fail)
  have hds8 := hds w8 he8
  go_upto_region 12 with (first
    | (refine wpList_load_row rfl 23 _ rfl B rfl 23 _ (0, 0) _ rA' Tryd.underlying23 rfl HI0.out ?_)
    | (go_at_call 19; refine hds8.mono ?_; rintro e w9 ⟨rfl, hb9⟩))
  have rA := row_below rA' hb9; have rZ := row_below rZ' hb9; have rO := row_below rO' hb9; have rT := row_below rT' hb9; have rG := row_below rG' hb9
  have he9 := he8.below hb9
  have hB9 := below_trB (Nat.le_of_eq hB.symm) hB8 hb9
  have hob9 := hob.below hb9
  clear rA' rZ' rO' rT' rG' he8 hB8 hb9 hob hds hds8
  clear SO0 SO1 SO2 SO3 SO4 SO5 HI1 HS1 HO1 HIz HSz HOz HS0 HS2 HO0 HO2 HI0 HI2 HK rO hs7 hbL he hnl2 hl1 hlz
  have hLl : LS.length ≤ 1000 := by rw [HNL.out]; exact hnl.2
  have HLl := Lib.hid hLl
  have HB2 : ∀ w', Below w9.heap.size w9 w' → BS w' (.slice va nl vc) LS := fun w' h => (HNL.out ▸ hob9.bs).below h
  have HBS : ∀ w', Below w9.heap.size w9 w' → BS w' (.slice (some ⟨B, 0, none⟩) 32 32) k0 := fun w' h => BS.of_digest (row_below rA h) hk0
  have hpx : expd k0 bPath [] = tagd bDerive (k0 ++ LS) := by rw [← hLS]; rfl
  have hXl := length_expd k0 bPath []
  obtain ⟨X, hX⟩ : ∃ X, expd k0 bPath [] = X := ⟨_, rfl⟩
  obtain ⟨T, hT⟩ : ∃ T, tagd bSeed [] = T := ⟨_, rfl⟩
  have hTl : T.length = 32 := by rw [← hT]; exact length_tagd _ _
  have hF : ∀ w', Below w9.heap.size w9 w' → Calls Tryd.prog 21 #[.slice none 0 0] w' fun e w'' => e = .returned (.agg (dCells T)) ∧ Below w'.heap.size w' w'' ∧ Below w9.heap.size w9 w'' := fun w' h =>
    (first_any (.slice none 0 0) [] w' (.inl ⟨rfl, rfl⟩) (by decide) (he9.below h)).mono fun e w'' ⟨h1, h2⟩ => ⟨by rw [h1, hT], h2, below_tr h h2⟩
  have hS : ∀ w', Below w9.heap.size w9 w' → Calls Tryd.prog 28 #[.string bSeed, .slice none 0 0] w' fun e w'' => e = .returned (.agg (dCells T)) ∧ Below w'.heap.size w' w'' ∧ Below w9.heap.size w9 w'' := fun w' h =>
    (tagged_any bSeed (.slice none 0 0) [] w' (by decide) (.inl ⟨rfl, rfl⟩) (by decide) (he9.below h)).mono fun e w'' ⟨h1, h2⟩ => ⟨by rw [h1, hT], h2, below_tr h h2⟩
  have hE : ∀ w', Below w9.heap.size w9 w' → Calls Tryd.prog 23 #[.agg (dCells k0), .string bPath, .slice none 0 0] w' fun e w'' => e = .returned (.agg (dCells X)) ∧ Below w'.heap.size w' w'' ∧ Below w9.heap.size w9 w'' := fun w' h =>
    (expand_any k0 bPath (.slice none 0 0) [] w' hk0 (.inl ⟨rfl, rfl⟩) (by simp) (by decide) (by simp) (he9.below h)).mono fun e w'' ⟨h1, h2⟩ => ⟨by rw [h1, hX], h2, below_tr h h2⟩
  have hD : ∀ v w', Below w9.heap.size w9 w' → BS w' v (k0 ++ LS) → Calls Tryd.prog 28 #[.string bDerive, v] w' fun e w'' => e = .returned (.agg (dCells X)) ∧ Below w'.heap.size w' w'' ∧ Below w9.heap.size w9 w'' := fun v w' h hb =>
    (tagged_any bDerive v (k0 ++ LS) w' (by decide) hb (by rw [List.length_append, hk0]; omega) (he9.below h)).mono fun e w'' ⟨h1, h2⟩ => ⟨by rw [h1, ← hpx, hX], h2, below_tr h h2⟩
  rw [hX] at hXl
  have hlen1 : ([] : List (BitVec 8)).length + k0.length ≤ 140737488355328 := by rw [hk0]; decide
  have hlen2 : ([] ++ k0).length + LS.length ≤ 140737488355328 := by rw [List.nil_append, hk0]; omega
  have hG := eqG_key
  have e0 : ∀ w, (Op.equalIn 10000 23 (.agg (dCells k0)) (.agg (dCells k0))).run Tryd.prog w = .ok true w := fun w => (eqIn_key k0 k0 hk0 hk0 w).trans (by simp)
  have e2 : ∀ w, (Op.equalIn 10000 23 (.agg (dCells k2)) (.agg (dCells k2))).run Tryd.prog w = .ok true w := fun w => (eqIn_key k2 k2 hl2 hl2 w).trans (by simp)
  have eT : ∀ w, (Op.equalIn 10000 23 (.agg (dCells T)) (.agg (dCells T))).run Tryd.prog w = .ok true w := fun w => (eqIn_key T T hTl hTl w).trans (by simp)
  have eX : ∀ w, (Op.equalIn 10000 23 (.agg (dCells X)) (.agg (dCells X))).run Tryd.prog w = .ok true w := fun w => (eqIn_key X X hXl hXl w).trans (by simp)
  obtain ⟨kt, hkt⟩ : ∃ kt, kt = 23 := ⟨_, rfl⟩
  have hL : Op.load 23 = Op.load kt := by rw [hkt]
  obtain ⟨nn, hnn⟩ : ∃ nn, nn = 32 := ⟨_, rfl⟩
  have hag : ∀ w', (isAgg kt).run Tryd.prog w' = .ok true w' := fun w' => by rw [hkt]; exact Tryd.isAgg23 w'
  have hsz : ∀ w', (Go.sizeOf kt).run Tryd.prog w' = .ok nn w' := fun w' => by rw [hkt, hnn]; exact Tryd.sizeOf23 w'
  have HS : ∀ w', Below w9.heap.size w9 w' → (loadCellsFrom ⟨B, 0, none⟩ 0 nn #[]).run Tryd.prog w' = .ok (dCells k0) w' ∧ (loadCellsFrom ⟨bZ, 0, none⟩ 0 nn #[]).run Tryd.prog w' = .ok (dCells k0) w' ∧
      (loadCellsFrom ⟨bT, 0, none⟩ 0 nn #[]).run Tryd.prog w' = .ok (dCells k2) w' ∧ (loadCellsFrom ⟨bG, 0, none⟩ 0 nn #[]).run Tryd.prog w' = .ok (dCells k2) w' := fun w' h => by
    rw [hnn]
    exact ⟨key_cells (row_below rA h) hk0, key_cells (row_below rZ h) hk0, key_cells (row_below rT h) hl2, key_cells (row_below rG h) hl2⟩
  generalize dCells k0 = c0 at *
  generalize dCells k2 = c2 at *
  generalize dCells T = cT at *
  generalize dCells X = cX at *
  have hr0 : Below w9.heap.size w9 w9.drew := (Below.refl _ _).drew
  simp only [hL]
  clear hL hkt hnn
  have hBN : B ≤ w9.heap.size := Nat.le_trans (Nat.le_of_eq hB.symm) hB9.size
  have HSZ : ∀ w', Below w9.heap.size w9 w' → w9.heap.size ≤ w'.heap.size := fun w' h => h.size
  generalize hW : w9.heap.size = N9 at *
  clear hW
  clear hT hTl hX hXl hpx hLS hLl hk0 hl2 rA rZ rT rG he9 hob9
  go_region_held3 (fun w' => (loadCellsFrom ⟨B, 0, none⟩ 0 nn #[]).run Tryd.prog w' = .ok c0 w' ∧ (loadCellsFrom ⟨bZ, 0, none⟩ 0 nn #[]).run Tryd.prog w' = .ok c0 w' ∧ (loadCellsFrom ⟨bT, 0, none⟩ 0 nn #[]).run Tryd.prog w' = .ok c2 w' ∧ (loadCellsFrom ⟨bG, 0, none⟩ 0 nn #[]).run Tryd.prog w' = .ok c2 w')
    (first | exact HS _ (by assumption) | exact HS _ (Below.alloc (by assumption) (HSZ _ (by assumption)) _))
    (first
      | (go_at_call 21; refine (hF _ (by assumption)).mono ?_; rintro e wa ⟨rfl, ha1, ha2⟩)
      | (go_at_call 28; refine (hD v5 _ (by assumption) ho5.bs).mono ?_; rintro e wf ⟨rfl, hf1, hf2⟩)
      | (go_at_call 28; refine (hS _ (by assumption)).mono ?_; rintro e wb ⟨rfl, hb1, hb2⟩; have hob0 := fun (t : World) (h : Below (wb.alloc (.cells #[] 5)).heap.size (wb.alloc (.cells #[] 5)) t) => (OB.empty wb N9 wb.heap.size rfl (HSZ _ hb2)).below h)
      | (go_at_call 23; refine (hE _ (by first | assumption | exact Below.alloc (by assumption) (HSZ _ (by assumption)) _)).mono ?_; rintro e wc ⟨rfl, hc1, hc2⟩; (try (have ho1 := hob0 wc hc1)))
      | (refine step_app2g rfl _ _ rfl N9 _ _ rfl ho4 _ _ rfl (HB2 _ hq4) hlen2 (HSZ _ hq4) ?_; intro v5 w5 ho5 hg5; have hq5 : Below N9 w9 w5 := hq4.trans (hg5.below (HSZ _ hq4) ho4))
      | (refine step_app2g rfl _ _ rfl N9 _ _ rfl ho1 _ _ rfl (HBS _ hc2) hlen1 (HSZ _ hc2) ?_; intro v4 w4 ho4 hg4; have hq4 : Below N9 w9 w4 := hc2.trans (hg4.below (HSZ _ hc2) ho1))
      | (refine step_app2g rfl _ _ rfl N9 _ _ rfl (OB.empty wc N9 _ rfl (HSZ _ hc2)) _ _ rfl (HBS _ (hc2.alloc (HSZ _ hc2) _)) hlen1 (HSZ _ (hc2.alloc (HSZ _ hc2) _)) ?_; intro v4 w4 ho4 hg4; have hq4 : Below N9 w9 w4 := (hc2.alloc (HSZ _ hc2) _).trans (hg4.below (HSZ _ (hc2.alloc (HSZ _ hc2) _)) (OB.empty wc N9 _ rfl (HSZ _ hc2)))))
  all_goals go_wp2
  all_goals go_ret
  all_goals exact ⟨rfl, hB9.trans (hf2.mono hBN)⟩
end Chart
