/- The laws on Scalar and on chains. -/
import Derived.Test.YtphgokaeonkjaaaDoorSane7
import Derived.Test.YtphgokaeonkjaaaDoorEqKey
namespace Chart
open Go Go.RowKit Go.Proofs

theorem dscal_bounds (k : List (BitVec 8)) (label : ByteArray) : (0 : Int) < ((dscal k label : Nat) : Int) ∧ ((dscal k label : Nat) : Int) < 2305843009213693669 ∧ ((dscal k label : Nat) : Int) < 2305843009213688669 := by
  have h0 := restN_lt 2305843009213688668 (by decide) (tagd bScalar (expd k label [])) 0 (by decide)
  have h1 : dscal k label = restN 2305843009213688668 (tagd bScalar (expd k label [])) 0 + 1 := rfl
  omega

set_option maxHeartbeats 4000000 in
set_option maxRecDepth 100000 in
theorem scalarLaw_any (k : List (BitVec 8)) (s : ByteArray) (w : World) (hk : k.length = 32) (he : ShaEnv w) :
    Calls Tryd.prog 4 #[.agg (dCells k), .string s] w fun e w' => e = .returned (.bool true) ∧ Below w.heap.size w w' := by
  have HI0 := Lib.hid (info_key' _ hk)
  obtain ⟨B, hB⟩ : ∃ B, w.heap.size = B := ⟨_, rfl⟩
  rw [hB]
  have hb1 : Below B w (w.alloc (.cells (dCells k) 23)) := (Below.refl B w).alloc (by omega) _
  have rA : (w.alloc (.cells (dCells k) 23)).heap[B]? = some (.cells (dCells k) 23 (0, 0)) := by rw [← hB]; exact heap_alloc_new w _
  have he1 := he.below (show Below w.heap.size w (w.alloc (.cells (dCells k) 23)) by rw [hB]; exact hb1)
  have hle : B ≤ w.heap.size := Nat.le_of_eq hB.symm
  go_enter Tryd.func4, Tryd.ntmps4
  go_upto_region 1 with (fail)
  generalize w.alloc (.cells (dCells k) 23) = w1 at *
  have hsn := sane7_any w1 he1
  go_upto_region 3 with (go_at_call 16; refine hsn.mono ?_; rintro e w2 ⟨rfl, hb2⟩)
  have rA2 := row_below rA hb2
  have he2 := he1.below hb2
  have hB2 := below_trB hle hb1 hb2
  clear hsn rA he1 hb1 hb2
  by_cases h5 : (500 : Int) < (s.size : Int)
  · go_wp2
    go_ret
    exact ⟨rfl, hB2⟩
  · obtain ⟨sc, hsc⟩ : ∃ sc : Int, ((dscal k s : Nat) : Int) = sc := ⟨_, rfl⟩
    have hbd := dscal_bounds k s
    rw [hsc] at hbd
    obtain ⟨hd1, -, hd2⟩ := hbd
    have hx := dscalar_any k s w2 hk (by omega) he2
    have hy := fun w' => refdscalar_any k s w' hk (by omega)
    rw [hsc] at hx hy
    clear hsc
    go_upto_region 6 with (first
      | (refine wpList_load_row rfl 23 _ rfl B rfl 23 _ (0, 0) _ rA2 Tryd.underlying23 rfl HI0.out ?_)
      | (go_at_call 19; refine hx.mono ?_; rintro e w3 ⟨rfl, hb3⟩))
    have rA3 := row_below rA2 hb3
    have hB3 := below_trB hle hB2 hb3
    have hy3 := hy w3
    clear hx hy rA2
    go_wp2_with (first
      | (refine wpList_load_row rfl 23 _ rfl B rfl 23 _ (0, 0) _ rA3 Tryd.underlying23 rfl HI0.out ?_)
      | (go_at_call 20; refine hy3.mono ?_; rintro e w4 ⟨rfl, hb4⟩))
    go_ret
    exact ⟨rfl, below_trB hle hB3 hb4⟩

set_option maxHeartbeats 4000000 in
set_option maxRecDepth 100000 in
theorem chainLaw_any (k : List (BitVec 8)) (m n : Int) (w : World) (hk : k.length = 32) (hm : 0 ≤ m ∧ m < 256) (hn : 0 ≤ n ∧ n < 256) (he : ShaEnv w) :
    Calls Tryd.prog 5 #[.agg (dCells k), .int .u8 m, .int .u8 n] w fun e w' => e = .returned (.bool true) ∧ Below w.heap.size w w' := by
  obtain ⟨p, hp⟩ : ∃ p : Nat, m % 24 = p := ⟨(m % 24).toNat, by omega⟩
  obtain ⟨q, hq⟩ : ∃ q : Nat, n % 24 = q := ⟨(n % 24).toNat, by omega⟩
  have hp24 : p < 24 := by omega
  have hq24 : q < 24 := by omega
  obtain ⟨hm0, hm1⟩ := hm
  obtain ⟨hn0, hn1⟩ := hn
  obtain ⟨k1, hk1⟩ : ∃ k1, stepN k p = k1 := ⟨_, rfl⟩
  obtain ⟨k2, hk2⟩ : ∃ k2, stepN k1 q = k2 := ⟨_, rfl⟩
  have hl1 : k1.length = 32 := by rw [← hk1]; exact length_stepN k hk p
  have hl2 : k2.length = 32 := by rw [← hk2]; exact length_stepN k1 hl1 q
  have hk12 : stepN k (p + q) = k2 := by rw [← stepN_add, hk1, hk2]
  have so1 : stepOut k p = .tuple #[.agg (dCells k1), .int .i64 0] := by rw [stepOut, if_neg (by omega), if_neg (by omega), ← hk1]; rfl
  have so2 : stepOut k1 q = .tuple #[.agg (dCells k2), .int .i64 0] := by rw [stepOut, if_neg (by omega), if_neg (by omega), ← hk2]; rfl
  have so3 : stepOut k ((p : Int) + q) = .tuple #[.agg (dCells k2), .int .i64 0] := by rw [stepOut, if_neg (by omega), if_neg (by omega), ← hk12]; rfl
  have HI1 := Lib.hid (info_key' _ hl1); have HS1 := Lib.hid (size_dCells _ hl1); have HO1 := Lib.hid (one_dCells k1)
  have HI2 := Lib.hid (info_key' _ hl2); have HS2 := Lib.hid (size_dCells _ hl2); have HO2 := Lib.hid (one_dCells k2)
  have eq2 : ∀ w, (Op.equalIn 10000 23 (.agg (dCells k2)) (.agg (dCells k2))).run Tryd.prog w = .ok true w := fun w => (eqIn_key k2 k2 hl2 hl2 w).trans (by simp)
  have hG := eqG_key
  clear hk1 hk2 hk12
  have HI0 := Lib.hid (info_key' _ hk)
  obtain ⟨B, hB⟩ : ∃ B, w.heap.size = B := ⟨_, rfl⟩
  rw [hB]
  have hb1 : Below B w (w.alloc (.cells (dCells k) 23)) := (Below.refl B w).alloc (by omega) _
  have rA : (w.alloc (.cells (dCells k) 23)).heap[B]? = some (.cells (dCells k) 23 (0, 0)) := by rw [← hB]; exact heap_alloc_new w _
  have he1 := he.below (show Below w.heap.size w (w.alloc (.cells (dCells k) 23)) by rw [hB]; exact hb1)
  have hle : B ≤ w.heap.size := Nat.le_of_eq hB.symm
  go_enter Tryd.func5, Tryd.ntmps5
  go_upto_region 1 with (fail)
  generalize w.alloc (.cells (dCells k) 23) = w1 at *
  have hsn := sane7_any w1 he1
  go_upto_region 3 with (go_at_call 16; refine hsn.mono ?_; rintro e w2 ⟨rfl, hb2⟩)
  have rA2 := row_below rA hb2
  have he2 := he1.below hb2
  have hB2 := below_trB hle hb1 hb2
  clear hsn rA he1 hb1 hb2
  have hs1 := step_any k p w2 hk (by omega) he2
  rw [so1] at hs1
  go_upto_region 5 with (first
    | (refine wpList_load_row rfl 23 _ rfl B rfl 23 _ (0, 0) _ rA2 Tryd.underlying23 rfl HI0.out ?_)
    | (go_at_call 17; refine hs1.mono ?_; rintro e v ⟨rfl, hv⟩)
    | (refine st_new rfl 23 _ _ rfl (dCells k1) _ 23 rfl rfl HI1.out (by rw [HS1.out]; rfl) HO1.out ?_))
  have hv2 : Below w2.heap.size w2 (v.alloc (.cells (dCells k1) 23)) := below_tr hv (below_al _ _)
  have rA3 := row_below rA2 hv2
  have rX3 := heap_alloc_new v (.cells (dCells k1) 23)
  have hB3 := below_trB hle hB2 hv2
  have he3 := he2.below hv2
  clear hs1 hv hv2 rA2 he2 hB2
  generalize v.alloc (.cells (dCells k1) 23) = w3 at *
  generalize v.heap.size = bX at *
  have hs2 := step_any k1 q w3 hl1 (by omega) he3
  rw [so2] at hs2
  go_upto_region 6 with (first
    | (refine wpList_load_row rfl 23 _ rfl bX rfl 23 _ (0, 0) _ rX3 Tryd.underlying23 rfl HI1.out ?_)
    | (go_at_call 17; refine hs2.mono ?_; rintro e u ⟨rfl, hu⟩)
    | (refine st_new rfl 23 _ _ rfl (dCells k2) _ 23 rfl rfl HI2.out (by rw [HS2.out]; rfl) HO2.out ?_))
  have hu2 : Below w3.heap.size w3 (u.alloc (.cells (dCells k2) 23)) := below_tr hu (below_al _ _)
  have rA4 := row_below rA3 hu2
  have rY4 := heap_alloc_new u (.cells (dCells k2) 23)
  have hB4 := below_trB hle hB3 hu2
  have he4 := he3.below hu2
  clear hs2 hu hu2 rA3 rX3 he3 hB3
  generalize u.alloc (.cells (dCells k2) 23) = w4 at *
  generalize u.heap.size = bY at *
  have hs3 := step_any k ((p : Int) + q) w4 hk (by omega) he4
  rw [so3] at hs3
  go_upto_region 7 with (first
    | (refine wpList_load_row rfl 23 _ rfl B rfl 23 _ (0, 0) _ rA4 Tryd.underlying23 rfl HI0.out ?_)
    | (go_at_call 17; refine hs3.mono ?_; rintro e x ⟨rfl, hx⟩)
    | (refine st_new rfl 23 _ _ rfl (dCells k2) _ 23 rfl rfl HI2.out (by rw [HS2.out]; rfl) HO2.out ?_))
  have hx2 : Below w4.heap.size w4 (x.alloc (.cells (dCells k2) 23)) := below_tr hx (below_al _ _)
  have rY5 := row_below rY4 hx2
  have rZ5 := heap_alloc_new x (.cells (dCells k2) 23)
  have hB5 := below_trB hle hB4 hx2
  clear hs3 hx hx2 rA4 rY4 he4 hB4
  generalize x.alloc (.cells (dCells k2) 23) = w5 at *
  generalize x.heap.size = bZ at *
  go_wp2_with (first
    | (refine wpList_load_rowg rfl 23 _ rfl bY rfl 23 _ (0, 0) _ rY5 Tryd.underlying23 rfl HI2.out ?_)
    | (refine wpList_load_rowg rfl 23 _ rfl bZ rfl 23 _ (0, 0) _ rZ5 Tryd.underlying23 rfl HI2.out ?_))
  go_ret
  exact ⟨rfl, hB5⟩
end Chart
