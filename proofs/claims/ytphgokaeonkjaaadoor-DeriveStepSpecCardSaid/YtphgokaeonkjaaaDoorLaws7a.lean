/- The laws on Step and Scalar. -/
import Derived.Test.YtphgokaeonkjaaaDoorSane7
namespace Chart
open Go Go.RowKit Go.Proofs

theorem stepOut_form (k : List (BitVec 8)) (n : Int) (hk : k.length = 32) : ∃ (x : List (BitVec 8)) (e : Int), x.length = 32 ∧ stepOut k n = .tuple #[.agg (dCells x), .int .i64 e] := by
  unfold stepOut
  by_cases h0 : n < 0
  · exact ⟨zkey, 1, rfl, by rw [if_pos h0]⟩
  · by_cases h1 : n > 65536
    · exact ⟨zkey, 2, rfl, by rw [if_neg h0, if_pos h1]⟩
    · exact ⟨stepN k n.toNat, 0, length_stepN k hk _, by rw [if_neg h0, if_neg h1]⟩

set_option maxHeartbeats 4000000 in
set_option maxRecDepth 100000 in
theorem stepLaw_any (k : List (BitVec 8)) (n : Int) (w : World) (hk : k.length = 32) (hn : n ≤ 9223372036854775807) (he : ShaEnv w) :
    Calls Tryd.prog 3 #[.agg (dCells k), .int .i64 n] w fun e w' => e = .returned (.bool true) ∧ Below w.heap.size w w' := by
  have HI0 := Lib.hid (info_key' _ hk)
  obtain ⟨x, ee, hx, hso⟩ := stepOut_form k n hk
  have HI := Lib.hid (info_key' _ hx); have HS := Lib.hid (size_dCells _ hx); have HO := Lib.hid (one_dCells x)
  have eqx : ∀ w, (Op.equalIn 10000 23 (.agg (dCells x)) (.agg (dCells x))).run Tryd.prog w = .ok true w := fun w => (eqIn_key x x hx hx w).trans (by simp)
  have hG := eqG_key
  obtain ⟨B, hB⟩ : ∃ B, w.heap.size = B := ⟨_, rfl⟩
  rw [hB]
  have hb1 : Below B w (w.alloc (.cells (dCells k) 23)) := (Below.refl B w).alloc (by omega) _
  have rA : (w.alloc (.cells (dCells k) 23)).heap[B]? = some (.cells (dCells k) 23 (0, 0)) := by rw [← hB]; exact heap_alloc_new w _
  have he1 := he.below (show Below w.heap.size w (w.alloc (.cells (dCells k) 23)) by rw [hB]; exact hb1)
  have hs1 := hb1.size
  have hle : B ≤ w.heap.size := Nat.le_of_eq hB.symm
  go_enter Tryd.func3, Tryd.ntmps3
  go_upto_region 1 with (fail)
  generalize w.alloc (.cells (dCells k) 23) = w1 at *
  have hsn := sane7_any w1 he1
  go_upto_region 3 with (go_at_call 16; refine hsn.mono ?_; rintro e w2 ⟨rfl, hb2⟩)
  have rA2 := row_below rA hb2
  have he2 := he1.below hb2
  have hB2 := below_trB hle hb1 hb2
  clear hsn rA he1 hb1 hb2 hs1
  by_cases h60 : n > 60 ∧ n ≤ 65536
  · obtain ⟨h6, h7⟩ := h60
    go_wp2
    go_ret
    exact ⟨rfl, hB2⟩
  · have hst := step_any k n w2 hk hn he2
    rw [hso] at hst
    have hrs := fun w' => refstep_any k n w' hk hn
    rw [hso] at hrs
    have h67 : n > 60 ∧ ¬ n ≤ 65536 ∨ ¬ n > 60 := by omega
    rcases h67 with ⟨h6, h7⟩ | h6
    all_goals go_upto_region 5 with (fail)
    all_goals clear h6 h60
    all_goals go_upto_region 6 with (first
      | (refine wpList_load_row rfl 23 _ rfl B rfl 23 _ (0, 0) _ rA2 Tryd.underlying23 rfl HI0.out ?_)
      | (go_at_call 17; refine hst.mono ?_; rintro e v ⟨rfl, hv⟩)
      | (refine st_new rfl 23 _ _ rfl (dCells x) _ 23 rfl rfl HI.out (by rw [HS.out]; rfl) HO.out ?_))
    all_goals have hv2 : Below w2.heap.size w2 (v.alloc (.cells (dCells x) 23)) := below_tr hv (below_al _ _)
    all_goals have rA3 := row_below rA2 hv2
    all_goals have rX := heap_alloc_new v (.cells (dCells x) 23)
    all_goals have hB3 := below_trB hle hB2 hv2
    all_goals generalize v.alloc (.cells (dCells x) 23) = w3 at *
    all_goals generalize v.heap.size = bX at *
    all_goals have hrs3 := hrs w3
    all_goals clear hrs hst hB2 rA2 hv hv2 he2
    all_goals go_upto_region 7 with (first
      | (refine wpList_load_row rfl 23 _ rfl B rfl 23 _ (0, 0) _ rA3 Tryd.underlying23 rfl HI0.out ?_)
      | (go_at_call 18; refine hrs3.mono ?_; rintro e u ⟨rfl, hu⟩)
      | (refine st_new rfl 23 _ _ rfl (dCells x) _ 23 rfl rfl HI.out (by rw [HS.out]; rfl) HO.out ?_))
    all_goals have hu2 : Below w3.heap.size w3 (u.alloc (.cells (dCells x) 23)) := below_tr hu (below_al _ _)
    all_goals have rX4 := row_below rX hu2
    all_goals have rY := heap_alloc_new u (.cells (dCells x) 23)
    all_goals have hB4 := below_trB hle hB3 hu2
    all_goals generalize u.alloc (.cells (dCells x) 23) = w4 at *
    all_goals generalize u.heap.size = bY at *
    all_goals clear hrs3 hB3 rX hu hu2 rA3
    all_goals go_wp2_with (first
      | (refine wpList_load_row rfl 23 _ rfl bX rfl 23 _ (0, 0) _ rX4 Tryd.underlying23 rfl HI.out ?_)
      | (refine wpList_load_row rfl 23 _ rfl bY rfl 23 _ (0, 0) _ rY Tryd.underlying23 rfl HI.out ?_))
    all_goals go_ret
    all_goals exact ⟨rfl, hB4⟩
end Chart
