/- The reference's Check on lists of leaves. -/
import Derived.Test.YtphgokaeonkjaaaDoorEncode
namespace Chart
open Go Go.RowKit Go.Proofs

set_option maxHeartbeats 2000000 in
set_option maxRecDepth 100000 in
theorem refformed_leaf (lf : Leaf) (w : World) :
    Calls Tryd.prog 121 #[.agg lf.cells] w fun e w' => e = .returned (.bool true) ∧ Below w.heap.size w w' := by
  cases lf with
  | int n =>
    unfold Leaf.cells
    go_enter Tryd.func121, Tryd.ntmps121
    go_wp2
    all_goals go_ret
    all_goals exact ⟨rfl, (Below.refl _ w).alloc (Nat.le_refl _) _⟩
  | text s =>
    unfold Leaf.cells
    go_enter Tryd.func121, Tryd.ntmps121
    go_wp2
    all_goals go_ret
    all_goals exact ⟨rfl, (Below.refl _ w).alloc (Nat.le_refl _) _⟩

set_option maxHeartbeats 2000000 in
set_option maxRecDepth 100000 in
theorem refdepth_leaf (lf : Leaf) (w : World) :
    Calls Tryd.prog 122 #[.agg lf.cells] w fun e w' => e = .returned (.int .i64 0) ∧ Below w.heap.size w w' := by
  cases lf with
  | int n =>
    unfold Leaf.cells
    go_enter Tryd.func122, Tryd.ntmps122
    go_wp2
    all_goals go_ret
    all_goals exact ⟨rfl, (Below.refl _ w).alloc (Nat.le_refl _) _⟩
  | text s =>
    unfold Leaf.cells
    go_enter Tryd.func122, Tryd.ntmps122
    go_wp2
    all_goals go_ret
    all_goals exact ⟨rfl, (Below.refl _ w).alloc (Nat.le_refl _) _⟩

set_option maxHeartbeats 4000000 in
set_option maxRecDepth 100000 in
theorem refformed_list (b0 off N cap : Nat) (ls : List Leaf) (w : World) (hN : ls.length = N) (hL : LeavesAt w b0 off ls) (hb0 : b0 < w.heap.size) (hcap : N ≤ cap) (hmax : cap ≤ maxLen) :
    Calls Tryd.prog 121 #[.agg (lCells (.slice (some ⟨b0, off, none⟩) N cap))] w fun e w' => e = .returned (.bool true) ∧ Below w.heap.size w w' := by
  unfold maxLen at hmax
  unfold lCells
  obtain ⟨B, hB⟩ : ∃ B, w.heap.size = B := ⟨_, rfl⟩
  rw [hB] at hb0 ⊢
  have hB0 : ∀ o1, Below B w (w.alloc o1) := fun o1 => (Below.refl B w).alloc (by omega) o1
  have hrow : (w.alloc (.cells #[.int .i64 3, .int .i64 0, .string { data := #[] }, .slice (some ⟨b0, off, none⟩) N cap] 62)).heap[B]? = some (.cells #[.int .i64 3, .int .i64 0, .string { data := #[] }, .slice (some ⟨b0, off, none⟩) N cap] 62 (0, 0)) := by rw [← hB]; exact heap_alloc_new w _
  have hs1 : (w.alloc (.cells #[.int .i64 3, .int .i64 0, .string { data := #[] }, .slice (some ⟨b0, off, none⟩) N cap] 62)).heap.size = B + 1 := by simp [hB]
  go_enter Tryd.func121, Tryd.ntmps121
  go_wp2
  have HB0 := hB0 (.cells #[.int .i64 3, .int .i64 0, .string { data := #[] }, .slice (some ⟨b0, off, none⟩) N cap] 62)
  clear hB0
  generalize w.alloc (.cells #[.int .i64 3, .int .i64 0, .string { data := #[] }, .slice (some ⟨b0, off, none⟩) N cap] 62) = w1 at *
  have hB1 := HB0.size
  go_loopw [3] (fun t wr => ∃ k : Nat, k ≤ N ∧ t = .int .i64 k ∧ Below (B + 1) w1 wr) (fun t _ => N - (intOf t).toNat)
  case atStart => exact ⟨0, by omega, rfl, Below.refl _ _⟩
  case round =>
    obtain ⟨k, hk, rfl, hg⟩ := hrel
    have hgs := hg.size
    have hrow2 := (hg.block B (by omega)).trans hrow
    have k3 : wr.cell? ⟨B, 3, none⟩ = some (.slice (some ⟨b0, off, none⟩) N cap) := cell_of_row wr B 3 _ _ _ hrow2
    have k1 : wr.cell? ⟨B, 1, none⟩ = some (.int .i64 0) := cell_of_row wr B 1 _ _ _ hrow2
    have k2 : wr.cell? ⟨B, 2, none⟩ = some (.string { data := #[] }) := cell_of_row wr B 2 _ _ _ hrow2
    by_cases hlt : k < N
    · obtain ⟨lf, hlf⟩ : ∃ lf, ls[k]? = some lf := ⟨ls[k]'(by omega), by simp [hN, hlt]⟩
      have hcell : ∀ j u, lf.cells[j]? = some u → wr.cell? ⟨b0, off + k * 4 + j, none⟩ = some u := fun j u hj => ((HB0.trans (hg.mono (Nat.le_succ _))).cell (p := ⟨b0, off + k * 4 + j, none⟩) hb0).trans (hL k lf hlf j u hj)
      have hfm := refformed_leaf lf wr
      cases lf with
      | int n =>
        have c0 : wr.cell? ⟨b0, off + k * 4, none⟩ = some (.int .i64 1) := hcell 0 _ rfl
        have c1 := hcell 1 _ rfl
        have c2 := hcell 2 _ rfl
        have c3 := hcell 3 _ rfl
        clear hcell
        unfold Leaf.cells at hfm
        go_wp2_with fail
        refine hfm.mono ?_
        rintro e w6 ⟨rfl, hb6⟩
        go_wp2
        go_roundw
        case rel => exact ⟨k + 1, by omega, by go_num, hg.trans (hb6.mono (by omega))⟩
        case measure => simp [intOf]; omega
      | text str =>
        have c0 : wr.cell? ⟨b0, off + k * 4, none⟩ = some (.int .i64 2) := hcell 0 _ rfl
        have c1 := hcell 1 _ rfl
        have c2 := hcell 2 _ rfl
        have c3 := hcell 3 _ rfl
        clear hcell
        unfold Leaf.cells at hfm
        go_wp2_with fail
        refine hfm.mono ?_
        rintro e w6 ⟨rfl, hb6⟩
        go_wp2
        go_roundw
        case rel => exact ⟨k + 1, by omega, by go_num, hg.trans (hb6.mono (by omega))⟩
        case measure => simp [intOf]; omega
    · obtain rfl : k = N := by omega
      go_wp2
      go_ret
      exact ⟨rfl, HB0.trans (hg.mono (Nat.le_succ _))⟩

set_option maxHeartbeats 4000000 in
set_option maxRecDepth 100000 in
theorem refdepth_list (b0 off N cap : Nat) (ls : List Leaf) (w : World) (hN : ls.length = N) (hL : LeavesAt w b0 off ls) (hb0 : b0 < w.heap.size) (hcap : N ≤ cap) (hmax : cap ≤ maxLen) :
    Calls Tryd.prog 122 #[.agg (lCells (.slice (some ⟨b0, off, none⟩) N cap))] w fun e w' => e = .returned (.int .i64 1) ∧ Below w.heap.size w w' := by
  unfold maxLen at hmax
  unfold lCells
  obtain ⟨B, hB⟩ : ∃ B, w.heap.size = B := ⟨_, rfl⟩
  rw [hB] at hb0 ⊢
  have hB0 : ∀ o1, Below B w (w.alloc o1) := fun o1 => (Below.refl B w).alloc (by omega) o1
  have hrow : (w.alloc (.cells #[.int .i64 3, .int .i64 0, .string { data := #[] }, .slice (some ⟨b0, off, none⟩) N cap] 62)).heap[B]? = some (.cells #[.int .i64 3, .int .i64 0, .string { data := #[] }, .slice (some ⟨b0, off, none⟩) N cap] 62 (0, 0)) := by rw [← hB]; exact heap_alloc_new w _
  have hs1 : (w.alloc (.cells #[.int .i64 3, .int .i64 0, .string { data := #[] }, .slice (some ⟨b0, off, none⟩) N cap] 62)).heap.size = B + 1 := by simp [hB]
  go_enter Tryd.func122, Tryd.ntmps122
  go_wp2
  have HB0 := hB0 (.cells #[.int .i64 3, .int .i64 0, .string { data := #[] }, .slice (some ⟨b0, off, none⟩) N cap] 62)
  clear hB0
  generalize w.alloc (.cells #[.int .i64 3, .int .i64 0, .string { data := #[] }, .slice (some ⟨b0, off, none⟩) N cap] 62) = w1 at *
  have hB1 := HB0.size
  go_loopw [4, 3] (fun t d wr => ∃ k : Nat, k ≤ N ∧ t = .int .i64 k ∧ d = .int .i64 0 ∧ Below (B + 1) w1 wr) (fun t _ _ => N - (intOf t).toNat)
  case atStart => exact ⟨0, by omega, rfl, rfl, Below.refl _ _⟩
  case round =>
    obtain ⟨k, hk, rfl, rfl, hg⟩ := hrel
    have hgs := hg.size
    have hrow2 := (hg.block B (by omega)).trans hrow
    have k3 : wr.cell? ⟨B, 3, none⟩ = some (.slice (some ⟨b0, off, none⟩) N cap) := cell_of_row wr B 3 _ _ _ hrow2
    by_cases hlt : k < N
    · obtain ⟨lf, hlf⟩ : ∃ lf, ls[k]? = some lf := ⟨ls[k]'(by omega), by simp [hN, hlt]⟩
      have hcell : ∀ j u, lf.cells[j]? = some u → wr.cell? ⟨b0, off + k * 4 + j, none⟩ = some u := fun j u hj => ((HB0.trans (hg.mono (Nat.le_succ _))).cell (p := ⟨b0, off + k * 4 + j, none⟩) hb0).trans (hL k lf hlf j u hj)
      have hfm := refdepth_leaf lf wr
      cases lf with
      | int n =>
        have c0 : wr.cell? ⟨b0, off + k * 4, none⟩ = some (.int .i64 1) := hcell 0 _ rfl
        have c1 := hcell 1 _ rfl
        have c2 := hcell 2 _ rfl
        have c3 := hcell 3 _ rfl
        clear hcell
        unfold Leaf.cells at hfm
        go_wp2_with fail
        refine hfm.mono ?_
        rintro e w6 ⟨rfl, hb6⟩
        go_wp2
        go_roundw
        case rel => exact ⟨k + 1, by omega, by go_num, rfl, hg.trans (hb6.mono (by omega))⟩
        case measure => simp [intOf]; omega
      | text str =>
        have c0 : wr.cell? ⟨b0, off + k * 4, none⟩ = some (.int .i64 2) := hcell 0 _ rfl
        have c1 := hcell 1 _ rfl
        have c2 := hcell 2 _ rfl
        have c3 := hcell 3 _ rfl
        clear hcell
        unfold Leaf.cells at hfm
        go_wp2_with fail
        refine hfm.mono ?_
        rintro e w6 ⟨rfl, hb6⟩
        go_wp2
        go_roundw
        case rel => exact ⟨k + 1, by omega, by go_num, rfl, hg.trans (hb6.mono (by omega))⟩
        case measure => simp [intOf]; omega
    · obtain rfl : k = N := by omega
      go_wp2
      go_ret
      exact ⟨rfl, HB0.trans (hg.mono (Nat.le_succ _))⟩

set_option maxHeartbeats 4000000 in
set_option maxRecDepth 100000 in
theorem refcheck_list (b0 off N cap : Nat) (ls : List Leaf) (w : World) (hN : ls.length = N) (hL : LeavesAt w b0 off ls) (hb0 : b0 < w.heap.size) (hcap : N ≤ cap) (hmax : cap ≤ maxLen) :
    Calls Tryd.prog 110 #[.agg (lCells (.slice (some ⟨b0, off, none⟩) N cap))] w fun e w' => e = .returned (.int .i64 0) ∧ Below w.heap.size w w' := by
  obtain ⟨B, hB⟩ : ∃ B, w.heap.size = B := ⟨_, rfl⟩
  rw [hB] at hb0 ⊢
  have hB0 : ∀ o1, Below B w (w.alloc o1) := fun o1 => (Below.refl B w).alloc (by omega) o1
  have hL' : ∀ o1 w2, Below (B + 1) (w.alloc o1) w2 → LeavesAt w2 b0 off ls := fun o1 w2 h i lf hi j u hu => (((hB0 o1).trans (h.mono (Nat.le_succ _))).cell (p := ⟨b0, off + i * 4 + j, none⟩) hb0).trans (hL i lf hi j u hu)
  have hf : ∀ o1, Calls Tryd.prog 121 #[.agg (lCells (.slice (some ⟨b0, off, none⟩) N cap))] (w.alloc o1) fun e w' => e = .returned (.bool true) ∧ Below (B + 1) (w.alloc o1) w' := fun o1 =>
    (refformed_list b0 off N cap ls (w.alloc o1) hN (hL' o1 _ (Below.refl _ _)) (by simp; omega) hcap hmax).mono fun e w' h => by rw [World.size_alloc, hB] at h; exact h
  have hd : ∀ o1 w2, Below (B + 1) (w.alloc o1) w2 → Calls Tryd.prog 122 #[.agg (lCells (.slice (some ⟨b0, off, none⟩) N cap))] w2 fun e w' => e = .returned (.int .i64 1) ∧ Below (B + 1) (w.alloc o1) w' := fun o1 w2 h =>
    (refdepth_list b0 off N cap ls w2 hN (hL' o1 _ h) (by have := h.size; simp at this; omega) hcap hmax).mono fun e w' h2 => ⟨h2.1, h.trans (h2.2.mono (by have := h.size; simp at this; omega))⟩
  have hrow : (w.alloc (.cells (lCells (.slice (some ⟨b0, off, none⟩) N cap)) 62)).heap[B]? = some (.cells (lCells (.slice (some ⟨b0, off, none⟩) N cap)) 62 (0, 0)) := by rw [← hB]; exact heap_alloc_new w _
  unfold lCells at hf hd hrow ⊢
  go_enter Tryd.func110, Tryd.ntmps110
  go_wp2_with fail
  refine (hf _).mono ?_
  rintro e w2 ⟨rfl, hb2⟩
  have hrow2 := (hb2.block B (by omega)).trans hrow
  go_wp2_with (refine wpList_load_row rfl 62 _ rfl B rfl 62 _ (0, 0) _ hrow2 Tryd.underlying62 rfl (by kernel_rfl) ?_)
  refine (hd _ _ hb2).mono ?_
  rintro e w3 ⟨rfl, hb3⟩
  go_wp2
  go_ret
  exact ⟨rfl, (hB0 _).trans (hb3.mono (by omega))⟩
end Chart
