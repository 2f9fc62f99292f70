/- Well-formed values. -/
import Derived.Test.YtphgokaeonkjaaaDoorWriters
namespace Chart
open Go Go.RowKit Go.Proofs

set_option maxHeartbeats 2000000 in
set_option maxRecDepth 100000 in
theorem formed_leaf (lf : Leaf) (w : World) :
    Calls Tryd.prog 96 #[.agg lf.cells] w fun e w' => e = .returned (.tuple #[.int .i64 0, .bool true]) ∧ Below w.heap.size w w' := by
  cases lf with
  | int n =>
    unfold Leaf.cells
    by_cases hn : n = 0
    · subst hn
      go_enter Tryd.func96, Tryd.ntmps96
      go_wp2
      go_ret2
      exact ⟨rfl, ((Below.refl _ w).alloc (Nat.le_refl _) _).alloc (by simp) _⟩
    · go_enter Tryd.func96, Tryd.ntmps96
      go_wp2
      go_ret2
      exact ⟨rfl, ((Below.refl _ w).alloc (Nat.le_refl _) _).alloc (by simp) _⟩
  | text s =>
    unfold Leaf.cells
    go_enter Tryd.func96, Tryd.ntmps96
    go_wp2
    all_goals go_ret2
    all_goals exact ⟨rfl, ((Below.refl _ w).alloc (Nat.le_refl _) _).alloc (by simp) _⟩

set_option maxHeartbeats 4000000 in
set_option maxRecDepth 100000 in
theorem formed_list (b0 off N cap : Nat) (ls : List Leaf) (w : World) (hN : ls.length = N) (hL : LeavesAt w b0 off ls) (hb0 : b0 < w.heap.size) (hcap : N ≤ cap) (hmax : cap ≤ maxLen) :
    Calls Tryd.prog 96 #[.agg (lCells (.slice (some ⟨b0, off, none⟩) N cap))] w fun e w' => e = .returned (.tuple #[.int .i64 1, .bool true]) ∧ Below w.heap.size w w' := by
  unfold maxLen at hmax
  unfold lCells
  obtain ⟨B, hB⟩ : ∃ B, w.heap.size = B := ⟨_, rfl⟩
  rw [hB] at hb0 ⊢
  have hB0 : ∀ o1 o2, Below B w ((w.alloc o1).alloc o2) := fun o1 o2 => ((Below.refl B w).alloc (by omega) o1).alloc (by simp; omega) o2
  go_enter Tryd.func96, Tryd.ntmps96
  go_wp2
  go_loopw [57, 2] (fun t d wr => ∃ k : Nat, k ≤ N ∧ t = .int .i64 k ∧ d = .int .i64 0 ∧ Below B w wr) (fun t _ _ => N - (intOf t).toNat)
  case atStart => exact ⟨0, by omega, rfl, rfl, hB0 _ _⟩
  case round =>
    clear hB0
    obtain ⟨k, hk, rfl, rfl, hg⟩ := hrel
    have hgs := hg.size
    by_cases hlt : k < N
    · obtain ⟨lf, hlf⟩ : ∃ lf, ls[k]? = some lf := ⟨ls[k]'(by omega), by simp [hN, hlt]⟩
      have hcell : ∀ j u, lf.cells[j]? = some u → wr.cell? ⟨b0, off + k * 4 + j, none⟩ = some u := fun j u hj => (hg.cell (p := ⟨b0, off + k * 4 + j, none⟩) hb0).trans (hL k lf hlf j u hj)
      have hfm : ∀ w', Calls Tryd.prog 96 #[.agg lf.cells] w' fun e w2 => e = .returned (.tuple #[.int .i64 0, .bool true]) ∧ Below w'.heap.size w' w2 := fun w' => formed_leaf lf w'
      obtain ⟨bl, hbl⟩ : ∃ bl, wr.heap.size = bl := ⟨_, rfl⟩
      have hrow : (wr.alloc (.cells lf.cells 62)).heap[bl]? = some (.cells lf.cells 62 (0, 0)) := by rw [← hbl]; exact heap_alloc_new wr _
      have hBx : Below B w (wr.alloc (.cells lf.cells 62)) := hg.alloc (by omega) _
      have hsx : (wr.alloc (.cells lf.cells 62)).heap.size = bl + 1 := by simp [hbl]
      cases lf with
      | int n =>
        have c0 : wr.cell? ⟨b0, off + k * 4, none⟩ = some (.int .i64 1) := hcell 0 _ rfl
        have c1 := hcell 1 _ rfl
        have c2 := hcell 2 _ rfl
        have c3 := hcell 3 _ rfl
        clear hcell
        go_upto_region 9 with (refine st_new rfl 62 _ _ rfl (Leaf.int n).cells _ 62 (by show Value.pointer _ = Value.pointer _; rw [hbl]) rfl (by kernel_rfl) rfl (by kernel_rfl) ?_)
        clear c0 c1 c2 c3
        generalize wr.alloc (.cells (Leaf.int n).cells 62) = w5 at *
        go_wp2_with (refine wpList_load_row rfl 62 _ rfl bl rfl 62 _ (0, 0) _ hrow Tryd.underlying62 rfl (by kernel_rfl) ?_)
        refine (hfm _).mono ?_
        rintro e w6 ⟨rfl, hb6⟩
        go_wp2
        go_roundw
        case rel => exact ⟨k + 1, by omega, by go_num, rfl, hBx.trans (hb6.mono (by omega))⟩
        case measure => simp [intOf]; omega
      | text str =>
        have c0 : wr.cell? ⟨b0, off + k * 4, none⟩ = some (.int .i64 2) := hcell 0 _ rfl
        have c1 := hcell 1 _ rfl
        have c2 := hcell 2 _ rfl
        have c3 := hcell 3 _ rfl
        clear hcell
        go_upto_region 9 with (refine st_new rfl 62 _ _ rfl (Leaf.text str).cells _ 62 (by show Value.pointer _ = Value.pointer _; rw [hbl]) rfl (by kernel_rfl) rfl (by kernel_rfl) ?_)
        clear c0 c1 c2 c3
        generalize wr.alloc (.cells (Leaf.text str).cells 62) = w5 at *
        go_wp2_with (refine wpList_load_row rfl 62 _ rfl bl rfl 62 _ (0, 0) _ hrow Tryd.underlying62 rfl (by kernel_rfl) ?_)
        refine (hfm _).mono ?_
        rintro e w6 ⟨rfl, hb6⟩
        go_wp2
        go_roundw
        case rel => exact ⟨k + 1, by omega, by go_num, rfl, hBx.trans (hb6.mono (by omega))⟩
        case measure => simp [intOf]; omega
    · obtain rfl : k = N := by omega
      go_wp2
      go_ret2
      exact ⟨rfl, hg⟩
end Chart
