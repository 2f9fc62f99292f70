/- The encoding of a list of leaves. -/
import Derived.Test.YtphgokaeonkjaaaDoorFormed
namespace Chart
open Go Go.RowKit Go.Proofs

theorem OB.mono {w : World} {B B' : Nat} {v : Value} {l : List (BitVec 8)} (h : OB w B v l) (hb : B' ≤ B) : OB w B' v l := by
  refine ⟨h.1, ?_⟩
  rcases h.2 with h2 | ⟨g, cap, cur, h1, h2, h3⟩
  · exact .inl h2
  · exact .inr ⟨g, cap, cur, h1, Nat.le_trans hb h2, h3⟩

set_option maxHeartbeats 4000000 in
set_option maxRecDepth 100000 in
theorem check_list (b0 off N cap : Nat) (ls : List Leaf) (w : World) (hN : ls.length = N) (hL : LeavesAt w b0 off ls) (hb0 : b0 < w.heap.size) (hcap : N ≤ cap) (hmax : cap ≤ maxLen) :
    Calls Tryd.prog 72 #[.agg (lCells (.slice (some ⟨b0, off, none⟩) N cap))] w fun e w' => e = .returned (.int .i64 0) ∧ Below w.heap.size w w' := by
  obtain ⟨B, hB⟩ : ∃ B, w.heap.size = B := ⟨_, rfl⟩
  rw [hB] at hb0 ⊢
  have hB0 : ∀ o1, Below B w (w.alloc o1) := fun o1 => (Below.refl B w).alloc (by omega) o1
  have hf : ∀ o1, Calls Tryd.prog 96 #[.agg (lCells (.slice (some ⟨b0, off, none⟩) N cap))] (w.alloc o1) fun e w' => e = .returned (.tuple #[.int .i64 1, .bool true]) ∧ Below (B + 1) (w.alloc o1) w' := fun o1 =>
    (formed_list b0 off N cap ls (w.alloc o1) hN (fun i lf h j u hu => ((hB0 o1).cell (p := ⟨b0, off + i * 4 + j, none⟩) hb0).trans (hL i lf h j u hu)) (by simp; omega) hcap hmax).mono fun e w' h => by rw [World.size_alloc, hB] at h; exact h
  unfold lCells at hf ⊢
  go_enter Tryd.func72, Tryd.ntmps72
  go_wp2_with fail
  refine (hf _).mono ?_
  rintro e w2 ⟨rfl, hb2⟩
  go_wp2
  go_ret
  exact ⟨rfl, (hB0 _).trans (hb2.mono (by omega))⟩

set_option maxHeartbeats 4000000 in
set_option maxRecDepth 100000 in
theorem encode_list (b0 off N cap : Nat) (ls : List Leaf) (w : World) (hN : ls.length = N) (hL : LeavesAt w b0 off ls) (hok : ∀ lf ∈ ls, lf.ok) (hb0 : b0 < w.heap.size) (hcap : N ≤ cap) (hmax : cap ≤ maxLen) (hl : (encL ls).length + 100 ≤ 140737488355328) :
    Calls Tryd.prog 52 #[.agg (lCells (.slice (some ⟨b0, off, none⟩) N cap))] w fun e w' => ∃ v', e = .returned (.tuple #[v', .int .i64 0]) ∧ OB w' w.heap.size v' (encL ls) ∧ Below w.heap.size w w' := by
  obtain ⟨B, hB⟩ : ∃ B, w.heap.size = B := ⟨_, rfl⟩
  rw [hB] at hb0 ⊢
  have hwr : ∀ (w3 : World) (p bt : Nat), Below B w w3 → w3.cell? ⟨bt, 1, none⟩ = some (.func (.func 97) #[] #[]) → w3.cell? ⟨bt, 2, none⟩ = some (.func (.func 100) #[] #[]) →
      w3.cell? ⟨p, 0, none⟩ = some (.pointer (some ⟨bt, 0, none⟩)) →
      Calls Tryd.prog 101 #[.slice none 0 0, .agg #[.int .i64 3, .int .i64 0, .string { data := #[] }, .slice (some ⟨b0, off, none⟩) N cap], .pointer (some ⟨p, 0, none⟩)] w3 fun e w' => ∃ v', e = .returned v' ∧ OB w' w3.heap.size v' (encL ls) ∧ Below w3.heap.size w3 w' := fun w3 p bt hB3 t1 t2 t4 => by
    have := write3_any (.slice none 0 0) [] ls b0 off cap p bt w3 w3.heap.size (Nat.le_refl _) (OB.nil _ _) (fun i lf h j u hu => (hB3.cell (p := ⟨b0, off + i * 4 + j, none⟩) hb0).trans (hL i lf h j u hu)) hok
            (Nat.lt_of_lt_of_le (Nat.lt_of_lt_of_le hb0 (Nat.le_of_eq hB.symm)) hB3.size) (World.block_lt_of_cell? w3 ⟨p, 0, none⟩ t4) (World.block_lt_of_cell? w3 ⟨bt, 1, none⟩ t1) (by rw [hN]; exact hcap) hmax t1 t2 t4 (by rw [List.length_nil]; omega)
    rw [hN, List.nil_append] at this
    exact this
  have hB0 : ∀ o1, Below B w (w.alloc o1) := fun o1 => (Below.refl B w).alloc (by omega) o1
  have hf : ∀ o1, Calls Tryd.prog 72 #[.agg (lCells (.slice (some ⟨b0, off, none⟩) N cap))] (w.alloc o1) fun e w' => e = .returned (.int .i64 0) ∧ Below (B + 1) (w.alloc o1) w' := fun o1 =>
    (check_list b0 off N cap ls (w.alloc o1) hN (fun i lf h j u hu => ((hB0 o1).cell (p := ⟨b0, off + i * 4 + j, none⟩) hb0).trans (hL i lf h j u hu)) (by simp; omega) hcap hmax).mono fun e w' h => by rw [World.size_alloc, hB] at h; exact h
  have hrow : (w.alloc (.cells (lCells (.slice (some ⟨b0, off, none⟩) N cap)) 62)).heap[B]? = some (.cells (lCells (.slice (some ⟨b0, off, none⟩) N cap)) 62 (0, 0)) := by rw [← hB]; exact heap_alloc_new w _
  unfold lCells at hf hrow ⊢
  go_enter Tryd.func52, Tryd.ntmps52
  go_wp2_with fail
  refine (hf _).mono ?_
  rintro e w2 ⟨rfl, hb2⟩
  have hrow2 := (hb2.block B (by omega)).trans hrow
  have hB2 := (hB0 (.cells #[.int .i64 3, .int .i64 0, .string { data := #[] }, .slice (some ⟨b0, off, none⟩) N cap] 62)).trans (hb2.mono (by omega))
  have hs2 := hb2.size
  rw [World.size_alloc, hB] at hs2
  clear hf hrow hb2
  have k0 : w2.cell? ⟨B, 0, none⟩ = some (.int .i64 3) := cell_of_row w2 B 0 _ _ _ hrow2
  have k1 : w2.cell? ⟨B, 1, none⟩ = some (.int .i64 0) := cell_of_row w2 B 1 _ _ _ hrow2
  have k2 : w2.cell? ⟨B, 2, none⟩ = some (.string { data := #[] }) := cell_of_row w2 B 2 _ _ _ hrow2
  have k3 : w2.cell? ⟨B, 3, none⟩ = some (.slice (some ⟨b0, off, none⟩) N cap) := cell_of_row w2 B 3 _ _ _ hrow2
  go_wp2_with fail
  have hBlt : B < w2.heap.size := by omega
  go_region_with
    (first
      | (go_at_call 73; refine (newWriter_any _).mono ?_; rintro e w3 ⟨bt, rfl, ⟨p, t1, t2, t3, t4⟩, hbt, hb3⟩
         have m0 := (hb3.cell (p := ⟨B, 0, none⟩) hBlt).trans k0
         have m1 := (hb3.cell (p := ⟨B, 1, none⟩) hBlt).trans k1
         have m2 := (hb3.cell (p := ⟨B, 2, none⟩) hBlt).trans k2
         have m3 := (hb3.cell (p := ⟨B, 3, none⟩) hBlt).trans k3
         have hB3 : Below B w w3 := (hB2.drew).trans (hb3.mono (Nat.le_of_lt hBlt)))
      | (go_at_call 101; refine (hwr w3 p bt hB3 t1 t2 t4).mono ?_; rintro e w4 ⟨v4, rfl, ho4, hb4⟩
         have hlt3 := World.block_lt_of_cell? w3 ⟨B, 0, none⟩ m0
         have q0 := (hb4.cell (p := ⟨B, 0, none⟩) hlt3).trans m0
         have q1 := (hb4.cell (p := ⟨B, 1, none⟩) hlt3).trans m1
         have q2 := (hb4.cell (p := ⟨B, 2, none⟩) hlt3).trans m2
         have q3 := (hb4.cell (p := ⟨B, 3, none⟩) hlt3).trans m3))
  all_goals go_wp2
  all_goals go_ret2
  all_goals exact ⟨v4, rfl, ho4.mono (by have := hB3.size; omega), hB3.trans (hb4.mono (by have := hB3.size; omega))⟩
end Chart
