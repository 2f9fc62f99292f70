/- The reference's encoding of leaves and of lists of leaves. -/
import Derived.Test.YtphgokaeonkjaaaDoorRefForm
namespace Chart
open Go Go.RowKit Go.Proofs

theorem OB.ne {w : World} {b : Nat} {v : Value} {l : List (BitVec 8)} (h : OB w (b + 1) v l) : some b ≠ v.ownBlock := fun e => by have := (h.lt b e.symm).1; omega

theorem refnumeral_u64 (u : Nat) (w : World) (hu : u < 2 ^ 64) :
    Calls Tryd.prog 123 #[.int .u64 u] w fun e w' => ∃ v', e = .returned v' ∧ OB w' w.heap.size v' (numl u) ∧ Below w.heap.size w w' ∧ (numl u).length ≤ 10 :=
  refnumeral_any 10 u w hu (Nat.lt_of_lt_of_le hu (by decide)) (by omega) (Nat.le_refl _)

set_option maxHeartbeats 2000000 in
set_option maxRecDepth 100000 in
theorem refencode_int (n : Int) (w : World) (h0 : -9223372036854775808 ≤ n) (h1 : n ≤ 9223372036854775807) :
    Calls Tryd.prog 111 #[.agg (Leaf.int n).cells] w fun e w' => ∃ v', e = .returned v' ∧ OB w' w.heap.size v' (Leaf.int n).enc ∧ Below w.heap.size w w' := by
  obtain ⟨b, hb⟩ : ∃ b, w.heap.size = b := ⟨_, rfl⟩
  have hz := zz_lt n h0 h1
  rw [hb]
  unfold Leaf.cells
  go_enter Tryd.func111, Tryd.ntmps111
  go_wp2_with fail
  refine (refunsigned_any n _ h0 h1).mono ?_
  rintro e w2 ⟨rfl, rfl⟩
  go_wp2_with fail
  have hone := OB.one (w.alloc (.cells #[.int .i64 1, .int .i64 n, .string { data := #[] }, .slice none 0 0] 62)) b (b + 1) 1#8 _ (by simp [hb]) rfl (by omega)
  have hB2 : Below b w ((w.alloc (.cells #[.int .i64 1, .int .i64 n, .string { data := #[] }, .slice none 0 0] 62)).alloc (.cells #[.int .u8 1] 5)) := ((Below.refl b w).alloc (by omega) _).alloc (by simp; omega) _
  refine (refnumeral_u64 (zz n) _ hz).mono ?_
  rintro e w3 ⟨v3, rfl, ho3, hb3, hl3⟩
  have ho1 := OB.below hone hb3
  have hs3 := hb3.size
  rw [World.size_alloc, World.size_alloc, hb] at hs3 hb3
  go_wp2_with (at_builtin; refine app2 rfl _ _ rfl b _ _ rfl ho1 _ _ rfl ho3.bs (by simp; omega) (by omega) ?_; intro v4 w4 ho4 hg4)
  go_ret
  exact ⟨_, rfl, ho4, (hB2.trans (hb3.mono (by omega))).trans (hg4.below (by omega) ho1)⟩

set_option maxHeartbeats 4000000 in
set_option maxRecDepth 100000 in
theorem refencode_text (s : ByteArray) (w : World) (h0 : s.size + 100 ≤ 140737488355328) :
    Calls Tryd.prog 111 #[.agg (Leaf.text s).cells] w fun e w' => ∃ v', e = .returned v' ∧ OB w' w.heap.size v' (Leaf.text s).enc ∧ Below w.heap.size w w' := by
  obtain ⟨b, hb⟩ : ∃ b, w.heap.size = b := ⟨_, rfl⟩
  have hz : s.size < 2 ^ 64 := by omega
  have w64 : IntKind.u64.wrap (s.size : Int) = (s.size : Int) := by rw [wrap_u64_mod]; omega
  rw [hb]
  unfold Leaf.cells
  go_enter Tryd.func111, Tryd.ntmps111
  go_wp2_with fail
  have hB1 : Below b w (w.alloc (.cells #[.int .i64 2, .int .i64 0, .string s, .slice none 0 0] 62)) := (Below.refl b w).alloc (by omega) _
  have hs1 : (w.alloc (.cells #[.int .i64 2, .int .i64 0, .string s, .slice none 0 0] 62)).heap.size = b + 1 := by simp [hb]
  have k2 : (w.alloc (.cells #[.int .i64 2, .int .i64 0, .string s, .slice none 0 0] 62)).cell? ⟨b, 2, none⟩ = some (.string s) := by rw [← hb]; exact cell_of_row _ _ 2 _ _ _ (heap_alloc_new w _)
  generalize w.alloc (.cells #[.int .i64 2, .int .i64 0, .string s, .slice none 0 0] 62) = w1 at *
  have HS1 := Lib.hid hs1
  have hb1 : b < w1.heap.size := by omega
  have hl2 : ([2#8] ++ numl s.size).length + s.size ≤ 140737488355328 := by have := length_numl_u64 s.size hz; simp; omega
  have hl1 : ([2#8] : List (BitVec 8)).length + (numl s.size).length ≤ 140737488355328 := by have := length_numl_u64 s.size hz; simp; omega
  clear hs1
  have hb1' : b + 1 ≤ w1.heap.size := hb1
  go_region_held3 (fun w' => w'.cell? ⟨b, 2, none⟩ = some (.string s)) (go_keep)
    (first
      | (go_at_call 123; refine (refnumeral_u64 s.size _ hz).mono ?_; rintro e w3 ⟨v3, rfl, ho3, hb3, hl3⟩
         have c3 := (hb3.cell (p := ⟨b, 2, none⟩) (by first | exact hb1 | exact Nat.lt_of_lt_of_le hb1 (World.grownBy_alloc w1 _ none).size)).trans (by first | exact k2 | exact cell_al k2 _)
         have hbel : Below b w w3 := (by first | exact (hB1.drew).trans (hb3.mono (Nat.le_of_lt hb1)) | exact ((hB1.drew).alloc (Nat.le_of_lt hb1) _).trans (hb3.mono (Nat.le_trans (Nat.le_of_lt hb1) (World.grownBy_alloc w1 _ none).size)) | exact ((hB1.alloc (Nat.le_of_lt hb1) _).drew).trans (hb3.mono (Nat.le_trans (Nat.le_of_lt hb1) (World.grownBy_alloc w1 _ none).size)))
         have hb3w : b < w3.heap.size := World.block_lt_of_cell? w3 ⟨b, 2, none⟩ c3
         try (have ho1 := OB.below (B := b + 1) (v := .slice (some ⟨w1.heap.size, 0, none⟩) 1 1) (l := [2#8]) (by exact OB.one w1 (b + 1) _ 2#8 (.int .u8 2) rfl rfl hb1') hb3))
      | (refine step_app2 rfl _ _ rfl (b + 1) _ _ rfl ho1 _ _ rfl ho3.bs hl1 hb3w ?_; intro v4 w4 ho4 hg4
         have c4 := hg4.cell (k := 2) (u := .string s) c3 (OB.ne ho1)
         have hb4 := hbel.trans (hg4.below (Nat.le_of_lt hb3w) (ho1.mono (Nat.le_succ b)))
         have hb4w : b < w4.heap.size := World.block_lt_of_cell? w4 ⟨b, 2, none⟩ c4)
      | (refine step_app2 rfl _ _ rfl (b + 1) _ _ rfl (OB.one w3 (b + 1) _ 2#8 _ rfl rfl hb3w) _ _ rfl (ho3.al _).bs hl1 (Nat.le_trans hb3w (World.grownBy_alloc w3 _ none).size) ?_; intro v4 w4 ho4 hg4
         have c4 := hg4.cell (k := 2) (u := .string s) (cell_al c3 _) (OB.ne (OB.one w3 (b + 1) _ 2#8 _ rfl rfl hb3w))
         have hb4 := (hbel.alloc (Nat.le_of_lt hb3w) _).trans (hg4.below (Nat.le_trans (Nat.le_of_lt hb3w) (World.grownBy_alloc w3 _ none).size) (OB.one w3 b _ 2#8 _ rfl rfl (Nat.le_of_lt hb3w)))
         have hb4w : b < w4.heap.size := World.block_lt_of_cell? w4 ⟨b, 2, none⟩ c4)
      | (refine step_app2_str rfl _ _ rfl (b + 1) _ _ rfl ho4 s rfl hl2 hb4w ?_; intro v5 w5 ho5 hg5
         have c5 := hg5.cell (k := 2) (u := .string s) c4 (OB.ne ho4)
         have hb5 := hb4.trans (hg5.below (Nat.le_of_lt hb4w) (ho4.mono (Nat.le_succ b)))))
  all_goals go_wp2
  all_goals go_ret
  all_goals exact ⟨_, rfl, by rw [Leaf.enc]; exact ho5.mono (Nat.le_succ b), hb5⟩
end Chart
