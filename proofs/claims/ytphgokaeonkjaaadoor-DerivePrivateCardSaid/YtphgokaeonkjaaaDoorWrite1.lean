/- The writers of leaves. -/
import Derived.Test.YtphgokaeonkjaaaDoorStep
namespace Chart
open Go Go.RowKit Go.Proofs

/-- A value without parts. -/
inductive Leaf | int (n : Int) | text (s : ByteArray)
def Leaf.cells : Leaf → Array Value
  | .int n => #[.int .i64 1, .int .i64 n, .string { data := #[] }, .slice none 0 0]
  | .text s => #[.int .i64 2, .int .i64 0, .string s, .slice none 0 0]
def Leaf.enc : Leaf → List (BitVec 8)
  | .int n => 1#8 :: numl (zz n)
  | .text s => 2#8 :: (numl s.size ++ strB s)
def Leaf.ok : Leaf → Prop
  | .int n => -9223372036854775808 ≤ n ∧ n ≤ 9223372036854775807
  | .text s => s.size < 2 ^ 63

set_option maxHeartbeats 2000000 in
set_option maxRecDepth 100000 in
theorem write1_any (v : Value) (l : List (BitVec 8)) (n : Int) (w : World) (B : Nat) (hB : B ≤ w.heap.size) (hv : OB w B v l) (h0 : -9223372036854775808 ≤ n) (h1 : n ≤ 9223372036854775807) (hl : l.length + 11 ≤ 140737488355328) :
    Calls Tryd.prog 97 #[v, .agg (Leaf.int n).cells] w fun e w' => ∃ v', e = .returned v' ∧ OB w' B v' (l ++ (Leaf.int n).enc) ∧ Grew w v w' v' := by
  obtain ⟨b, hb⟩ : ∃ b, w.heap.size = b := ⟨_, rfl⟩
  have hz := zz_lt n h0 h1
  unfold Leaf.cells
  go_enter Tryd.func97, Tryd.ntmps97
  go_wp2_with fail
  have hrow : (w.alloc (.cells #[.int .i64 1, .int .i64 n, .string { data := #[] }, .slice none 0 0] 62)).heap[b]? = some (.cells #[.int .i64 1, .int .i64 n, .string { data := #[] }, .slice none 0 0] 62 (0, 0)) := by rw [← hb]; exact heap_alloc_new w _
  have hc : (w.alloc (.cells #[.int .i64 1, .int .i64 n, .string { data := #[] }, .slice none 0 0] 62)).cell? ⟨b, 1, none⟩ = some (.int .i64 n) := cell_of_row _ _ 1 _ _ _ hrow
  have hva := hv.al (.cells #[.int .i64 1, .int .i64 n, .string { data := #[] }, .slice none 0 0] 62)
  have hne : some b ≠ v.ownBlock := fun h => by have := (hv.lt b h.symm).2; omega
  have hz1 : (w.alloc (.cells #[.int .i64 1, .int .i64 n, .string { data := #[] }, .slice none 0 0] 62)).heap.size = b + 1 := by simp [hb]
  have hG : ∀ w' v', Grew (w.alloc (.cells #[.int .i64 1, .int .i64 n, .string { data := #[] }, .slice none 0 0] 62)) v w' v' → Grew w v w' v' := fun _ _ h => h.al
  generalize w.alloc (.cells #[.int .i64 1, .int .i64 n, .string { data := #[] }, .slice none 0 0] 62) = w1 at *
  have hBle : B ≤ w1.heap.size := by omega
  have hblt : b < w1.heap.size := by omega
  have hl1 : l.length + 1 + 10 ≤ 140737488355328 := by omega
  clear hz1
  go_region_held3 (fun w' => w'.cell? ⟨b, 1, none⟩ = some (.int .i64 n)) (go_keep)
    (first
      | (refine step_app2 rfl _ _ rfl B _ _ rfl (hva.al _) _ _ rfl (BS.one _ _ 1#8 _ _ rfl rfl) (by show _ + 1 ≤ _; omega) (Nat.le_trans hBle (World.grownBy_alloc w1 _ none).size) ?_; intro v2 w2 ho2 hg2
         have hc2 := hg2.cell (k := 1) (u := .int .i64 n) (cell_al hc _) hne
         have hB2 : B ≤ w2.heap.size := Nat.le_trans (Nat.le_trans hBle (World.grownBy_alloc w1 _ none).size) hg2.grown.size
         have hne2 := hg2.ne (b := b) (Nat.lt_of_lt_of_le hblt (World.grownBy_alloc w1 _ none).size) hne)
      | (go_at_call 99; refine (unsigned_any _ _ h0 h1).mono ?_; rintro e w' ⟨rfl, rfl⟩)
      | (go_at_call 98; refine (numeral_any _ _ _ _ B hB2 ho2 hz (by rw [List.length_append]; exact hl1)).mono ?_; rintro e w3 ⟨v3, rfl, ho3, hg3⟩
         have hc3 := hg3.cell (k := 1) (u := .int .i64 n) hc2 hne2))
  all_goals go_wp2
  all_goals go_ret
  all_goals exact ⟨v3, rfl, by rw [Leaf.enc, List.append_cons]; exact ho3, hG _ _ (hg2.drew.al.trans hg3)⟩

set_option maxHeartbeats 2000000 in
set_option maxRecDepth 100000 in
theorem write2_any (v : Value) (l : List (BitVec 8)) (s : ByteArray) (w : World) (B : Nat) (hB : B ≤ w.heap.size) (hv : OB w B v l) (h0 : s.size < 2 ^ 63) (hl : l.length + 11 + s.size ≤ 140737488355328) :
    Calls Tryd.prog 100 #[v, .agg (Leaf.text s).cells] w fun e w' => ∃ v', e = .returned v' ∧ OB w' B v' (l ++ (Leaf.text s).enc) ∧ Grew w v w' v' := by
  obtain ⟨b, hb⟩ : ∃ b, w.heap.size = b := ⟨_, rfl⟩
  have hz : s.size < 2 ^ 64 := by omega
  have hln := length_numl_u64 s.size hz
  unfold Leaf.cells
  go_enter Tryd.func100, Tryd.ntmps100
  go_wp2_with fail
  have hrow : (w.alloc (.cells #[.int .i64 2, .int .i64 0, .string s, .slice none 0 0] 62)).heap[b]? = some (.cells #[.int .i64 2, .int .i64 0, .string s, .slice none 0 0] 62 (0, 0)) := by rw [← hb]; exact heap_alloc_new w _
  have hc : (w.alloc (.cells #[.int .i64 2, .int .i64 0, .string s, .slice none 0 0] 62)).cell? ⟨b, 2, none⟩ = some (.string s) := cell_of_row _ _ 2 _ _ _ hrow
  have hva := hv.al (.cells #[.int .i64 2, .int .i64 0, .string s, .slice none 0 0] 62)
  have hne : some b ≠ v.ownBlock := fun h => by have := (hv.lt b h.symm).2; omega
  have hz1 : (w.alloc (.cells #[.int .i64 2, .int .i64 0, .string s, .slice none 0 0] 62)).heap.size = b + 1 := by simp [hb]
  have hG : ∀ w' v', Grew (w.alloc (.cells #[.int .i64 2, .int .i64 0, .string s, .slice none 0 0] 62)) v w' v' → Grew w v w' v' := fun _ _ h => h.al
  generalize w.alloc (.cells #[.int .i64 2, .int .i64 0, .string s, .slice none 0 0] 62) = w1 at *
  have hBle : B ≤ w1.heap.size := by omega
  have hblt : b < w1.heap.size := by omega
  have hl1 : l.length + 1 + 10 ≤ 140737488355328 := by omega
  have hl2 : (l ++ [2#8] ++ numl s.size).length + s.size ≤ 140737488355328 := by simp; omega
  have w64 : IntKind.u64.wrap (s.size : Int) = (s.size : Int) := by rw [wrap_u64_mod]; omega
  clear hz1
  go_region_held3 (fun w' => w'.cell? ⟨b, 2, none⟩ = some (.string s)) (go_keep)
    (first
      | (refine step_app2 rfl _ _ rfl B _ _ rfl (hva.al _) _ _ rfl (BS.one _ _ 2#8 _ _ rfl rfl) (by show _ + 1 ≤ _; omega) (Nat.le_trans hBle (World.grownBy_alloc w1 _ none).size) ?_; intro v2 w2 ho2 hg2
         have hc2 := hg2.cell (k := 2) (u := .string s) (cell_al hc _) hne
         have hB2 : B ≤ w2.heap.size := Nat.le_trans (Nat.le_trans hBle (World.grownBy_alloc w1 _ none).size) hg2.grown.size
         have hne2 := hg2.ne (b := b) (Nat.lt_of_lt_of_le hblt (World.grownBy_alloc w1 _ none).size) hne)
      | (go_at_call 98; refine (numeral_any _ _ _ _ B hB2 ho2 hz (by rw [List.length_append]; exact hl1)).mono ?_; rintro e w3 ⟨v3, rfl, ho3, hg3⟩
         have hc3 := hg3.cell (k := 2) (u := .string s) hc2 hne2
         have hB3 : B ≤ w3.heap.size := Nat.le_trans hB2 hg3.grown.size
         have hne3 := hg3.ne (b := b) (World.block_lt_of_cell? w2 ⟨b, 2, none⟩ hc2) hne2)
      | (refine step_app2_str rfl _ _ rfl B _ _ rfl ho3 s rfl hl2 hB3 ?_; intro v4 w4 ho4 hg4
         have hc4 := hg4.cell (k := 2) (u := .string s) hc3 hne3))
  all_goals go_wp2
  all_goals go_ret
  all_goals exact ⟨v4, rfl, by rw [Leaf.enc, List.append_cons, ← List.append_assoc]; exact ho4, hG _ _ ((hg2.drew.al.trans hg3).trans hg4)⟩
end Chart
