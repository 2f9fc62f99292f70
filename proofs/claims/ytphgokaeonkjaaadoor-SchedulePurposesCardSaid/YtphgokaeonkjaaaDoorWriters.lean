/- append as a step of a region that draws its order. The writers of leaves. The table of writers. -/
import Derived.Test.YtphgokaeonkjaaaDoorUnsigned
import Derived.Deep.RegionHeld3
import Derived.Laws.EntriesVeiled
import Derived.Test.YtphgokaeonkjaaaDoorOwn
namespace Chart
open Go Go.RowKit Go.Proofs
section
variable {ops : Array Oper} {o : Oper} {a : Act} {w : World} {K : Act → World → Prop} {Q : Exit → Act → World → Prop} {E : Prop}
theorem step_app2 (hgd : o.guard = none) (s x : Operand) (ho : o.op = .call { callee := .builtin .append, args := #[s, x], argTypes := #[32, 32] })
    (B : Nat) (v : Value) (l : List (BitVec 8)) (hs : a.eval s = v) (hown : OB w B v l) (vx : Value) (m : List (BitVec 8)) (hx : a.eval x = vx) (hbs : BS w vx m)
    (hlen : l.length + m.length ≤ 140737488355328) (hB : B ≤ w.heap.size)
    (h : ∀ v' w', OB w' B v' (l ++ m) → Grew w v w' v' → K (a.put o.dst v') w') : if Region.wanted o (yielded ops a.tmps) = true then Oper.wp Tryd.prog o a w K Q else E := by
  have hw : Region.wanted o (yielded ops a.tmps) = true := by simp [Region.wanted, hgd]
  rw [if_pos hw]
  obtain ⟨v', w', hr, h1, h2⟩ := run_app w B v l hown vx m hbs hlen hB o.type
  unfold Oper.wp execOp
  simp only [ho, resolve, invoke, builtin, Sem.run_bind, Sem.run_pure, Result.andThen_ok, List.map_toArray, List.map_cons, List.map_nil, hs, hx, hr]
  exact h v' w' h1 h2
theorem step_app2_str (hgd : o.guard = none) (s x : Operand) (ho : o.op = .call { callee := .builtin .append, args := #[s, x], argTypes := #[32, 9] })
    (B : Nat) (v : Value) (l : List (BitVec 8)) (hs : a.eval s = v) (hown : OB w B v l) (str : ByteArray) (hx : a.eval x = .string str)
    (hlen : l.length + str.size ≤ 140737488355328) (hB : B ≤ w.heap.size)
    (h : ∀ v' w', OB w' B v' (l ++ strB str) → Grew w v w' v' → K (a.put o.dst v') w') : if Region.wanted o (yielded ops a.tmps) = true then Oper.wp Tryd.prog o a w K Q else E := by
  have hw : Region.wanted o (yielded ops a.tmps) = true := by simp [Region.wanted, hgd]
  rw [if_pos hw]
  obtain ⟨v', w', hr, h1, h2⟩ := run_app_str w B v l hown str hlen hB o.type
  unfold Oper.wp execOp
  simp only [ho, resolve, invoke, builtin, Sem.run_bind, Sem.run_pure, Result.andThen_ok, List.map_toArray, List.map_cons, List.map_nil, hs, hx, hr]
  exact h v' w' h1 h2
end
/-- An append's source that lies apart keeps its bytes; a row that is not the slice's own keeps its cells. -/
theorem Grew.row {w w' : World} {v v' : Value} (h : Grew w v w' v') {b : Nat} {o : Obj} (hb : w.heap[b]? = some o) (hne : some b ≠ v.ownBlock) : w'.heap[b]? = some o :=
  (h.grown.block b (Array.getElem?_eq_some_iff.1 hb).1 hne).trans hb
theorem Grew.drew {w w' : World} {v v' : Value} (h : Grew w.drew v w' v') : Grew w v w' v' := ⟨(World.grownBy.rf w _).dr.tr h.grown, h.chain⟩
theorem Grew.drewN {w w' : World} {v v' : Value} {n : Nat} (h : Grew (w.drewN n) v w' v') : Grew w v w' v' := ⟨((World.grownBy.rf w _).drN n).tr h.grown, h.chain⟩
theorem cell_al {w : World} {b k : Nat} {u : Value} (h : w.cell? ⟨b, k, none⟩ = some u) (o : Obj) : (w.alloc o).cell? ⟨b, k, none⟩ = some u := (World.grownBy_alloc w o none).cell h (by simp)
/-- A row that was there and is not the slice's own is not the new slice's own. -/
theorem Grew.ne {w w' : World} {v v' : Value} (h : Grew w v w' v') {b : Nat} (hb : b < w.heap.size) (hne : some b ≠ v.ownBlock) : some b ≠ v'.ownBlock := by
  intro e
  rcases h.chain with hc | hc
  · rw [hc] at e; exact hne e
  · have := hc b e.symm; omega
theorem Grew.cell {w w' : World} {v v' : Value} (h : Grew w v w' v') {b k : Nat} {u : Value} (hb : w.cell? ⟨b, k, none⟩ = some u) (hne : some b ≠ v.ownBlock) : w'.cell? ⟨b, k, none⟩ = some u :=
  h.grown.cell hb hne
end Chart

namespace Chart
open Go Go.RowKit Go.Proofs

/-- A value without parts. -/
inductive Leaf | int (n : Int) | text (s : ByteArray)
def Leaf.cells : Leaf → Array Value
  | .int n => #[.int .i64 1, .int .i64 n, .string { data := #[] }, .slice none 0 0]
  | .text s => #[.int .i64 2, .int .i64 0, .string s, .slice none 0 0]
def Leaf.enc : Leaf → List (BitVec 8)
  | .int n => 1#8 :: numl (zz n)
  | .text s => 2#8 :: (numl s.size ++ strB s)
def Leaf.ok : Leaf → Prop
  | .int n => -9223372036854775808 ≤ n ∧ n ≤ 9223372036854775807
  | .text s => s.size < 2 ^ 63

set_option maxHeartbeats 2000000 in
set_option maxRecDepth 100000 in
theorem write1_any (v : Value) (l : List (BitVec 8)) (n : Int) (w : World) (B : Nat) (hB : B ≤ w.heap.size) (hv : OB w B v l) (h0 : -9223372036854775808 ≤ n) (h1 : n ≤ 9223372036854775807) (hl : l.length + 11 ≤ 140737488355328) :
    Calls Tryd.prog 97 #[v, .agg (Leaf.int n).cells] w fun e w' => ∃ v', e = .returned v' ∧ OB w' B v' (l ++ (Leaf.int n).enc) ∧ Grew w v w' v' := by
  obtain ⟨b, hb⟩ : ∃ b, w.heap.size = b := ⟨_, rfl⟩
  have hz := zz_lt n h0 h1
  unfold Leaf.cells
  go_enter Tryd.func97, Tryd.ntmps97
  go_wp2_with fail
  have hrow : (w.alloc (.cells #[.int .i64 1, .int .i64 n, .string { data := #[] }, .slice none 0 0] 62)).heap[b]? = some (.cells #[.int .i64 1, .int .i64 n, .string { data := #[] }, .slice none 0 0] 62 (0, 0)) := by rw [← hb]; exact heap_alloc_new w _
  have hc : (w.alloc (.cells #[.int .i64 1, .int .i64 n, .string { data := #[] }, .slice none 0 0] 62)).cell? ⟨b, 1, none⟩ = some (.int .i64 n) := cell_of_row _ _ 1 _ _ _ hrow
  have hva := hv.al (.cells #[.int .i64 1, .int .i64 n, .string { data := #[] }, .slice none 0 0] 62)
  have hne : some b ≠ v.ownBlock := fun h => by have := (hv.lt b h.symm).2; omega
  have hz1 : (w.alloc (.cells #[.int .i64 1, .int .i64 n, .string { data := #[] }, .slice none 0 0] 62)).heap.size = b + 1 := by simp [hb]
  have hG : ∀ w' v', Grew (w.alloc (.cells #[.int .i64 1, .int .i64 n, .string { data := #[] }, .slice none 0 0] 62)) v w' v' → Grew w v w' v' := fun _ _ h => h.al
  generalize w.alloc (.cells #[.int .i64 1, .int .i64 n, .string { data := #[] }, .slice none 0 0] 62) = w1 at *
  have hBle : B ≤ w1.heap.size := by omega
  have hblt : b < w1.heap.size := by omega
  have hl1 : l.length + 1 + 10 ≤ 140737488355328 := by omega
  clear hz1
  go_region_held3 (fun w' => w'.cell? ⟨b, 1, none⟩ = some (.int .i64 n)) (go_keep)
    (first
      | (refine step_app2 rfl _ _ rfl B _ _ rfl (hva.al _) _ _ rfl (BS.one _ _ 1#8 _ _ rfl rfl) (by show _ + 1 ≤ _; omega) (Nat.le_trans hBle (World.grownBy_alloc w1 _ none).size) ?_; intro v2 w2 ho2 hg2
         have hc2 := hg2.cell (k := 1) (u := .int .i64 n) (cell_al hc _) hne
         have hB2 : B ≤ w2.heap.size := Nat.le_trans (Nat.le_trans hBle (World.grownBy_alloc w1 _ none).size) hg2.grown.size
         have hne2 := hg2.ne (b := b) (Nat.lt_of_lt_of_le hblt (World.grownBy_alloc w1 _ none).size) hne)
      | (go_at_call 99; refine (unsigned_any _ _ h0 h1).mono ?_; rintro e w' ⟨rfl, rfl⟩)
      | (go_at_call 98; refine (numeral_any _ _ _ _ B hB2 ho2 hz (by rw [List.length_append]; exact hl1)).mono ?_; rintro e w3 ⟨v3, rfl, ho3, hg3⟩
         have hc3 := hg3.cell (k := 1) (u := .int .i64 n) hc2 hne2))
  all_goals go_wp2
  all_goals go_ret
  all_goals exact ⟨v3, rfl, by rw [Leaf.enc, List.append_cons]; exact ho3, hG _ _ (hg2.drew.al.trans hg3)⟩

set_option maxHeartbeats 2000000 in
set_option maxRecDepth 100000 in
theorem write2_any (v : Value) (l : List (BitVec 8)) (s : ByteArray) (w : World) (B : Nat) (hB : B ≤ w.heap.size) (hv : OB w B v l) (h0 : s.size < 2 ^ 63) (hl : l.length + 11 + s.size ≤ 140737488355328) :
    Calls Tryd.prog 100 #[v, .agg (Leaf.text s).cells] w fun e w' => ∃ v', e = .returned v' ∧ OB w' B v' (l ++ (Leaf.text s).enc) ∧ Grew w v w' v' := by
  obtain ⟨b, hb⟩ : ∃ b, w.heap.size = b := ⟨_, rfl⟩
  have hz : s.size < 2 ^ 64 := by omega
  have hln := length_numl_u64 s.size hz
  unfold Leaf.cells
  go_enter Tryd.func100, Tryd.ntmps100
  go_wp2_with fail
  have hrow : (w.alloc (.cells #[.int .i64 2, .int .i64 0, .string s, .slice none 0 0] 62)).heap[b]? = some (.cells #[.int .i64 2, .int .i64 0, .string s, .slice none 0 0] 62 (0, 0)) := by rw [← hb]; exact heap_alloc_new w _
  have hc : (w.alloc (.cells #[.int .i64 2, .int .i64 0, .string s, .slice none 0 0] 62)).cell? ⟨b, 2, none⟩ = some (.string s) := cell_of_row _ _ 2 _ _ _ hrow
  have hva := hv.al (.cells #[.int .i64 2, .int .i64 0, .string s, .slice none 0 0] 62)
  have hne : some b ≠ v.ownBlock := fun h => by have := (hv.lt b h.symm).2; omega
  have hz1 : (w.alloc (.cells #[.int .i64 2, .int .i64 0, .string s, .slice none 0 0] 62)).heap.size = b + 1 := by simp [hb]
  have hG : ∀ w' v', Grew (w.alloc (.cells #[.int .i64 2, .int .i64 0, .string s, .slice none 0 0] 62)) v w' v' → Grew w v w' v' := fun _ _ h => h.al
  generalize w.alloc (.cells #[.int .i64 2, .int .i64 0, .string s, .slice none 0 0] 62) = w1 at *
  have hBle : B ≤ w1.heap.size := by omega
  have hblt : b < w1.heap.size := by omega
  have hl1 : l.length + 1 + 10 ≤ 140737488355328 := by omega
  have hl2 : (l ++ [2#8] ++ numl s.size).length + s.size ≤ 140737488355328 := by simp; omega
  have w64 : IntKind.u64.wrap (s.size : Int) = (s.size : Int) := by rw [wrap_u64_mod]; omega
  clear hz1
  go_region_held3 (fun w' => w'.cell? ⟨b, 2, none⟩ = some (.string s)) (go_keep)
    (first
      | (refine step_app2 rfl _ _ rfl B _ _ rfl (hva.al _) _ _ rfl (BS.one _ _ 2#8 _ _ rfl rfl) (by show _ + 1 ≤ _; omega) (Nat.le_trans hBle (World.grownBy_alloc w1 _ none).size) ?_; intro v2 w2 ho2 hg2
         have hc2 := hg2.cell (k := 2) (u := .string s) (cell_al hc _) hne
         have hB2 : B ≤ w2.heap.size := Nat.le_trans (Nat.le_trans hBle (World.grownBy_alloc w1 _ none).size) hg2.grown.size
         have hne2 := hg2.ne (b := b) (Nat.lt_of_lt_of_le hblt (World.grownBy_alloc w1 _ none).size) hne)
      | (go_at_call 98; refine (numeral_any _ _ _ _ B hB2 ho2 hz (by rw [List.length_append]; exact hl1)).mono ?_; rintro e w3 ⟨v3, rfl, ho3, hg3⟩
         have hc3 := hg3.cell (k := 2) (u := .string s) hc2 hne2
         have hB3 : B ≤ w3.heap.size := Nat.le_trans hB2 hg3.grown.size
         have hne3 := hg3.ne (b := b) (World.block_lt_of_cell? w2 ⟨b, 2, none⟩ hc2) hne2)
      | (refine step_app2_str rfl _ _ rfl B _ _ rfl ho3 s rfl hl2 hB3 ?_; intro v4 w4 ho4 hg4
         have hc4 := hg4.cell (k := 2) (u := .string s) hc3 hne3))
  all_goals go_wp2
  all_goals go_ret
  all_goals exact ⟨v4, rfl, by rw [Leaf.enc, List.append_cons, ← List.append_assoc]; exact ho4, hG _ _ ((hg2.drew.al.trans hg3).trans hg4)⟩
end Chart

namespace Chart
open Go Go.RowKit Go.Proofs

/-- The table lies here. -/
def WriterAt (w : World) (b : Nat) : Prop := ∃ p, w.cell? ⟨b, 1, none⟩ = some (.func (.func 97) #[] #[]) ∧ w.cell? ⟨b, 2, none⟩ = some (.func (.func 100) #[] #[]) ∧
  w.cell? ⟨b, 3, none⟩ = some (.func (.func 101) #[] #[.pointer (some ⟨p, 0, none⟩)]) ∧ w.cell? ⟨p, 0, none⟩ = some (.pointer (some ⟨b, 0, none⟩))

set_option maxHeartbeats 2000000 in
set_option maxRecDepth 100000 in
theorem newWriter_any (w : World) :
    Calls Tryd.prog 73 #[] w fun e w' => ∃ b, e = .returned (.pointer (some ⟨b, 0, none⟩)) ∧ WriterAt w' b ∧ w.heap.size ≤ b ∧ Below w.heap.size w w' := by
  go_enter Tryd.func73, Tryd.ntmps73
  go_wp2
  go_ret
  refine ⟨w.heap.size, rfl, ⟨w.heap.size + 1, ?_, ?_, ?_, ?_⟩, Nat.le_refl _, ?_⟩
  · go_simp
  · go_simp
  · go_simp
  · go_simp
  · exact ((Below.refl _ w).alloc (Nat.le_refl _) _).alloc (by simp) _

theorem OB.dN {w : World} {B : Nat} {v : Value} {l : List (BitVec 8)} (h : OB w B v l) (n : Nat) : OB (w.drewN n) B v l := h

/-- Leaves in a row. -/
def LeavesAt (w : World) (b off : Nat) (ls : List Leaf) : Prop := ∀ i lf, ls[i]? = some lf → ∀ j u, lf.cells[j]? = some u → w.cell? ⟨b, off + i * 4 + j, none⟩ = some u
def encs (ls : List Leaf) : List (BitVec 8) := (ls.map Leaf.enc).flatten
theorem encs_take (ls : List Leaf) (k : Nat) (lf : Leaf) (h : ls[k]? = some lf) : encs (ls.take (k + 1)) = encs (ls.take k) ++ lf.enc := by
  unfold encs; rw [List.take_add_one, h]; simp
theorem encs_le (ls : List Leaf) (k : Nat) : (encs (ls.take k)).length ≤ (encs ls).length := by
  have h : encs ls = encs (ls.take k) ++ encs (ls.drop k) := by
    conv => lhs; rw [← List.take_append_drop k ls]
    unfold encs; rw [List.map_append, List.flatten_append]
  rw [h, List.length_append]; omega
def encL (ls : List Leaf) : List (BitVec 8) := 3#8 :: (numl ls.length ++ encs ls)
/-- A list value's cells. -/
def lCells (v : Value) : Array Value := #[.int .i64 3, .int .i64 0, .string { data := #[] }, v]

set_option maxHeartbeats 4000000 in
set_option maxRecDepth 100000 in
theorem write3_any (v : Value) (l : List (BitVec 8)) (ls : List Leaf) (b0 off cap p bt : Nat) (w : World) (B : Nat) (hB : B ≤ w.heap.size) (hv : OB w B v l) (hL : LeavesAt w b0 off ls) (hok : ∀ lf ∈ ls, lf.ok)
    (hb0 : b0 < B) (hp : p < B) (hbt : bt < B) (hcap : ls.length ≤ cap) (hmax : cap ≤ maxLen)
    (hw1 : w.cell? ⟨bt, 1, none⟩ = some (.func (.func 97) #[] #[])) (hw2 : w.cell? ⟨bt, 2, none⟩ = some (.func (.func 100) #[] #[]))
    (hw3 : w.cell? ⟨p, 0, none⟩ = some (.pointer (some ⟨bt, 0, none⟩))) (hl : l.length + (encL ls).length + 100 ≤ 140737488355328) :
    Calls Tryd.prog 101 #[v, .agg (lCells (.slice (some ⟨b0, off, none⟩) ls.length cap)), .pointer (some ⟨p, 0, none⟩)] w fun e w' => ∃ v', e = .returned v' ∧ OB w' B v' (l ++ encL ls) ∧ Below B w w' := by
  obtain ⟨N, hN⟩ : ∃ N, ls.length = N := ⟨_, rfl⟩
  rw [hN] at hcap ⊢
  unfold maxLen at hmax
  obtain ⟨b, hb⟩ : ∃ b, w.heap.size = b := ⟨_, rfl⟩
  have hz : N < 2 ^ 64 := by omega
  have hln := length_numl_u64 N hz
  unfold lCells
  go_enter Tryd.func101, Tryd.ntmps101
  go_wp2_with fail
  have hrow : (w.alloc (.cells #[.int .i64 3, .int .i64 0, .string { data := #[] }, .slice (some ⟨b0, off, none⟩) N cap] 62)).heap[b]? = some (.cells #[.int .i64 3, .int .i64 0, .string { data := #[] }, .slice (some ⟨b0, off, none⟩) N cap] 62 (0, 0)) := by rw [← hb]; exact heap_alloc_new w _
  have hc : (w.alloc (.cells #[.int .i64 3, .int .i64 0, .string { data := #[] }, .slice (some ⟨b0, off, none⟩) N cap] 62)).cell? ⟨b, 3, none⟩ = some (.slice (some ⟨b0, off, none⟩) N cap) := cell_of_row _ _ 3 _ _ _ hrow
  have hva := hv.al (.cells #[.int .i64 3, .int .i64 0, .string { data := #[] }, .slice (some ⟨b0, off, none⟩) N cap] 62)
  have hne : some b ≠ v.ownBlock := fun h => by have := (hv.lt b h.symm).2; omega
  have hz1 : (w.alloc (.cells #[.int .i64 3, .int .i64 0, .string { data := #[] }, .slice (some ⟨b0, off, none⟩) N cap] 62)).heap.size = b + 1 := by simp [hb]
  have hB1 : Below B w (w.alloc (.cells #[.int .i64 3, .int .i64 0, .string { data := #[] }, .slice (some ⟨b0, off, none⟩) N cap] 62)) := (Below.refl B w).alloc hB _
  generalize w.alloc (.cells #[.int .i64 3, .int .i64 0, .string { data := #[] }, .slice (some ⟨b0, off, none⟩) N cap] 62) = w1 at *
  have hBle : B ≤ w1.heap.size := by omega
  have hblt : b < w1.heap.size := by omega
  have hel : (encL ls).length = 1 + (numl N).length + (encs ls).length := by unfold encL; rw [hN]; simp; omega
  rw [hel] at hl
  have hl1 : l.length + 1 + 10 ≤ 140737488355328 := by omega
  have w64 : IntKind.u64.wrap (N : Int) = (N : Int) := by rw [wrap_u64_mod]; omega
  have HZ := Lib.hid hz; have HEL := Lib.hid hel; have HLL := Lib.hid hl; have HNN := Lib.hid hN
  clear hz1 hz hel hl hN hln
  go_region_held3 (fun w' => w'.cell? ⟨b, 3, none⟩ = some (.slice (some ⟨b0, off, none⟩) N cap)) (go_keep)
    (first
      | (refine step_app2 rfl _ _ rfl B _ _ rfl (hva.al _) _ _ rfl (BS.one _ _ 3#8 _ _ rfl rfl) (by show _ + 1 ≤ _; omega) (Nat.le_trans hBle (World.grownBy_alloc w1 _ none).size) ?_; intro v2 w2 ho2 hg2
         have hc2 := hg2.cell (k := 3) (u := .slice (some ⟨b0, off, none⟩) N cap) (cell_al hc _) hne
         have hB2 : B ≤ w2.heap.size := Nat.le_trans (Nat.le_trans hBle (World.grownBy_alloc w1 _ none).size) hg2.grown.size
         have hne2 := hg2.ne (b := b) (Nat.lt_of_lt_of_le hblt (World.grownBy_alloc w1 _ none).size) hne)
      | (go_at_call 98; refine (numeral_any _ _ _ _ B hB2 ho2 HZ.out (by rw [List.length_append]; exact hl1)).mono ?_; rintro e w3 ⟨v3, rfl, ho3, hg3⟩
         have hc3 := hg3.cell (k := 3) (u := .slice (some ⟨b0, off, none⟩) N cap) hc2 hne2
         have hB3 : B ≤ w3.heap.size := Nat.le_trans hB2 hg3.grown.size))
  have hG3 : Below B w w3 := hB1.trans ((hg2.drew.al.trans hg3).below hBle hva)
  clear hg2 hg3 ho2 hc2 hne2 hc hva hne hrow hB1 hB2
  go_wp2
  have hbase : BytesAt w3 0 0 [] := fun j x hx => by simp at hx
  clear hbase
  go_loopw [0, 19] (fun s t wr => ∃ k : Nat, k ≤ N ∧ t = .int .i64 k ∧ OB wr B s (l ++ [3#8] ++ numl N ++ encs (ls.take k)) ∧ Below B w wr) (fun _ t _ => N - (intOf t).toNat)
  case atStart => exact ⟨0, by omega, rfl, by simpa [encs] using ho3, hG3⟩
  case round =>
    clear ho3 hG3 hB3
    obtain ⟨k, hk, rfl, ho, hg⟩ := hrel
    have hgs := hg.size
    have hle := encs_le ls k
    by_cases hlt : k < N
    · obtain ⟨lf, hlf⟩ : ∃ lf, ls[k]? = some lf := ⟨ls[k]'(by have := HNN.out; omega), by simp [HNN.out, hlt]⟩
      have hstep := encs_take ls k lf hlf
      have hle2 := encs_le ls (k + 1)
      have hokl := hok lf (List.mem_of_getElem? hlf)
      have hcell : ∀ j u, lf.cells[j]? = some u → wr.cell? ⟨b0, off + k * 4 + j, none⟩ = some u := fun j u hj => (hg.cell (p := ⟨b0, off + k * 4 + j, none⟩) hb0).trans (hL k lf hlf j u hj)
      have hx1 := (hg.cell (p := ⟨bt, 1, none⟩) hbt).trans hw1
      have hx2 := (hg.cell (p := ⟨bt, 2, none⟩) hbt).trans hw2
      have hx3 := (hg.cell (p := ⟨p, 0, none⟩) hp).trans hw3
      have hlen : (l ++ [3#8] ++ numl N ++ encs (ls.take k)).length + lf.enc.length + 50 ≤ 140737488355328 := by
        rw [hstep, List.length_append] at hle2
        have := HLL.out
        simp only [List.length_append, List.length_cons, List.length_nil]; omega
      have hnext : l ++ [3#8] ++ numl N ++ encs (ls.take (k + 1)) = l ++ [3#8] ++ numl N ++ encs (ls.take k) ++ lf.enc := by rw [hstep]; simp
      have HX := Lib.hid hnext
      clear hnext hstep hle2 hle
      generalize l ++ [3#8] ++ numl N ++ encs (ls.take k) = L at *
      cases lf with
      | int n =>
        have c0 : wr.cell? ⟨b0, off + k * 4, none⟩ = some (.int .i64 1) := hcell 0 _ rfl
        have c1 := hcell 1 _ rfl
        have c2 := hcell 2 _ rfl
        have c3 := hcell 3 _ rfl
        clear hcell
        go_wp2_with (refine st_new rfl 62 _ _ rfl (Leaf.int n).cells _ 62 rfl rfl (by kernel_rfl) rfl (by kernel_rfl) ?_)
        unfold Leaf.cells
        have hx1' := cell_al hx1 (.cells (Leaf.int n).cells 62)
        have hx3' := cell_al hx3 (.cells (Leaf.int n).cells 62)
        unfold Leaf.cells at hx1' hx3'
        refine wp_region_quiet_drew 9 (by kernel_rfl) (by kernel_rfl) ?_
        simp only [List.take_succ_cons, List.take_zero, List.drop_succ_cons, List.drop_zero]
        repeat (quiet_step (fail))
        refine wpQuiet_nil ?_
        rintro _ ⟨nq, rfl⟩
        go_wp2_with fail
        have hL1 : L.length + 11 ≤ 140737488355328 := by omega
        refine (write1_any _ L n ((wr.alloc (.cells (Leaf.int n).cells 62)).drewN nq) B (Nat.le_trans (show B ≤ wr.heap.size by omega) (World.grownBy_alloc wr _ none).size) ((ho.al _).dN _) hokl.1 hokl.2 hL1).mono ?_
        rintro e w4 ⟨v4, rfl, ho4, hg4⟩
        go_wp2_with fail
        go_roundw
        case rel => exact ⟨k + 1, by omega, by go_num, by rw [HX.out]; exact ho4, hg.trans (hg4.drewN.al.below (by omega) ho)⟩
        case measure => simp [intOf]; omega
      | text str =>
        have c0 : wr.cell? ⟨b0, off + k * 4, none⟩ = some (.int .i64 2) := hcell 0 _ rfl
        have c1 := hcell 1 _ rfl
        have c2 := hcell 2 _ rfl
        have c3 := hcell 3 _ rfl
        clear hcell
        go_wp2_with (refine st_new rfl 62 _ _ rfl (Leaf.text str).cells _ 62 rfl rfl (by kernel_rfl) rfl (by kernel_rfl) ?_)
        unfold Leaf.cells
        have hx2' := cell_al hx2 (.cells (Leaf.text str).cells 62)
        have hx3' := cell_al hx3 (.cells (Leaf.text str).cells 62)
        unfold Leaf.cells at hx2' hx3'
        refine wp_region_quiet_drew 9 (by kernel_rfl) (by kernel_rfl) ?_
        simp only [List.take_succ_cons, List.take_zero, List.drop_succ_cons, List.drop_zero]
        repeat (quiet_step (fail))
        refine wpQuiet_nil ?_
        rintro _ ⟨nq, rfl⟩
        go_wp2_with fail
        have hL1 : L.length + 11 + str.size ≤ 140737488355328 := by simp [Leaf.enc, length_strB] at hlen; omega
        refine (write2_any _ L str ((wr.alloc (.cells (Leaf.text str).cells 62)).drewN nq) B (Nat.le_trans (show B ≤ wr.heap.size by omega) (World.grownBy_alloc wr _ none).size) ((ho.al _).dN _) hokl hL1).mono ?_
        rintro e w4 ⟨v4, rfl, ho4, hg4⟩
        go_wp2_with fail
        go_roundw
        case rel => exact ⟨k + 1, by omega, by go_num, by rw [HX.out]; exact ho4, hg.trans (hg4.drewN.al.below (by omega) ho)⟩
        case measure => simp [intOf]; omega
    · obtain rfl : k = N := by omega
      rw [List.take_of_length_le (by have := HNN.out; omega)] at ho
      go_wp2
      go_ret
      refine ⟨_, rfl, ?_, hg⟩
      unfold encL
      rw [HNN.out]
      simpa using ho
end Chart
