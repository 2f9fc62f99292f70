/- The table of writers. -/
import Derived.Test.YtphgokaeonkjaaaDoorWrite1
import Derived.Laws.EntriesVeiled
import Derived.Test.YtphgokaeonkjaaaDoorOwn
namespace Chart
open Go Go.RowKit Go.Proofs

/-- The table lies here. -/
def WriterAt (w : World) (b : Nat) : Prop := ∃ p, w.cell? ⟨b, 1, none⟩ = some (.func (.func 97) #[] #[]) ∧ w.cell? ⟨b, 2, none⟩ = some (.func (.func 100) #[] #[]) ∧
  w.cell? ⟨b, 3, none⟩ = some (.func (.func 101) #[] #[.pointer (some ⟨p, 0, none⟩)]) ∧ w.cell? ⟨p, 0, none⟩ = some (.pointer (some ⟨b, 0, none⟩))

set_option maxHeartbeats 2000000 in
set_option maxRecDepth 100000 in
theorem newWriter_any (w : World) :
    Calls Tryd.prog 73 #[] w fun e w' => ∃ b, e = .returned (.pointer (some ⟨b, 0, none⟩)) ∧ WriterAt w' b ∧ w.heap.size ≤ b ∧ Below w.heap.size w w' := by
  go_enter Tryd.func73, Tryd.ntmps73
  go_wp2
  go_ret
  refine ⟨w.heap.size, rfl, ⟨w.heap.size + 1, ?_, ?_, ?_, ?_⟩, Nat.le_refl _, ?_⟩
  · go_simp
  · go_simp
  · go_simp
  · go_simp
  · exact ((Below.refl _ w).alloc (Nat.le_refl _) _).alloc (by simp) _

theorem OB.dN {w : World} {B : Nat} {v : Value} {l : List (BitVec 8)} (h : OB w B v l) (n : Nat) : OB (w.drewN n) B v l := h

/-- Leaves in a row. -/
def LeavesAt (w : World) (b off : Nat) (ls : List Leaf) : Prop := ∀ i lf, ls[i]? = some lf → ∀ j u, lf.cells[j]? = some u → w.cell? ⟨b, off + i * 4 + j, none⟩ = some u
def encs (ls : List Leaf) : List (BitVec 8) := (ls.map Leaf.enc).flatten
theorem encs_take (ls : List Leaf) (k : Nat) (lf : Leaf) (h : ls[k]? = some lf) : encs (ls.take (k + 1)) = encs (ls.take k) ++ lf.enc := by
  unfold encs; rw [List.take_add_one, h]; simp
theorem encs_le (ls : List Leaf) (k : Nat) : (encs (ls.take k)).length ≤ (encs ls).length := by
  have h : encs ls = encs (ls.take k) ++ encs (ls.drop k) := by
    conv => lhs; rw [← List.take_append_drop k ls]
    unfold encs; rw [List.map_append, List.flatten_append]
  rw [h, List.length_append]; omega
def encL (ls : List Leaf) : List (BitVec 8) := 3#8 :: (numl ls.length ++ encs ls)
/-- A list value's cells. -/
def lCells (v : Value) : Array Value := #[.int .i64 3, .int .i64 0, .string { data := #[] }, v]

set_option maxHeartbeats 4000000 in
set_option maxRecDepth 100000 in
theorem write3_any (v : Value) (l : List (BitVec 8)) (ls : List Leaf) (b0 off cap p bt : Nat) (w : World) (B : Nat) (hB : B ≤ w.heap.size) (hv : OB w B v l) (hL : LeavesAt w b0 off ls) (hok : ∀ lf ∈ ls, lf.ok)
    (hb0 : b0 < B) (hp : p < B) (hbt : bt < B) (hcap : ls.length ≤ cap) (hmax : cap ≤ maxLen)
    (hw1 : w.cell? ⟨bt, 1, none⟩ = some (.func (.func 97) #[] #[])) (hw2 : w.cell? ⟨bt, 2, none⟩ = some (.func (.func 100) #[] #[]))
    (hw3 : w.cell? ⟨p, 0, none⟩ = some (.pointer (some ⟨bt, 0, none⟩))) (hl : l.length + (encL ls).length + 100 ≤ 140737488355328) :
    Calls Tryd.prog 101 #[v, .agg (lCells (.slice (some ⟨b0, off, none⟩) ls.length cap)), .pointer (some ⟨p, 0, none⟩)] w fun e w' => ∃ v', e = .returned v' ∧ OB w' B v' (l ++ encL ls) ∧ Below B w w' := by
  obtain ⟨N, hN⟩ : ∃ N, ls.length = N := ⟨_, rfl⟩
  rw [hN] at hcap ⊢
  unfold maxLen at hmax
  obtain ⟨b, hb⟩ : ∃ b, w.heap.size = b := ⟨_, rfl⟩
  have hz : N < 2 ^ 64 := by omega
  have hln := length_numl_u64 N hz
  unfold lCells
  go_enter Tryd.func101, Tryd.ntmps101
  go_wp2_with fail
  have hrow : (w.alloc (.cells #[.int .i64 3, .int .i64 0, .string { data := #[] }, .slice (some ⟨b0, off, none⟩) N cap] 62)).heap[b]? = some (.cells #[.int .i64 3, .int .i64 0, .string { data := #[] }, .slice (some ⟨b0, off, none⟩) N cap] 62 (0, 0)) := by rw [← hb]; exact heap_alloc_new w _
  have hc : (w.alloc (.cells #[.int .i64 3, .int .i64 0, .string { data := #[] }, .slice (some ⟨b0, off, none⟩) N cap] 62)).cell? ⟨b, 3, none⟩ = some (.slice (some ⟨b0, off, none⟩) N cap) := cell_of_row _ _ 3 _ _ _ hrow
  have hva := hv.al (.cells #[.int .i64 3, .int .i64 0, .string { data := #[] }, .slice (some ⟨b0, off, none⟩) N cap] 62)
  have hne : some b ≠ v.ownBlock := fun h => by have := (hv.lt b h.symm).2; omega
  have hz1 : (w.alloc (.cells #[.int .i64 3, .int .i64 0, .string { data := #[] }, .slice (some ⟨b0, off, none⟩) N cap] 62)).heap.size = b + 1 := by simp [hb]
  have hB1 : Below B w (w.alloc (.cells #[.int .i64 3, .int .i64 0, .string { data := #[] }, .slice (some ⟨b0, off, none⟩) N cap] 62)) := (Below.refl B w).alloc hB _
  generalize w.alloc (.cells #[.int .i64 3, .int .i64 0, .string { data := #[] }, .slice (some ⟨b0, off, none⟩) N cap] 62) = w1 at *
  have hBle : B ≤ w1.heap.size := by omega
  have hblt : b < w1.heap.size := by omega
  have hel : (encL ls).length = 1 + (numl N).length + (encs ls).length := by unfold encL; rw [hN]; simp; omega
  rw [hel] at hl
  have hl1 : l.length + 1 + 10 ≤ 140737488355328 := by omega
  have w64 : IntKind.u64.wrap (N : Int) = (N : Int) := by rw [wrap_u64_mod]; omega
  have HZ := Lib.hid hz; have HEL := Lib.hid hel; have HLL := Lib.hid hl; have HNN := Lib.hid hN
  clear hz1 hz hel hl hN hln
  go_region_held3 (fun w' => w'.cell? ⟨b, 3, none⟩ = some (.slice (some ⟨b0, off, none⟩) N cap)) (go_keep)
    (first
      | (refine step_app2 rfl _ _ rfl B _ _ rfl (hva.al _) _ _ rfl (BS.one _ _ 3#8 _ _ rfl rfl) (by show _ + 1 ≤ _; omega) (Nat.le_trans hBle (World.grownBy_alloc w1 _ none).size) ?_; intro v2 w2 ho2 hg2
         have hc2 := hg2.cell (k := 3) (u := .slice (some ⟨b0, off, none⟩) N cap) (cell_al hc _) hne
         have hB2 : B ≤ w2.heap.size := Nat.le_trans (Nat.le_trans hBle (World.grownBy_alloc w1 _ none).size) hg2.grown.size
         have hne2 := hg2.ne (b := b) (Nat.lt_of_lt_of_le hblt (World.grownBy_alloc w1 _ none).size) hne)
      | (go_at_call 98; refine (numeral_any _ _ _ _ B hB2 ho2 HZ.out (by rw [List.length_append]; exact hl1)).mono ?_; rintro e w3 ⟨v3, rfl, ho3, hg3⟩
         have hc3 := hg3.cell (k := 3) (u := .slice (some ⟨b0, off, none⟩) N cap) hc2 hne2
         have hB3 : B ≤ w3.heap.size := Nat.le_trans hB2 hg3.grown.size))
  have hG3 : Below B w w3 := hB1.trans ((hg2.drew.al.trans hg3).below hBle hva)
  clear hg2 hg3 ho2 hc2 hne2 hc hva hne hrow hB1 hB2
  go_wp2
  have hbase : BytesAt w3 0 0 [] := fun j x hx => by simp at hx
  clear hbase
  go_loopw [0, 19] (fun s t wr => ∃ k : Nat, k ≤ N ∧ t = .int .i64 k ∧ OB wr B s (l ++ [3#8] ++ numl N ++ encs (ls.take k)) ∧ Below B w wr) (fun _ t _ => N - (intOf t).toNat)
  case atStart => exact ⟨0, by omega, rfl, by simpa [encs] using ho3, hG3⟩
  case round =>
    clear ho3 hG3 hB3
    obtain ⟨k, hk, rfl, ho, hg⟩ := hrel
    have hgs := hg.size
    have hle := encs_le ls k
    by_cases hlt : k < N
    · obtain ⟨lf, hlf⟩ : ∃ lf, ls[k]? = some lf := ⟨ls[k]'(by have := HNN.out; omega), by simp [HNN.out, hlt]⟩
      have hstep := encs_take ls k lf hlf
      have hle2 := encs_le ls (k + 1)
      have hokl := hok lf (List.mem_of_getElem? hlf)
      have hcell : ∀ j u, lf.cells[j]? = some u → wr.cell? ⟨b0, off + k * 4 + j, none⟩ = some u := fun j u hj => (hg.cell (p := ⟨b0, off + k * 4 + j, none⟩) hb0).trans (hL k lf hlf j u hj)
      have hx1 := (hg.cell (p := ⟨bt, 1, none⟩) hbt).trans hw1
      have hx2 := (hg.cell (p := ⟨bt, 2, none⟩) hbt).trans hw2
      have hx3 := (hg.cell (p := ⟨p, 0, none⟩) hp).trans hw3
      have hlen : (l ++ [3#8] ++ numl N ++ encs (ls.take k)).length + lf.enc.length + 50 ≤ 140737488355328 := by
        rw [hstep, List.length_append] at hle2
        have := HLL.out
        simp only [List.length_append, List.length_cons, List.length_nil]; omega
      have hnext : l ++ [3#8] ++ numl N ++ encs (ls.take (k + 1)) = l ++ [3#8] ++ numl N ++ encs (ls.take k) ++ lf.enc := by rw [hstep]; simp
      have HX := Lib.hid hnext
      clear hnext hstep hle2 hle
      generalize l ++ [3#8] ++ numl N ++ encs (ls.take k) = L at *
      cases lf with
      | int n =>
        have c0 : wr.cell? ⟨b0, off + k * 4, none⟩ = some (.int .i64 1) := hcell 0 _ rfl
        have c1 := hcell 1 _ rfl
        have c2 := hcell 2 _ rfl
        have c3 := hcell 3 _ rfl
        clear hcell
        go_wp2_with (refine st_new rfl 62 _ _ rfl (Leaf.int n).cells _ 62 rfl rfl (by kernel_rfl) rfl (by kernel_rfl) ?_)
        unfold Leaf.cells
        have hx1' := cell_al hx1 (.cells (Leaf.int n).cells 62)
        have hx3' := cell_al hx3 (.cells (Leaf.int n).cells 62)
        unfold Leaf.cells at hx1' hx3'
        refine wp_region_quiet_drew 9 (by kernel_rfl) (by kernel_rfl) ?_
        simp only [List.take_succ_cons, List.take_zero, List.drop_succ_cons, List.drop_zero]
        repeat (quiet_step (fail))
        refine wpQuiet_nil ?_
        rintro _ ⟨nq, rfl⟩
        go_wp2_with fail
        have hL1 : L.length + 11 ≤ 140737488355328 := by omega
        refine (write1_any _ L n ((wr.alloc (.cells (Leaf.int n).cells 62)).drewN nq) B (Nat.le_trans (show B ≤ wr.heap.size by omega) (World.grownBy_alloc wr _ none).size) ((ho.al _).dN _) hokl.1 hokl.2 hL1).mono ?_
        rintro e w4 ⟨v4, rfl, ho4, hg4⟩
        go_wp2_with fail
        go_roundw
        case rel => exact ⟨k + 1, by omega, by go_num, by rw [HX.out]; exact ho4, hg.trans (hg4.drewN.al.below (by omega) ho)⟩
        case measure => simp [intOf]; omega
      | text str =>
        have c0 : wr.cell? ⟨b0, off + k * 4, none⟩ = some (.int .i64 2) := hcell 0 _ rfl
        have c1 := hcell 1 _ rfl
        have c2 := hcell 2 _ rfl
        have c3 := hcell 3 _ rfl
        clear hcell
        go_wp2_with (refine st_new rfl 62 _ _ rfl (Leaf.text str).cells _ 62 rfl rfl (by kernel_rfl) rfl (by kernel_rfl) ?_)
        unfold Leaf.cells
        have hx2' := cell_al hx2 (.cells (Leaf.text str).cells 62)
        have hx3' := cell_al hx3 (.cells (Leaf.text str).cells 62)
        unfold Leaf.cells at hx2' hx3'
        refine wp_region_quiet_drew 9 (by kernel_rfl) (by kernel_rfl) ?_
        simp only [List.take_succ_cons, List.take_zero, List.drop_succ_cons, List.drop_zero]
        repeat (quiet_step (fail))
        refine wpQuiet_nil ?_
        rintro _ ⟨nq, rfl⟩
        go_wp2_with fail
        have hL1 : L.length + 11 + str.size ≤ 140737488355328 := by simp [Leaf.enc, length_strB] at hlen; omega
        refine (write2_any _ L str ((wr.alloc (.cells (Leaf.text str).cells 62)).drewN nq) B (Nat.le_trans (show B ≤ wr.heap.size by omega) (World.grownBy_alloc wr _ none).size) ((ho.al _).dN _) hokl hL1).mono ?_
        rintro e w4 ⟨v4, rfl, ho4, hg4⟩
        go_wp2_with fail
        go_roundw
        case rel => exact ⟨k + 1, by omega, by go_num, by rw [HX.out]; exact ho4, hg.trans (hg4.drewN.al.below (by omega) ho)⟩
        case measure => simp [intOf]; omega
    · obtain rfl : k = N := by omega
      rw [List.take_of_length_le (by have := HNN.out; omega)] at ho
      go_wp2
      go_ret
      refine ⟨_, rfl, ?_, hg⟩
      unfold encL
      rw [HNN.out]
      simpa using ho
end Chart
