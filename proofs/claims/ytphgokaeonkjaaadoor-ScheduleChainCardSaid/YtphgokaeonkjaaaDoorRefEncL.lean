/- The reference's encoding of lists of leaves. -/
import Derived.Test.YtphgokaeonkjaaaDoorRefEncode
namespace Chart
open Go Go.RowKit Go.Proofs

theorem refencode_leaf (lf : Leaf) (w : World) (hok : lf.ok) (hl : lf.enc.length + 100 ≤ 140737488355328) :
    Calls Tryd.prog 111 #[.agg lf.cells] w fun e w' => ∃ v', e = .returned v' ∧ OB w' w.heap.size v' lf.enc ∧ Below w.heap.size w w' := by
  cases lf with
  | int n => exact refencode_int n w hok.1 hok.2
  | text s => exact refencode_text s w (by simp [Leaf.enc, length_strB] at hl; omega)

set_option maxHeartbeats 4000000 in
set_option maxRecDepth 100000 in
theorem refencode_list (b0 off N cap : Nat) (ls : List Leaf) (w : World) (hN : ls.length = N) (hL : LeavesAt w b0 off ls) (hok : ∀ lf ∈ ls, lf.ok) (hb0 : b0 < w.heap.size) (hcap : N ≤ cap) (hmax : cap ≤ maxLen) (hl : (encL ls).length + 100 ≤ 140737488355328) :
    Calls Tryd.prog 111 #[.agg (lCells (.slice (some ⟨b0, off, none⟩) N cap))] w fun e w' => ∃ v', e = .returned v' ∧ OB w' w.heap.size v' (encL ls) ∧ Below w.heap.size w w' := by
  obtain ⟨B, hB⟩ : ∃ B, w.heap.size = B := ⟨_, rfl⟩
  rw [hB] at hb0 ⊢
  unfold maxLen at hmax
  have hz : N < 2 ^ 64 := by omega
  have hln := length_numl_u64 N hz
  have w64 : IntKind.u64.wrap (N : Int) = (N : Int) := by rw [wrap_u64_mod]; omega
  have hel : (encL ls).length = 1 + (numl N).length + (encs ls).length := by unfold encL; rw [hN]; simp; omega
  rw [hel] at hl
  have hone := OB.one (w.alloc (.cells (lCells (.slice (some ⟨b0, off, none⟩) N cap)) 62)) (B + 1) (B + 1) 3#8 _ (by simp [hB]) rfl (Nat.le_refl _)
  have hB2 : Below B w ((w.alloc (.cells (lCells (.slice (some ⟨b0, off, none⟩) N cap)) 62)).alloc (.cells #[.int .u8 3] 5)) := ((Below.refl B w).alloc (by omega) _).alloc (by simp; omega) _
  have hrow : ((w.alloc (.cells (lCells (.slice (some ⟨b0, off, none⟩) N cap)) 62)).alloc (.cells #[.int .u8 3] 5)).heap[B]? = some (.cells (lCells (.slice (some ⟨b0, off, none⟩) N cap)) 62 (0, 0)) :=
    (Below.heap_alloc _ _ _ (by simp; omega)).trans (by rw [← hB]; exact heap_alloc_new w _)
  have hs2 : ((w.alloc (.cells (lCells (.slice (some ⟨b0, off, none⟩) N cap)) 62)).alloc (.cells #[.int .u8 3] 5)).heap.size = B + 2 := by simp [hB]
  have HEL := Lib.hid hel; have HLL := Lib.hid hl; have HNN := Lib.hid hN; have HON := Lib.hid hone; have HB2 := Lib.hid hB2; have HR := Lib.hid hrow; have HS2 := Lib.hid hs2
  clear hel hl hN hone hB2 hrow hs2
  unfold lCells at HON HB2 HR HS2 ⊢
  go_enter Tryd.func111, Tryd.ntmps111
  go_wp2_with fail
  refine (refnumeral_u64 N _ hz).mono ?_
  rintro e w3 ⟨v3, rfl, ho3, hb3, hl3⟩
  have ho1 := OB.below HON.out hb3
  rw [HS2.out] at hb3
  have hrow3 := (hb3.block B (by omega)).trans HR.out
  have hB3 := HB2.out.trans (hb3.mono (by omega))
  have hs3 := hB3.size
  have hs3' : B + 1 ≤ w3.heap.size := (Array.getElem?_eq_some_iff.1 hrow3).1
  clear HON HB2 HR HS2 hb3
  go_upto_region 7 with (at_builtin; refine app2 rfl _ _ rfl (B + 1) _ _ rfl ho1 _ _ rfl ho3.bs (by simp; omega) hs3' ?_; intro v4 w4 ho4 hg4)
  have hrow4 := hg4.row hrow3 (OB.ne ho1)
  have hB4 := hB3.trans (hg4.below (by omega) (ho1.mono (Nat.le_succ B)))
  clear hrow3 hB3 ho1 ho3 hg4 hs3 hs3'
  go_wp2
  go_loopw [3, 4] (fun s t wr => ∃ k : Nat, k ≤ N ∧ t = .int .i64 k ∧ OB wr (B + 1) s ([3#8] ++ numl N ++ encs (ls.take k)) ∧ Below B w wr ∧ wr.heap[B]? = some (.cells #[.int .i64 3, .int .i64 0, .string { data := #[] }, .slice (some ⟨b0, off, none⟩) N cap] 62 (0, 0))) (fun _ t _ => N - (intOf t).toNat)
  case atStart => exact ⟨0, by omega, rfl, by simpa [encs] using ho4, hB4, hrow4⟩
  case round =>
    clear ho4 hB4 hrow4
    obtain ⟨k, hk, rfl, ho, hg, hr⟩ := hrel
    have hgs : B + 1 ≤ wr.heap.size := (Array.getElem?_eq_some_iff.1 hr).1
    have hle := encs_le ls k
    have k3 : wr.cell? ⟨B, 3, none⟩ = some (.slice (some ⟨b0, off, none⟩) N cap) := cell_of_row wr B 3 _ _ _ hr
    by_cases hlt : k < N
    · obtain ⟨lf, hlf⟩ : ∃ lf, ls[k]? = some lf := ⟨ls[k]'(by have := HNN.out; omega), by simp [HNN.out, hlt]⟩
      have hstep := encs_take ls k lf hlf
      have hle2 := encs_le ls (k + 1)
      have hokl := hok lf (List.mem_of_getElem? hlf)
      have hcell : ∀ j u, lf.cells[j]? = some u → wr.cell? ⟨b0, off + k * 4 + j, none⟩ = some u := fun j u hj => (hg.cell (p := ⟨b0, off + k * 4 + j, none⟩) hb0).trans (hL k lf hlf j u hj)
      have hlen : ([3#8] ++ numl N ++ encs (ls.take k)).length + lf.enc.length + 50 ≤ 140737488355328 := by
        rw [hstep, List.length_append] at hle2
        have := HLL.out
        simp only [List.length_append, List.length_cons, List.length_nil]; omega
      have hel : lf.enc.length + 100 ≤ 140737488355328 := by
        rw [hstep, List.length_append] at hle2
        have := HLL.out
        omega
      have hen := refencode_leaf lf wr hokl hel
      have hnext : [3#8] ++ numl N ++ encs (ls.take (k + 1)) = [3#8] ++ numl N ++ encs (ls.take k) ++ lf.enc := by rw [hstep]; simp
      have HX := Lib.hid hnext
      clear hnext hstep hle2 hle hel
      generalize [3#8] ++ numl N ++ encs (ls.take k) = L at *
      have hlen' : L.length + lf.enc.length ≤ 140737488355328 := by omega
      cases lf with
      | int n =>
        have c0 : wr.cell? ⟨b0, off + k * 4, none⟩ = some (.int .i64 1) := hcell 0 _ rfl
        have c1 := hcell 1 _ rfl
        have c2 := hcell 2 _ rfl
        have c3 := hcell 3 _ rfl
        clear hcell
        unfold Leaf.cells at hen
        go_wp2_with fail
        refine hen.mono ?_
        rintro e w6 ⟨v6, rfl, ho6, hb6⟩
        have hr6 := (hb6.block B hgs).trans hr
        have ho6' := OB.below ho hb6
        go_wp2_with (at_builtin; refine app2 rfl _ _ rfl (B + 1) _ _ rfl ho6' _ _ rfl ho6.bs hlen' (Nat.le_trans hgs hb6.size) ?_; intro v7 w7 ho7 hg7)
        go_roundw
        case rel => exact ⟨k + 1, by omega, by go_num, by rw [HX.out]; exact ho7, (hg.trans (hb6.mono (by omega))).trans (hg7.below (by have := hb6.size; omega) (ho6'.mono (Nat.le_succ B))), hg7.row hr6 (OB.ne ho6')⟩
        case measure => simp [intOf]; omega
      | text str =>
        have c0 : wr.cell? ⟨b0, off + k * 4, none⟩ = some (.int .i64 2) := hcell 0 _ rfl
        have c1 := hcell 1 _ rfl
        have c2 := hcell 2 _ rfl
        have c3 := hcell 3 _ rfl
        clear hcell
        unfold Leaf.cells at hen
        go_wp2_with fail
        refine hen.mono ?_
        rintro e w6 ⟨v6, rfl, ho6, hb6⟩
        have hr6 := (hb6.block B hgs).trans hr
        have ho6' := OB.below ho hb6
        go_wp2_with (at_builtin; refine app2 rfl _ _ rfl (B + 1) _ _ rfl ho6' _ _ rfl ho6.bs hlen' (Nat.le_trans hgs hb6.size) ?_; intro v7 w7 ho7 hg7)
        go_roundw
        case rel => exact ⟨k + 1, by omega, by go_num, by rw [HX.out]; exact ho7, (hg.trans (hb6.mono (by omega))).trans (hg7.below (by have := hb6.size; omega) (ho6'.mono (Nat.le_succ B))), hg7.row hr6 (OB.ne ho6')⟩
        case measure => simp [intOf]; omega
    · obtain rfl : k = N := by omega
      rw [List.take_of_length_le (by have := HNN.out; omega)] at ho
      go_wp2
      go_ret
      refine ⟨_, rfl, ?_, hg⟩
      unfold encL
      rw [HNN.out]
      simpa using ho.mono (Nat.le_succ B)

set_option maxHeartbeats 4000000 in
set_option maxRecDepth 100000 in
theorem refEncode_list (b0 off N cap : Nat) (ls : List Leaf) (w : World) (hN : ls.length = N) (hL : LeavesAt w b0 off ls) (hok : ∀ lf ∈ ls, lf.ok) (hb0 : b0 < w.heap.size) (hcap : N ≤ cap) (hmax : cap ≤ maxLen) (hl : (encL ls).length + 100 ≤ 140737488355328) :
    Calls Tryd.prog 83 #[.agg (lCells (.slice (some ⟨b0, off, none⟩) N cap))] w fun e w' => ∃ v', e = .returned (.tuple #[v', .int .i64 0]) ∧ OB w' w.heap.size v' (encL ls) ∧ Below w.heap.size w w' := by
  obtain ⟨B, hB⟩ : ∃ B, w.heap.size = B := ⟨_, rfl⟩
  rw [hB] at hb0 ⊢
  have hB0 : ∀ o1, Below B w (w.alloc o1) := fun o1 => (Below.refl B w).alloc (by omega) o1
  have hL' : ∀ o1 w2, Below (B + 1) (w.alloc o1) w2 → LeavesAt w2 b0 off ls := fun o1 w2 h i lf hi j u hu => (((hB0 o1).trans (h.mono (Nat.le_succ _))).cell (p := ⟨b0, off + i * 4 + j, none⟩) hb0).trans (hL i lf hi j u hu)
  have hf : ∀ o1, Calls Tryd.prog 110 #[.agg (lCells (.slice (some ⟨b0, off, none⟩) N cap))] (w.alloc o1) fun e w' => e = .returned (.int .i64 0) ∧ Below (B + 1) (w.alloc o1) w' := fun o1 =>
    (refcheck_list b0 off N cap ls (w.alloc o1) hN (hL' o1 _ (Below.refl _ _)) (by simp; omega) hcap hmax).mono fun e w' h => by rw [World.size_alloc, hB] at h; exact h
  have hd : ∀ o1 w2, Below (B + 1) (w.alloc o1) w2 → Calls Tryd.prog 111 #[.agg (lCells (.slice (some ⟨b0, off, none⟩) N cap))] w2 fun e w' => ∃ v', e = .returned v' ∧ OB w' B v' (encL ls) ∧ Below (B + 1) (w.alloc o1) w' := fun o1 w2 h =>
    (refencode_list b0 off N cap ls w2 hN (hL' o1 _ h) hok (by have := h.size; simp at this; omega) hcap hmax hl).mono fun e w' ⟨v', h1, h2, h3⟩ => ⟨v', h1, h2.mono (by have := h.size; simp at this; omega), h.trans (h3.mono (by have := h.size; simp at this; omega))⟩
  have hrow : (w.alloc (.cells (lCells (.slice (some ⟨b0, off, none⟩) N cap)) 62)).heap[B]? = some (.cells (lCells (.slice (some ⟨b0, off, none⟩) N cap)) 62 (0, 0)) := by rw [← hB]; exact heap_alloc_new w _
  unfold lCells at hf hd hrow ⊢
  go_enter Tryd.func83, Tryd.ntmps83
  go_wp2_with fail
  refine (hf _).mono ?_
  rintro e w2 ⟨rfl, hb2⟩
  have hrow2 := (hb2.block B (by omega)).trans hrow
  go_wp2_with (refine wpList_load_row rfl 62 _ rfl B rfl 62 _ (0, 0) _ hrow2 Tryd.underlying62 rfl (by kernel_rfl) ?_)
  refine (hd _ _ hb2).mono ?_
  rintro e w3 ⟨v3, rfl, ho3, hb3⟩
  go_wp2
  go_ret2
  exact ⟨v3, rfl, ho3, (hB0 _).trans (hb3.mono (by omega))⟩
end Chart
