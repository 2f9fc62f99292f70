/- The reference's Sum is SHA-256. -/
import Derived.Test.YtphgokaeonkjaaaDoorRefBlock
import Derived.Test.YtphgokaeonkjaaaDoorRefPad
import Derived.Test.YtphgokaeonkjaaaDoorOwn
namespace Chart
open Go Go.RowKit Go.Proofs

theorem padded_mod (l : List (BitVec 8)) : (padded l).length % 64 = 0 ∧ 64 ≤ (padded l).length ∧ (padded l).length ≤ l.length + 72 := by
  simp [padded, length_be64]; omega
theorem OB.some {w : World} {B : Nat} {v : Value} {l : List (BitVec 8)} (h : OB w B v l) (h0 : l ≠ []) : ∃ g cap, v = .slice (some ⟨g, 0, none⟩) l.length cap ∧ B ≤ g ∧ g < w.heap.size ∧ l.length ≤ cap ∧ cap ≤ maxLen ∧ BytesAt w g 0 l := by
  rcases h.bs with ⟨_, rfl⟩ | ⟨b, off, cap, rfl, h1, h2, h3, h4⟩
  · exact absurd rfl h0
  · rcases h.2 with ⟨h5, _⟩ | ⟨g, cap', cur, h5, h6, _⟩
    · cases h5
    · cases h5
      exact ⟨_, _, rfl, h6, h4, h1, h2, h3⟩

/-- The digest's cells while they are written one by one. -/
def dTo (s : St) (i : Nat) : Array Value := ((s.out.take i ++ List.replicate (32 - i) 0#8).map B8).toArray
theorem out_get (s : St) (i : Nat) (h : i < 32) : s.out[i]? = some (((s.get (i / 4)) >>> (24 - 8 * (i % 4))).setWidth 8) := by
  have h1 := out_take s (i / 4) (by omega)
  have h2 : s.out[i]? = (s.out.take (4 * (i / 4 + 1)))[i]? := (List.getElem?_take_of_lt (by omega)).symm
  have hl : (s.out.take (4 * (i / 4))).length = 4 * (i / 4) := by rw [List.length_take, length_out]; omega
  rw [h2, h1, List.getElem?_append_right (by omega), hl]
  have h3 : i - 4 * (i / 4) = i % 4 := by omega
  rw [h3]
  have h4 : i % 4 < 4 := by omega
  simp [be32, h4]
  congr 2
  omega
theorem dTo_step (s : St) (i : Nat) (h : i < 32) : (dTo s i).setIfInBounds i (B8 (((s.get (i / 4)) >>> (24 - 8 * (i % 4))).setWidth 8)) = dTo s (i + 1) := by
  unfold dTo
  rw [set_map, List.take_add_one, out_get s i h]
  have hl : (s.out.take i).length = i := by rw [List.length_take, length_out]; omega
  rw [List.set_append_right _ _ (by omega), hl, Nat.sub_self, show 32 - i = (32 - (i + 1)) + 1 by omega, List.replicate_succ]
  simp
theorem dTo_zero (s : St) : dTo s 0 = zrow 32 := by unfold dTo; rw [zrow_eq]; simp
theorem dTo_all (s : St) : dTo s 32 = dCells s.out := by
  unfold dTo dCells; rw [List.take_of_length_le (by rw [length_out]; omega)]; simp
theorem dTo_zeroAt (s : St) (i : Nat) (h : i < 32) : (dTo s i)[i]? = some (B8 0#8) := by
  unfold dTo
  have hl : (s.out.take i).length = i := by rw [List.length_take, length_out]; omega
  simp only [List.getElem?_toArray, List.getElem?_map]
  rw [List.getElem?_append_right (by omega), hl, Nat.sub_self, List.getElem?_replicate, if_pos (by omega)]; rfl

theorem shr_byte (x : BitVec 32) (n : Nat) : U32 x / 2 ^ n % 256 = U8 ((x >>> n).setWidth 8) := by
  unfold U32 U8
  rw [BitVec.toNat_setWidth, BitVec.toNat_ushiftRight, Nat.shiftRight_eq_div_pow]
  have h : ((x.toNat / 2 ^ n : Nat) : Int) = (x.toNat : Int) / 2 ^ n := by simp
  have h2 : ((x.toNat / 2 ^ n % 2 ^ 8 : Nat) : Int) = ((x.toNat / 2 ^ n : Nat) : Int) % 256 := rfl
  rw [h2, h]

set_option maxHeartbeats 2000000 in
set_option maxRecDepth 100000 in
theorem refsum_any (v : Value) (l : List (BitVec 8)) (w : World) (hv : BS w v l) (hl : l.length + 128 ≤ 140737488355328) :
    Calls Tryd.prog 62 #[v] w fun e w' => e = .returned (.agg (dCells (sha l))) ∧ Below w.heap.size w w' := by
  obtain ⟨va, vn, vc, rfl⟩ := hv.form
  obtain ⟨bd, hbd⟩ : ∃ bd, w.heap.size = bd := ⟨_, rfl⟩
  rw [hbd]
  go_enter Tryd.func62, Tryd.ntmps62
  go_wp2_with (first
    | refine wpList_buildTo rfl 87 _ rfl (some 8) rfl (stCells St.init) (by kernel_rfl) ?_
    | refine st_new rfl 87 _ _ rfl (stCells St.init) _ 87 (by show Value.pointer _ = Value.pointer _; simp [hbd]) rfl (by kernel_rfl) (by kernel_rfl) (by kernel_rfl) ?_)
  have hd2 : ((w.alloc (.cells (zrow 32) 38)).alloc (.cells (stCells St.init) 87)).heap[bd]? = some (.cells (zrow 32) 38 (0, 0)) :=
    (Below.heap_alloc _ _ bd (by simp [hbd])).trans (by rw [← hbd]; exact heap_alloc_new w _)
  have hs2 : ((w.alloc (.cells (zrow 32) 38)).alloc (.cells (stCells St.init) 87)).heap[bd + 1]? = some (.cells (stCells St.init) 87 (0, 0)) := by
    have := heap_alloc_new (w.alloc (.cells (zrow 32) 38)) (.cells (stCells St.init) 87)
    simpa [hbd] using this
  have hb2 : Below bd w ((w.alloc (.cells (zrow 32) 38)).alloc (.cells (stCells St.init) 87)) := ((Below.refl bd w).alloc (by omega) _).alloc (by simp [hbd]) _
  have hz2 : ((w.alloc (.cells (zrow 32) 38)).alloc (.cells (stCells St.init) 87)).heap.size = bd + 2 := by simp [hbd]
  have hz : zrow 32 = #[Value.int IntKind.u8 0, Value.int IntKind.u8 0, Value.int IntKind.u8 0, Value.int IntKind.u8 0,
          Value.int IntKind.u8 0, Value.int IntKind.u8 0, Value.int IntKind.u8 0, Value.int IntKind.u8 0,
          Value.int IntKind.u8 0, Value.int IntKind.u8 0, Value.int IntKind.u8 0, Value.int IntKind.u8 0,
          Value.int IntKind.u8 0, Value.int IntKind.u8 0, Value.int IntKind.u8 0, Value.int IntKind.u8 0,
          Value.int IntKind.u8 0, Value.int IntKind.u8 0, Value.int IntKind.u8 0, Value.int IntKind.u8 0,
          Value.int IntKind.u8 0, Value.int IntKind.u8 0, Value.int IntKind.u8 0, Value.int IntKind.u8 0,
          Value.int IntKind.u8 0, Value.int IntKind.u8 0, Value.int IntKind.u8 0, Value.int IntKind.u8 0,
          Value.int IntKind.u8 0, Value.int IntKind.u8 0, Value.int IntKind.u8 0, Value.int IntKind.u8 0] := rfl
  rw [← hz]
  generalize ((w.alloc (.cells (zrow 32) 38)).alloc (.cells (stCells St.init) 87)) = w2 at *
  clear hz
  obtain ⟨bs, hbs⟩ : ∃ bs, bd + 1 = bs := ⟨_, rfl⟩
  rw [hbs] at hs2
  rw [hbs]
  refine (padded_any _ l w2 (hv.below (by rw [hbd]; exact hb2)) hl).mono ?_
  rintro e w3 ⟨vp, rfl, hop, hb3⟩
  rw [hz2] at hop hb3
  obtain ⟨hp0, hp1, hp2⟩ := padded_mod l
  have hsha : sha l = (St.init.blocks (padded l) ((padded l).length / 64)).out := rfl
  generalize padded l = p at *
  obtain ⟨N, hN⟩ : ∃ N, p.length = 64 * N := ⟨p.length / 64, by omega⟩
  rw [show p.length / 64 = N by omega] at hsha
  obtain ⟨g, cap, rfl, hg1, hg2, hg3, hg4, hby⟩ := hop.some (by intro h; rw [h] at hp1; simp at hp1)
  rw [hN]
  rw [hN] at hg3 hp1 hp2
  unfold maxLen at hg4
  have hd3 := (hb3.block bd (by omega)).trans hd2
  have hs3 := (hb3.block bs (by omega)).trans hs2
  have hB3 : Below bd w w3 := hb2.trans (hb3.mono (by omega))
  have hl3 := hB3.size
  have hl3' := hb3.size
  clear hop hb3 hb2 hd2 hs2
  have HS := Lib.hid hsha
  clear hsha
  go_wp2
  go_loopw [5] (fun t wr => ∃ k : Nat, k ≤ N ∧ t = .int .i64 (64 * k) ∧ w3.grownBy wr (some bs) ∧ wr.heap[bs]? = some (.cells (stCells (St.init.blocks p k)) 87 (0, 0))) (fun t _ => 64 * N - (intOf t).toNat)
  case atStart => exact ⟨0, by omega, rfl, .rf _ _, hs3⟩
  case round =>
    clear hs3
    obtain ⟨k, hk, rfl, hg, hs⟩ := hrel
    by_cases hlt : k < N
    · have hnext : St.init.blocks p (k + 1) = (St.init.blocks p k).compress ((p.drop (64 * k)).take 64) := rfl
      have hbr : BytesAt wr g (64 * k) ((p.drop (64 * k)).take 64) := by
        have := ((hby.grown hg (by simp; omega)).drop (64 * k)).take 64
        simpa using this
      have hml : ((p.drop (64 * k)).take 64).length = 64 := by simp; omega
      have hgs := hg.size
      have hbsz : bs < wr.heap.size := (Array.getElem?_eq_some_iff.1 hs).1
      generalize (p.drop (64 * k)).take 64 = m at *
      generalize St.init.blocks p k = S at *
      obtain ⟨S', hS'⟩ : ∃ S', S.compress m = S' := ⟨_, rfl⟩
      have hblk : ∀ q : Own wr.heap.size wr, Calls Tryd.prog 85 #[.agg (stCells S), .slice (some ⟨g, 64 * k, none⟩) 64 (cap - 64 * k)] q.w' fun e w'' => e = .returned (.agg (stCells S')) ∧ ∃ p : Own wr.heap.size wr, w'' = p.w' := fun q => by
        rw [← hS']
        exact own_calls (Nat.le_refl _) (refblock_any _ _ _ _ _ _ _ hml (hbr.grown (World.grownBy.of_below q.below none) (by simp)) (Nat.lt_of_lt_of_le (show g < wr.heap.size by omega) q.below.size) (Nat.le_refl _) (by unfold maxLen; omega) (by omega))
      rw [hS'] at hnext
      have HN := Lib.hid hnext
      clear hnext hS'
      have hcap4 : ¬ (cap = 64 * k) := by omega
      have e1 : IntKind.i64.wrap (64 * (k : Int) + 64) = 64 * k + 64 := IntWalk.i64_in _ (by omega)
      have e2 : (0 : Int) ≤ 64 * (k : Int) + 64 := by omega
      have e3 : 64 * (k : Int) + 64 ≤ cap := by omega
      have e4 : (0 : Int) ≤ 64 * (k : Int) := by omega
      have e5 : max (64 * (k : Int) + 64) 0 = 64 * k + 64 := by omega
      have e6 : (64 * (k : Int)).toNat = 64 * k := by omega
      have e7 : (64 * (k : Int) + 64).toNat = 64 * k + 64 := by omega
      have e8 : 64 * k + 64 - 64 * k = 64 := by omega
      have e9 : 64 * (k : Int) ≤ 64 * k + 64 := by omega
      go_wp2_with fail
      refine wp_region_own_tail 7 wr.heap.size (by kernel_rfl) (by kernel_rfl) ?_
      simp only [List.take_succ_cons, List.take_zero, List.drop_succ_cons, List.drop_zero]
      refine wpQuiet_load_row rfl 87 _ rfl bs rfl 87 _ (0, 0) _ (fun _ ⟨q, hq⟩ => hq ▸ (q.below.block bs hbsz).trans hs) Tryd.underlying87 rfl (by kernel_rfl) ?_
      repeat (quiet_step ((go_at_call 85; exact hblk _)))
      refine wpQuiet_nil ?_
      rintro _ ⟨q, rfl⟩
      have hsq : q.w'.heap[bs]? = some (.cells (stCells S) 87 (0, 0)) := (q.below.block bs hbsz).trans hs
      go_wp2_with (refine wpList_store_row rfl 87 _ _ rfl bs _ rfl rfl 87 _ hsq (by kernel_rfl) rfl (by kernel_rfl) ?_)
      have hgN : w3.grownBy (q.w'.setRow bs (stCells S')) (some bs) :=
        ⟨(q.below.os).trans hg.os, (q.below.tape).trans hg.tape, (q.below.output).trans hg.output, by simp; exact Nat.le_trans hg.size q.below.size, fun i hi hr => by
          rw [setRow_other _ _ _ _ (by intro e; exact hr (by rw [e])), q.below.block i (Nat.lt_of_lt_of_le hi hg.size)]; exact hg.block i hi hr⟩
      go_roundw
      case rel =>
        exact ⟨k + 1, by omega, by go_num, hgN, by rw [HN.out]; exact setRow_heap _ _ _ _ _ _ hsq⟩
      case measure => simp [intOf]; omega
    · obtain rfl : k = N := by omega
      obtain ⟨S, hS⟩ : ∃ S, St.init.blocks p k = S := ⟨_, rfl⟩
      rw [hS] at hs
      have HB := Lib.hid hS
      clear hS hlt
      have hgs := hg.size
      have hd4 := (hg.block bd (by omega) (by simp; omega)).trans hd3
      obtain ⟨bx, hbx⟩ : ∃ bx, wr.heap.size = bx := ⟨_, rfl⟩
      go_wp2_with (first
        | refine wpList_buildTo rfl 38 #[] rfl (some 24) rfl (zrow 32) (by kernel_rfl) ?_
        | refine st_new rfl 38 _ _ rfl (zrow 32) _ 38 (by show Value.pointer _ = Value.pointer _; rw [hbx]) rfl (by kernel_rfl) (by kernel_rfl) (by kernel_rfl) ?_)
      have hS' : (wr.alloc (.cells (zrow 32) 38)).heap[bs]? = some (.cells (stCells S) 87 (0, 0)) := (Below.heap_alloc _ _ _ (by omega)).trans hs
      have hd5 : (wr.alloc (.cells (zrow 32) 38)).heap[bd]? = some (.cells (zrow 32) 38 (0, 0)) := (Below.heap_alloc _ _ _ (by omega)).trans hd4
      have hx5 : (wr.alloc (.cells (zrow 32) 38)).heap[bx]? = some (.cells (zrow 32) 38 (0, 0)) := by rw [← hbx]; exact heap_alloc_new wr _
      have hB5 : Below bd w (wr.alloc (.cells (zrow 32) 38)) := (hB3.trans (hg.below (by omega) (by intro k h; cases h; omega))).alloc (by omega) _
      generalize wr.alloc (.cells (zrow 32) 38) = w5 at *
      go_loopw [7] (fun t wx => ∃ i : Nat, i ≤ 32 ∧ t = .int .i64 i ∧ w5.grownBy wx (some bx) ∧ wx.heap[bx]? = some (.cells (dTo S i) 38 (0, 0))) (fun t _ => 32 - (intOf t).toNat)
      case atStart => exact ⟨0, by omega, rfl, .rf _ _, by rw [dTo_zero]; exact hx5⟩
      case round =>
        clear hx5
        obtain ⟨i, hi, rfl, hg5, hx⟩ := hrel
        by_cases hlt : i < 32
        · have hs5 := (hg5.block bs (Array.getElem?_eq_some_iff.1 hS').1 (by simp; omega)).trans hS'
          have hc : wr.cell? ⟨bs, i / 4, none⟩ = some (B32 (S.get (i / 4))) := by rw [cell_of_row wr bs (i / 4) _ _ _ hs5, stCells_get S _ (by omega)]
          have hz : wr.cell? ⟨bx, i, none⟩ = some (B8 0#8) := by rw [cell_of_row wr bx i _ _ _ hx, dTo_zeroAt S i hlt]
          have hf : wr.frozen? ⟨bx, i, none⟩ = false := frozen_of_row wr bx i _ _ hx
          have hnext := dTo_step S i hlt
          have HN := Lib.hid hnext
          clear hnext hs5
          generalize S.get (i / 4) = x at *
          have j1 : (0 : Int) ≤ 24 - 8 * ((i : Int) % 4) := by omega
          have j2 : (24 - 8 * ((i : Int) % 4)).toNat = 24 - 8 * (i % 4) := by omega
          have j3 : (0 : Int) ≤ (i : Int) / 4 := by omega
          have j4 : (i : Int) / 4 < 8 := by omega
          have j5 : ((i : Int) / 4).toNat = i / 4 := by omega
          go_wp2_with fail
          go_roundw
          case rel => exact ⟨i + 1, by omega, by go_num, hg5.set _ _ _ (.inr rfl), by rw [heap_setCell_same _ _ _ _ _ _ hx, ← HN.out, shr_byte]⟩
          case measure => simp [intOf]; omega
        · obtain rfl : i = 32 := by omega
          rw [dTo_all] at hx
          have hsha : sha l = S.out := by rw [HS.out, HB.out]
          rw [← hsha] at hx
          have i1 := info_digest' _ (length_sha l)
          have hd6 := (hg5.block bd (Array.getElem?_eq_some_iff.1 hd5).1 (by simp; omega)).trans hd5
          have hz : (zrow 32).size = (dCells (sha l)).size := by rw [size_dCells _ (length_sha l)]; rfl
          generalize hX : dCells (sha l) = X at *
          have h1 : X.all (·.oneCell') = true := by rw [← hX]; exact one_dCells _
          go_wp2_with (first
            | (refine wpList_load_row rfl 38 _ rfl bx rfl 38 _ (0, 0) _ hx Tryd.underlying38 rfl i1 ?_)
            | (refine wpList_store_row rfl 38 _ _ rfl bd _ rfl rfl 38 _ hd6 i1 hz h1 ?_))
          have hbd' : bd ≤ bx := by omega
          refine bodyPost_ret (results_cell_row rfl _ _ bd 38 _ (0, 0) _ rfl (setRow_heap _ _ _ _ _ _ hd6) Tryd.underlying38 rfl i1) rfl ⟨by rw [hX], ?_⟩
          refine (hB5.trans (hg5.below (Nat.le_of_lt (Nat.lt_of_lt_of_le (Array.getElem?_eq_some_iff.1 hd5).1 (Nat.le_refl _))) (by intro k h; cases h; exact hbd'))).trans ?_
          exact ⟨rfl, rfl, rfl, by simp, fun i hi => by rw [setRow_other _ _ _ _ (by omega)]⟩
end Chart
