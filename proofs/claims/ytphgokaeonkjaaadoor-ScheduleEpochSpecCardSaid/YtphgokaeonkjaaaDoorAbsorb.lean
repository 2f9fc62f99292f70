/- (*state).absorb computes SHA-256's compression. -/
import Derived.Test.YtphgokaeonkjaaaDoorRot
import Derived.StillTailTactics
namespace Chart
open Go Go.RowKit Go.Proofs

/-- The state, as eight cells. -/
def stCells (s : St) : Array Value := #[B32 s.a, B32 s.b, B32 s.c, B32 s.d, B32 s.e, B32 s.f, B32 s.g, B32 s.h]
/-- A word of the state by its number; the state's cells while the sums are written. -/
def St.get (s : St) : Nat → BitVec 32
  | 0 => s.a
  | 1 => s.b
  | 2 => s.c
  | 3 => s.d
  | 4 => s.e
  | 5 => s.f
  | 6 => s.g
  | _ => s.h
def addTo (s v : St) : Nat → Array Value
  | 0 => stCells s
  | n + 1 => (addTo s v n).setIfInBounds n (B32 (s.get n + v.get n))
theorem stCells_get (s : St) (k : Nat) (h : k < 8) : (stCells s)[k]? = some (B32 (s.get k)) := by
  match k, h with
  | 0, _ => rfl
  | 1, _ => rfl
  | 2, _ => rfl
  | 3, _ => rfl
  | 4, _ => rfl
  | 5, _ => rfl
  | 6, _ => rfl
  | 7, _ => rfl
theorem addTo_get (s v : St) (k : Nat) (h : k < 8) : (addTo s v k)[k]? = some (B32 (s.get k)) := by
  match k, h with
  | 0, _ => simp [addTo, stCells, St.get]
  | 1, _ => simp [addTo, stCells, St.get]
  | 2, _ => simp [addTo, stCells, St.get]
  | 3, _ => simp [addTo, stCells, St.get]
  | 4, _ => simp [addTo, stCells, St.get]
  | 5, _ => simp [addTo, stCells, St.get]
  | 6, _ => simp [addTo, stCells, St.get]
  | 7, _ => simp [addTo, stCells, St.get]
theorem addTo_all (s v : St) : addTo s v 8 = stCells (s.add v) := by simp [addTo, stCells, St.get, St.add]

/-- What the package's tables hold. -/
def Nums (w : World) : Prop := ∀ j x, KS[j]? = some x → w.cell? ⟨1, j, none⟩ = some (B32 x)

theorem Nums.grown {w w' : World} {row : Option Nat} (h : Nums w) (hg : w.grownBy w' row) (hr : row ≠ some 1) : Nums w' :=
  fun j x hx => hg.cell (h j x hx) (Ne.symm hr)

set_option maxHeartbeats 1000000 in
set_option maxRecDepth 100000 in
theorem absorb_any (bs b off cap : Nat) (s : St) (l : List (BitVec 8)) (w : World) (hs : w.heap[bs]? = some (.cells (stCells s) 88 (0, 0)))
    (hl : l.length = 64) (hb : BytesAt w b off l) (hcap : 64 ≤ cap) (hm : cap ≤ maxLen) (hn : Nums w) :
    Calls Tryd.prog 63 #[.pointer (some ⟨bs, 0, none⟩), .slice (some ⟨b, off, none⟩) 64 cap] w fun e w' =>
      e = .returned (.tuple #[]) ∧ w.grownBy w' (some bs) ∧ w'.heap[bs]? = some (.cells (stCells (s.compress l)) 88 (0, 0)) := by
  unfold maxLen at hm
  have hlw := length_words l
  have hltb : bs < w.heap.size := (Array.getElem?_eq_some_iff.1 hs).1
  obtain ⟨bw, hbw⟩ : ∃ bw, w.heap.size = bw := ⟨_, rfl⟩
  rw [hbw] at hltb
  go_enter Tryd.func63, Tryd.ntmps63
  go_wp2
  go_loopw [14] (fun t wr => ∃ k : Nat, k ≤ 16 ∧ t = .int .i64 k ∧ w.grownBy wr none ∧ wr.heap[bw]? = some (.cells (wCells 64 ((words l).take k)) 122 (0, 0))) (fun t _ => 16 - (intOf t).toNat)
  case atStart => exact ⟨0, Nat.zero_le _, rfl, World.grownBy_alloc _ _ _, by rw [← hbw]; exact heap_alloc_new w _⟩
  case round =>
    obtain ⟨k, hk, rfl, hg, hh⟩ := hrel
    by_cases hlt : k < 16
    · obtain ⟨ws, hws⟩ : ∃ ws, (l.drop (4 * k)).take 4 = ws := ⟨_, rfl⟩
      have hwl : ws.length = 4 := by rw [← hws]; simp; omega
      have hbr : BytesAt wr b (off + 4 * k) ws := by rw [← hws]; exact ((hb.grown hg (by simp)).drop _).take _
      have hcell : wr.cell? ⟨bw, k, none⟩ = some (B32 0) := by
        rw [cell_of_row wr bw k _ _ _ hh, wCells_zero _ _ _ (by simp; omega) (by omega)]
        rfl
      have hfr : wr.frozen? ⟨bw, k, none⟩ = false := frozen_of_row wr bw k _ _ hh
      have hcap4 : ¬ (cap = 4 * k) := by omega
      have HW := Lib.hid hws
      clear hws
      go_wp2_with fail
      refine (word_any _ _ _ _ ws _ hwl (by omega) (by unfold maxLen; omega) hbr).mono ?_
      rintro e w' ⟨rfl, rfl⟩
      go_wp2_with fail
      go_roundw
      case rel =>
        refine ⟨k + 1, by omega, by go_num, hg.set _ _ _ (.inl (by omega)), ?_⟩
        rw [heap_setCell_same _ _ _ _ _ _ hh]
        have hk' : k = ((words l).take k).length := by simp; omega
        have := wCells_set 64 ((words l).take k) (wd ws) (by simp; omega)
        rw [← hk'] at this
        rw [this, List.take_add_one]
        simp [words, ← HW.out, show k < 16 by omega]
      case measure => simp [intOf]; omega
    · obtain rfl : k = 16 := by omega
      rw [List.take_of_length_le (by omega)] at hh
      clear hlt hk
      rw [show ((16 : Nat) : Int) = 16 from rfl]
      go_wp2_with fail
      go_loopw [6] (fun t wr => ∃ k : Nat, 16 ≤ k ∧ k ≤ 64 ∧ t = .int .i64 k ∧ w.grownBy wr none ∧ wr.heap[bw]? = some (.cells (wCells 64 (grow (words l) (k - 16))) 122 (0, 0))) (fun t _ => 64 - (intOf t).toNat)
      case atStart => exact ⟨16, by omega, by omega, rfl, hg, hh⟩
      case round =>
        clear hh hg
        obtain ⟨k, hk0, hk, rfl, hg, hh⟩ := hrel
        by_cases hlt : k < 64
        · obtain ⟨G, hG⟩ : ∃ G, grow (words l) (k - 16) = G := ⟨_, rfl⟩
          have hGl : G.length = k := by rw [← hG, length_grow]; omega
          have hnext : grow (words l) (k + 1 - 16) = G ++ [nextw G] := by rw [show k + 1 - 16 = (k - 16) + 1 by omega, grow, hG]
          rw [hG] at hh
          clear hG
          have cell : ∀ j, j < k → wr.cell? ⟨bw, j, none⟩ = some (B32 (G.getD j 0)) := fun j hj => by rw [cell_of_row wr bw j _ _ _ hh, wCells_get _ _ _ (by omega)]
          have c15 := cell (k - 15) (by omega)
          have c2 := cell (k - 2) (by omega)
          have c16 := cell (k - 16) (by omega)
          have c7 := cell (k - 7) (by omega)
          clear cell
          generalize hx15 : G.getD (k - 15) 0 = x15 at *
          generalize hx2 : G.getD (k - 2) 0 = x2 at *
          generalize hx16 : G.getD (k - 16) 0 = x16 at *
          generalize hx7 : G.getD (k - 7) 0 = x7 at *
          have cz : wr.cell? ⟨bw, k, none⟩ = some (.int .u32 0) := by rw [cell_of_row wr bw k _ _ _ hh, wCells_zero _ _ _ (by omega) (by omega)]
          have hfr : wr.frozen? ⟨bw, k, none⟩ = false := frozen_of_row wr bw k _ _ hh
          have H15 := Lib.hid hx15; have H2 := Lib.hid hx2; have H16 := Lib.hid hx16; have H7 := Lib.hid hx7; have HN := Lib.hid hnext; have HG := Lib.hid hGl
          clear hx15 hx2 hx16 hx7 hnext hGl
          have i1 : (0 : Int) ≤ (k : Int) - 15 := by omega
          have i2 : (k : Int) - 15 < 64 := by omega
          have i3 : (0 : Int) ≤ (k : Int) - 2 := by omega
          have i4 : (k : Int) - 2 < 64 := by omega
          have i5 : (0 : Int) ≤ (k : Int) - 16 := by omega
          have i6 : (k : Int) - 16 < 64 := by omega
          have i7 : (0 : Int) ≤ (k : Int) - 7 := by omega
          have i8 : (k : Int) - 7 < 64 := by omega
          have i9 : (0 : Int) ≤ (k : Int) := by omega
          have i10 : (k : Int) < 64 := by omega
          have i11 : (16 : Int) ≤ k := by omega
          have i12 : (7 : Int) ≤ k := by omega
          have i13 : (15 : Int) ≤ k := by omega
          have i14 : (2 : Int) ≤ k := by omega
          go_wp2_with fail
          go_quiet (fail)
          go_wp2_with fail
          refine wp_region_still_tail 29 (by kernel_rfl) (by kernel_rfl) ?_
          simp only [List.take_succ_cons, List.take_zero, List.drop_succ_cons, List.drop_zero]
          simp only [World.drew_eq]
          have e16 : IntKind.i64.wrap ((k : Int) - 16) = (k : Int) - 16 := IntWalk.i64_in _ (by omega)
          have e7 : IntKind.i64.wrap ((k : Int) - 7) = (k : Int) - 7 := IntWalk.i64_in _ (by omega)
          have t16 : ((k : Int) - 16).toNat = k - 16 := by omega
          have t7 : ((k : Int) - 7).toNat = k - 7 := by omega
          repeat (first | still_step | (refine wpStill_step (fun K hK => ?_); go_simp; refine ⟨_, stl (rotl_any _ _ _), hK _ ?_⟩; clear hK K))
          clear e16 e7 t16 t7
          refine wpStill_nil ?_
          go_wp2_with fail
          go_roundw
          case rel =>
            refine ⟨k + 1, by omega, by omega, by go_num, (hg.drN _).set _ _ _ (.inl (by omega)), ?_⟩
            rw [heap_setCell_same _ _ _ _ _ _ (by simpa using hh), HN.out, ← wCells_set 64 G _ (by have := HG.out; omega), HG.out]
            congr 4
            simp only [nextw, HG.out, H15.out, H2.out, H16.out, H7.out, sg0, sg1]
            rw [rl_rr x15 25 (by omega), rl_rr x15 14 (by omega), rl_rr x2 15 (by omega), rl_rr x2 13 (by omega)]
          case measure => simp [intOf]; omega
        · obtain rfl : k = 64 := by omega
          clear hlt hk hk0
          have hrs : wr.heap[bs]? = some (.cells #[B32 s.a, B32 s.b, B32 s.c, B32 s.d, B32 s.e, B32 s.f, B32 s.g, B32 s.h] 88 (0, 0)) := (hg.block bs (by omega) (by simp)).trans hs
          have hsz : bw < wr.heap.size := (Array.getElem?_eq_some_iff.1 hh).1
          obtain ⟨bv, hbv⟩ : ∃ bv, wr.heap.size = bv := ⟨_, rfl⟩
          rw [hbv] at hsz
          rw [show ((64 : Nat) : Int) = 64 from rfl]
          go_wp2_with (refine wpList_load_row rfl 88 _ rfl bs rfl 88 _ (0, 0) _ hrs Tryd.underlying88 rfl (by kernel_rfl) ?_)
          obtain ⟨W, hW⟩ : ∃ W, grow (words l) 48 = W := ⟨_, rfl⟩
          have hWl : W.length = 64 := by rw [← hW, length_grow]; omega
          go_loopw [69] (fun t wq => ∃ k : Nat, k ≤ 64 ∧ t = .int .i64 k ∧ w.grownBy wq none ∧ wq.heap[bw]? = some (.cells (wCells 64 W) 122 (0, 0)) ∧ wq.heap[bv]? = some (.cells (stCells (s.rounds W k)) 88 (0, 0))) (fun t _ => 64 - (intOf t).toNat)
          case atStart =>
            exact ⟨0, by omega, rfl, hg.al _, by rw [← hW]; exact (Below.heap_alloc _ _ _ (by omega)).trans hh, by rw [← hbv]; exact heap_alloc_new wr _⟩
          case round =>
            clear hh hrs hg hbv
            obtain ⟨k, hk, rfl, hg, hh, hv⟩ := hrel
            have HW0 := Lib.hid hW
            clear hW
            by_cases hlt : k < 64
            · obtain ⟨V, hV⟩ : ∃ V, s.rounds W k = V := ⟨_, rfl⟩
              have hnext : s.rounds W (k + 1) = V.rnd (KS.getD k 0) (W.getD k 0) := by rw [St.rounds, hV]
              rw [hV] at hv
              clear hV
              have hv' : wr.heap[bv]? = some (.cells #[B32 V.a, B32 V.b, B32 V.c, B32 V.d, B32 V.e, B32 V.f, B32 V.g, B32 V.h] 88 (0, 0)) := hv
              have v0 : wr.cell? ⟨bv, 0, none⟩ = some (B32 V.a) := cell_of_row wr bv 0 _ _ _ hv'
              have v1 : wr.cell? ⟨bv, 1, none⟩ = some (B32 V.b) := cell_of_row wr bv 1 _ _ _ hv'
              have v2 : wr.cell? ⟨bv, 2, none⟩ = some (B32 V.c) := cell_of_row wr bv 2 _ _ _ hv'
              have v3 : wr.cell? ⟨bv, 3, none⟩ = some (B32 V.d) := cell_of_row wr bv 3 _ _ _ hv'
              have v4 : wr.cell? ⟨bv, 4, none⟩ = some (B32 V.e) := cell_of_row wr bv 4 _ _ _ hv'
              have v5 : wr.cell? ⟨bv, 5, none⟩ = some (B32 V.f) := cell_of_row wr bv 5 _ _ _ hv'
              have v6 : wr.cell? ⟨bv, 6, none⟩ = some (B32 V.g) := cell_of_row wr bv 6 _ _ _ hv'
              have v7 : wr.cell? ⟨bv, 7, none⟩ = some (B32 V.h) := cell_of_row wr bv 7 _ _ _ hv'
              have cw : wr.cell? ⟨bw, k, none⟩ = some (B32 (W.getD k 0)) := by rw [cell_of_row wr bw k _ _ _ hh, wCells_get _ _ _ (by omega)]
              have ck : wr.cell? ⟨1, k, none⟩ = some (B32 (KS.getD k 0)) := by
                have hkl : k < KS.length := hlt
                refine (hn.grown hg (by simp)) k _ ?_
                rw [List.getD_eq_getElem?_getD, List.getElem?_eq_getElem hkl]; rfl
              generalize W.getD k 0 = Wk at *
              generalize KS.getD k 0 = Kk at *
              have HN := Lib.hid hnext
              have HV := Lib.hid hv'
              clear hnext hv hv'
              have i1 : (0 : Int) ≤ (k : Int) := by omega
              have i2 : (k : Int) < 64 := by omega
              go_wp2_with fail
              go_quiet ((go_at_call 88; exact quiet_left (rotated_any _ _ _ _ _ (by omega) (by omega) (by omega) (by omega) (by omega) (by omega))))
              obtain ⟨n1, rfl⟩ : ∃ n1, n1 = nq := ⟨_, rfl⟩
              go_wp2_with fail
              go_quiet ((go_at_call 88; exact quiet_add_left (rotated_any _ _ _ _ _ (by omega) (by omega) (by omega) (by omega) (by omega) (by omega))))
              go_wp2_with fail
              have hcp : ∀ n, (Builtin.copy_ #[126, 126] 3 #[.slice (some ⟨bv, 1, none⟩) 7 7, .slice (some ⟨bv, 0, none⟩) 7 8]).run Tryd.prog (wr.drewN n) =
                  .ok (goInt 7) ((wr.drewN n).setRow bv #[B32 V.a, B32 V.a, B32 V.b, B32 V.c, B32 V.d, B32 V.e, B32 V.f, B32 V.g]) := fun n => by
                have hx := run_copy_row Tryd.prog (wr.drewN n) 126 126 3 86 bv 1 7 7 ⟨bv, 0, none⟩ 7 8 _ 88 [B32 V.a, B32 V.b, B32 V.c, B32 V.d, B32 V.e, B32 V.f, B32 V.g]
                  Tryd.underlying126 (by kernel_rfl) (by simpa using HV.out) rfl (by
                    intro j v hj
                    match j, hj with
                    | 0, hj => cases hj; exact v0
                    | 1, hj => cases hj; exact v1
                    | 2, hj => cases hj; exact v2
                    | 3, hj => cases hj; exact v3
                    | 4, hj => cases hj; exact v4
                    | 5, hj => cases hj; exact v5
                    | 6, hj => cases hj; exact v6) (by simp) (by simp [Value.oneCell'])
                simpa using hx
              go_region
              have hz0 : w.grownBy ((wr.drewN (n1 + nq + 1)).setRow bv #[B32 V.a, B32 V.a, B32 V.b, B32 V.c, B32 V.d, B32 V.e, B32 V.f, B32 V.g]) none :=
                ⟨hg.os, hg.tape, hg.output, by simp; exact hg.size, fun i hi hr => by
                  rw [setRow_other _ _ _ _ (by omega)]; exact hg.block i hi hr⟩
              have hz1 : ((wr.drewN (n1 + nq + 1)).setRow bv #[B32 V.a, B32 V.a, B32 V.b, B32 V.c, B32 V.d, B32 V.e, B32 V.f, B32 V.g]).heap[bw]? = some (.cells (wCells 64 W) 122 (0, 0)) := by
                rw [setRow_other _ _ _ _ (by omega)]; exact hh
              have hz2 : ((wr.drewN (n1 + nq + 1)).setRow bv #[B32 V.a, B32 V.a, B32 V.b, B32 V.c, B32 V.d, B32 V.e, B32 V.f, B32 V.g]).heap[bv]? = some (.cells #[B32 V.a, B32 V.a, B32 V.b, B32 V.c, B32 V.d, B32 V.e, B32 V.f, B32 V.g] 88 (0, 0)) :=
                setRow_heap _ _ _ _ _ _ HV.out
              generalize (wr.drewN (n1 + nq + 1)).setRow bv #[B32 V.a, B32 V.a, B32 V.b, B32 V.c, B32 V.d, B32 V.e, B32 V.f, B32 V.g] = wz at *
              have z0 : wz.cell? ⟨bv, 0, none⟩ = some (B32 V.a) := cell_of_row wz bv 0 _ _ _ hz2
              have z4 : wz.cell? ⟨bv, 4, none⟩ = some (B32 V.d) := cell_of_row wz bv 4 _ _ _ hz2
              have y0 : wz.frozen? ⟨bv, 0, none⟩ = false := frozen_of_row wz bv 0 _ _ hz2
              have y4 : wz.frozen? ⟨bv, 4, none⟩ = false := frozen_of_row wz bv 4 _ _ hz2
              clear v0 v1 v2 v3 v4 v5 v6 v7 cw ck hcp
              go_wp2_with fail
              go_roundw
              case rel =>
                refine ⟨k + 1, by omega, by go_num, (hz0.set _ _ _ (.inl (by omega))).set _ _ _ (.inl (by omega)), ?_, ?_⟩
                · rw [heap_setCell_other _ _ _ _ (by show bw ≠ bv; omega), heap_setCell_other _ _ _ _ (by show bw ≠ bv; omega)]
                  exact hz1
                · rw [heap_setCell_same _ _ _ _ _ _ (heap_setCell_same _ _ _ _ _ _ hz2), HN.out,
                    rl_rr V.e 26 (by omega), rl_rr V.e 21 (by omega), rl_rr V.e 7 (by omega), rl_rr V.a 30 (by omega), rl_rr V.a 19 (by omega), rl_rr V.a 10 (by omega), ch_other, maj_other]
                  rfl
              case measure => simp [intOf]; omega
            · obtain rfl : k = 64 := by omega
              clear hlt hk
              obtain ⟨V, hV⟩ : ∃ V, s.rounds W 64 = V := ⟨_, rfl⟩
              rw [hV] at hv
              have HV0 := Lib.hid hV
              clear hV
              have hrs : wr.heap[bs]? = some (.cells (addTo s V 0) 88 (0, 0)) := (hg.block bs (by omega) (by simp)).trans hs
              clear hh
              rw [show ((64 : Nat) : Int) = 64 from rfl]
              go_wp2_with fail
              go_loopw [129] (fun t wq => ∃ k : Nat, k ≤ 8 ∧ t = .int .i64 k ∧ w.grownBy wq (some bs) ∧ wq.heap[bs]? = some (.cells (addTo s V k) 88 (0, 0)) ∧ wq.heap[bv]? = some (.cells (stCells V) 88 (0, 0))) (fun t _ => 8 - (intOf t).toNat)
              case atStart => exact ⟨0, by omega, rfl, hg.any _, hrs, hv⟩
              case round =>
                clear hrs hv hg
                obtain ⟨k, hk, rfl, hg, hh, hv⟩ := hrel
                by_cases hlt : k < 8
                · have cs : wr.cell? ⟨bs, k, none⟩ = some (B32 (s.get k)) := by rw [cell_of_row wr bs k _ _ _ hh, addTo_get s V k hlt]
                  have cv : wr.cell? ⟨bv, k, none⟩ = some (B32 (V.get k)) := by rw [cell_of_row wr bv k _ _ _ hv, stCells_get V k hlt]
                  have fs : wr.frozen? ⟨bs, k, none⟩ = false := frozen_of_row wr bs k _ _ hh
                  have hnext : addTo s V (k + 1) = (addTo s V k).setIfInBounds k (B32 (s.get k + V.get k)) := rfl
                  have HN := Lib.hid hnext
                  clear hnext
                  generalize s.get k = sk at *
                  generalize V.get k = vk at *
                  have i1 : (0 : Int) ≤ (k : Int) := by omega
                  have i2 : (k : Int) < 8 := by omega
                  go_wp2_with fail
                  refine wp_region_still_tail 11 (by kernel_rfl) (by kernel_rfl) ?_
                  simp only [List.take_succ_cons, List.take_zero, List.drop_succ_cons, List.drop_zero]
                  simp only [World.drew_eq]
                  repeat still_step
                  refine wpStill_nil ?_
                  go_wp2_with fail
                  go_roundw
                  case rel =>
                    refine ⟨k + 1, by omega, by go_num, (hg.set _ _ _ (.inr rfl)).dr, ?_, ?_⟩
                    · rw [heap_drew, heap_setCell_same _ _ _ _ _ _ hh, HN.out]
                    · rw [heap_drew, heap_setCell_other _ _ _ _ (by show bv ≠ bs; omega)]; exact hv
                  case measure => simp [intOf]; omega
                · obtain rfl : k = 8 := by omega
                  go_wp2_with fail
                  go_end0
                  refine ⟨rfl, hg, ?_⟩
                  rw [hh, addTo_all, St.compress, HW0.out, HV0.out]
end Chart
