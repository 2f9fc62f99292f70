/- derive.Step. -/
import Derived.Test.YtphgokaeonkjaaaDoorIter
import Derived.Test.YtphgokaeonkjaaaDoorRange
import Derived.Sort.CutIn
namespace Chart
open Go Go.RowKit Go.Shelf Go.Proofs
attribute [local go_sem] Oper.semAt_some

def muN (b : Nat) (W : World) : Nat := match W.cell? ⟨b, 0, none⟩ with
  | some (.int _ m) => m.toNat
  | _ => 0

set_option maxHeartbeats 2000000 in
set_option maxRecDepth 100000 in
theorem step_any (k : List (BitVec 8)) (n : Int) (w : World) (hk : k.length = 32) (hn : n ≤ 9223372036854775807) (he : ShaEnv w) :
    Calls Tryd.prog 17 #[.agg (dCells k), .int .i64 n] w fun e w' => e = .returned (stepOut k n) ∧ Below w.heap.size w w' := by
  refine (callsIn_wide (n := 5)).1 ?_
  obtain ⟨B, hB⟩ : ∃ B, w.heap.size = B := ⟨_, rfl⟩
  rw [hB]
  have hr2 : (((w.alloc (.cells (dCells k) 23)).alloc (.cells #[.int .i64 n] 3)).alloc (.cells (zrow 32) 23)).heap[B]? = some (.cells (dCells k) 23 (0, 0)) :=
    (Below.heap_alloc _ _ B (by simp [hB]; omega)).trans ((Below.heap_alloc _ _ B (by simp [hB])).trans (by rw [← hB]; exact heap_alloc_new w _))
  have hn2 : (((w.alloc (.cells (dCells k) 23)).alloc (.cells #[.int .i64 n] 3)).alloc (.cells (zrow 32) 23)).heap[B + 1]? = some (.cells #[.int .i64 n] 3 (0, 0)) := by
    have := heap_alloc_new (w.alloc (.cells (dCells k) 23)) (.cells #[.int .i64 n] 3)
    rw [World.size_alloc, hB] at this
    exact (Below.heap_alloc _ _ (B + 1) (by simp [hB])).trans this
  have hd2 : (((w.alloc (.cells (dCells k) 23)).alloc (.cells #[.int .i64 n] 3)).alloc (.cells (zrow 32) 23)).heap[B + 2]? = some (.cells (zrow 32) 23 (0, 0)) := by
    have := heap_alloc_new ((w.alloc (.cells (dCells k) 23)).alloc (.cells #[.int .i64 n] 3)) (.cells (zrow 32) 23)
    simpa [hB] using this
  have hb2 : Below B w (((w.alloc (.cells (dCells k) 23)).alloc (.cells #[.int .i64 n] 3)).alloc (.cells (zrow 32) 23)) := (((Below.refl B w).alloc (by omega) _).alloc (by simp [hB]) _).alloc (by simp [hB]; omega) _
  have hs2 : (((w.alloc (.cells (dCells k) 23)).alloc (.cells #[.int .i64 n] 3)).alloc (.cells (zrow 32) 23)).heap.size = B + 3 := by simp [hB]
  have hz : dCells zkey = zrow 32 := rfl
  refine callsIn_of_wp_marks Tryd.func17 rfl trivial ?_ rfl
  simp only [Tryd.ntmps17, List.size_toArray, List.length_cons, List.length_nil, Nat.reduceAdd, Nat.reduceSub, Array.replicate_succ, Array.replicate_zero, List.push_toArray, List.append_toArray, List.nil_append, List.cons_append]
  gi_upto_region 1 with (fail)
  rw [← zrow32]
  generalize ((w.alloc (.cells (dCells k) 23)).alloc (.cells #[.int .i64 n] 3)).alloc (.cells (zrow 32) 23) = w2 at *
  rw [show B + 1 + 1 = B + 2 from rfl]
  have hnc : w2.cell? ⟨B + 1, 0, none⟩ = some (.int .i64 n) := cell_of_row w2 (B + 1) 0 _ _ _ hn2
  have hnf : w2.frozen? ⟨B + 1, 0, none⟩ = false := frozen_of_row w2 (B + 1) 0 _ _ hn2
  by_cases h0 : n < 0
  · have hso : stepOut k n = .tuple #[.agg (zrow 32), .int .i64 1] := by unfold stepOut; rw [if_pos h0, hz]
    have HSO := Lib.hid hso
    clear hso hz
    gi_wp2_with (first
      | (refine row_load_in rfl 23 _ rfl (B + 2) rfl 23 _ (0, 0) _ hd2 Tryd.underlying23 rfl (by kernel_rfl) ?_)
      | (refine row_store_in rfl 23 _ _ rfl rfl (B + 2) _ rfl rfl 23 _ hd2 (by kernel_rfl) rfl (by kernel_rfl) ?_))
    refine ⟨_, results_row_tmp rfl _ _ (B + 2) _ rfl (key_load (setRow_heap _ _ _ _ _ _ hd2) (by kernel_rfl)), ?_⟩
    exact ⟨by rw [HSO.out]; rfl, hb2.trans ⟨rfl, rfl, rfl, by simp, fun i hi => by rw [setRow_other _ _ _ _ (by omega)]⟩⟩
  · by_cases h1 : n > 65536
    · have hso : stepOut k n = .tuple #[.agg (zrow 32), .int .i64 2] := by unfold stepOut; rw [if_neg h0, if_pos h1, hz]
      have HSO := Lib.hid hso
      clear hso hz
      gi_wp2_with (first
        | (refine row_load_in rfl 23 _ rfl (B + 2) rfl 23 _ (0, 0) _ hd2 Tryd.underlying23 rfl (by kernel_rfl) ?_)
        | (refine row_store_in rfl 23 _ _ rfl rfl (B + 2) _ rfl rfl 23 _ hd2 (by kernel_rfl) rfl (by kernel_rfl) ?_))
      refine ⟨_, results_row_tmp rfl _ _ (B + 2) _ rfl (key_load (setRow_heap _ _ _ _ _ _ hd2) (by kernel_rfl)), ?_⟩
      exact ⟨by rw [HSO.out]; rfl, hb2.trans ⟨rfl, rfl, rfl, by simp, fun i hi => by rw [setRow_other _ _ _ _ (by omega)]⟩⟩
    · obtain ⟨N, rfl⟩ : ∃ N : Nat, n = N := ⟨n.toNat, by omega⟩
      have hso : stepOut k N = .tuple #[.agg (dCells (stepN k N)), .int .i64 0] := by unfold stepOut; rw [if_neg h0, if_neg h1]; rfl
      have HSO := Lib.hid hso
      have HIK := Lib.hid (info_key' k hk)
      have hch := chain_any k w2
      rw [hs2] at hch
      clear hso hz
      gi_wp2_with (first
        | (refine row_load_in rfl 23 _ rfl B rfl 23 _ (0, 0) _ hr2 Tryd.underlying23 rfl HIK.out ?_)
        | (refine ⟨trivial, ?_⟩; gi_at_call 55; refine (callsIn_wide.2 hch).mono ?_; rintro e w3 ⟨rfl, rfl⟩))
      have hs3 : (w2.alloc (.cells (dCells k) 23)).heap.size = B + 4 := by simp [hs2]
      have hc3 : (w2.alloc (.cells (dCells k) 23)).heap[B + 3]? = some (.cells (dCells k) 23 (0, 0)) := by rw [← hs2]; exact heap_alloc_new w2 _
      have hn3 := (Below.heap_alloc w2 (.cells (dCells k) 23) (B + 1) (by omega)).trans hn2
      have hd3 := (Below.heap_alloc w2 (.cells (dCells k) 23) (B + 2) (by omega)).trans hd2
      have hb3 : Below B w (w2.alloc (.cells (dCells k) 23)) := hb2.alloc (by omega) _
      clear hch hnc hnf hr2 hn2 hd2
      generalize w2.alloc (.cells (dCells k) 23) = w3 at *
      refine range_law (gf := 78) (lb := #[.pointer (some ⟨B + 3, 0, none⟩)]) rfl (fun _ => by decide) rfl trivial (enters_of Tryd.func78 (by kernel_rfl) rfl) ?_
      intro fn hfn rec hrec
      rw [hs3] at hrec ⊢
      have hw5 : ((w3.alloc (.deferred (some []))).alloc (.loop (rec .ready none))).heap[B + 5]? = some (.loop (rec .ready none)) := by
        have := World.alloc_heap_new (w3.alloc (.deferred (some []))) (.loop (rec .ready none))
        rw [World.size_alloc, hs3] at this; exact this
      have hw4 : ((w3.alloc (.deferred (some []))).alloc (.loop (rec .ready none))).heap[B + 4]? = some (.deferred (some [])) := by
        have := World.alloc_heap_new w3 (.deferred (some []))
        rw [hs3] at this
        exact (Below.heap_alloc _ _ _ (by simp; omega)).trans this
      have hold : ∀ j, j < B + 4 → ((w3.alloc (.deferred (some []))).alloc (.loop (rec .ready none))).heap[j]? = w3.heap[j]? := fun j hj =>
        (Below.heap_alloc _ _ _ (by simp; omega)).trans (Below.heap_alloc _ _ _ (by omega))
      have hbw : Below B w ((w3.alloc (.deferred (some []))).alloc (.loop (rec .ready none))) := (hb3.alloc (by omega) _).alloc (by simp; omega) _
      generalize (w3.alloc (.deferred (some []))).alloc (.loop (rec .ready none)) = w6 at *
      refine (chain1_in 4 (by decide) (B + 5) (B + 3) N k hk (muN (B + 1))
        (fun i W => i ≤ N ∧ W.heap[B + 3]? = some (.cells (dCells (stepN k i)) 23 (0, 0)) ∧ W.heap[B + 1]? = some (.cells #[.int .i64 ((N - i : Nat) : Int)] 3 (0, 0)) ∧ (∃ c : Array Value, c.size = 32 ∧ W.heap[B + 2]? = some (.cells c 23 (0, 0))) ∧
          W.heap[B + 5]? = some (.loop (rec .ready none)) ∧ W.heap[B + 4]? = some (.deferred (some [])) ∧ Below B w W)
        (fun i W => i < N ∧ W.heap[B + 3]? = some (.cells (dCells (stepN k i)) 23 (0, 0)) ∧ W.heap[B + 1]? = some (.cells #[.int .i64 ((N - (i + 1) : Nat) : Int)] 3 (0, 0)) ∧ (∃ c : Array Value, c.size = 32 ∧ W.heap[B + 2]? = some (.cells c 23 (0, 0))) ∧
          W.heap[B + 5]? = some (.loop (rec .ready none)) ∧ W.heap[B + 4]? = some (.deferred (some [])) ∧ Below B w W)
        (fun W => W.heap[B + 2]? = some (.cells (dCells (stepN k N)) 23 (0, 0)) ∧ W.heap[B + 5]? = some (.loop (rec .done (some (.exit 1)))) ∧ W.heap[B + 4]? = some (.deferred (some [])) ∧ Below B w W)
        ?_ ?_ ?_ ?_ w6 ⟨by omega, (hold _ (by omega)).trans hc3, (hold _ (by omega)).trans hn3, ⟨_, rfl, (hold _ (by omega)).trans hd3⟩, hw5, hw4, hbw⟩).mono ?_
      · rintro i W ⟨h1, h2, h3, -⟩
        refine ⟨h2, h1, ?_⟩
        unfold muN
        rw [show W.cell? ⟨B + 1, 0, none⟩ = some (.int .i64 ((N - i : Nat) : Int)) from cell_of_row W (B + 1) 0 _ _ _ h3]
        simp
      · rintro i W ⟨h1, h2, h3, h4, h5, h6, h7⟩
        exact ⟨h2, he.below (by rw [hB]; exact h7)⟩
      · rintro i W W' ⟨h1, h2, h3, ⟨c, hc, h4⟩, h5, h6, h7⟩ hg hr
        have keep : ∀ j o, W.heap[j]? = some o → j ≠ B + 3 → W'.heap[j]? = some o := fun j o ho hj => (hg.block j (Array.getElem?_eq_some_iff.1 ho).1 (by simp; omega)).trans ho
        exact ⟨h1, hr, keep _ _ h3 (by omega), ⟨c, hc, keep _ _ h4 (by omega)⟩, keep _ _ h5 (by omega), keep _ _ h6 (by omega), h7.grown hg (by have := h7.size; omega) (fun j e => by cases e; omega)⟩
      · rintro i W ⟨h1, h2, h3, ⟨c, hc, h4⟩, h5, h6, h7⟩
        have hsz : (#[Value.agg (dCells (stepN k i))] : Array Value).size = (rec .ready none).params.size := by rw [hrec]; rfl
        have hy := run_yield (P := Tryd.prog) h5 hsz
        have hbr := fun (W' : World) (h : W'.heap[B + 5]? = some (.loop (rec .ready none))) => run_beginRound (P := Tryd.prog) h (by rw [hrec]; rfl)
        rw [hrec] at hy
        dsimp only [lrec] at hy
        simp at hy
        have e2 : ({ rec .ready none with state := .ready, pending := none } : Loop) = rec .ready none := by rw [hrec]; rfl
        have e3 : ({ rec .ready none with state := .done, pending := some (.exit 1) } : Loop) = rec .done (some (.exit 1)) := by rw [hrec, hrec]; rfl
        have E2 := Lib.hid e2; have E3 := Lib.hid e3
        clear e2 e3
        have HREC := Lib.hid hrec
        clear hrec
        have hlen := length_stepN k hk i
        have HI := Lib.hid (info_key' _ hlen); have HS := Lib.hid (size_dCells _ hlen); have HO := Lib.hid (one_dCells (stepN k i))
        refine ⟨fn, #[.agg (dCells k), .int .i64 N, .pointer (some ⟨B, 0, none⟩), .pointer (some ⟨B + 1, 0, none⟩), .pointer (some ⟨B + 2, 0, none⟩), .int .i64 0, .bool false, .int .i64 N, .bool false, undef, .bool false, .int .i64 N, .bool false, undef, .agg (dCells k),
          .func (.func 78) #[] #[.pointer (some ⟨B + 3, 0, none⟩)], .agg (dCells (stepN k i)), undef, undef, undef, undef, undef], _, _, hy, roundIn_of_wpIn hfn ?_⟩
        clear hy
        gi_wp2_with (refine row_store_in rfl 23 _ _ rfl rfl (B + 2) _ rfl rfl 23 _ h4 HI.out (by rw [HS.out, hc]) HO.out ?_)
        have r5 : (W.setRow (B + 2) (dCells (stepN k i))).heap[B + 5]? = some (.loop (rec .ready none)) := by rw [setRow_other _ _ _ _ (by omega)]; exact h5
        obtain ⟨W9, hW9⟩ : ∃ W9, (W.setRow (B + 2) (dCells (stepN k i))).putObj (B + 5) (.loop { rec .ready none with state := .busy }) = W9 := ⟨_, rfl⟩
        have hb9 := hbr _ r5
        rw [hW9] at hb9
        have n9 : W9.heap[B + 1]? = some (.cells #[.int .i64 ((N - i : Nat) : Int)] 3 (0, 0)) := by rw [← hW9]; exact (World.putObj_heap_other (by omega)).trans (by rw [setRow_other _ _ _ _ (by omega)]; exact h3)
        have hnc : W9.cell? ⟨B + 1, 0, none⟩ = some (.int .i64 ((N - i : Nat) : Int)) := cell_of_row W9 (B + 1) 0 _ _ _ n9
        have hnf : W9.frozen? ⟨B + 1, 0, none⟩ = false := frozen_of_row W9 (B + 1) 0 _ _ n9
        have l9 : W9.heap[B + 5]? = some (.loop { rec .ready none with state := .busy }) := by rw [← hW9]; exact World.putObj_heap_same (Array.getElem?_eq_some_iff.1 r5).1
        have k9 : W9.heap[B + 3]? = some (.cells (dCells (stepN k i)) 23 (0, 0)) := by rw [← hW9]; exact (World.putObj_heap_other (by omega)).trans (by rw [setRow_other _ _ _ _ (by omega)]; exact h2)
        have x9 : W9.heap[B + 2]? = some (.cells (dCells (stepN k i)) 23 (0, 0)) := by rw [← hW9]; exact (World.putObj_heap_other (by omega)).trans (setRow_heap _ _ _ _ _ _ h4)
        have d9 : W9.heap[B + 4]? = some (.deferred (some [])) := by rw [← hW9]; exact (World.putObj_heap_other (by omega)).trans (by rw [setRow_other _ _ _ _ (by omega)]; exact h6)
        have b9 : Below B w W9 := by
          rw [← hW9]
          have q : Below B w (W.setRow (B + 2) (dCells (stepN k i))) := h7.trans ⟨rfl, rfl, rfl, by simp, fun j hj => by rw [setRow_other _ _ _ _ (by omega)]⟩
          exact q.grown (grownBy_putObj' _ (B + 5) _) (by have := q.size; omega) (fun j e => by cases e; omega)
        have s9 := b9.size
        refine ⟨W9, hb9, ?_⟩
        clear hb9 hbr
        by_cases hi : i = N
        · subst hi
          have hz0 : ((i - i : Nat) : Int) = 0 := by omega
          rw [hz0] at hnc
          have hen := run_endRound (P := Tryd.prog) (some (.exit 1)) l9
          have f5 : (W9.putObj (B + 5) (.loop (rec .done (some (.exit 1))))).heap[B + 5]? = some (.loop (rec .done (some (.exit 1)))) := World.putObj_heap_same (Array.getElem?_eq_some_iff.1 l9).1
          clear hnf
          gi_wp2
          refine ⟨_, W9.putObj (B + 5) (.loop (rec .done (some (.exit 1)))), hen.trans ?_, rfl, ?_, f5, ?_, ?_⟩
          · rw [← E3.out]; rfl
          · exact (World.putObj_heap_other (by omega)).trans x9
          · exact (World.putObj_heap_other (by omega)).trans d9
          · exact b9.grown (grownBy_putObj' _ (B + 5) _) (by omega) (fun j e => by cases e; omega)
        · have hz0 : ¬ ((N - i : Nat) : Int) = 0 := by omega
          have hv : ((N - i : Nat) : Int) - 1 = ((N - (i + 1) : Nat) : Int) := by omega
          have HV := Lib.hid hv
          clear hv
          gi_wp2
          have hlt : i < N := by omega
          have l10 : ∀ u, (W9.setCell ⟨B + 1, 0, none⟩ u).heap[B + 5]? = some (.loop { rec .ready none with state := .busy }) := fun u => by rw [heap_setCell_other _ _ _ _ (by show B + 5 ≠ B + 1; omega)]; exact l9
          have f5 : ∀ u, ((W9.setCell ⟨B + 1, 0, none⟩ u).putObj (B + 5) (.loop (rec .ready none))).heap[B + 5]? = some (.loop (rec .ready none)) := fun u => World.putObj_heap_same (Array.getElem?_eq_some_iff.1 (l10 u)).1
          have keep : ∀ u j o, j ≠ B + 1 → j ≠ B + 5 → W9.heap[j]? = some o → ((W9.setCell ⟨B + 1, 0, none⟩ u).putObj (B + 5) (.loop (rec .ready none))).heap[j]? = some o := fun u j o ha hb ho =>
            (World.putObj_heap_other (by omega)).trans (by rw [heap_setCell_other _ _ _ _ ha]; exact ho)
          refine ⟨_, (W9.setCell ⟨B + 1, 0, none⟩ (.int .i64 ((N - (i + 1) : Nat) : Int))).putObj (B + 5) (.loop (rec .ready none)), ?_, .inl ⟨rfl, ⟨hlt, keep _ _ _ (by omega) (by omega) k9, ?_, ⟨_, HS.out, keep _ _ _ (by omega) (by omega) x9⟩, f5 _, keep _ _ _ (by omega) (by omega) d9, ?_⟩, hlt⟩⟩
          · rw [← HV.out]
            exact (run_endRound (P := Tryd.prog) none (l10 _)).trans (by rw [← E2.out]; rfl)
          · exact (World.putObj_heap_other (by omega)).trans (by rw [heap_setCell_same _ _ _ _ _ _ n9]; rfl)
          · have q : Below B w (W9.setCell ⟨B + 1, 0, none⟩ (.int .i64 ((N - (i + 1) : Nat) : Int))) := b9.setCell (p := ⟨B + 1, 0, none⟩) (by show B ≤ B + 1; omega) _
            exact q.grown (grownBy_putObj' _ (B + 5) _) (by have := q.size; omega) (fun j e => by cases e; omega)
      · rintro e W ⟨⟨v, rfl⟩, h2, h5, h4, h7⟩
        have hst : (rec .done (some (.exit 1))).state ≠ .busy := by rw [hrec]; simp [lrec]
        have hp : (rec .done (some (.exit 1))).pending = some (.exit 1) := by rw [hrec]; rfl
        have hend := run_endLoop (P := Tryd.prog) h5 hst
        have hlenN := length_stepN k hk N
        have HIN := Lib.hid (info_key' _ hlenN); have HON := Lib.hid (one_dCells (stepN k N))
        have g2 : (W.putObj (B + 5) (.loop { rec .done (some (.exit 1)) with state := .exhausted })).heap[B + 2]? = some (.cells (dCells (stepN k N)) 23 (0, 0)) := (World.putObj_heap_other (by omega)).trans h2
        have g4 : (W.putObj (B + 5) (.loop { rec .done (some (.exit 1)) with state := .exhausted })).heap[B + 4]? = some (.deferred (some [])) := (World.putObj_heap_other (by omega)).trans h4
        have g7 : Below B w (W.putObj (B + 5) (.loop { rec .done (some (.exit 1)) with state := .exhausted })) := h7.grown (grownBy_putObj' W (B + 5) _) (by have := h7.size; omega) (fun j e => by cases e; omega)
        obtain ⟨W8, hW8⟩ : ∃ W8, W.putObj (B + 5) (.loop { rec .done (some (.exit 1)) with state := .exhausted }) = W8 := ⟨_, rfl⟩
        rw [hW8] at hend g2 g4 g7
        rw [hp] at hend
        refine ⟨some (.exit 1), W8, hend, ?_⟩
        clear hend hp hst h2 h4 h5 h7 hW8
        generalize stepN k N = KN at *
        show Code.wpIn _ _ _ _ _ _ _
        gi_wp2_with (first
          | (refine row_load_in rfl 23 _ rfl (B + 2) rfl 23 _ (0, 0) _ g2 Tryd.underlying23 rfl HIN.out ?_)
          | (refine row_store_in rfl 23 _ _ rfl rfl (B + 2) _ rfl rfl 23 _ g2 HIN.out rfl HON.out ?_))
        have q4 : (W8.setRow (B + 2) (dCells KN)).heap[B + 4]? = some (.deferred (some [])) := by rw [setRow_other _ _ _ _ (by omega)]; exact g4
        refine ⟨by simp, .inl ⟨_, _, rfl, run_takeDeferred q4, ?_⟩⟩
        refine ⟨_, results_row_tmp rfl _ _ (B + 2) _ rfl (key_load ((World.putObj_heap_other (by omega)).trans (setRow_heap _ _ _ _ _ _ g2)) HIN.out), ?_⟩
        refine ⟨by rw [HSO.out]; rfl, ?_⟩
        have q7 : Below B w (W8.setRow (B + 2) (dCells KN)) := g7.trans ⟨rfl, rfl, rfl, by simp, fun i hi => by rw [setRow_other _ _ _ _ (by omega)]⟩
        exact q7.grown (grownBy_putObj' _ (B + 4) _) (by have := q7.size; omega) (fun j e => by cases e; omega)
end Chart
