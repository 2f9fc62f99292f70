/- The laws on First, Expand and Mix. -/
import Derived.Test.YtphgokaeonkjaaaDoorSane7
import Derived.Test.YtphgokaeonkjaaaDoorRefMix
namespace Chart
open Go Go.RowKit Go.Proofs

set_option maxHeartbeats 4000000 in
set_option maxRecDepth 100000 in
theorem keysLaw_any (v0 : Value) (b0 : List (BitVec 8)) (ka kb : List (BitVec 8)) (s : ByteArray) (v4 : Value) (ns : List Int) (w : World) (hb0 : BS w v0 b0) (ha : ka.length = 32) (hb : kb.length = 32) (hi : IS w v4 ns ∧ ∀ n ∈ ns, ok64 n) (he : ShaEnv w) :
    Calls Tryd.prog 6 #[v0, .agg (dCells ka), .agg (dCells kb), .string s, v4] w fun e w' => e = .returned (.bool true) ∧ Below w.heap.size w w' := by
  obtain ⟨hi, hok⟩ := hi
  have HIa := Lib.hid (info_key' _ ha); have HIb := Lib.hid (info_key' _ hb)
  obtain ⟨a0, n0, c0, rfl, hn0⟩ : ∃ a n c, v0 = .slice a n c ∧ b0.length = n := by
    rcases hb0 with ⟨h, h'⟩ | ⟨b, off, cap, h, _⟩
    · exact ⟨_, _, _, h, by rw [h']; rfl⟩
    · exact ⟨_, _, _, h, rfl⟩
  obtain ⟨a4, n4, c4, rfl, hn4⟩ : ∃ a n c, v4 = .slice a n c ∧ ns.length = n := by
    rcases hi with ⟨h, h'⟩ | ⟨b, off, cap, h, _⟩
    · exact ⟨_, _, _, h, by rw [h']; rfl⟩
    · exact ⟨_, _, _, h, rfl⟩
  obtain ⟨B, hB⟩ : ∃ B, w.heap.size = B := ⟨_, rfl⟩
  rw [hB]
  have hle : B ≤ w.heap.size := Nat.le_of_eq hB.symm
  obtain ⟨wa, hwa⟩ : ∃ wa, wa = w.alloc (.cells (dCells ka) 23) := ⟨_, rfl⟩
  obtain ⟨w1, hw1⟩ : ∃ w1, w1 = wa.alloc (.cells (dCells kb) 23) := ⟨_, rfl⟩
  have s1 : wa.heap.size = B + 1 := by rw [hwa, World.size_alloc, hB]
  have b1 : Below w.heap.size w wa := hwa ▸ below_al w _
  have b2 : Below wa.heap.size wa w1 := hw1 ▸ below_al wa _
  have ra0 : wa.heap[B]? = some (.cells (dCells ka) 23 (0, 0)) := by rw [hwa, ← hB]; exact heap_alloc_new w _
  have rb : w1.heap[B + 1]? = some (.cells (dCells kb) 23 (0, 0)) := by rw [hw1, ← s1]; exact heap_alloc_new wa _
  have ra := row_below ra0 b2
  have hb12 : Below w.heap.size w w1 := below_tr b1 b2
  have he1 := he.below hb12
  have hbs1 := hb0.below hb12
  have his1 := hi.below hb12
  clear ra0 b1 b2 s1
  go_enter Tryd.func6, Tryd.ntmps6
  go_upto_region 1 with (fail)
  rw [show (w.alloc (.cells (dCells ka) 23)).alloc (.cells (dCells kb) 23) = w1 by rw [hw1, hwa]]
  clear hw1 hwa
  have hsn := sane7_any w1 he1
  go_upto_region 3 with (go_at_call 16; refine hsn.mono ?_; rintro e w2 ⟨rfl, hb2⟩)
  have rA := row_below ra hb2
  have rB := row_below rb hb2
  have he2 := he1.below hb2
  have hbs2 := hbs1.below hb2
  have his2 := his1.below hb2
  have hB2 : Below B w w2 := below_trB hle (hB ▸ hb12) hb2
  clear hsn ra rb he1 hb2 hbs1 his1 hb12 he hb0 hi
  by_cases h0 : (500 : Int) < (n0 : Int)
  · go_wp2
    go_ret
    exact ⟨rfl, hB2⟩
  by_cases h1 : (500 : Int) < (s.size : Int)
  · go_wp2
    go_ret
    exact ⟨rfl, hB2⟩
  by_cases h2 : (40 : Int) < (n4 : Int)
  · go_wp2
    go_ret
    exact ⟨rfl, hB2⟩
  have hl0 : b0.length ≤ 1000 := by omega
  have hls : s.size ≤ 1000000 := by omega
  have hl4 : ns.length ≤ 1000000 := by omega
  obtain ⟨N, hN⟩ : ∃ N, w2.heap.size = N := ⟨_, rfl⟩
  have hNB : B ≤ N := by rw [← hN]; exact Nat.le_trans hle hB2.size
  have za := row_lt rA
  have zb := row_lt rB
  rw [hN] at za zb
  obtain ⟨T, hT⟩ : ∃ T, tagd bSeed b0 = T := ⟨_, rfl⟩
  obtain ⟨X, hX⟩ : ∃ X, expd ka s ns = X := ⟨_, rfl⟩
  obtain ⟨M, hM⟩ : ∃ M, mixd s ka kb = M := ⟨_, rfl⟩
  have hTl : T.length = 32 := by rw [← hT]; exact length_tagd _ _
  have hXl : X.length = 32 := by rw [← hX]; exact length_expd _ _ _
  have hMl : M.length = 32 := by rw [← hM]; exact length_mixd _ _ _
  have hOB : ∀ q : Own N w2, Below w2.heap.size w2 q.w' := fun q => hN.symm ▸ q.below
  have hle2 : N ≤ w2.heap.size := Nat.le_of_eq hN.symm
  have c1 : ∀ q : Own N w2, Calls Tryd.prog 21 #[.slice a0 n0 c0] q.w' fun e w'' => e = .returned (.agg (dCells T)) ∧ ∃ p : Own N w2, w'' = p.w' := fun q =>
    own_calls hle2 (hT ▸ first_any _ b0 q.w' (hbs2.below (hOB q)) (by omega) (he2.below (hOB q)))
  have c2 : ∀ q : Own N w2, Calls Tryd.prog 22 #[.slice a0 n0 c0] q.w' fun e w'' => e = .returned (.agg (dCells T)) ∧ ∃ p : Own N w2, w'' = p.w' := fun q =>
    own_calls hle2 (hT ▸ reffirst_any _ b0 q.w' (hbs2.below (hOB q)) (by omega))
  have c3 : ∀ q : Own N w2, Calls Tryd.prog 23 #[.agg (dCells ka), .string s, .slice a4 n4 c4] q.w' fun e w'' => e = .returned (.agg (dCells X)) ∧ ∃ p : Own N w2, w'' = p.w' := fun q =>
    own_calls hle2 (hX ▸ expand_any ka s _ ns q.w' ha (his2.below (hOB q)) hok hls hl4 (he2.below (hOB q)))
  have c4' : ∀ q : Own N w2, Calls Tryd.prog 24 #[.agg (dCells ka), .string s, .slice a4 n4 c4] q.w' fun e w'' => e = .returned (.agg (dCells X)) ∧ ∃ p : Own N w2, w'' = p.w' := fun q =>
    own_calls hle2 (hX ▸ refexpand_any ka s _ ns q.w' ha (his2.below (hOB q)) hok hls hl4)
  have c5 : ∀ q : Own N w2, Calls Tryd.prog 25 #[.string s, .agg (dCells ka), .agg (dCells kb)] q.w' fun e w'' => e = .returned (.agg (dCells M)) ∧ ∃ p : Own N w2, w'' = p.w' := fun q =>
    own_calls hle2 (hM ▸ mix_any s ka kb q.w' ha hb hls (he2.below (hOB q)))
  have c6 : ∀ q : Own N w2, Calls Tryd.prog 26 #[.string s, .agg (dCells ka), .agg (dCells kb)] q.w' fun e w'' => e = .returned (.agg (dCells M)) ∧ ∃ p : Own N w2, w'' = p.w' := fun q =>
    own_calls hle2 (hM ▸ refmix_any s ka kb q.w' ha hb hls)
  have eT : ∀ w, (Op.equalIn 10000 23 (.agg (dCells T)) (.agg (dCells T))).run Tryd.prog w = .ok true w := fun w => (eqIn_key T T hTl hTl w).trans (by simp)
  have eX : ∀ w, (Op.equalIn 10000 23 (.agg (dCells X)) (.agg (dCells X))).run Tryd.prog w = .ok true w := fun w => (eqIn_key X X hXl hXl w).trans (by simp)
  have eM : ∀ w, (Op.equalIn 10000 23 (.agg (dCells M)) (.agg (dCells M))).run Tryd.prog w = .ok true w := fun w => (eqIn_key M M hMl hMl w).trans (by simp)
  have hG := eqG_key
  go_upto_region 5 with (fail)
  clear hT hX hM hTl hXl hMl hOB hbs2 his2 he2 hok hls hl4 hl0
  refine wp_region_own N (by kernel_rfl) (by kernel_rfl) ?_
  repeat (first
    | (refine wpQuiet_load_rowg rfl 23 _ rfl B rfl 23 _ (0, 0) _ (fun _ ⟨q, hq⟩ => hq ▸ (q.below.block B za).trans rA) Tryd.underlying23 rfl HIa.out ?_)
    | (refine wpQuiet_load_rowg rfl 23 _ rfl (B + 1) rfl 23 _ (0, 0) _ (fun _ ⟨q, hq⟩ => hq ▸ (q.below.block (B + 1) zb).trans rB) Tryd.underlying23 rfl HIb.out ?_)
    | quiet_step ((first
        | (go_at_call 21; exact c1 _)
        | (go_at_call 22; exact c2 _)
        | (go_at_call 23; exact c3 _)
        | (go_at_call 24; exact c4' _)
        | (go_at_call 25; exact c5 _)
        | (go_at_call 26; exact c6 _))))
  refine wpQuiet_nil ?_
  rintro _ ⟨q, rfl⟩
  go_wp2
  go_ret
  exact ⟨rfl, hB2.trans (q.below.mono hNB)⟩
end Chart
