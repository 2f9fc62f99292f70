/- A range over a function, out of the iterator's walk. Whole variables read and written, within a fence. The iterator's maker. The iterator of the chain of keys. derive.Step. -/
import Derived.RangeFuncFrom
import Derived.RangeFuncNested
import Derived.RangeFuncBound
import Derived.RangeFuncCalls
import Derived.RangeFuncLeaves
import Derived.Shelf.Abstract
import Derived.Shelf.RegionOpen
import Derived.OwnWalkIn
import Derived.TacticsInMore
import Derived.LoopNIn
import Derived.LoopIn
import Derived.Test.YtphgokaeonkjaaaDoorRefSS
import Derived.Sort.CutIn
namespace Chart
open Go Go.RowKit
variable {F : Fence} {n : Nat} {P : Program}

/-- The record of a loop that stands in no other. -/
def lrec (fn : FuncId) (tmps : Array Value) (ps : Array Tmp) (assign body : Code) (D : Nat) (st : LoopState) (pe : Option Code) : Loop :=
  { state := st, pending := pe, fn := fn, tmps := tmps, params := ps, assign := assign, body := body, defers := D }

theorem range_law {g : Operand} {ps : Array Tmp} {assign body : Code} {Q : Exit → Act → World → Prop} {a : Act} {w : World} (hro : F.round = none) (hd : F.depth.isSome = true → 1 ≤ n)
    {gf : Nat} {lb : Array Value} (hg : a.eval g = .func (.func gf) #[] lb) (hFg : F.fn gf) (eg : ∀ args w, (callFunc gf args).run P w = .ok (.enter gf args) w)
    (h : ∀ fn, F.fn fn → ∀ rec : LoopState → Option Code → Loop, (∀ st pe, rec st pe = lrec fn a.tmps ps assign body w.heap.size st pe) → CallsIn F (n - 1) P gf (#[.func (.yield (w.heap.size + 1)) #[] #[]] ++ lb) ((w.alloc (.deferred (some []))).alloc (.loop (rec .ready none)))
      (rangePost F n P (w.heap.size + 1) Q { a with defers := [{ target := .collected w.heap.size, args := #[] }] ++ a.defers })) :
    (Code.rangeFunc g ps assign body).wpIn F n P Q a w := by
  refine wpIn_rangeFunc ?_
  intro fn hfn
  rw [hro]
  refine ⟨w.heap.size + 1, [{ target := .collected w.heap.size, args := #[] }], (w.alloc (.deferred (some []))).alloc (.loop (lrec fn a.tmps ps assign body w.heap.size .ready none)), { target := .fn (.func gf) lb, args := #[.func (.yield (w.heap.size + 1)) #[] #[]] }, (w.alloc (.deferred (some []))).alloc (.loop (lrec fn a.tmps ps assign body w.heap.size .ready none)), gf, #[.func (.yield (w.heap.size + 1)) #[] #[]] ++ lb, (w.alloc (.deferred (some []))).alloc (.loop (lrec fn a.tmps ps assign body w.heap.size .ready none)), ?_, ?_, ?_, ?_, hd, ?_⟩
  · unfold lrec
    exact run_enterLoop_outer fn a.tmps ps assign body
  · simp only [resolve, hg]
    simp [go_sem]
  · intro f' hf'
    simp [Target.leads] at hf'
    subst hf'
    exact hFg
  · simp [invoke, go_sem, eg]
  · exact h fn hfn (lrec fn a.tmps ps assign body w.heap.size) (fun _ _ => rfl)
end Chart

namespace Chart
open Go Go.RowKit Go.Shelf Go.Proofs
section
variable {F : Fence} {n : Nat} {P : Program} {ops : Array Oper} {rest : List Oper} {o : Oper} {a : Act} {w : World} {Q : Exit → Act → World → Prop}
theorem row_load_in (hgd : o.guard = none) (ty : TypeId) (x : Operand) (ho : o.op = .load ty x)
    (g : Nat) (hx : a.eval x = .pointer (some ⟨g, 0, none⟩)) (t : TypeId) (cs : Array Value) (fr : Nat × Nat) (d : TypeDesc) (hg : w.heap[g]? = some (.cells cs t fr))
    (hu : P.underlying ty = some d) (hd : (match d with | .struct _ | .array _ _ => true | _ => false) = true) (hi : (P.info? ty).map (·.size) = some cs.size)
    (h : wpListIn F n P ops Q rest (a.put o.dst (.agg cs)) w) : wpListIn F n P ops Q (o :: rest) a w := by
  refine wpListIn_plain hgd fun K hK => ?_
  unfold Oper.wpIn
  refine ⟨?_, ?_⟩
  · simp [Oper.about, ho]
  · rw [Oper.semAt_plain F _ _ (by rw [ho]; intro c hc'; cases hc')]
    unfold execOp
    simp only [ho, hx, Instr.loadAt, Instr.sureAddr, Sem.run_bind, Sem.run_pure, Result.andThen_ok, run_loadVar_row w g t ty cs fr d hg hu hd hi]
    exact hK _ _ h
theorem row_store_in (hgd : o.guard = none) (ty : TypeId) (x y : Operand) (ho : o.op = .store ty x y) (hdst : o.dst = none)
    (g : Nat) (cells : Array Value) (hx : a.eval x = .pointer (some ⟨g, 0, none⟩)) (hy : a.eval y = .agg cells)
    (t : TypeId) (old : Array Value) (hg : w.heap[g]? = some (.cells old t (0, 0))) (hi : (P.info? ty).map (·.size) = some cells.size)
    (hold : old.size = cells.size) (h1 : cells.all (·.oneCell') = true)
    (h : wpListIn F n P ops Q rest a (w.setRow g cells)) : wpListIn F n P ops Q (o :: rest) a w := by
  refine wpListIn_plain hgd fun K hK => ?_
  unfold Oper.wpIn
  refine ⟨?_, ?_⟩
  · simp [Oper.about, ho]
  · rw [Oper.semAt_plain F _ _ (by rw [ho]; intro c hc'; cases hc')]
    unfold execOp
    simp only [ho, hx, hy, Instr.storeAt, Instr.sureAddr, Sem.run_bind, Sem.run_pure, Result.andThen_ok, run_storeVar_row w g t ty old cells hg hi hold h1]
    refine hK _ _ ?_
    rw [hdst]; exact h
end
end Chart

namespace Chart
open Go Go.RowKit Go.Proofs

set_option maxHeartbeats 2000000 in
set_option maxRecDepth 100000 in
theorem chain_any (k : List (BitVec 8)) (w : World) :
    Calls Tryd.prog 55 #[.agg (dCells k)] w fun e w' => e = .returned (.func (.func 78) #[] #[.pointer (some ⟨w.heap.size, 0, none⟩)]) ∧ w' = w.alloc (.cells (dCells k) 23) := by
  go_enter Tryd.func55, Tryd.ntmps55
  go_wp2
  go_ret
  exact ⟨rfl, rfl⟩
end Chart

namespace Chart
open Go Go.RowKit Go.Shelf Go.Proofs
attribute [local go_sem] Oper.semAt_some

set_option maxHeartbeats 2000000 in
set_option maxRecDepth 100000 in
theorem chain1_in (n : Nat) (hn : 1 ≤ n) (l bc N : Nat) (k : List (BitVec 8)) (hk : k.length = 32) (mu : World → Nat) (J Jm : Nat → World → Prop) (Jx : World → Prop)
    (hrow : ∀ i W, J i W → W.heap[bc]? = some (.cells (dCells (stepN k i)) 23 (0, 0)) ∧ i ≤ N ∧ mu W = N - i)
    (hrow' : ∀ i W, Jm i W → W.heap[bc]? = some (.cells (dCells (stepN k i)) 23 (0, 0)) ∧ ShaEnv W)
    (hstep : ∀ i W W', Jm i W → W.grownBy W' (some bc) → W'.heap[bc]? = some (.cells (dCells (stepN k (i + 1))) 23 (0, 0)) → J (i + 1) W')
    (hY : ∀ i W, J i W → YieldAt Fence.wide (n - 1) Tryd.prog l #[.agg (dCells (stepN k i))] W fun e W' => (e = .returned (.bool true) ∧ Jm i W' ∧ i < N) ∨ (e = .returned (.bool false) ∧ Jx W'))
    (W : World) (h0 : J 0 W) :
    CallsIn Fence.wide n Tryd.prog 78 #[.func (.yield l) #[] #[], .pointer (some ⟨bc, 0, none⟩)] W fun e W' => (∃ v, e = .returned v) ∧ Jx W' := by
  refine callsIn_of_wp Tryd.func78 rfl trivial ?_ rfl
  simp only [Tryd.ntmps78, List.size_toArray, List.length_cons, List.length_nil, Nat.reduceAdd, Nat.reduceSub, Array.replicate_succ, Array.replicate_zero, List.push_toArray, List.append_toArray, List.nil_append, List.cons_append]
  gi_wp2
  gi_loopw [3] (fun _ wr => ∃ i, J i wr) (fun _ wr => mu wr)
  case atStart => exact ⟨0, h0⟩
  case round =>
    obtain ⟨i, hJ⟩ := hrel
    obtain ⟨hr, hiN, hmu⟩ := hrow i wr hJ
    obtain ⟨fn, tmps, assign, body, hy, hR⟩ := hY i wr hJ
    have hlen := length_stepN k hk i
    have HI1 := Lib.hid (info_key' _ hlen)
    gi_wp2_with (refine row_load_in rfl 23 _ rfl bc rfl 23 _ (0, 0) _ hr Tryd.underlying23 rfl HI1.out ?_)
    refine hR.mono ?_
    rintro e W3 (⟨rfl, hJm, hlt⟩ | ⟨rfl, hx⟩)
    · obtain ⟨hr3, he3⟩ := hrow' i W3 hJm
      have hex := expand_any (stepN k i) bStep (.slice none 0 0) [] W3 hlen (.inl ⟨rfl, rfl⟩) (by simp) (by decide) (by simp) he3
      rw [show expd (stepN k i) bStep [] = stepN k (i + 1) from rfl] at hex
      have hlen2 := length_stepN k hk (i + 1)
      have HI2 := Lib.hid (info_key' _ hlen2); have HS1 := Lib.hid (size_dCells _ hlen); have HS2 := Lib.hid (size_dCells _ hlen2); have HO2 := Lib.hid (one_dCells (stepN k (i + 1)))
      have hst := hstep i W3
      have HST := Lib.hid hst
      have hb3 : bc < W3.heap.size := (Array.getElem?_eq_some_iff.1 hr3).1
      clear hlen hlen2 hst
      obtain ⟨K2, hK2⟩ : ∃ K2, stepN k (i + 1) = K2 := ⟨_, rfl⟩
      rw [hK2] at hex HI2 HS2 HO2 HST
      have HK2 := Lib.hid hK2
      clear hK2 hY hR hy
      generalize stepN k i = K1 at *
      gi_wp2_with (first
        | (refine row_load_in rfl 23 _ rfl bc rfl 23 _ (0, 0) _ hr3 Tryd.underlying23 rfl HI1.out ?_)
        | (refine ⟨trivial, ?_⟩; gi_at_call 23; refine (callsIn_wide.2 hex).mono ?_; rintro e W4 ⟨rfl, hb4⟩; have hr4 := (hb4.block bc hb3).trans hr3)
        | (refine row_store_in rfl 23 _ _ rfl rfl bc _ rfl rfl 23 _ hr4 HI2.out (by rw [HS1.out, HS2.out]) HO2.out ?_))
      have hJ2 : J (i + 1) (W4.setRow bc (dCells K2)) := HST.out _ hJm ((World.grownBy.of_below hb4 (some bc)).tr ⟨rfl, rfl, rfl, by simp, fun j _ hj => setRow_other _ _ _ _ (fun e => hj (by rw [e]))⟩) (setRow_heap _ _ _ _ _ _ hr4)
      go_roundw
      case rel => exact ⟨i + 1, hJ2⟩
      case measure => have := (hrow (i + 1) _ hJ2).2; omega
    · gi_wp2
      go_end0
      exact ⟨⟨_, rfl⟩, hx⟩
end Chart

namespace Chart
open Go Go.RowKit Go.Shelf Go.Proofs
attribute [local go_sem] Oper.semAt_some

def muN (b : Nat) (W : World) : Nat := match W.cell? ⟨b, 0, none⟩ with
  | some (.int _ m) => m.toNat
  | _ => 0

set_option maxHeartbeats 2000000 in
set_option maxRecDepth 100000 in
theorem step_any (k : List (BitVec 8)) (n : Int) (w : World) (hk : k.length = 32) (hn : n ≤ 9223372036854775807) (he : ShaEnv w) :
    Calls Tryd.prog 17 #[.agg (dCells k), .int .i64 n] w fun e w' => e = .returned (stepOut k n) ∧ Below w.heap.size w w' := by
  refine (callsIn_wide (n := 5)).1 ?_
  obtain ⟨B, hB⟩ : ∃ B, w.heap.size = B := ⟨_, rfl⟩
  rw [hB]
  have hr2 : (((w.alloc (.cells (dCells k) 23)).alloc (.cells #[.int .i64 n] 3)).alloc (.cells (zrow 32) 23)).heap[B]? = some (.cells (dCells k) 23 (0, 0)) :=
    (Below.heap_alloc _ _ B (by simp [hB]; omega)).trans ((Below.heap_alloc _ _ B (by simp [hB])).trans (by rw [← hB]; exact heap_alloc_new w _))
  have hn2 : (((w.alloc (.cells (dCells k) 23)).alloc (.cells #[.int .i64 n] 3)).alloc (.cells (zrow 32) 23)).heap[B + 1]? = some (.cells #[.int .i64 n] 3 (0, 0)) := by
    have := heap_alloc_new (w.alloc (.cells (dCells k) 23)) (.cells #[.int .i64 n] 3)
    rw [World.size_alloc, hB] at this
    exact (Below.heap_alloc _ _ (B + 1) (by simp [hB])).trans this
  have hd2 : (((w.alloc (.cells (dCells k) 23)).alloc (.cells #[.int .i64 n] 3)).alloc (.cells (zrow 32) 23)).heap[B + 2]? = some (.cells (zrow 32) 23 (0, 0)) := by
    have := heap_alloc_new ((w.alloc (.cells (dCells k) 23)).alloc (.cells #[.int .i64 n] 3)) (.cells (zrow 32) 23)
    simpa [hB] using this
  have hb2 : Below B w (((w.alloc (.cells (dCells k) 23)).alloc (.cells #[.int .i64 n] 3)).alloc (.cells (zrow 32) 23)) := (((Below.refl B w).alloc (by omega) _).alloc (by simp [hB]) _).alloc (by simp [hB]; omega) _
  have hs2 : (((w.alloc (.cells (dCells k) 23)).alloc (.cells #[.int .i64 n] 3)).alloc (.cells (zrow 32) 23)).heap.size = B + 3 := by simp [hB]
  have hz : dCells zkey = zrow 32 := rfl
  refine callsIn_of_wp_marks Tryd.func17 rfl trivial ?_ rfl
  simp only [Tryd.ntmps17, List.size_toArray, List.length_cons, List.length_nil, Nat.reduceAdd, Nat.reduceSub, Array.replicate_succ, Array.replicate_zero, List.push_toArray, List.append_toArray, List.nil_append, List.cons_append]
  gi_upto_region 1 with (fail)
  rw [← zrow32]
  generalize ((w.alloc (.cells (dCells k) 23)).alloc (.cells #[.int .i64 n] 3)).alloc (.cells (zrow 32) 23) = w2 at *
  rw [show B + 1 + 1 = B + 2 from rfl]
  have hnc : w2.cell? ⟨B + 1, 0, none⟩ = some (.int .i64 n) := cell_of_row w2 (B + 1) 0 _ _ _ hn2
  have hnf : w2.frozen? ⟨B + 1, 0, none⟩ = false := frozen_of_row w2 (B + 1) 0 _ _ hn2
  by_cases h0 : n < 0
  · have hso : stepOut k n = .tuple #[.agg (zrow 32), .int .i64 1] := by unfold stepOut; rw [if_pos h0, hz]
    have HSO := Lib.hid hso
    clear hso hz
    gi_wp2_with (first
      | (refine row_load_in rfl 23 _ rfl (B + 2) rfl 23 _ (0, 0) _ hd2 Tryd.underlying23 rfl (by kernel_rfl) ?_)
      | (refine row_store_in rfl 23 _ _ rfl rfl (B + 2) _ rfl rfl 23 _ hd2 (by kernel_rfl) rfl (by kernel_rfl) ?_))
    refine ⟨_, results_row_tmp rfl _ _ (B + 2) _ rfl (key_load (setRow_heap _ _ _ _ _ _ hd2) (by kernel_rfl)), ?_⟩
    exact ⟨by rw [HSO.out]; rfl, hb2.trans ⟨rfl, rfl, rfl, by simp, fun i hi => by rw [setRow_other _ _ _ _ (by omega)]⟩⟩
  · by_cases h1 : n > 65536
    · have hso : stepOut k n = .tuple #[.agg (zrow 32), .int .i64 2] := by unfold stepOut; rw [if_neg h0, if_pos h1, hz]
      have HSO := Lib.hid hso
      clear hso hz
      gi_wp2_with (first
        | (refine row_load_in rfl 23 _ rfl (B + 2) rfl 23 _ (0, 0) _ hd2 Tryd.underlying23 rfl (by kernel_rfl) ?_)
        | (refine row_store_in rfl 23 _ _ rfl rfl (B + 2) _ rfl rfl 23 _ hd2 (by kernel_rfl) rfl (by kernel_rfl) ?_))
      refine ⟨_, results_row_tmp rfl _ _ (B + 2) _ rfl (key_load (setRow_heap _ _ _ _ _ _ hd2) (by kernel_rfl)), ?_⟩
      exact ⟨by rw [HSO.out]; rfl, hb2.trans ⟨rfl, rfl, rfl, by simp, fun i hi => by rw [setRow_other _ _ _ _ (by omega)]⟩⟩
    · obtain ⟨N, rfl⟩ : ∃ N : Nat, n = N := ⟨n.toNat, by omega⟩
      have hso : stepOut k N = .tuple #[.agg (dCells (stepN k N)), .int .i64 0] := by unfold stepOut; rw [if_neg h0, if_neg h1]; rfl
      have HSO := Lib.hid hso
      have HIK := Lib.hid (info_key' k hk)
      have hch := chain_any k w2
      rw [hs2] at hch
      clear hso hz
      gi_wp2_with (first
        | (refine row_load_in rfl 23 _ rfl B rfl 23 _ (0, 0) _ hr2 Tryd.underlying23 rfl HIK.out ?_)
        | (refine ⟨trivial, ?_⟩; gi_at_call 55; refine (callsIn_wide.2 hch).mono ?_; rintro e w3 ⟨rfl, rfl⟩))
      have hs3 : (w2.alloc (.cells (dCells k) 23)).heap.size = B + 4 := by simp [hs2]
      have hc3 : (w2.alloc (.cells (dCells k) 23)).heap[B + 3]? = some (.cells (dCells k) 23 (0, 0)) := by rw [← hs2]; exact heap_alloc_new w2 _
      have hn3 := (Below.heap_alloc w2 (.cells (dCells k) 23) (B + 1) (by omega)).trans hn2
      have hd3 := (Below.heap_alloc w2 (.cells (dCells k) 23) (B + 2) (by omega)).trans hd2
      have hb3 : Below B w (w2.alloc (.cells (dCells k) 23)) := hb2.alloc (by omega) _
      clear hch hnc hnf hr2 hn2 hd2
      generalize w2.alloc (.cells (dCells k) 23) = w3 at *
      refine range_law (gf := 78) (lb := #[.pointer (some ⟨B + 3, 0, none⟩)]) rfl (fun _ => by decide) rfl trivial (enters_of Tryd.func78 (by kernel_rfl) rfl) ?_
      intro fn hfn rec hrec
      rw [hs3] at hrec ⊢
      have hw5 : ((w3.alloc (.deferred (some []))).alloc (.loop (rec .ready none))).heap[B + 5]? = some (.loop (rec .ready none)) := by
        have := World.alloc_heap_new (w3.alloc (.deferred (some []))) (.loop (rec .ready none))
        rw [World.size_alloc, hs3] at this; exact this
      have hw4 : ((w3.alloc (.deferred (some []))).alloc (.loop (rec .ready none))).heap[B + 4]? = some (.deferred (some [])) := by
        have := World.alloc_heap_new w3 (.deferred (some []))
        rw [hs3] at this
        exact (Below.heap_alloc _ _ _ (by simp; omega)).trans this
      have hold : ∀ j, j < B + 4 → ((w3.alloc (.deferred (some []))).alloc (.loop (rec .ready none))).heap[j]? = w3.heap[j]? := fun j hj =>
        (Below.heap_alloc _ _ _ (by simp; omega)).trans (Below.heap_alloc _ _ _ (by omega))
      have hbw : Below B w ((w3.alloc (.deferred (some []))).alloc (.loop (rec .ready none))) := (hb3.alloc (by omega) _).alloc (by simp; omega) _
      generalize (w3.alloc (.deferred (some []))).alloc (.loop (rec .ready none)) = w6 at *
      refine (chain1_in 4 (by decide) (B + 5) (B + 3) N k hk (muN (B + 1))
        (fun i W => i ≤ N ∧ W.heap[B + 3]? = some (.cells (dCells (stepN k i)) 23 (0, 0)) ∧ W.heap[B + 1]? = some (.cells #[.int .i64 ((N - i : Nat) : Int)] 3 (0, 0)) ∧ (∃ c : Array Value, c.size = 32 ∧ W.heap[B + 2]? = some (.cells c 23 (0, 0))) ∧
          W.heap[B + 5]? = some (.loop (rec .ready none)) ∧ W.heap[B + 4]? = some (.deferred (some [])) ∧ Below B w W)
        (fun i W => i < N ∧ W.heap[B + 3]? = some (.cells (dCells (stepN k i)) 23 (0, 0)) ∧ W.heap[B + 1]? = some (.cells #[.int .i64 ((N - (i + 1) : Nat) : Int)] 3 (0, 0)) ∧ (∃ c : Array Value, c.size = 32 ∧ W.heap[B + 2]? = some (.cells c 23 (0, 0))) ∧
          W.heap[B + 5]? = some (.loop (rec .ready none)) ∧ W.heap[B + 4]? = some (.deferred (some [])) ∧ Below B w W)
        (fun W => W.heap[B + 2]? = some (.cells (dCells (stepN k N)) 23 (0, 0)) ∧ W.heap[B + 5]? = some (.loop (rec .done (some (.exit 1)))) ∧ W.heap[B + 4]? = some (.deferred (some [])) ∧ Below B w W)
        ?_ ?_ ?_ ?_ w6 ⟨by omega, (hold _ (by omega)).trans hc3, (hold _ (by omega)).trans hn3, ⟨_, rfl, (hold _ (by omega)).trans hd3⟩, hw5, hw4, hbw⟩).mono ?_
      · rintro i W ⟨h1, h2, h3, -⟩
        refine ⟨h2, h1, ?_⟩
        unfold muN
        rw [show W.cell? ⟨B + 1, 0, none⟩ = some (.int .i64 ((N - i : Nat) : Int)) from cell_of_row W (B + 1) 0 _ _ _ h3]
        simp
      · rintro i W ⟨h1, h2, h3, h4, h5, h6, h7⟩
        exact ⟨h2, he.below (by rw [hB]; exact h7)⟩
      · rintro i W W' ⟨h1, h2, h3, ⟨c, hc, h4⟩, h5, h6, h7⟩ hg hr
        have keep : ∀ j o, W.heap[j]? = some o → j ≠ B + 3 → W'.heap[j]? = some o := fun j o ho hj => (hg.block j (Array.getElem?_eq_some_iff.1 ho).1 (by simp; omega)).trans ho
        exact ⟨h1, hr, keep _ _ h3 (by omega), ⟨c, hc, keep _ _ h4 (by omega)⟩, keep _ _ h5 (by omega), keep _ _ h6 (by omega), h7.grown hg (by have := h7.size; omega) (fun j e => by cases e; omega)⟩
      · rintro i W ⟨h1, h2, h3, ⟨c, hc, h4⟩, h5, h6, h7⟩
        have hsz : (#[Value.agg (dCells (stepN k i))] : Array Value).size = (rec .ready none).params.size := by rw [hrec]; rfl
        have hy := run_yield (P := Tryd.prog) h5 hsz
        have hbr := fun (W' : World) (h : W'.heap[B + 5]? = some (.loop (rec .ready none))) => run_beginRound (P := Tryd.prog) h (by rw [hrec]; rfl)
        rw [hrec] at hy
        dsimp only [lrec] at hy
        simp at hy
        have e2 : ({ rec .ready none with state := .ready, pending := none } : Loop) = rec .ready none := by rw [hrec]; rfl
        have e3 : ({ rec .ready none with state := .done, pending := some (.exit 1) } : Loop) = rec .done (some (.exit 1)) := by rw [hrec, hrec]; rfl
        have E2 := Lib.hid e2; have E3 := Lib.hid e3
        clear e2 e3
        have HREC := Lib.hid hrec
        clear hrec
        have hlen := length_stepN k hk i
        have HI := Lib.hid (info_key' _ hlen); have HS := Lib.hid (size_dCells _ hlen); have HO := Lib.hid (one_dCells (stepN k i))
        refine ⟨fn, #[.agg (dCells k), .int .i64 N, .pointer (some ⟨B, 0, none⟩), .pointer (some ⟨B + 1, 0, none⟩), .pointer (some ⟨B + 2, 0, none⟩), .int .i64 0, .bool false, .int .i64 N, .bool false, undef, .bool false, .int .i64 N, .bool false, undef, .agg (dCells k),
          .func (.func 78) #[] #[.pointer (some ⟨B + 3, 0, none⟩)], .agg (dCells (stepN k i)), undef, undef, undef, undef, undef], _, _, hy, roundIn_of_wpIn hfn ?_⟩
        clear hy
        gi_wp2_with (refine row_store_in rfl 23 _ _ rfl rfl (B + 2) _ rfl rfl 23 _ h4 HI.out (by rw [HS.out, hc]) HO.out ?_)
        have r5 : (W.setRow (B + 2) (dCells (stepN k i))).heap[B + 5]? = some (.loop (rec .ready none)) := by rw [setRow_other _ _ _ _ (by omega)]; exact h5
        obtain ⟨W9, hW9⟩ : ∃ W9, (W.setRow (B + 2) (dCells (stepN k i))).putObj (B + 5) (.loop { rec .ready none with state := .busy }) = W9 := ⟨_, rfl⟩
        have hb9 := hbr _ r5
        rw [hW9] at hb9
        have n9 : W9.heap[B + 1]? = some (.cells #[.int .i64 ((N - i : Nat) : Int)] 3 (0, 0)) := by rw [← hW9]; exact (World.putObj_heap_other (by omega)).trans (by rw [setRow_other _ _ _ _ (by omega)]; exact h3)
        have hnc : W9.cell? ⟨B + 1, 0, none⟩ = some (.int .i64 ((N - i : Nat) : Int)) := cell_of_row W9 (B + 1) 0 _ _ _ n9
        have hnf : W9.frozen? ⟨B + 1, 0, none⟩ = false := frozen_of_row W9 (B + 1) 0 _ _ n9
        have l9 : W9.heap[B + 5]? = some (.loop { rec .ready none with state := .busy }) := by rw [← hW9]; exact World.putObj_heap_same (Array.getElem?_eq_some_iff.1 r5).1
        have k9 : W9.heap[B + 3]? = some (.cells (dCells (stepN k i)) 23 (0, 0)) := by rw [← hW9]; exact (World.putObj_heap_other (by omega)).trans (by rw [setRow_other _ _ _ _ (by omega)]; exact h2)
        have x9 : W9.heap[B + 2]? = some (.cells (dCells (stepN k i)) 23 (0, 0)) := by rw [← hW9]; exact (World.putObj_heap_other (by omega)).trans (setRow_heap _ _ _ _ _ _ h4)
        have d9 : W9.heap[B + 4]? = some (.deferred (some [])) := by rw [← hW9]; exact (World.putObj_heap_other (by omega)).trans (by rw [setRow_other _ _ _ _ (by omega)]; exact h6)
        have b9 : Below B w W9 := by
          rw [← hW9]
          have q : Below B w (W.setRow (B + 2) (dCells (stepN k i))) := h7.trans ⟨rfl, rfl, rfl, by simp, fun j hj => by rw [setRow_other _ _ _ _ (by omega)]⟩
          exact q.grown (grownBy_putObj' _ (B + 5) _) (by have := q.size; omega) (fun j e => by cases e; omega)
        have s9 := b9.size
        refine ⟨W9, hb9, ?_⟩
        clear hb9 hbr
        by_cases hi : i = N
        · subst hi
          have hz0 : ((i - i : Nat) : Int) = 0 := by omega
          rw [hz0] at hnc
          have hen := run_endRound (P := Tryd.prog) (some (.exit 1)) l9
          have f5 : (W9.putObj (B + 5) (.loop (rec .done (some (.exit 1))))).heap[B + 5]? = some (.loop (rec .done (some (.exit 1)))) := World.putObj_heap_same (Array.getElem?_eq_some_iff.1 l9).1
          clear hnf
          gi_wp2
          refine ⟨_, W9.putObj (B + 5) (.loop (rec .done (some (.exit 1)))), hen.trans ?_, rfl, ?_, f5, ?_, ?_⟩
          · rw [← E3.out]; rfl
          · exact (World.putObj_heap_other (by omega)).trans x9
          · exact (World.putObj_heap_other (by omega)).trans d9
          · exact b9.grown (grownBy_putObj' _ (B + 5) _) (by omega) (fun j e => by cases e; omega)
        · have hz0 : ¬ ((N - i : Nat) : Int) = 0 := by omega
          have hv : ((N - i : Nat) : Int) - 1 = ((N - (i + 1) : Nat) : Int) := by omega
          have HV := Lib.hid hv
          clear hv
          gi_wp2
          have hlt : i < N := by omega
          have l10 : ∀ u, (W9.setCell ⟨B + 1, 0, none⟩ u).heap[B + 5]? = some (.loop { rec .ready none with state := .busy }) := fun u => by rw [heap_setCell_other _ _ _ _ (by show B + 5 ≠ B + 1; omega)]; exact l9
          have f5 : ∀ u, ((W9.setCell ⟨B + 1, 0, none⟩ u).putObj (B + 5) (.loop (rec .ready none))).heap[B + 5]? = some (.loop (rec .ready none)) := fun u => World.putObj_heap_same (Array.getElem?_eq_some_iff.1 (l10 u)).1
          have keep : ∀ u j o, j ≠ B + 1 → j ≠ B + 5 → W9.heap[j]? = some o → ((W9.setCell ⟨B + 1, 0, none⟩ u).putObj (B + 5) (.loop (rec .ready none))).heap[j]? = some o := fun u j o ha hb ho =>
            (World.putObj_heap_other (by omega)).trans (by rw [heap_setCell_other _ _ _ _ ha]; exact ho)
          refine ⟨_, (W9.setCell ⟨B + 1, 0, none⟩ (.int .i64 ((N - (i + 1) : Nat) : Int))).putObj (B + 5) (.loop (rec .ready none)), ?_, .inl ⟨rfl, ⟨hlt, keep _ _ _ (by omega) (by omega) k9, ?_, ⟨_, HS.out, keep _ _ _ (by omega) (by omega) x9⟩, f5 _, keep _ _ _ (by omega) (by omega) d9, ?_⟩, hlt⟩⟩
          · rw [← HV.out]
            exact (run_endRound (P := Tryd.prog) none (l10 _)).trans (by rw [← E2.out]; rfl)
          · exact (World.putObj_heap_other (by omega)).trans (by rw [heap_setCell_same _ _ _ _ _ _ n9]; rfl)
          · have q : Below B w (W9.setCell ⟨B + 1, 0, none⟩ (.int .i64 ((N - (i + 1) : Nat) : Int))) := b9.setCell (p := ⟨B + 1, 0, none⟩) (by show B ≤ B + 1; omega) _
            exact q.grown (grownBy_putObj' _ (B + 5) _) (by have := q.size; omega) (fun j e => by cases e; omega)
      · rintro e W ⟨⟨v, rfl⟩, h2, h5, h4, h7⟩
        have hst : (rec .done (some (.exit 1))).state ≠ .busy := by rw [hrec]; simp [lrec]
        have hp : (rec .done (some (.exit 1))).pending = some (.exit 1) := by rw [hrec]; rfl
        have hend := run_endLoop (P := Tryd.prog) h5 hst
        have hlenN := length_stepN k hk N
        have HIN := Lib.hid (info_key' _ hlenN); have HON := Lib.hid (one_dCells (stepN k N))
        have g2 : (W.putObj (B + 5) (.loop { rec .done (some (.exit 1)) with state := .exhausted })).heap[B + 2]? = some (.cells (dCells (stepN k N)) 23 (0, 0)) := (World.putObj_heap_other (by omega)).trans h2
        have g4 : (W.putObj (B + 5) (.loop { rec .done (some (.exit 1)) with state := .exhausted })).heap[B + 4]? = some (.deferred (some [])) := (World.putObj_heap_other (by omega)).trans h4
        have g7 : Below B w (W.putObj (B + 5) (.loop { rec .done (some (.exit 1)) with state := .exhausted })) := h7.grown (grownBy_putObj' W (B + 5) _) (by have := h7.size; omega) (fun j e => by cases e; omega)
        obtain ⟨W8, hW8⟩ : ∃ W8, W.putObj (B + 5) (.loop { rec .done (some (.exit 1)) with state := .exhausted }) = W8 := ⟨_, rfl⟩
        rw [hW8] at hend g2 g4 g7
        rw [hp] at hend
        refine ⟨some (.exit 1), W8, hend, ?_⟩
        clear hend hp hst h2 h4 h5 h7 hW8
        generalize stepN k N = KN at *
        show Code.wpIn _ _ _ _ _ _ _
        gi_wp2_with (first
          | (refine row_load_in rfl 23 _ rfl (B + 2) rfl 23 _ (0, 0) _ g2 Tryd.underlying23 rfl HIN.out ?_)
          | (refine row_store_in rfl 23 _ _ rfl rfl (B + 2) _ rfl rfl 23 _ g2 HIN.out rfl HON.out ?_))
        have q4 : (W8.setRow (B + 2) (dCells KN)).heap[B + 4]? = some (.deferred (some [])) := by rw [setRow_other _ _ _ _ (by omega)]; exact g4
        refine ⟨by simp, .inl ⟨_, _, rfl, run_takeDeferred q4, ?_⟩⟩
        refine ⟨_, results_row_tmp rfl _ _ (B + 2) _ rfl (key_load ((World.putObj_heap_other (by omega)).trans (setRow_heap _ _ _ _ _ _ g2)) HIN.out), ?_⟩
        refine ⟨by rw [HSO.out]; rfl, ?_⟩
        have q7 : Below B w (W8.setRow (B + 2) (dCells KN)) := g7.trans ⟨rfl, rfl, rfl, by simp, fun i hi => by rw [setRow_other _ _ _ _ (by omega)]⟩
        exact q7.grown (grownBy_putObj' _ (B + 4) _) (by have := q7.size; omega) (fun j e => by cases e; omega)
end Chart
