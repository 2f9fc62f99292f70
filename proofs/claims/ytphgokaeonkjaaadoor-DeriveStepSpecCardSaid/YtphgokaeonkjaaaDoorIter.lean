/- The iterator of the chain of keys. -/
import Derived.Test.YtphgokaeonkjaaaDoorRowsIn
namespace Chart
open Go Go.RowKit Go.Shelf Go.Proofs
attribute [local go_sem] Oper.semAt_some

set_option maxHeartbeats 2000000 in
set_option maxRecDepth 100000 in
theorem chain1_in (n : Nat) (hn : 1 ≤ n) (l bc N : Nat) (k : List (BitVec 8)) (hk : k.length = 32) (mu : World → Nat) (J Jm : Nat → World → Prop) (Jx : World → Prop)
    (hrow : ∀ i W, J i W → W.heap[bc]? = some (.cells (dCells (stepN k i)) 23 (0, 0)) ∧ i ≤ N ∧ mu W = N - i)
    (hrow' : ∀ i W, Jm i W → W.heap[bc]? = some (.cells (dCells (stepN k i)) 23 (0, 0)) ∧ ShaEnv W)
    (hstep : ∀ i W W', Jm i W → W.grownBy W' (some bc) → W'.heap[bc]? = some (.cells (dCells (stepN k (i + 1))) 23 (0, 0)) → J (i + 1) W')
    (hY : ∀ i W, J i W → YieldAt Fence.wide (n - 1) Tryd.prog l #[.agg (dCells (stepN k i))] W fun e W' => (e = .returned (.bool true) ∧ Jm i W' ∧ i < N) ∨ (e = .returned (.bool false) ∧ Jx W'))
    (W : World) (h0 : J 0 W) :
    CallsIn Fence.wide n Tryd.prog 78 #[.func (.yield l) #[] #[], .pointer (some ⟨bc, 0, none⟩)] W fun e W' => (∃ v, e = .returned v) ∧ Jx W' := by
  refine callsIn_of_wp Tryd.func78 rfl trivial ?_ rfl
  simp only [Tryd.ntmps78, List.size_toArray, List.length_cons, List.length_nil, Nat.reduceAdd, Nat.reduceSub, Array.replicate_succ, Array.replicate_zero, List.push_toArray, List.append_toArray, List.nil_append, List.cons_append]
  gi_wp2
  gi_loopw [3] (fun _ wr => ∃ i, J i wr) (fun _ wr => mu wr)
  case atStart => exact ⟨0, h0⟩
  case round =>
    obtain ⟨i, hJ⟩ := hrel
    obtain ⟨hr, hiN, hmu⟩ := hrow i wr hJ
    obtain ⟨fn, tmps, assign, body, hy, hR⟩ := hY i wr hJ
    have hlen := length_stepN k hk i
    have HI1 := Lib.hid (info_key' _ hlen)
    gi_wp2_with (refine row_load_in rfl 23 _ rfl bc rfl 23 _ (0, 0) _ hr Tryd.underlying23 rfl HI1.out ?_)
    refine hR.mono ?_
    rintro e W3 (⟨rfl, hJm, hlt⟩ | ⟨rfl, hx⟩)
    · obtain ⟨hr3, he3⟩ := hrow' i W3 hJm
      have hex := expand_any (stepN k i) bStep (.slice none 0 0) [] W3 hlen (.inl ⟨rfl, rfl⟩) (by simp) (by decide) (by simp) he3
      rw [show expd (stepN k i) bStep [] = stepN k (i + 1) from rfl] at hex
      have hlen2 := length_stepN k hk (i + 1)
      have HI2 := Lib.hid (info_key' _ hlen2); have HS1 := Lib.hid (size_dCells _ hlen); have HS2 := Lib.hid (size_dCells _ hlen2); have HO2 := Lib.hid (one_dCells (stepN k (i + 1)))
      have hst := hstep i W3
      have HST := Lib.hid hst
      have hb3 : bc < W3.heap.size := (Array.getElem?_eq_some_iff.1 hr3).1
      clear hlen hlen2 hst
      obtain ⟨K2, hK2⟩ : ∃ K2, stepN k (i + 1) = K2 := ⟨_, rfl⟩
      rw [hK2] at hex HI2 HS2 HO2 HST
      have HK2 := Lib.hid hK2
      clear hK2 hY hR hy
      generalize stepN k i = K1 at *
      gi_wp2_with (first
        | (refine row_load_in rfl 23 _ rfl bc rfl 23 _ (0, 0) _ hr3 Tryd.underlying23 rfl HI1.out ?_)
        | (refine ⟨trivial, ?_⟩; gi_at_call 23; refine (callsIn_wide.2 hex).mono ?_; rintro e W4 ⟨rfl, hb4⟩; have hr4 := (hb4.block bc hb3).trans hr3)
        | (refine row_store_in rfl 23 _ _ rfl rfl bc _ rfl rfl 23 _ hr4 HI2.out (by rw [HS1.out, HS2.out]) HO2.out ?_))
      have hJ2 : J (i + 1) (W4.setRow bc (dCells K2)) := HST.out _ hJm ((World.grownBy.of_below hb4 (some bc)).tr ⟨rfl, rfl, rfl, by simp, fun j _ hj => setRow_other _ _ _ _ (fun e => hj (by rw [e]))⟩) (setRow_heap _ _ _ _ _ _ hr4)
      go_roundw
      case rel => exact ⟨i + 1, hJ2⟩
      case measure => have := (hrow (i + 1) _ hJ2).2; omega
    · gi_wp2
      go_end0
      exact ⟨⟨_, rfl⟩, hx⟩
end Chart
