/- What regions' operations promise: keys, lists of keys, bytes. Contracts in the class of worlds that differ only from a block on. -/
import Derived.Test.YtphgokaeonkjaaaDoorProm
import Derived.Test.YtphgokaeonkjaaaDoorLadder
import Derived.Test.YtphgokaeonkjaaaDoorOwn
namespace Chart
open Go Go.RowKit Go.Proofs

def spK (ks : List (List (BitVec 8))) : Sp := ⟨fun v w => KR w v ks, fun _ _ _ h hb => h.below hb⟩
def spB (l : List (BitVec 8)) : Sp := ⟨fun v w => BS w v l, fun _ _ _ h hb => h.below hb⟩
theorem below_dN (w : World) (n : Nat) : Below w.heap.size w (w.drewN n) := Go.below_drewN (Below.refl _ w) n
/-- A call that promises something. -/
theorem own_sp {P : Program} {N : Nat} {w : World} {p : Own N w} {f : FuncId} {args : Array Value} {φ : Value → World → Prop} (hN : N ≤ w.heap.size)
    (h : Calls P f args p.w' fun e w' => ∃ v, e = .returned v ∧ Below p.w'.heap.size p.w' w' ∧ φ v w') :
    Calls P f args p.w' fun e w'' => ∃ v, e = .returned v ∧ (∃ q : Own N w, w'' = q.w') ∧ Below p.w'.heap.size p.w' w'' ∧ φ v w'' :=
  h.mono fun _ _ ⟨v, he, hb, hφ⟩ => ⟨v, he, ⟨.of (p.below.trans (hb.mono (Nat.le_trans hN p.below.size))), rfl⟩, hb, hφ⟩
theorem own_spV {P : Program} {N : Nat} {w : World} {p : Own N w} {f : FuncId} {args : Array Value} {v0 : Value} (hN : N ≤ w.heap.size)
    (h : Calls P f args p.w' fun e w' => e = .returned v0 ∧ Below p.w'.heap.size p.w' w') :
    Calls P f args p.w' fun e w'' => ∃ v, e = .returned v ∧ (∃ q : Own N w, w'' = q.w') ∧ Below p.w'.heap.size p.w' w'' ∧ v = v0 :=
  own_sp hN (h.mono fun _ _ ⟨he, hb⟩ => ⟨v0, he, hb, rfl⟩)
theorem calls_dN {P : Program} {f : FuncId} {args : Array Value} {w : World} {v : Value} (h : Calls P f args w fun e w' => e = .returned v ∧ ∃ n, w' = w.drewN n) : Calls P f args w fun e w' => e = .returned v ∧ Below w.heap.size w w' :=
  h.mono fun _ _ ⟨he, n, hw⟩ => ⟨he, hw ▸ below_dN w n⟩

section
variable {md : Region.Mode} {ops : Array Oper} {N : Nat} {w0 : World} {Φ : Nat → Option (Value → World → Prop)} {Q : Facts → Act → Prop} {o : Oper} {rest : List Oper} {k : Nat} {F : Facts} {a : Act}
/-- A slice literal of one key. -/
theorem sp_build_key (key : List (BitVec 8)) (hk : key.length = 32) (hΦ : Φ k = some (spK [key]).1) (hw : Region.wanted o (yielded ops a.tmps) = true) (x : Operand) (ho : o.op = .buildSlice 42 1 #[(0, x)]) (hx : a.eval x = .agg (dCells key)) (hN : N ≤ w0.heap.size)
    (h2 : ∀ v, (∃ w, KR w v [key]) → ∀ K : Act → Prop, (∀ a, wpSp Tryd.prog md ops (fun w => ∃ q : Own N w0, w = q.w') Φ Q rest (k + 1) (fput F k (fun w => KR w v [key])) a → K a) → K (a.put o.dst v)) :
    wpSp Tryd.prog md ops (fun w => ∃ q : Own N w0, w = q.w') Φ Q (o :: rest) k F a := by
  refine sp_spec hΦ hw (fun w hw hd => ?_) (fun v ⟨w, _, hv⟩ K hK => h2 v ⟨w, hv⟩ K hK)
  obtain ⟨q, rfl⟩ := hw
  obtain ⟨i0, hi, hz0, hz1, hz2⟩ := info_parts info_key32
  have hf := fill_key key hk
  have hr := run_buildSlice (P := Tryd.prog) q.w' 42 23 1 [(0, Value.agg (dCells key))].toArray (dCells key) i0 (.agg (zrow 32)) under_keys hi hz0 (by rw [hz1]; decide) (by rw [hz1]; decide) (by rw [hz1]; exact hf)
  unfold spAt execOp
  simp only [ho, List.map_toArray, List.map_cons, List.map_nil, hx, Sem.run_bind, Sem.run_pure, hr, Result.andThen_ok]
  have hb := below_al q.w' (.cells (dCells key) 23)
  refine ⟨⟨.of (q.below.trans (hb.mono (Nat.le_trans hN q.below.size))), rfl⟩, hb, ?_⟩
  exact (KO.one q.w' q.w'.heap.size q.w'.heap.size key hk rfl (Nat.le_refl _)).kr
/-- A key amid a row. -/
theorem sp_load_mid {P : Program} {C : World → Prop} (hΦ : Φ k = none) (hw : Region.wanted o (yielded ops a.tmps) = true) (ty : TypeId) (x : Operand) (ho : o.op = .load ty x)
    (b off : Nat) (hx : a.eval x = .pointer (some ⟨b, off, none⟩)) (cs : List Value) (d : TypeDesc) (hg : ∀ w, C w → w.rangeAt b off cs)
    (hu : P.underlying ty = some d) (hd : d.isRow = true) (hi : (P.info? ty).map (·.size) = some cs.length)
    (h : ∀ K : Act → Prop, (∀ a, wpSp P md ops C Φ Q rest (k + 1) F a → K a) → K (a.put o.dst (.agg cs.toArray))) : wpSp P md ops C Φ Q (o :: rest) k F a :=
  sp_val _ hΦ hw (fun w hw => by
    unfold execOp
    simp only [ho, hx, Instr.loadAt, Instr.sureAddr, Sem.run_bind, Sem.run_pure, Result.andThen_ok, run_loadVar_mid w b off ty cs d (hg w hw) hu hd hi]) (h _ fun _ h => h)
end
end Chart
