/- Regions that draw their order, in worlds that differ only from a block on. -/
import Derived.Test.YtphgokaeonkjaaaDoorMem
import Derived.Test.YtphgokaeonkjaaaDoorQt
namespace Chart
open Go Go.RowKit
/-- A world that a walk may meet: what lies below a block is as it was. -/
structure Own (B : Nat) (w : World) where
  w' : World
  below : Below B w w'
instance (B : Nat) (w : World) : Nonempty (Own B w) := ⟨⟨w, Below.refl B w⟩⟩
def Own.of {B : Nat} {w v : World} (h : Below B w v) : Own B w := ⟨v, h⟩

section
variable {P : Program}
/-- The class: worlds that differ from this one only from a block on. -/
theorem wp_region_own_tail {id : Nat} {Q : Exit → Act → World → Prop} {a : Act} {w : World} {l : List Oper} (n B : Nat) (hm : P.follows .mixedOrders = true) (hB : Region.lexTailB .any l.toArray n = true)
    (h : wpQuiet P l.toArray (fun w' => ∃ p : Own B w, w' = p.w') (fun a' => ∀ w', (∃ p : Own B w, w' = p.w') → wpList P l.toArray Q (l.drop n) a' w') (l.take n) a) : (Code.region id l.toArray true).wp P Q a w :=
  wp_region_quiet_tail n _ hm hB ⟨.of (Below.refl B w).drew, rfl⟩ h
theorem wp_region_own {id : Nat} {Q : Exit → Act → World → Prop} {a : Act} {w : World} {l : List Oper} (B : Nat) (hm : P.follows .mixedOrders = true) (hB : Region.lexB .any l.toArray = true)
    (h : wpQuiet P l.toArray (fun w' => ∃ p : Own B w, w' = p.w') (fun a' => ∀ w', (∃ p : Own B w, w' = p.w') → Q .normal a' w') l a) : (Code.region id l.toArray true).wp P Q a w :=
  wp_region_quiet (C := fun w' => ∃ p : Own B w, w' = p.w') hm hB ⟨.of (Below.refl B w).drew, rfl⟩ (by simpa using h)
/-- A contract met in such a world. -/
theorem own_calls {f : FuncId} {args : Array Value} {B : Nat} {w : World} {p : Own B w} {v : Value} (hB : B ≤ w.heap.size)
    (h : Calls P f args p.w' fun e w' => e = .returned v ∧ Below p.w'.heap.size p.w' w') : Calls P f args p.w' fun e w'' => e = .returned v ∧ ∃ q : Own B w, w'' = q.w' :=
  h.mono fun _ _ ⟨he, hb⟩ => ⟨he, .of (p.below.trans (hb.mono (Nat.le_trans hB p.below.size))), rfl⟩

/-- A whole variable is read, the same in every world of the class. -/
theorem wpQuiet_load_row {ops : Array Oper} {rest : List Oper} {o : Oper} {a : Act} {C : World → Prop} {Q : Act → Prop} (hgd : o.guard = none) (ty : TypeId) (x : Operand) (ho : o.op = .load ty x)
    (g : Nat) (hx : a.eval x = .pointer (some ⟨g, 0, none⟩)) (t : TypeId) (cs : Array Value) (fr : Nat × Nat) (d : TypeDesc) (hg : ∀ w, C w → w.heap[g]? = some (.cells cs t fr))
    (hu : P.underlying ty = some d) (hd : (match d with | .struct _ | .array _ _ => true | _ => false) = true) (hi : (P.info? ty).map (·.size) = some cs.size)
    (h : wpQuiet P ops C Q rest (a.put o.dst (.agg cs))) : wpQuiet P ops C Q (o :: rest) a := by
  refine wpQuiet_step fun K hK => ?_
  simp only [Region.wanted, hgd, if_true]
  refine ⟨.agg cs, fun w hw => ?_, hK _ h⟩
  unfold Oper.quietAt execOp
  simp only [ho, hx, Instr.loadAt, Instr.sureAddr, Sem.run_bind, Sem.run_pure, Result.andThen_ok, run_loadVar_row w g t ty cs fr d (hg w hw) hu hd hi]
  exact ⟨rfl, rfl⟩
end
end Chart
