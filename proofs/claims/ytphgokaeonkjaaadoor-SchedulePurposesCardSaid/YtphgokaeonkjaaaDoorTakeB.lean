/- Appends of bytes in regions that draw their order. -/
import Derived.Test.YtphgokaeonkjaaaDoorProm
import Derived.Test.YtphgokaeonkjaaaDoorEqKey
namespace Chart
open Go Go.RowKit Go.Proofs
theorem sp_app {o : Oper} {a : Act} {w : World} {R : Value → World → Prop} (s x : Operand) (ho : o.op = .call { callee := .builtin .append, args := #[s, x], argTypes := #[32, 32] })
    (B : Nat) (v : Value) (l : List (BitVec 8)) (hs : a.eval s = v) (hown : OB w B v l) (vx : Value) (m : List (BitVec 8)) (hx : a.eval x = vx) (hbs : BS w vx m)
    (hlen : l.length + m.length ≤ 140737488355328) (hB : B ≤ w.heap.size)
    (h : ∀ v' w', OB w' B v' (l ++ m) → Grew w v w' v' → R v' w') : spAt Tryd.prog o a w R := by
  obtain ⟨v', w', hr, h1, h2⟩ := run_app w B v l hown vx m hbs hlen hB o.type
  unfold spAt execOp
  simp only [ho, resolve, invoke, builtin, Sem.run_bind, Sem.run_pure, Result.andThen_ok, List.map_toArray, List.map_cons, List.map_nil, hs, hx, hr]
  exact h _ _ h1 h2
end Chart
