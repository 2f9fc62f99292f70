/- append as a step of a region that draws its order. -/
import Derived.Test.YtphgokaeonkjaaaDoorUnsigned
import Derived.Deep.RegionHeld3
namespace Chart
open Go Go.RowKit Go.Proofs
section
variable {ops : Array Oper} {o : Oper} {a : Act} {w : World} {K : Act → World → Prop} {Q : Exit → Act → World → Prop} {E : Prop}
theorem step_app2 (hgd : o.guard = none) (s x : Operand) (ho : o.op = .call { callee := .builtin .append, args := #[s, x], argTypes := #[32, 32] })
    (B : Nat) (v : Value) (l : List (BitVec 8)) (hs : a.eval s = v) (hown : OB w B v l) (vx : Value) (m : List (BitVec 8)) (hx : a.eval x = vx) (hbs : BS w vx m)
    (hlen : l.length + m.length ≤ 140737488355328) (hB : B ≤ w.heap.size)
    (h : ∀ v' w', OB w' B v' (l ++ m) → Grew w v w' v' → K (a.put o.dst v') w') : if Region.wanted o (yielded ops a.tmps) = true then Oper.wp Tryd.prog o a w K Q else E := by
  have hw : Region.wanted o (yielded ops a.tmps) = true := by simp [Region.wanted, hgd]
  rw [if_pos hw]
  obtain ⟨v', w', hr, h1, h2⟩ := run_app w B v l hown vx m hbs hlen hB o.type
  unfold Oper.wp execOp
  simp only [ho, resolve, invoke, builtin, Sem.run_bind, Sem.run_pure, Result.andThen_ok, List.map_toArray, List.map_cons, List.map_nil, hs, hx, hr]
  exact h v' w' h1 h2
theorem step_app2_str (hgd : o.guard = none) (s x : Operand) (ho : o.op = .call { callee := .builtin .append, args := #[s, x], argTypes := #[32, 9] })
    (B : Nat) (v : Value) (l : List (BitVec 8)) (hs : a.eval s = v) (hown : OB w B v l) (str : ByteArray) (hx : a.eval x = .string str)
    (hlen : l.length + str.size ≤ 140737488355328) (hB : B ≤ w.heap.size)
    (h : ∀ v' w', OB w' B v' (l ++ strB str) → Grew w v w' v' → K (a.put o.dst v') w') : if Region.wanted o (yielded ops a.tmps) = true then Oper.wp Tryd.prog o a w K Q else E := by
  have hw : Region.wanted o (yielded ops a.tmps) = true := by simp [Region.wanted, hgd]
  rw [if_pos hw]
  obtain ⟨v', w', hr, h1, h2⟩ := run_app_str w B v l hown str hlen hB o.type
  unfold Oper.wp execOp
  simp only [ho, resolve, invoke, builtin, Sem.run_bind, Sem.run_pure, Result.andThen_ok, List.map_toArray, List.map_cons, List.map_nil, hs, hx, hr]
  exact h v' w' h1 h2
end
/-- An append's source that lies apart keeps its bytes; a row that is not the slice's own keeps its cells. -/
theorem Grew.row {w w' : World} {v v' : Value} (h : Grew w v w' v') {b : Nat} {o : Obj} (hb : w.heap[b]? = some o) (hne : some b ≠ v.ownBlock) : w'.heap[b]? = some o :=
  (h.grown.block b (Array.getElem?_eq_some_iff.1 hb).1 hne).trans hb
theorem Grew.drew {w w' : World} {v v' : Value} (h : Grew w.drew v w' v') : Grew w v w' v' := ⟨(World.grownBy.rf w _).dr.tr h.grown, h.chain⟩
theorem Grew.drewN {w w' : World} {v v' : Value} {n : Nat} (h : Grew (w.drewN n) v w' v') : Grew w v w' v' := ⟨((World.grownBy.rf w _).drN n).tr h.grown, h.chain⟩
theorem cell_al {w : World} {b k : Nat} {u : Value} (h : w.cell? ⟨b, k, none⟩ = some u) (o : Obj) : (w.alloc o).cell? ⟨b, k, none⟩ = some u := (World.grownBy_alloc w o none).cell h (by simp)
/-- A row that was there and is not the slice's own is not the new slice's own. -/
theorem Grew.ne {w w' : World} {v v' : Value} (h : Grew w v w' v') {b : Nat} (hb : b < w.heap.size) (hne : some b ≠ v.ownBlock) : some b ≠ v'.ownBlock := by
  intro e
  rcases h.chain with hc | hc
  · rw [hc] at e; exact hne e
  · have := hc b e.symm; omega
theorem Grew.cell {w w' : World} {v v' : Value} (h : Grew w v w' v') {b k : Nat} {u : Value} (hb : w.cell? ⟨b, k, none⟩ = some u) (hne : some b ≠ v.ownBlock) : w'.cell? ⟨b, k, none⟩ = some u :=
  h.grown.cell hb hne
end Chart
