/- Equality of keys and digests; whole rows behind other doings; appends in guarded steps. -/
import Derived.Test.YtphgokaeonkjaaaDoorDScal
import Derived.Test.YtphgokaeonkjaaaDoorStepD
import Derived.Test.YtphgokaeonkjaaaDoorStep
import Derived.Stop.BytesEq
import Derived.Deep.RegionHeld3
namespace Chart
open Go Go.RowKit Go.Proofs

def u8L (l : List (BitVec 8)) : List UInt8 := l.map UInt8.ofBitVec
theorem u8L_cells (l : List (BitVec 8)) : ((u8L l).map Extern.Stop.cell).toArray = dCells l := by
  unfold u8L dCells
  rw [List.map_map]
  rfl
theorem u8L_beq (a b : List (BitVec 8)) : (u8L a == u8L b) = decide (a = b) := by
  have h : u8L a = u8L b ↔ a = b := by
    refine ⟨fun h => ?_, fun h => by rw [h]⟩
    have h2 := congrArg (List.map UInt8.toBitVec) h
    simpa [u8L, List.map_map, Function.comp_def] using h2
  rw [Bool.eq_iff_iff]
  simp [h]

set_option maxRecDepth 100000 in
theorem eqIn_key (a b : List (BitVec 8)) (ha : a.length = 32) (hb : b.length = 32) (w : World) :
    (Op.equalIn 10000 23 (.agg (dCells a)) (.agg (dCells b))).run Tryd.prog w = .ok (decide (a = b)) w := by
  rw [← u8L_cells, ← u8L_cells, ← u8L_beq]
  exact run_equalIn_bytes w 9998 23 5 32 Tryd.underlying23 Tryd.underlying5 (fun w => Tryd.sizeOf5 w) _ _ (by simp [u8L, ha]) (by simp [u8L, hb])
set_option maxRecDepth 100000 in
theorem eqIn_digest (a b : List (BitVec 8)) (ha : a.length = 32) (hb : b.length = 32) (w : World) :
    (Op.equalIn 10000 38 (.agg (dCells a)) (.agg (dCells b))).run Tryd.prog w = .ok (decide (a = b)) w := by
  rw [← u8L_cells, ← u8L_cells, ← u8L_beq]
  exact run_equalIn_bytes w 9998 38 5 32 Tryd.underlying38 Tryd.underlying5 (fun w => Tryd.sizeOf5 w) _ _ (by simp [u8L, ha]) (by simp [u8L, hb])
theorem eqG_key : Tryd.prog.eqGuardType Tryd.prog.depth 23 = false := by kernel_rfl
theorem eqG_digest : Tryd.prog.eqGuardType Tryd.prog.depth 38 = false := by kernel_rfl

/-- A block stays as it is. -/
theorem row_below {w w' : World} {b : Nat} {o : Obj} (h : w.heap[b]? = some o) (hb : Below w.heap.size w w') : w'.heap[b]? = some o :=
  (hb.block b (Array.getElem?_eq_some_iff.1 h).1).trans h
theorem row_lt {w : World} {b : Nat} {o : Obj} (h : w.heap[b]? = some o) : b < w.heap.size := (Array.getElem?_eq_some_iff.1 h).1
theorem below_al (w : World) (o : Obj) : Below w.heap.size w (w.alloc o) := (Below.refl _ w).alloc (Nat.le_refl _) o
/-- One after the other. -/
theorem below_tr {w w1 w2 : World} (h : Below w.heap.size w w1) (h2 : Below w1.heap.size w1 w2) : Below w.heap.size w w2 := h.trans (h2.mono h.size)
theorem below_trB {B : Nat} {w w1 w2 : World} (hB : B ≤ w.heap.size) (h : Below B w w1) (h2 : Below w1.heap.size w1 w2) : Below B w w2 := h.trans (h2.mono (Nat.le_trans hB h.size))
theorem row_range {w : World} {b : Nat} {l : List (BitVec 8)} {t : TypeId} (h : w.heap[b]? = some (.cells (dCells l) t (0, 0))) : w.rangeAt b 0 (l.map B8) := fun j v hv => by
  rw [Nat.zero_add, cell_of_row w b j _ _ _ h]
  simpa [dCells] using hv

section
variable {ops : Array Oper} {o : Oper} {a : Act} {w : World} {K : Act → World → Prop} {Q : Exit → Act → World → Prop} {E : Prop}
theorem step_app2g (hw : Region.wanted o (yielded ops a.tmps) = true) (s x : Operand) (ho : o.op = .call { callee := .builtin .append, args := #[s, x], argTypes := #[32, 32] })
    (B : Nat) (v : Value) (l : List (BitVec 8)) (hs : a.eval s = v) (hown : OB w B v l) (vx : Value) (m : List (BitVec 8)) (hx : a.eval x = vx) (hbs : BS w vx m)
    (hlen : l.length + m.length ≤ 140737488355328) (hB : B ≤ w.heap.size)
    (h : ∀ v' w', OB w' B v' (l ++ m) → Grew w v w' v' → K (a.put o.dst v') w') : if Region.wanted o (yielded ops a.tmps) = true then Oper.wp Tryd.prog o a w K Q else E := by
  rw [if_pos hw]
  obtain ⟨v', w', hr, h1, h2⟩ := run_app w B v l hown vx m hbs hlen hB o.type
  unfold Oper.wp execOp
  simp only [ho, resolve, invoke, builtin, Sem.run_bind, Sem.run_pure, Result.andThen_ok, List.map_toArray, List.map_cons, List.map_nil, hs, hx, hr]
  exact h _ _ h1 h2
end

/-- A whole key, cell by cell. -/
theorem key_cells {w : World} {g : Nat} {l : List (BitVec 8)} {t : TypeId} (h : w.heap[g]? = some (.cells (dCells l) t (0, 0))) (hl : l.length = 32) :
    (loadCellsFrom ⟨g, 0, none⟩ 0 32 #[]).run Tryd.prog w = .ok (dCells l) w := by
  have h2 : (loadCells ⟨g, 0, none⟩ (l.map B8).length).run Tryd.prog w = .ok (l.map B8).toArray w :=
    run_loadCells_list (P := Tryd.prog) w ⟨g, 0, none⟩ (l.map B8) (fun j v hv => by rw [Addr.add_mid]; exact row_range h j v hv)
  rw [List.length_map, hl] at h2
  exact h2
end Chart
