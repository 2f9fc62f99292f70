/- Equality of keys and digests; whole rows behind other doings; appends in guarded steps. Steps of regions that draw: whole rows, conversions, guarded reads. -/
import Derived.Test.YtphgokaeonkjaaaDoorDScal
import Derived.Test.YtphgokaeonkjaaaDoorStepD
import Derived.Test.YtphgokaeonkjaaaDoorWriters
import Derived.Stop.BytesEq
import Derived.Deep.RegionHeld3
namespace Chart
open Go Go.RowKit Go.Proofs

def u8L (l : List (BitVec 8)) : List UInt8 := l.map UInt8.ofBitVec
theorem u8L_cells (l : List (BitVec 8)) : ((u8L l).map Extern.Stop.cell).toArray = dCells l := by
  unfold u8L dCells
  rw [List.map_map]
  rfl
theorem u8L_beq (a b : List (BitVec 8)) : (u8L a == u8L b) = decide (a = b) := by
  have h : u8L a = u8L b ↔ a = b := by
    refine ⟨fun h => ?_, fun h => by rw [h]⟩
    have h2 := congrArg (List.map UInt8.toBitVec) h
    simpa [u8L, List.map_map, Function.comp_def] using h2
  rw [Bool.eq_iff_iff]
  simp [h]

set_option maxRecDepth 100000 in
theorem eqIn_key (a b : List (BitVec 8)) (ha : a.length = 32) (hb : b.length = 32) (w : World) :
    (Op.equalIn 10000 23 (.agg (dCells a)) (.agg (dCells b))).run Tryd.prog w = .ok (decide (a = b)) w := by
  rw [← u8L_cells, ← u8L_cells, ← u8L_beq]
  exact run_equalIn_bytes w 9998 23 5 32 Tryd.underlying23 Tryd.underlying5 (fun w => Tryd.sizeOf5 w) _ _ (by simp [u8L, ha]) (by simp [u8L, hb])
set_option maxRecDepth 100000 in
theorem eqIn_digest (a b : List (BitVec 8)) (ha : a.length = 32) (hb : b.length = 32) (w : World) :
    (Op.equalIn 10000 38 (.agg (dCells a)) (.agg (dCells b))).run Tryd.prog w = .ok (decide (a = b)) w := by
  rw [← u8L_cells, ← u8L_cells, ← u8L_beq]
  exact run_equalIn_bytes w 9998 38 5 32 Tryd.underlying38 Tryd.underlying5 (fun w => Tryd.sizeOf5 w) _ _ (by simp [u8L, ha]) (by simp [u8L, hb])
theorem eqG_key : Tryd.prog.eqGuardType Tryd.prog.depth 23 = false := by kernel_rfl
theorem eqG_digest : Tryd.prog.eqGuardType Tryd.prog.depth 38 = false := by kernel_rfl

/-- A block stays as it is. -/
theorem row_below {w w' : World} {b : Nat} {o : Obj} (h : w.heap[b]? = some o) (hb : Below w.heap.size w w') : w'.heap[b]? = some o :=
  (hb.block b (Array.getElem?_eq_some_iff.1 h).1).trans h
theorem row_lt {w : World} {b : Nat} {o : Obj} (h : w.heap[b]? = some o) : b < w.heap.size := (Array.getElem?_eq_some_iff.1 h).1
theorem below_al (w : World) (o : Obj) : Below w.heap.size w (w.alloc o) := (Below.refl _ w).alloc (Nat.le_refl _) o
/-- One after the other. -/
theorem below_tr {w w1 w2 : World} (h : Below w.heap.size w w1) (h2 : Below w1.heap.size w1 w2) : Below w.heap.size w w2 := h.trans (h2.mono h.size)
theorem below_trB {B : Nat} {w w1 w2 : World} (hB : B ≤ w.heap.size) (h : Below B w w1) (h2 : Below w1.heap.size w1 w2) : Below B w w2 := h.trans (h2.mono (Nat.le_trans hB h.size))
theorem row_range {w : World} {b : Nat} {l : List (BitVec 8)} {t : TypeId} (h : w.heap[b]? = some (.cells (dCells l) t (0, 0))) : w.rangeAt b 0 (l.map B8) := fun j v hv => by
  rw [Nat.zero_add, cell_of_row w b j _ _ _ h]
  simpa [dCells] using hv

section
variable {ops : Array Oper} {o : Oper} {a : Act} {w : World} {K : Act → World → Prop} {Q : Exit → Act → World → Prop} {E : Prop}
theorem step_app2g (hw : Region.wanted o (yielded ops a.tmps) = true) (s x : Operand) (ho : o.op = .call { callee := .builtin .append, args := #[s, x], argTypes := #[32, 32] })
    (B : Nat) (v : Value) (l : List (BitVec 8)) (hs : a.eval s = v) (hown : OB w B v l) (vx : Value) (m : List (BitVec 8)) (hx : a.eval x = vx) (hbs : BS w vx m)
    (hlen : l.length + m.length ≤ 140737488355328) (hB : B ≤ w.heap.size)
    (h : ∀ v' w', OB w' B v' (l ++ m) → Grew w v w' v' → K (a.put o.dst v') w') : if Region.wanted o (yielded ops a.tmps) = true then Oper.wp Tryd.prog o a w K Q else E := by
  rw [if_pos hw]
  obtain ⟨v', w', hr, h1, h2⟩ := run_app w B v l hown vx m hbs hlen hB o.type
  unfold Oper.wp execOp
  simp only [ho, resolve, invoke, builtin, Sem.run_bind, Sem.run_pure, Result.andThen_ok, List.map_toArray, List.map_cons, List.map_nil, hs, hx, hr]
  exact h _ _ h1 h2
end

/-- A whole key, cell by cell. -/
theorem key_cells {w : World} {g : Nat} {l : List (BitVec 8)} {t : TypeId} (h : w.heap[g]? = some (.cells (dCells l) t (0, 0))) (hl : l.length = 32) :
    (loadCellsFrom ⟨g, 0, none⟩ 0 32 #[]).run Tryd.prog w = .ok (dCells l) w := by
  have h2 : (loadCells ⟨g, 0, none⟩ (l.map B8).length).run Tryd.prog w = .ok (l.map B8).toArray w :=
    run_loadCells_list (P := Tryd.prog) w ⟨g, 0, none⟩ (l.map B8) (fun j v hv => by rw [Addr.add_mid]; exact row_range h j v hv)
  rw [List.length_map, hl] at h2
  exact h2
end Chart

namespace Chart
open Go Go.RowKit Go.Proofs

section
variable {P : Program} {ops : Array Oper} {S : World → Prop}
/-- A whole variable reads the same in every world that meets the condition. -/
theorem yieldsIf_row {o : Oper} {a : Act} (hw : Region.wanted o (yielded ops a.tmps) = true) (ty : TypeId) (x : Operand) (ho : o.op = .load ty x) (g : Nat) (hx : a.eval x = .pointer (some ⟨g, 0, none⟩))
    (t : TypeId) (cs : Array Value) (fr : Nat × Nat) (d : TypeDesc) (hg : ∀ w, S w → w.heap[g]? = some (.cells cs t fr)) (hu : P.underlying ty = some d) (hd : (match d with | .struct _ | .array _ _ => true | _ => false) = true)
    (hi : (P.info? ty).map (·.size) = some cs.size) : YieldsIf P ops S o (.agg cs) a :=
  .inl ⟨hw, fun w hS => by
    unfold execOp
    simp only [ho, hx, Instr.loadAt, Instr.sureAddr, Sem.run_bind, Sem.run_pure, Result.andThen_ok, run_loadVar_row w g t ty cs fr d (hg w hS) hu hd hi]⟩
end

section
variable {ops : Array Oper} {o : Oper} {a : Act} {w : World} {K : Act → World → Prop} {Q : Exit → Act → World → Prop} {E : Prop}
theorem step_conv (hw : Region.wanted o (yielded ops a.tmps) = true) (x : Operand) (ho : o.op = .convert 9 32 x) (s : ByteArray) (hx : a.eval x = .string s) (hs : s.size ≤ maxLen)
    (h : ∀ v w', BS w' v (strB s) → Below w.heap.size w w' → K (a.put o.dst v) w') : if Region.wanted o (yielded ops a.tmps) = true then Oper.wp Tryd.prog o a w K Q else E := by
  rw [if_pos hw]
  have hr := Lib.run_convert_string_bytes (P := Tryd.prog) w 9 32 5 s Tryd.underlying9 under_bytes Tryd.underlying5
  unfold Oper.wp execOp
  simp only [ho, hx, Sem.run_bind, Sem.run_pure, Result.andThen_ok, hr]
  refine h _ _ (.inr ⟨w.heap.size, 0, grownCap w s.size 0 5, by rw [length_strB], by rw [length_strB]; exact grownCap_ge _ _ _ _, grownCap_le_maxLen _ _ _ _ hs, fun j y hy => ?_, ?_⟩) (Lib.bytesWorld_below w _ s)
  · have hj : j < s.size := by rw [← length_strB]; exact (List.getElem?_eq_some_iff.1 hy).1
    rw [Nat.zero_add, Lib.bytesWorld_cell w _ s j hj]
    unfold strB at hy
    rw [List.getElem?_map] at hy
    cases hd : s.data.toList[j]? with
    | none => rw [hd] at hy; cases hy
    | some z =>
      rw [hd] at hy; cases hy
      rw [List.getD_eq_getElem?_getD, hd]
      rfl
  · rw [Lib.bytesWorld_size]; omega
end

theorem wpList_load_rowg {P : Program} {ops : Array Oper} {rest : List Oper} {o : Oper} {a : Act} {w : World} {Q : Exit → Act → World → Prop} (hw : Region.wanted o (yielded ops a.tmps) = true) (ty : TypeId) (x : Operand) (ho : o.op = .load ty x)
    (g : Nat) (hx : a.eval x = .pointer (some ⟨g, 0, none⟩)) (t : TypeId) (cs : Array Value) (fr : Nat × Nat) (d : TypeDesc) (hg : w.heap[g]? = some (.cells cs t fr))
    (hu : P.underlying ty = some d) (hd : (match d with | .struct _ | .array _ _ => true | _ => false) = true) (hi : (P.info? ty).map (·.size) = some cs.size)
    (h : wpList P ops Q rest (a.put o.dst (.agg cs)) w) : wpList P ops Q (o :: rest) a w :=
  wpList_step fun _ hK => by rw [if_pos hw]; exact wp_load_row ty x ho g hx t cs fr d hg hu hd hi (hK _ _ h)

section
variable {P : Program} {ops : Array Oper} {rest : List Oper} {o : Oper} {a : Act} {C : World → Prop} {Q : Act → Prop}
theorem wpQuiet_load_rowg (hw : Region.wanted o (yielded ops a.tmps) = true) (ty : TypeId) (x : Operand) (ho : o.op = .load ty x)
    (g : Nat) (hx : a.eval x = .pointer (some ⟨g, 0, none⟩)) (t : TypeId) (cs : Array Value) (fr : Nat × Nat) (d : TypeDesc) (hg : ∀ w, C w → w.heap[g]? = some (.cells cs t fr))
    (hu : P.underlying ty = some d) (hd : (match d with | .struct _ | .array _ _ => true | _ => false) = true) (hi : (P.info? ty).map (·.size) = some cs.size)
    (h : wpQuiet P ops C Q rest (a.put o.dst (.agg cs))) : wpQuiet P ops C Q (o :: rest) a := by
  refine wpQuiet_step fun K hK => ?_
  rw [if_pos hw]
  refine ⟨.agg cs, fun w hw => ?_, hK _ h⟩
  unfold Oper.quietAt execOp
  simp only [ho, hx, Instr.loadAt, Instr.sureAddr, Sem.run_bind, Sem.run_pure, Result.andThen_ok, run_loadVar_row w g t ty cs fr d (hg w hw) hu hd hi]
  exact ⟨rfl, rfl⟩
end
end Chart
