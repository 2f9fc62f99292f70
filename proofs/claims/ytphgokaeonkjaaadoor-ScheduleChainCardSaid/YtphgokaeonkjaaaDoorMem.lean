/- Memory: rows of bytes and words, and worlds that grow. No program in sight. -/
import Derived.Test.YtphgokaeonkjaaaDoorWord
import Derived.Deep.Draws
import Derived.Lib.Hide
namespace Chart
open Go Go.RowKit

/-- So many words, then zeros. -/
def wCells (n : Nat) (l : List (BitVec 32)) : Array Value := (l.map B32 ++ List.replicate (n - l.length) (Value.int .u32 0)).toArray

theorem wCells_get (n : Nat) (l : List (BitVec 32)) (j : Nat) (h : j < l.length) : (wCells n l)[j]? = some (B32 (l.getD j 0)) := by
  unfold wCells
  rw [List.getElem?_toArray, List.getElem?_append_left (by simpa using h)]
  simp [h]

theorem wCells_zero (n : Nat) (l : List (BitVec 32)) (j : Nat) (h : l.length ≤ j) (hj : j < n) : (wCells n l)[j]? = some (Value.int .u32 0) := by
  unfold wCells
  rw [List.getElem?_toArray, List.getElem?_append_right (by simpa using h), List.getElem?_replicate, if_pos (by simp; omega)]

theorem wCells_set (n : Nat) (l : List (BitVec 32)) (x : BitVec 32) (h : l.length < n) : (wCells n l).setIfInBounds l.length (B32 x) = wCells n (l ++ [x]) := by
  unfold wCells
  rw [List.setIfInBounds_toArray]
  congr 1
  rw [List.set_append_right _ _ (by simp)]
  obtain ⟨d, hd⟩ : ∃ d, n - l.length = d + 1 := ⟨n - l.length - 1, by omega⟩
  have hd' : n - (l ++ [x]).length = d := by simp; omega
  rw [hd, hd', List.replicate_succ]
  simp

/-- The cells from an address on hold these bytes. -/
def BytesAt (w : World) (b off : Nat) (l : List (BitVec 8)) : Prop := ∀ j x, l[j]? = some x → w.cell? ⟨b, off + j, none⟩ = some (B8 x)

theorem BytesAt.grown {w w' : World} {row : Option Nat} {b off : Nat} {l : List (BitVec 8)} (h : BytesAt w b off l) (hg : w.grownBy w' row) (hr : row ≠ some b) : BytesAt w' b off l :=
  fun j x hx => hg.cell (h j x hx) (Ne.symm hr)
theorem BytesAt.take {w : World} {b off : Nat} {l : List (BitVec 8)} (h : BytesAt w b off l) (n : Nat) : BytesAt w b off (l.take n) :=
  fun j x hx => h j x (by rw [List.getElem?_take] at hx; split at hx <;> simp_all)
theorem BytesAt.drop {w : World} {b off : Nat} {l : List (BitVec 8)} (h : BytesAt w b off l) (n : Nat) : BytesAt w b (off + n) (l.drop n) :=
  fun j x hx => by
    have := h (n + j) x (by simpa using hx)
    rwa [← Nat.add_assoc] at this

/-- A contract that leaves the world alone, as the walks of regions want it. -/
theorem stl {P : Program} {f : FuncId} {args : Array Value} {w : World} {v : Value} (h : Calls P f args w fun e w' => e = .returned v ∧ w = w') : Calls P f args w fun e w'' => e = .returned v ∧ w'' = w :=
  h.mono fun _ _ ⟨a, b⟩ => ⟨a, b.symm⟩

theorem quiet_left {P : Program} {f : FuncId} {args : Array Value} {w : World} {n : Nat} {v : Value}
    (h : Calls P f args (w.drewN n) fun e w' => e = .returned v ∧ w.drewN n = w') : Calls P f args (w.drewN n) fun e w'' => e = .returned v ∧ ∃ m, w'' = w.drewN m :=
  h.mono fun _ _ ⟨he, hm⟩ => ⟨he, n, hm.symm⟩
theorem quiet_add_left {P : Program} {f : FuncId} {args : Array Value} {w : World} {a n : Nat} {v : Value}
    (h : Calls P f args (w.drewN (a + n)) fun e w' => e = .returned v ∧ w.drewN (a + n) = w') :
    Calls P f args (w.drewN (a + n)) fun e w'' => e = .returned v ∧ ∃ m, w'' = w.drewN (a + m) :=
  h.mono fun _ _ ⟨he, hm⟩ => ⟨he, n, hm.symm⟩
/-- The same of a contract that draws. -/
theorem quiet_d {P : Program} {f : FuncId} {args : Array Value} {w : World} {n : Nat} {v : Value}
    (h : Calls P f args (w.drewN n) fun e w' => e = .returned v ∧ ∃ m, (w.drewN n).drewN m = w') : Calls P f args (w.drewN n) fun e w'' => e = .returned v ∧ ∃ m, w'' = w.drewN m :=
  h.mono fun _ _ ⟨he, m, hm⟩ => ⟨he, n + m, by rw [← hm, World.drewN_drewN]⟩
theorem quiet_add_d {P : Program} {f : FuncId} {args : Array Value} {w : World} {a n : Nat} {v : Value}
    (h : Calls P f args (w.drewN (a + n)) fun e w' => e = .returned v ∧ ∃ m, (w.drewN (a + n)).drewN m = w') :
    Calls P f args (w.drewN (a + n)) fun e w'' => e = .returned v ∧ ∃ m, w'' = w.drewN (a + m) :=
  h.mono fun _ _ ⟨he, m, hm⟩ => ⟨he, n + m, by rw [← hm, World.drewN_drewN, Nat.add_assoc]⟩

theorem setRow_alloc (w : World) (old cells : Array Value) (t : TypeId) : (w.alloc (.cells old t)).setRow w.heap.size cells = w.alloc (.cells cells t) := by
  unfold World.setRow World.alloc
  congr 1
  apply Array.ext_getElem?
  intro j
  rw [Array.getElem?_modify, Array.getElem?_push, Array.getElem?_push]
  by_cases h : w.heap.size = j
  · subst h; simp
  · rw [if_neg h]; simp [Ne.symm h]

/-- A variable that has just been made is given its value: it lies in the new block. -/
theorem st_new {P : Program} {ops : Array Oper} {rest : List Oper} {o : Oper} {a : Act} {w0 : World} {Q : Exit → Act → World → Prop} (hgd : o.guard = none) (ty : TypeId) (x y : Operand) (ho : o.op = .store ty x y)
    (cells old : Array Value) (t : TypeId) (hx : a.eval x = .pointer (some ⟨w0.heap.size, 0, none⟩)) (hy : a.eval y = .agg cells)
    (hi : (P.info? ty).map (·.size) = some cells.size) (hold : old.size = cells.size) (h1 : cells.all (·.oneCell') = true)
    (h : wpList P ops Q rest (a.put o.dst undef) (w0.alloc (.cells cells t))) : wpList P ops Q (o :: rest) a (w0.alloc (.cells old t)) :=
  wpList_store_row hgd ty x y ho w0.heap.size cells hx hy t old (heap_alloc_new w0 _) hi hold h1 (by rw [setRow_alloc]; exact h)

end Chart
namespace Go.World.grownBy
open Go Go.RowKit
theorem tr {a b c : World} {row : Option Nat} (h : a.grownBy b row) (k : b.grownBy c row) : a.grownBy c row :=
  ⟨k.os.trans h.os, k.tape.trans h.tape, k.output.trans h.output, Nat.le_trans h.size k.size, fun i hi hr => (k.block i (Nat.lt_of_lt_of_le hi h.size) hr).trans (h.block i hi hr)⟩
theorem rf (a : World) (row : Option Nat) : a.grownBy a row := ⟨rfl, rfl, rfl, Nat.le_refl _, fun _ _ _ => rfl⟩
theorem set {a b : World} {row : Option Nat} (h : a.grownBy b row) (k off : Nat) (v : Value) (hk : a.heap.size ≤ k ∨ row = some k) : a.grownBy (b.setCell ⟨k, off, none⟩ v) row :=
  ⟨h.os, h.tape, h.output, by simp [World.setCell]; exact h.size, fun i hi hr => by
    rw [heap_setCell_other _ _ _ _ (by rintro rfl; exact hk.elim (fun hk => by omega) (fun hk => hr hk.symm))]; exact h.block i hi hr⟩
theorem dr {a b : World} {row : Option Nat} (h : a.grownBy b row) : a.grownBy b.drew row := ⟨h.os, h.tape, h.output, h.size, h.block⟩
theorem drN {a b : World} {row : Option Nat} (h : a.grownBy b row) (n : Nat) : a.grownBy (b.drewN n) row := ⟨h.os, h.tape, h.output, h.size, h.block⟩
theorem al {a b : World} {row : Option Nat} (h : a.grownBy b row) (o : Obj) : a.grownBy (b.alloc o) row := h.tr (World.grownBy_alloc b o row)
theorem any {a b : World} (h : a.grownBy b none) (row : Option Nat) : a.grownBy b row := ⟨h.os, h.tape, h.output, h.size, fun i hi _ => h.block i hi (by simp)⟩
theorem below {a b : World} {row : Option Nat} (h : a.grownBy b row) {B : Nat} (hB : B ≤ a.heap.size) (hr : ∀ k, row = some k → B ≤ k) : Below B a b :=
  ⟨h.os, h.tape, h.output, h.size, fun k hk => h.block k (by omega) (fun e => by have := hr k e.symm; omega)⟩
theorem own {a b c : World} {row : Option Nat} {g : Nat} (h : a.grownBy b row) (k : b.grownBy c (some g)) (hg : a.heap.size ≤ g) : a.grownBy c row :=
  ⟨k.os.trans h.os, k.tape.trans h.tape, k.output.trans h.output, Nat.le_trans h.size k.size, fun i hi hr => (k.block i (Nat.lt_of_lt_of_le hi h.size) (by simp; omega)).trans (h.block i hi hr)⟩
theorem of_below {a b : World} (h : Below a.heap.size a b) (row : Option Nat) : a.grownBy b row := ⟨h.os, h.tape, h.output, h.size, fun k hk _ => h.block k hk⟩
end Go.World.grownBy
