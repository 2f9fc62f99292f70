/- What the listed variables give the walks; keys that come in as arguments. The door's own heap meets the conditions; bounds of arguments. -/
import Derived.Test.YtphgokaeonkjaaaDoorRows
import Derived.Test.YtphgokaeonkjaaaDoorSane7
import Derived.ProofKit
import Derived.LaidMore
import Derived.OpenShut
import Derived.ShutString
import Derived.ChangeOld
import Derived.Stop.Joined
namespace Chart
open Go Go.Proofs Go.ChangeShapes Go.WideShapes Go.ChangeAt Go.WideMaps Go.WideElems Go.RowKit

theorem own : ownKnob Tryd.prog.godebug = none := by kernel_rfl
theorem laidOut : laidOutB Tryd.prog = true := by kernel_rfl

section
variable {H : Type} {enc : TypeId × Value → H} {P : Program} {w : World} {base : Nat} {sp : Nat → Bool} {held : Bool}
/-- A row of integers that reads as listed: its cells. -/
theorem cells_of_trod {t e : TypeId} {n : Nat} {k : IntKind} (ht : P.underlying t = some (.array n e)) (he : P.underlying e = some (.int k)) (hc : P.cellsOf e = 1) {m : Nat} {cs : List Value} {ds : List (DataW H)} {p : List MemPlace}
    (h : DataW.trod enc P w base sp held m t cs = some (DataW.agg ds, p)) : ds.length = n ∧ (P.cellsOf t = n → cs.length = n) ∧ ∀ (j : Nat) (d : DataW H), ds[j]? = some d → ∃ z, d = DataW.lit (Lit.int k z) ∧ cs[j]? = some (Value.int k z) ∧ (Lit.int k z).wf = true := by
  obtain ⟨xs, m1, -, hx, hlen, hn, hel⟩ := DataW.trod_array ht h
  simp only [Prod.mk.injEq, DataW.agg.injEq] at hx
  obtain ⟨hx, -⟩ := hx
  refine ⟨by rw [hx, List.length_map, hn], fun hq => by rw [hlen, hq], fun j d hd => ?_⟩
  rw [hx, List.getElem?_map] at hd
  cases hj : xs[j]? with
  | none => rw [hj] at hd; cases hd
  | some y =>
    rw [hj] at hd
    have hjn : j < n := by rw [← hn]; exact (List.getElem?_eq_some_iff.1 hj).1
    have h1 := hel j hjn
    rw [hj, hc, Nat.mul_one] at h1
    obtain ⟨z, e1, e2, hw⟩ := DataW.trod_int he h1
    refine ⟨z, ?_, ?_, hw⟩
    · simp at hd; rw [← hd, e2]
    · have h3 := congrArg (fun l => l[0]?) e1
      simpa [List.getElem?_take, List.getElem?_drop] using h3
end

theorem gStart : Tryd.prog.globalNamed "chartroom/digest.start" = some 0 := by kernel_rfl
theorem gNumbers : Tryd.prog.globalNamed "chartroom/digest.numbers" = some 1 := by kernel_rfl
theorem gLarge : Tryd.prog.globalNamed "bytes.ErrTooLarge" = some 3 := by kernel_rfl
theorem tStart : (Tryd.prog.globals[0]?).map (·.type) = some 87 := by kernel_rfl
theorem tNumbers : (Tryd.prog.globals[1]?).map (·.type) = some 122 := by kernel_rfl
theorem tLarge : (Tryd.prog.globals[3]?).map (·.type) = some 79 := by kernel_rfl

theorem numbers_laid : (Go.Proofs.YtphgokaeonkjaaaDoor.Rows.laid_chartroom_digest_numbers : DataW Unit) = DataW.agg (KS.map fun x => DataW.lit (Lit.int .u32 (x.toNat : Int))) := by kernel_rfl
def startL : List (BitVec 32) := [1779033703#32, 3144134277#32, 1013904242#32, 2773480762#32, 1359893119#32, 2600822924#32, 528734635#32, 1541459225#32]
theorem start_laid : (Go.Proofs.YtphgokaeonkjaaaDoor.Rows.laid_chartroom_digest_start : DataW Unit) = DataW.agg (startL.map fun x => DataW.lit (Lit.int .u32 (x.toNat : Int))) := by kernel_rfl
theorem startL_get : ∀ j, j < 8 → startL[j]? = some (St.init.get j) := by
  intro j hj
  match j, hj with
  | 0, _ | 1, _ | 2, _ | 3, _ | 4, _ | 5, _ | 6, _ | 7, _ => rfl

/-- What the condition on the variables gives. -/
theorem sha_of_laid {W : World} (rest : List (String × DataW Unit)) (hpl : (((("chartroom/digest.start", Go.Proofs.YtphgokaeonkjaaaDoor.Rows.laid_chartroom_digest_start) :: ("chartroom/digest.numbers", Go.Proofs.YtphgokaeonkjaaaDoor.Rows.laid_chartroom_digest_numbers) :: ("bytes.ErrTooLarge", Go.Proofs.YtphgokaeonkjaaaDoor.Rows.laid_bytes_ErrTooLarge) :: rest : List (String × DataW Unit))).all fun x => x.2.handleName?.isNone) = true)
    (h : laidMetH Tryd.prog (("chartroom/digest.start", Go.Proofs.YtphgokaeonkjaaaDoor.Rows.laid_chartroom_digest_start) :: ("chartroom/digest.numbers", Go.Proofs.YtphgokaeonkjaaaDoor.Rows.laid_chartroom_digest_numbers) :: ("bytes.ErrTooLarge", Go.Proofs.YtphgokaeonkjaaaDoor.Rows.laid_bytes_ErrTooLarge) :: rest) W) : ShaEnv W := by
  rw [MakeChecks.laidMetH_plain _ _ _ hpl] at h
  obtain ⟨ps, ⟨g0, t0, cs0, f0, p0, q0, hg0, ht0, hv0, hd0, ⟨g1, t1, cs1, f1, p1, q1, hg1, ht1, hv1, hd1, ⟨g2, t2, cs2, f2, p2, q2, hg2, ht2, hv2, hd2, _, _⟩, _⟩, _⟩, _, _⟩ := h
  obtain rfl := Option.some.inj (gStart.symm.trans hg0)
  obtain rfl := Option.some.inj (gNumbers.symm.trans hg1)
  obtain rfl := Option.some.inj (gLarge.symm.trans hg2)
  obtain rfl := Option.some.inj (tStart.symm.trans ht0)
  obtain rfl := Option.some.inj (tNumbers.symm.trans ht1)
  have c32 : Tryd.prog.cellsOf 86 = 1 := by kernel_rfl
  rw [start_laid] at hd0
  rw [numbers_laid] at hd1
  have r0 := cells_of_trod Tryd.underlying87 Tryd.underlying86 c32 hd0
  have r1 := cells_of_trod Tryd.underlying122 Tryd.underlying86 c32 hd1
  refine ⟨fun j x hx => ?_, fun j hj => ?_, ?_⟩
  · obtain ⟨z, e1, e2, _⟩ := r1.2.2 j _ (by rw [List.getElem?_map, hx]; rfl)
    rw [World.var?_cell hg1 hv1 j]
    simp only [DataW.lit.injEq, Lit.int.injEq, true_and] at e1
    show cs1[j]? = some (Value.int .u32 (x.toNat : Int))
    rw [e1]
    simpa using e2
  · obtain ⟨z, e1, e2, _⟩ := r0.2.2 j _ (by rw [List.getElem?_map, startL_get j hj]; rfl)
    rw [World.var?_cell hg0 hv0 j]
    simp only [DataW.lit.injEq, Lit.int.injEq, true_and] at e1
    show cs0[j]? = some (Value.int .u32 ((St.init.get j).toNat : Int))
    rw [e1]
    simpa using e2
  · have hv := hv2
    simp only [World.var?, hg2, Option.bind_some] at hv
    have hlt : 3 < W.heap.size := by
      by_cases hq : 3 < W.heap.size
      · exact hq
      · rw [Array.getElem?_eq_none (by omega)] at hv; cases hv
    omega

section
variable {H : Type} {enc : TypeId × Value → H} {w : World} {base : Nat} {sp : Nat → Bool} {held : Bool}
theorem bytes_of_cells {n : Nat} {cs : List Value} (hn : cs.length = n) (h : ∀ j, j < n → ∃ z, cs[j]? = some (Value.int .u8 z) ∧ (Lit.int .u8 z).wf = true) : ∃ l : List (BitVec 8), l.length = n ∧ cs = l.map B8 := by
  induction n generalizing cs with
  | zero => exact ⟨[], rfl, List.eq_nil_of_length_eq_zero hn⟩
  | succ n ih =>
    cases cs with
    | nil => simp at hn
    | cons c cs =>
      obtain ⟨z, hz, hw⟩ := h 0 (by omega)
      obtain ⟨l, hl, rfl⟩ := ih (cs := cs) (by simpa using hn) (fun j hj => by simpa using h (j + 1) (by omega))
      simp at hz
      subst hz
      have hr : 0 ≤ z ∧ z < 256 := by
        simp [Lit.wf, IntKind.min, IntKind.max, IntKind.bits, IntKind.signed] at hw
        omega
      refine ⟨BitVec.ofInt 8 z :: l, by simp [hl], ?_⟩
      rw [List.map_cons]
      congr 1
      show Value.int .u8 z = Value.int .u8 (U8 (BitVec.ofInt 8 z))
      rw [← U8_of hr.1 hr.2]
set_option maxRecDepth 100000 in
/-- A row of 32 bytes that comes in as an argument. -/
theorem open_row32 {t : TypeId} (ht : Tryd.prog.underlying t = some (.array 32 5)) (hc : Tryd.prog.cellsOf t = 32) {r : Reach} {b0 : Nat} {v : Value} {d : DataW H} {ps : List MemPlace} (hval : Value.okWide Tryd.prog w r b0 t v) (hd : DataW.Trod enc Tryd.prog w base sp held t v d ps) :
    ∃ l : List (BitVec 8), l.length = 32 ∧ v = .agg (dCells l) := by
  unfold Value.okWide at hval
  rw [ht] at hval
  obtain ⟨cs, rfl, hsz, -⟩ := hval
  obtain ⟨fuel, hf⟩ := hd
  have c8 : Tryd.prog.cellsOf 5 = 1 := by kernel_rfl
  obtain ⟨xs, m, -, hx, -, -, -⟩ := DataW.trod_array ht hf
  have hx1 : d = DataW.agg (xs.map (·.1)) := (Prod.mk.inj hx).1
  subst hx1
  obtain ⟨h1, h2, h3⟩ := cells_of_trod ht Tryd.underlying5 c8 hf
  obtain ⟨l, hl, he⟩ := bytes_of_cells (n := 32) (h2 hc) (fun j hj => by
    obtain ⟨z, e1, e2, hw⟩ := h3 j _ (List.getElem?_eq_getElem (by rw [h1]; exact hj))
    exact ⟨z, e2, hw⟩)
  refine ⟨l, hl, ?_⟩
  have h4 : cs.toList = l.map B8 := he
  rw [dCells, ← h4]
end
set_option maxRecDepth 100000 in
theorem open_key {H : Type} {enc : TypeId × Value → H} {w : World} {base : Nat} {sp : Nat → Bool} {held : Bool} {r : Reach} {b0 : Nat} {v : Value} {d : DataW H} {ps : List MemPlace} (hval : Value.okWide Tryd.prog w r b0 23 v) (hd : DataW.Trod enc Tryd.prog w base sp held 23 v d ps) :
    ∃ l : List (BitVec 8), l.length = 32 ∧ v = .agg (dCells l) := open_row32 Tryd.underlying23 (by kernel_rfl) hval hd
set_option maxRecDepth 100000 in
theorem open_digest {H : Type} {enc : TypeId × Value → H} {w : World} {base : Nat} {sp : Nat → Bool} {held : Bool} {r : Reach} {b0 : Nat} {v : Value} {d : DataW H} {ps : List MemPlace} (hval : Value.okWide Tryd.prog w r b0 38 v) (hd : DataW.Trod enc Tryd.prog w base sp held 38 v d ps) :
    ∃ l : List (BitVec 8), l.length = 32 ∧ v = .agg (dCells l) := open_row32 Tryd.underlying38 (by kernel_rfl) hval hd
end Chart

namespace Chart
open Go Go.Proofs Go.ChangeShapes Go.WideShapes Go.ChangeAt Go.RowKit

def laid7 : List (String × DataW Unit) := [("chartroom/digest.start", Go.Proofs.YtphgokaeonkjaaaDoor.Rows.laid_chartroom_digest_start), ("chartroom/digest.numbers", Go.Proofs.YtphgokaeonkjaaaDoor.Rows.laid_chartroom_digest_numbers), ("bytes.ErrTooLarge", Go.Proofs.YtphgokaeonkjaaaDoor.Rows.laid_bytes_ErrTooLarge)]
set_option maxRecDepth 100000 in
theorem laid7_door (os : Os) (args : Array Value) : laidMetH Tryd.prog laid7 ((World.doorLaid Tryd.prog 43 os).forCall (fun _ _ => 0) ⟨#[], args, []⟩).memory :=
  laidMetH_of_parts3 (fuel := 8) (laidMet_of_run' 8 (by kernel_rfl) (by kernel_rfl)) (by kernel_rfl) (by kernel_rfl)

theorem wf_le {n : Int} (h : (Lit.int .i64 n).wf = true) : n ≤ 9223372036854775807 := by
  simp [Lit.wf, IntKind.min, IntKind.max, IntKind.bits, IntKind.signed] at h; omega
theorem wf_ge {n : Int} (h : (Lit.int .i64 n).wf = true) : -9223372036854775808 ≤ n := by
  simp [Lit.wf, IntKind.min, IntKind.max, IntKind.bits, IntKind.signed] at h; omega
theorem wf_u8 {n : Int} (h : (Lit.int .u8 n).wf = true) : 0 ≤ n ∧ n < 256 := by
  simp [Lit.wf, IntKind.min, IntKind.max, IntKind.bits, IntKind.signed] at h; omega
theorem wf_uint {n : Int} (h : (Lit.int .u64 n).wf = true) : 0 ≤ n ∧ n < 18446744073709551616 := by
  simp [Lit.wf, IntKind.min, IntKind.max, IntKind.bits, IntKind.signed] at h; omega
end Chart
