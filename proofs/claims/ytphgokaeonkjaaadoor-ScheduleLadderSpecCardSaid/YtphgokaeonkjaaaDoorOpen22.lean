/- The listed variables of chapter 22: the names of the purposes too. -/
import Derived.Test.YtphgokaeonkjaaaDoorOpen
import Derived.Test.YtphgokaeonkjaaaDoorSched
namespace Chart
open Go Go.Proofs Go.ChangeShapes Go.WideShapes Go.ChangeAt Go.WideMaps Go.WideElems Go.RowKit

def laid22 : List (String × DataW Unit) := [("chartroom/digest.start", Go.Proofs.YtphgokaeonkjaaaDoor.Rows.laid_chartroom_digest_start), ("chartroom/digest.numbers", Go.Proofs.YtphgokaeonkjaaaDoor.Rows.laid_chartroom_digest_numbers), ("bytes.ErrTooLarge", Go.Proofs.YtphgokaeonkjaaaDoor.Rows.laid_bytes_ErrTooLarge), ("chartroom/schedule.labels", Go.Proofs.YtphgokaeonkjaaaDoor.Rows.laid_chartroom_schedule_labels)]
set_option maxRecDepth 100000 in
theorem laid22_door (os : Os) (args : Array Value) : laidMetH Tryd.prog laid22 ((World.doorLaid Tryd.prog 43 os).forCall (fun _ _ => 0) ⟨#[], args, []⟩).memory :=
  laidMetH_of_parts3 (fuel := 8) (laidMet_of_run' 8 (by kernel_rfl) (by kernel_rfl)) (by kernel_rfl) (by kernel_rfl)

section
variable {H : Type} {enc : TypeId × Value → H} {P : Program} {w : World} {base : Nat} {sp : Nat → Bool} {held : Bool}
/-- A row of strings that reads as listed: its cells. -/
theorem strs_of_trod {t e : TypeId} {n : Nat} (ht : P.underlying t = some (.array n e)) (he : P.underlying e = some .string) (hc : P.cellsOf e = 1) {m : Nat} {cs : List Value} {ds : List (DataW H)} {p : List MemPlace}
    (h : DataW.trod enc P w base sp held m t cs = some (.agg ds, p)) : ∀ (j : Nat) (d : DataW H), ds[j]? = some d → ∃ s : ByteArray, d = DataW.lit (Lit.string s.data.toList) ∧ cs[j]? = some (Value.string s) := by
  obtain ⟨xs, m1, -, hx, hlen, hn, hel⟩ := DataW.trod_array ht h
  simp only [Prod.mk.injEq, DataW.agg.injEq] at hx
  obtain ⟨hx, -⟩ := hx
  intro j d hd
  rw [hx, List.getElem?_map] at hd
  cases hj : xs[j]? with
  | none => rw [hj] at hd; cases hd
  | some y =>
    rw [hj] at hd
    have hjn : j < n := by rw [← hn]; exact (List.getElem?_eq_some_iff.1 hj).1
    have h1 := hel j hjn
    rw [hj, hc, Nat.mul_one] at h1
    obtain ⟨s, e1, e2, -⟩ := DataW.trod_string he h1
    refine ⟨s, ?_, ?_⟩
    · simp at hd
      rw [← hd, e2]
    · have h3 := congrArg (fun l => l[0]?) e1
      simpa [List.getElem?_take, List.getElem?_drop] using h3
end

theorem gLabels : Tryd.prog.globalNamed "chartroom/schedule.labels" = some 2 := by kernel_rfl
theorem tLabels : (Tryd.prog.globals[2]?).map (·.type) = some 130 := by kernel_rfl
theorem bytes_eq {s s' : ByteArray} (h : s.data.toList = s'.data.toList) : s = s' := by
  obtain ⟨⟨x⟩⟩ := s
  obtain ⟨⟨y⟩⟩ := s'
  simp at h
  rw [h]
/-- What the condition gives of the names of the purposes. -/
theorem labels_of_laid {W : World} (h : laidMetH Tryd.prog laid22 W) : LabEnv W := by
  unfold laid22 at h
  rw [MakeChecks.laidMetH_plain _ _ _ (by kernel_rfl)] at h
  obtain ⟨ps, ⟨g0, t0, cs0, f0, p0, q0, hg0, ht0, hv0, hd0, ⟨g1, t1, cs1, f1, p1, q1, hg1, ht1, hv1, hd1, ⟨g2, t2, cs2, f2, p2, q2, hg2, ht2, hv2, hd2, ⟨g3, t3, cs3, f3, p3, q3, hg3, ht3, hv3, hd3, _, _⟩, _⟩, _⟩, _⟩, _, _⟩ := h
  obtain rfl := Option.some.inj (gLabels.symm.trans hg3)
  obtain rfl := Option.some.inj (tLabels.symm.trans ht3)
  have c9 : Tryd.prog.cellsOf 9 = 1 := by kernel_rfl
  have r := strs_of_trod (ds := [DataW.lit (Lit.string bInit.data.toList), DataW.lit (Lit.string bCommit.data.toList), DataW.lit (Lit.string bChild.data.toList)]) Tryd.underlying130 Tryd.underlying9 c9 hd3
  have get : ∀ (j : Nat) (s : ByteArray), ([DataW.lit (Lit.string bInit.data.toList), DataW.lit (Lit.string bCommit.data.toList), DataW.lit (Lit.string bChild.data.toList)] : List (DataW Unit))[j]? = some (DataW.lit (Lit.string s.data.toList)) → W.cell? ⟨2, j, none⟩ = some (.string s) := fun j s hj => by
    obtain ⟨s', e1, e2⟩ := r j _ hj
    simp only [DataW.lit.injEq, Lit.string.injEq] at e1
    rw [World.var?_cell hg3 hv3 j, bytes_eq e1]
    simpa using e2
  refine ⟨get 0 bInit rfl, get 1 bCommit rfl, get 2 bChild rfl, ?_⟩
  have hv := hv3
  simp only [World.var?, hg3, Option.bind_some] at hv
  by_cases hq : 2 < W.heap.size
  · exact hq
  · rw [Array.getElem?_eq_none (by omega)] at hv; cases hv
end Chart
