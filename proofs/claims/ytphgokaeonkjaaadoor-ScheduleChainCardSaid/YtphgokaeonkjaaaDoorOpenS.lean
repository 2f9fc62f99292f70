/- Slices that come in as arguments. -/
import Derived.Test.YtphgokaeonkjaaaDoorOpen
namespace Chart
open Go Go.Proofs Go.ChangeShapes Go.WideShapes Go.ChangeAt Go.RowKit

theorem shape_lt {w : World} {b : Nat} {x : TypeId × Nat} (h : w.shape? b = some x) : b < w.heap.size := by
  by_cases hb : b < w.heap.size
  · exact hb
  · unfold World.shape? at h
    rw [Array.getElem?_eq_none (by omega)] at h
    simp at h

section
variable {H : Type} {enc : TypeId × Value → H} {w : World} {base : Nat} {sp : Nat → Bool} {held : Bool}
set_option maxRecDepth 100000 in
theorem slice_addr {t e : TypeId} {r : Reach} {b0 : Nat} (ht : Tryd.prog.underlying t = some (.slice e)) {x : Addr} {len cap : Nat} (hval : Value.okWide Tryd.prog w r b0 t (.slice (some x) len cap)) : x.spot = none ∧ x.block < w.heap.size := by
  unfold Value.okWide at hval
  rw [ht] at hval
  simp only [Cell.okWide, ht, Cell.ok] at hval
  obtain ⟨-, -, -, h1, row, cells, h2, -⟩ := hval
  exact ⟨h1, shape_lt h2⟩

set_option maxRecDepth 100000 in
/-- A slice of bytes that comes in as an argument. -/
theorem open_bytes {r : Reach} {b0 : Nat} {v : Value} {d : DataW H} {ps : List MemPlace} (hval : Value.okWide Tryd.prog w r b0 32 v) (hd : DataW.Trod enc Tryd.prog w base sp held 32 v d ps) :
    ∃ l : List (BitVec 8), BS w v l := by
  obtain ⟨a, len, cap, rfl⟩ := okWide_slice Tryd.underlying32 hval
  obtain ⟨fuel, hf⟩ := hd
  rcases open_ints Tryd.underlying32 Tryd.underlying5 (by kernel_rfl) hf with ⟨hcs, _⟩ | ⟨x, l, c, zs, hcs, _, hl, hm, hz, _, hcell, hwz⟩
  · simp [Value.cells] at hcs
    obtain ⟨rfl, rfl, rfl⟩ := hcs
    exact ⟨[], .inl ⟨rfl, rfl⟩⟩
  · simp [Value.cells] at hcs
    obtain ⟨rfl, rfl, rfl⟩ := hcs
    obtain ⟨hs, hb⟩ := slice_addr Tryd.underlying32 hval
    obtain ⟨b, off, spot⟩ := x
    obtain rfl : spot = none := hs
    have hzl : len ≤ zs.length := by rw [hz]; split <;> omega
    have hln : ((zs.take len).map (BitVec.ofInt 8)).length = len := by rw [List.length_map, List.length_take]; omega
    refine ⟨(zs.take len).map (BitVec.ofInt 8), .inr ⟨b, off, cap, by rw [hln], by rw [hln]; exact hl, hm, fun j y hy => ?_, hb⟩⟩
    rw [List.getElem?_map] at hy
    cases hq : (zs.take len)[j]? with
    | none => rw [hq] at hy; cases hy
    | some z =>
      rw [hq] at hy
      have hj : j < (zs.take len).length := (List.getElem?_eq_some_iff.1 hq).1
      have hjz : j < zs.length := by rw [List.length_take] at hj; omega
      have hzz : zs[j]? = some z := by rw [← hq, List.getElem?_take, if_pos (by rw [List.length_take] at hj; omega)]
      have h1 := hcell j hjz
      have hgd : zs.getD j 0 = z := by rw [List.getD_eq_getElem?_getD, hzz]; rfl
      rw [hgd, Addr.add_mid] at h1
      have hw := hwz z (List.mem_of_getElem? hzz)
      have hr : 0 ≤ z ∧ z < 256 := by
        simp [Lit.wf, IntKind.min, IntKind.max, IntKind.bits, IntKind.signed] at hw
        omega
      cases hy
      rw [h1, B8, ← U8_of hr.1 hr.2]

set_option maxRecDepth 100000 in
/-- A slice of ints that comes in as an argument. -/
theorem open_ns {r : Reach} {b0 : Nat} {v : Value} {d : DataW H} {ps : List MemPlace} (hval : Value.okWide Tryd.prog w r b0 33 v) (hd : DataW.Trod enc Tryd.prog w base sp held 33 v d ps) :
    ∃ ns : List Int, IS w v ns ∧ ∀ n ∈ ns, ok64 n := by
  obtain ⟨a, len, cap, rfl⟩ := okWide_slice Tryd.underlying33 hval
  obtain ⟨fuel, hf⟩ := hd
  rcases open_ints Tryd.underlying33 Tryd.underlying3 (by kernel_rfl) hf with ⟨hcs, _⟩ | ⟨x, l, c, zs, hcs, _, hl, hm, hz, _, hcell, hwz⟩
  · simp [Value.cells] at hcs
    obtain ⟨rfl, rfl, rfl⟩ := hcs
    exact ⟨[], .inl ⟨rfl, rfl⟩, by simp⟩
  · simp [Value.cells] at hcs
    obtain ⟨rfl, rfl, rfl⟩ := hcs
    obtain ⟨hs, hb⟩ := slice_addr Tryd.underlying33 hval
    obtain ⟨b, off, spot⟩ := x
    obtain rfl : spot = none := hs
    have hzl : len ≤ zs.length := by rw [hz]; split <;> omega
    have hln : (zs.take len).length = len := by rw [List.length_take]; omega
    refine ⟨zs.take len, .inr ⟨b, off, cap, by rw [hln], hb, fun j z hq => ?_⟩, fun n hn => ?_⟩
    · have hj : j < (zs.take len).length := (List.getElem?_eq_some_iff.1 hq).1
      have hjz : j < zs.length := by rw [List.length_take] at hj; omega
      have hzz : zs[j]? = some z := by rw [← hq, List.getElem?_take, if_pos (by rw [List.length_take] at hj; omega)]
      have h1 := hcell j hjz
      have hgd : zs.getD j 0 = z := by rw [List.getD_eq_getElem?_getD, hzz]; rfl
      rw [hgd, Addr.add_mid] at h1
      exact h1
    · have hw := hwz n (List.mem_of_mem_take hn)
      have h1 := wf_le hw
      have h2 := wf_ge hw
      unfold ok64
      omega
end
end Chart
