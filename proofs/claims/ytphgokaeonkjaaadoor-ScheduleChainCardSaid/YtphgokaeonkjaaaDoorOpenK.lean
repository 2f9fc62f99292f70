/- Slices of keys that come in as arguments. -/
import Derived.Test.YtphgokaeonkjaaaDoorOpenS
import Derived.Test.YtphgokaeonkjaaaDoorKeyLists
namespace Chart
open Go Go.Proofs Go.ChangeShapes Go.WideShapes Go.ChangeAt Go.RowKit

/-- Out of the rows of a list of keys. -/
theorem keys_of_rows {w : World} {b : Nat} : ∀ (n off : Nat), (∀ i, i < n → ∃ k : List (BitVec 8), k.length = 32 ∧ w.rangeAt b (off + i * 32) (k.map B8)) → ∃ ks : List (List (BitVec 8)), ks.length = n ∧ K32 ks ∧ w.rangeAt b off (flatK ks)
  | 0, off, _ => ⟨[], rfl, fun _ h => (by cases h), fun j u h => by simp [flatK] at h⟩
  | n + 1, off, h => by
    obtain ⟨k, hk, hr⟩ := h 0 (by omega)
    obtain ⟨ks, h1, h2, h3⟩ := keys_of_rows n (off + 32) (fun i hi => by
      obtain ⟨k, hk, hr⟩ := h (i + 1) (by omega)
      exact ⟨k, hk, by rw [show off + 32 + i * 32 = off + (i + 1) * 32 by omega]; exact hr⟩)
    refine ⟨k :: ks, by simp [h1], fun x hx => ?_, fun j u hu => ?_⟩
    · rcases List.mem_cons.1 hx with rfl | hx
      · exact hk
      · exact h2 x hx
    · unfold flatK at hu
      rw [List.flatten_cons, List.map_append] at hu
      by_cases hj : j < 32
      · rw [List.getElem?_append_left (by rw [List.length_map, hk]; exact hj)] at hu
        have := hr j u hu
        simpa using this
      · rw [List.getElem?_append_right (by rw [List.length_map, hk]; omega), List.length_map, hk] at hu
        have := h3 (j - 32) u hu
        rwa [show off + 32 + (j - 32) = off + j by omega] at this

section
variable {H : Type} {enc : TypeId × Value → H} {w : World} {base : Nat} {sp : Nat → Bool} {held : Bool}
set_option maxRecDepth 100000 in
/-- A slice of keys that comes in as an argument. -/
theorem open_keys {r : Reach} {b0 : Nat} {v : Value} {d : DataW H} {ps : List MemPlace} (hval : Value.okWide Tryd.prog w r b0 42 v) (hd : DataW.Trod enc Tryd.prog w base sp held 42 v d ps) :
    ∃ ks : List (List (BitVec 8)), KR w v ks := by
  obtain ⟨a, len, cap, rfl⟩ := okWide_slice Tryd.underlying42 hval
  obtain ⟨fuel, hf⟩ := hd
  have c32 : Tryd.prog.cellsOf 23 = 32 := by kernel_rfl
  have c8 : Tryd.prog.cellsOf 5 = 1 := by kernel_rfl
  rcases DataW.trod_slice Tryd.underlying42 hf with ⟨hcs, _⟩ | ⟨x, l, c, elems, rest, n, _, hcs, _, hb0, hl, hm, hlen, hel, _, _⟩
  · simp [Value.cells] at hcs
    obtain ⟨rfl, rfl, rfl⟩ := hcs
    exact ⟨[], fun _ h => (by cases h), .inl ⟨rfl, rfl⟩⟩
  · simp [Value.cells] at hcs
    obtain ⟨rfl, rfl, rfl⟩ := hcs
    obtain ⟨hs, hb⟩ := slice_addr Tryd.underlying42 hval
    obtain ⟨b, off, spot⟩ := x
    obtain rfl : spot = none := hs
    obtain ⟨ks, h1, h2, h3⟩ := keys_of_rows (w := w) (b := b) len off (fun i hi => by
      have h := hel i hi
      obtain ⟨y, hy⟩ : ∃ y, elems[i]? = some y := ⟨_, List.getElem?_eq_getElem (by omega)⟩
      rw [hy, c32] at h
      obtain ⟨cs, hcs, ht⟩ := Option.bind_eq_some_iff.1 h
      obtain ⟨y1, y2⟩ := y
      obtain ⟨xs, m, -, hx, -, -, -⟩ := DataW.trod_array Tryd.underlying23 ht
      have hx1 : y1 = DataW.agg (xs.map (·.1)) := (Prod.mk.inj hx).1
      subst hx1
      obtain ⟨g1, g2, g3⟩ := cells_of_trod Tryd.underlying23 Tryd.underlying5 c8 ht
      obtain ⟨k, hk, rfl⟩ := bytes_of_cells (n := 32) (g2 c32) (fun j hj => by
        obtain ⟨z, e1, e2, hw⟩ := g3 j _ (List.getElem?_eq_getElem (by rw [g1]; exact hj))
        exact ⟨z, e2, hw⟩)
      refine ⟨k, hk, fun j u hu => ?_⟩
      have hj : j < 32 := by have := (List.getElem?_eq_some_iff.1 hu).1; rw [List.length_map, hk] at this; exact this
      have hc := (World.cells?_some hcs).2.2 j hj
      rw [Addr.add_mid, Addr.add_mid] at hc
      rw [hc]; exact hu)
    exact ⟨ks, h2, .inr ⟨b, off, cap, by rw [h1], by rw [h1]; exact hl, hm, h3, hb⟩⟩
end
end Chart
