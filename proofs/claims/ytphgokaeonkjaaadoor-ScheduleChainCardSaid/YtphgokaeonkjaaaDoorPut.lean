/- digest.put writes a number's bytes, the most significant one first. -/
import Derived.Test.YtphgokaeonkjaaaDoorAbsorb
namespace Chart
open Go Go.RowKit Go.Proofs

/-- The last n bytes of a number, the most significant one first. -/
def beN (n : Nat) (x : BitVec 64) : List (BitVec 8) := (List.range n).map fun j => (x >>> (8 * (n - 1 - j))).setWidth 8
theorem length_beN (n : Nat) (x : BitVec 64) : (beN n x).length = n := by simp [beN]
theorem beN_getD (n : Nat) (x : BitVec 64) (j : Nat) (h : j < n) : (beN n x)[j]? = some ((x >>> (8 * (n - 1 - j))).setWidth 8) := by simp [beN, h]
theorem beN4 (x : BitVec 32) : beN 4 (x.setWidth 64) = be32 x := by
  unfold beN be32
  apply List.map_congr_left
  intro j _
  apply BitVec.eq_of_toNat_eq
  simp only [BitVec.toNat_setWidth, BitVec.toNat_ushiftRight]
  have : x.toNat % 2 ^ 64 = x.toNat := Nat.mod_eq_of_lt (Nat.lt_trans x.isLt (by decide))
  rw [this]
theorem beN8 (x : BitVec 64) : beN 8 x = be64 x := rfl

/-- A row of cells with a piece replaced. -/
def splice (cur : Array Value) (off : Nat) (xs : List Value) : Array Value := (cur.toList.take off ++ xs ++ cur.toList.drop (off + xs.length)).toArray
theorem splice_get (cur : Array Value) (off : Nat) (xs : List Value) (h : off + xs.length ≤ cur.size) (j : Nat) :
    (splice cur off xs)[j]? = if j < off then cur[j]? else if j < off + xs.length then xs[j - off]? else cur[j]? := by
  unfold splice
  rw [List.getElem?_toArray]
  have hl : (cur.toList.take off).length = off := by simp; omega
  split
  · rw [List.append_assoc, List.getElem?_append_left (by omega), List.getElem?_take_of_lt (by omega)]; simp
  · split
    · rw [List.append_assoc, List.getElem?_append_right (by omega), hl, List.getElem?_append_left (by omega)]
    · rw [List.append_assoc, List.getElem?_append_right (by omega), hl, List.getElem?_append_right (by omega), List.getElem?_drop, Array.getElem?_toList]
      congr 1; omega
theorem splice_size (cur : Array Value) (off : Nat) (xs : List Value) (h : off + xs.length ≤ cur.size) : (splice cur off xs).size = cur.size := by
  unfold splice; simp; omega
theorem eq_splice (cur cells : Array Value) (off : Nat) (xs : List Value) (h : off + xs.length ≤ cur.size)
    (hc : ∀ j : Nat, cells[j]? = if j < off then cur[j]? else if j < off + xs.length then xs[j - off]? else cur[j]?) : cells = splice cur off xs := by
  apply Array.ext_getElem?
  intro j
  rw [hc, splice_get _ _ _ h]

set_option maxHeartbeats 1000000 in
theorem put_any (b off len cap : Nat) (cur : Array Value) (t : TypeId) (x : BitVec 64) (w : World) (hb : w.heap[b]? = some (.cells cur t (0, 0)))
    (hlen : len ≤ 8) (hfit : off + len ≤ cur.size) :
    Calls Tryd.prog 64 #[.slice (some ⟨b, off, none⟩) len cap, B64 x] w fun e w' =>
      e = .returned (.tuple #[]) ∧ w.grownBy w' (some b) ∧ w'.heap[b]? = some (.cells (splice cur off ((beN len x).map B8)) t (0, 0)) := by
  go_enter Tryd.func64, Tryd.ntmps64
  go_wp2
  go_loopw [7] (fun t' wr => ∃ k : Nat, k ≤ len ∧ t' = .int .i64 k ∧ w.grownBy wr (some b) ∧ ∃ cells : Array Value, wr.heap[b]? = some (.cells cells t (0, 0)) ∧
      ∀ j : Nat, cells[j]? = if off + len - k ≤ j ∧ j < off + len then ((beN len x).map B8)[j - off]? else cur[j]?) (fun t' _ => len - (intOf t').toNat)
  case atStart => exact ⟨0, by omega, rfl, .rf _ _, cur, hb, fun j => by rw [if_neg (by omega)]⟩
  case round =>
    obtain ⟨k, hk, rfl, hg, cells, hh, hcells⟩ := hrel
    by_cases hlt : k < len
    · have hc0 : cells[off + (len - 1 - k)]? = cur[off + (len - 1 - k)]? := by rw [hcells, if_neg (by omega)]
      obtain ⟨v, hv⟩ : ∃ v, cur[off + (len - 1 - k)]? = some v := ⟨cur[off + (len - 1 - k)]'(by omega), by simp⟩
      have hc : wr.cell? ⟨b, off + (len - 1 - k), none⟩ = some v := by rw [cell_of_row wr b _ _ _ _ hh, hc0, hv]
      have hf : wr.frozen? ⟨b, off + (len - 1 - k), none⟩ = false := frozen_of_row wr b _ _ _ hh
      clear hc0 hv
      have HC := Lib.hid hcells
      clear hcells
      have i8 : (0 : Int) ≤ 8 * (k : Int) := by omega
      go_wp2_with fail
      go_roundw
      case rel =>
        refine ⟨k + 1, by omega, by go_num, hg.set _ _ _ (.inr rfl), _, heap_setCell_same _ _ _ _ _ _ hh, fun j => ?_⟩
        have hsz : off + (len - 1 - k) < cells.size := by
          have := HC.out (off + (len - 1 - k))
          rw [if_neg (by omega), Array.getElem?_eq_getElem (show off + (len - 1 - k) < cur.size by omega)] at this
          exact (Array.getElem?_eq_some_iff.1 this).1
        rw [Array.getElem?_setIfInBounds]
        by_cases hj : off + (len - 1 - k) = j
        · subst hj
          rw [if_pos rfl, if_pos hsz, if_pos (by omega), show off + (len - 1 - k) - off = len - 1 - k by omega, List.getElem?_map, beN_getD _ _ _ (by omega)]
          simp [show len - 1 - (len - 1 - k) = k by omega]
        · rw [if_neg hj, HC.out]
          by_cases h1 : off + len - k ≤ j ∧ j < off + len
          · rw [if_pos h1, if_pos (by omega)]
          · rw [if_neg h1, if_neg (by omega)]
      case measure => simp [intOf]; omega
    · obtain rfl : k = len := by omega
      go_wp2_with fail
      go_end0
      refine ⟨rfl, hg, ?_⟩
      rw [hh, eq_splice cur cells off ((beN k x).map B8) (by simpa [length_beN] using hfit) (fun j => ?_)]
      rw [hcells]
      simp only [List.length_map, length_beN]
      by_cases h1 : j < off
      · rw [if_neg (by omega), if_pos h1]
      · rw [if_neg h1]
        by_cases h2 : j < off + k
        · rw [if_pos (by omega), if_pos h2]
        · rw [if_neg (by omega), if_neg h2]

theorem splice_map (X Y : List (BitVec 8)) (off : Nat) : splice (X.map B8).toArray off (Y.map B8) = ((X.take off ++ Y ++ X.drop (off + Y.length)).map B8).toArray := by
  simp [splice, List.map_take, List.map_drop]
theorem set_map (X : List (BitVec 8)) (i : Nat) (y : BitVec 8) : (X.map B8).toArray.setIfInBounds i (B8 y) = ((X.set i y).map B8).toArray := by
  rw [List.setIfInBounds_toArray, List.map_set]
theorem BytesAt.of_row {w : World} {b : Nat} {X : List (BitVec 8)} {t : TypeId} {fr : Nat × Nat} (h : w.heap[b]? = some (.cells (X.map B8).toArray t fr)) : BytesAt w b 0 X := fun j x hx => by
  rw [cell_of_row w b _ _ _ _ h, Nat.zero_add]; simp [hx]
end Chart
