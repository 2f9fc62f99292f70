/- The reference's rest of a digest. -/
import Derived.Test.YtphgokaeonkjaaaDoorRefProd
namespace Chart
open Go Go.RowKit Go.Proofs

/-- The number that bytes spell, modulo m, byte by byte. -/
def restN (m : Nat) : List (BitVec 8) → Nat → Nat
  | [], n => n
  | x :: l, n => restN m l ((256 * n % m + x.toNat) % m)
theorem restN_append (m : Nat) : ∀ (l : List (BitVec 8)) (x : BitVec 8) (n : Nat), restN m (l ++ [x]) n = (256 * restN m l n % m + x.toNat) % m
  | [], _, _ => rfl
  | _ :: l, x, n => by rw [List.cons_append, restN, restN_append m l x]; rfl
theorem restN_lt (m : Nat) (hm : 0 < m) : ∀ (l : List (BitVec 8)) (n : Nat), n < m → restN m l n < m
  | [], _, h => h
  | _ :: l, _, _ => restN_lt m hm l _ (Nat.mod_lt _ hm)

set_option maxHeartbeats 2000000 in
set_option maxRecDepth 100000 in
theorem refrest_any (l : List (BitVec 8)) (m : Nat) (w : World) (hl : l.length = 32) (hm0 : 256 < m) (hm : m < 2 ^ 62) :
    Calls Tryd.prog 79 #[.agg (dCells l), .int .i64 m] w fun e w' => e = .returned (.int .i64 (restN m l 0)) ∧ Below w.heap.size w w' := by
  have h62 : m < 4611686018427387904 := hm
  obtain ⟨B, hB⟩ : ∃ B, w.heap.size = B := ⟨_, rfl⟩
  rw [hB]
  have hb1 : Below B w (w.alloc (.cells (dCells l) 38)) := (Below.refl B w).alloc (by omega) _
  have hr1 : (w.alloc (.cells (dCells l) 38)).heap[B]? = some (.cells (dCells l) 38 (0, 0)) := by rw [← hB]; exact heap_alloc_new w _
  have HD := Lib.hid (size_dCells l hl)
  go_enter Tryd.func79, Tryd.ntmps79
  go_wp2_with fail
  generalize w.alloc (.cells (dCells l) 38) = w1 at *
  go_loopw [5, 6] (fun x t wr => ∃ k : Nat, k ≤ 32 ∧ t = .int .i64 k ∧ x = .int .i64 (restN m (l.take k) 0) ∧ Below (B + 1) w1 wr) (fun _ t _ => 32 - (intOf t).toNat)
  case atStart => exact ⟨0, by omega, rfl, rfl, Below.refl _ _⟩
  case round =>
    obtain ⟨k, hk, rfl, rfl, hg⟩ := hrel
    by_cases hlt : k < 32
    · obtain ⟨x, hx⟩ : ∃ x, l[k]? = some x := ⟨l[k]'(by omega), by simp [hl, hlt]⟩
      have hrow := (hg.block B (by omega)).trans hr1
      have hc : wr.cell? ⟨B, k, none⟩ = some (B8 x) := by rw [cell_of_row wr B k _ _ _ hrow]; simp [dCells, hx]
      have hn : restN m (l.take (k + 1)) 0 = (256 * restN m (l.take k) 0 % m + x.toNat) % m := by rw [List.take_add_one, hx]; exact restN_append m _ _ _
      have hlt2 := restN_lt m (by omega) (l.take k) 0 (by omega)
      have HN := Lib.hid hn
      clear hn
      generalize restN m (l.take k) 0 = q at *
      have hp := fun w' => refprod_any 256 q m w' hm0 (by omega) hm
      have hq : 256 * q % m < m := Nat.mod_lt _ (by omega)
      obtain ⟨z, hz⟩ : ∃ z, 256 * q % m = z := ⟨_, rfl⟩
      rw [hz] at hp hq HN
      have hxl : x.toNat < 256 := x.isLt
      have hc' : wr.cell? ⟨B, k, none⟩ = some (.int .u8 (x.toNat : Int)) := hc
      clear hz hc
      go_wp2_with fail
      go_quiet ((go_at_call 106; exact Calls.quiet_of_same (hp _)))
      go_wp2
      go_roundw
      case rel => exact ⟨k + 1, by omega, by go_num, by rw [HN.out]; go_num, hg.trans ⟨rfl, rfl, rfl, Nat.le_refl _, fun _ _ => rfl⟩⟩
      case measure => simp [intOf]; omega
    · obtain rfl : k = 32 := by omega
      rw [List.take_of_length_le (by omega)]
      go_wp2
      go_ret
      exact ⟨rfl, hb1.trans (hg.mono (Nat.le_succ _))⟩
end Chart
