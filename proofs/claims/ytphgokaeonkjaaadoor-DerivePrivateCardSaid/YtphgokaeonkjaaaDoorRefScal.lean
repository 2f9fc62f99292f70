/- The reference's product modulo m. The reference's rest of a digest. The reference's scalar of bytes. -/
import Derived.Test.YtphgokaeonkjaaaDoorRefTagged
namespace Chart
open Go Go.RowKit Go.Proofs

set_option maxHeartbeats 2000000 in
set_option maxRecDepth 100000 in
theorem refadd_any (a b m : Nat) (w : World) (ha : a < m) (hb : b < m) (hm : m < 2 ^ 62) :
    Calls Tryd.prog 119 #[.int .i64 a, .int .i64 b, .int .i64 m] w fun e w' => e = .returned (.int .i64 ((a + b) % m : Nat)) ∧ w' = w := by
  have h62 : m < 4611686018427387904 := hm
  obtain ⟨r, hr⟩ : ∃ r, (a + b) % m = r := ⟨_, rfl⟩
  rw [hr]
  by_cases h : m ≤ a + b
  · have e1 : r = a + b - m := by rw [← hr, Nat.mod_eq_sub_mod h, Nat.mod_eq_of_lt (by omega)]
    have hc : (m : Int) ≤ (a : Int) + b := by omega
    have e2 : (a : Int) + b - m = ((a + b - m : Nat) : Int) := by omega
    have E1 := Lib.hid e1; have E2 := Lib.hid e2
    clear e1 e2 hr
    go_enter Tryd.func119, Tryd.ntmps119
    go_wp2
    go_ret
    refine ⟨?_, rfl⟩
    rw [E1.out, ← E2.out]; rfl
  · have e1 : r = a + b := by rw [← hr]; exact Nat.mod_eq_of_lt (by omega)
    have hc : ¬ ((m : Int) ≤ (a : Int) + b) := by omega
    have E1 := Lib.hid e1
    clear e1 hr
    go_enter Tryd.func119, Tryd.ntmps119
    go_wp2
    go_ret
    refine ⟨?_, rfl⟩
    rw [E1.out, Int.natCast_add]; rfl

theorem prod_even (a b c m : Nat) (h : b % 2 = 0) : (c + (a + a) % m * (b / 2)) % m = (c + a * b) % m := by
  have hb : b = 2 * (b / 2) := by omega
  have e : a * b = (a + a) * (b / 2) := by conv => lhs; rw [hb]
                                           rw [← Nat.mul_assoc, Nat.mul_two]
  rw [e, Nat.add_mod, Nat.mod_mul_mod, ← Nat.add_mod]
theorem prod_odd (a b c m : Nat) (h : b % 2 = 1) : ((c + a) % m + (a + a) % m * (b / 2)) % m = (c + a * b) % m := by
  have hb : b = 2 * (b / 2) + 1 := by omega
  have e : a * b = a + (a + a) * (b / 2) := by conv => lhs; rw [hb]
                                               rw [Nat.mul_add, ← Nat.mul_assoc, Nat.mul_two, Nat.mul_one, Nat.add_comm]
  rw [e, ← Nat.add_assoc, Nat.add_mod, Nat.mod_mod, Nat.mod_mul_mod, ← Nat.add_mod]

set_option maxHeartbeats 2000000 in
set_option maxRecDepth 100000 in
theorem refprod_any (a b m : Nat) (w : World) (ha : a < m) (hb : b < 2 ^ 62) (hm : m < 2 ^ 62) :
    Calls Tryd.prog 106 #[.int .i64 a, .int .i64 b, .int .i64 m] w fun e w' => e = .returned (.int .i64 (a * b % m : Nat)) ∧ w' = w := by
  obtain ⟨r, hr⟩ : ∃ r, a * b % m = r := ⟨_, rfl⟩
  rw [hr]
  have h62 : m < 4611686018427387904 := hm
  have hb62 : b < 4611686018427387904 := hb
  have HR := Lib.hid (show (0 + a * b) % m = r by rw [Nat.zero_add]; exact hr)
  clear hr
  go_enter Tryd.func106, Tryd.ntmps106
  go_wp2
  go_loop [0, 1, 7] (fun x y z => ∃ a' b' c : Nat, x = .int .i64 a' ∧ y = .int .i64 b' ∧ z = .int .i64 c ∧ a' < m ∧ b' < 4611686018427387904 ∧ c < m ∧ (c + a' * b') % m = r) (fun _ y _ => (intOf y).toNat)
  case atStart => exact ⟨a, b, 0, rfl, rfl, rfl, ha, hb62, by omega, HR.out⟩
  case round =>
    obtain ⟨a', b', c, rfl, rfl, rfl, h1, h2, h3, h4⟩ := hrel
    have H4 := Lib.hid h4
    clear h4 HR
    have hs1 := fun w' => refadd_any c a' m w' h3 h1 hm
    have hs2 := fun w' => refadd_any a' a' m w' h1 h1 hm
    by_cases h0 : b' = 0
    · subst h0
      go_wp2
      go_ret
      have h5 := H4.out
      rw [Nat.mul_zero, Nat.add_zero, Nat.mod_eq_of_lt h3] at h5
      exact ⟨by rw [← h5]; rfl, rfl⟩
    · have hpos : (0 : Int) < (b' : Int) := by omega
      by_cases h1b : b' % 2 = 1
      · have hc : ((b' : Int)).tmod 2 = 1 := by rw [Int.tmod_eq_emod_of_nonneg (by omega)]; omega
        have hc2 : (b' : Int) % 2 = 1 := by omega
        have HP := Lib.hid (prod_odd a' b' c m h1b)
        clear h1b
        go_wp2_with fail
        refine (hs1 _).mono ?_
        rintro e w' ⟨rfl, rfl⟩
        go_wp2_with fail
        refine (hs2 _).mono ?_
        rintro e w' ⟨rfl, rfl⟩
        go_wp2
        go_round
        case rel => exact ⟨(a' + a') % m, b' / 2, (c + a') % m, rfl, by go_num, rfl, Nat.mod_lt _ (by omega), by omega, Nat.mod_lt _ (by omega), by rw [HP.out]; exact H4.out⟩
        case measure => simp [intOf]; omega
      · have hc : ¬ ((b' : Int)).tmod 2 = 1 := by rw [Int.tmod_eq_emod_of_nonneg (by omega)]; omega
        have hc2 : ¬ (b' : Int) % 2 = 1 := by omega
        have HP := Lib.hid (prod_even a' b' c m (by omega))
        clear h1b
        go_wp2_with fail
        refine (hs2 _).mono ?_
        rintro e w' ⟨rfl, rfl⟩
        go_wp2
        go_round
        case rel => exact ⟨(a' + a') % m, b' / 2, c, rfl, by go_num, rfl, Nat.mod_lt _ (by omega), by omega, h3, by rw [HP.out]; exact H4.out⟩
        case measure => simp [intOf]; omega
end Chart

namespace Chart
open Go Go.RowKit Go.Proofs

/-- The number that bytes spell, modulo m, byte by byte. -/
def restN (m : Nat) : List (BitVec 8) → Nat → Nat
  | [], n => n
  | x :: l, n => restN m l ((256 * n % m + x.toNat) % m)
theorem restN_append (m : Nat) : ∀ (l : List (BitVec 8)) (x : BitVec 8) (n : Nat), restN m (l ++ [x]) n = (256 * restN m l n % m + x.toNat) % m
  | [], _, _ => rfl
  | _ :: l, x, n => by rw [List.cons_append, restN, restN_append m l x]; rfl
theorem restN_lt (m : Nat) (hm : 0 < m) : ∀ (l : List (BitVec 8)) (n : Nat), n < m → restN m l n < m
  | [], _, h => h
  | _ :: l, _, _ => restN_lt m hm l _ (Nat.mod_lt _ hm)

set_option maxHeartbeats 2000000 in
set_option maxRecDepth 100000 in
theorem refrest_any (l : List (BitVec 8)) (m : Nat) (w : World) (hl : l.length = 32) (hm0 : 256 < m) (hm : m < 2 ^ 62) :
    Calls Tryd.prog 79 #[.agg (dCells l), .int .i64 m] w fun e w' => e = .returned (.int .i64 (restN m l 0)) ∧ Below w.heap.size w w' := by
  have h62 : m < 4611686018427387904 := hm
  obtain ⟨B, hB⟩ : ∃ B, w.heap.size = B := ⟨_, rfl⟩
  rw [hB]
  have hb1 : Below B w (w.alloc (.cells (dCells l) 38)) := (Below.refl B w).alloc (by omega) _
  have hr1 : (w.alloc (.cells (dCells l) 38)).heap[B]? = some (.cells (dCells l) 38 (0, 0)) := by rw [← hB]; exact heap_alloc_new w _
  have HD := Lib.hid (size_dCells l hl)
  go_enter Tryd.func79, Tryd.ntmps79
  go_wp2_with fail
  generalize w.alloc (.cells (dCells l) 38) = w1 at *
  go_loopw [5, 6] (fun x t wr => ∃ k : Nat, k ≤ 32 ∧ t = .int .i64 k ∧ x = .int .i64 (restN m (l.take k) 0) ∧ Below (B + 1) w1 wr) (fun _ t _ => 32 - (intOf t).toNat)
  case atStart => exact ⟨0, by omega, rfl, rfl, Below.refl _ _⟩
  case round =>
    obtain ⟨k, hk, rfl, rfl, hg⟩ := hrel
    by_cases hlt : k < 32
    · obtain ⟨x, hx⟩ : ∃ x, l[k]? = some x := ⟨l[k]'(by omega), by simp [hl, hlt]⟩
      have hrow := (hg.block B (by omega)).trans hr1
      have hc : wr.cell? ⟨B, k, none⟩ = some (B8 x) := by rw [cell_of_row wr B k _ _ _ hrow]; simp [dCells, hx]
      have hn : restN m (l.take (k + 1)) 0 = (256 * restN m (l.take k) 0 % m + x.toNat) % m := by rw [List.take_add_one, hx]; exact restN_append m _ _ _
      have hlt2 := restN_lt m (by omega) (l.take k) 0 (by omega)
      have HN := Lib.hid hn
      clear hn
      generalize restN m (l.take k) 0 = q at *
      have hp := fun w' => refprod_any 256 q m w' hm0 (by omega) hm
      have hq : 256 * q % m < m := Nat.mod_lt _ (by omega)
      obtain ⟨z, hz⟩ : ∃ z, 256 * q % m = z := ⟨_, rfl⟩
      rw [hz] at hp hq HN
      have hxl : x.toNat < 256 := x.isLt
      have hc' : wr.cell? ⟨B, k, none⟩ = some (.int .u8 (x.toNat : Int)) := hc
      clear hz hc
      go_wp2_with fail
      go_quiet ((go_at_call 106; exact Calls.quiet_of_same (hp _)))
      go_wp2
      go_roundw
      case rel => exact ⟨k + 1, by omega, by go_num, by rw [HN.out]; go_num, hg.trans ⟨rfl, rfl, rfl, Nat.le_refl _, fun _ _ => rfl⟩⟩
      case measure => simp [intOf]; omega
    · obtain rfl : k = 32 := by omega
      rw [List.take_of_length_le (by omega)]
      go_wp2
      go_ret
      exact ⟨rfl, hb1.trans (hg.mono (Nat.le_succ _))⟩
end Chart

namespace Chart
open Go Go.RowKit Go.Proofs

/-- The scalar of bytes under a tag. -/
def scal (tag : ByteArray) (l : List (BitVec 8)) : Nat := restN 2305843009213688668 (tagd tag l) 0 + 1

set_option maxHeartbeats 2000000 in
set_option maxRecDepth 100000 in
theorem refscalar_any (tag : ByteArray) (v : Value) (l : List (BitVec 8)) (w : World) (ht : tag.size + 128 ≤ 140737488355328) (hv : BS w v l) (hl : l.length + 160 ≤ 140737488355328) :
    Calls Tryd.prog 56 #[.string tag, v] w fun e w' => e = .returned (.int .i64 (scal tag l)) ∧ Below w.heap.size w w' := by
  have htg := reftagged_any tag v l w ht hv hl
  have hrs := fun w' => refrest_any (tagd tag l) 2305843009213688668 w' (length_tagd tag l) (by decide) (by decide)
  have hlt := restN_lt 2305843009213688668 (by decide) (tagd tag l) 0 (by decide)
  have HS := Lib.hid (show scal tag l = restN 2305843009213688668 (tagd tag l) 0 + 1 from rfl)
  generalize restN 2305843009213688668 (tagd tag l) 0 = q at *
  go_enter Tryd.func56, Tryd.ntmps56
  go_wp2_with fail
  refine htg.mono ?_
  rintro e w2 ⟨rfl, hb2⟩
  go_wp2_with fail
  refine (hrs _).mono ?_
  rintro e w3 ⟨rfl, hb3⟩
  go_wp2
  go_ret
  refine ⟨?_, hb2.trans (hb3.mono hb2.size)⟩
  rw [HS.out]
  simp; omega
end Chart
