/- The reference's product modulo m. -/
import Derived.Test.YtphgokaeonkjaaaDoorRefTagged
namespace Chart
open Go Go.RowKit Go.Proofs

set_option maxHeartbeats 2000000 in
set_option maxRecDepth 100000 in
theorem refadd_any (a b m : Nat) (w : World) (ha : a < m) (hb : b < m) (hm : m < 2 ^ 62) :
    Calls Tryd.prog 119 #[.int .i64 a, .int .i64 b, .int .i64 m] w fun e w' => e = .returned (.int .i64 ((a + b) % m : Nat)) ∧ w' = w := by
  have h62 : m < 4611686018427387904 := hm
  obtain ⟨r, hr⟩ : ∃ r, (a + b) % m = r := ⟨_, rfl⟩
  rw [hr]
  by_cases h : m ≤ a + b
  · have e1 : r = a + b - m := by rw [← hr, Nat.mod_eq_sub_mod h, Nat.mod_eq_of_lt (by omega)]
    have hc : (m : Int) ≤ (a : Int) + b := by omega
    have e2 : (a : Int) + b - m = ((a + b - m : Nat) : Int) := by omega
    have E1 := Lib.hid e1; have E2 := Lib.hid e2
    clear e1 e2 hr
    go_enter Tryd.func119, Tryd.ntmps119
    go_wp2
    go_ret
    refine ⟨?_, rfl⟩
    rw [E1.out, ← E2.out]; rfl
  · have e1 : r = a + b := by rw [← hr]; exact Nat.mod_eq_of_lt (by omega)
    have hc : ¬ ((m : Int) ≤ (a : Int) + b) := by omega
    have E1 := Lib.hid e1
    clear e1 hr
    go_enter Tryd.func119, Tryd.ntmps119
    go_wp2
    go_ret
    refine ⟨?_, rfl⟩
    rw [E1.out, Int.natCast_add]; rfl

theorem prod_even (a b c m : Nat) (h : b % 2 = 0) : (c + (a + a) % m * (b / 2)) % m = (c + a * b) % m := by
  have hb : b = 2 * (b / 2) := by omega
  have e : a * b = (a + a) * (b / 2) := by conv => lhs; rw [hb]
                                           rw [← Nat.mul_assoc, Nat.mul_two]
  rw [e, Nat.add_mod, Nat.mod_mul_mod, ← Nat.add_mod]
theorem prod_odd (a b c m : Nat) (h : b % 2 = 1) : ((c + a) % m + (a + a) % m * (b / 2)) % m = (c + a * b) % m := by
  have hb : b = 2 * (b / 2) + 1 := by omega
  have e : a * b = a + (a + a) * (b / 2) := by conv => lhs; rw [hb]
                                               rw [Nat.mul_add, ← Nat.mul_assoc, Nat.mul_two, Nat.mul_one, Nat.add_comm]
  rw [e, ← Nat.add_assoc, Nat.add_mod, Nat.mod_mod, Nat.mod_mul_mod, ← Nat.add_mod]

set_option maxHeartbeats 2000000 in
set_option maxRecDepth 100000 in
theorem refprod_any (a b m : Nat) (w : World) (ha : a < m) (hb : b < 2 ^ 62) (hm : m < 2 ^ 62) :
    Calls Tryd.prog 106 #[.int .i64 a, .int .i64 b, .int .i64 m] w fun e w' => e = .returned (.int .i64 (a * b % m : Nat)) ∧ w' = w := by
  obtain ⟨r, hr⟩ : ∃ r, a * b % m = r := ⟨_, rfl⟩
  rw [hr]
  have h62 : m < 4611686018427387904 := hm
  have hb62 : b < 4611686018427387904 := hb
  have HR := Lib.hid (show (0 + a * b) % m = r by rw [Nat.zero_add]; exact hr)
  clear hr
  go_enter Tryd.func106, Tryd.ntmps106
  go_wp2
  go_loop [0, 1, 7] (fun x y z => ∃ a' b' c : Nat, x = .int .i64 a' ∧ y = .int .i64 b' ∧ z = .int .i64 c ∧ a' < m ∧ b' < 4611686018427387904 ∧ c < m ∧ (c + a' * b') % m = r) (fun _ y _ => (intOf y).toNat)
  case atStart => exact ⟨a, b, 0, rfl, rfl, rfl, ha, hb62, by omega, HR.out⟩
  case round =>
    obtain ⟨a', b', c, rfl, rfl, rfl, h1, h2, h3, h4⟩ := hrel
    have H4 := Lib.hid h4
    clear h4 HR
    have hs1 := fun w' => refadd_any c a' m w' h3 h1 hm
    have hs2 := fun w' => refadd_any a' a' m w' h1 h1 hm
    by_cases h0 : b' = 0
    · subst h0
      go_wp2
      go_ret
      have h5 := H4.out
      rw [Nat.mul_zero, Nat.add_zero, Nat.mod_eq_of_lt h3] at h5
      exact ⟨by rw [← h5]; rfl, rfl⟩
    · have hpos : (0 : Int) < (b' : Int) := by omega
      by_cases h1b : b' % 2 = 1
      · have hc : ((b' : Int)).tmod 2 = 1 := by rw [Int.tmod_eq_emod_of_nonneg (by omega)]; omega
        have hc2 : (b' : Int) % 2 = 1 := by omega
        have HP := Lib.hid (prod_odd a' b' c m h1b)
        clear h1b
        go_wp2_with fail
        refine (hs1 _).mono ?_
        rintro e w' ⟨rfl, rfl⟩
        go_wp2_with fail
        refine (hs2 _).mono ?_
        rintro e w' ⟨rfl, rfl⟩
        go_wp2
        go_round
        case rel => exact ⟨(a' + a') % m, b' / 2, (c + a') % m, rfl, by go_num, rfl, Nat.mod_lt _ (by omega), by omega, Nat.mod_lt _ (by omega), by rw [HP.out]; exact H4.out⟩
        case measure => simp [intOf]; omega
      · have hc : ¬ ((b' : Int)).tmod 2 = 1 := by rw [Int.tmod_eq_emod_of_nonneg (by omega)]; omega
        have hc2 : ¬ (b' : Int) % 2 = 1 := by omega
        have HP := Lib.hid (prod_even a' b' c m (by omega))
        clear h1b
        go_wp2_with fail
        refine (hs2 _).mono ?_
        rintro e w' ⟨rfl, rfl⟩
        go_wp2
        go_round
        case rel => exact ⟨(a' + a') % m, b' / 2, c, rfl, by go_num, rfl, Nat.mod_lt _ (by omega), by omega, h3, by rw [HP.out]; exact H4.out⟩
        case measure => simp [intOf]; omega
end Chart
