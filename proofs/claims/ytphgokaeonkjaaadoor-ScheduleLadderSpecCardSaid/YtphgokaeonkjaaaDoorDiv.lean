/- bits.Div64 by Q - 1: the rest. bits.Div64 by P: the rest; the product of the group. -/
import Derived.Test.YtphgokaeonkjaaaDoorShelf
import Derived.Test.YtphgokaeonkjaaaDoorWord
import Derived.Lib.Hide
import Derived.BigQuiet
import Derived.Outline
import Derived.Deep.DeepCutAuto
import Derived.WalkSmall
namespace Chart
open Go Go.RowKit Go.Proofs

theorem u64_and_low (x : Int) (h0 : 0 ≤ x) (h : x < 18446744073709551616) : bits .and .u64 x 4294967295 = x % 4294967296 := by
  obtain ⟨n, rfl⟩ : ∃ n : Nat, x = n := ⟨x.toNat, by omega⟩
  have e := u64_and_nat n 4294967295 (by omega) (by omega)
  have h2 : n &&& 4294967295 = n % 4294967296 := Nat.and_two_pow_sub_one_eq_mod n 32
  rw [h2] at e
  exact e.trans (Int.natCast_emod _ _)
theorem u64_or_disj (k : Nat) (x y z : Int) (h0 : 0 ≤ x) (hz : x * 2 ^ k = z) (h : z < 18446744073709551616) (hy0 : 0 ≤ y) (hy : y < 2 ^ k) (hym : y < 18446744073709551616) : bits .or .u64 z y = z + y := by
  obtain ⟨n, rfl⟩ : ∃ n : Nat, x = n := ⟨x.toNat, by omega⟩
  obtain ⟨m, rfl⟩ : ∃ m : Nat, y = m := ⟨y.toNat, by omega⟩
  have e : ((n : Int) * 2 ^ k) = ((n * 2 ^ k : Nat) : Int) := by rw [Int.natCast_mul, Int.natCast_pow]; rfl
  have e2 : ((2 : Int) ^ k) = ((2 ^ k : Nat) : Int) := by rw [Int.natCast_pow]; rfl
  rw [e2] at hy
  have hy' : m < 2 ^ k := Int.ofNat_lt.mp hy
  have hs := Nat.shiftLeft_add_eq_or_of_lt hy' n
  rw [Nat.shiftLeft_eq] at hs
  rw [e] at hz
  generalize n * 2 ^ k = c at *
  subst hz
  have e3 := u64_or_nat c m (by omega) (by omega)
  rw [← hs] at e3
  exact e3.trans (Int.natCast_add _ _)

set_option maxHeartbeats 4000000 in
set_option maxRecDepth 100000 in
theorem divq_any (hi lo : Int) (w : World) (hh0 : 0 ≤ hi) (hh : hi < 2305843009213688668) (hl0 : 0 ≤ lo) (hl : lo < 18446744073709551616) :
    Calls Tryd.prog 93 #[.int .u64 hi, .int .u64 lo, .int .u64 2305843009213688668] w fun e w' =>
      (∃ q, e = .returned (.tuple #[q, .int .u64 ((hi * 18446744073709551616 + lo) % 2305843009213688668)])) ∧ ∃ n, w' = w.drewN n := by
  have hz := Tryd.bits_LeadingZeros64 2305843009213688668 w (by decide) (by decide)
  have hb : Lib.bitLen (2305843009213688668 : Int).toNat = 61 := by decide +kernel
  rw [hb] at hz
  clear hb
  have hc : ¬ ((2305843009213688668 : Int) ≤ hi) := by omega
  by_cases h0 : hi = 0
  · subst h0
    rw [Int.zero_mul, Int.zero_add]
    go_enter Tryd.func93, Tryd.ntmps93
    go_upto_region 6 with (fail)
    go_quiet (fail)
    go_wp2
    go_ret2
    exact ⟨⟨_, rfl⟩, _, rfl⟩
  have hy0 : bits .and .u64 18446744073709509344 4294967295 = 4294925024 := by kernel_rfl
  obtain ⟨u, hu⟩ : ∃ u, u = hi * 8 + lo / 2305843009213693952 := ⟨_, rfl⟩
  have hor : bits .or .u64 (hi * 8) (lo / 2305843009213693952) = u := by rw [hu]; exact u64_or_disj 3 hi _ _ hh0 rfl (by omega) (by omega) (by omega) (by omega)
  obtain ⟨L, hL⟩ : ∃ L, L = lo * 8 % 18446744073709551616 := ⟨_, rfl⟩
  have hw : IntKind.u64.wrap (lo * 8) = L := by rw [hL]; exact wrap_u64_mod _
  obtain ⟨a, ha⟩ : ∃ a, L / 4294967296 = a := ⟨_, rfl⟩
  obtain ⟨b, hb⟩ : ∃ b, L % 4294967296 = b := ⟨_, rfl⟩
  have hand : bits .and .u64 L 4294967295 = b := by rw [← hb]; exact u64_and_low L (by omega) (by omega)
  obtain ⟨T, hT⟩ : ∃ T, T = (u * 4294967296 + a) / 18446744073709509344 := ⟨_, rfl⟩
  have hN : (hi * 18446744073709551616 + lo) * 8 = u * 18446744073709551616 + a * 4294967296 + b := by omega
  have hul : u < 18446744073709509344 := by omega
  have hu0 : 0 ≤ u := by omega
  have ha0 : 0 ≤ a ∧ a < 4294967296 := by omega
  have hb0 : 0 ≤ b ∧ b < 4294967296 := by omega
  have hT1 : T * 18446744073709509344 ≤ u * 4294967296 + a ∧ u * 4294967296 + a < T * 18446744073709509344 + 18446744073709509344 := by omega
  obtain ⟨v, hv⟩ : ∃ v, v = u * 4294967296 + a - T * 18446744073709509344 := ⟨_, rfl⟩
  have h21 : IntKind.u64.wrap (IntKind.u64.wrap (IntKind.u64.wrap (u * 4294967296) + a) - IntKind.u64.wrap (T * 18446744073709509344)) = v := by
    simp only [wrap_u64_mod]; omega
  obtain ⟨V, hV⟩ : ∃ V, V = (v * 4294967296 + b) / 18446744073709509344 := ⟨_, rfl⟩
  have hv0 : 0 ≤ v ∧ v < 18446744073709509344 := by omega
  have hV1 : V * 18446744073709509344 ≤ v * 4294967296 + b ∧ v * 4294967296 + b < V * 18446744073709509344 + 18446744073709509344 := by omega
  obtain ⟨R, hR⟩ : ∃ R, R = v * 4294967296 + b - V * 18446744073709509344 := ⟨_, rfl⟩
  have hR1 : IntKind.u64.wrap (IntKind.u64.wrap (IntKind.u64.wrap (v * 4294967296) + b) - IntKind.u64.wrap (V * 18446744073709509344)) = R := by
    simp only [wrap_u64_mod]; omega
  have hR0 : 0 ≤ R ∧ R < 18446744073709509344 := by omega
  have hfin : R / 8 = (hi * 18446744073709551616 + lo) % 2305843009213688668 := by omega
  have HF := Lib.hid hfin
  clear hT hu hL hb hV hR hv hfin hN
  go_enter Tryd.func93, Tryd.ntmps93
  go_wp2_with (refine hz.mono ?_; rintro e w' ⟨rfl, rfl⟩)
  go_loop [15, 16] (fun x y => ∃ q r : Int, x = .int .u64 q ∧ y = .int .u64 r ∧ T ≤ q ∧ 0 ≤ r ∧ r < 4294967296 ∧ q * 4294967295 + r = u) (fun x _ => (intOf x).toNat)
  case atStart =>
    exact ⟨_, _, rfl, rfl, by omega, by omega, by omega, by omega⟩
  case round =>
    obtain ⟨q, r, rfl, rfl, h1, h2, h3, h4⟩ := hrel
    by_cases hq : 4294967296 ≤ q
    · by_cases hr : 4294967296 ≤ r + 4294967295
      · have hqT : q - 1 = T := by omega
        go_wp2
        go_loop [18, 16] (fun x y => ∃ q2 r2 : Int, x = .int .u64 q2 ∧ y = .int .u64 r2 ∧ V ≤ q2 ∧ 0 ≤ r2 ∧ r2 < 4294967296 ∧ q2 * 4294967295 + r2 = v) (fun x _ => (intOf x).toNat)
        case atStart => exact ⟨_, _, rfl, rfl, by omega, by omega, by omega, by omega⟩
        case round =>
          obtain ⟨q2, r2, rfl, rfl, g1, g2, g3, g4⟩ := hrel
          by_cases hq' : 4294967296 ≤ q2
          · by_cases hr' : 4294967296 ≤ r2 + 4294967295
            · have hqT' : q2 - 1 = V := by omega
              go_wp2
              go_ret2
              rw [← HF.out]
              exact ⟨⟨_, rfl⟩, 0, rfl⟩
            · go_wp2
              refine ⟨⟨_, _, rfl, rfl, by omega, by omega, by omega, by omega⟩, ?_⟩
              simp only [intOf]; omega
          · by_cases hq2' : 4294967296 * r2 + b < q2 * 4294925024
            · by_cases hr' : 4294967296 ≤ r2 + 4294967295
              · have hqT' : q2 - 1 = V := by omega
                go_wp2
                go_ret2
                rw [← HF.out]
                exact ⟨⟨_, rfl⟩, 0, rfl⟩
              · go_wp2
                refine ⟨⟨_, _, rfl, rfl, by omega, by omega, by omega, by omega⟩, ?_⟩
                simp only [intOf]; omega
            · obtain rfl : q2 = V := by omega
              go_wp2
              go_ret2
              rw [← HF.out]
              exact ⟨⟨_, rfl⟩, 0, rfl⟩
      · go_wp2
        refine ⟨⟨_, _, rfl, rfl, by omega, by omega, by omega, by omega⟩, ?_⟩
        simp only [intOf]; omega
    · by_cases hq2 : 4294967296 * r + a < q * 4294925024
      · by_cases hr : 4294967296 ≤ r + 4294967295
        · have hqT : q - 1 = T := by omega
          go_wp2
          go_loop [18, 16] (fun x y => ∃ q2 r2 : Int, x = .int .u64 q2 ∧ y = .int .u64 r2 ∧ V ≤ q2 ∧ 0 ≤ r2 ∧ r2 < 4294967296 ∧ q2 * 4294967295 + r2 = v) (fun x _ => (intOf x).toNat)
          case atStart => exact ⟨_, _, rfl, rfl, by omega, by omega, by omega, by omega⟩
          case round =>
            obtain ⟨q2, r2, rfl, rfl, g1, g2, g3, g4⟩ := hrel
            by_cases hq' : 4294967296 ≤ q2
            · by_cases hr' : 4294967296 ≤ r2 + 4294967295
              · have hqT' : q2 - 1 = V := by omega
                go_wp2
                go_ret2
                rw [← HF.out]
                exact ⟨⟨_, rfl⟩, 0, rfl⟩
              · go_wp2
                refine ⟨⟨_, _, rfl, rfl, by omega, by omega, by omega, by omega⟩, ?_⟩
                simp only [intOf]; omega
            · by_cases hq2' : 4294967296 * r2 + b < q2 * 4294925024
              · by_cases hr' : 4294967296 ≤ r2 + 4294967295
                · have hqT' : q2 - 1 = V := by omega
                  go_wp2
                  go_ret2
                  rw [← HF.out]
                  exact ⟨⟨_, rfl⟩, 0, rfl⟩
                · go_wp2
                  refine ⟨⟨_, _, rfl, rfl, by omega, by omega, by omega, by omega⟩, ?_⟩
                  simp only [intOf]; omega
              · obtain rfl : q2 = V := by omega
                go_wp2
                go_ret2
                rw [← HF.out]
                exact ⟨⟨_, rfl⟩, 0, rfl⟩
        · go_wp2
          refine ⟨⟨_, _, rfl, rfl, by omega, by omega, by omega, by omega⟩, ?_⟩
          simp only [intOf]; omega
      · obtain rfl : q = T := by omega
        go_wp2
        go_loop [18, 16] (fun x y => ∃ q2 r2 : Int, x = .int .u64 q2 ∧ y = .int .u64 r2 ∧ V ≤ q2 ∧ 0 ≤ r2 ∧ r2 < 4294967296 ∧ q2 * 4294967295 + r2 = v) (fun x _ => (intOf x).toNat)
        case atStart => exact ⟨_, _, rfl, rfl, by omega, by omega, by omega, by omega⟩
        case round =>
          obtain ⟨q2, r2, rfl, rfl, g1, g2, g3, g4⟩ := hrel
          by_cases hq' : 4294967296 ≤ q2
          · by_cases hr' : 4294967296 ≤ r2 + 4294967295
            · have hqT' : q2 - 1 = V := by omega
              go_wp2
              go_ret2
              rw [← HF.out]
              exact ⟨⟨_, rfl⟩, 0, rfl⟩
            · go_wp2
              refine ⟨⟨_, _, rfl, rfl, by omega, by omega, by omega, by omega⟩, ?_⟩
              simp only [intOf]; omega
          · by_cases hq2' : 4294967296 * r2 + b < q2 * 4294925024
            · by_cases hr' : 4294967296 ≤ r2 + 4294967295
              · have hqT' : q2 - 1 = V := by omega
                go_wp2
                go_ret2
                rw [← HF.out]
                exact ⟨⟨_, rfl⟩, 0, rfl⟩
              · go_wp2
                refine ⟨⟨_, _, rfl, rfl, by omega, by omega, by omega, by omega⟩, ?_⟩
                simp only [intOf]; omega
            · obtain rfl : q2 = V := by omega
              go_wp2
              go_ret2
              rw [← HF.out]
              exact ⟨⟨_, rfl⟩, 0, rfl⟩
end Chart

namespace Chart
open Go Go.RowKit Go.Proofs

set_option maxHeartbeats 4000000 in
set_option maxRecDepth 100000 in
theorem divp_any (hi lo : Int) (w : World) (hh0 : 0 ≤ hi) (hh : hi < 4611686018427377339) (hl0 : 0 ≤ lo) (hl : lo < 18446744073709551616) :
    Calls Tryd.prog 93 #[.int .u64 hi, .int .u64 lo, .int .u64 4611686018427377339] w fun e w' =>
      (∃ q, e = .returned (.tuple #[q, .int .u64 ((hi * 18446744073709551616 + lo) % 4611686018427377339)])) ∧ ∃ n, w' = w.drewN n := by
  have hz := Tryd.bits_LeadingZeros64 4611686018427377339 w (by decide) (by decide)
  have hb : Lib.bitLen (4611686018427377339 : Int).toNat = 62 := by decide +kernel
  rw [hb] at hz
  clear hb
  have hc : ¬ ((4611686018427377339 : Int) ≤ hi) := by omega
  by_cases h0 : hi = 0
  · subst h0
    rw [Int.zero_mul, Int.zero_add]
    go_enter Tryd.func93, Tryd.ntmps93
    go_upto_region 6 with (fail)
    go_quiet (fail)
    go_wp2
    go_ret2
    exact ⟨⟨_, rfl⟩, _, rfl⟩
  have hy0 : bits .and .u64 18446744073709509356 4294967295 = 4294925036 := by kernel_rfl
  obtain ⟨u, hu⟩ : ∃ u, u = hi * 4 + lo / 4611686018427387904 := ⟨_, rfl⟩
  have hor : bits .or .u64 (hi * 4) (lo / 4611686018427387904) = u := by rw [hu]; exact u64_or_disj 2 hi _ _ hh0 rfl (by omega) (by omega) (by omega) (by omega)
  obtain ⟨L, hL⟩ : ∃ L, L = lo * 4 % 18446744073709551616 := ⟨_, rfl⟩
  have hw : IntKind.u64.wrap (lo * 4) = L := by rw [hL]; exact wrap_u64_mod _
  obtain ⟨a, ha⟩ : ∃ a, L / 4294967296 = a := ⟨_, rfl⟩
  obtain ⟨b, hb⟩ : ∃ b, L % 4294967296 = b := ⟨_, rfl⟩
  have hand : bits .and .u64 L 4294967295 = b := by rw [← hb]; exact u64_and_low L (by omega) (by omega)
  obtain ⟨T, hT⟩ : ∃ T, T = (u * 4294967296 + a) / 18446744073709509356 := ⟨_, rfl⟩
  have hN : (hi * 18446744073709551616 + lo) * 4 = u * 18446744073709551616 + a * 4294967296 + b := by omega
  have hul : u < 18446744073709509356 := by omega
  have hu0 : 0 ≤ u := by omega
  have ha0 : 0 ≤ a ∧ a < 4294967296 := by omega
  have hb0 : 0 ≤ b ∧ b < 4294967296 := by omega
  have hT1 : T * 18446744073709509356 ≤ u * 4294967296 + a ∧ u * 4294967296 + a < T * 18446744073709509356 + 18446744073709509356 := by omega
  obtain ⟨v, hv⟩ : ∃ v, v = u * 4294967296 + a - T * 18446744073709509356 := ⟨_, rfl⟩
  have h21 : IntKind.u64.wrap (IntKind.u64.wrap (IntKind.u64.wrap (u * 4294967296) + a) - IntKind.u64.wrap (T * 18446744073709509356)) = v := by
    simp only [wrap_u64_mod]; omega
  obtain ⟨V, hV⟩ : ∃ V, V = (v * 4294967296 + b) / 18446744073709509356 := ⟨_, rfl⟩
  have hv0 : 0 ≤ v ∧ v < 18446744073709509356 := by omega
  have hV1 : V * 18446744073709509356 ≤ v * 4294967296 + b ∧ v * 4294967296 + b < V * 18446744073709509356 + 18446744073709509356 := by omega
  obtain ⟨R, hR⟩ : ∃ R, R = v * 4294967296 + b - V * 18446744073709509356 := ⟨_, rfl⟩
  have hR1 : IntKind.u64.wrap (IntKind.u64.wrap (IntKind.u64.wrap (v * 4294967296) + b) - IntKind.u64.wrap (V * 18446744073709509356)) = R := by
    simp only [wrap_u64_mod]; omega
  have hR0 : 0 ≤ R ∧ R < 18446744073709509356 := by omega
  have hfin : R / 4 = (hi * 18446744073709551616 + lo) % 4611686018427377339 := by omega
  have HF := Lib.hid hfin
  clear hT hu hL hb hV hR hv hfin hN
  go_enter Tryd.func93, Tryd.ntmps93
  go_wp2_with (refine hz.mono ?_; rintro e w' ⟨rfl, rfl⟩)
  go_loop [15, 16] (fun x y => ∃ q r : Int, x = .int .u64 q ∧ y = .int .u64 r ∧ T ≤ q ∧ 0 ≤ r ∧ r < 4294967296 ∧ q * 4294967295 + r = u) (fun x _ => (intOf x).toNat)
  case atStart =>
    exact ⟨_, _, rfl, rfl, by omega, by omega, by omega, by omega⟩
  case round =>
    obtain ⟨q, r, rfl, rfl, h1, h2, h3, h4⟩ := hrel
    by_cases hq : 4294967296 ≤ q
    · by_cases hr : 4294967296 ≤ r + 4294967295
      · have hqT : q - 1 = T := by omega
        go_wp2
        go_loop [18, 16] (fun x y => ∃ q2 r2 : Int, x = .int .u64 q2 ∧ y = .int .u64 r2 ∧ V ≤ q2 ∧ 0 ≤ r2 ∧ r2 < 4294967296 ∧ q2 * 4294967295 + r2 = v) (fun x _ => (intOf x).toNat)
        case atStart => exact ⟨_, _, rfl, rfl, by omega, by omega, by omega, by omega⟩
        case round =>
          obtain ⟨q2, r2, rfl, rfl, g1, g2, g3, g4⟩ := hrel
          by_cases hq' : 4294967296 ≤ q2
          · by_cases hr' : 4294967296 ≤ r2 + 4294967295
            · have hqT' : q2 - 1 = V := by omega
              go_wp2
              go_ret2
              rw [← HF.out]
              exact ⟨⟨_, rfl⟩, 0, rfl⟩
            · go_wp2
              refine ⟨⟨_, _, rfl, rfl, by omega, by omega, by omega, by omega⟩, ?_⟩
              simp only [intOf]; omega
          · by_cases hq2' : 4294967296 * r2 + b < q2 * 4294925036
            · by_cases hr' : 4294967296 ≤ r2 + 4294967295
              · have hqT' : q2 - 1 = V := by omega
                go_wp2
                go_ret2
                rw [← HF.out]
                exact ⟨⟨_, rfl⟩, 0, rfl⟩
              · go_wp2
                refine ⟨⟨_, _, rfl, rfl, by omega, by omega, by omega, by omega⟩, ?_⟩
                simp only [intOf]; omega
            · obtain rfl : q2 = V := by omega
              go_wp2
              go_ret2
              rw [← HF.out]
              exact ⟨⟨_, rfl⟩, 0, rfl⟩
      · go_wp2
        refine ⟨⟨_, _, rfl, rfl, by omega, by omega, by omega, by omega⟩, ?_⟩
        simp only [intOf]; omega
    · by_cases hq2 : 4294967296 * r + a < q * 4294925036
      · by_cases hr : 4294967296 ≤ r + 4294967295
        · have hqT : q - 1 = T := by omega
          go_wp2
          go_loop [18, 16] (fun x y => ∃ q2 r2 : Int, x = .int .u64 q2 ∧ y = .int .u64 r2 ∧ V ≤ q2 ∧ 0 ≤ r2 ∧ r2 < 4294967296 ∧ q2 * 4294967295 + r2 = v) (fun x _ => (intOf x).toNat)
          case atStart => exact ⟨_, _, rfl, rfl, by omega, by omega, by omega, by omega⟩
          case round =>
            obtain ⟨q2, r2, rfl, rfl, g1, g2, g3, g4⟩ := hrel
            by_cases hq' : 4294967296 ≤ q2
            · by_cases hr' : 4294967296 ≤ r2 + 4294967295
              · have hqT' : q2 - 1 = V := by omega
                go_wp2
                go_ret2
                rw [← HF.out]
                exact ⟨⟨_, rfl⟩, 0, rfl⟩
              · go_wp2
                refine ⟨⟨_, _, rfl, rfl, by omega, by omega, by omega, by omega⟩, ?_⟩
                simp only [intOf]; omega
            · by_cases hq2' : 4294967296 * r2 + b < q2 * 4294925036
              · by_cases hr' : 4294967296 ≤ r2 + 4294967295
                · have hqT' : q2 - 1 = V := by omega
                  go_wp2
                  go_ret2
                  rw [← HF.out]
                  exact ⟨⟨_, rfl⟩, 0, rfl⟩
                · go_wp2
                  refine ⟨⟨_, _, rfl, rfl, by omega, by omega, by omega, by omega⟩, ?_⟩
                  simp only [intOf]; omega
              · obtain rfl : q2 = V := by omega
                go_wp2
                go_ret2
                rw [← HF.out]
                exact ⟨⟨_, rfl⟩, 0, rfl⟩
        · go_wp2
          refine ⟨⟨_, _, rfl, rfl, by omega, by omega, by omega, by omega⟩, ?_⟩
          simp only [intOf]; omega
      · obtain rfl : q = T := by omega
        go_wp2
        go_loop [18, 16] (fun x y => ∃ q2 r2 : Int, x = .int .u64 q2 ∧ y = .int .u64 r2 ∧ V ≤ q2 ∧ 0 ≤ r2 ∧ r2 < 4294967296 ∧ q2 * 4294967295 + r2 = v) (fun x _ => (intOf x).toNat)
        case atStart => exact ⟨_, _, rfl, rfl, by omega, by omega, by omega, by omega⟩
        case round =>
          obtain ⟨q2, r2, rfl, rfl, g1, g2, g3, g4⟩ := hrel
          by_cases hq' : 4294967296 ≤ q2
          · by_cases hr' : 4294967296 ≤ r2 + 4294967295
            · have hqT' : q2 - 1 = V := by omega
              go_wp2
              go_ret2
              rw [← HF.out]
              exact ⟨⟨_, rfl⟩, 0, rfl⟩
            · go_wp2
              refine ⟨⟨_, _, rfl, rfl, by omega, by omega, by omega, by omega⟩, ?_⟩
              simp only [intOf]; omega
          · by_cases hq2' : 4294967296 * r2 + b < q2 * 4294925036
            · by_cases hr' : 4294967296 ≤ r2 + 4294967295
              · have hqT' : q2 - 1 = V := by omega
                go_wp2
                go_ret2
                rw [← HF.out]
                exact ⟨⟨_, rfl⟩, 0, rfl⟩
              · go_wp2
                refine ⟨⟨_, _, rfl, rfl, by omega, by omega, by omega, by omega⟩, ?_⟩
                simp only [intOf]; omega
            · obtain rfl : q2 = V := by omega
              go_wp2
              go_ret2
              rw [← HF.out]
              exact ⟨⟨_, rfl⟩, 0, rfl⟩

set_option maxHeartbeats 2000000 in
set_option maxRecDepth 100000 in
theorem times_any (a b : Nat) (w : World) (ha : a < 4611686018427377339) (hb : b < 4611686018427377339) :
    Calls Tryd.prog 95 #[.int .u64 a, .int .u64 b] w fun e w' => e = .returned (.int .u64 (a * b % 4611686018427377339 : Nat)) ∧ ∃ n, w' = w.drewN n := by
  have hm := Tryd.bits_Mul64 a b (by omega) (by omega) w
  have hlt : a * b < 21267647932558556521535343593890720921 := Nat.mul_lt_mul'' ha hb
  obtain ⟨c, hc⟩ : ∃ c, a * b = c := ⟨_, rfl⟩
  rw [hc] at hm hlt ⊢
  clear hc
  obtain ⟨H, hH⟩ : ∃ H : Int, ((c / 18446744073709551616 : Nat) : Int) = H := ⟨_, rfl⟩
  obtain ⟨L, hL⟩ : ∃ L : Int, ((c % 18446744073709551616 : Nat) : Int) = L := ⟨_, rfl⟩
  have hr : (H * 18446744073709551616 + L) % 4611686018427377339 = ((c % 4611686018427377339 : Nat) : Int) := by omega
  have hd := fun w' => divp_any H L w' (by omega) (by omega) (by omega) (by omega)
  rw [hH, hL] at hm
  rw [hr] at hd
  clear hr hH hL hlt
  generalize ((c % 4611686018427377339 : Nat) : Int) = R at *
  go_enter Tryd.func95, Tryd.ntmps95
  go_wp2_with (first
    | (go_at_call 118; refine hm.mono ?_; rintro e w1 ⟨rfl, rfl⟩)
    | (go_at_call 93; refine (hd _).mono ?_; rintro e w2 ⟨⟨q, rfl⟩, n, rfl⟩))
  go_ret
  exact ⟨rfl, n, rfl⟩
end Chart
