/- Knuth's division of a double word by a word, in plain numbers. -/
import Derived.WalkKit
namespace Chart

/-- One digit of the quotient: going down by one keeps the guess at or above the digit. -/
theorem kn_down {y1 y0 u u1 q r Y : Nat} (hY : Y = y1 * 4294967296 + y0) (hu : u < Y) (hu1 : u1 < 4294967296)
    (hi : q * y1 + r = u) (hc : 4294967296 ≤ q ∨ 4294967296 * r + u1 < q * y0) :
    (u * 4294967296 + u1) / Y ≤ q - 1 ∧ 1 ≤ q := by
  have hY0 : 0 < Y := by omega
  have h : (u * 4294967296 + u1) / Y < q := by
    rw [Nat.div_lt_iff_lt_mul hY0]
    rcases hc with hc | hc
    · have h1 : 4294967296 * Y ≤ q * Y := Nat.mul_le_mul_right _ hc
      omega
    · have h1 : q * Y = q * y1 * 4294967296 + q * y0 := by rw [hY, Nat.mul_add, Nat.mul_assoc]
      rw [h1, ← hi]
      generalize q * y1 = a at *
      generalize q * y0 = b at *
      omega
  generalize (u * 4294967296 + u1) / Y = d at *
  clear hc
  omega

/-- The guess that the test lets pass is the digit. -/
theorem kn_done {y1 y0 u u1 q r Y : Nat} (hY : Y = y1 * 4294967296 + y0) (hu : u < Y)
    (hi : q * y1 + r = u) (hq : (u * 4294967296 + u1) / Y ≤ q) (hc : q * y0 ≤ 4294967296 * r + u1) :
    q = (u * 4294967296 + u1) / Y := by
  have hY0 : 0 < Y := by omega
  have h : q ≤ (u * 4294967296 + u1) / Y := by
    rw [Nat.le_div_iff_mul_le hY0]
    have h1 : q * Y = q * y1 * 4294967296 + q * y0 := by rw [hY, Nat.mul_add, Nat.mul_assoc]
    rw [h1, ← hi]
    generalize q * y1 = a at *
    clear hY hu
    generalize q * y0 = b at *
    omega
  generalize (u * 4294967296 + u1) / Y = d at *
  omega

/-- A rest of a word or more makes the guess right. -/
theorem kn_break {y1 y0 u u1 q r Y : Nat} (hY : Y = y1 * 4294967296 + y0) (hy0 : y0 < 4294967296) (hu : u < Y)
    (hi : q * y1 + r = u) (hq : (u * 4294967296 + u1) / Y ≤ q) (hr : 4294967296 ≤ r) :
    q = (u * 4294967296 + u1) / Y := by
  refine kn_done hY hu hi hq ?_
  have hlt : q < 4294967296 := by
    by_cases h : 4294967296 ≤ q
    · have h1 : 4294967296 * y1 ≤ q * y1 := Nat.mul_le_mul_right _ h
      generalize q * y1 = a at *
      omega
    · omega
  have h2 : q * y0 ≤ 4294967296 * y0 := Nat.mul_le_mul_right _ (by omega)
  generalize q * y0 = b at *
  omega

/-- The first guess is at or above the digit. -/
theorem kn_first {y1 y0 u u1 Y : Nat} (hY : Y = y1 * 4294967296 + y0) (h1 : 0 < y1) (hu1 : u1 < 4294967296) :
    (u * 4294967296 + u1) / Y ≤ u / y1 := by
  have h2 : (u * 4294967296 + u1) / Y ≤ (u * 4294967296 + u1) / (y1 * 4294967296) := Nat.div_le_div_left (by omega) (by omega)
  have h3 : (u * 4294967296 + u1) / (y1 * 4294967296) = u / y1 := by
    rw [Nat.mul_comm y1, ← Nat.div_div_eq_div_mul]
    congr 1
    omega
  omega

/-- What the code subtracts, wrapped, is the rest. -/
theorem kn_rest {u u1 Y : Nat} (hY0 : 0 < Y) (hY : Y ≤ 18446744073709551616) :
    (((u : Int) * 4294967296 % 18446744073709551616 + u1) % 18446744073709551616 - (((u * 4294967296 + u1) / Y : Nat) : Int) * Y % 18446744073709551616) % 18446744073709551616
      = (((u * 4294967296 + u1) % Y : Nat) : Int) := by
  have h := Nat.div_add_mod (u * 4294967296 + u1) Y
  have hlt := Nat.mod_lt (u * 4294967296 + u1) hY0
  rw [Nat.mul_comm] at h
  have h' : (((u * 4294967296 + u1) / Y : Nat) : Int) * Y = (((u * 4294967296 + u1) / Y * Y : Nat) : Int) := by norm_cast
  rw [h']
  generalize (u * 4294967296 + u1) / Y * Y = a at *
  generalize (u * 4294967296 + u1) % Y = b at *
  omega

/-- Two digits, one after the other: the whole rest. -/
theorem kn_two (u a b Y : Nat) : ((u * 4294967296 + a) % Y * 4294967296 + b) % Y = (u * 18446744073709551616 + (a * 4294967296 + b)) % Y := by
  have e : u * 18446744073709551616 + (a * 4294967296 + b) = (u * 4294967296 + a) * 4294967296 + b := by omega
  rw [e, Nat.add_mod, Nat.mod_mul_mod, ← Nat.add_mod]
end Chart
