/- Machine words as Go's ints hold them: 8, 32 and 64 bits, behind names that the walk does not open. -/
import Derived.WalkKit
namespace Chart
open Go

/-- The number that a word is, as an int value holds it. -/
def U8 (x : BitVec 8) : Int := (x.toNat : Int)
def U32 (x : BitVec 32) : Int := (x.toNat : Int)
def U64 (x : BitVec 64) : Int := (x.toNat : Int)

abbrev B8 (x : BitVec 8) : Value := .int .u8 (U8 x)
abbrev B32 (x : BitVec 32) : Value := .int .u32 (U32 x)
abbrev B64 (x : BitVec 64) : Value := .int .u64 (U64 x)

theorem U8_range (x : BitVec 8) : 0 ≤ U8 x ∧ U8 x < 256 := by unfold U8; have := x.isLt; omega
theorem U32_range (x : BitVec 32) : 0 ≤ U32 x ∧ U32 x < 4294967296 := by unfold U32; have := x.isLt; omega
theorem U64_range (x : BitVec 64) : 0 ≤ U64 x ∧ U64 x < 18446744073709551616 := by unfold U64; have := x.isLt; omega

theorem wrap_u32_mod (n : Int) : IntKind.u32.wrap n = n % 4294967296 := by simp [IntKind.wrap, IntKind.bits, IntKind.signed]
theorem wrap_u8_mod (n : Int) : IntKind.u8.wrap n = n % 256 := by simp [IntKind.wrap, IntKind.bits, IntKind.signed]
theorem wrap_u64_mod (n : Int) : IntKind.u64.wrap n = n % 18446744073709551616 := by simp [IntKind.wrap, IntKind.bits, IntKind.signed]

@[go_sem] theorem u32_add (x y : BitVec 32) : IntKind.u32.wrap (U32 x + U32 y) = U32 (x + y) := by
  rw [wrap_u32_mod]; unfold U32; rw [BitVec.toNat_add]; omega
@[go_sem] theorem u32_xor (x y : BitVec 32) : bits .xor .u32 (U32 x) (U32 y) = U32 (x ^^^ y) := by
  unfold U32; rw [u32_xor_nat _ _ (by exact x.isLt) (by exact y.isLt), BitVec.toNat_xor]
@[go_sem] theorem u32_and' (x y : BitVec 32) : bits .and .u32 (U32 x) (U32 y) = U32 (x &&& y) := by
  unfold U32; rw [u32_and_nat _ _ (by exact x.isLt) (by exact y.isLt), BitVec.toNat_and]
@[go_sem] theorem u32_or' (x y : BitVec 32) : bits .or .u32 (U32 x) (U32 y) = U32 (x ||| y) := by
  unfold U32; rw [u32_or_nat _ _ (by exact x.isLt) (by exact y.isLt), BitVec.toNat_or]

theorem min_bits {n b : Nat} (h : n < b) : min n b = n := by omega

@[go_sem ↓] theorem u32_shr (x : BitVec 32) (yk : IntKind) (y : Int) (h0 : 0 ≤ y) : Op.shift .shr .u32 (U32 x) yk y = pure (.int .u32 (U32 (x >>> y.toNat))) := by
  rw [shift_shr_any _ _ _ _ h0]
  congr 2
  unfold U32
  rw [BitVec.toNat_ushiftRight]
  by_cases h : y.toNat < 32
  · rw [show IntKind.u32.bits = 32 from rfl, min_bits h, Nat.shiftRight_eq_div_pow]; norm_cast
  · have h32 : min y.toNat IntKind.u32.bits = 32 := by show min y.toNat 32 = 32; omega
    rw [h32, Nat.shiftRight_eq_div_pow]
    have : x.toNat / 2 ^ y.toNat = 0 := Nat.div_eq_of_lt (Nat.lt_of_lt_of_le x.isLt (Nat.pow_le_pow_right (by omega) (by omega)))
    rw [this]
    have := x.isLt
    omega

@[go_sem ↓] theorem u32_shl (x : BitVec 32) (yk : IntKind) (y : Int) (h0 : 0 ≤ y) : Op.shift .shl .u32 (U32 x) yk y = pure (.int .u32 (U32 (x <<< y.toNat))) := by
  rw [shift_shl_any _ _ _ _ h0]
  congr 2
  unfold U32
  rw [wrap_u32_mod, BitVec.toNat_shiftLeft, Nat.shiftLeft_eq, show (2 : Nat) ^ 32 = 4294967296 from rfl]
  by_cases h : y.toNat < 32
  · rw [show IntKind.u32.bits = 32 from rfl, min_bits h]
    simp only [Int.natCast_emod, Int.natCast_mul, Int.natCast_pow]
    rfl
  · have h32 : min y.toNat IntKind.u32.bits = 32 := by show min y.toNat 32 = 32; omega
    rw [h32]
    obtain ⟨d, hd⟩ : ∃ d, y.toNat = 32 + d := ⟨y.toNat - 32, by omega⟩
    rw [hd, Nat.pow_add, show (2 : Nat) ^ 32 = 4294967296 from rfl]
    have e1 : x.toNat * (4294967296 * 2 ^ d) % 4294967296 = 0 := by rw [← Nat.mul_assoc, Nat.mul_comm _ 4294967296, Nat.mul_assoc]; exact Nat.mul_mod_right _ _
    rw [e1, show (2 : Int) ^ 32 = 4294967296 from rfl]
    omega

@[go_sem] theorem u8_to_u32 (x : BitVec 8) : IntKind.u32.wrap (U8 x) = U32 (x.setWidth 32) := by
  rw [wrap_u32_mod]; unfold U8 U32; rw [BitVec.toNat_setWidth]; have := x.isLt; omega
@[go_sem] theorem u8_to_u64 (x : BitVec 8) : IntKind.u64.wrap (U8 x) = U64 (x.setWidth 64) := by
  rw [wrap_u64_mod]; unfold U8 U64; rw [BitVec.toNat_setWidth]; have := x.isLt; omega
@[go_sem] theorem u32_to_u64 (x : BitVec 32) : IntKind.u64.wrap (U32 x) = U64 (x.setWidth 64) := by
  rw [wrap_u64_mod]; unfold U32 U64; rw [BitVec.toNat_setWidth]; have := x.isLt; omega
@[go_sem] theorem u64_to_u8 (x : BitVec 64) : IntKind.u8.wrap (U64 x) = U8 (x.setWidth 8) := by
  rw [wrap_u8_mod]; unfold U64 U8; rw [BitVec.toNat_setWidth]; omega
@[go_sem] theorem u32_to_u8 (x : BitVec 32) : IntKind.u8.wrap (U32 x) = U8 (x.setWidth 8) := by
  rw [wrap_u8_mod]; unfold U32 U8; rw [BitVec.toNat_setWidth]; omega
@[go_sem] theorem u64_to_u32 (x : BitVec 64) : IntKind.u32.wrap (U64 x) = U32 (x.setWidth 32) := by
  rw [wrap_u32_mod]; unfold U64 U32; rw [BitVec.toNat_setWidth]; omega

@[go_sem ↓] theorem u64_shr (x : BitVec 64) (yk : IntKind) (y : Int) (h0 : 0 ≤ y) : Op.shift .shr .u64 (U64 x) yk y = pure (.int .u64 (U64 (x >>> y.toNat))) := by
  rw [shift_shr_any _ _ _ _ h0]
  congr 2
  unfold U64
  rw [BitVec.toNat_ushiftRight]
  by_cases h : y.toNat < 64
  · rw [show IntKind.u64.bits = 64 from rfl, min_bits h, Nat.shiftRight_eq_div_pow]; norm_cast
  · have h64 : min y.toNat IntKind.u64.bits = 64 := by show min y.toNat 64 = 64; omega
    rw [h64, Nat.shiftRight_eq_div_pow]
    have : x.toNat / 2 ^ y.toNat = 0 := Nat.div_eq_of_lt (Nat.lt_of_lt_of_le x.isLt (Nat.pow_le_pow_right (by omega) (by omega)))
    rw [this]
    have := x.isLt
    omega

@[go_sem] theorem u64_add (x y : BitVec 64) : IntKind.u64.wrap (U64 x + U64 y) = U64 (x + y) := by
  rw [wrap_u64_mod]; unfold U64; rw [BitVec.toNat_add]; omega
@[go_sem] theorem u64_sub (x y : BitVec 64) : IntKind.u64.wrap (U64 x - U64 y) = U64 (x - y) := by
  rw [wrap_u64_mod]; unfold U64; rw [BitVec.toNat_sub]; have := x.isLt; have := y.isLt; omega
@[go_sem] theorem u64_xor' (x y : BitVec 64) : bits .xor .u64 (U64 x) (U64 y) = U64 (x ^^^ y) := by
  unfold U64; rw [u64_xor_nat _ _ (by exact x.isLt) (by exact y.isLt), BitVec.toNat_xor]
@[go_sem] theorem u64_and' (x y : BitVec 64) : bits .and .u64 (U64 x) (U64 y) = U64 (x &&& y) := by
  unfold U64; rw [u64_and_nat _ _ (by exact x.isLt) (by exact y.isLt), BitVec.toNat_and]
@[go_sem] theorem u64_or' (x y : BitVec 64) : bits .or .u64 (U64 x) (U64 y) = U64 (x ||| y) := by
  unfold U64; rw [u64_or_nat _ _ (by exact x.isLt) (by exact y.isLt), BitVec.toNat_or]
@[go_sem] theorem u8_xor' (x y : BitVec 8) : bits .xor .u8 (U8 x) (U8 y) = U8 (x ^^^ y) := by
  unfold U8; rw [u8_xor_nat _ _ (by exact x.isLt) (by exact y.isLt), BitVec.toNat_xor]

/-- An int, as a word of 64 bits. -/
theorem wrap_u64_ofInt (n : Int) : IntKind.u64.wrap n = U64 (BitVec.ofInt 64 n) := by
  rw [wrap_u64_mod]; unfold U64; rw [BitVec.toNat_ofInt]
  have : 0 ≤ n % 18446744073709551616 := Int.emod_nonneg _ (by decide)
  omega
theorem wrap_u32_ofInt (n : Int) : IntKind.u32.wrap n = U32 (BitVec.ofInt 32 n) := by
  rw [wrap_u32_mod]; unfold U32; rw [BitVec.toNat_ofInt]
  have : 0 ≤ n % 4294967296 := Int.emod_nonneg _ (by decide)
  omega
theorem wrap_u8_ofInt (n : Int) : IntKind.u8.wrap n = U8 (BitVec.ofInt 8 n) := by
  rw [wrap_u8_mod]; unfold U8; rw [BitVec.toNat_ofInt]
  have : 0 ≤ n % 256 := Int.emod_nonneg _ (by decide)
  omega

theorem U8_inj {x y : BitVec 8} (h : U8 x = U8 y) : x = y := by unfold U8 at h; exact BitVec.eq_of_toNat_eq (by omega)
theorem U32_inj {x y : BitVec 32} (h : U32 x = U32 y) : x = y := by unfold U32 at h; exact BitVec.eq_of_toNat_eq (by omega)
theorem U64_inj {x y : BitVec 64} (h : U64 x = U64 y) : x = y := by unfold U64 at h; exact BitVec.eq_of_toNat_eq (by omega)

/-- A number in range is a word. -/
theorem U8_of {n : Int} (h0 : 0 ≤ n) (h : n < 256) : n = U8 (BitVec.ofInt 8 n) := by
  rw [← wrap_u8_ofInt, wrap_u8_mod]; omega
theorem U32_of {n : Int} (h0 : 0 ≤ n) (h : n < 4294967296) : n = U32 (BitVec.ofInt 32 n) := by
  rw [← wrap_u32_ofInt, wrap_u32_mod]; omega
theorem U64_of {n : Int} (h0 : 0 ≤ n) (h : n < 18446744073709551616) : n = U64 (BitVec.ofInt 64 n) := by
  rw [← wrap_u64_ofInt, wrap_u64_mod]; omega

/-- Rotations. -/
def rl (x : BitVec 32) (n : Nat) : BitVec 32 := x <<< n ||| x >>> (32 - n)
def rr (x : BitVec 32) (n : Nat) : BitVec 32 := x >>> n ||| x <<< (32 - n)

end Chart
