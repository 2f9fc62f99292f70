/- Numerals of seven bits a byte; the unsigned form of an int. -/
import Derived.Test.YtphgokaeonkjaaaDoorApp
namespace Chart
open Go Go.RowKit Go.Proofs

/-- The bytes of a number, seven bits each, the lowest first. -/
def numl (u : Nat) : List (BitVec 8) := if u < 128 then [BitVec.ofNat 8 u] else BitVec.ofNat 8 (u % 128 + 128) :: numl (u / 128)
termination_by u
decreasing_by omega

theorem numl_lt (u : Nat) (h : u < 128) : numl u = [BitVec.ofNat 8 u] := by rw [numl, if_pos h]
theorem numl_ge (u : Nat) (h : ¬ u < 128) : numl u = BitVec.ofNat 8 (u % 128 + 128) :: numl (u / 128) := by rw [numl, if_neg h]
theorem length_numl : ∀ k u, u < 128 ^ k → 0 < k → (numl u).length ≤ k
  | 0, _, _, h => absurd h (by omega)
  | k + 1, u, hu, _ => by
    by_cases h : u < 128
    · rw [numl_lt u h]; simp
    · rw [numl_ge u h]
      have hk : 0 < k := by
        rcases Nat.eq_zero_or_pos k with rfl | hk
        · simp at hu; omega
        · exact hk
      have := length_numl k (u / 128) (by rw [Nat.pow_succ] at hu; exact Nat.div_lt_of_lt_mul (by rw [Nat.mul_comm]; exact hu)) hk
      simp; omega
theorem length_numl_u64 (u : Nat) (h : u < 2 ^ 64) : (numl u).length ≤ 10 := length_numl 10 u (Nat.lt_of_lt_of_le h (by decide)) (by omega)

/-- The unsigned form of an int. -/
def zz (n : Int) : Nat := if 0 ≤ n then (2 * n).toNat else (-2 * n - 1).toNat
theorem zz_lt (n : Int) (h0 : -9223372036854775808 ≤ n) (h1 : n ≤ 9223372036854775807) : zz n < 2 ^ 64 := by
  unfold zz; split <;> omega

@[local go_sem ↓] theorem u8_or128 (x : BitVec 8) : bits .or .u8 (U8 x) 128 = U8 (x ||| 128#8) := by
  have : (128 : Int) = U8 128#8 := rfl
  rw [this]
  unfold U8
  rw [u8_or_nat _ _ (by exact x.isLt) (by decide), BitVec.toNat_or]

set_option maxHeartbeats 1000000 in
set_option maxRecDepth 100000 in
theorem numeral_any (v : Value) (l : List (BitVec 8)) (u : Nat) (w : World) (B : Nat) (hB : B ≤ w.heap.size) (hv : OB w B v l) (hu : u < 2 ^ 64) (hl : l.length + 10 ≤ 140737488355328) :
    Calls Tryd.prog 98 #[v, .int .u64 u] w fun e w' => ∃ v', e = .returned v' ∧ OB w' B v' (l ++ numl u) ∧ Grew w v w' v' := by
  obtain ⟨x, hx⟩ : ∃ x : BitVec 64, x.toNat = u := ⟨BitVec.ofNat 64 u, by rw [BitVec.toNat_ofNat]; omega⟩
  have hux : (u : Int) = U64 x := by unfold U64; rw [hx]
  have hlu := length_numl_u64 u hu
  rw [hux]
  go_enter Tryd.func98, Tryd.ntmps98
  go_wp2
  go_loopw [0, 1] (fun s t wr => ∃ (l' : List (BitVec 8)) (y : BitVec 64), t = B64 y ∧ OB wr B s l' ∧ l' ++ numl y.toNat = l ++ numl u ∧ Grew w v wr s) (fun _ t _ => (intOf t).toNat)
  case atStart => exact ⟨l, x, rfl, hv, by rw [hx], .refl _ _⟩
  case round =>
    obtain ⟨l', y, rfl, ho, he, hg⟩ := hrel
    have hl' : l'.length + (numl y.toNat).length = l.length + (numl u).length := by rw [← List.length_append, he, List.length_append]
    have hsz := hg.grown.size
    by_cases hlt : y.toNat < 128
    · have hc : ¬ (128 ≤ U64 y) := by unfold U64; omega
      have hc' : U64 y < 128 := by unfold U64; omega
      rw [numl_lt _ hlt] at he hl'
      simp at hl'
      go_wp2_with (at_builtin; refine app2 rfl _ _ rfl B _ _ rfl (ho.al _) _ _ rfl (BS.one wr _ _ _ _ rfl rfl) (by simp; omega) (by simp; omega) ?_; intro v2 w2 ho2 hg2)
      go_ret
      refine ⟨_, rfl, ?_, hg.trans hg2.al⟩
      rw [← he]
      have hy : BitVec.ofNat 8 y.toNat = y.setWidth 8 := by apply BitVec.eq_of_toNat_eq; simp
      rw [hy]; exact ho2
    · have hc : (128 ≤ U64 y) := by unfold U64; omega
      rw [numl_ge _ hlt] at he hl'
      simp at hl'
      have hy7 : (y >>> 7).toNat = y.toNat / 128 := by rw [BitVec.toNat_ushiftRight, Nat.shiftRight_eq_div_pow]
      have hyb : BitVec.ofNat 8 (y.toNat % 128 + 128) = y.setWidth 8 ||| 128#8 := by
        apply BitVec.eq_of_toNat_eq
        rw [BitVec.toNat_or, BitVec.toNat_setWidth, BitVec.toNat_ofNat]
        have h1 : y.toNat % 2 ^ 8 = 128 * (y.toNat / 128 % 2) + y.toNat % 128 := by omega
        have h2 : y.toNat % 128 < 128 := Nat.mod_lt _ (by omega)
        rw [h1]
        generalize y.toNat % 128 = r at *
        have h3 : y.toNat / 128 % 2 = 0 ∨ y.toNat / 128 % 2 = 1 := by omega
        have h4 : (128#8).toNat = 2 ^ 7 * 1 := rfl
        rcases h3 with h3 | h3
        · rw [h3, h4, Nat.or_comm, Nat.mul_zero, Nat.zero_add, ← Nat.two_pow_add_eq_or_of_lt (by omega)]; omega
        · rw [h3, h4, show 128 * 1 + r = 2 ^ 7 * 1 + r by omega, Nat.two_pow_add_eq_or_of_lt (by omega : r < 2 ^ 7), Nat.or_comm, ← Nat.or_assoc, Nat.or_self, ← Nat.two_pow_add_eq_or_of_lt (by omega : r < 2 ^ 7)]; omega
      have HB := Lib.hid hyb
      clear hyb
      go_wp2_with (at_builtin; refine app2 rfl _ _ rfl B _ _ rfl (ho.al _) _ _ rfl (BS.one wr _ _ _ _ rfl rfl) (by simp; omega) (by simp; omega) ?_; intro v2 w2 ho2 hg2)
      go_roundw
      case rel =>
        refine ⟨_, y >>> 7, rfl, ho2, ?_, hg.trans hg2.al⟩
        rw [hy7, ← he, HB.out, List.append_assoc]; rfl
      case measure => simp [intOf, U64, hy7]; omega
end Chart
