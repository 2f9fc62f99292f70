/- The unsigned form of an int. -/
import Derived.Test.YtphgokaeonkjaaaDoorNumeral
namespace Chart
open Go Go.RowKit Go.Proofs

theorem zz_bits (n : Int) (h0 : -9223372036854775808 ≤ n) (h1 : n ≤ 9223372036854775807) :
    bits .xor .u64 (IntKind.u64.wrap (IntKind.u64.wrap n * 2)) (IntKind.u64.wrap (n / 9223372036854775808)) = (zz n : Int) := by
  by_cases h : 0 ≤ n
  · have e1 : n / 9223372036854775808 = 0 := by omega
    have e2 : IntKind.u64.wrap (IntKind.u64.wrap n * 2) = U64 (BitVec.ofNat 64 (2 * n).toNat) := by
      rw [wrap_u64_mod, wrap_u64_mod]; unfold U64; rw [BitVec.toNat_ofNat]; omega
    have e3 : IntKind.u64.wrap 0 = U64 0#64 := rfl
    rw [e1, e2, e3, u64_xor', BitVec.xor_zero]
    unfold U64 zz
    rw [BitVec.toNat_ofNat, if_pos h]; omega
  · have e1 : n / 9223372036854775808 = -1 := by omega
    have e2 : IntKind.u64.wrap (IntKind.u64.wrap n * 2) = U64 (BitVec.ofNat 64 (2 * n + 18446744073709551616).toNat) := by
      rw [wrap_u64_mod, wrap_u64_mod]; unfold U64; rw [BitVec.toNat_ofNat]; omega
    have e3 : IntKind.u64.wrap (-1) = U64 (BitVec.allOnes 64) := rfl
    rw [e1, e2, e3, u64_xor', BitVec.xor_allOnes]
    unfold U64 zz
    rw [BitVec.toNat_not, BitVec.toNat_ofNat, if_neg h]; omega

set_option maxHeartbeats 1000000 in
set_option maxRecDepth 100000 in
theorem unsigned_any (n : Int) (w : World) (h0 : -9223372036854775808 ≤ n) (h1 : n ≤ 9223372036854775807) :
    Calls Tryd.prog 99 #[.int .i64 n] w fun e w' => e = .returned (.int .u64 (zz n)) ∧ w' = w := by
  go_enter Tryd.func99, Tryd.ntmps99
  go_wp2
  go_ret
  rw [zz_bits n h0 h1]
  exact ⟨rfl, rfl⟩

set_option maxHeartbeats 1000000 in
set_option maxRecDepth 100000 in
theorem refunsigned_any (n : Int) (w : World) (h0 : -9223372036854775808 ≤ n) (h1 : n ≤ 9223372036854775807) :
    Calls Tryd.prog 124 #[.int .i64 n] w fun e w' => e = .returned (.int .u64 (zz n)) ∧ w' = w := by
  by_cases h : 0 ≤ n
  · have hz : (2 * n) = (zz n : Int) := by unfold zz; rw [if_pos h]; omega
    go_enter Tryd.func124, Tryd.ntmps124
    go_wp2
    go_ret
    exact ⟨rfl, rfl⟩
  · have hz : 2 * -(n + 1) + 1 = (zz n : Int) := by unfold zz; rw [if_neg h]; omega
    go_enter Tryd.func124, Tryd.ntmps124
    go_wp2
    go_ret
    refine ⟨?_, rfl⟩
    rw [← hz]; rfl

/-- A slice literal of one byte is the call's own. -/
theorem OB.one (w : World) (B b : Nat) (x : BitVec 8) (c : Value) (hb : w.heap.size = b) (hc : c = B8 x) (hB : B ≤ b) : OB (w.alloc (.cells #[c] 5)) B (.slice (some ⟨b, 0, none⟩) 1 1) [x] := by
  subst hb hc
  exact ⟨by simp, .inr ⟨w.heap.size, 1, #[B8 x], rfl, hB, heap_alloc_new w _, Nat.le_refl _, by unfold maxLen; omega, by simp, by simp⟩⟩

theorem numl_step (u : Nat) : (Value.int .u8 ((u : Int) % 128 + 128)) = B8 (BitVec.ofNat 8 (u % 128 + 128)) := by
  unfold B8 U8; rw [BitVec.toNat_ofNat]; congr 1; omega

set_option maxHeartbeats 1000000 in
set_option maxRecDepth 100000 in
theorem refnumeral_any : ∀ (k u : Nat) (w : World), u < 2 ^ 64 → u < 128 ^ k → 0 < k → k ≤ 10 →
    Calls Tryd.prog 123 #[.int .u64 u] w fun e w' => ∃ v', e = .returned v' ∧ OB w' w.heap.size v' (numl u) ∧ Below w.heap.size w w' ∧ (numl u).length ≤ k
  | 0, _, _, _, _, h, _ => absurd h (by omega)
  | k + 1, u, w, hu, hk, _, hk10 => by
    by_cases hlt : u < 128
    · have hc : (u : Int) < 128 := by omega
      have hb : (Value.int .u8 (u : Int)) = B8 (BitVec.ofNat 8 u) := by unfold B8 U8; rw [BitVec.toNat_ofNat]; congr 1; omega
      go_enter Tryd.func123, Tryd.ntmps123
      go_wp2
      go_ret
      rw [numl_lt u hlt]
      exact ⟨_, rfl, OB.one w _ _ _ _ rfl rfl (Nat.le_refl _), (Below.refl _ w).alloc (Nat.le_refl _) _, by simp⟩
    · have hc : ¬ (u : Int) < 128 := by omega
      have hk0 : 0 < k := by
        rcases Nat.eq_zero_or_pos k with rfl | hk
        · simp at hk; omega
        · exact hk
      have hrec : ∀ w', Calls Tryd.prog 123 #[.int .u64 (u / 128 : Nat)] w' fun e w2 => ∃ v', e = .returned v' ∧ OB w2 w'.heap.size v' (numl (u / 128)) ∧ Below w'.heap.size w' w2 ∧ (numl (u / 128)).length ≤ k :=
        fun w' => refnumeral_any k (u / 128) w' (by omega) (by rw [Nat.pow_succ] at hk; exact Nat.div_lt_of_lt_mul (by rw [Nat.mul_comm]; exact hk)) hk0 (by omega)
      go_enter Tryd.func123, Tryd.ntmps123
      have hst := numl_step u
      have HS := Lib.hid hst
      clear hst
      obtain ⟨b, hb⟩ : ∃ b, w.heap.size = b := ⟨_, rfl⟩
      rw [hb]
      go_wp2_with fail
      rw [show ((u : Int) / 128) = ((u / 128 : Nat) : Int) by omega]
      refine (hrec _).mono ?_
      rintro e w2 ⟨v2, rfl, ho2, hb2, hl2⟩
      rw [World.size_alloc, hb] at ho2 hb2
      have ho1 := (OB.one w b b _ _ hb HS.out (Nat.le_refl _)).kept (World.grownBy.of_below (show Below (w.alloc (.cells #[.int .u8 ((u : Int) % 128 + 128)] 5)).heap.size _ w2 by rw [World.size_alloc, hb]; exact hb2) none) (.inr (by simp [Value.ownBlock]))
      have hs2 := hb2.size
      rw [World.size_alloc, hb] at hs2
      go_wp2_with (at_builtin; refine app2 rfl _ _ rfl b _ _ rfl ho1 _ _ rfl ho2.bs (by simp; omega) (by omega) ?_; intro v3 w3 ho3 hg3)
      go_ret
      rw [numl_ge u hlt]
      refine ⟨_, rfl, ho3, ?_, by simp; omega⟩
      exact (((Below.refl b w).alloc (by omega) _).trans (hb2.mono (by omega))).trans (hg3.below (by omega) ho1)
termination_by k => k
end Chart
