/- The binary digits of a number, one by one. -/
import Derived.Test.YtphgokaeonkjaaaDoorDivP
import Derived.Test.YtphgokaeonkjaaaDoorStepD
namespace Chart
open Go Go.RowKit Go.Shelf Go.Proofs
attribute [local go_sem] Oper.semAt_some

theorem bit_and_one (q : Nat) (hq : q < 18446744073709551616) : bits .and .u64 (q : Int) 1 = ((q % 2 : Nat) : Int) := by
  have e := u64_and_nat q 1 (by omega) (by omega)
  have h2 : q &&& 1 = q % 2 := Nat.and_two_pow_sub_one_eq_mod q 1
  rw [h2] at e
  exact e

/-- Is a binary digit set? -/
def bitB (k i : Nat) : Bool := k / 2 ^ i % 2 == 1

set_option maxHeartbeats 1000000 in
set_option maxRecDepth 100000 in
theorem digits1_in (m : Nat) (hm : 1 ≤ m) (l bk n k : Nat) (hk : k < 18446744073709551616) (hn : Lib.bitLen k = n) (hn64 : n ≤ 64) (J : Nat → World → Prop)
    (hrow : ∀ j W, J j W → W.cell? ⟨bk, 0, none⟩ = some (.int .u64 (k : Int)))
    (hY : ∀ j W, j < n → J j W → YieldAt Fence.wide (m - 1) Tryd.prog l #[.bool (bitB k (n - 1 - j))] W fun e W' => e = .returned (.bool true) ∧ J (j + 1) W')
    (W : World) (h0 : J 0 W) :
    CallsIn Fence.wide m Tryd.prog 116 #[.func (.yield l) #[] #[], .pointer (some ⟨bk, 0, none⟩)] W fun e W' => (∃ v, e = .returned v) ∧ J n W' := by
  have hln := Tryd.bits_Len64 (k : Int) W (by omega) (by omega)
  rw [Int.toNat_natCast, hn] at hln
  have hc0 := hrow 0 W h0
  clear hn
  refine callsIn_of_wp Tryd.func116 rfl trivial ?_ rfl
  simp only [Tryd.ntmps116, List.size_toArray, List.length_cons, List.length_nil, Nat.reduceAdd, Nat.reduceSub, Array.replicate_succ, Array.replicate_zero, List.push_toArray, List.append_toArray, List.nil_append, List.cons_append]
  gi_wp2_with (refine ⟨trivial, ?_⟩; gi_at_call 117; refine (callsIn_wide.2 hln).mono ?_; rintro e w' ⟨rfl, rfl⟩)
  gi_loopw [3] (fun t wr => ∃ j : Nat, j ≤ n ∧ t = .int .i64 ((n : Int) - 1 - j) ∧ J j wr) (fun t _ => (intOf t + 1).toNat)
  case atStart => exact ⟨0, by omega, by simp, h0⟩
  case round =>
    obtain ⟨j, hj, rfl, hJ⟩ := hrel
    by_cases hlt : j < n
    · obtain ⟨i, hi⟩ : ∃ i : Nat, n - 1 - j = i := ⟨_, rfl⟩
      have hii : (n : Int) - 1 - j = (i : Int) := by omega
      have hi64 : i < 64 := by omega
      have hc := hrow j wr hJ
      obtain ⟨q, hq⟩ : ∃ q : Nat, k / 2 ^ i = q := ⟨_, rfl⟩
      have hql : q < 18446744073709551616 := by rw [← hq]; exact Nat.lt_of_le_of_lt (Nat.div_le_self _ _) hk
      have hqi : (k : Int) / 2 ^ i = (q : Int) := by rw [← hq]; norm_cast
      have hand : bits .and .u64 ((k : Int) / 2 ^ i) 1 = ((q % 2 : Nat) : Int) := by rw [hqi]; exact bit_and_one q hql
      obtain ⟨b, hb⟩ : ∃ b, bitB k i = b := ⟨_, rfl⟩
      have hbe : (((q % 2 : Nat) : Int) == 1) = b := by
        rw [← hb, bitB, hq, Bool.eq_iff_iff]
        simp
        omega
      have hy := hY j wr hlt hJ
      rw [hi, hb] at hy
      obtain ⟨fn, tmps, assign, body, hy, hR⟩ := hy
      have HN := Lib.hid hii
      rw [hii]
      clear hY hq hb hii hi hln hc0 h0 hrow hqi
      generalize ((q % 2 : Nat) : Int) = r at *
      gi_wp2
      refine hR.mono ?_
      rintro e W3 ⟨rfl, hJ2⟩
      gi_wp2
      go_roundw
      case rel => exact ⟨j + 1, by omega, by have := HN.out; congr 1 <;> omega, hJ2⟩
      case measure => (try simp [intOf]) <;> (have := HN.out; omega)
    · obtain rfl : j = n := by omega
      gi_wp2
      go_end0
      exact ⟨⟨_, rfl⟩, hJ⟩
end Chart
