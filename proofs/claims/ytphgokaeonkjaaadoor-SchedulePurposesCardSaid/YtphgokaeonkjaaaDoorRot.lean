/- The walks of the small functions on words of 32 bits: RotateLeft32, rotated, word, ror. -/
import Derived.Test.YtphgokaeonkjaaaDoorProg
import Derived.Test.YtphgokaeonkjaaaDoorSha
import Derived.Test.YtphgokaeonkjaaaDoorMem
import Derived.Outline
import Derived.Lib.Hide
import Derived.Deep.QuietTactic
import Derived.BigQuiet
namespace Chart
open Go Go.RowKit Go.Proofs

theorem and31 (k : Int) : bits .and .u64 (IntKind.u64.wrap k) 31 = (((k % 32).toNat : Nat) : Int) := by
  have h := wrap_u64_mod k
  have h0 : 0 ≤ k % 18446744073709551616 := Int.emod_nonneg _ (by decide)
  have h1 : k % 18446744073709551616 < 18446744073709551616 := Int.emod_lt_of_pos _ (by decide)
  obtain ⟨n, hn⟩ := Int.eq_ofNat_of_zero_le h0
  rw [h, hn]
  rw [show (31 : Int) = ((31 : Nat) : Int) from rfl, u64_and_nat _ _ (by omega) (by omega), nat_mask5]
  omega

set_option maxHeartbeats 400000 in
theorem rotl_any (x : BitVec 32) (k : Int) (w : World) :
    Calls Tryd.prog 87 #[B32 x, .int .i64 k] w fun e w' => e = .returned (B32 (rl x (k % 32).toNat)) ∧ w = w' := by
  obtain ⟨n, hn⟩ : ∃ n, n = (k % 32).toNat := ⟨_, rfl⟩
  have hlt : n < 32 := by omega
  have e1 : bits .and .u64 (IntKind.u64.wrap k) 31 = (n : Int) := by rw [hn]; exact and31 k
  rw [← hn]
  clear hn
  have e2 : IntKind.u64.wrap (32 - (n : Int)) = ((32 - n : Nat) : Int) := by rw [wrap_u64_mod]; omega
  go_enter Tryd.func87, Tryd.ntmps87
  go_wp2
  go_ret
  refine ⟨?_, rfl⟩
  simp [rl]

set_option maxHeartbeats 400000 in
theorem rotated_any (x : BitVec 32) (a b c : Int) (w : World) (ha : 0 ≤ a) (ha2 : a ≤ 64) (hb : 0 ≤ b) (hb2 : b ≤ 64) (hc : 0 ≤ c) (hc2 : c ≤ 64) :
    Calls Tryd.prog 88 #[B32 x, .int .i64 a, .int .i64 b, .int .i64 c] w fun e w' =>
      e = .returned (B32 (rl x (-a % 32).toNat ^^^ rl x (-b % 32).toNat ^^^ rl x (-c % 32).toNat)) ∧ w = w' := by
  go_enter Tryd.func88, Tryd.ntmps88
  go_wp2_with (go_at_call 87; refine (rotl_any _ _ _).mono ?_; rintro e w' ⟨rfl, rfl⟩)
  go_ret
  refine ⟨?_, rfl⟩
  simp

set_option maxHeartbeats 400000 in
theorem word_any (b off len cap : Nat) (l : List (BitVec 8)) (w : World) (hl : l.length = 4) (hcap : 4 ≤ cap) (hm : cap ≤ maxLen) (hb : BytesAt w b off l) :
    Calls Tryd.prog 86 #[.slice (some ⟨b, off, none⟩) len cap] w fun e w' => e = .returned (B32 (wd l)) ∧ w = w' := by
  unfold maxLen at hm
  go_enter Tryd.func86, Tryd.ntmps86
  go_wp2
  go_loop [2, 8] (fun n i => ∃ k : Nat, k ≤ 4 ∧ i = .int .i64 k ∧ n = B32 (wd (l.take k))) (fun _ i => 4 - (intOf i).toNat)
  case atStart => exact ⟨0, Nat.zero_le _, rfl, rfl⟩
  case round =>
    obtain ⟨k, hk, rfl, rfl⟩ := hrel
    by_cases hlt : k < 4
    · obtain ⟨x, hx⟩ : ∃ x, l[k]? = some x := ⟨l[k]'(by omega), by simp [show k < l.length by omega]⟩
      have hc := hb k x hx
      have hs : wd (l.take (k + 1)) = wd (l.take k) <<< 8 ||| x.setWidth 32 := by
        rw [List.take_add_one, hx]; simp [wd]
      have HS := Lib.hid hs
      clear hs hx
      go_wp2
      go_round
      case rel => exact ⟨k + 1, by omega, by go_num, by rw [HS.out]⟩
      case measure => simp [intOf]; omega
    · obtain rfl : k = 4 := by omega
      go_wp2
      go_ret
      exact ⟨by rw [List.take_of_length_le (by omega)]; rfl, rfl⟩

set_option maxHeartbeats 400000 in
theorem ror_any (x : BitVec 32) (k : Int) (w : World) (h0 : 0 ≤ k) (h : k ≤ 32) :
    Calls Tryd.prog 113 #[B32 x, .int .i64 k] w fun e w' => e = .returned (B32 (rr x k.toNat)) ∧ ∃ n, w.drewN n = w' := by
  have e1 : (32 - k).toNat = 32 - k.toNat := by omega
  have e2 : (0 : Int) ≤ 32 - k := by omega
  have HE := Lib.hid e1
  clear e1
  go_enter Tryd.func113, Tryd.ntmps113
  go_wp2
  go_quiet (fail)
  go_wp2
  go_ret
  refine ⟨?_, _, rfl⟩
  simp [rr, HE.out]

set_option maxHeartbeats 400000 in
theorem refword_any (b off len cap : Nat) (x0 x1 x2 x3 : BitVec 8) (w : World) (hl : 4 ≤ len) (hm : len ≤ maxLen) (hb : BytesAt w b off [x0, x1, x2, x3]) :
    Calls Tryd.prog 112 #[.slice (some ⟨b, off, none⟩) len cap] w fun e w' => e = .returned (B32 (wd [x0, x1, x2, x3])) ∧ ∃ n, w.drewN n = w' := by
  unfold maxLen at hm
  have c0 : w.cell? ⟨b, off, none⟩ = some (B8 x0) := hb 0 x0 rfl
  have c1 : w.cell? ⟨b, off + 1, none⟩ = some (B8 x1) := hb 1 x1 rfl
  have c2 : w.cell? ⟨b, off + 2, none⟩ = some (B8 x2) := hb 2 x2 rfl
  have c3 : w.cell? ⟨b, off + 3, none⟩ = some (B8 x3) := hb 3 x3 rfl
  clear hb
  have l1 : (1 : Int) < (len : Int) := by omega
  have l2 : (2 : Int) < (len : Int) := by omega
  have l3 : (3 : Int) < (len : Int) := by omega
  have l0 : (0 : Int) < (len : Int) := by omega
  go_enter Tryd.func112, Tryd.ntmps112
  go_wp2
  go_quiet (fail)
  go_wp2
  go_ret
  refine ⟨?_, _, rfl⟩
  rw [wd4]; rfl
end Chart
