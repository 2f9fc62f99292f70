/- group.Check, Exp, Base. -/
import Derived.Test.YtphgokaeonkjaaaDoorPower
import Derived.Test.YtphgokaeonkjaaaDoorNum
namespace Chart
open Go Go.RowKit Go.Proofs

set_option maxHeartbeats 1000000 in
set_option maxRecDepth 100000 in
theorem check_any (a : Nat) (w : World) (h1 : 1 ≤ a) (h2 : a < 4611686018427377339) (h3 : a ^ Q % 4611686018427377339 = 1) :
    Calls Tryd.prog 51 #[.int .i64 a] w fun e w' => e = .returned (.int .i64 0) ∧ Below w.heap.size w w' := by
  have hp := fun w' => power_any a Q w' h2 (by unfold Q; decide)
  rw [h3] at hp
  obtain ⟨A, hA⟩ : ∃ A : Int, (a : Int) = A := ⟨_, rfl⟩
  have hq : ((Q : Nat) : Int) = 2305843009213688669 := rfl
  rw [hA, hq] at hp
  have b1 : ¬ A < 1 := by omega
  have b2 : ¬ (4611686018427377339 ≤ A) := by omega
  have b3 : (0 : Int) ≤ A := by omega
  have b4 : A < 4611686018427377339 := by omega
  rw [hA]
  clear hA h1 h2 h3 hq
  go_enter Tryd.func51, Tryd.ntmps51
  go_wp2_with (go_at_call 71; refine (hp _).mono ?_; rintro e w' ⟨rfl, hb⟩)
  go_ret
  exact ⟨rfl, hb⟩

theorem gen_Q (k : Nat) : (4 ^ k % 4611686018427377339) ^ Q % 4611686018427377339 = 1 := by
  rw [← Nat.pow_mod, ← Nat.pow_mul, Nat.mul_comm]
  have h1 : 1 % P = 1 := by decide
  have h := pow_one_mul (m := P) (g := 4) (a := Q) (t := k) (by rw [four_Q, h1])
  rw [h1] at h
  exact h
theorem four_Q' : 4 ^ Q % 4611686018427377339 = 1 := by
  have h := four_Q
  rw [show P = 4611686018427377339 from rfl] at h
  exact h
theorem Q_pos : 0 < Q := by unfold Q; decide
theorem gen_pos (k : Nat) : 1 ≤ 4 ^ k % 4611686018427377339 := by
  have h := gen_Q k
  by_cases h0 : 4 ^ k % 4611686018427377339 = 0
  · rw [h0, Nat.zero_pow Q_pos] at h
    exact absurd h (by decide)
  · omega

set_option maxHeartbeats 1000000 in
set_option maxRecDepth 100000 in
theorem exp4_any (k : Nat) (w : World) (hk : k < 2305843009213688669) :
    Calls Tryd.prog 69 #[.int .i64 4, .int .i64 k] w fun e w' => e = .returned (.tuple #[.int .i64 (4 ^ k % 4611686018427377339 : Nat), .int .i64 0]) ∧ Below w.heap.size w w' := by
  have hc := check_any 4 w (by decide) (by decide) four_Q'
  have hp := fun w' => power_any 4 k w' (by decide) (by omega)
  have hlt : 4 ^ k % 4611686018427377339 < 4611686018427377339 := Nat.mod_lt _ (by decide)
  obtain ⟨R, hR⟩ : ∃ R : Int, ((4 ^ k % 4611686018427377339 : Nat) : Int) = R := ⟨_, rfl⟩
  obtain ⟨A, hA⟩ : ∃ A : Int, (k : Int) = A := ⟨_, rfl⟩
  rw [hR, hA] at hp
  have b1 : ¬ A < 0 := by omega
  have b2 : ¬ (2305843009213688669 ≤ A) := by omega
  have b3 : (0 : Int) ≤ A := by omega
  have b4 : A < 2305843009213688669 := by omega
  have b5 : (0 : Int) ≤ R := by omega
  have b6 : R < 4611686018427377339 := by omega
  rw [hR, hA]
  clear hR hA hlt hk
  go_enter Tryd.func69, Tryd.ntmps69
  go_wp2_with (first
    | (go_at_call 51; refine hc.mono ?_; rintro e w1 ⟨rfl, hb1⟩)
    | (go_at_call 71; refine (hp _).mono ?_; rintro e w2 ⟨rfl, hb2⟩))
  go_ret2
  exact ⟨rfl, below_tr hb1 hb2⟩

set_option maxHeartbeats 1000000 in
set_option maxRecDepth 100000 in
theorem base_any (k : Nat) (w : World) (hk : k < 2305843009213688669) :
    Calls Tryd.prog 49 #[.int .i64 k] w fun e w' => e = .returned (.tuple #[.int .i64 (4 ^ k % 4611686018427377339 : Nat), .int .i64 0]) ∧ Below w.heap.size w w' := by
  have hx := fun w' => exp4_any k w' hk
  obtain ⟨R, hR⟩ : ∃ R : Int, ((4 ^ k % 4611686018427377339 : Nat) : Int) = R := ⟨_, rfl⟩
  obtain ⟨A, hA⟩ : ∃ A : Int, (k : Int) = A := ⟨_, rfl⟩
  rw [hR, hA] at hx ⊢
  clear hR hA hk
  go_enter Tryd.func49, Tryd.ntmps49
  go_wp2_with (go_at_call 69; refine (hx _).mono ?_; rintro e w2 ⟨rfl, hb2⟩)
  go_ret2
  exact ⟨rfl, hb2⟩
end Chart
