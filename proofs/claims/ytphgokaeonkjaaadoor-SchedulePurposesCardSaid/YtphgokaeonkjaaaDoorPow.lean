/- The binary digits of a number, one by one. group.power: a power modulo P. group.Check, Exp, Base. -/
import Derived.Test.YtphgokaeonkjaaaDoorDiv
import Derived.Test.YtphgokaeonkjaaaDoorStepD
import Derived.Test.YtphgokaeonkjaaaDoorEqKey
import Derived.Sort.CutIn
import Derived.Lib.ItoaNum
import Derived.Test.YtphgokaeonkjaaaDoorNum
namespace Chart
open Go Go.RowKit Go.Shelf Go.Proofs
attribute [local go_sem] Oper.semAt_some

theorem bit_and_one (q : Nat) (hq : q < 18446744073709551616) : bits .and .u64 (q : Int) 1 = ((q % 2 : Nat) : Int) := by
  have e := u64_and_nat q 1 (by omega) (by omega)
  have h2 : q &&& 1 = q % 2 := Nat.and_two_pow_sub_one_eq_mod q 1
  rw [h2] at e
  exact e

/-- Is a binary digit set? -/
def bitB (k i : Nat) : Bool := k / 2 ^ i % 2 == 1

set_option maxHeartbeats 1000000 in
set_option maxRecDepth 100000 in
theorem digits1_in (m : Nat) (hm : 1 ≤ m) (l bk n k : Nat) (hk : k < 18446744073709551616) (hn : Lib.bitLen k = n) (hn64 : n ≤ 64) (J : Nat → World → Prop)
    (hrow : ∀ j W, J j W → W.cell? ⟨bk, 0, none⟩ = some (.int .u64 (k : Int)))
    (hY : ∀ j W, j < n → J j W → YieldAt Fence.wide (m - 1) Tryd.prog l #[.bool (bitB k (n - 1 - j))] W fun e W' => e = .returned (.bool true) ∧ J (j + 1) W')
    (W : World) (h0 : J 0 W) :
    CallsIn Fence.wide m Tryd.prog 116 #[.func (.yield l) #[] #[], .pointer (some ⟨bk, 0, none⟩)] W fun e W' => (∃ v, e = .returned v) ∧ J n W' := by
  have hln := Tryd.bits_Len64 (k : Int) W (by omega) (by omega)
  rw [Int.toNat_natCast, hn] at hln
  have hc0 := hrow 0 W h0
  clear hn
  refine callsIn_of_wp Tryd.func116 rfl trivial ?_ rfl
  simp only [Tryd.ntmps116, List.size_toArray, List.length_cons, List.length_nil, Nat.reduceAdd, Nat.reduceSub, Array.replicate_succ, Array.replicate_zero, List.push_toArray, List.append_toArray, List.nil_append, List.cons_append]
  gi_wp2_with (refine ⟨trivial, ?_⟩; gi_at_call 117; refine (callsIn_wide.2 hln).mono ?_; rintro e w' ⟨rfl, rfl⟩)
  gi_loopw [3] (fun t wr => ∃ j : Nat, j ≤ n ∧ t = .int .i64 ((n : Int) - 1 - j) ∧ J j wr) (fun t _ => (intOf t + 1).toNat)
  case atStart => exact ⟨0, by omega, by simp, h0⟩
  case round =>
    obtain ⟨j, hj, rfl, hJ⟩ := hrel
    by_cases hlt : j < n
    · obtain ⟨i, hi⟩ : ∃ i : Nat, n - 1 - j = i := ⟨_, rfl⟩
      have hii : (n : Int) - 1 - j = (i : Int) := by omega
      have hi64 : i < 64 := by omega
      have hc := hrow j wr hJ
      obtain ⟨q, hq⟩ : ∃ q : Nat, k / 2 ^ i = q := ⟨_, rfl⟩
      have hql : q < 18446744073709551616 := by rw [← hq]; exact Nat.lt_of_le_of_lt (Nat.div_le_self _ _) hk
      have hqi : (k : Int) / 2 ^ i = (q : Int) := by rw [← hq]; norm_cast
      have hand : bits .and .u64 ((k : Int) / 2 ^ i) 1 = ((q % 2 : Nat) : Int) := by rw [hqi]; exact bit_and_one q hql
      obtain ⟨b, hb⟩ : ∃ b, bitB k i = b := ⟨_, rfl⟩
      have hbe : (((q % 2 : Nat) : Int) == 1) = b := by
        rw [← hb, bitB, hq, Bool.eq_iff_iff]
        simp
        omega
      have hy := hY j wr hlt hJ
      rw [hi, hb] at hy
      obtain ⟨fn, tmps, assign, body, hy, hR⟩ := hy
      have HN := Lib.hid hii
      rw [hii]
      clear hY hq hb hii hi hln hc0 h0 hrow hqi
      generalize ((q % 2 : Nat) : Int) = r at *
      gi_wp2
      refine hR.mono ?_
      rintro e W3 ⟨rfl, hJ2⟩
      gi_wp2
      go_roundw
      case rel => exact ⟨j + 1, by omega, by have := HN.out; congr 1 <;> omega, hJ2⟩
      case measure => (try simp [intOf]) <;> (have := HN.out; omega)
    · obtain rfl : j = n := by omega
      gi_wp2
      go_end0
      exact ⟨⟨_, rfl⟩, hJ⟩
end Chart

namespace Chart
open Go Go.RowKit Go.Shelf Go.Proofs
attribute [local go_sem] Oper.semAt_some

/-- The power of the first j digits. -/
def pwN (a k n j : Nat) : Nat := a ^ (k / 2 ^ (n - j)) % 4611686018427377339
theorem pwN_lt (a k n j : Nat) : pwN a k n j < 4611686018427377339 := Nat.mod_lt _ (by decide)
theorem half_step (k n j : Nat) (hj : j < n) : k / 2 ^ (n - (j + 1)) = 2 * (k / 2 ^ (n - j)) + k / 2 ^ (n - (j + 1)) % 2 := by
  have e : n - j = (n - (j + 1)) + 1 := by omega
  rw [e, Nat.pow_succ, ← Nat.div_div_eq_div_mul]
  omega
theorem pwN_step (a k n j : Nat) (hj : j < n) : pwN a k n (j + 1) = (if bitB k (n - 1 - j) then pwN a k n j * pwN a k n j % 4611686018427377339 * a else pwN a k n j * pwN a k n j) % 4611686018427377339 := by
  have h := half_step k n j hj
  have e : n - 1 - j = n - (j + 1) := by omega
  unfold pwN bitB
  rw [e]
  obtain ⟨x, hx⟩ : ∃ x, k / 2 ^ (n - j) = x := ⟨_, rfl⟩
  obtain ⟨y, hy⟩ : ∃ y, k / 2 ^ (n - (j + 1)) = y := ⟨_, rfl⟩
  rw [hx, hy] at h
  rw [hx, hy]
  have h2 : y % 2 = 0 ∨ y % 2 = 1 := by omega
  rcases h2 with h2 | h2
  · rw [h2] at h ⊢
    simp only [show ((0 : Nat) == 1) = false from rfl, Bool.false_eq_true, if_false]
    rw [h, Nat.add_zero, Nat.two_mul, Nat.pow_add, Nat.mul_mod]
  · rw [h2] at h ⊢
    simp only [show ((1 : Nat) == 1) = true from rfl, if_true]
    rw [h, Nat.pow_succ, Nat.two_mul, Nat.pow_add, Nat.mul_mod (a ^ x * a ^ x) a, Nat.mul_mod (a ^ x) (a ^ x), Nat.mul_mod (a ^ x % 4611686018427377339 * (a ^ x % 4611686018427377339) % 4611686018427377339) a, Nat.mod_mod]

set_option maxHeartbeats 2000000 in
set_option maxRecDepth 100000 in
theorem digits_any (k : Nat) (w : World) :
    Calls Tryd.prog 94 #[.int .u64 k] w fun e w' => e = .returned (.func (.func 116) #[] #[.pointer (some ⟨w.heap.size, 0, none⟩)]) ∧ w' = w.alloc (.cells #[.int .u64 k] 91) := by
  go_enter Tryd.func94, Tryd.ntmps94
  go_wp2
  go_ret
  exact ⟨rfl, rfl⟩

set_option maxHeartbeats 1000000 in
set_option maxRecDepth 100000 in
theorem power_any (a k : Nat) (w : World) (ha : a < 4611686018427377339) (hk : k < 18446744073709551616) :
    Calls Tryd.prog 71 #[.int .u64 a, .int .u64 k] w fun e w' => e = .returned (.int .u64 (a ^ k % 4611686018427377339 : Nat)) ∧ Below w.heap.size w w' := by
  refine (callsIn_wide (n := 5)).1 ?_
  obtain ⟨n, hn⟩ : ∃ n, Lib.bitLen k = n := ⟨_, rfl⟩
  have hn64 : n ≤ 64 := by rw [← hn]; exact Lib.bitLen_le k 64 (by omega) (by omega)
  have hkn : k < 2 ^ n := by
    rw [← hn]
    by_cases h0 : k = 0
    · rw [h0]; exact Nat.pow_pos (by decide)
    · exact (Lib.bitLenAux_bounds 64 k (by omega) h0).2.2
  have p0 : pwN a k n 0 = 1 := by unfold pwN; rw [Nat.sub_zero, Nat.div_eq_of_lt hkn, Nat.pow_zero]
  have pn : pwN a k n n = a ^ k % 4611686018427377339 := by unfold pwN; rw [Nat.sub_self, Nat.pow_zero, Nat.div_one]
  have PN := Lib.hid pn
  clear pn hkn
  rw [← PN.out]
  obtain ⟨B, hB⟩ : ∃ B, w.heap.size = B := ⟨_, rfl⟩
  rw [hB]
  have ra2 : ((w.alloc (.cells #[.int .u64 a] 91)).alloc (.cells #[.int .u64 1] 91)).heap[B]? = some (.cells #[.int .u64 a] 91 (0, 0)) :=
    (Below.heap_alloc _ _ B (by simp [hB])).trans (by rw [← hB]; exact heap_alloc_new w _)
  have rc2 : ((w.alloc (.cells #[.int .u64 a] 91)).alloc (.cells #[.int .u64 1] 91)).heap[B + 1]? = some (.cells #[.int .u64 1] 91 (0, 0)) := by
    have := heap_alloc_new (w.alloc (.cells #[.int .u64 a] 91)) (.cells #[.int .u64 1] 91)
    rwa [World.size_alloc, hB] at this
  have hb2 : Below B w ((w.alloc (.cells #[.int .u64 a] 91)).alloc (.cells #[.int .u64 1] 91)) := ((Below.refl B w).alloc (by omega) _).alloc (by simp [hB]) _
  have hs2 : ((w.alloc (.cells #[.int .u64 a] 91)).alloc (.cells #[.int .u64 1] 91)).heap.size = B + 2 := by simp [hB]
  refine callsIn_of_wp_marks Tryd.func71 rfl trivial ?_ rfl
  simp only [Tryd.ntmps71, List.size_toArray, List.length_cons, List.length_nil, Nat.reduceAdd, Nat.reduceSub, Array.replicate_succ, Array.replicate_zero, List.push_toArray, List.append_toArray, List.nil_append, List.cons_append]
  gi_upto_region 2 with (fail)
  generalize (w.alloc (.cells #[.int .u64 a] 91)).alloc (.cells #[.int .u64 1] 91) = w2 at *
  have hdg := digits_any k w2
  rw [hs2] at hdg
  have rk3 : (w2.alloc (.cells #[.int .u64 k] 91)).heap[B + 2]? = some (.cells #[.int .u64 k] 91 (0, 0)) := by rw [← hs2]; exact heap_alloc_new w2 _
  have ra3 := row_below ra2 (below_al w2 (.cells #[.int .u64 k] 91))
  have rc3 := row_below rc2 (below_al w2 (.cells #[.int .u64 k] 91))
  have hb3 : Below B w (w2.alloc (.cells #[.int .u64 k] 91)) := hb2.alloc (by omega) _
  have hs3 : (w2.alloc (.cells #[.int .u64 k] 91)).heap.size = B + 3 := by simp [hs2]
  gi_wp2_with (first
    | (refine ⟨trivial, ?_⟩; gi_at_call 94; refine (callsIn_wide.2 hdg).mono ?_; rintro e w3 ⟨rfl, rfl⟩))
  clear hdg ra2 rc2 hb2 hs2
  generalize w2.alloc (.cells #[.int .u64 k] 91) = w3 at *
  refine range_law (gf := 116) (lb := #[.pointer (some ⟨B + 2, 0, none⟩)]) rfl (fun _ => by decide) rfl trivial (enters_of Tryd.func116 (by kernel_rfl) rfl) ?_
  intro fn hfn rec hrec
  rw [hs3] at hrec ⊢
  have hw4 : ((w3.alloc (.deferred (some []))).alloc (.loop (rec .ready none))).heap[B + 4]? = some (.loop (rec .ready none)) := by
    have := World.alloc_heap_new (w3.alloc (.deferred (some []))) (.loop (rec .ready none))
    rw [World.size_alloc, hs3] at this; exact this
  have hw3 : ((w3.alloc (.deferred (some []))).alloc (.loop (rec .ready none))).heap[B + 3]? = some (.deferred (some [])) := by
    have := World.alloc_heap_new w3 (.deferred (some []))
    rw [hs3] at this
    exact (Below.heap_alloc _ _ _ (by simp; omega)).trans this
  have hold : ∀ j, j < B + 3 → ((w3.alloc (.deferred (some []))).alloc (.loop (rec .ready none))).heap[j]? = w3.heap[j]? := fun j hj =>
    (Below.heap_alloc _ _ _ (by simp; omega)).trans (Below.heap_alloc _ _ _ (by omega))
  have hbw : Below B w ((w3.alloc (.deferred (some []))).alloc (.loop (rec .ready none))) := (hb3.alloc (by omega) _).alloc (by simp; omega) _
  generalize (w3.alloc (.deferred (some []))).alloc (.loop (rec .ready none)) = w6 at *
  refine (digits1_in 4 (by decide) (B + 4) (B + 2) n k hk hn hn64
    (fun j W => W.heap[B]? = some (.cells #[.int .u64 a] 91 (0, 0)) ∧ W.heap[B + 1]? = some (.cells #[.int .u64 (pwN a k n j : Nat)] 91 (0, 0)) ∧ W.heap[B + 2]? = some (.cells #[.int .u64 k] 91 (0, 0)) ∧
      W.heap[B + 4]? = some (.loop (rec .ready none)) ∧ W.heap[B + 3]? = some (.deferred (some [])) ∧ Below B w W)
    ?_ ?_ w6 ⟨(hold _ (by omega)).trans ra3, by rw [p0]; exact (hold _ (by omega)).trans rc3, (hold _ (by omega)).trans rk3, hw4, hw3, hbw⟩).mono ?_
  · rintro j W ⟨-, -, h3, -⟩
    exact cell_of_row W (B + 2) 0 _ _ _ h3
  · rintro j W hjn ⟨h1, h2, h3, h5, h4, h7⟩
    have hsz : (#[Value.bool (bitB k (n - 1 - j))] : Array Value).size = (rec .ready none).params.size := by rw [hrec]; rfl
    have hy := run_yield (P := Tryd.prog) h5 hsz
    have hbr := run_beginRound (P := Tryd.prog) h5 (by rw [hrec]; rfl)
    rw [hrec] at hy
    dsimp only [lrec] at hy
    simp at hy
    have e2 : ({ rec .ready none with state := .ready, pending := none } : Loop) = rec .ready none := by rw [hrec]; rfl
    have E2 := Lib.hid e2
    clear e2
    have HREC := Lib.hid hrec
    clear hrec
    have hst := pwN_step a k n j hjn
    have hlt := pwN_lt a k n j
    have HST := Lib.hid hst
    clear hst
    obtain ⟨c, hc⟩ : ∃ c, pwN a k n j = c := ⟨_, rfl⟩
    rw [hc] at h2 hlt HST
    obtain ⟨b, hb⟩ : ∃ b, bitB k (n - 1 - j) = b := ⟨_, rfl⟩
    rw [hb] at hy HST ⊢
    obtain ⟨W9, hW9⟩ : ∃ W9, W.putObj (B + 4) (.loop { rec .ready none with state := .busy }) = W9 := ⟨_, rfl⟩
    rw [hW9] at hbr
    have hR9 : W9.heap[B]? = some (.cells #[.int .u64 a] 91 (0, 0)) ∧ W9.heap[B + 1]? = some (.cells #[.int .u64 (c : Nat)] 91 (0, 0)) ∧ W9.heap[B + 2]? = some (.cells #[.int .u64 k] 91 (0, 0)) ∧
        W9.heap[B + 4]? = some (.loop { rec .ready none with state := .busy }) ∧ W9.heap[B + 3]? = some (.deferred (some [])) ∧ Below B w W9 := by
      rw [← hW9]
      exact ⟨(World.putObj_heap_other (by omega)).trans h1, (World.putObj_heap_other (by omega)).trans h2, (World.putObj_heap_other (by omega)).trans h3, World.putObj_heap_same (Array.getElem?_eq_some_iff.1 h5).1, (World.putObj_heap_other (by omega)).trans h4,
        h7.grown (grownBy_putObj' _ (B + 4) _) (by have := h7.size; omega) (fun j e => by cases e; omega)⟩
    have hset : ∀ (X : World) (x y m : Nat), (X.heap[B]? = some (.cells #[.int .u64 a] 91 (0, 0)) ∧ X.heap[B + 1]? = some (.cells #[.int .u64 (x : Nat)] 91 (0, 0)) ∧ X.heap[B + 2]? = some (.cells #[.int .u64 k] 91 (0, 0)) ∧
        X.heap[B + 4]? = some (.loop { rec .ready none with state := .busy }) ∧ X.heap[B + 3]? = some (.deferred (some [])) ∧ Below B w X) →
        (((X.drewN m).setCell ⟨B + 1, 0, none⟩ (.int .u64 (y : Nat))).heap[B]? = some (.cells #[.int .u64 a] 91 (0, 0)) ∧ ((X.drewN m).setCell ⟨B + 1, 0, none⟩ (.int .u64 (y : Nat))).heap[B + 1]? = some (.cells #[.int .u64 (y : Nat)] 91 (0, 0)) ∧
        ((X.drewN m).setCell ⟨B + 1, 0, none⟩ (.int .u64 (y : Nat))).heap[B + 2]? = some (.cells #[.int .u64 k] 91 (0, 0)) ∧
        ((X.drewN m).setCell ⟨B + 1, 0, none⟩ (.int .u64 (y : Nat))).heap[B + 4]? = some (.loop { rec .ready none with state := .busy }) ∧ ((X.drewN m).setCell ⟨B + 1, 0, none⟩ (.int .u64 (y : Nat))).heap[B + 3]? = some (.deferred (some [])) ∧ Below B w ((X.drewN m).setCell ⟨B + 1, 0, none⟩ (.int .u64 (y : Nat)))) := by
      rintro X x y m ⟨g1, g2, g3, g4, g5, g6⟩
      refine ⟨?_, ?_, ?_, ?_, ?_, (Go.below_drewN g6 m).setCell (p := ⟨B + 1, 0, none⟩) (by show B ≤ B + 1; omega) _⟩
      · rw [heap_setCell_other _ _ _ _ (by show B ≠ B + 1; omega)]; exact g1
      · rw [heap_setCell_same _ _ _ _ _ _ (show (X.drewN m).heap[B + 1]? = _ from g2)]; rfl
      · rw [heap_setCell_other _ _ _ _ (by show B + 2 ≠ B + 1; omega)]; exact g3
      · rw [heap_setCell_other _ _ _ _ (by show B + 4 ≠ B + 1; omega)]; exact g4
      · rw [heap_setCell_other _ _ _ _ (by show B + 3 ≠ B + 1; omega)]; exact g5
    have hend : ∀ X : World, X.heap[B + 4]? = some (.loop { rec .ready none with state := .busy }) → Below B w X → ∀ y : Nat, X.heap[B]? = some (.cells #[.int .u64 a] 91 (0, 0)) → X.heap[B + 1]? = some (.cells #[.int .u64 (y : Nat)] 91 (0, 0)) → X.heap[B + 2]? = some (.cells #[.int .u64 k] 91 (0, 0)) → X.heap[B + 3]? = some (.deferred (some [])) →
        ((X.putObj (B + 4) (.loop (rec .ready none))).heap[B]? = some (.cells #[.int .u64 a] 91 (0, 0)) ∧ (X.putObj (B + 4) (.loop (rec .ready none))).heap[B + 1]? = some (.cells #[.int .u64 (y : Nat)] 91 (0, 0)) ∧ (X.putObj (B + 4) (.loop (rec .ready none))).heap[B + 2]? = some (.cells #[.int .u64 k] 91 (0, 0)) ∧
        (X.putObj (B + 4) (.loop (rec .ready none))).heap[B + 4]? = some (.loop (rec .ready none)) ∧ (X.putObj (B + 4) (.loop (rec .ready none))).heap[B + 3]? = some (.deferred (some [])) ∧ Below B w (X.putObj (B + 4) (.loop (rec .ready none)))) := by
      intro X g4 g6 y g1 g2 g3 g5
      exact ⟨(World.putObj_heap_other (by omega)).trans g1, (World.putObj_heap_other (by omega)).trans g2, (World.putObj_heap_other (by omega)).trans g3, World.putObj_heap_same (Array.getElem?_eq_some_iff.1 g4).1, (World.putObj_heap_other (by omega)).trans g5,
        g6.grown (grownBy_putObj' _ (B + 4) _) (by have := g6.size; omega) (fun j e => by cases e; omega)⟩
    have HBR := Lib.hid hbr
    have HSET := Lib.hid hset
    have HEND := Lib.hid hend
    have HR9 := Lib.hid hR9
    have hcA := cell_of_row W9 B 0 _ _ _ hR9.1
    have hcC := cell_of_row W9 (B + 1) 0 _ _ _ hR9.2.1
    have hfC := frozen_of_row W9 (B + 1) 0 _ _ hR9.2.1
    have ht1 := fun w' => times_any c c w' hlt hlt
    obtain ⟨c2, hc2⟩ : ∃ c2, c * c % 4611686018427377339 = c2 := ⟨_, rfl⟩
    have hlt2 : c2 < 4611686018427377339 := by rw [← hc2]; exact Nat.mod_lt _ (by decide)
    rw [hc2] at ht1 HST
    have HC2 := Lib.hid hc2
    clear hbr hset hend hR9 h1 h2 h3 h4 h5 h7 hsz hc hb hW9 hc2 ra3 rc3 hb3 hs3 hw3 hw4 hold hbw
    refine ⟨fn, _, _, _, hy, roundIn_of_wpIn hfn ?_⟩
    clear hy
    gi_wp2
    refine ⟨W9, HBR.out, ?_⟩
    cases b with
    | true =>
      have HST2 := Lib.hid (show pwN a k n (j + 1) = c2 * a % 4611686018427377339 by rw [HST.out]; rfl)
      obtain ⟨c3, hc3⟩ : ∃ c3, c2 * a % 4611686018427377339 = c3 := ⟨_, rfl⟩
      have ht2 := fun w' => times_any c2 a w' hlt2 ha
      rw [hc3] at ht2 HST2
      clear hc3
      gi_wp2_with (first
        | (refine ⟨trivial, ?_⟩; gi_at_call 95; refine (CallsIn.inRound (B + 4) (callsIn_wide.2 (ht1 _))).mono ?_; rintro e w' ⟨rfl, m1, rfl⟩; clear ht1)
        | (refine ⟨trivial, ?_⟩; gi_at_call 95; refine (CallsIn.inRound (B + 4) (callsIn_wide.2 (ht2 _))).mono ?_; rintro e w' ⟨rfl, m2, rfl⟩))
      have g1 := HSET.out _ _ c2 m1 HR9.out
      have g2 := HSET.out _ _ c3 m2 g1
      have g3 := HEND.out _ g2.2.2.2.1 g2.2.2.2.2.2 c3 g2.1 g2.2.1 g2.2.2.1 g2.2.2.2.2.1
      refine ⟨_, ((((W9.drewN m1).setCell ⟨B + 1, 0, none⟩ (.int .u64 (c2 : Nat))).drewN m2).setCell ⟨B + 1, 0, none⟩ (.int .u64 (c3 : Nat))).putObj (B + 4) (.loop (rec .ready none)), (run_endRound (P := Tryd.prog) none g2.2.2.2.1).trans (by rw [← E2.out]; rfl), rfl, ?_⟩
      rw [HST2.out]
      exact g3
    | false =>
      have HST2 := Lib.hid (show pwN a k n (j + 1) = c2 by rw [HST.out]; exact HC2.out)
      gi_wp2_with (first
        | (refine ⟨trivial, ?_⟩; gi_at_call 95; refine (CallsIn.inRound (B + 4) (callsIn_wide.2 (ht1 _))).mono ?_; rintro e w' ⟨rfl, m1, rfl⟩; clear ht1))
      have g1 := HSET.out _ _ c2 m1 HR9.out
      have g3 := HEND.out _ g1.2.2.2.1 g1.2.2.2.2.2 c2 g1.1 g1.2.1 g1.2.2.1 g1.2.2.2.2.1
      refine ⟨_, ((W9.drewN m1).setCell ⟨B + 1, 0, none⟩ (.int .u64 (c2 : Nat))).putObj (B + 4) (.loop (rec .ready none)), (run_endRound (P := Tryd.prog) none g1.2.2.2.1).trans (by rw [← E2.out]; rfl), rfl, ?_⟩
      rw [HST2.out]
      exact g3
  · rintro e W ⟨⟨v, rfl⟩, h1, h2, h3, h5, h4, h7⟩
    have hst : (rec .ready none).state ≠ .busy := by rw [hrec]; simp [lrec]
    have hp : (rec .ready none).pending = none := by rw [hrec]; rfl
    have hend := run_endLoop (P := Tryd.prog) h5 hst
    have g2 : (W.putObj (B + 4) (.loop { rec .ready none with state := .exhausted })).heap[B + 1]? = some (.cells #[.int .u64 (pwN a k n n : Nat)] 91 (0, 0)) := (World.putObj_heap_other (by omega)).trans h2
    have g4 : (W.putObj (B + 4) (.loop { rec .ready none with state := .exhausted })).heap[B + 3]? = some (.deferred (some [])) := (World.putObj_heap_other (by omega)).trans h4
    have g7 : Below B w (W.putObj (B + 4) (.loop { rec .ready none with state := .exhausted })) := h7.grown (grownBy_putObj' W (B + 4) _) (by have := h7.size; omega) (fun j e => by cases e; omega)
    obtain ⟨W8, hW8⟩ : ∃ W8, W.putObj (B + 4) (.loop { rec .ready none with state := .exhausted }) = W8 := ⟨_, rfl⟩
    rw [hW8] at hend g2 g4 g7
    rw [hp] at hend
    refine ⟨none, W8, hend, ?_⟩
    clear hend hp hst h1 h2 h3 h4 h5 h7 hW8 hrec
    have hcC := cell_of_row W8 (B + 1) 0 _ _ _ g2
    gi_wp2
    refine ⟨by simp, .inl ⟨_, _, rfl, run_takeDeferred g4, ?_⟩⟩
    refine ⟨_, results_tmp rfl _ _ _, ?_⟩
    exact ⟨rfl, g7.grown (grownBy_putObj' _ (B + 3) _) (by have := g7.size; omega) (fun j e => by cases e; omega)⟩
end Chart

namespace Chart
open Go Go.RowKit Go.Proofs

set_option maxHeartbeats 1000000 in
set_option maxRecDepth 100000 in
theorem check_any (a : Nat) (w : World) (h1 : 1 ≤ a) (h2 : a < 4611686018427377339) (h3 : a ^ Q % 4611686018427377339 = 1) :
    Calls Tryd.prog 51 #[.int .i64 a] w fun e w' => e = .returned (.int .i64 0) ∧ Below w.heap.size w w' := by
  have hp := fun w' => power_any a Q w' h2 (by unfold Q; decide)
  rw [h3] at hp
  obtain ⟨A, hA⟩ : ∃ A : Int, (a : Int) = A := ⟨_, rfl⟩
  have hq : ((Q : Nat) : Int) = 2305843009213688669 := rfl
  rw [hA, hq] at hp
  have b1 : ¬ A < 1 := by omega
  have b2 : ¬ (4611686018427377339 ≤ A) := by omega
  have b3 : (0 : Int) ≤ A := by omega
  have b4 : A < 4611686018427377339 := by omega
  rw [hA]
  clear hA h1 h2 h3 hq
  go_enter Tryd.func51, Tryd.ntmps51
  go_wp2_with (go_at_call 71; refine (hp _).mono ?_; rintro e w' ⟨rfl, hb⟩)
  go_ret
  exact ⟨rfl, hb⟩

theorem gen_Q (k : Nat) : (4 ^ k % 4611686018427377339) ^ Q % 4611686018427377339 = 1 := by
  rw [← Nat.pow_mod, ← Nat.pow_mul, Nat.mul_comm]
  have h1 : 1 % P = 1 := by decide
  have h := pow_one_mul (m := P) (g := 4) (a := Q) (t := k) (by rw [four_Q, h1])
  rw [h1] at h
  exact h
theorem four_Q' : 4 ^ Q % 4611686018427377339 = 1 := by
  have h := four_Q
  rw [show P = 4611686018427377339 from rfl] at h
  exact h
theorem Q_pos : 0 < Q := by unfold Q; decide
theorem gen_pos (k : Nat) : 1 ≤ 4 ^ k % 4611686018427377339 := by
  have h := gen_Q k
  by_cases h0 : 4 ^ k % 4611686018427377339 = 0
  · rw [h0, Nat.zero_pow Q_pos] at h
    exact absurd h (by decide)
  · omega

set_option maxHeartbeats 1000000 in
set_option maxRecDepth 100000 in
theorem exp4_any (k : Nat) (w : World) (hk : k < 2305843009213688669) :
    Calls Tryd.prog 69 #[.int .i64 4, .int .i64 k] w fun e w' => e = .returned (.tuple #[.int .i64 (4 ^ k % 4611686018427377339 : Nat), .int .i64 0]) ∧ Below w.heap.size w w' := by
  have hc := check_any 4 w (by decide) (by decide) four_Q'
  have hp := fun w' => power_any 4 k w' (by decide) (by omega)
  have hlt : 4 ^ k % 4611686018427377339 < 4611686018427377339 := Nat.mod_lt _ (by decide)
  obtain ⟨R, hR⟩ : ∃ R : Int, ((4 ^ k % 4611686018427377339 : Nat) : Int) = R := ⟨_, rfl⟩
  obtain ⟨A, hA⟩ : ∃ A : Int, (k : Int) = A := ⟨_, rfl⟩
  rw [hR, hA] at hp
  have b1 : ¬ A < 0 := by omega
  have b2 : ¬ (2305843009213688669 ≤ A) := by omega
  have b3 : (0 : Int) ≤ A := by omega
  have b4 : A < 2305843009213688669 := by omega
  have b5 : (0 : Int) ≤ R := by omega
  have b6 : R < 4611686018427377339 := by omega
  rw [hR, hA]
  clear hR hA hlt hk
  go_enter Tryd.func69, Tryd.ntmps69
  go_wp2_with (first
    | (go_at_call 51; refine hc.mono ?_; rintro e w1 ⟨rfl, hb1⟩)
    | (go_at_call 71; refine (hp _).mono ?_; rintro e w2 ⟨rfl, hb2⟩))
  go_ret2
  exact ⟨rfl, below_tr hb1 hb2⟩

set_option maxHeartbeats 1000000 in
set_option maxRecDepth 100000 in
theorem base_any (k : Nat) (w : World) (hk : k < 2305843009213688669) :
    Calls Tryd.prog 49 #[.int .i64 k] w fun e w' => e = .returned (.tuple #[.int .i64 (4 ^ k % 4611686018427377339 : Nat), .int .i64 0]) ∧ Below w.heap.size w w' := by
  have hx := fun w' => exp4_any k w' hk
  obtain ⟨R, hR⟩ : ∃ R : Int, ((4 ^ k % 4611686018427377339 : Nat) : Int) = R := ⟨_, rfl⟩
  obtain ⟨A, hA⟩ : ∃ A : Int, (k : Int) = A := ⟨_, rfl⟩
  rw [hR, hA] at hx ⊢
  clear hR hA hk
  go_enter Tryd.func49, Tryd.ntmps49
  go_wp2_with (go_at_call 69; refine (hx _).mono ?_; rintro e w2 ⟨rfl, hb2⟩)
  go_ret2
  exact ⟨rfl, hb2⟩
end Chart
