/- The law on Ladder, Above and Private. -/
import Derived.Test.YtphgokaeonkjaaaDoorSane22
import Derived.Test.YtphgokaeonkjaaaDoorSched
namespace Chart
open Go Go.RowKit Go.Proofs
attribute [local go_sem] valAt valUpon spAt spUpon

/-- What Above hands back. -/
def abE (L : Int) : Int := if 0 ≤ L ∧ L ≤ 9 then 0 else 1
def abL (k : List (BitVec 8)) (L : Int) : List (List (BitVec 8)) := if 0 ≤ L ∧ L ≤ 9 then ladN k (10 - L.toNat) else []
theorem KR.nil (w : World) : KR w (.slice none 0 0) [] := ⟨fun _ h => (by cases h), .inl ⟨rfl, rfl⟩⟩
theorem sabove_gen (k : List (BitVec 8)) (L : Int) (w : World) (hk : k.length = 32) (he : ShaEnv w) :
    Calls Tryd.prog 30 #[.agg (dCells k), .int .i64 L] w fun e w' => ∃ v, e = .returned (.tuple #[v, .int .i64 (abE L)]) ∧ KR w' v (abL k L) ∧ Below w.heap.size w w' := by
  unfold abE abL
  by_cases h : 0 ≤ L ∧ L ≤ 9
  · rw [if_pos h, if_pos h]
    obtain ⟨n, rfl⟩ : ∃ n : Nat, L = n := ⟨L.toNat, by omega⟩
    exact (sabove_any k n w hk (by omega) he).mono fun e w' ⟨v, h1, h2, h3⟩ => ⟨v, h1, h2.kr, h3⟩
  · rw [if_neg h, if_neg h]
    exact (sabove_err k L w (by omega)).mono fun e w' ⟨h1, h2⟩ => ⟨_, h1, KR.nil _, h2⟩
theorem refabove_gen (k : List (BitVec 8)) (L : Int) (w : World) (hk : k.length = 32) :
    Calls Tryd.prog 31 #[.agg (dCells k), .int .i64 L] w fun e w' => ∃ v, e = .returned (.tuple #[v, .int .i64 (abE L)]) ∧ KR w' v (abL k L) ∧ Below w.heap.size w w' := by
  unfold abE abL
  by_cases h : 0 ≤ L ∧ L ≤ 9
  · rw [if_pos h, if_pos h]
    obtain ⟨n, rfl⟩ : ∃ n : Nat, L = n := ⟨L.toNat, by omega⟩
    exact (refabove_any k n w hk (by omega)).mono fun e w' ⟨v, h1, h2, h3⟩ => ⟨v, h1, h2.kr, h3⟩
  · rw [if_neg h, if_neg h]
    exact (refabove_err k L w (by omega)).mono fun e w' ⟨h1, h2⟩ => ⟨_, h1, KR.nil _, h2⟩

set_option maxHeartbeats 4000000 in
set_option maxRecDepth 100000 in
theorem ladderLaw_any (k : List (BitVec 8)) (L : Int) (w : World) (h1 : k.length = 32) (he : ShaEnv w) (hl : LabEnv w) :
    Calls Tryd.prog 8 #[.agg (dCells k), .int .i64 L] w fun e w' => e = .returned (.bool true) ∧ Below w.heap.size w w' := by
  have HIi := Lib.hid (info_key' _ h1)
  obtain ⟨B, hB⟩ : ∃ B, w.heap.size = B := ⟨_, rfl⟩
  rw [hB]
  have hle : B ≤ w.heap.size := Nat.le_of_eq hB.symm
  obtain ⟨w1, hw1⟩ : ∃ w1, w1 = w.alloc (.cells (dCells k) 23) := ⟨_, rfl⟩
  have b1 : Below w.heap.size w w1 := hw1 ▸ below_al w _
  have ra : w1.heap[B]? = some (.cells (dCells k) 23 (0, 0)) := by rw [hw1, ← hB]; exact heap_alloc_new w _
  have hsn := sane22_any w1 (he.below b1) (hl.below b1)
  go_enter Tryd.func8, Tryd.ntmps8
  go_upto_region 1 with (fail)
  rw [← hw1]
  clear hw1
  go_upto_region 3 with (go_at_call 29; refine hsn.mono ?_; rintro e w2 ⟨rfl, hb2⟩)
  have rA := row_below ra hb2
  have hB2 := below_tr b1 hb2
  have he2 := he.below hB2
  have hl2 := hl.below hB2
  rw [hB] at hB2
  clear hsn ra hb2 b1 he hl
  have ha := sabove_gen k L w2 h1 he2
  go_upto_region 4 with (first
    | (refine wpList_load_row rfl 23 _ rfl B rfl 23 _ (0, 0) _ rA Tryd.underlying23 rfl HIi.out ?_)
    | (go_at_call 30; refine ha.mono ?_; rintro e w3 ⟨va, rfl, ka, hb3⟩))
  have rA3 := row_below rA hb3
  have hb := fun w' => refabove_gen k L w' h1
  have hb' := hb w3
  clear hb ha
  go_upto_region 5 with (first
    | (refine wpList_load_row rfl 23 _ rfl B rfl 23 _ (0, 0) _ rA3 Tryd.underlying23 rfl HIi.out ?_)
    | (go_at_call 31; refine hb'.mono ?_; rintro e w4 ⟨vb, rfl, kb, hb4⟩))
  have rA4 := row_below rA3 hb4
  have ka4 := ka.below hb4
  have hb34 := below_tr hb3 hb4
  have he4 := he2.below hb34
  have hB4 := below_trB hle hB2 hb34
  generalize abE L = ec at *
  generalize abL k L = la at *
  clear rA rA3 he2 hl2 hB2 hb3 hb4 hb34 hb' ka
  obtain ⟨N, hN⟩ : ∃ N, w4.heap.size = N := ⟨_, rfl⟩
  have hNle : N ≤ w4.heap.size := Nat.le_of_eq hN.symm
  have zA := row_lt rA4
  rw [hN] at zA
  have hOB : ∀ p : Own N w4, Below w4.heap.size w4 p.w' := fun p => hN.symm ▸ p.below
  obtain ⟨sc, hsc⟩ : ∃ sc : Int, ((dscal k bNodeS : Nat) : Int) = sc := ⟨_, rfl⟩
  have c1 : ∀ p : Own N w4, Calls Tryd.prog 32 #[va, vb] p.w' fun e w'' => e = .returned (.bool true) ∧ Below p.w'.heap.size p.w' w'' := fun p => calls_dN ((refsame_any va vb _ _ p.w' (ka4.below (hOB p)) (kb.below (hOB p))).mono fun _ _ ⟨h1, h2⟩ => ⟨by rw [h1]; simp, h2⟩)
  have c2 : ∀ p : Own N w4, Calls Tryd.prog 33 #[.agg (dCells k)] p.w' fun e w'' => ∃ v, e = .returned v ∧ Below p.w'.heap.size p.w' w'' ∧ KR w'' v (ladN k 10) := fun p => (ladder_any k p.w' h1 (he4.below (hOB p))).mono fun e w'' ⟨v, h1, h2, h3⟩ => ⟨v, h1, h3, h2.kr⟩
  have c3 : ∀ p : Own N w4, Calls Tryd.prog 34 #[.agg (dCells k)] p.w' fun e w'' => ∃ v, e = .returned v ∧ Below p.w'.heap.size p.w' w'' ∧ KR w'' v (ladN k 10) := fun p => (refladder_any k p.w' h1).mono fun e w'' ⟨v, h1, h2, h3⟩ => ⟨v, h1, h3, h2.kr⟩
  have c4 : ∀ (p : Own N w4) x y, KR p.w' x (ladN k 10) → KR p.w' y (ladN k 10) → Calls Tryd.prog 32 #[x, y] p.w' fun e w'' => e = .returned (.bool true) ∧ Below p.w'.heap.size p.w' w'' := fun p x y hx hy =>
    calls_dN ((refsame_any x y _ _ p.w' hx hy).mono fun _ _ ⟨h1, h2⟩ => ⟨by rw [h1]; simp, h2⟩)
  have c5 : ∀ p : Own N w4, Calls Tryd.prog 35 #[.agg (dCells k)] p.w' fun e w'' => e = .returned (.int .i64 sc) ∧ Below p.w'.heap.size p.w' w'' := fun p => hsc ▸ sprivate_any k p.w' h1 (he4.below (hOB p))
  have c6 : ∀ p : Own N w4, Calls Tryd.prog 36 #[.agg (dCells k)] p.w' fun e w'' => e = .returned (.int .i64 sc) ∧ Below p.w'.heap.size p.w' w'' := fun p => hsc ▸ refsprivate_any k p.w' h1
  have HA := Lib.hid (show ∀ w', (∃ p : Own N w4, w' = p.w') → w'.heap[B]? = some (.cells (dCells k) 23 (0, 0)) from fun w' ⟨p, hp⟩ => hp ▸ (p.below.block (B) zA).trans rA4)
  clear hsc hOB he4 rA4 ka4 kb
  refine wp_region_sp (C := fun w' => ∃ p : Own N w4, w' = p.w') (Φ := Tab [(2, spV (.bool true)), (10, spK (ladN k 10)), (12, spK (ladN k 10)), (13, spV (.bool true)), (17, spV (.int .i64 sc)), (19, spV (.int .i64 sc))])
    (by kernel_rfl) (by kernel_rfl) (Tab.stable _) ⟨.of (Below.refl N w4).drew, rfl⟩ ?_
  iterate 2 (refine sp_plain rfl (fun K hK => ?_); go_simp; refine hK _ ?_; clear hK K)
  refine sp_spec rfl rfl (by rintro _ ⟨p, rfl⟩ hd; go_simp; exact own_spV hNle (c1 p)) ?_
  rintro v ⟨_, -, rfl⟩ K hK; simp only [Act.put, List.setIfInBounds_toArray, List.set_cons_zero, List.set_cons_succ]; refine hK _ ?_; clear hK K
  iterate 6 (refine sp_plain rfl (fun K hK => ?_); go_simp; refine hK _ ?_; clear hK K)
  refine sp_load_row rfl rfl 23 _ rfl B rfl 23 _ (0, 0) _ HA.out Tryd.underlying23 rfl HIi.out ?_
  intro K hK; simp only [Act.put, List.setIfInBounds_toArray, List.set_cons_zero, List.set_cons_succ]; refine hK _ ?_; clear hK K
  refine sp_spec rfl rfl (by rintro _ ⟨p, rfl⟩ hd; go_simp; exact own_sp hNle (c2 p)) ?_
  rintro vx - K hK; simp only [Act.put, List.setIfInBounds_toArray, List.set_cons_zero, List.set_cons_succ]; refine hK _ ?_; clear hK K
  refine sp_load_row rfl rfl 23 _ rfl B rfl 23 _ (0, 0) _ HA.out Tryd.underlying23 rfl HIi.out ?_
  intro K hK; simp only [Act.put, List.setIfInBounds_toArray, List.set_cons_zero, List.set_cons_succ]; refine hK _ ?_; clear hK K
  refine sp_spec rfl rfl (by rintro _ ⟨p, rfl⟩ hd; go_simp; exact own_sp hNle (c3 p)) ?_
  rintro vy - K hK; simp only [Act.put, List.setIfInBounds_toArray, List.set_cons_zero, List.set_cons_succ]; refine hK _ ?_; clear hK K
  refine sp_spec rfl rfl (by rintro _ ⟨p, rfl⟩ hd; have k1 := (hd 10 (bef_of (by kernel_rfl))).1.2 rfl; have k2 := (hd 12 (bef_of (by kernel_rfl))).2 rfl; go_simp; exact own_spV hNle (c4 p _ _ k1 k2)) ?_
  rintro v ⟨_, -, rfl⟩ K hK; simp only [Act.put, List.setIfInBounds_toArray, List.set_cons_zero, List.set_cons_succ]; refine hK _ ?_; clear hK K
  iterate 2 (refine sp_plain rfl (fun K hK => ?_); go_simp; refine hK _ ?_; clear hK K)
  refine sp_load_row rfl rfl 23 _ rfl B rfl 23 _ (0, 0) _ HA.out Tryd.underlying23 rfl HIi.out ?_
  intro K hK; simp only [Act.put, List.setIfInBounds_toArray, List.set_cons_zero, List.set_cons_succ]; refine hK _ ?_; clear hK K
  refine sp_spec rfl rfl (by rintro _ ⟨p, rfl⟩ hd; go_simp; exact own_spV hNle (c5 p)) ?_
  rintro v ⟨_, -, rfl⟩ K hK; simp only [Act.put, List.setIfInBounds_toArray, List.set_cons_zero, List.set_cons_succ]; refine hK _ ?_; clear hK K
  refine sp_load_row rfl rfl 23 _ rfl B rfl 23 _ (0, 0) _ HA.out Tryd.underlying23 rfl HIi.out ?_
  intro K hK; simp only [Act.put, List.setIfInBounds_toArray, List.set_cons_zero, List.set_cons_succ]; refine hK _ ?_; clear hK K
  refine sp_spec rfl rfl (by rintro _ ⟨p, rfl⟩ hd; go_simp; exact own_spV hNle (c6 p)) ?_
  rintro v ⟨_, -, rfl⟩ K hK; simp only [Act.put, List.setIfInBounds_toArray, List.set_cons_zero, List.set_cons_succ]; refine hK _ ?_; clear hK K
  iterate 3 (refine sp_plain rfl (fun K hK => ?_); go_simp; refine hK _ ?_; clear hK K)
  refine sp_nil ?_
  rintro _ ⟨p, rfl⟩ hd
  clear c1 c2 c3 c4 c5 c6
  go_wp2
  go_ret
  exact ⟨rfl, hB4.trans (p.below.mono (Nat.le_of_lt zA))⟩
end Chart
