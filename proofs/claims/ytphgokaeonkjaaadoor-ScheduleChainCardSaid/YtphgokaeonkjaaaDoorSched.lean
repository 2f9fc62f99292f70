/- schedule.Private, Link, and the reference's. schedule's purposes: of, Init, Child, and the reference's. schedule.Init, Child, and the reference's. schedule.Epoch, and the reference's. schedule.Content, and the reference's. schedule.Confirm. The reference's Confirm. -/
import Derived.Test.YtphgokaeonkjaaaDoorEqKey
import Derived.Test.YtphgokaeonkjaaaDoorOwn
import Derived.Test.YtphgokaeonkjaaaDoorMix2
namespace Chart
open Go Go.RowKit Go.Proofs

def bNodeS : ByteArray := { data := #[110, 111, 100, 101] }
def bLink : ByteArray := { data := #[108, 105, 110, 107] }

set_option maxHeartbeats 1000000 in
set_option maxRecDepth 100000 in
theorem sprivate_any (k : List (BitVec 8)) (w : World) (hk : k.length = 32) (he : ShaEnv w) :
    Calls Tryd.prog 35 #[.agg (dCells k)] w fun e w' => e = .returned (.int .i64 (dscal k bNodeS)) ∧ Below w.heap.size w w' := by
  have HI := Lib.hid (info_key' _ hk)
  have hb1 := below_al w (.cells (dCells k) 23)
  have hr1 := heap_alloc_new w (.cells (dCells k) 23)
  have hs := dscalar_any k bNodeS (w.alloc (.cells (dCells k) 23)) hk (by decide) (he.below hb1)
  go_enter Tryd.func35, Tryd.ntmps35
  go_wp2_with (first
    | (refine wpList_load_row rfl 23 _ rfl w.heap.size rfl 23 _ (0, 0) _ hr1 Tryd.underlying23 rfl HI.out ?_)
    | (go_at_call 19; refine hs.mono ?_; rintro e w2 ⟨rfl, hb2⟩))
  go_ret
  exact ⟨rfl, below_tr hb1 hb2⟩

set_option maxHeartbeats 1000000 in
set_option maxRecDepth 100000 in
theorem slink_any (k : List (BitVec 8)) (w : World) (hk : k.length = 32) (he : ShaEnv w) :
    Calls Tryd.prog 43 #[.agg (dCells k)] w fun e w' => e = .returned (.int .i64 (dscal k bLink)) ∧ Below w.heap.size w w' := by
  have HI := Lib.hid (info_key' _ hk)
  have hb1 := below_al w (.cells (dCells k) 23)
  have hr1 := heap_alloc_new w (.cells (dCells k) 23)
  have hs := dscalar_any k bLink (w.alloc (.cells (dCells k) 23)) hk (by decide) (he.below hb1)
  go_enter Tryd.func43, Tryd.ntmps43
  go_wp2_with (first
    | (refine wpList_load_row rfl 23 _ rfl w.heap.size rfl 23 _ (0, 0) _ hr1 Tryd.underlying23 rfl HI.out ?_)
    | (go_at_call 19; refine hs.mono ?_; rintro e w2 ⟨rfl, hb2⟩))
  go_ret
  exact ⟨rfl, below_tr hb1 hb2⟩

set_option maxHeartbeats 1000000 in
set_option maxRecDepth 100000 in
theorem refsprivate_any (k : List (BitVec 8)) (w : World) (hk : k.length = 32) :
    Calls Tryd.prog 36 #[.agg (dCells k)] w fun e w' => e = .returned (.int .i64 (dscal k bNodeS)) ∧ Below w.heap.size w w' := by
  have HI := Lib.hid (info_key' _ hk)
  have hb1 := below_al w (.cells (dCells k) 23)
  have hr1 := heap_alloc_new w (.cells (dCells k) 23)
  have hs := refdscalar_any k bNodeS (w.alloc (.cells (dCells k) 23)) hk (by decide)
  go_enter Tryd.func36, Tryd.ntmps36
  go_wp2_with (first
    | (refine wpList_load_row rfl 23 _ rfl w.heap.size rfl 23 _ (0, 0) _ hr1 Tryd.underlying23 rfl HI.out ?_)
    | (go_at_call 20; refine hs.mono ?_; rintro e w2 ⟨rfl, hb2⟩))
  go_ret
  exact ⟨rfl, below_tr hb1 hb2⟩

set_option maxHeartbeats 1000000 in
set_option maxRecDepth 100000 in
theorem refslink_any (k : List (BitVec 8)) (w : World) (hk : k.length = 32) :
    Calls Tryd.prog 44 #[.agg (dCells k)] w fun e w' => e = .returned (.int .i64 (dscal k bLink)) ∧ Below w.heap.size w w' := by
  have HI := Lib.hid (info_key' _ hk)
  have hb1 := below_al w (.cells (dCells k) 23)
  have hr1 := heap_alloc_new w (.cells (dCells k) 23)
  have hs := refdscalar_any k bLink (w.alloc (.cells (dCells k) 23)) hk (by decide)
  go_enter Tryd.func44, Tryd.ntmps44
  go_wp2_with (first
    | (refine wpList_load_row rfl 23 _ rfl w.heap.size rfl 23 _ (0, 0) _ hr1 Tryd.underlying23 rfl HI.out ?_)
    | (go_at_call 20; refine hs.mono ?_; rintro e w2 ⟨rfl, hb2⟩))
  go_ret
  exact ⟨rfl, below_tr hb1 hb2⟩
end Chart

namespace Chart
open Go Go.RowKit Go.Proofs

def bInit : ByteArray := { data := #[105, 110, 105, 116] }
def bCommit : ByteArray := { data := #[99, 111, 109, 109, 105, 116] }
def bChild : ByteArray := { data := #[99, 104, 105, 108, 100] }
/-- The names of the purposes lie where the program lays them. -/
structure LabEnv (w : World) : Prop where
  c0 : w.cell? ⟨2, 0, none⟩ = some (.string bInit)
  c1 : w.cell? ⟨2, 1, none⟩ = some (.string bCommit)
  c2 : w.cell? ⟨2, 2, none⟩ = some (.string bChild)
  size : 2 < w.heap.size
theorem LabEnv.below {w w' : World} (h : LabEnv w) (hb : Below w.heap.size w w') : LabEnv w' :=
  ⟨(hb.cell (p := ⟨2, 0, none⟩) h.size).trans h.c0, (hb.cell (p := ⟨2, 1, none⟩) h.size).trans h.c1, (hb.cell (p := ⟨2, 2, none⟩) h.size).trans h.c2, Nat.lt_of_lt_of_le h.size hb.size⟩

set_option maxHeartbeats 2000000 in
set_option maxRecDepth 100000 in
theorem of_any (p : Nat) (s : ByteArray) (k : List (BitVec 8)) (w : World) (hp : p < 3) (hs : s.size ≤ 1000000) (hc : w.cell? ⟨2, p, none⟩ = some (.string s)) (hz : 2 < w.heap.size) (hk : k.length = 32) (he : ShaEnv w) :
    Calls Tryd.prog 68 #[.int .i64 p, .agg (dCells k)] w fun e w' => e = .returned (.agg (dCells (expd k s []))) ∧ Below w.heap.size w w' := by
  have HI := Lib.hid (info_key' _ hk)
  have hXl := length_expd k s []
  have HIx := Lib.hid (info_key' _ hXl); have HSx := Lib.hid (size_dCells _ hXl); have HOx := Lib.hid (one_dCells (expd k s []))
  obtain ⟨X, hX⟩ : ∃ X, expd k s [] = X := ⟨_, rfl⟩
  have hex := fun w' (h : ShaEnv w') => expand_any k s (.slice none 0 0) [] w' hk (.inl ⟨rfl, rfl⟩) (by simp) hs (by simp) h
  rw [hX] at hex HIx HSx HOx ⊢
  clear hX hXl
  obtain ⟨B, hB⟩ : ∃ B, w.heap.size = B := ⟨_, rfl⟩
  rw [hB]
  have hle : B ≤ w.heap.size := Nat.le_of_eq hB.symm
  obtain ⟨w1, hw1⟩ : ∃ w1, w1 = w.alloc (.cells (dCells k) 23) := ⟨_, rfl⟩
  obtain ⟨w2, hw2⟩ : ∃ w2, w2 = w1.alloc (.cells (zrow 32) 23) := ⟨_, rfl⟩
  have s1 : w1.heap.size = B + 1 := by rw [hw1, World.size_alloc, hB]
  have s2 : w2.heap.size = B + 2 := by rw [hw2, World.size_alloc, s1]
  have b1 : Below w.heap.size w w1 := hw1 ▸ below_al w _
  have b2 : Below w1.heap.size w1 w2 := hw2 ▸ below_al w1 _
  have ra1 : w1.heap[B]? = some (.cells (dCells k) 23 (0, 0)) := by rw [hw1, ← hB]; exact heap_alloc_new w _
  have rd : w2.heap[B + 1]? = some (.cells (zrow 32) 23 (0, 0)) := by rw [hw2, ← s1]; exact heap_alloc_new w1 _
  have ra := row_below ra1 b2
  have hb2 : Below w.heap.size w w2 := below_tr b1 b2
  have he2 := he.below hb2
  have hc2 := (hb2.cell (p := ⟨2, p, none⟩) hz).trans hc
  have hz2 : 2 < B + 2 := by omega
  rw [hB] at hb2
  clear ra1 b1 b2 hc hz
  go_enter Tryd.func68, Tryd.ntmps68
  go_upto_region 1 with (fail)
  rw [← zrow32]
  rw [show (w.alloc (.cells (dCells k) 23)).alloc (.cells (zrow 32) 23) = w2 by rw [hw2, hw1]]
  clear hw1 hw2 s1
  have hle2 : B + 2 ≤ w2.heap.size := Nat.le_of_eq s2.symm
  have c1 : ∀ q : Own (B + 2) w2, Calls Tryd.prog 23 #[.agg (dCells k), .string s, .slice none 0 0] q.w' fun e w'' => e = .returned (.agg (dCells X)) ∧ ∃ p : Own (B + 2) w2, w'' = p.w' := fun q =>
    own_calls hle2 (hex q.w' (he2.below (s2.symm ▸ q.below)))
  have hcq : ∀ q : Own (B + 2) w2, q.w'.cell? ⟨2, p, none⟩ = some (.string s) := fun q => (q.below.cell (p := ⟨2, p, none⟩) hz2).trans hc2
  have q1 : (0 : Int) ≤ (p : Int) := by omega
  have q2 : (p : Int) < 3 := by omega
  clear hc2 he2 hex he s2
  refine wp_region_own_tail 5 (B + 2) (by kernel_rfl) (by kernel_rfl) ?_
  simp only [List.take_succ_cons, List.take_zero, List.drop_succ_cons, List.drop_zero]
  refine wpQuiet_load_row rfl 23 _ rfl B rfl 23 _ (0, 0) _ (fun _ ⟨q, hq⟩ => hq ▸ (q.below.block B (by omega)).trans ra) Tryd.underlying23 rfl HI.out ?_
  quiet_step (fail)
  quiet_step (fail)
  quiet_step (fail)
  quiet_step ((go_at_call 23; exact c1 _))
  refine wpQuiet_nil ?_
  rintro _ ⟨q, rfl⟩
  have hd3 := (q.below.block (B + 1) (by omega)).trans rd
  have hq3 := q.below
  generalize q.w' = w3 at *
  have hz : (zrow 32).size = (dCells X).size := by rw [HSx.out]; rfl
  go_wp2_with (refine wpList_store_row rfl 23 _ _ rfl (B + 1) _ rfl rfl 23 _ hd3 HIx.out hz HOx.out ?_)
  refine bodyPost_ret (results_cell_row rfl _ _ (B + 1) 23 _ (0, 0) _ rfl (setRow_heap _ _ _ _ _ _ hd3) Tryd.underlying23 rfl HIx.out) rfl ⟨rfl, ?_⟩
  exact (hb2.trans (hq3.mono (by omega))).trans ⟨rfl, rfl, rfl, by simp, fun i hi => by rw [setRow_other _ _ _ _ (by omega)]⟩
end Chart

namespace Chart
open Go Go.RowKit Go.Proofs

set_option maxHeartbeats 1000000 in
set_option maxRecDepth 100000 in
theorem sinit_any (k : List (BitVec 8)) (w : World) (hk : k.length = 32) (he : ShaEnv w) (hl : LabEnv w) :
    Calls Tryd.prog 39 #[.agg (dCells k)] w fun e w' => e = .returned (.agg (dCells (expd k bInit []))) ∧ Below w.heap.size w w' := by
  have HI := Lib.hid (info_key' _ hk)
  have hXl : (expd k bInit []).length = 32 := length_expd _ _ _
  have HIx := Lib.hid (info_key' _ hXl); have HSx := Lib.hid (size_dCells _ hXl); have HOx := Lib.hid (one_dCells (expd k bInit []))
  obtain ⟨B, hB⟩ : ∃ B, w.heap.size = B := ⟨_, rfl⟩
  obtain ⟨w1, hw1⟩ : ∃ w1, w1 = w.alloc (.cells (dCells k) 23) := ⟨_, rfl⟩
  obtain ⟨w2, hw2⟩ : ∃ w2, w2 = w1.alloc (.cells (zrow 32) 23) := ⟨_, rfl⟩
  have s1 : w1.heap.size = B + 1 := by rw [hw1, World.size_alloc, hB]
  have b1 : Below w.heap.size w w1 := hw1 ▸ below_al w _
  have b2 : Below w1.heap.size w1 w2 := hw2 ▸ below_al w1 _
  have ra1 : w1.heap[B]? = some (.cells (dCells k) 23 (0, 0)) := by rw [hw1, ← hB]; exact heap_alloc_new w _
  have rd : w2.heap[B + 1]? = some (.cells (zrow 32) 23 (0, 0)) := by rw [hw2, ← s1]; exact heap_alloc_new w1 _
  have ra := row_below ra1 b2
  have hb2 : Below w.heap.size w w2 := below_tr b1 b2
  have hl2 := hl.below hb2
  have hc := of_any 0 bInit k w2 (by decide) (by decide) hl2.c0 hl2.size hk (he.below hb2)
  obtain ⟨X, hX⟩ : ∃ X, expd k bInit [] = X := ⟨_, rfl⟩
  rw [hX] at hc HIx HSx HOx ⊢
  rw [hB] at hb2 ⊢
  clear ra1 b1 b2 hX hXl
  go_enter Tryd.func39, Tryd.ntmps39
  go_upto_region 1 with (fail)
  rw [← zrow32]
  rw [show (w.alloc (.cells (dCells k) 23)).alloc (.cells (zrow 32) 23) = w2 by rw [hw2, hw1]]
  clear hw1 hw2 s1
  have hz : (zrow 32).size = (dCells X).size := by rw [HSx.out]; rfl
  go_wp2_with (first
    | (refine wpList_load_row rfl 23 _ rfl B rfl 23 _ (0, 0) _ ra Tryd.underlying23 rfl HI.out ?_)
    | (go_at_call 68; refine hc.mono ?_; rintro e w3 ⟨rfl, hb3⟩; have hd3 := row_below rd hb3)
    | (refine wpList_store_row rfl 23 _ _ rfl (B + 1) _ rfl rfl 23 _ hd3 HIx.out hz HOx.out ?_))
  refine bodyPost_ret (results_cell_row rfl _ _ (B + 1) 23 _ (0, 0) _ rfl (setRow_heap _ _ _ _ _ _ hd3) Tryd.underlying23 rfl HIx.out) rfl ⟨rfl, ?_⟩
  exact (hb2.trans (hb3.mono (Nat.le_trans (Nat.le_of_eq hB.symm) hb2.size))).trans ⟨rfl, rfl, rfl, by simp, fun i hi => by rw [setRow_other _ _ _ _ (by omega)]⟩

set_option maxHeartbeats 1000000 in
set_option maxRecDepth 100000 in
theorem schild_any (k : List (BitVec 8)) (w : World) (hk : k.length = 32) (he : ShaEnv w) (hl : LabEnv w) :
    Calls Tryd.prog 45 #[.agg (dCells k)] w fun e w' => e = .returned (.agg (dCells (expd k bChild []))) ∧ Below w.heap.size w w' := by
  have HI := Lib.hid (info_key' _ hk)
  have hXl : (expd k bChild []).length = 32 := length_expd _ _ _
  have HIx := Lib.hid (info_key' _ hXl); have HSx := Lib.hid (size_dCells _ hXl); have HOx := Lib.hid (one_dCells (expd k bChild []))
  obtain ⟨B, hB⟩ : ∃ B, w.heap.size = B := ⟨_, rfl⟩
  obtain ⟨w1, hw1⟩ : ∃ w1, w1 = w.alloc (.cells (dCells k) 23) := ⟨_, rfl⟩
  obtain ⟨w2, hw2⟩ : ∃ w2, w2 = w1.alloc (.cells (zrow 32) 23) := ⟨_, rfl⟩
  have s1 : w1.heap.size = B + 1 := by rw [hw1, World.size_alloc, hB]
  have b1 : Below w.heap.size w w1 := hw1 ▸ below_al w _
  have b2 : Below w1.heap.size w1 w2 := hw2 ▸ below_al w1 _
  have ra1 : w1.heap[B]? = some (.cells (dCells k) 23 (0, 0)) := by rw [hw1, ← hB]; exact heap_alloc_new w _
  have rd : w2.heap[B + 1]? = some (.cells (zrow 32) 23 (0, 0)) := by rw [hw2, ← s1]; exact heap_alloc_new w1 _
  have ra := row_below ra1 b2
  have hb2 : Below w.heap.size w w2 := below_tr b1 b2
  have hl2 := hl.below hb2
  have hc := of_any 2 bChild k w2 (by decide) (by decide) hl2.c2 hl2.size hk (he.below hb2)
  obtain ⟨X, hX⟩ : ∃ X, expd k bChild [] = X := ⟨_, rfl⟩
  rw [hX] at hc HIx HSx HOx ⊢
  rw [hB] at hb2 ⊢
  clear ra1 b1 b2 hX hXl
  go_enter Tryd.func45, Tryd.ntmps45
  go_upto_region 1 with (fail)
  rw [← zrow32]
  rw [show (w.alloc (.cells (dCells k) 23)).alloc (.cells (zrow 32) 23) = w2 by rw [hw2, hw1]]
  clear hw1 hw2 s1
  have hz : (zrow 32).size = (dCells X).size := by rw [HSx.out]; rfl
  go_wp2_with (first
    | (refine wpList_load_row rfl 23 _ rfl B rfl 23 _ (0, 0) _ ra Tryd.underlying23 rfl HI.out ?_)
    | (go_at_call 68; refine hc.mono ?_; rintro e w3 ⟨rfl, hb3⟩; have hd3 := row_below rd hb3)
    | (refine wpList_store_row rfl 23 _ _ rfl (B + 1) _ rfl rfl 23 _ hd3 HIx.out hz HOx.out ?_))
  refine bodyPost_ret (results_cell_row rfl _ _ (B + 1) 23 _ (0, 0) _ rfl (setRow_heap _ _ _ _ _ _ hd3) Tryd.underlying23 rfl HIx.out) rfl ⟨rfl, ?_⟩
  exact (hb2.trans (hb3.mono (Nat.le_trans (Nat.le_of_eq hB.symm) hb2.size))).trans ⟨rfl, rfl, rfl, by simp, fun i hi => by rw [setRow_other _ _ _ _ (by omega)]⟩

set_option maxHeartbeats 1000000 in
set_option maxRecDepth 100000 in
theorem refsinit_any (k : List (BitVec 8)) (w : World) (hk : k.length = 32) :
    Calls Tryd.prog 40 #[.agg (dCells k)] w fun e w' => e = .returned (.agg (dCells (expd k bInit []))) ∧ Below w.heap.size w w' := by
  have HI := Lib.hid (info_key' _ hk)
  have hXl : (expd k bInit []).length = 32 := length_expd _ _ _
  have HIx := Lib.hid (info_key' _ hXl); have HSx := Lib.hid (size_dCells _ hXl); have HOx := Lib.hid (one_dCells (expd k bInit []))
  obtain ⟨B, hB⟩ : ∃ B, w.heap.size = B := ⟨_, rfl⟩
  obtain ⟨w1, hw1⟩ : ∃ w1, w1 = w.alloc (.cells (dCells k) 23) := ⟨_, rfl⟩
  obtain ⟨w2, hw2⟩ : ∃ w2, w2 = w1.alloc (.cells (zrow 32) 23) := ⟨_, rfl⟩
  have s1 : w1.heap.size = B + 1 := by rw [hw1, World.size_alloc, hB]
  have b1 : Below w.heap.size w w1 := hw1 ▸ below_al w _
  have b2 : Below w1.heap.size w1 w2 := hw2 ▸ below_al w1 _
  have ra1 : w1.heap[B]? = some (.cells (dCells k) 23 (0, 0)) := by rw [hw1, ← hB]; exact heap_alloc_new w _
  have rd : w2.heap[B + 1]? = some (.cells (zrow 32) 23 (0, 0)) := by rw [hw2, ← s1]; exact heap_alloc_new w1 _
  have ra := row_below ra1 b2
  have hb2 : Below w.heap.size w w2 := below_tr b1 b2
  have hc := refexpand_any k bInit (.slice none 0 0) [] w2 hk (.inl ⟨rfl, rfl⟩) (by simp) (by decide) (by simp)
  obtain ⟨X, hX⟩ : ∃ X, expd k bInit [] = X := ⟨_, rfl⟩
  rw [hX] at hc HIx HSx HOx ⊢
  rw [hB] at hb2 ⊢
  clear ra1 b1 b2 hX hXl
  go_enter Tryd.func40, Tryd.ntmps40
  go_upto_region 1 with (fail)
  rw [← zrow32]
  rw [show (w.alloc (.cells (dCells k) 23)).alloc (.cells (zrow 32) 23) = w2 by rw [hw2, hw1]]
  clear hw1 hw2 s1
  have hz : (zrow 32).size = (dCells X).size := by rw [HSx.out]; rfl
  go_wp2_with (first
    | (refine wpList_load_row rfl 23 _ rfl B rfl 23 _ (0, 0) _ ra Tryd.underlying23 rfl HI.out ?_)
    | (go_at_call 24; refine hc.mono ?_; rintro e w3 ⟨rfl, hb3⟩; have hd3 := row_below rd hb3)
    | (refine wpList_store_row rfl 23 _ _ rfl (B + 1) _ rfl rfl 23 _ hd3 HIx.out hz HOx.out ?_))
  refine bodyPost_ret (results_cell_row rfl _ _ (B + 1) 23 _ (0, 0) _ rfl (setRow_heap _ _ _ _ _ _ hd3) Tryd.underlying23 rfl HIx.out) rfl ⟨rfl, ?_⟩
  exact (hb2.trans (hb3.mono (Nat.le_trans (Nat.le_of_eq hB.symm) hb2.size))).trans ⟨rfl, rfl, rfl, by simp, fun i hi => by rw [setRow_other _ _ _ _ (by omega)]⟩

set_option maxHeartbeats 1000000 in
set_option maxRecDepth 100000 in
theorem refschild_any (k : List (BitVec 8)) (w : World) (hk : k.length = 32) :
    Calls Tryd.prog 46 #[.agg (dCells k)] w fun e w' => e = .returned (.agg (dCells (expd k bChild []))) ∧ Below w.heap.size w w' := by
  have HI := Lib.hid (info_key' _ hk)
  have hXl : (expd k bChild []).length = 32 := length_expd _ _ _
  have HIx := Lib.hid (info_key' _ hXl); have HSx := Lib.hid (size_dCells _ hXl); have HOx := Lib.hid (one_dCells (expd k bChild []))
  obtain ⟨B, hB⟩ : ∃ B, w.heap.size = B := ⟨_, rfl⟩
  obtain ⟨w1, hw1⟩ : ∃ w1, w1 = w.alloc (.cells (dCells k) 23) := ⟨_, rfl⟩
  obtain ⟨w2, hw2⟩ : ∃ w2, w2 = w1.alloc (.cells (zrow 32) 23) := ⟨_, rfl⟩
  have s1 : w1.heap.size = B + 1 := by rw [hw1, World.size_alloc, hB]
  have b1 : Below w.heap.size w w1 := hw1 ▸ below_al w _
  have b2 : Below w1.heap.size w1 w2 := hw2 ▸ below_al w1 _
  have ra1 : w1.heap[B]? = some (.cells (dCells k) 23 (0, 0)) := by rw [hw1, ← hB]; exact heap_alloc_new w _
  have rd : w2.heap[B + 1]? = some (.cells (zrow 32) 23 (0, 0)) := by rw [hw2, ← s1]; exact heap_alloc_new w1 _
  have ra := row_below ra1 b2
  have hb2 : Below w.heap.size w w2 := below_tr b1 b2
  have hc := refexpand_any k bChild (.slice none 0 0) [] w2 hk (.inl ⟨rfl, rfl⟩) (by simp) (by decide) (by simp)
  obtain ⟨X, hX⟩ : ∃ X, expd k bChild [] = X := ⟨_, rfl⟩
  rw [hX] at hc HIx HSx HOx ⊢
  rw [hB] at hb2 ⊢
  clear ra1 b1 b2 hX hXl
  go_enter Tryd.func46, Tryd.ntmps46
  go_upto_region 1 with (fail)
  rw [← zrow32]
  rw [show (w.alloc (.cells (dCells k) 23)).alloc (.cells (zrow 32) 23) = w2 by rw [hw2, hw1]]
  clear hw1 hw2 s1
  have hz : (zrow 32).size = (dCells X).size := by rw [HSx.out]; rfl
  go_wp2_with (first
    | (refine wpList_load_row rfl 23 _ rfl B rfl 23 _ (0, 0) _ ra Tryd.underlying23 rfl HI.out ?_)
    | (go_at_call 24; refine hc.mono ?_; rintro e w3 ⟨rfl, hb3⟩; have hd3 := row_below rd hb3)
    | (refine wpList_store_row rfl 23 _ _ rfl (B + 1) _ rfl rfl 23 _ hd3 HIx.out hz HOx.out ?_))
  refine bodyPost_ret (results_cell_row rfl _ _ (B + 1) 23 _ (0, 0) _ rfl (setRow_heap _ _ _ _ _ _ hd3) Tryd.underlying23 rfl HIx.out) rfl ⟨rfl, ?_⟩
  exact (hb2.trans (hb3.mono (Nat.le_trans (Nat.le_of_eq hB.symm) hb2.size))).trans ⟨rfl, rfl, rfl, by simp, fun i hi => by rw [setRow_other _ _ _ _ (by omega)]⟩
end Chart

namespace Chart
open Go Go.RowKit Go.Proofs

def bEpoch : ByteArray := { data := #[101, 112, 111, 99, 104] }
/-- The secret of an epoch. -/
def epochd (ki kr : List (BitVec 8)) : List (BitVec 8) := mixd bEpoch ki (expd kr bCommit [])
theorem length_epochd (ki kr : List (BitVec 8)) : (epochd ki kr).length = 32 := length_mixd _ _ _

set_option maxHeartbeats 2000000 in
set_option maxRecDepth 100000 in
theorem sepoch_any (ki kr : List (BitVec 8)) (w : World) (hi : ki.length = 32) (hr : kr.length = 32) (he : ShaEnv w) (hl : LabEnv w) :
    Calls Tryd.prog 37 #[.agg (dCells ki), .agg (dCells kr)] w fun e w' => e = .returned (.agg (dCells (epochd ki kr))) ∧ Below w.heap.size w w' := by
  have HIi := Lib.hid (info_key' _ hi); have HIr := Lib.hid (info_key' _ hr)
  have hml := length_mixd bEpoch ki (expd kr bCommit [])
  obtain ⟨X, hX⟩ : ∃ X, expd kr bCommit [] = X := ⟨_, rfl⟩
  obtain ⟨M, hM⟩ : ∃ M, epochd ki kr = M := ⟨_, rfl⟩
  have hXl : X.length = 32 := by rw [← hX]; exact length_expd _ _ _
  have hMX : mixd bEpoch ki X = M := by rw [← hM, ← hX]; rfl
  have hMl : M.length = 32 := by rw [← hMX]; exact length_mixd _ _ _
  have HIx := Lib.hid (info_key' _ hMl); have HSx := Lib.hid (size_dCells _ hMl); have HOx := Lib.hid (one_dCells M)
  rw [hM]
  obtain ⟨B, hB⟩ : ∃ B, w.heap.size = B := ⟨_, rfl⟩
  obtain ⟨w1, hw1⟩ : ∃ w1, w1 = w.alloc (.cells (dCells ki) 23) := ⟨_, rfl⟩
  obtain ⟨w2, hw2⟩ : ∃ w2, w2 = w1.alloc (.cells (dCells kr) 23) := ⟨_, rfl⟩
  obtain ⟨w3, hw3⟩ : ∃ w3, w3 = w2.alloc (.cells (zrow 32) 23) := ⟨_, rfl⟩
  have s1 : w1.heap.size = B + 1 := by rw [hw1, World.size_alloc, hB]
  have s2 : w2.heap.size = B + 2 := by rw [hw2, World.size_alloc, s1]
  have s3 : w3.heap.size = B + 3 := by rw [hw3, World.size_alloc, s2]
  have b1 : Below w.heap.size w w1 := hw1 ▸ below_al w _
  have b2 : Below w1.heap.size w1 w2 := hw2 ▸ below_al w1 _
  have b3 : Below w2.heap.size w2 w3 := hw3 ▸ below_al w2 _
  have ra1 : w1.heap[B]? = some (.cells (dCells ki) 23 (0, 0)) := by rw [hw1, ← hB]; exact heap_alloc_new w _
  have rb2 : w2.heap[B + 1]? = some (.cells (dCells kr) 23 (0, 0)) := by rw [hw2, ← s1]; exact heap_alloc_new w1 _
  have rd : w3.heap[B + 2]? = some (.cells (zrow 32) 23 (0, 0)) := by rw [hw3, ← s2]; exact heap_alloc_new w2 _
  have ra := row_below (row_below ra1 b2) b3
  have rb := row_below rb2 b3
  have hb3 : Below w.heap.size w w3 := below_tr (below_tr b1 b2) b3
  have hle3 : B + 3 ≤ w3.heap.size := Nat.le_of_eq s3.symm
  have hOB : ∀ q : Own (B + 3) w3, Below w3.heap.size w3 q.w' := fun q => s3.symm ▸ q.below
  have he3 := he.below hb3
  have hl3 := hl.below hb3
  have c1 : ∀ q : Own (B + 3) w3, Calls Tryd.prog 68 #[.int .i64 1, .agg (dCells kr)] q.w' fun e w'' => e = .returned (.agg (dCells X)) ∧ ∃ p : Own (B + 3) w3, w'' = p.w' := fun q =>
    own_calls hle3 (hX ▸ of_any 1 bCommit kr q.w' (by decide) (by decide) (hl3.below (hOB q)).c1 (hl3.below (hOB q)).size hr (he3.below (hOB q)))
  have c2 : ∀ q : Own (B + 3) w3, Calls Tryd.prog 25 #[.string bEpoch, .agg (dCells ki), .agg (dCells X)] q.w' fun e w'' => e = .returned (.agg (dCells M)) ∧ ∃ p : Own (B + 3) w3, w'' = p.w' := fun q =>
    own_calls hle3 (hMX ▸ mix_any bEpoch ki X q.w' hi hXl (by decide) (he3.below (hOB q)))
  clear he3 hl3
  rw [hB] at hb3 ⊢
  clear ra1 rb2 b1 b2 b3 hX hXl hM hMX hMl hml hOB
  go_enter Tryd.func37, Tryd.ntmps37
  go_upto_region 1 with (fail)
  rw [← zrow32]
  rw [show ((w.alloc (.cells (dCells ki) 23)).alloc (.cells (dCells kr) 23)).alloc (.cells (zrow 32) 23) = w3 by rw [hw3, hw2, hw1]]
  clear hw1 hw2 hw3 s1 s2 s3
  refine wp_region_own_tail 4 (B + 3) (by kernel_rfl) (by kernel_rfl) ?_
  simp only [List.take_succ_cons, List.take_zero, List.drop_succ_cons, List.drop_zero]
  refine wpQuiet_load_row rfl 23 _ rfl B rfl 23 _ (0, 0) _ (fun _ ⟨q, hq⟩ => hq ▸ (q.below.block B (by omega)).trans ra) Tryd.underlying23 rfl HIi.out ?_
  refine wpQuiet_load_row rfl 23 _ rfl (B + 1) rfl 23 _ (0, 0) _ (fun _ ⟨q, hq⟩ => hq ▸ (q.below.block (B + 1) (by omega)).trans rb) Tryd.underlying23 rfl HIr.out ?_
  quiet_step ((go_at_call 68; exact c1 _))
  quiet_step ((go_at_call 25; exact c2 _))
  refine wpQuiet_nil ?_
  rintro _ ⟨q, rfl⟩
  have hd3 := (q.below.block (B + 2) (by omega)).trans rd
  have hq3 := q.below
  generalize q.w' = w4 at *
  have hz : (zrow 32).size = (dCells M).size := by rw [HSx.out]; rfl
  go_wp2_with (refine wpList_store_row rfl 23 _ _ rfl (B + 2) _ rfl rfl 23 _ hd3 HIx.out hz HOx.out ?_)
  refine bodyPost_ret (results_cell_row rfl _ _ (B + 2) 23 _ (0, 0) _ rfl (setRow_heap _ _ _ _ _ _ hd3) Tryd.underlying23 rfl HIx.out) rfl ⟨rfl, ?_⟩
  exact (hb3.trans (hq3.mono (by omega))).trans ⟨rfl, rfl, rfl, by simp, fun i hi => by rw [setRow_other _ _ _ _ (by omega)]⟩

set_option maxHeartbeats 2000000 in
set_option maxRecDepth 100000 in
theorem refsepoch_any (ki kr : List (BitVec 8)) (w : World) (hi : ki.length = 32) (hr : kr.length = 32) :
    Calls Tryd.prog 38 #[.agg (dCells ki), .agg (dCells kr)] w fun e w' => e = .returned (.agg (dCells (epochd ki kr))) ∧ Below w.heap.size w w' := by
  have HIi := Lib.hid (info_key' _ hi); have HIr := Lib.hid (info_key' _ hr)
  have hml := length_mixd bEpoch ki (expd kr bCommit [])
  obtain ⟨X, hX⟩ : ∃ X, expd kr bCommit [] = X := ⟨_, rfl⟩
  obtain ⟨M, hM⟩ : ∃ M, epochd ki kr = M := ⟨_, rfl⟩
  have hXl : X.length = 32 := by rw [← hX]; exact length_expd _ _ _
  have hMX : mixd bEpoch ki X = M := by rw [← hM, ← hX]; rfl
  have hMl : M.length = 32 := by rw [← hMX]; exact length_mixd _ _ _
  have HIx := Lib.hid (info_key' _ hMl); have HSx := Lib.hid (size_dCells _ hMl); have HOx := Lib.hid (one_dCells M)
  rw [hM]
  obtain ⟨B, hB⟩ : ∃ B, w.heap.size = B := ⟨_, rfl⟩
  obtain ⟨w1, hw1⟩ : ∃ w1, w1 = w.alloc (.cells (dCells ki) 23) := ⟨_, rfl⟩
  obtain ⟨w2, hw2⟩ : ∃ w2, w2 = w1.alloc (.cells (dCells kr) 23) := ⟨_, rfl⟩
  obtain ⟨w3, hw3⟩ : ∃ w3, w3 = w2.alloc (.cells (zrow 32) 23) := ⟨_, rfl⟩
  have s1 : w1.heap.size = B + 1 := by rw [hw1, World.size_alloc, hB]
  have s2 : w2.heap.size = B + 2 := by rw [hw2, World.size_alloc, s1]
  have s3 : w3.heap.size = B + 3 := by rw [hw3, World.size_alloc, s2]
  have b1 : Below w.heap.size w w1 := hw1 ▸ below_al w _
  have b2 : Below w1.heap.size w1 w2 := hw2 ▸ below_al w1 _
  have b3 : Below w2.heap.size w2 w3 := hw3 ▸ below_al w2 _
  have ra1 : w1.heap[B]? = some (.cells (dCells ki) 23 (0, 0)) := by rw [hw1, ← hB]; exact heap_alloc_new w _
  have rb2 : w2.heap[B + 1]? = some (.cells (dCells kr) 23 (0, 0)) := by rw [hw2, ← s1]; exact heap_alloc_new w1 _
  have rd : w3.heap[B + 2]? = some (.cells (zrow 32) 23 (0, 0)) := by rw [hw3, ← s2]; exact heap_alloc_new w2 _
  have ra := row_below (row_below ra1 b2) b3
  have rb := row_below rb2 b3
  have hb3 : Below w.heap.size w w3 := below_tr (below_tr b1 b2) b3
  have hle3 : B + 3 ≤ w3.heap.size := Nat.le_of_eq s3.symm
  have hOB : ∀ q : Own (B + 3) w3, Below w3.heap.size w3 q.w' := fun q => s3.symm ▸ q.below
  have c1 : ∀ q : Own (B + 3) w3, Calls Tryd.prog 24 #[.agg (dCells kr), .string bCommit, .slice none 0 0] q.w' fun e w'' => e = .returned (.agg (dCells X)) ∧ ∃ p : Own (B + 3) w3, w'' = p.w' := fun q =>
    own_calls hle3 (hX ▸ refexpand_any kr bCommit (.slice none 0 0) [] q.w' hr (.inl ⟨rfl, rfl⟩) (by simp) (by decide) (by simp))
  have c2 : ∀ q : Own (B + 3) w3, Calls Tryd.prog 26 #[.string bEpoch, .agg (dCells ki), .agg (dCells X)] q.w' fun e w'' => e = .returned (.agg (dCells M)) ∧ ∃ p : Own (B + 3) w3, w'' = p.w' := fun q =>
    own_calls hle3 (hMX ▸ refmix_any bEpoch ki X q.w' hi hXl (by decide))
  rw [hB] at hb3 ⊢
  clear ra1 rb2 b1 b2 b3 hX hXl hM hMX hMl hml hOB
  go_enter Tryd.func38, Tryd.ntmps38
  go_upto_region 1 with (fail)
  rw [← zrow32]
  rw [show ((w.alloc (.cells (dCells ki) 23)).alloc (.cells (dCells kr) 23)).alloc (.cells (zrow 32) 23) = w3 by rw [hw3, hw2, hw1]]
  clear hw1 hw2 hw3 s1 s2 s3
  refine wp_region_own_tail 4 (B + 3) (by kernel_rfl) (by kernel_rfl) ?_
  simp only [List.take_succ_cons, List.take_zero, List.drop_succ_cons, List.drop_zero]
  refine wpQuiet_load_row rfl 23 _ rfl B rfl 23 _ (0, 0) _ (fun _ ⟨q, hq⟩ => hq ▸ (q.below.block B (by omega)).trans ra) Tryd.underlying23 rfl HIi.out ?_
  refine wpQuiet_load_row rfl 23 _ rfl (B + 1) rfl 23 _ (0, 0) _ (fun _ ⟨q, hq⟩ => hq ▸ (q.below.block (B + 1) (by omega)).trans rb) Tryd.underlying23 rfl HIr.out ?_
  quiet_step ((go_at_call 24; exact c1 _))
  quiet_step ((go_at_call 26; exact c2 _))
  refine wpQuiet_nil ?_
  rintro _ ⟨q, rfl⟩
  have hd3 := (q.below.block (B + 2) (by omega)).trans rd
  have hq3 := q.below
  generalize q.w' = w4 at *
  have hz : (zrow 32).size = (dCells M).size := by rw [HSx.out]; rfl
  go_wp2_with (refine wpList_store_row rfl 23 _ _ rfl (B + 2) _ rfl rfl 23 _ hd3 HIx.out hz HOx.out ?_)
  refine bodyPost_ret (results_cell_row rfl _ _ (B + 2) 23 _ (0, 0) _ rfl (setRow_heap _ _ _ _ _ _ hd3) Tryd.underlying23 rfl HIx.out) rfl ⟨rfl, ?_⟩
  exact (hb3.trans (hq3.mono (by omega))).trans ⟨rfl, rfl, rfl, by simp, fun i hi => by rw [setRow_other _ _ _ _ (by omega)]⟩
end Chart

namespace Chart
open Go Go.RowKit Go.Proofs

def bItem : ByteArray := { data := #[105, 116, 101, 109] }
theorem ok_two {m n : Int} (hm : ok64 m) (hn : ok64 n) : ∀ z ∈ [m, n], ok64 z := fun z hz => by
  simp at hz
  rcases hz with rfl | rfl
  · exact hm
  · exact hn

set_option maxHeartbeats 2000000 in
set_option maxRecDepth 100000 in
theorem scontent_any (k : List (BitVec 8)) (m n : Int) (w : World) (hk : k.length = 32) (hm : ok64 m) (hn : ok64 n) (he : ShaEnv w) :
    Calls Tryd.prog 41 #[.agg (dCells k), .int .i64 m, .int .i64 n] w fun e w' => e = .returned (.agg (dCells (expd k bItem [m, n]))) ∧ Below w.heap.size w w' := by
  have HI := Lib.hid (info_key' _ hk)
  have hXl := length_expd k bItem [m, n]
  have HIx := Lib.hid (info_key' _ hXl); have HSx := Lib.hid (size_dCells _ hXl); have HOx := Lib.hid (one_dCells (expd k bItem [m, n]))
  obtain ⟨B, hB⟩ : ∃ B, w.heap.size = B := ⟨_, rfl⟩
  obtain ⟨w1, hw1⟩ : ∃ w1, w1 = w.alloc (.cells (dCells k) 23) := ⟨_, rfl⟩
  obtain ⟨w2, hw2⟩ : ∃ w2, w2 = w1.alloc (.cells (zrow 32) 23) := ⟨_, rfl⟩
  have s1 : w1.heap.size = B + 1 := by rw [hw1, World.size_alloc, hB]
  have s2 : w2.heap.size = B + 2 := by rw [hw2, World.size_alloc, s1]
  have b1 : Below w.heap.size w w1 := hw1 ▸ below_al w _
  have b2 : Below w1.heap.size w1 w2 := hw2 ▸ below_al w1 _
  have ra1 : w1.heap[B]? = some (.cells (dCells k) 23 (0, 0)) := by rw [hw1, ← hB]; exact heap_alloc_new w _
  have rd : w2.heap[B + 1]? = some (.cells (zrow 32) 23 (0, 0)) := by rw [hw2, ← s1]; exact heap_alloc_new w1 _
  have ra := row_below ra1 b2
  have hb2 : Below w.heap.size w w2 := below_tr b1 b2
  have b3 := below_al w2 (.cells #[.int .i64 m, .int .i64 n] 3)
  have hrow := heap_alloc_new w2 (.cells #[.int .i64 m, .int .i64 n] 3)
  have hIS : IS (w2.alloc (.cells #[.int .i64 m, .int .i64 n] 3)) (.slice (some ⟨w2.heap.size, 0, none⟩) 2 2) [m, n] := .inr ⟨w2.heap.size, 0, 2, rfl, row_lt hrow, fun j z hz => by
    match j, hz with
    | 0, hz => cases hz; exact cell_of_row _ _ 0 _ _ _ hrow
    | 1, hz => cases hz; exact cell_of_row _ _ 1 _ _ _ hrow⟩
  have rd3 := row_below rd b3
  have hb3 := below_tr hb2 b3
  have he3 := he.below hb3
  have hc := expand_any k bItem _ [m, n] _ hk hIS (ok_two hm hn) (by decide) (by simp) he3
  obtain ⟨X, hX⟩ : ∃ X, expd k bItem [m, n] = X := ⟨_, rfl⟩
  rw [hX] at hc HIx HSx HOx ⊢
  rw [hB] at hb3 ⊢
  have hBle : B ≤ (w2.alloc (.cells #[.int .i64 m, .int .i64 n] 3)).heap.size := by rw [World.size_alloc, s2]; omega
  clear ra1 b1 b2 hX hXl b3 hrow hIS rd hb2
  go_enter Tryd.func41, Tryd.ntmps41
  go_upto_region 1 with (fail)
  rw [← zrow32]
  rw [show (w.alloc (.cells (dCells k) 23)).alloc (.cells (zrow 32) 23) = w2 by rw [hw2, hw1]]
  clear hw1 hw2 s1 s2
  have hz : (zrow 32).size = (dCells X).size := by rw [HSx.out]; rfl
  go_wp2_with (first
    | (refine wpList_load_row rfl 23 _ rfl B rfl 23 _ (0, 0) _ ra Tryd.underlying23 rfl HI.out ?_)
    | (go_at_call 23; refine hc.mono ?_; rintro e w4 ⟨rfl, hb4⟩; have hd4 := row_below rd3 hb4)
    | (refine wpList_store_row rfl 23 _ _ rfl (B + 1) _ rfl rfl 23 _ hd4 HIx.out hz HOx.out ?_))
  refine bodyPost_ret (results_cell_row rfl _ _ (B + 1) 23 _ (0, 0) _ rfl (setRow_heap _ _ _ _ _ _ hd4) Tryd.underlying23 rfl HIx.out) rfl ⟨rfl, ?_⟩
  exact (hb3.trans (hb4.mono hBle)).trans ⟨rfl, rfl, rfl, by simp, fun i hi => by rw [setRow_other _ _ _ _ (by omega)]⟩

set_option maxHeartbeats 2000000 in
set_option maxRecDepth 100000 in
theorem refscontent_any (k : List (BitVec 8)) (m n : Int) (w : World) (hk : k.length = 32) (hm : ok64 m) (hn : ok64 n) :
    Calls Tryd.prog 42 #[.agg (dCells k), .int .i64 m, .int .i64 n] w fun e w' => e = .returned (.agg (dCells (expd k bItem [m, n]))) ∧ Below w.heap.size w w' := by
  have HI := Lib.hid (info_key' _ hk)
  have hXl := length_expd k bItem [m, n]
  have HIx := Lib.hid (info_key' _ hXl); have HSx := Lib.hid (size_dCells _ hXl); have HOx := Lib.hid (one_dCells (expd k bItem [m, n]))
  obtain ⟨B, hB⟩ : ∃ B, w.heap.size = B := ⟨_, rfl⟩
  obtain ⟨w1, hw1⟩ : ∃ w1, w1 = w.alloc (.cells (dCells k) 23) := ⟨_, rfl⟩
  obtain ⟨w2, hw2⟩ : ∃ w2, w2 = w1.alloc (.cells (zrow 32) 23) := ⟨_, rfl⟩
  have s1 : w1.heap.size = B + 1 := by rw [hw1, World.size_alloc, hB]
  have s2 : w2.heap.size = B + 2 := by rw [hw2, World.size_alloc, s1]
  have b1 : Below w.heap.size w w1 := hw1 ▸ below_al w _
  have b2 : Below w1.heap.size w1 w2 := hw2 ▸ below_al w1 _
  have ra1 : w1.heap[B]? = some (.cells (dCells k) 23 (0, 0)) := by rw [hw1, ← hB]; exact heap_alloc_new w _
  have rd : w2.heap[B + 1]? = some (.cells (zrow 32) 23 (0, 0)) := by rw [hw2, ← s1]; exact heap_alloc_new w1 _
  have ra := row_below ra1 b2
  have hb2 : Below w.heap.size w w2 := below_tr b1 b2
  have b3 := below_al w2 (.cells #[.int .i64 m, .int .i64 n] 3)
  have hrow := heap_alloc_new w2 (.cells #[.int .i64 m, .int .i64 n] 3)
  have hIS : IS (w2.alloc (.cells #[.int .i64 m, .int .i64 n] 3)) (.slice (some ⟨w2.heap.size, 0, none⟩) 2 2) [m, n] := .inr ⟨w2.heap.size, 0, 2, rfl, row_lt hrow, fun j z hz => by
    match j, hz with
    | 0, hz => cases hz; exact cell_of_row _ _ 0 _ _ _ hrow
    | 1, hz => cases hz; exact cell_of_row _ _ 1 _ _ _ hrow⟩
  have rd3 := row_below rd b3
  have hb3 := below_tr hb2 b3
  have hdone : True := trivial
  clear hdone
  have hc := refexpand_any k bItem _ [m, n] _ hk hIS (ok_two hm hn) (by decide) (by simp)
  obtain ⟨X, hX⟩ : ∃ X, expd k bItem [m, n] = X := ⟨_, rfl⟩
  rw [hX] at hc HIx HSx HOx ⊢
  rw [hB] at hb3 ⊢
  have hBle : B ≤ (w2.alloc (.cells #[.int .i64 m, .int .i64 n] 3)).heap.size := by rw [World.size_alloc, s2]; omega
  clear ra1 b1 b2 hX hXl b3 hrow hIS rd hb2
  go_enter Tryd.func42, Tryd.ntmps42
  go_upto_region 1 with (fail)
  rw [← zrow32]
  rw [show (w.alloc (.cells (dCells k) 23)).alloc (.cells (zrow 32) 23) = w2 by rw [hw2, hw1]]
  clear hw1 hw2 s1 s2
  have hz : (zrow 32).size = (dCells X).size := by rw [HSx.out]; rfl
  go_wp2_with (first
    | (refine wpList_load_row rfl 23 _ rfl B rfl 23 _ (0, 0) _ ra Tryd.underlying23 rfl HI.out ?_)
    | (go_at_call 24; refine hc.mono ?_; rintro e w4 ⟨rfl, hb4⟩; have hd4 := row_below rd3 hb4)
    | (refine wpList_store_row rfl 23 _ _ rfl (B + 1) _ rfl rfl 23 _ hd4 HIx.out hz HOx.out ?_))
  refine bodyPost_ret (results_cell_row rfl _ _ (B + 1) 23 _ (0, 0) _ rfl (setRow_heap _ _ _ _ _ _ hd4) Tryd.underlying23 rfl HIx.out) rfl ⟨rfl, ?_⟩
  exact (hb3.trans (hb4.mono hBle)).trans ⟨rfl, rfl, rfl, by simp, fun i hi => by rw [setRow_other _ _ _ _ (by omega)]⟩
end Chart

namespace Chart
open Go Go.RowKit Go.Proofs

def bConfirm : ByteArray := { data := #[99, 111, 110, 102, 105, 114, 109] }
/-- What confirms the secret of an epoch. -/
def confirmd (k d : List (BitVec 8)) : List (BitVec 8) := tagd bConfirm (k ++ d)

set_option maxHeartbeats 2000000 in
set_option maxRecDepth 100000 in
theorem sconfirm_any (k d : List (BitVec 8)) (w : World) (hk : k.length = 32) (hd : d.length = 32) (he : ShaEnv w) :
    Calls Tryd.prog 47 #[.agg (dCells k), .agg (dCells d)] w fun e w' => e = .returned (.agg (dCells (confirmd k d))) ∧ Below w.heap.size w w' := by
  have hXl : (confirmd k d).length = 32 := length_tagd _ _
  have HIx := Lib.hid (info_digest' _ hXl); have HSx := Lib.hid (size_dCells _ hXl); have HOx := Lib.hid (one_dCells (confirmd k d))
  have HIk := Lib.hid (size_dCells k hk); have HId := Lib.hid (size_dCells d hd)
  obtain ⟨X, hX⟩ : ∃ X, confirmd k d = X := ⟨_, rfl⟩
  rw [hX] at HIx HSx HOx ⊢
  have hXd : tagd bConfirm (k ++ d) = X := hX
  obtain ⟨B, hB⟩ : ∃ B, w.heap.size = B := ⟨_, rfl⟩
  obtain ⟨w1, hw1⟩ : ∃ w1, w1 = w.alloc (.cells (dCells k) 23) := ⟨_, rfl⟩
  obtain ⟨w2, hw2⟩ : ∃ w2, w2 = w1.alloc (.cells (dCells d) 38) := ⟨_, rfl⟩
  obtain ⟨w3, hw3⟩ : ∃ w3, w3 = w2.alloc (.cells (zrow 32) 38) := ⟨_, rfl⟩
  have s1 : w1.heap.size = B + 1 := by rw [hw1, World.size_alloc, hB]
  have s2 : w2.heap.size = B + 2 := by rw [hw2, World.size_alloc, s1]
  have s3 : w3.heap.size = B + 3 := by rw [hw3, World.size_alloc, s2]
  have b1 : Below w.heap.size w w1 := hw1 ▸ below_al w _
  have b2 : Below w1.heap.size w1 w2 := hw2 ▸ below_al w1 _
  have b3 : Below w2.heap.size w2 w3 := hw3 ▸ below_al w2 _
  have ra1 : w1.heap[B]? = some (.cells (dCells k) 23 (0, 0)) := by rw [hw1, ← hB]; exact heap_alloc_new w _
  have rb2 : w2.heap[B + 1]? = some (.cells (dCells d) 38 (0, 0)) := by rw [hw2, ← s1]; exact heap_alloc_new w1 _
  have rd : w3.heap[B + 2]? = some (.cells (zrow 32) 38 (0, 0)) := by rw [hw3, ← s2]; exact heap_alloc_new w2 _
  have ra := row_below (row_below ra1 b2) b3
  have rb := row_below rb2 b3
  have hb3 : Below w.heap.size w w3 := below_tr (below_tr b1 b2) b3
  have he3 := he.below hb3
  rw [hB] at hb3 ⊢
  clear ra1 rb2 b1 b2 b3 hX hXl
  go_enter Tryd.func47, Tryd.ntmps47
  go_upto_region 1 with (fail)
  rw [← zrow32]
  rw [show ((w.alloc (.cells (dCells k) 23)).alloc (.cells (dCells d) 38)).alloc (.cells (zrow 32) 38) = w3 by rw [hw3, hw2, hw1]]
  clear hw1 hw2 hw3 s1 s2
  refine wp_region_quiet_drew 2 (by kernel_rfl) (by kernel_rfl) ?_
  simp only [List.take_succ_cons, List.take_zero, List.drop_succ_cons, List.drop_zero]
  repeat (quiet_step (fail))
  refine wpQuiet_nil ?_
  rintro _ ⟨nq, rfl⟩
  have hq : Below w3.heap.size w3 (w3.drewN nq) := ⟨rfl, rfl, rfl, Nat.le_refl _, fun _ _ => rfl⟩
  have ra4 := row_below ra hq
  have rb4 := row_below rb hq
  have rd4 := row_below rd hq
  have he4 := he3.below hq
  have s4 : (w3.drewN nq).heap.size = B + 3 := s3
  have hb4 : Below B w (w3.drewN nq) := hb3.trans (hq.mono (by omega))
  generalize w3.drewN nq = w4 at *
  go_wp2_with fail
  obtain ⟨w5, hw5⟩ : ∃ w5, w5 = w4.alloc (.cells #[.slice (some ⟨B, 0, none⟩) 32 32, .slice (some ⟨B + 1, 0, none⟩) 32 32] 32) := ⟨_, rfl⟩
  have b5 : Below w4.heap.size w4 w5 := hw5 ▸ below_al w4 _
  have hrow : w5.heap[B + 3]? = some (.cells #[.slice (some ⟨B, 0, none⟩) 32 32, .slice (some ⟨B + 1, 0, none⟩) 32 32] 32 (0, 0)) := by rw [hw5, ← s4]; exact heap_alloc_new w4 _
  rw [← hw5]
  clear hw5
  have ra5 := row_below ra4 b5
  have rb5 := row_below rb4 b5
  have rd5 := row_below rd4 b5
  have he5 := he4.below b5
  have hb5 : Below B w w5 := hb4.trans (b5.mono (by omega))
  have z5 : B ≤ w5.heap.size := by have := b5.size; omega
  have htot : total [(Value.slice (some ⟨B, 0, none⟩) 32 32, k), (Value.slice (some ⟨B + 1, 0, none⟩) 32 32, d)] = k ++ d := by simp [total]
  refine (concat_any (B + 3) 0 2 2 [(.slice (some ⟨B, 0, none⟩) 32 32, k), (.slice (some ⟨B + 1, 0, none⟩) 32 32, d)] w5 rfl (by unfold maxLen; omega) (by omega) (fun j p hp => ?_) (by rw [htot, List.length_append, hk, hd]; omega)).mono ?_
  · match j, hp with
    | 0, hp => cases hp; exact ⟨cell_of_row w5 _ 0 _ _ _ hrow, BS.of_digest ra5 hk⟩
    | 1, hp => cases hp; exact ⟨cell_of_row w5 _ 1 _ _ _ hrow, BS.of_digest rb5 hd⟩
  rintro e w6 ⟨v6, rfl, ho6, hb6⟩
  rw [htot] at ho6
  have rd6 := row_below rd5 hb6
  have he6 := he5.below hb6
  have hB6 : Below B w w6 := hb5.trans (hb6.mono z5)
  have z6 : B ≤ w6.heap.size := Nat.le_trans z5 hb6.size
  have htg := tagged_any bConfirm v6 (k ++ d) w6 (by decide) ho6.bs (by rw [List.length_append, hk, hd]; decide) he6
  rw [hXd] at htg
  clear htot hXd ho6 he6 he5 rd5 ra5 rb5 hrow b5 ra4 rb4 rd4 he4 hb5 hb6
  go_wp2_with fail
  refine htg.mono ?_
  rintro e w7 ⟨rfl, hb7⟩
  have rd7 := row_below rd6 hb7
  have hz : (zrow 32).size = (dCells X).size := by rw [HSx.out]; rfl
  go_wp2_with (refine wpList_store_row rfl 38 _ _ rfl (B + 2) _ rfl rfl 38 _ rd7 HIx.out hz HOx.out ?_)
  refine bodyPost_ret (results_cell_row rfl _ _ (B + 2) 38 _ (0, 0) _ rfl (setRow_heap _ _ _ _ _ _ rd7) Tryd.underlying38 rfl HIx.out) rfl ⟨rfl, ?_⟩
  exact (hB6.trans (hb7.mono z6)).trans ⟨rfl, rfl, rfl, by simp, fun i hi => by rw [setRow_other _ _ _ _ (by omega)]⟩
end Chart

namespace Chart
open Go Go.RowKit Go.Proofs
set_option linter.unusedSimpArgs false

set_option maxHeartbeats 2000000 in
set_option maxRecDepth 100000 in
theorem refsconfirm_any (k d : List (BitVec 8)) (w : World) (hk : k.length = 32) (hd : d.length = 32) :
    Calls Tryd.prog 48 #[.agg (dCells k), .agg (dCells d)] w fun e w' => e = .returned (.agg (dCells (confirmd k d))) ∧ Below w.heap.size w w' := by
  have hXl : (confirmd k d).length = 32 := length_tagd _ _
  have HIx := Lib.hid (info_digest' _ hXl); have HSx := Lib.hid (size_dCells _ hXl); have HOx := Lib.hid (one_dCells (confirmd k d))
  have HIk := Lib.hid (size_dCells k hk); have HId := Lib.hid (size_dCells d hd)
  obtain ⟨X, hX⟩ : ∃ X, confirmd k d = X := ⟨_, rfl⟩
  rw [hX] at HIx HSx HOx ⊢
  have hXd : tagd bConfirm (k ++ d) = X := hX
  obtain ⟨B, hB⟩ : ∃ B, w.heap.size = B := ⟨_, rfl⟩
  obtain ⟨w1, hw1⟩ : ∃ w1, w1 = w.alloc (.cells (dCells k) 23) := ⟨_, rfl⟩
  obtain ⟨w2, hw2⟩ : ∃ w2, w2 = w1.alloc (.cells (dCells d) 38) := ⟨_, rfl⟩
  obtain ⟨w3, hw3⟩ : ∃ w3, w3 = w2.alloc (.cells (zrow 32) 38) := ⟨_, rfl⟩
  have s1 : w1.heap.size = B + 1 := by rw [hw1, World.size_alloc, hB]
  have s2 : w2.heap.size = B + 2 := by rw [hw2, World.size_alloc, s1]
  have s3 : w3.heap.size = B + 3 := by rw [hw3, World.size_alloc, s2]
  have b1 : Below w.heap.size w w1 := hw1 ▸ below_al w _
  have b2 : Below w1.heap.size w1 w2 := hw2 ▸ below_al w1 _
  have b3 : Below w2.heap.size w2 w3 := hw3 ▸ below_al w2 _
  have ra1 : w1.heap[B]? = some (.cells (dCells k) 23 (0, 0)) := by rw [hw1, ← hB]; exact heap_alloc_new w _
  have rb2 : w2.heap[B + 1]? = some (.cells (dCells d) 38 (0, 0)) := by rw [hw2, ← s1]; exact heap_alloc_new w1 _
  have rd : w3.heap[B + 2]? = some (.cells (zrow 32) 38 (0, 0)) := by rw [hw3, ← s2]; exact heap_alloc_new w2 _
  have ra := row_below (row_below ra1 b2) b3
  have rb := row_below rb2 b3
  have hb3 : Below w.heap.size w w3 := below_tr (below_tr b1 b2) b3
  rw [hB] at hb3 ⊢
  clear ra1 rb2 b1 b2 b3 hX hXl
  go_enter Tryd.func48, Tryd.ntmps48
  go_upto_region 1 with (fail)
  rw [← zrow32]
  rw [show ((w.alloc (.cells (dCells k) 23)).alloc (.cells (dCells d) 38)).alloc (.cells (zrow 32) 38) = w3 by rw [hw3, hw2, hw1]]
  clear hw1 hw2 hw3 s1 s2
  have za := row_lt ra
  have zb := row_lt rb
  have zd := row_lt rd
  obtain ⟨N, hN⟩ : ∃ N, w3.heap.size = N := ⟨_, rfl⟩
  rw [hN] at za zb zd
  have SA : ∀ w', Below N w3 w' → BS w' (.slice (some ⟨B, 0, none⟩) 32 32) k := fun w' h => BS.of_digest ((h.block B za).trans ra) hk
  have SB' : ∀ w', Below N w3 w' → BS w' (.slice (some ⟨B + 1, 0, none⟩) 32 32) d := fun w' h => BS.of_digest ((h.block (B + 1) zb).trans rb) hd
  have hlen1 : ([] : List (BitVec 8)).length + k.length ≤ 140737488355328 := by rw [hk]; decide
  have hlen2 : ([] ++ k).length + d.length ≤ 140737488355328 := by rw [List.nil_append, hk, hd]; decide
  have HSZ : ∀ w', Below N w3 w' → N ≤ w'.heap.size := fun w' h => Nat.le_trans (Nat.le_of_eq hN.symm) h.size
  have hBN : B ≤ N := by omega
  have hdN : B + 2 < N := zd
  have htg : ∀ v w', BS w' v ([] ++ k ++ d) → Calls Tryd.prog 57 #[.string bConfirm, v] w' fun e w'' => e = .returned (.agg (dCells X)) ∧ Below w'.heap.size w' w'' := fun v w' h => by
    rw [← hXd]
    exact reftagged_any bConfirm v (k ++ d) w' (by decide) h (by rw [List.length_append, hk, hd]; decide)
  have hr0 : Below N w3 w3.drew := (Below.refl _ _).drew
  have hrA0 : Below N w3 (w3.alloc (.cells #[] 5)) := (Below.refl _ _).alloc (Nat.le_of_eq hN.symm) _
  have hrA : Below N w3 (w3.alloc (.cells #[] 5)).drew := hrA0.drew
  have HO0 : OB (w3.alloc (.cells #[] 5)).drew N (.slice (some ⟨w3.heap.size, 0, none⟩) 0 0) [] := (OB.empty w3 N w3.heap.size rfl (Nat.le_of_eq hN.symm)).below ((Below.refl _ _).drew)
  clear hN hXd s3
  rw [show B + 1 + 1 = B + 2 from rfl]
  refine wp_region_held_drew (S := fun w' => Below (B + 2) w3 w') (by kernel_rfl) (hr0.mono (by omega)) (fun hHeld => ?_)
  refine wpAnyH_take (i := 1) (v := .slice (some ⟨B, 0, none⟩) 32 32) rfl (by kernel_rfl) (by kernel_rfl) (by kernel_rfl) (fun _ _ _ h => h) (Or.inl ⟨by rfl, ?_⟩) hHeld ?_
  · intro w' hw'
    go_simp
  try simp only [Act.put, List.setIfInBounds_toArray, List.set_cons_zero, List.set_cons_succ]
  refine wpAnyH_take (i := 3) (v := .slice (some ⟨B + 1, 0, none⟩) 32 32) rfl (by kernel_rfl) (by kernel_rfl) (by kernel_rfl) (fun _ _ _ h => h) (Or.inl ⟨by rfl, ?_⟩) hHeld ?_
  · intro w' hw'
    go_simp
  try simp only [Act.put, List.setIfInBounds_toArray, List.set_cons_zero, List.set_cons_succ]
  refine wpAnyH_ready (rs := [0]) (by kernel_rfl) (by simp) (AllReadyH.cons rfl (fun K hK => ?_) AllReadyH.nil)
  go_simp
  refine hK.out _ _ (hrA.mono (by omega)) (fun hHeld => ?_)
  clear hK K
  try simp only [Act.put, List.setIfInBounds_toArray, List.set_cons_zero, List.set_cons_succ]
  refine wpAnyH_ready (rs := [2]) (by kernel_rfl) (by simp) (AllReadyH.cons rfl (fun K hK => ?_) AllReadyH.nil)
  refine step_app2g (by rfl) _ _ rfl N _ _ rfl HO0 _ _ rfl (SA _ hrA) hlen1 (HSZ _ hrA) ?_
  intro v5 w5 ho5 hg5
  have hq5 : Below N w3 w5 := hrA.trans (hg5.below (HSZ _ hrA) HO0)
  refine hK.out _ _ (hq5.mono (by omega)) (fun hHeld => ?_)
  clear hK K
  try simp only [Act.put, List.setIfInBounds_toArray, List.set_cons_zero, List.set_cons_succ]
  refine wpAnyH_ready (rs := [4]) (by kernel_rfl) (by simp) (AllReadyH.cons rfl (fun K hK => ?_) AllReadyH.nil)
  refine step_app2g (by rfl) _ _ rfl N _ _ rfl ho5 _ _ rfl (SB' _ hq5) hlen2 (HSZ _ hq5) ?_
  intro v6 w6 ho6 hg6
  have hq6 : Below N w3 w6 := hq5.trans (hg6.below (HSZ _ hq5) ho5)
  refine hK.out _ _ (hq6.mono (by omega)) (fun hHeld => ?_)
  clear hK K
  try simp only [Act.put, List.setIfInBounds_toArray, List.set_cons_zero, List.set_cons_succ]
  refine wpAnyH_ready (rs := [5]) (by kernel_rfl) (by simp) (AllReadyH.cons rfl (fun K hK => ?_) AllReadyH.nil)
  go_simp
  go_at_call 57
  refine (htg v6 w6 ho6.bs).mono ?_
  rintro e w7 ⟨rfl, hb7⟩
  have hq7 : Below N w3 w7 := hq6.trans (hb7.mono (HSZ _ hq6))
  have rd7 := (hq7.block (B + 2) hdN).trans rd
  have hz : (zrow 32).size = (dCells X).size := by rw [HSx.out]; rfl
  refine hK.out _ _ (hq7.mono (by omega)) (fun hHeld => ?_)
  clear hK K
  try simp only [Act.put, List.setIfInBounds_toArray, List.set_cons_zero, List.set_cons_succ]
  refine wpAnyH_ready (rs := [6]) (by kernel_rfl) (by simp) (AllReadyH.cons rfl (fun K hK => ?_) AllReadyH.nil)
  rw [if_pos (by rfl)]
  refine wp_store_row 38 _ _ rfl (B + 2) (dCells X) rfl rfl 38 _ rd7 HIx.out hz HOx.out ?_
  refine hK.out _ _ ((hq7.mono (by omega)).trans ⟨rfl, rfl, rfl, by simp, fun i hi => by rw [setRow_other _ _ _ _ (by omega)]⟩) (fun hHeld => ?_)
  refine wpAnyH_done (by kernel_rfl) ?_ _
  try simp only [Act.put, List.setIfInBounds_toArray, List.set_cons_zero, List.set_cons_succ]
  go_wp2
  refine bodyPost_ret (results_cell_row rfl _ _ (B + 2) 38 _ (0, 0) _ rfl (setRow_heap _ _ _ _ _ _ rd7) Tryd.underlying38 rfl HIx.out) rfl ⟨rfl, ?_⟩
  exact (hb3.trans (hq7.mono hBN)).trans ⟨rfl, rfl, rfl, by simp, fun i hi => by rw [setRow_other _ _ _ _ (by omega)]⟩
end Chart
