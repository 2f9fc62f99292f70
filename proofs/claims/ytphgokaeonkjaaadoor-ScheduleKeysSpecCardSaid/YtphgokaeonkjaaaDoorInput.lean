/- derive's input: a buffer that keys are written to. -/
import Derived.Test.YtphgokaeonkjaaaDoorRefPE
import Derived.Test.YtphgokaeonkjaaaDoorShelf
import Derived.Test.YtphgokaeonkjaaaDoorOwn
namespace Chart
open Go Go.RowKit Go.Proofs

/-- An input that holds these bytes. -/
def Inp (w : World) (B b : Nat) (l : List (BitVec 8)) : Prop := LibA.IsBuffer 77 (fun _ => none) 5 B b 0 (l.map B8) w
abbrev Kept (b : Nat) (w w' : World) : Prop := Lib.OthersKept 5 (some b) w w'

theorem below_drewN {B n : Nat} {w w' : World} (h : Below B (w.drewN n) w') : Below B w w' := ⟨h.os, h.tape, h.output, h.size, h.block⟩

theorem one_map (l : List (BitVec 8)) : ∀ v ∈ l.map B8, v.oneCell' = true := fun u hu => by obtain ⟨y, _, rfl⟩ := List.mem_map.1 hu; rfl

theorem inp_write (B b : Nat) (l m : List (BitVec 8)) (v : Value) (w : World) (h : Inp w B b l) (hBw : B ≤ w.heap.size) (a : Addr) (c : Nat) (hv : v = .slice (some a) m.length c) (hab : a.block ≠ b)
    (hsrc : ∀ j x, m[j]? = some x → w.cell? (a.add j) = some (B8 x)) (hlim : l.length + m.length ≤ 140737488355328) :
    Calls Tryd.prog 59 #[.pointer (some ⟨b, 0, none⟩), v] w fun e w' => e = .returned (.tuple #[.int .i64 m.length, .nilIface]) ∧ Inp w' B b (l ++ m) ∧ Below B w w' ∧ Kept b w w' := by
  subst hv
  have := Tryd.Buffer_Write_at 77 (fun _ => none) B b 0 (l.map B8) (m.map B8) a m.length c w h hBw (one_map l) (by simp) hab (fun j u hu => by
    rw [List.getElem?_map] at hu
    cases hm : m[j]? with
    | none => rw [hm] at hu; cases hu
    | some y => rw [hm] at hu; cases hu; exact hsrc j y hm) (one_map m) (by simpa using hlim)
  unfold Inp
  rw [List.map_append]
  exact this

set_option maxHeartbeats 2000000 in
set_option maxRecDepth 100000 in
theorem key_any (B b : Nat) (l k : List (BitVec 8)) (w : World) (h : Inp w B b l) (hBw : B ≤ w.heap.size) (hk : k.length = 32) (hlim : l.length + 32 ≤ 140737488355328) :
    Calls Tryd.prog 58 #[.pointer (some ⟨b, 0, none⟩), .agg (dCells k)] w fun e w' => e = .returned (.pointer (some ⟨b, 0, none⟩)) ∧ Inp w' B b (l ++ k) ∧ Below B w w' ∧ Kept b w w' := by
  have hlt := LibA.IsBuffer.lt h
  have hi1 := LibA.IsBuffer.alloc h (.cells (dCells k) 23)
  have hrow := heap_alloc_new w (.cells (dCells k) 23)
  have hks := size_dCells k hk
  have HKS := Lib.hid hks
  clear hks
  have hb1 : Below B w (w.alloc (.cells (dCells k) 23)) := (Below.refl B w).alloc hBw _
  have hk1 : Kept b w (w.alloc (.cells (dCells k) 23)) := fun i o hi _ _ => (Below.heap_alloc _ _ i (Array.getElem?_eq_some_iff.1 hi).1).trans hi
  have hsz : (w.alloc (.cells (dCells k) 23)).heap.size = w.heap.size + 1 := World.size_alloc _ _
  obtain ⟨bk, hbk⟩ : ∃ bk, w.heap.size = bk := ⟨_, rfl⟩
  rw [hbk] at hrow hsz hlt
  go_enter Tryd.func58, Tryd.ntmps58
  go_wp2_with fail
  generalize w.alloc (.cells (dCells k) 23) = w1 at *
  refine wp_region_quiet_drew 4 (by kernel_rfl) (by kernel_rfl) ?_
  simp only [List.take_succ_cons, List.take_zero, List.drop_succ_cons, List.drop_zero]
  repeat (quiet_step (fail))
  refine wpQuiet_nil ?_
  rintro _ ⟨nq, rfl⟩
  have hby : BytesAt w1 bk 0 k := BytesAt.of_row hrow
  have hwr := inp_write B b l k (.slice (some ⟨bk, 0, none⟩) 32 32) (w1.drewN nq) (LibA.IsBuffer.drewN hi1 nq) (by show B ≤ w1.heap.size; omega) ⟨bk, 0, none⟩ 32 (by rw [hk]) (by show bk ≠ b; omega) (fun j x hx => by
    rw [Addr.add_lit, Nat.zero_add]; have := hby j x hx; rw [Nat.zero_add] at this; simpa using this) (by rw [hk]; exact hlim)
  rw [hk] at hwr
  go_wp2_with fail
  refine hwr.mono ?_
  rintro e w2 ⟨rfl, hi2, hb2, hk2⟩
  go_wp2
  go_ret
  exact ⟨rfl, hi2, hb1.trans (below_drewN hb2), (hk1.trans (fun i o hi _ _ => hi)).trans hk2⟩

set_option maxHeartbeats 2000000 in
set_option maxRecDepth 100000 in
theorem bytes_any (B b : Nat) (l : List (BitVec 8)) (w : World) (h : Inp w B b l) :
    Calls Tryd.prog 82 #[.pointer (some ⟨b, 0, none⟩)] w fun e w' => ∃ v, e = .returned v ∧ BS w v l ∧ ∃ n, w.drewN n = w' := by
  obtain ⟨hB, v, lr, ht, ho, hne⟩ := h
  have c0 := ht.c0
  have c1 := ht.c1
  rw [List.length_map] at ho
  have hbs : BS w v l := OB.bs ho
  rcases hbs with ⟨rfl, rfl⟩ | ⟨g, off, cap, rfl, h1, h2, h3, h4⟩
  · go_enter Tryd.func82, Tryd.ntmps82
    go_wp2_with fail
    go_quiet (fail)
    go_wp2
    go_ret
    exact ⟨_, rfl, .inl ⟨rfl, rfl⟩, nq, rfl⟩
  · unfold maxLen at h2
    go_enter Tryd.func82, Tryd.ntmps82
    go_wp2_with fail
    go_quiet (fail)
    go_wp2
    go_ret
    exact ⟨_, rfl, .inr ⟨g, off, cap, rfl, h1, by unfold maxLen; exact h2, h3, h4⟩, nq, rfl⟩

set_option maxHeartbeats 2000000 in
set_option maxRecDepth 100000 in
theorem under_any (B b : Nat) (l : List (BitVec 8)) (tag : ByteArray) (w : World) (h : Inp w B b l) (ht : tag.size ≤ 140737488355328) (hl : l.length + 32 ≤ 140737488355328) (he : ShaEnv w) :
    Calls Tryd.prog 60 #[.pointer (some ⟨b, 0, none⟩), .string tag] w fun e w' => e = .returned (.agg (dCells (tagd tag l))) ∧ Below w.heap.size w w' := by
  have htl := length_tagd tag l
  have HI2 := Lib.hid (info_key' _ htl); have HS2 := Lib.hid (size_dCells _ htl); have HO2 := Lib.hid (one_dCells (tagd tag l))
  clear htl
  obtain ⟨bd, hbd⟩ : ∃ bd, w.heap.size = bd := ⟨_, rfl⟩
  rw [hbd]
  have hb1 : Below bd w (w.alloc (.cells (zrow 32) 23)) := (Below.refl bd w).alloc (by omega) _
  have hd1 : (w.alloc (.cells (zrow 32) 23)).heap[bd]? = some (.cells (zrow 32) 23 (0, 0)) := by rw [← hbd]; exact heap_alloc_new w _
  have hi1 : Inp (w.alloc (.cells (zrow 32) 23)) B b l := LibA.IsBuffer.alloc h _
  have he1 := he.below (show Below w.heap.size w (w.alloc (.cells (zrow 32) 23)) by rw [hbd]; exact hb1)
  have hs1 : (w.alloc (.cells (zrow 32) 23)).heap.size = bd + 1 := by simp [hbd]
  go_enter Tryd.func60, Tryd.ntmps60
  go_wp2_with fail
  rw [← zrow32]
  generalize w.alloc (.cells (zrow 32) 23) = w1 at *
  refine (bytes_any B b l w1 hi1).mono ?_
  rintro e w2 ⟨v, rfl, hbs, n, rfl⟩
  have hb2 : Below bd w (w1.drewN n) := hb1.trans ⟨rfl, rfl, rfl, Nat.le_refl _, fun _ _ => rfl⟩
  go_wp2_with fail
  refine (tagged_any tag v l (w1.drewN n) ht (hbs.below ⟨rfl, rfl, rfl, Nat.le_refl _, fun _ _ => rfl⟩) hl (he1.below ⟨rfl, rfl, rfl, Nat.le_refl _, fun _ _ => rfl⟩)).mono ?_
  rintro e w3 ⟨rfl, hb3⟩
  have hb3' := below_drewN hb3
  have hd3 : w3.heap[bd]? = some (.cells (zrow 32) 23 (0, 0)) := (hb3'.block bd (by show bd < w1.heap.size; omega)).trans hd1
  have hz : (zrow 32).size = (dCells (tagd tag l)).size := by rw [HS2.out]; rfl
  go_wp2_with (refine wpList_store_row rfl 23 _ _ rfl bd _ rfl rfl 23 _ hd3 HI2.out hz HO2.out ?_)
  refine bodyPost_ret (results_cell_row rfl _ _ bd 23 _ (0, 0) _ rfl (setRow_heap _ _ _ _ _ _ hd3) Tryd.underlying23 rfl HI2.out) rfl ⟨rfl, ?_⟩
  exact (hb1.trans (hb3'.mono (by show bd ≤ w1.heap.size; omega))).trans ⟨rfl, rfl, rfl, by simp, fun i hi => by rw [setRow_other _ _ _ _ (by omega)]⟩
end Chart
