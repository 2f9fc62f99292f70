/- group.rest: the number of a digest modulo Q - 1. group.Scalar: the scalar of bytes. Scalar, of the program and of the reference. -/
import Derived.Test.YtphgokaeonkjaaaDoorDiv
import Derived.Test.YtphgokaeonkjaaaDoorRefSS
import Derived.WalkSmall
import Derived.Test.YtphgokaeonkjaaaDoorTagged
namespace Chart
open Go Go.RowKit Go.Proofs

set_option maxHeartbeats 2000000 in
set_option maxRecDepth 100000 in
theorem fold_any (x n : Int) (bn bm : Nat) (w : World) (hx0 : 0 ≤ x) (hx : x < 256) (hn0 : 0 ≤ n) (hn : n < 2305843009213688668)
    (hcn : w.cell? ⟨bn, 0, none⟩ = some (.int .u64 n)) (hfn : w.frozen? ⟨bn, 0, none⟩ = false) (hcm : w.cell? ⟨bm, 0, none⟩ = some (.int .u64 2305843009213688668)) :
    Calls Tryd.prog 92 #[.int .u8 x, .pointer (some ⟨bn, 0, none⟩), .pointer (some ⟨bm, 0, none⟩)] w fun e w' =>
      e = .returned (.tuple #[]) ∧ ∃ j, w' = (w.drewN j).setCell ⟨bn, 0, none⟩ (.int .u64 ((n * 256 + x) % 2305843009213688668)) := by
  obtain ⟨L, hL⟩ : ∃ L, L = n * 256 % 18446744073709551616 := ⟨_, rfl⟩
  have hw : IntKind.u64.wrap (n * 256) = L := by rw [hL]; exact wrap_u64_mod _
  have hor : bits .or .u64 L x = L + x := u64_or_disj 8 (n % 72057594037927936) x L (by omega) (by omega) (by omega) hx0 (by omega) (by omega)
  have hd := fun w' => divq_any (n / 72057594037927936) (L + x) w' (by omega) (by omega) (by omega) (by omega)
  have he : n / 72057594037927936 * 18446744073709551616 + (L + x) = n * 256 + x := by omega
  rw [he] at hd
  clear hL he
  obtain ⟨r, hr⟩ : ∃ r, r = (n * 256 + x) % 2305843009213688668 := ⟨_, rfl⟩
  rw [← hr] at hd ⊢
  clear hr
  go_enter Tryd.func92, Tryd.ntmps92
  go_wp2_with (refine (hd _).mono ?_; rintro e w' ⟨⟨q, rfl⟩, j, rfl⟩)
  go_end0
  exact ⟨rfl, j, rfl⟩

theorem index_digest (l : List (BitVec 8)) (k : Nat) (x : BitVec 8) (hk : k < 32) (hx : (dCells l)[k]? = some (B8 x)) (w : World) :
    (Instr.index 38 (.agg (dCells l)) (.int .i64 k)).run Tryd.prog w = .ok (.int .u8 (x.toNat : Int)) w := by
  have h32 : (0 : Int) ≤ (k : Int) ∧ (k : Int) < 32 := by omega
  simp [Instr.index, run_underlying Tryd.underlying38, asIntOf, h32, go_sem, hx, hk]
  rfl
theorem results_cell_any {fn : Func} {p : Tmp} {ty : TypeId} (h : fn.results = #[.cell p ty]) (tmps : Array Value) (w : World) (a : Addr) (v : Value)
    (hp : tmps.getD p undef = .pointer (some a)) (hl : (loadVar ty a).run Tryd.prog w = .ok v w) : (results fn tmps).run Tryd.prog w = .ok v w := by
  have hp' : tmps[p]?.getD undef = .pointer (some a) := by simpa [Array.getD_eq_getD_getElem?] using hp
  simp [results, h, hp', asAddr, hl]
theorem load_u64 (w : World) (a : Addr) (n : Int) (hc : w.cell? a = some (.int .u64 n)) : (loadVar 91 a).run Tryd.prog w = .ok (.int .u64 n) w := by
  simp [loadVar, go_sem, hc]
theorem rest_step (m : Nat) (l : List (BitVec 8)) (x : BitVec 8) : restN m (l ++ [x]) 0 = (restN m l 0 * 256 + x.toNat) % m := by
  rw [restN_append, Nat.mul_comm, Nat.add_mod, Nat.mod_mod, ← Nat.add_mod]

set_option maxHeartbeats 2000000 in
set_option maxRecDepth 100000 in
theorem rest_any (l : List (BitVec 8)) (w : World) (hl : l.length = 32) :
    Calls Tryd.prog 70 #[.agg (dCells l), .int .u64 2305843009213688668] w fun e w' => e = .returned (.int .u64 (restN 2305843009213688668 l 0)) ∧ Below w.heap.size w w' := by
  obtain ⟨B, hB⟩ : ∃ B, w.heap.size = B := ⟨_, rfl⟩
  rw [hB]
  have HD := Lib.hid (size_dCells l hl)
  have hmf : ∀ (fn : Fn) (first cap : Array Value) (w : World), (Instr.makeFunc fn first cap).run Tryd.prog w = .ok (.func fn first cap) w := fun _ _ _ _ => rfl
  have hb1 : Below B w (((w.alloc (.cells (dCells l) 38)).alloc (.cells #[.int .u64 2305843009213688668] 91)).alloc (.cells #[.int .u64 0] 91)) :=
    (((Below.refl B w).alloc (by omega) _).alloc (by simp [hB]) _).alloc (by simp [hB]; omega) _
  have hr0 : (((w.alloc (.cells (dCells l) 38)).alloc (.cells #[.int .u64 2305843009213688668] 91)).alloc (.cells #[.int .u64 0] 91)).heap[B]? = some (.cells (dCells l) 38 (0, 0)) :=
    (Below.heap_alloc _ _ B (by simp [hB]; omega)).trans ((Below.heap_alloc _ _ B (by simp [hB])).trans (by rw [← hB]; exact heap_alloc_new w _))
  have hr1 : (((w.alloc (.cells (dCells l) 38)).alloc (.cells #[.int .u64 2305843009213688668] 91)).alloc (.cells #[.int .u64 0] 91)).heap[B + 1]? = some (.cells #[.int .u64 2305843009213688668] 91 (0, 0)) := by
    have := heap_alloc_new (w.alloc (.cells (dCells l) 38)) (.cells #[.int .u64 2305843009213688668] 91)
    rw [World.size_alloc, hB] at this
    exact (Below.heap_alloc _ _ (B + 1) (by simp [hB])).trans this
  have hr2 : (((w.alloc (.cells (dCells l) 38)).alloc (.cells #[.int .u64 2305843009213688668] 91)).alloc (.cells #[.int .u64 0] 91)).heap[B + 2]? = some (.cells #[.int .u64 0] 91 (0, 0)) := by
    have := heap_alloc_new ((w.alloc (.cells (dCells l) 38)).alloc (.cells #[.int .u64 2305843009213688668] 91)) (.cells #[.int .u64 0] 91)
    simpa [hB] using this
  go_enter Tryd.func70, Tryd.ntmps70
  go_upto_region 2 with (fail)
  rw [show B + 1 + 1 = B + 2 from rfl]
  generalize ((w.alloc (.cells (dCells l) 38)).alloc (.cells #[.int .u64 2305843009213688668] 91)).alloc (.cells #[.int .u64 0] 91) = w1 at *
  have HI := Lib.hid (info_digest' l hl)
  go_wp2_with (refine wpList_load_row rfl 38 _ rfl B rfl 38 _ (0, 0) _ hr0 Tryd.underlying38 rfl HI.out ?_)
  go_loopw [10] (fun t wr => ∃ k : Nat, k ≤ 32 ∧ t = .int .i64 k ∧ wr.heap[B + 1]? = some (.cells #[.int .u64 2305843009213688668] 91 (0, 0)) ∧ wr.heap[B + 2]? = some (.cells #[.int .u64 (restN 2305843009213688668 (l.take k) 0)] 91 (0, 0)) ∧ Below B w wr) (fun t _ => 32 - (intOf t).toNat)
  case atStart => exact ⟨0, by omega, rfl, hr1, hr2, hb1⟩
  case round =>
    obtain ⟨k, hk, rfl, h1, h2, hb⟩ := hrel
    have hcm := cell_of_row wr (B + 1) 0 _ _ _ h1
    have hcn := cell_of_row wr (B + 2) 0 _ _ _ h2
    have hfn := frozen_of_row wr (B + 2) 0 _ _ h2
    by_cases hlt : k < 32
    · obtain ⟨x, hx⟩ : ∃ x, l[k]? = some x := ⟨l[k]'(by omega), by simp [hl, hlt]⟩
      have hc : (dCells l)[k]? = some (B8 x) := by simp [dCells, hx]
      have hst : restN 2305843009213688668 (l.take (k + 1)) 0 = (restN 2305843009213688668 (l.take k) 0 * 256 + x.toNat) % 2305843009213688668 := by rw [List.take_add_one, hx]; exact rest_step _ _ _
      have hix := fun w' => index_digest l k x hlt hc w'
      have hlt2 := restN_lt 2305843009213688668 (by omega) (l.take k) 0 (by omega)
      have hxl := x.isLt
      have hfo := fold_any (x.toNat : Int) (restN 2305843009213688668 (l.take k) 0 : Int) (B + 2) (B + 1) wr (by omega) (by omega) (by omega) (by omega) hcn hfn hcm
      rw [show ((restN 2305843009213688668 (l.take k) 0 : Nat) : Int) * 256 + (x.toNat : Int) = ((restN 2305843009213688668 (l.take k) 0 * 256 + x.toNat : Nat) : Int) from by omega] at hfo
      have e2 : ((restN 2305843009213688668 (l.take k) 0 * 256 + x.toNat : Nat) : Int) % 2305843009213688668 = ((restN 2305843009213688668 (l.take (k + 1)) 0 : Nat) : Int) := by rw [hst]; omega
      rw [e2] at hfo
      clear hst e2 hcn hcm hfn hc hx
      generalize hr' : restN 2305843009213688668 (l.take (k + 1)) 0 = r' at *
      have HR := Lib.hid hr'
      clear hr'
      go_wp2_with (refine hfo.mono ?_; rintro e w' ⟨rfl, j, rfl⟩)
      go_roundw
      case rel =>
        refine ⟨k + 1, by omega, by go_num, ?_, ?_, ?_⟩
        · rw [heap_setCell_other _ _ _ _ (by show B + 1 ≠ B + 2; omega)]; exact h1
        · rw [heap_setCell_same _ _ _ _ _ _ (show (wr.drewN j).heap[B + 2]? = _ from h2), HR.out]; rfl
        · exact (Go.below_drewN hb j).setCell (p := ⟨B + 2, 0, none⟩) (by show B ≤ B + 2; omega) _
      case measure => simp [intOf]; omega
    · obtain rfl : k = 32 := by omega
      rw [List.take_of_length_le (by omega)] at h2 hcn
      go_wp2
      refine bodyPost_ret (results_cell_any rfl _ _ ⟨B + 2, 0, none⟩ _ rfl (load_u64 _ _ (restN 2305843009213688668 l 0 : Nat) ?_)) rfl ⟨rfl, hb.setCell (p := ⟨B + 2, 0, none⟩) (by show B ≤ B + 2; omega) _⟩
      have hq := heap_setCell_same wr (B + 2) 0 _ _ (.int .u64 (restN 2305843009213688668 l 0 : Nat)) h2
      exact (cell_of_row _ (B + 2) 0 _ _ _ hq).trans rfl
end Chart

namespace Chart
open Go Go.RowKit Go.Proofs

set_option maxHeartbeats 2000000 in
set_option maxRecDepth 100000 in
theorem scalar_any (tag : ByteArray) (v : Value) (l : List (BitVec 8)) (w : World) (ht : tag.size ≤ 140737488355328) (hv : BS w v l) (hl : l.length + 32 ≤ 140737488355328) (he : ShaEnv w) :
    Calls Tryd.prog 50 #[.string tag, v] w fun e w' => e = .returned (.int .i64 (scal tag l)) ∧ Below w.heap.size w w' := by
  have htg := tagged_any tag v l w ht hv hl he
  have hrs := fun w' => rest_any (tagd tag l) w' (length_tagd tag l)
  have hlt := restN_lt 2305843009213688668 (by decide) (tagd tag l) 0 (by decide)
  have HS := Lib.hid (show scal tag l = restN 2305843009213688668 (tagd tag l) 0 + 1 from rfl)
  generalize restN 2305843009213688668 (tagd tag l) 0 = q at *
  have hlt' : (q : Int) < 2305843009213688668 := by omega
  have HL := Lib.hid hlt
  clear hlt
  go_enter Tryd.func50, Tryd.ntmps50
  go_wp2_with fail
  refine htg.mono ?_
  rintro e w2 ⟨rfl, hb2⟩
  go_wp2_with fail
  refine (hrs _).mono ?_
  rintro e w3 ⟨rfl, hb3⟩
  go_wp2
  go_ret
  refine ⟨?_, hb2.trans (hb3.mono hb2.size)⟩
  rw [HS.out]
  simp; omega
end Chart

namespace Chart
open Go Go.RowKit Go.Proofs

def bScalar : ByteArray := { data := #[115, 99, 97, 108, 97, 114] }
/-- The private key of a purpose. -/
def dscal (k : List (BitVec 8)) (label : ByteArray) : Nat := scal bScalar (expd k label [])

set_option maxHeartbeats 2000000 in
set_option maxRecDepth 100000 in
theorem dscalar_any (k : List (BitVec 8)) (label : ByteArray) (w : World) (hk : k.length = 32) (hla : label.size ≤ 1000000) (he : ShaEnv w) :
    Calls Tryd.prog 19 #[.agg (dCells k), .string label] w fun e w' => e = .returned (.int .i64 (dscal k label)) ∧ Below w.heap.size w w' := by
  have hlen := length_expd k label []
  have HI := Lib.hid (info_key' _ hk); have HI2 := Lib.hid (info_key' _ hlen); have HS2 := Lib.hid (size_dCells _ hlen); have HO2 := Lib.hid (one_dCells (expd k label []))
  have HL := Lib.hid hlen
  clear hlen
  have HSC := Lib.hid (show dscal k label = scal bScalar (expd k label []) from rfl)
  obtain ⟨B, hB⟩ : ∃ B, w.heap.size = B := ⟨_, rfl⟩
  rw [hB]
  have hb1 : Below B w (w.alloc (.cells (dCells k) 23)) := (Below.refl B w).alloc (by omega) _
  have hb1' : Below w.heap.size w (w.alloc (.cells (dCells k) 23)) := by rw [hB]; exact hb1
  have hr1 : (w.alloc (.cells (dCells k) 23)).heap[B]? = some (.cells (dCells k) 23 (0, 0)) := by rw [← hB]; exact heap_alloc_new w _
  have hs1 : (w.alloc (.cells (dCells k) 23)).heap.size = B + 1 := by simp [hB]
  have hex := expand_any k label (.slice none 0 0) [] (w.alloc (.cells (dCells k) 23)) hk (.inl ⟨rfl, rfl⟩) (by simp) hla (by simp) (he.below hb1')
  rw [hs1] at hex
  go_enter Tryd.func19, Tryd.ntmps19
  go_upto_region 1 with (fail)
  generalize w.alloc (.cells (dCells k) 23) = w1 at *
  go_upto_region 2 with (first
    | (refine wpList_load_row rfl 23 _ rfl B rfl 23 _ (0, 0) _ hr1 Tryd.underlying23 rfl HI.out ?_)
    | (go_at_call 23; refine hex.mono ?_; rintro e w2 ⟨rfl, hb2⟩)
    | (refine st_new rfl 23 _ _ rfl (dCells (expd k label [])) _ 23 rfl rfl HI2.out (by rw [HS2.out]; rfl) HO2.out ?_))
  have hs2 := hb2.size
  have hb3 : Below B w (w2.alloc (.cells (dCells (expd k label [])) 23)) := (hb1.trans (hb2.mono (by omega))).alloc (by omega) _
  have hbs : BS (w2.alloc (.cells (dCells (expd k label [])) 23)) (.slice (some ⟨w2.heap.size, 0, none⟩) 32 32) (expd k label []) := BS.of_digest (heap_alloc_new w2 _) HL.out
  have hsc := scalar_any bScalar _ _ _ (by decide) hbs (by rw [HL.out]; decide) (he.below (by rw [hB]; exact hb3))
  rw [← HSC.out] at hsc
  generalize w2.alloc (.cells (dCells (expd k label [])) 23) = w3 at *
  go_wp2_with fail
  refine hsc.mono ?_
  rintro e w4 ⟨rfl, hb4⟩
  go_wp2
  go_ret
  exact ⟨rfl, hb3.trans (hb4.mono (by have := hb3.size; omega))⟩

set_option maxHeartbeats 2000000 in
set_option maxRecDepth 100000 in
theorem refdscalar_any (k : List (BitVec 8)) (label : ByteArray) (w : World) (hk : k.length = 32) (hla : label.size ≤ 1000000) :
    Calls Tryd.prog 20 #[.agg (dCells k), .string label] w fun e w' => e = .returned (.int .i64 (dscal k label)) ∧ Below w.heap.size w w' := by
  have hlen := length_expd k label []
  have HI := Lib.hid (info_key' _ hk); have HI2 := Lib.hid (info_key' _ hlen); have HS2 := Lib.hid (size_dCells _ hlen); have HO2 := Lib.hid (one_dCells (expd k label []))
  have HL := Lib.hid hlen
  clear hlen
  have HSC := Lib.hid (show dscal k label = scal bScalar (expd k label []) from rfl)
  obtain ⟨B, hB⟩ : ∃ B, w.heap.size = B := ⟨_, rfl⟩
  rw [hB]
  have hb1 : Below B w (w.alloc (.cells (dCells k) 23)) := (Below.refl B w).alloc (by omega) _
  have hb1' : Below w.heap.size w (w.alloc (.cells (dCells k) 23)) := by rw [hB]; exact hb1
  have hr1 : (w.alloc (.cells (dCells k) 23)).heap[B]? = some (.cells (dCells k) 23 (0, 0)) := by rw [← hB]; exact heap_alloc_new w _
  have hs1 : (w.alloc (.cells (dCells k) 23)).heap.size = B + 1 := by simp [hB]
  have hex := refexpand_any k label (.slice none 0 0) [] (w.alloc (.cells (dCells k) 23)) hk (.inl ⟨rfl, rfl⟩) (by simp) hla (by simp)
  rw [hs1] at hex
  go_enter Tryd.func20, Tryd.ntmps20
  go_upto_region 1 with (fail)
  generalize w.alloc (.cells (dCells k) 23) = w1 at *
  go_upto_region 2 with (first
    | (refine wpList_load_row rfl 23 _ rfl B rfl 23 _ (0, 0) _ hr1 Tryd.underlying23 rfl HI.out ?_)
    | (go_at_call 24; refine hex.mono ?_; rintro e w2 ⟨rfl, hb2⟩)
    | (refine st_new rfl 23 _ _ rfl (dCells (expd k label [])) _ 23 rfl rfl HI2.out (by rw [HS2.out]; rfl) HO2.out ?_))
  have hs2 := hb2.size
  have hb3 : Below B w (w2.alloc (.cells (dCells (expd k label [])) 23)) := (hb1.trans (hb2.mono (by omega))).alloc (by omega) _
  have hbs : BS (w2.alloc (.cells (dCells (expd k label [])) 23)) (.slice (some ⟨w2.heap.size, 0, none⟩) 32 32) (expd k label []) := BS.of_digest (heap_alloc_new w2 _) HL.out
  have hsc := refscalar_any bScalar _ _ _ (by decide) hbs (by rw [HL.out]; decide)
  rw [← HSC.out] at hsc
  generalize w2.alloc (.cells (dCells (expd k label [])) 23) = w3 at *
  go_wp2_with fail
  refine hsc.mono ?_
  rintro e w4 ⟨rfl, hb4⟩
  go_wp2
  go_ret
  exact ⟨rfl, hb3.trans (hb4.mono (by have := hb3.size; omega))⟩
end Chart
