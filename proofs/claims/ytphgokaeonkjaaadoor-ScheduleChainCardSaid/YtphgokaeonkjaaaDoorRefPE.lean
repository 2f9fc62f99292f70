/- The reference's purpose. The reference's Expand. -/
import Derived.Test.YtphgokaeonkjaaaDoorPurpose
import Derived.Test.YtphgokaeonkjaaaDoorRefTagged
namespace Chart
open Go Go.RowKit Go.Proofs

set_option maxHeartbeats 4000000 in
set_option maxRecDepth 100000 in
theorem refpurpose_any (label : ByteArray) (vn : Value) (ns : List Int) (w : World) (hv : IS w vn ns) (hok : ∀ n ∈ ns, ok64 n) (h1 : label.size ≤ 1000000) (h2 : ns.length ≤ 1000000) :
    Calls Tryd.prog 61 #[.string label, vn] w fun e w' => ∃ v', e = .returned v' ∧ OB w' w.heap.size v' (encL (purp label ns)) ∧ Below w.heap.size w w' := by
  have hlp := length_purp label ns hok (by omega) (by omega)
  have hpo := purp_ok label ns hok (by omega)
  have HLP := Lib.hid hlp; have HPO := Lib.hid hpo
  clear hlp hpo
  obtain ⟨va, N, vc, rfl, hN⟩ : ∃ a N c, vn = .slice a N c ∧ ns.length = N := by
    rcases hv with ⟨h, h'⟩ | ⟨b, off, cap, h, _⟩
    · exact ⟨_, _, _, h, by rw [h']; rfl⟩
    · exact ⟨_, _, _, h, rfl⟩
  obtain ⟨B, hB⟩ : ∃ B, w.heap.size = B := ⟨_, rfl⟩
  rw [hB]
  have ho1 := OL.one w B B (.text label) hB (Nat.le_refl _)
  have hb1 : Below B w (w.alloc (.cells (Leaf.text label).cells 62)) := (Below.refl B w).alloc (by omega) _
  have HO1 := Lib.hid ho1; have HB1 := Lib.hid hb1
  clear ho1 hb1
  unfold Leaf.cells at HO1 HB1
  go_enter Tryd.func61, Tryd.ntmps61
  go_wp2
  go_loopw [5, 6] (fun s t wr => ∃ k : Nat, k ≤ N ∧ t = .int .i64 k ∧ OL wr B s (purp label (ns.take k)) ∧ Below B w wr) (fun _ t _ => N - (intOf t).toNat)
  case atStart => exact ⟨0, by omega, rfl, HO1.out, HB1.out⟩
  case round =>
    clear HO1 HB1
    obtain ⟨k, hk, rfl, ho, hg⟩ := hrel
    have hgs := hg.size
    by_cases hlt : k < N
    · obtain ⟨n, hn⟩ : ∃ n, ns[k]? = some n := ⟨ns[k]'(by omega), by simp [hN, hlt]⟩
      have hstep := purp_take label ns k n hn
      have hlen : (purp label (ns.take k)).length + 1 ≤ 1099511627776 := by unfold purp; simp; omega
      have hvr := hv.below (show Below w.heap.size w wr by rw [hB]; exact hg)
      rcases hvr with ⟨h, h'⟩ | ⟨b, off, cap, h, hbl, hcell⟩
      · rw [h'] at hn; simp at hn
      · cases h
        have hc := hcell k n hn
        have HST := Lib.hid hstep
        clear hcell hstep hn
        generalize purp label (ns.take k) = L at *
        obtain ⟨bw, hbw⟩ : ∃ bw, wr.heap.size = bw := ⟨_, rfl⟩
        have hrow : (wr.alloc (.cells (Leaf.int n).cells 62)).heap[bw]? = some (.cells (Leaf.int n).cells 62 (0, 0)) := by rw [← hbw]; exact heap_alloc_new wr _
        have hg1 : Below B w (wr.alloc (.cells (Leaf.int n).cells 62)) := hg.alloc (by omega) _
        go_wp2_with (at_builtin; refine app_leaf rfl _ _ rfl B _ _ rfl (ho.al _) (.int n) bw rfl hrow hlen (by simp; omega) ?_; intro v2 w2 ho2 hg2)
        go_roundw
        case rel => exact ⟨k + 1, by omega, by go_num, by rw [HST.out]; exact ho2, hg1.grown hg2 (by simp; omega) (fun k h => (World.ownsRow.lt ho k h).1)⟩
        case measure => simp [intOf]; omega
    · obtain rfl : k = N := by omega
      rw [List.take_of_length_le (by omega)] at ho
      obtain ⟨g, cap, rfl, hg1, hg2, hg3, hg4, hL⟩ := ho.some (by simp [purp])
      have henc := refEncode_list g 0 _ cap (purp label ns) wr rfl hL HPO.out hg2 hg3 hg4 (by have := HLP.out; omega)
      unfold lCells at henc
      go_wp2_with fail
      refine henc.mono ?_
      rintro e w4 ⟨v4, rfl, ho4, hb4⟩
      go_wp2
      go_ret
      exact ⟨_, rfl, ho4.mono (by omega), hg.trans (hb4.mono (by omega))⟩
end Chart

namespace Chart
open Go Go.RowKit Go.Proofs

def bDerive : ByteArray := { data := #[100, 101, 114, 105, 118, 101] }
/-- What Expand hashes, and its hash. -/
def expd (key : List (BitVec 8)) (label : ByteArray) (ns : List Int) : List (BitVec 8) := tagd bDerive (key ++ encL (purp label ns))
theorem length_expd (key : List (BitVec 8)) (label : ByteArray) (ns : List Int) : (expd key label ns).length = 32 := length_tagd _ _
theorem info_key : (Tryd.prog.info? 23).map (·.size) = some 32 := by kernel_rfl
theorem info_key' (l : List (BitVec 8)) (h : l.length = 32) : (Tryd.prog.info? 23).map (·.size) = some (dCells l).size := by rw [size_dCells l h]; exact info_key

theorem zrow32 : zrow 32 = #[Value.int IntKind.u8 0, Value.int IntKind.u8 0, Value.int IntKind.u8 0, Value.int IntKind.u8 0, Value.int IntKind.u8 0, Value.int IntKind.u8 0, Value.int IntKind.u8 0, Value.int IntKind.u8 0, Value.int IntKind.u8 0, Value.int IntKind.u8 0, Value.int IntKind.u8 0, Value.int IntKind.u8 0, Value.int IntKind.u8 0, Value.int IntKind.u8 0, Value.int IntKind.u8 0, Value.int IntKind.u8 0, Value.int IntKind.u8 0, Value.int IntKind.u8 0, Value.int IntKind.u8 0, Value.int IntKind.u8 0, Value.int IntKind.u8 0, Value.int IntKind.u8 0, Value.int IntKind.u8 0, Value.int IntKind.u8 0, Value.int IntKind.u8 0, Value.int IntKind.u8 0, Value.int IntKind.u8 0, Value.int IntKind.u8 0, Value.int IntKind.u8 0, Value.int IntKind.u8 0, Value.int IntKind.u8 0, Value.int IntKind.u8 0] := rfl

set_option maxHeartbeats 4000000 in
set_option maxRecDepth 100000 in
theorem refexpand_any (key : List (BitVec 8)) (label : ByteArray) (vn : Value) (ns : List Int) (w : World) (hk : key.length = 32) (hv : IS w vn ns) (hok : ∀ n ∈ ns, ok64 n) (h1 : label.size ≤ 1000000) (h2 : ns.length ≤ 1000000) :
    Calls Tryd.prog 24 #[.agg (dCells key), .string label, vn] w fun e w' => e = .returned (.agg (dCells (expd key label ns))) ∧ Below w.heap.size w w' := by
  have hlp := length_purp label ns hok (by omega) (by omega)
  have HE := Lib.hid (show expd key label ns = tagd bDerive (key ++ encL (purp label ns)) from rfl)
  have htl := length_expd key label ns
  have HI2 := Lib.hid (info_key' _ htl); have HS2 := Lib.hid (size_dCells _ htl); have HO2 := Lib.hid (one_dCells (expd key label ns))
  have HK := Lib.hid hk
  have hks := size_dCells key hk
  have HKS := Lib.hid hks
  clear htl hks
  obtain ⟨B, hB⟩ : ∃ B, w.heap.size = B := ⟨_, rfl⟩
  rw [hB]
  go_enter Tryd.func24, Tryd.ntmps24
  have hr2 : ((w.alloc (.cells (dCells key) 23)).alloc (.cells (zrow 32) 23)).heap[B]? = some (.cells (dCells key) 23 (0, 0)) :=
    (Below.heap_alloc _ _ B (by simp [hB])).trans (by rw [← hB]; exact heap_alloc_new w _)
  have hd2 : ((w.alloc (.cells (dCells key) 23)).alloc (.cells (zrow 32) 23)).heap[B + 1]? = some (.cells (zrow 32) 23 (0, 0)) := by
    have := heap_alloc_new (w.alloc (.cells (dCells key) 23)) (.cells (zrow 32) 23)
    simpa [hB] using this
  have hb2 : Below B w ((w.alloc (.cells (dCells key) 23)).alloc (.cells (zrow 32) 23)) := ((Below.refl B w).alloc (by omega) _).alloc (by simp [hB]) _
  have hs2 : ((w.alloc (.cells (dCells key) 23)).alloc (.cells (zrow 32) 23)).heap.size = B + 2 := by simp [hB]
  go_upto_region 1 with (fail)
  rw [← zrow32]
  generalize (w.alloc (.cells (dCells key) 23)).alloc (.cells (zrow 32) 23) = w2 at *
  have hbs2 : BS w2 (.slice (some ⟨B, 0, none⟩) 32 32) key := BS.of_digest hr2 hk
  have hsz := hb2.size
  have hl32 : ([] : List (BitVec 8)).length + key.length ≤ 140737488355328 := by rw [hk]; simp
  have hBle : B + 2 ≤ w2.heap.size := by omega
  have hv2 := hv.below (show Below w.heap.size w w2 by rw [hB]; exact hb2)
  have HS := Lib.hid hs2
  clear hs2
  go_wp2_with (at_builtin; refine app2 rfl _ _ rfl (B + 2) _ _ rfl (OB.empty w2 (B + 2) _ rfl hBle) _ _ rfl (hbs2.below ((Below.refl _ w2).alloc (Nat.le_refl _) _)) hl32 (Nat.le_trans hBle (World.grownBy_alloc w2 _ none).size) ?_; intro v3 w3 ho3 hg3)
  have hB3 : Below w2.heap.size w2 w3 := ((Below.refl _ w2).alloc (Nat.le_refl _) _).trans (hg3.below (World.grownBy_alloc w2 _ none).size (OB.empty w2 w2.heap.size _ rfl (Nat.le_refl _)))
  have hd3 := (hB3.block (B + 1) (by omega)).trans hd2
  have hs3 := hB3.size
  have hBw3 : Below B w w3 := hb2.trans (hB3.mono (by omega))
  refine (refpurpose_any label vn ns w3 (hv2.below hB3) hok h1 h2).mono ?_
  rintro e w4 ⟨v4, rfl, ho4, hb4⟩
  have ho3' := OB.below ho3 hb4
  have hd4 := (hb4.block (B + 1) (by omega)).trans hd3
  have hBw4 : Below B w w4 := hBw3.trans (hb4.mono (by omega))
  have hs4 := hb4.size
  have hl4 : ([] ++ key : List (BitVec 8)).length + (encL (purp label ns)).length ≤ 140737488355328 := by rw [List.nil_append, hk]; omega
  have hB4 : B + 2 ≤ w4.heap.size := by omega
  go_wp2_with (at_builtin; refine app2 rfl _ _ rfl (B + 2) _ _ rfl ho3' _ _ rfl ho4.bs hl4 hB4 ?_; intro v5 w5 ho5 hg5)
  have hb5 := hg5.below (show B + 2 ≤ w4.heap.size from hB4) ho3'
  have hd5 := (hb5.block (B + 1) (by omega)).trans hd4
  have hs5 := hb5.size
  have hBw5 : Below B w w5 := hBw4.trans (hb5.mono (by omega))
  rw [List.nil_append] at ho5
  refine (reftagged_any bDerive v5 (key ++ encL (purp label ns)) w5 (by decide) ho5.bs (by rw [List.length_append, hk]; omega)).mono ?_
  rw [← HE.out]
  rintro e w6 ⟨rfl, hb6⟩
  have hd6 := (hb6.block (B + 1) (by omega)).trans hd5
  have hBw6 : Below B w w6 := hBw5.trans (hb6.mono (by omega))
  have hz : (zrow 32).size = (dCells (expd key label ns)).size := by rw [HS2.out]; rfl
  go_wp2_with (refine wpList_store_row rfl 23 _ _ rfl (B + 1) _ rfl rfl 23 _ hd6 HI2.out hz HO2.out ?_)
  refine bodyPost_ret (results_cell_row rfl _ _ (B + 1) 23 _ (0, 0) _ rfl (setRow_heap _ _ _ _ _ _ hd6) Tryd.underlying23 rfl HI2.out) rfl ⟨rfl, ?_⟩
  exact hBw6.trans ⟨rfl, rfl, rfl, by simp, fun i hi => by rw [setRow_other _ _ _ _ (by omega)]⟩
end Chart
