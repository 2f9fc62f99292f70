/- The reference's purpose. -/
import Derived.Test.YtphgokaeonkjaaaDoorPurpose
namespace Chart
open Go Go.RowKit Go.Proofs

set_option maxHeartbeats 4000000 in
set_option maxRecDepth 100000 in
theorem refpurpose_any (label : ByteArray) (vn : Value) (ns : List Int) (w : World) (hv : IS w vn ns) (hok : ∀ n ∈ ns, ok64 n) (h1 : label.size ≤ 1000000) (h2 : ns.length ≤ 1000000) :
    Calls Tryd.prog 61 #[.string label, vn] w fun e w' => ∃ v', e = .returned v' ∧ OB w' w.heap.size v' (encL (purp label ns)) ∧ Below w.heap.size w w' := by
  have hlp := length_purp label ns hok (by omega) (by omega)
  have hpo := purp_ok label ns hok (by omega)
  have HLP := Lib.hid hlp; have HPO := Lib.hid hpo
  clear hlp hpo
  obtain ⟨va, N, vc, rfl, hN⟩ : ∃ a N c, vn = .slice a N c ∧ ns.length = N := by
    rcases hv with ⟨h, h'⟩ | ⟨b, off, cap, h, _⟩
    · exact ⟨_, _, _, h, by rw [h']; rfl⟩
    · exact ⟨_, _, _, h, rfl⟩
  obtain ⟨B, hB⟩ : ∃ B, w.heap.size = B := ⟨_, rfl⟩
  rw [hB]
  have ho1 := OL.one w B B (.text label) hB (Nat.le_refl _)
  have hb1 : Below B w (w.alloc (.cells (Leaf.text label).cells 62)) := (Below.refl B w).alloc (by omega) _
  have HO1 := Lib.hid ho1; have HB1 := Lib.hid hb1
  clear ho1 hb1
  unfold Leaf.cells at HO1 HB1
  go_enter Tryd.func61, Tryd.ntmps61
  go_wp2
  go_loopw [5, 6] (fun s t wr => ∃ k : Nat, k ≤ N ∧ t = .int .i64 k ∧ OL wr B s (purp label (ns.take k)) ∧ Below B w wr) (fun _ t _ => N - (intOf t).toNat)
  case atStart => exact ⟨0, by omega, rfl, HO1.out, HB1.out⟩
  case round =>
    clear HO1 HB1
    obtain ⟨k, hk, rfl, ho, hg⟩ := hrel
    have hgs := hg.size
    by_cases hlt : k < N
    · obtain ⟨n, hn⟩ : ∃ n, ns[k]? = some n := ⟨ns[k]'(by omega), by simp [hN, hlt]⟩
      have hstep := purp_take label ns k n hn
      have hlen : (purp label (ns.take k)).length + 1 ≤ 1099511627776 := by unfold purp; simp; omega
      have hvr := hv.below (show Below w.heap.size w wr by rw [hB]; exact hg)
      rcases hvr with ⟨h, h'⟩ | ⟨b, off, cap, h, hbl, hcell⟩
      · rw [h'] at hn; simp at hn
      · cases h
        have hc := hcell k n hn
        have HST := Lib.hid hstep
        clear hcell hstep hn
        generalize purp label (ns.take k) = L at *
        obtain ⟨bw, hbw⟩ : ∃ bw, wr.heap.size = bw := ⟨_, rfl⟩
        have hrow : (wr.alloc (.cells (Leaf.int n).cells 62)).heap[bw]? = some (.cells (Leaf.int n).cells 62 (0, 0)) := by rw [← hbw]; exact heap_alloc_new wr _
        have hg1 : Below B w (wr.alloc (.cells (Leaf.int n).cells 62)) := hg.alloc (by omega) _
        go_wp2_with (at_builtin; refine app_leaf rfl _ _ rfl B _ _ rfl (ho.al _) (.int n) bw rfl hrow hlen (by simp; omega) ?_; intro v2 w2 ho2 hg2)
        go_roundw
        case rel => exact ⟨k + 1, by omega, by go_num, by rw [HST.out]; exact ho2, hg1.grown hg2 (by simp; omega) (fun k h => (World.ownsRow.lt ho k h).1)⟩
        case measure => simp [intOf]; omega
    · obtain rfl : k = N := by omega
      rw [List.take_of_length_le (by omega)] at ho
      obtain ⟨g, cap, rfl, hg1, hg2, hg3, hg4, hL⟩ := ho.some (by simp [purp])
      have henc := refEncode_list g 0 _ cap (purp label ns) wr rfl hL HPO.out hg2 hg3 hg4 (by have := HLP.out; omega)
      unfold lCells at henc
      go_wp2_with fail
      refine henc.mono ?_
      rintro e w4 ⟨v4, rfl, ho4, hb4⟩
      go_wp2
      go_ret
      exact ⟨_, rfl, ho4.mono (by omega), hg.trans (hb4.mono (by omega))⟩
end Chart
