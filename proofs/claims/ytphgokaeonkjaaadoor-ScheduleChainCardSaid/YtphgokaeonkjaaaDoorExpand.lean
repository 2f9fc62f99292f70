/- derive.Expand. -/
import Derived.Test.YtphgokaeonkjaaaDoorInput
namespace Chart
open Go Go.RowKit Go.Proofs

set_option maxHeartbeats 4000000 in
set_option maxRecDepth 100000 in
theorem expand_any (key : List (BitVec 8)) (label : ByteArray) (vn : Value) (ns : List Int) (w : World) (hk : key.length = 32) (hv : IS w vn ns) (hok : ∀ n ∈ ns, ok64 n) (h1 : label.size ≤ 1000000) (h2 : ns.length ≤ 1000000) (he : ShaEnv w) :
    Calls Tryd.prog 23 #[.agg (dCells key), .string label, vn] w fun e w' => e = .returned (.agg (dCells (expd key label ns))) ∧ Below w.heap.size w w' := by
  have hlp := length_purp label ns hok (by omega) (by omega)
  have hpo := purp_ok label ns hok (by omega)
  have HLP := Lib.hid hlp; have HPO := Lib.hid hpo
  have HE := Lib.hid (show expd key label ns = tagd bDerive (key ++ encL (purp label ns)) from rfl)
  have htl := length_expd key label ns
  have HI2 := Lib.hid (info_key' _ htl); have HS2 := Lib.hid (size_dCells _ htl); have HO2 := Lib.hid (one_dCells (expd key label ns))
  have HIK := Lib.hid (info_key' key hk); have HKS := Lib.hid (size_dCells key hk)
  clear htl hlp hpo
  obtain ⟨va, N, vc, rfl, hN⟩ : ∃ a N c, vn = .slice a N c ∧ ns.length = N := by
    rcases hv with ⟨h, h'⟩ | ⟨b, off, cap, h, _⟩
    · exact ⟨_, _, _, h, by rw [h']; rfl⟩
    · exact ⟨_, _, _, h, rfl⟩
  obtain ⟨B, hB⟩ : ∃ B, w.heap.size = B := ⟨_, rfl⟩
  rw [hB]
  have hr2 : ((w.alloc (.cells (dCells key) 23)).alloc (.cells (zrow 32) 23)).heap[B]? = some (.cells (dCells key) 23 (0, 0)) :=
    (Below.heap_alloc _ _ B (by simp [hB])).trans (by rw [← hB]; exact heap_alloc_new w _)
  have hd2 : ((w.alloc (.cells (dCells key) 23)).alloc (.cells (zrow 32) 23)).heap[B + 1]? = some (.cells (zrow 32) 23 (0, 0)) := by
    have := heap_alloc_new (w.alloc (.cells (dCells key) 23)) (.cells (zrow 32) 23)
    simpa [hB] using this
  have hb2 : Below B w ((w.alloc (.cells (dCells key) 23)).alloc (.cells (zrow 32) 23)) := ((Below.refl B w).alloc (by omega) _).alloc (by simp [hB]) _
  have hs2 : ((w.alloc (.cells (dCells key) 23)).alloc (.cells (zrow 32) 23)).heap.size = B + 2 := by simp [hB]
  go_enter Tryd.func23, Tryd.ntmps23
  go_upto_region 1 with (fail)
  rw [← zrow32]
  generalize (w.alloc (.cells (dCells key) 23)).alloc (.cells (zrow 32) 23) = w2 at *
  have hv2 := hv.below (show Below w.heap.size w w2 by rw [hB]; exact hb2)
  have he2 := he.below (show Below w.heap.size w w2 by rw [hB]; exact hb2)
  have ho1 := OL.one w2 (B + 2) (B + 2) (.text label) hs2 (Nat.le_refl _)
  have hb1 : Below (B + 2) w2 (w2.alloc (.cells (Leaf.text label).cells 62)) := (Below.refl (B + 2) w2).alloc (by omega) _
  have HO1 := Lib.hid ho1; have HB1 := Lib.hid hb1
  clear ho1 hb1
  unfold Leaf.cells at HO1 HB1
  go_wp2
  go_loopw [7, 18] (fun s t wr => ∃ k : Nat, k ≤ N ∧ t = .int .i64 k ∧ OL wr (B + 2) s (purp label (ns.take k)) ∧ Below (B + 2) w2 wr) (fun _ t _ => N - (intOf t).toNat)
  case atStart => exact ⟨0, by omega, rfl, HO1.out, HB1.out⟩
  case round =>
    clear HO1 HB1
    obtain ⟨k, hk', rfl, ho, hg⟩ := hrel
    have hgs := hg.size
    by_cases hlt : k < N
    · obtain ⟨n, hn⟩ : ∃ n, ns[k]? = some n := ⟨ns[k]'(by omega), by simp [hN, hlt]⟩
      have hstep := purp_take label ns k n hn
      have hlen : (purp label (ns.take k)).length + 1 ≤ 1099511627776 := by unfold purp; simp; omega
      have hvr := hv2.below (show Below w2.heap.size w2 wr by rw [hs2]; exact hg)
      rcases hvr with ⟨h, h'⟩ | ⟨b, off, cap, h, hbl, hcell⟩
      · rw [h'] at hn; simp at hn
      · cases h
        have hc := hcell k n hn
        have HST := Lib.hid hstep
        clear hcell hstep hn
        generalize purp label (ns.take k) = L at *
        obtain ⟨bw, hbw⟩ : ∃ bw, wr.heap.size = bw := ⟨_, rfl⟩
        have hrow : (wr.alloc (.cells (Leaf.int n).cells 62)).heap[bw]? = some (.cells (Leaf.int n).cells 62 (0, 0)) := by rw [← hbw]; exact heap_alloc_new wr _
        have hg1 : Below (B + 2) w2 (wr.alloc (.cells (Leaf.int n).cells 62)) := hg.alloc (by omega) _
        go_wp2_with (at_builtin; refine app_leaf rfl _ _ rfl (B + 2) _ _ rfl (ho.al _) (.int n) bw rfl hrow hlen (by simp; omega) ?_; intro v2 w3 ho2 hg2)
        go_roundw
        case rel => exact ⟨k + 1, by omega, by go_num, by rw [HST.out]; exact ho2, hg1.grown hg2 (by simp; omega) (fun k h => (World.ownsRow.lt ho k h).1)⟩
        case measure => simp [intOf]; omega
    · obtain rfl : k = N := by omega
      rw [List.take_of_length_le (by omega)] at ho
      obtain ⟨g, cap, rfl, hg1, hg2, hg3, hg4, hL⟩ := ho.some (by simp [purp])
      have henc := encode_list g 0 _ cap (purp label ns) wr rfl hL HPO.out hg2 hg3 hg4 (by have := HLP.out; omega)
      unfold lCells at henc
      go_wp2_with fail
      refine henc.mono ?_
      rintro e w4 ⟨v4, rfl, ho4, hb4⟩
      have hbw4 : Below (B + 2) w2 w4 := hg.trans (hb4.mono (by omega))
      have hr4 := (hbw4.block B (by omega)).trans hr2
      have hd4 := (hbw4.block (B + 1) (by omega)).trans hd2
      have he4 := he2.below (show Below w2.heap.size w2 w4 by rw [hs2]; exact hbw4)
      have hs4 := hbw4.size
      clear henc hL ho
      obtain ⟨bi, hbi⟩ : ∃ bi, w4.heap.size = bi := ⟨_, rfl⟩
      have hi5 : Inp (w4.alloc (.cells #[.slice none 0 0, .int .i64 0, .int .i8 0] 77)) bi bi [] := by
        rw [← hbi]; exact LibA.of_whole (Lib.fresh_isBuffer _ _ w4)
      go_wp2_with (refine wpList_load_row rfl 23 _ rfl B rfl 23 _ (0, 0) _ ((Below.heap_alloc _ _ B (by omega)).trans hr4) Tryd.underlying23 rfl HIK.out ?_)
      have hb5 : Below bi w4 (w4.alloc (.cells #[.slice none 0 0, .int .i64 0, .int .i8 0] 77)) := (Below.refl bi w4).alloc (by omega) _
      have hs5 : bi + 1 ≤ (w4.alloc (.cells #[.slice none 0 0, .int .i64 0, .int .i8 0] 77)).heap.size := by simp [hbi]
      refine (key_any bi bi [] key _ hi5 (by omega) hk (by simp)).mono ?_
      rintro e w6 ⟨rfl, hi6, hb6, hk6⟩
      have hb46 : Below bi w4 w6 := hb5.trans hb6
      have ho6 := OB.below ho4 (show Below w4.heap.size w4 w6 by rw [hbi]; exact hb46)
      have hne : encL (purp label ns) ≠ [] := by unfold encL; simp
      obtain ⟨gp, capp, hvp, hp1, hp2, hp3, hp4, hpb⟩ := ho4.some hne
      have hgpb : gp < bi := by omega
      have hs6 := hb6.size
      have hwr := inp_write bi bi ([] ++ key) (encL (purp label ns)) v4 w6 hi6 (by omega) ⟨gp, 0, none⟩ capp hvp (by show gp ≠ bi; omega) (fun j x hx => by
        rw [Addr.add_lit]; exact (hb46.cell (p := ⟨gp, 0 + j, none⟩) hgpb).trans (hpb j x hx)) (by rw [List.nil_append, hk]; have := HLP.out; omega)
      clear hvp hpb ho6
      go_wp2_with fail
      refine hwr.mono ?_
      rintro e w7 ⟨rfl, hi7, hb7, hk7⟩
      have hb47 : Below bi w4 w7 := hb46.trans hb7
      have he7 := he4.below (show Below w4.heap.size w4 w7 by rw [hbi]; exact hb47)
      have hs7 := hb7.size
      have hd7 := (hb47.block (B + 1) (by omega)).trans hd4
      rw [List.nil_append] at hi7
      go_wp2_with fail
      refine (under_any bi bi (key ++ encL (purp label ns)) bDerive w7 hi7 (by decide) (by rw [List.length_append, hk]; have := HLP.out; omega) he7).mono ?_
      rw [← HE.out]
      rintro e w8 ⟨rfl, hb8⟩
      have hd8 := (hb8.block (B + 1) (by omega)).trans hd7
      have hBw8 : Below B w w8 := (hb2.trans (hbw4.mono (by omega))).trans ((hb47.mono (by omega)).trans (hb8.mono (by omega)))
      have hz : (zrow 32).size = (dCells (expd key label ns)).size := by rw [HS2.out]; rfl
      go_wp2_with (refine wpList_store_row rfl 23 _ _ rfl (B + 1) _ rfl rfl 23 _ hd8 HI2.out hz HO2.out ?_)
      refine bodyPost_ret (results_cell_row rfl _ _ (B + 1) 23 _ (0, 0) _ rfl (setRow_heap _ _ _ _ _ _ hd8) Tryd.underlying23 rfl HI2.out) rfl ⟨rfl, ?_⟩
      exact hBw8.trans ⟨rfl, rfl, rfl, by simp, fun i hi => by rw [setRow_other _ _ _ _ (by omega)]⟩
end Chart
