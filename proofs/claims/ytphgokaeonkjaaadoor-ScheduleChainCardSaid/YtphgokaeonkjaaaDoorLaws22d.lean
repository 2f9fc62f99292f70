/- The law on chains of epochs. -/
import Derived.Test.YtphgokaeonkjaaaDoorLaws22a
import Derived.Test.YtphgokaeonkjaaaDoorSched
namespace Chart
open Go Go.RowKit Go.Proofs
attribute [local go_sem] valAt valUpon spAt spUpon

/-- The secret of an epoch of the chain. -/
def chS (k : List (BitVec 8)) (ks : List (List (BitVec 8))) : Nat → List (BitVec 8)
  | 0 => k
  | i + 1 => epochd (expd (chS k ks i) bInit []) (ks.getD i [])
theorem length_chS (k : List (BitVec 8)) (ks : List (List (BitVec 8))) (h : k.length = 32) : ∀ i, (chS k ks i).length = 32
  | 0 => h
  | _ + 1 => length_mixd _ _ _
def chL (k : List (BitVec 8)) (ks : List (List (BitVec 8))) (n : Nat) : List (List (BitVec 8)) := (List.range n).map (chS k ks)
theorem length_chL (k : List (BitVec 8)) (ks : List (List (BitVec 8))) (n : Nat) : (chL k ks n).length = n := by unfold chL; simp
theorem chL_succ (k : List (BitVec 8)) (ks : List (List (BitVec 8))) (n : Nat) : chL k ks (n + 1) = chL k ks n ++ [chS k ks n] := by unfold chL; rw [List.range_succ, List.map_append]; rfl
theorem chL_get (k : List (BitVec 8)) (ks : List (List (BitVec 8))) (n i : Nat) (h : i < n) : (chL k ks n)[i]? = some (chS k ks i) := by
  unfold chL
  rw [List.getElem?_map, List.getElem?_range h]
  rfl

set_option maxHeartbeats 4000000 in
set_option maxRecDepth 100000 in
theorem schainLaw_any (k : List (BitVec 8)) (v1 : Value) (ks : List (List (BitVec 8))) (m : Int) (w : World) (h1 : k.length = 32) (hks : KR w v1 ks) (hm : 0 ≤ m ∧ m < 18446744073709551616) (he : ShaEnv w) (hl : LabEnv w) :
    Calls Tryd.prog 11 #[.agg (dCells k), v1, .int .u64 m] w fun e w' => e = .returned (.bool true) ∧ Below w.heap.size w w' := by
  obtain ⟨a1, c1, rfl⟩ := hks.form
  obtain ⟨n, hn⟩ : ∃ n : Nat, ks.length = n := ⟨_, rfl⟩
  rw [hn] at hks ⊢
  have HIi := Lib.hid (info_key' _ h1)
  obtain ⟨B, hB⟩ : ∃ B, w.heap.size = B := ⟨_, rfl⟩
  rw [hB]
  have hle : B ≤ w.heap.size := Nat.le_of_eq hB.symm
  obtain ⟨w1, hw1⟩ : ∃ w1, w1 = w.alloc (.cells (dCells k) 23) := ⟨_, rfl⟩
  have b1 : Below w.heap.size w w1 := hw1 ▸ below_al w _
  have ra : w1.heap[B]? = some (.cells (dCells k) 23 (0, 0)) := by rw [hw1, ← hB]; exact heap_alloc_new w _
  have hsn := sane22_any w1 (he.below b1) (hl.below b1)
  go_enter Tryd.func11, Tryd.ntmps11
  go_upto_region 1 with (fail)
  rw [← hw1]
  clear hw1
  go_upto_region 3 with (go_at_call 29; refine hsn.mono ?_; rintro e w2 ⟨rfl, hb2⟩)
  have rA := row_below ra hb2
  have hB2 := below_tr b1 hb2
  have he2 := he.below hB2
  have hl2 := hl.below hB2
  rw [hB] at hB2
  clear hsn ra hb2 b1
  have hb2w : Below B w w2 := hB2
  by_cases h12 : (12 : Int) < (n : Int)
  · go_wp2
    go_ret
    exact ⟨rfl, hB2⟩
  have hn12 : n ≤ 12 := by omega
  have hBz : B < w2.heap.size := row_lt rA
  go_upto_region 6 with (first
    | (refine wpList_load_row rfl 23 _ rfl B rfl 23 _ (0, 0) _ rA Tryd.underlying23 rfl HIi.out ?_)
    | (refine build_key rfl _ rfl k h1 rfl ?_))
  have hone := KO.one w2 (B + 1) w2.heap.size k h1 rfl hBz
  have bA := below_al w2 (.cells (dCells k) 23)
  have rA3 := row_below rA bA
  have hB3 := below_trB hle hB2 bA
  have he3 := he2.below bA
  have z3 : B + 1 ≤ (w2.alloc (.cells (dCells k) 23)).heap.size := by rw [World.size_alloc]; omega
  have hl3 := hl2.below bA
  clear rA hB2 he2 hl2 bA hBz hb2w
  obtain ⟨s0, hs0⟩ : ∃ s0, s0 = Value.slice (some ⟨w2.heap.size, 0, none⟩) 1 1 := ⟨_, rfl⟩
  rw [← hs0] at hone ⊢
  clear hs0
  generalize w2.alloc (.cells (dCells k) 23) = w3 at *
  -- the roots, in every later world
  have hroot : ∀ (W : World), Below B w W → ∀ i x, ks[i]? = some x → ∃ b off, a1 = Option.some ⟨b, off, none⟩ ∧ W.rangeAt b (off + i * 32) (x.map B8) ∧ b < W.heap.size := fun W hW i x hx => by
    obtain ⟨b, off, e, -, hr, hb⟩ := hks.addr (fun e => by rw [e] at hx; simp at hx)
    refine ⟨b, off, e, ?_, Nat.lt_of_lt_of_le hb hW.size⟩
    have := range_key hks.1 hr hx
    intro j u hu
    exact (hW.cell (p := ⟨b, off + i * 32 + j, none⟩) (by show b < B; omega)).trans (this j u hu)
  have HROOT := Lib.hid hroot
  have HK32 := Lib.hid hks.1
  clear hroot hks
  have hsh : ∀ W, Below B w W → ShaEnv W := fun W hW => he.below (hB.symm ▸ hW)
  have hlb : ∀ W, Below B w W → LabEnv W := fun W hW => hl.below (hB.symm ▸ hW)
  have HSH := Lib.hid hsh; have HLB := Lib.hid hlb
  clear he3 hl3 hsh hlb
  go_wp2_with fail
  go_loopw [7, 8] (fun s t wr => ∃ i : Nat, i ≤ n ∧ t = .int .i64 (i : Int) ∧ wr.heap[B]? = some (.cells (dCells (chS k ks i)) 23 (0, 0)) ∧ KO wr (B + 1) s (chL k ks (i + 1)) ∧ Below B w wr ∧ B + 1 ≤ wr.heap.size) (fun _ t _ => n - (intOf t).toNat)
  case atStart => exact ⟨0, Nat.zero_le _, rfl, rA3, hone, hB3, z3⟩
  case round =>
    clear rA3 hone hB3 z3
    obtain ⟨i, hi, rfl, hr, ho, hg, hz1⟩ := hrel
    by_cases hlt : i < n
    · obtain ⟨x, hx⟩ : ∃ x, ks[i]? = some x := ⟨_, List.getElem?_eq_getElem (by omega)⟩
      have hxl : x.length = 32 := HK32.out x (List.mem_of_getElem? hx)
      obtain ⟨b, off, rfl, hrr, hbb⟩ := HROOT.out wr hg i x hx
      have hlen := length_chS k ks h1 i
      have hlen2 := length_chS k ks h1 (i + 1)
      have hch : chS k ks (i + 1) = epochd (expd (chS k ks i) bInit []) x := by rw [chS, List.getD_eq_getElem?_getD, hx]; rfl
      have HI1 := Lib.hid (info_key' _ hlen); have HI2 := Lib.hid (info_key' _ hlen2); have HS1 := Lib.hid (size_dCells _ hlen); have HS2 := Lib.hid (size_dCells _ hlen2); have HO2 := Lib.hid (one_dCells (chS k ks (i + 1)))
      have HIx := Lib.hid (info_len _ hxl)
      have hladl : (chL k ks (i + 1)).length + 1 ≤ 1099511627776 := by rw [length_chL]; omega
      have HLN := Lib.hid (chL_succ k ks (i + 1))
      have HL2 := Lib.hid hlen2
      obtain ⟨K1, hK1⟩ : ∃ K1, chS k ks i = K1 := ⟨_, rfl⟩
      obtain ⟨K2, hK2⟩ : ∃ K2, chS k ks (i + 1) = K2 := ⟨_, rfl⟩
      obtain ⟨E, hE⟩ : ∃ E, expd K1 bInit [] = E := ⟨_, rfl⟩
      rw [hK1] at hr HI1 HS1 hch hlen
      rw [hE] at hch
      rw [hK2] at HI2 HS2 HO2 HL2 HLN hch
      have hEl : E.length = 32 := by rw [← hE]; exact length_expd _ _ _
      obtain ⟨LS, hLS⟩ : ∃ LS, chL k ks (i + 1) = LS := ⟨_, rfl⟩
      rw [hLS] at ho HLN hladl
      have HK2 := Lib.hid hK2
      obtain ⟨I, hI⟩ : ∃ I : Int, (i : Int) = I := ⟨_, rfl⟩
      have hI0 : 0 ≤ I := by omega
      have hIn : I < (n : Int) := by omega
      have hI13 : I < 13 := by omega
      rw [show i = I.toNat by omega] at hrr
      have HI := Lib.hid hI
      rw [hI]
      clear hI hK1 hK2 hLS
      obtain ⟨N, hN⟩ : ∃ N, wr.heap.size = N := ⟨_, rfl⟩
      have hNle : N ≤ wr.heap.size := Nat.le_of_eq hN.symm
      have zB := row_lt hr
      rw [hN] at zB hbb
      have hOB : ∀ p : Own N wr, Below B w p.w' := fun p => hg.trans (p.below.mono (by omega))
      have c1 : ∀ p : Own N wr, Calls Tryd.prog 39 #[.agg (dCells K1)] p.w' fun e w'' => e = .returned (.agg (dCells E)) ∧ Below p.w'.heap.size p.w' w'' := fun p => hE ▸ sinit_any K1 p.w' hlen (HSH.out _ (hOB p)) (HLB.out _ (hOB p))
      have c2 : ∀ p : Own N wr, Calls Tryd.prog 37 #[.agg (dCells E), .agg (dCells x)] p.w' fun e w'' => e = .returned (.agg (dCells K2)) ∧ Below p.w'.heap.size p.w' w'' := fun p => hch ▸ sepoch_any E x p.w' hEl hxl (HSH.out _ (hOB p)) (HLB.out _ (hOB p))
      have HA := Lib.hid (show ∀ w', (∃ p : Own N wr, w' = p.w') → w'.heap[B]? = some (.cells (dCells K1) 23 (0, 0)) from fun w' ⟨p, hp⟩ => hp ▸ (p.below.block B zB).trans hr)
      have HR := Lib.hid (show ∀ w', (∃ p : Own N wr, w' = p.w') → w'.rangeAt b (off + I.toNat * 32) (x.map B8) from fun w' ⟨p, hp⟩ => hp ▸ fun j u hu => (p.below.cell (p := ⟨b, off + I.toNat * 32 + j, none⟩) hbb).trans (hrr j u hu))
      clear hch hEl hlen hxl hrr hbb hlen2 hE hx hOB
      go_upto_region 9 with (fail)
      refine wp_region_sp_tail 7 (C := fun w' => ∃ p : Own N wr, w' = p.w') (Φ := Tab [(1, spV (.agg (dCells E))), (6, spV (.agg (dCells K2)))])
        (by kernel_rfl) (by kernel_rfl) (Tab.stable _) ⟨.of (Below.refl N wr).drew, rfl⟩ ?_
      simp only [List.take_succ_cons, List.take_zero, List.drop_succ_cons, List.drop_zero]
      refine sp_load_row rfl rfl 23 _ rfl B rfl 23 _ (0, 0) _ HA.out Tryd.underlying23 rfl HI1.out ?_
      intro K hK; simp only [Act.put, List.setIfInBounds_toArray, List.set_cons_zero, List.set_cons_succ]; refine hK _ ?_; clear hK K
      refine sp_spec rfl rfl (by rintro _ ⟨p, rfl⟩ hd; go_simp; exact own_spV hNle (c1 p)) ?_
      rintro v ⟨_, -, rfl⟩ K hK; simp only [Act.put, List.setIfInBounds_toArray, List.set_cons_zero, List.set_cons_succ]; refine hK _ ?_; clear hK K
      iterate 3 (refine sp_plain rfl (fun K hK => ?_); go_simp; refine hK _ ?_; clear hK K)
      refine sp_load_mid rfl rfl 23 _ rfl b _ rfl _ _ HR.out Tryd.underlying23 rfl HIx.out ?_
      rw [show (x.map B8).toArray = dCells x from rfl]
      intro K hK; simp only [Act.put, List.setIfInBounds_toArray, List.set_cons_zero, List.set_cons_succ]; refine hK _ ?_; clear hK K
      refine sp_spec rfl rfl (by rintro _ ⟨p, rfl⟩ hd; go_simp; exact own_spV hNle (c2 p)) ?_
      rintro v ⟨_, -, rfl⟩ K hK; simp only [Act.put, List.setIfInBounds_toArray, List.set_cons_zero, List.set_cons_succ]; refine hK _ ?_; clear hK K
      refine sp_nil ?_
      rintro _ ⟨p, rfl⟩ hd
      have hr6 := HA.out p.w' ⟨p, rfl⟩
      have ho6 : KO p.w' (B + 1) _ LS := ho.below (hN.symm ▸ p.below)
      have hg6 := hg.trans (p.below.mono (Nat.le_of_lt zB))
      have hz6 : B + 1 ≤ p.w'.heap.size := Nat.le_trans hz1 p.below.size
      clear c1 c2 HA HR hd ho hg hz1 hr
      generalize p.w' = w6 at *
      clear p hN hNle zB
      clear N
      go_wp2_with (first
        | (at_builtin; refine app_key rfl _ _ rfl (B + 1) _ _ rfl (ho7.al _) K2 HL2.out _ rfl (heap_alloc_new _ _) hladl (Nat.le_trans hz7 (World.grownBy_alloc _ _ none).size) ?_; intro v9 w9 ho9 hg9)
        | (refine wpList_store_row rfl 23 _ _ rfl B _ rfl rfl 23 _ hr6 HI2.out (by rw [HS1.out, HS2.out]) HO2.out ?_
           have hr7 := setRow_heap w6 B _ (dCells K2) _ _ hr6
           have hg67 : w6.grownBy (w6.setRow B (dCells K2)) (some B) := ⟨rfl, rfl, rfl, by simp, fun i hi hr => setRow_other _ _ _ _ (fun e => hr (by rw [e]))⟩
           have ho7 : KO (w6.setRow B (dCells K2)) (B + 1) _ LS := ⟨ho6.1, World.ownsRow.kept ho6.2 hg67 (.inr (fun e => by have := (World.ownsRow.lt ho6.2 _ e).1; omega))⟩
           have hg7 : Below B w (w6.setRow B (dCells K2)) := hg6.trans ⟨rfl, rfl, rfl, by simp, fun i hi => by rw [setRow_other _ _ _ _ (by omega)]⟩
           have hz7 : B + 1 ≤ (w6.setRow B (dCells K2)).heap.size := by simp; exact hz6)
        | (refine wpList_load_row rfl 23 _ rfl B rfl 23 _ (0, 0) _ hr7 Tryd.underlying23 rfl HI2.out ?_)
        | (refine build_key rfl _ rfl K2 HL2.out rfl ?_))
      have hb9 : Below B w w9 := (hg7.alloc (by omega) _).grown hg9 (by rw [World.size_alloc]; omega) (fun k' e => by have := (World.ownsRow.lt ho7.2 k' e).1; omega)
      have hr9 : w9.heap[B]? = some (.cells (dCells K2) 23 (0, 0)) := by
        rw [hg9.block B (by rw [World.size_alloc]; omega) (fun e => by have := (World.ownsRow.lt ho7.2 B e.symm).1; omega)]
        exact (Below.heap_alloc _ _ B (by omega)).trans hr7
      have hz9 : B + 1 ≤ w9.heap.size := Nat.le_trans (Nat.le_trans hz7 (World.grownBy_alloc _ _ none).size) hg9.size
      go_roundw
      case rel => exact ⟨i + 1, by omega, by rw [show ((i + 1 : Nat) : Int) = I + 1 by have := HI.out; omega], by rw [HK2.out]; exact hr9, by rw [HLN.out]; exact ho9, hb9, hz9⟩
      case measure => simp only [intOf]; have := HI.out; omega
    · obtain rfl : i = n := by omega
      obtain ⟨w4, rfl⟩ : ∃ w4, w4 = wr := ⟨_, rfl⟩
      obtain ⟨L, hL⟩ : ∃ L, i + 1 = L := ⟨_, rfl⟩
      rw [hL] at ho
      obtain ⟨sa, cs, hs⟩ := ho.kr.form
      rw [length_chL] at hs
      subst hs
      have ka := ho.kr
      obtain ⟨bs, os, rfl, hLm, rs, hbs⟩ := ka.addr (fun e => by have := congrArg List.length e; rw [length_chL] at this; simp at this; omega)
      have hL13 : (L : Int) ≤ 13 := by omega
      have hL0 : (0 : Int) < (L : Int) := by omega
      have hLz : ¬ (L : Int) = 0 := by omega
      obtain ⟨hm0, hm1⟩ := hm
      obtain ⟨t, ht⟩ : ∃ t : Nat, m % (L : Int) = t := ⟨(m % (L : Int)).toNat, by have := Int.emod_nonneg m hLz; omega⟩
      have htL : t < L := by have := Int.emod_lt_of_pos m hL0; omega
      have rt := range_key ka.1 rs (chL_get k ks L t htL)
      have hlt1 := length_chS k ks h1 t
      have HIt := Lib.hid (info_key' _ hlt1); have HSt := Lib.hid (size_dCells _ hlt1); have HOt := Lib.hid (one_dCells (chS k ks t))
      have HIm := Lib.hid (info_len _ hlt1)
      obtain ⟨T, hT⟩ : ∃ T : Int, (t : Int) = T := ⟨_, rfl⟩
      rw [hT] at ht
      have hT0 : 0 ≤ T := by omega
      have hTL : T < (L : Int) := by omega
      have hT13 : T < 13 := by omega
      rw [show t = T.toNat by omega] at rt
      have e9 : chS k ks T.toNat = chS k ks t := by rw [show T.toNat = t by omega]
      rw [e9] at rt
      have HT := Lib.hid hT; have HE9 := Lib.hid e9; have HLL := Lib.hid hL
      have HR := Lib.hid rt
      clear hT rt e9 hL hLm
      obtain ⟨Kt, hKt⟩ : ∃ Kt, chS k ks t = Kt := ⟨_, rfl⟩
      rw [hKt] at HIt HSt HOt HIm HR
      have HKT := Lib.hid hKt
      clear hKt hlt1
      obtain ⟨bX, hbX⟩ : ∃ bX, w4.heap.size = bX := ⟨_, rfl⟩
      obtain ⟨w5, hw5⟩ : ∃ w5, w5 = w4.alloc (.cells (dCells Kt) 23) := ⟨_, rfl⟩
      have b5 : Below w4.heap.size w4 w5 := hw5 ▸ below_al w4 _
      have rX5 : w5.heap[bX]? = some (.cells (dCells Kt) 23 (0, 0)) := by rw [hw5, ← hbX]; exact heap_alloc_new w4 _
      rw [hbX] at b5 hbs
      have zBX : B < bX := by rw [← hbX]; exact row_lt hr
      have hall : ∀ (W : World), Below bX w4 W → ∀ j y, (chL k ks L)[j]? = some y → W.rangeAt bs (os + j * 32) (y.map B8) := fun W hW j y hy => by
        have := range_key ka.1 rs hy
        intro q u hu
        exact (hW.cell (p := ⟨bs, os + j * 32 + q, none⟩) hbs).trans (this q u hu)
      have HALL := Lib.hid hall
      have hbw : ∀ (W : World), Below bX w4 W → Below B w W := fun W hW => hg.trans (hW.mono (by omega))
      have HBW := Lib.hid hbw
      have hrB : ∀ (W : World), Below bX w4 W → W.heap[B]? = some (.cells (dCells (chS k ks i)) 23 (0, 0)) := fun W hW => (hW.block B zBX).trans hr
      have HRB := Lib.hid hrB
      clear hall hbw hrB hr ho hg hz1 ka rs
      go_upto_region 13 with (first
        | (refine wpList_load_mid rfl 23 _ rfl bs _ rfl _ _ HR.out Tryd.underlying23 rfl HIm.out ?_; rw [show (Kt.map B8).toArray = dCells Kt from rfl])
        | (refine st_new rfl 23 _ _ rfl (dCells Kt) _ 23 (by show Value.pointer _ = Value.pointer _; rw [hbX]) rfl HIt.out (by rw [HSt.out]; rfl) HOt.out ?_))
      rw [← hw5]
      clear hw5 HR
      clear hbX
      go_wp2_with fail
      go_loopw [11] (fun s W => ∃ j : Nat, t ≤ j ∧ j ≤ i ∧ s = .int .i64 (j : Int) ∧ W.heap[bX]? = some (.cells (dCells (chS k ks j)) 23 (0, 0)) ∧ Below bX w4 W) (fun s _ => i - (intOf s).toNat)
      case atStart => exact ⟨t, Nat.le_refl _, by have := HLL.out; omega, by rw [HT.out], by rw [HKT.out]; exact rX5, b5⟩
      case round =>
        clear rX5 b5
        obtain ⟨j, htj, hji, rfl, hr, hg⟩ := hrel
        by_cases hlt : j < i
        · obtain ⟨x, hx⟩ : ∃ x, ks[j]? = some x := ⟨_, List.getElem?_eq_getElem (by omega)⟩
          have hxl : x.length = 32 := HK32.out x (List.mem_of_getElem? hx)
          obtain ⟨b, off, rfl, hrr, hbb⟩ := HROOT.out wr (HBW.out wr hg) j x hx
          have hlen := length_chS k ks h1 j
          have hlen2 := length_chS k ks h1 (j + 1)
          have hch : chS k ks (j + 1) = epochd (expd (chS k ks j) bInit []) x := by rw [chS, List.getD_eq_getElem?_getD, hx]; rfl
          have HI1 := Lib.hid (info_key' _ hlen); have HI2 := Lib.hid (info_key' _ hlen2); have HS1 := Lib.hid (size_dCells _ hlen); have HS2 := Lib.hid (size_dCells _ hlen2); have HO2 := Lib.hid (one_dCells (chS k ks (j + 1)))
          have HIx := Lib.hid (info_len _ hxl); have HIm2 := Lib.hid (info_len _ hlen2)
          have hget := chL_get k ks L (j + 1) (by have := HLL.out; omega)
          obtain ⟨K1, hK1⟩ : ∃ K1, chS k ks j = K1 := ⟨_, rfl⟩
          obtain ⟨K2, hK2⟩ : ∃ K2, chS k ks (j + 1) = K2 := ⟨_, rfl⟩
          obtain ⟨E, hE⟩ : ∃ E, expd K1 bInit [] = E := ⟨_, rfl⟩
          obtain ⟨R, hR⟩ : ∃ R, expd x bCommit [] = R := ⟨_, rfl⟩
          rw [hK1] at hr HI1 HS1 hch hlen
          rw [hE] at hch
          rw [hK2] at HI2 HS2 HO2 hch HIm2 hget hlen2
          have hEl : E.length = 32 := by rw [← hE]; exact length_expd _ _ _
          have hRl : R.length = 32 := by rw [← hR]; exact length_expd _ _ _
          have hmx : mixd bEpoch E R = K2 := by rw [hch, ← hR]; rfl
          have HK2 := Lib.hid hK2; have HGET := Lib.hid hget
          obtain ⟨J, hJ⟩ : ∃ J : Int, (j : Int) = J := ⟨_, rfl⟩
          have hJ0 : 0 ≤ J := by omega
          have hJi : J < (i : Int) := by omega
          have hJL : J + 1 < (L : Int) := by have := HLL.out; omega
          have hJ13 : J < 13 := by omega
          have hJ1 : 0 ≤ J + 1 := by omega
          have hJw : IntKind.i64.wrap (J + 1) = J + 1 := IntWalk.i64_in _ (by omega)
          have hJw := Lib.hid hJw
          rw [show j = J.toNat by omega] at hrr
          have HJ := Lib.hid hJ
          rw [hJ]
          clear hJ hK1 hK2 hget
          obtain ⟨N, hN⟩ : ∃ N, wr.heap.size = N := ⟨_, rfl⟩
          have hNle : N ≤ wr.heap.size := Nat.le_of_eq hN.symm
          have zB := row_lt hr
          rw [hN] at zB hbb
          have hOB : ∀ p : Own N wr, Below B w p.w' := fun p => HBW.out _ (hg.trans (p.below.mono (Nat.le_of_lt zB)))
          have c1 : ∀ p : Own N wr, Calls Tryd.prog 23 #[.agg (dCells K1), .string bInit, .slice none 0 0] p.w' fun e w'' => e = .returned (.agg (dCells E)) ∧ Below p.w'.heap.size p.w' w'' := fun p => hE ▸ expand_any K1 bInit (.slice none 0 0) [] p.w' hlen (.inl ⟨rfl, rfl⟩) (by simp) (by decide) (by simp) (HSH.out _ (hOB p))
          have c2 : ∀ p : Own N wr, Calls Tryd.prog 23 #[.agg (dCells x), .string bCommit, .slice none 0 0] p.w' fun e w'' => e = .returned (.agg (dCells R)) ∧ Below p.w'.heap.size p.w' w'' := fun p => hR ▸ expand_any x bCommit (.slice none 0 0) [] p.w' hxl (.inl ⟨rfl, rfl⟩) (by simp) (by decide) (by simp) (HSH.out _ (hOB p))
          have c3 : ∀ p : Own N wr, Calls Tryd.prog 25 #[.string bEpoch, .agg (dCells E), .agg (dCells R)] p.w' fun e w'' => e = .returned (.agg (dCells K2)) ∧ Below p.w'.heap.size p.w' w'' := fun p => hmx ▸ mix_any bEpoch E R p.w' hEl hRl (by decide) (HSH.out _ (hOB p))
          have HA := Lib.hid (show ∀ w', (∃ p : Own N wr, w' = p.w') → w'.heap[bX]? = some (.cells (dCells K1) 23 (0, 0)) from fun w' ⟨p, hp⟩ => hp ▸ (p.below.block bX zB).trans hr)
          have HRR := Lib.hid (show ∀ w', (∃ p : Own N wr, w' = p.w') → w'.rangeAt b (off + J.toNat * 32) (x.map B8) from fun w' ⟨p, hp⟩ => hp ▸ fun j u hu => (p.below.cell (p := ⟨b, off + J.toNat * 32 + j, none⟩) hbb).trans (hrr j u hu))
          clear hch hEl hlen hxl hrr hbb hE hx hOB hRl hmx hR
          have eK : ∀ w, (Op.equalIn 10000 23 (.agg (dCells K2)) (.agg (dCells K2))).run Tryd.prog w = .ok true w := fun w => (eqIn_key K2 K2 hlen2 hlen2 w).trans (by simp)
          have hG := eqG_key
          have HEK := Lib.hid eK; have HG := Lib.hid hG
          clear eK hG hlen2
          go_upto_region 16 with (fail)
          refine wp_region_sp_tail 8 (C := fun w' => ∃ p : Own N wr, w' = p.w') (Φ := Tab [(1, spV (.agg (dCells E))), (6, spV (.agg (dCells R))), (7, spV (.agg (dCells K2)))])
            (by kernel_rfl) (by kernel_rfl) (Tab.stable _) ⟨.of (Below.refl N wr).drew, rfl⟩ ?_
          simp only [List.take_succ_cons, List.take_zero, List.drop_succ_cons, List.drop_zero]
          refine sp_load_row rfl rfl 23 _ rfl bX rfl 23 _ (0, 0) _ HA.out Tryd.underlying23 rfl HI1.out ?_
          intro K hK; simp only [Act.put, List.setIfInBounds_toArray, List.set_cons_zero, List.set_cons_succ]; refine hK _ ?_; clear hK K
          refine sp_spec rfl rfl (by rintro _ ⟨p, rfl⟩ hd; go_simp; exact own_spV hNle (c1 p)) ?_
          rintro v ⟨_, -, rfl⟩ K hK; simp only [Act.put, List.setIfInBounds_toArray, List.set_cons_zero, List.set_cons_succ]; refine hK _ ?_; clear hK K
          iterate 3 (refine sp_plain rfl (fun K hK => ?_); go_simp; refine hK _ ?_; clear hK K)
          refine sp_load_mid rfl rfl 23 _ rfl b _ rfl _ _ HRR.out Tryd.underlying23 rfl HIx.out ?_
          rw [show (x.map B8).toArray = dCells x from rfl]
          intro K hK; simp only [Act.put, List.setIfInBounds_toArray, List.set_cons_zero, List.set_cons_succ]; refine hK _ ?_; clear hK K
          refine sp_spec rfl rfl (by rintro _ ⟨p, rfl⟩ hd; go_simp; exact own_spV hNle (c2 p)) ?_
          rintro v ⟨_, -, rfl⟩ K hK; simp only [Act.put, List.setIfInBounds_toArray, List.set_cons_zero, List.set_cons_succ]; refine hK _ ?_; clear hK K
          refine sp_spec rfl rfl (by rintro _ ⟨p, rfl⟩ hd; go_simp; exact own_spV hNle (c3 p)) ?_
          rintro v ⟨_, -, rfl⟩ K hK; simp only [Act.put, List.setIfInBounds_toArray, List.set_cons_zero, List.set_cons_succ]; refine hK _ ?_; clear hK K
          refine sp_nil ?_
          rintro _ ⟨p, rfl⟩ hd
          have hr6 := HA.out p.w' ⟨p, rfl⟩
          have hg6 := hg.trans (p.below.mono (Nat.le_of_lt zB))
          clear c1 c2 c3 HA HRR hd hg hr
          generalize p.w' = w6 at *
          clear p hN hNle zB
          clear N
          go_upto_region 17 with (refine wpList_store_row rfl 23 _ _ rfl bX _ rfl rfl 23 _ hr6 HI2.out (by rw [HS1.out, HS2.out]) HO2.out ?_)
          have hr7 := setRow_heap w6 bX _ (dCells K2) _ _ hr6
          have hg7 : Below bX w4 (w6.setRow bX (dCells K2)) := hg6.trans ⟨rfl, rfl, rfl, by simp, fun i hi => by rw [setRow_other _ _ _ _ (by omega)]⟩
          clear hr6 hg6
          generalize w6.setRow bX (dCells K2) = w7 at *
          have hrm := HALL.out w7 hg7 (j + 1) K2 HGET.out
          rw [show (j + 1) * 32 = (J + 1).toNat * 32 by have := HJ.out; omega] at hrm
          have HQ := Lib.hid (show ∀ w', (∃ q, w' = w7.drewN q) → w'.rangeAt bs (os + (J + 1).toNat * 32) (K2.map B8) ∧ w'.heap[bX]? = some (.cells (dCells K2) 23 (0, 0)) from fun w' ⟨q, e⟩ => by rw [e]; exact ⟨hrm, hr7⟩)
          have eK := HEK.out
          have hG := HG.out
          have hJw' := hJw.out
          clear hrm
          refine wp_region_quiet_lit (by kernel_rfl) (by kernel_rfl) ?_
          refine wpQuiet_load_rowg rfl 23 _ rfl bX rfl 23 _ (0, 0) _ (fun w' h => (HQ.out w' h).2) Tryd.underlying23 rfl HI2.out ?_
          iterate 4 (quiet_step (fail))
          refine wpQuiet_load_mid rfl 23 _ rfl bs _ rfl _ _ (fun w' h => (HQ.out w' h).1) Tryd.underlying23 rfl HIm2.out ?_
          rw [show (K2.map B8).toArray = dCells K2 from rfl]
          quiet_step (fail)
          refine wpQuiet_nil ?_
          rintro _ ⟨q8, rfl⟩
          have hr8 : (w7.drewN q8).heap[bX]? = some (.cells (dCells K2) 23 (0, 0)) := hr7
          have hg8 := Go.below_drewN hg7 q8
          clear hr7 hg7 HQ eK hG hJw'
          generalize w7.drewN q8 = w8 at *
          go_wp2_with fail
          go_roundw
          case rel => exact ⟨j + 1, by omega, by omega, by rw [show ((j + 1 : Nat) : Int) = J + 1 by have := HJ.out; omega], by rw [HK2.out]; exact hr8, hg8⟩
          case measure => simp only [intOf]; have := HJ.out; omega
        · obtain rfl : j = i := by omega
          have hlenn := length_chS k ks h1 j
          have HIn := Lib.hid (info_key' _ hlenn)
          have eK : ∀ w, (Op.equalIn 10000 23 (.agg (dCells (chS k ks j))) (.agg (dCells (chS k ks j)))).run Tryd.prog w = .ok true w := fun w => (eqIn_key _ _ hlenn hlenn w).trans (by simp)
          have hG := eqG_key
          have rB := HRB.out wr hg
          clear hlenn
          go_wp2_with (first
            | (refine wpList_load_row rfl 23 _ rfl bX rfl 23 _ (0, 0) _ hr Tryd.underlying23 rfl HIn.out ?_)
            | (refine wpList_load_row rfl 23 _ rfl B rfl 23 _ (0, 0) _ rB Tryd.underlying23 rfl HIn.out ?_))
          go_ret
          exact ⟨rfl, HBW.out wr hg⟩
end Chart
