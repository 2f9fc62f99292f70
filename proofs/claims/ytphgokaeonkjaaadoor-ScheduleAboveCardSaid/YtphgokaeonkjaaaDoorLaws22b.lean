/- The main law of the schedule. -/
import Derived.Test.YtphgokaeonkjaaaDoorSane22
import Derived.Test.YtphgokaeonkjaaaDoorLaws22a
namespace Chart
open Go Go.RowKit Go.Proofs
attribute [local go_sem] valAt valUpon spAt spUpon

theorem length_ladN (k : List (BitVec 8)) (n : Nat) : (ladN k n).length = n := by unfold ladN; simp
theorem ladN_get (k : List (BitVec 8)) (n i : Nat) (h : i < n) : (ladN k n)[i]? = some (pathN k i) := by
  unfold ladN
  rw [List.getElem?_map, List.getElem?_range h]
  rfl
theorem ladN_drop (k : List (BitVec 8)) (i n : Nat) : (ladN k (i + n)).drop i = ladN (pathN k i) n := by
  apply List.ext_getElem?
  intro j
  rw [List.getElem?_drop]
  by_cases h : j < n
  · rw [ladN_get _ _ _ (by omega), ladN_get _ _ _ h, pathN_add]
  · rw [List.getElem?_eq_none (by rw [length_ladN]; omega), List.getElem?_eq_none (by rw [length_ladN]; omega)]

set_option maxHeartbeats 4000000 in
set_option maxRecDepth 100000 in
theorem aboveLaw_any (k : List (BitVec 8)) (m n : Int) (w : World) (h1 : k.length = 32) (hm : 0 ≤ m ∧ m < 256) (hn : 0 ≤ n ∧ n < 256) (he : ShaEnv w) (hl : LabEnv w) :
    Calls Tryd.prog 9 #[.agg (dCells k), .int .u8 m, .int .u8 n] w fun e w' => e = .returned (.bool true) ∧ Below w.heap.size w w' := by
  have HIi := Lib.hid (info_key' _ h1)
  obtain ⟨B, hB⟩ : ∃ B, w.heap.size = B := ⟨_, rfl⟩
  rw [hB]
  have hle : B ≤ w.heap.size := Nat.le_of_eq hB.symm
  obtain ⟨w1, hw1⟩ : ∃ w1, w1 = w.alloc (.cells (dCells k) 23) := ⟨_, rfl⟩
  have b1 : Below w.heap.size w w1 := hw1 ▸ below_al w _
  have ra : w1.heap[B]? = some (.cells (dCells k) 23 (0, 0)) := by rw [hw1, ← hB]; exact heap_alloc_new w _
  have hsn := sane22_any w1 (he.below b1) (hl.below b1)
  go_enter Tryd.func9, Tryd.ntmps9
  go_upto_region 1 with (fail)
  rw [← hw1]
  clear hw1
  go_upto_region 3 with (go_at_call 29; refine hsn.mono ?_; rintro e w2 ⟨rfl, hb2⟩)
  have rA := row_below ra hb2
  have hB2 := below_tr b1 hb2
  have he2 := he.below hB2
  have hl2 := hl.below hB2
  rw [hB] at hB2
  clear hsn ra hb2 b1 he hl
  have hc := ladder_any k w2 h1 he2
  go_upto_region 4 with (first
    | (refine wpList_load_row rfl 23 _ rfl B rfl 23 _ (0, 0) _ rA Tryd.underlying23 rfl HIi.out ?_)
    | (go_at_call 33; refine hc.mono ?_; rintro e w3 ⟨vl, rfl, hol, hb3⟩))
  have rA3 := row_below rA hb3
  have he3 := he2.below hb3
  have hB3 := below_trB hle hB2 hb3
  have kl := hol.kr
  obtain ⟨b, off, c, hvl, hl1, hcm, rl, hbl⟩ := kl.some (by unfold ladN; simp)
  rw [length_ladN] at hvl hl1
  subst hvl
  clear rA he2 hl2 hB2 hol hb3 hc
  have r0 := range_key kl.1 rl (ladN_get k 10 0 (by decide))
  rw [show off + 0 * 32 = off from rfl] at r0
  have HIm := Lib.hid (info_len _ h1)
  have eqk : ∀ w, (Op.equalIn 10000 23 (.agg (dCells k)) (.agg (dCells k))).run Tryd.prog w = .ok true w := fun w => (eqIn_key k k h1 h1 w).trans (by simp)
  have hG := eqG_key
  have HQ := Lib.hid (show ∀ w', (∃ q, w' = w3.drewN q) → w'.rangeAt b off (k.map B8) ∧ w'.heap[B]? = some (.cells (dCells k) 23 (0, 0)) from fun w' ⟨q, e⟩ => by rw [e]; exact ⟨r0, rA3⟩)
  clear r0
  refine wp_region_quiet_lit (by kernel_rfl) (by kernel_rfl) ?_
  iterate 6 (quiet_step (fail))
  refine wpQuiet_load_mid rfl 23 _ rfl b _ rfl _ _ (fun w' h => (HQ.out w' h).1) Tryd.underlying23 rfl HIm.out ?_
  rw [show (k.map B8).toArray = dCells k from rfl]
  refine wpQuiet_load_rowg rfl 23 _ rfl B rfl 23 _ (0, 0) _ (fun w' h => (HQ.out w' h).2) Tryd.underlying23 rfl HIi.out ?_
  iterate 2 (quiet_step (fail))
  refine wpQuiet_nil ?_
  rintro _ ⟨q3, rfl⟩
  have hd3 : Below w3.heap.size w3 (w3.drewN q3) := below_dN w3 q3
  have rA4 := row_below rA3 hd3
  have he4 := he3.below hd3
  have hB4 := below_trB hle hB3 hd3
  have kl4 := kl.below hd3
  have rl4 : (w3.drewN q3).rangeAt b off (flatK (ladN k 10)) := rl
  have hb4 : b < (w3.drewN q3).heap.size := hbl
  clear rA3 he3 hB3 kl rl hbl HQ hd3 eqk
  generalize w3.drewN q3 = w4 at *
  obtain ⟨p, hp⟩ : ∃ p : Nat, m % 10 = p := ⟨(m % 10).toNat, by omega⟩
  obtain ⟨q, hq⟩ : ∃ q : Nat, n % 10 = q := ⟨(n % 10).toNat, by omega⟩
  have hp10 : p < 10 := by omega
  have hq10 : q < 10 := by omega
  obtain ⟨hm0, hm1⟩ := hm
  obtain ⟨hn0, hn1⟩ := hn
  have hcase : (¬ ((q : Int) < (p : Int)) ∧ ∃ i j : Nat, i = p ∧ j = q ∧ i ≤ j ∧ j < 10) ∨ ((q : Int) < (p : Int) ∧ ∃ i j : Nat, j = p ∧ i = q ∧ i ≤ j ∧ j < 10) := by
    by_cases h : q < p
    · exact .inr ⟨by omega, q, p, rfl, rfl, by omega, by omega⟩
    · exact .inl ⟨by omega, p, q, rfl, rfl, by omega, by omega⟩
  clear hp10 hq10
  rcases hcase with ⟨hgt, i, j, rfl, rfl, hij, hj⟩ | ⟨hgt, i, j, rfl, rfl, hij, hj⟩
  all_goals go_upto_region 9 with (fail)
  all_goals clear hgt hp hq hm0 hm1 hn0 hn1
  all_goals
    obtain ⟨I, hI⟩ : ∃ I : Int, (i : Int) = I := ⟨_, rfl⟩
    obtain ⟨J, hJ⟩ : ∃ J : Int, (j : Int) = J := ⟨_, rfl⟩
    have hI0 : 0 ≤ I := by omega
    have hI9 : I < 10 := by omega
    have hJ0 : 0 ≤ J := by omega
    have hJ9 : J < 10 := by omega
    have hIt : I.toNat = i := by omega
    have hla := length_pathN k h1 i
    have ri := range_key kl4.1 rl4 (ladN_get k 10 i (by omega))
    have hsa := sabove_any (pathN k i) i w4 hla (by omega) he4
    have HIa := Lib.hid (info_len _ hla)
    have HIn := Lib.hid hIt
    rw [← hIt] at ri
    rw [hI] at hsa
    rw [show ((pathN k I.toNat).map B8) = ((pathN k i).map B8) by rw [hIt]] at ri
    rw [hI, hJ]
    have HI := Lib.hid hI; have HJ := Lib.hid hJ
    clear hI hJ hIt
    obtain ⟨ka, hka⟩ : ∃ ka, pathN k i = ka := ⟨_, rfl⟩
    rw [hka] at hsa ri HIa hla
    have HKA := Lib.hid hka
    clear hka
    go_upto_region 10 with (first
      | (refine wpList_load_mid rfl 23 _ rfl b _ rfl _ _ ri Tryd.underlying23 rfl HIa.out ?_; rw [show (ka.map B8).toArray = dCells ka from rfl])
      | (go_at_call 30; refine hsa.mono ?_; rintro e w5 ⟨vx, rfl, hox, hb5⟩))
    have kx := hox.kr
    have kl5 := kl4.below hb5
    have rl5 : w5.rangeAt b off (flatK (ladN k 10)) := fun j u hu => (hb5.cell (p := ⟨b, off + j, none⟩) hb4).trans (rl4 j u hu)
    have hbl5 := Nat.lt_of_lt_of_le hb4 hb5.size
    have rA5 := row_below rA4 hb5
    have he5 := he4.below hb5
    have hB5 := below_trB hle hB4 hb5
    obtain ⟨bx, ox, cx, hvx, hx1, hx2, rx, hbx⟩ := kx.some (by unfold ladN; simp; omega)
    rw [length_ladN] at hvx hx1
    obtain ⟨n1, hn1⟩ : ∃ n1, 10 - i = n1 := ⟨_, rfl⟩
    rw [hn1] at hvx hx1 kx rx
    subst hvx
    clear hsa ri rA4 he4 hB4 kl4 rl4 hb4 hb5 hox
    have HN := Lib.hid hn1
    have e1 : ((n1 : Int) != 10 - I) = false := by have := HI.out; simp; omega
    clear hn1
    have hIt := HIn.out
    have kd : KR w5 (.slice (some ⟨b, off + I.toNat * 32, none⟩) (10 - I.toNat) (c - I.toNat)) (ladN ka n1) := by
      have e0 : (ladN k 10).drop i = ladN ka n1 := by
        have := ladN_drop k i n1
        rw [← HKA.out, ← this]
        congr 2
        have := HN.out
        omega
      refine ⟨kx.1, .inr ⟨b, off + I.toNat * 32, c - I.toNat, ?_, ?_, ?_, ?_, hbl5⟩⟩
      · rw [length_ladN, hIt, HN.out]
      · rw [length_ladN, ← HN.out]; omega
      · omega
      · rw [← e0, hIt]; exact range_drop kl5.1 rl5 i
    have hss := (refsame_any _ _ _ _ w5 kx kd).mono fun e w' (h : e = _ ∧ _) => (⟨by rw [h.1]; simp, h.2⟩ : e = .returned (.bool true) ∧ ∃ n, w' = w5.drewN n)
    have hc10 : 10 ≤ c := hl1
    have hIc : I ≤ (c : Int) := by omega
    clear hIt kd
    go_upto_region 12 with (first
      | (go_at_call 32; refine hss.mono ?_; rintro e w6 ⟨rfl, q6, rfl⟩))
    have kl6 := kl5.below (below_dN w5 q6)
    have rl6 : (w5.drewN q6).rangeAt b off (flatK (ladN k 10)) := rl5
    have rx6 : (w5.drewN q6).rangeAt bx ox (flatK (ladN ka n1)) := rx
    have kx6 := kx.below (below_dN w5 q6)
    have hb6 : b < (w5.drewN q6).heap.size := hbl5
    have hx6 : bx < (w5.drewN q6).heap.size := hbx
    have rA6 := row_below rA5 (below_dN w5 q6)
    have he6 := he5.below (below_dN w5 q6)
    have hB6 := below_trB hle hB5 (below_dN w5 q6)
    clear hss kl5 rl5 rx kx hbl5 hbx rA5 he5 hB5 hc10 hIc
    generalize w5.drewN q6 = w6 at *
    -- the key that the second call begins with
    obtain ⟨D, hD⟩ : ∃ D : Nat, j - i = D := ⟨_, rfl⟩
    have hDn : D < n1 := by have := HN.out; omega
    have hlb := length_pathN ka hla D
    have rb := range_key kx6.1 rx6 (ladN_get ka n1 D hDn)
    obtain ⟨kb, hkb⟩ : ∃ kb, pathN ka D = kb := ⟨_, rfl⟩
    rw [hkb] at rb hlb
    have hpj : pathN k j = kb := by rw [← hkb, ← HKA.out, pathN_add]; congr 1; omega
    have HKB := Lib.hid hkb; have HPJ := Lib.hid hpj
    have HIb := Lib.hid (info_len _ hlb)
    have e3 : J - I = (D : Int) := by have := HI.out; have := HJ.out; omega
    have hsa := sabove_any kb j w6 hlb (by omega) he6
    rw [HJ.out] at hsa
    obtain ⟨E, hE⟩ : ∃ E : Int, J - I = E := ⟨_, rfl⟩
    have hEt : E.toNat = D := by omega
    have hE0 : 0 ≤ E := by omega
    have hE1 : E < (n1 : Int) := by omega
    rw [← hEt] at rb
    have HE := Lib.hid hEt
    clear hkb hpj e3 hEt hDn
    go_upto_region 13 with (first
      | (refine wpList_load_mid rfl 23 _ rfl bx _ rfl _ _ rb Tryd.underlying23 rfl HIb.out ?_; rw [show (kb.map B8).toArray = dCells kb from rfl])
      | (go_at_call 30; refine hsa.mono ?_; rintro e w7 ⟨vy, rfl, hoy, hb7⟩))
    have rA7 := row_below rA6 hb7
    have he7 := he6.below hb7
    have hB7 := below_trB hle hB6 hb7
    have ky7 := hoy.kr
    have rl7 : w7.rangeAt b off (flatK (ladN k 10)) := fun j u hu => (hb7.cell (p := ⟨b, off + j, none⟩) hb6).trans (rl6 j u hu)
    have rx7 : w7.rangeAt bx ox (flatK (ladN ka n1)) := fun j u hu => (hb7.cell (p := ⟨bx, ox + j, none⟩) hx6).trans (rx6 j u hu)
    have hb7' := Nat.lt_of_lt_of_le hb6 hb7.size
    have hx7' := Nat.lt_of_lt_of_le hx6 hb7.size
    have hJt : J.toNat = j := by have := HJ.out; omega
    have hc10 : 10 ≤ c := hl1
    have hJc : J ≤ (c : Int) := by omega
    have hJ10 : J ≤ 10 := by omega
    have hcJ : ¬ c = J.toNat := by omega
    have kd : KR w7 (.slice (some ⟨b, off + J.toNat * 32, none⟩) (10 - J.toNat) (c - J.toNat)) (ladN kb (10 - j)) := by
      have e0 : (ladN k 10).drop j = ladN kb (10 - j) := by
        have := ladN_drop k j (10 - j)
        rw [← HPJ.out, ← this]
        congr 2
        omega
      refine ⟨ky7.1, .inr ⟨b, off + J.toNat * 32, c - J.toNat, ?_, ?_, ?_, ?_, hb7'⟩⟩
      · rw [length_ladN, hJt]
      · rw [length_ladN]; omega
      · omega
      · rw [← e0, hJt]; exact range_drop kl6.1 rl7 j
    have ri7 := range_key kl6.1 rl7 (ladN_get k 10 i (by omega))
    rw [HKA.out, ← HIn.out] at ri7
    clear hsa rb hoy hb7 rl6 rx6 he6 hB6 rA6 hJt hb6 hx6 hla hcm
    have hla := length_pathN k h1 i
    rw [HKA.out] at hla
    obtain ⟨N, hN⟩ : ∃ N, w7.heap.size = N := ⟨_, rfl⟩
    have hNle : N ≤ w7.heap.size := Nat.le_of_eq hN.symm
    have zA := row_lt rA7
    rw [hN] at zA hb7' hx7'
    have hOB : ∀ p : Own N w7, Below w7.heap.size w7 p.w' := fun p => hN.symm ▸ p.below
    have c1 : ∀ p : Own N w7, Calls Tryd.prog 32 #[vy, .slice (some ⟨b, off + J.toNat * 32, none⟩) (10 - J.toNat) (c - J.toNat)] p.w' fun e w'' => e = .returned (.bool true) ∧ Below p.w'.heap.size p.w' w'' := fun p =>
      calls_dN ((refsame_any vy _ _ _ p.w' (ky7.below (hOB p)) (kd.below (hOB p))).mono fun _ _ ⟨h1, h2⟩ => ⟨by rw [h1]; simp, h2⟩)
    have hfin : ∀ p : Own N w7, Below B w p.w' := fun p => hB7.trans (p.below.mono (Nat.le_of_lt zA))
    by_cases hJI : J = I
    · have eJI : (J == I) = true := by simp [hJI]
      have HFIN := Lib.hid hfin
      clear hJI kl6 kx6 hfin
      refine wp_region_sp (C := fun w' => ∃ p : Own N w7, w' = p.w') (Φ := Tab [(7, spV (.bool true))])
        (by kernel_rfl) (by kernel_rfl) (Tab.stable _) ⟨.of (Below.refl N w7).drew, rfl⟩ ?_
      iterate 7 (refine sp_plain rfl (fun K hK => ?_); go_simp; refine hK _ ?_; clear hK K)
      refine sp_spec rfl rfl (by rintro _ ⟨p, rfl⟩ hd; go_simp; exact own_spV hNle (c1 p)) ?_
      rintro v ⟨_, -, rfl⟩ K hK; simp only [Act.put, List.setIfInBounds_toArray, List.set_cons_zero, List.set_cons_succ]; refine hK _ ?_; clear hK K
      iterate 6 (refine sp_plain rfl (fun K hK => ?_); go_simp; refine hK _ ?_; clear hK K)
      iterate 9 (refine sp_skip rfl ?_; intro K hK; simp only [Act.put, List.setIfInBounds_toArray, List.set_cons_zero, List.set_cons_succ]; refine hK _ ?_; clear hK K)
      iterate 3 (refine sp_plain rfl (fun K hK => ?_); go_simp; refine hK _ ?_; clear hK K)
      refine sp_nil ?_
      rintro _ ⟨p, rfl⟩ hd
      clear c1 eJI
      go_wp2
      go_ret
      exact ⟨rfl, HFIN.out p⟩
    · have eJI : (J == I) = false := by simp [hJI]
      have hD2 : 1 < n1 := by have h1 := HI.out; have h2 := HJ.out; have h3 := HN.out; omega
      have hD3 : (1 : Int) < (n1 : Int) := by omega
      have r1 := range_key kx6.1 rx7 (ladN_get ka n1 1 hD2)
      obtain ⟨kc, hkc⟩ : ∃ kc, pathN ka 1 = kc := ⟨_, rfl⟩
      have hlc : kc.length = 32 := by rw [← hkc]; exact length_pathN ka hla 1
      rw [hkc] at r1
      rw [show 1 * 32 = 32 from rfl] at r1
      have c2 : ∀ p : Own N w7, Calls Tryd.prog 23 #[.agg (dCells ka), .string bPathS, .slice none 0 0] p.w' fun e w'' => e = .returned (.agg (dCells kc)) ∧ Below p.w'.heap.size p.w' w'' := fun p => by
        rw [← hkc]
        exact expand_any ka bPathS (.slice none 0 0) [] p.w' hla (.inl ⟨rfl, rfl⟩) (by simp) (by decide) (by simp) (he7.below (hOB p))
      have eK : ∀ w, (Op.equalIn 10000 23 (.agg (dCells kc)) (.agg (dCells kc))).run Tryd.prog w = .ok true w := fun w => (eqIn_key kc kc hlc hlc w).trans (by simp)
      have HIc := Lib.hid (info_len _ hlc)
      have hrg : ∀ (p : Own N w7) (bb oo : Nat) (cs : List Value), bb < N → w7.rangeAt bb oo cs → p.w'.rangeAt bb oo cs := fun p bb oo cs hlt hr j u hu => (p.below.cell (p := ⟨bb, oo + j, none⟩) hlt).trans (hr j u hu)
      have HR := Lib.hid (show ∀ w', (∃ p : Own N w7, w' = p.w') → w'.rangeAt bx (ox + 32) (kc.map B8) ∧ w'.rangeAt b (off + I.toNat * 32) (ka.map B8) from fun w' ⟨p, hp⟩ => hp ▸ ⟨hrg p _ _ _ hx7' r1, hrg p _ _ _ hb7' ri7⟩)
      have HFIN := Lib.hid hfin
      clear hJI kl6 kx6 hkc hlc r1 hrg hfin
      refine wp_region_sp (C := fun w' => ∃ p : Own N w7, w' = p.w') (Φ := Tab [(7, spV (.bool true)), (21, spV (.agg (dCells kc)))])
        (by kernel_rfl) (by kernel_rfl) (Tab.stable _) ⟨.of (Below.refl N w7).drew, rfl⟩ ?_
      iterate 7 (refine sp_plain rfl (fun K hK => ?_); go_simp; refine hK _ ?_; clear hK K)
      refine sp_spec rfl rfl (by rintro _ ⟨p, rfl⟩ hd; go_simp; exact own_spV hNle (c1 p)) ?_
      rintro v ⟨_, -, rfl⟩ K hK; simp only [Act.put, List.setIfInBounds_toArray, List.set_cons_zero, List.set_cons_succ]; refine hK _ ?_; clear hK K
      iterate 8 (refine sp_plain rfl (fun K hK => ?_); go_simp; refine hK _ ?_; clear hK K)
      refine sp_load_mid rfl rfl 23 _ rfl bx _ rfl _ _ (fun w' h => (HR.out w' h).1) Tryd.underlying23 rfl HIc.out ?_
      rw [show (kc.map B8).toArray = dCells kc from rfl]
      intro K hK; simp only [Act.put, List.setIfInBounds_toArray, List.set_cons_zero, List.set_cons_succ]; refine hK _ ?_; clear hK K
      iterate 3 (refine sp_plain rfl (fun K hK => ?_); go_simp; refine hK _ ?_; clear hK K)
      refine sp_load_mid rfl rfl 23 _ rfl b _ rfl _ _ (fun w' h => (HR.out w' h).2) Tryd.underlying23 rfl HIa.out ?_
      rw [show (ka.map B8).toArray = dCells ka from rfl]
      intro K hK; simp only [Act.put, List.setIfInBounds_toArray, List.set_cons_zero, List.set_cons_succ]; refine hK _ ?_; clear hK K
      refine sp_spec rfl rfl (by rintro _ ⟨p, rfl⟩ hd; go_simp; exact own_spV hNle (c2 p)) ?_
      rintro v ⟨_, -, rfl⟩ K hK; simp only [Act.put, List.setIfInBounds_toArray, List.set_cons_zero, List.set_cons_succ]; refine hK _ ?_; clear hK K
      iterate 4 (refine sp_plain rfl (fun K hK => ?_); go_simp; refine hK _ ?_; clear hK K)
      refine sp_nil ?_
      rintro _ ⟨p, rfl⟩ hd
      clear c1 c2 eJI eK
      go_wp2
      go_ret
      exact ⟨rfl, HFIN.out p⟩
end Chart
