/- First, of the program and of the reference. The reference's Step. The reference's product modulo m. The reference's rest of a digest. The reference's scalar of bytes. -/
import Derived.Test.YtphgokaeonkjaaaDoorExpand
import Derived.Laws.ResultCell
import Derived.Test.YtphgokaeonkjaaaDoorRefTagged
namespace Chart
open Go Go.RowKit Go.Proofs

def bSeed : ByteArray := { data := #[115, 101, 101, 100] }

set_option maxHeartbeats 2000000 in
set_option maxRecDepth 100000 in
theorem first_any (v : Value) (l : List (BitVec 8)) (w : World) (hv : BS w v l) (hl : l.length + 32 ≤ 140737488355328) (he : ShaEnv w) :
    Calls Tryd.prog 21 #[v] w fun e w' => e = .returned (.agg (dCells (tagd bSeed l))) ∧ Below w.heap.size w w' := by
  have htl := length_tagd bSeed l
  have HI2 := Lib.hid (info_key' _ htl); have HS2 := Lib.hid (size_dCells _ htl); have HO2 := Lib.hid (one_dCells (tagd bSeed l))
  clear htl
  obtain ⟨bd, hbd⟩ : ∃ bd, w.heap.size = bd := ⟨_, rfl⟩
  rw [hbd]
  have hb1 : Below bd w (w.alloc (.cells (zrow 32) 23)) := (Below.refl bd w).alloc (by omega) _
  have hb1' : Below w.heap.size w (w.alloc (.cells (zrow 32) 23)) := by rw [hbd]; exact hb1
  have hd1 : (w.alloc (.cells (zrow 32) 23)).heap[bd]? = some (.cells (zrow 32) 23 (0, 0)) := by rw [← hbd]; exact heap_alloc_new w _
  have hs1 : (w.alloc (.cells (zrow 32) 23)).heap.size = bd + 1 := by simp [hbd]
  have ht := tagged_any bSeed v l _ (by decide) (hv.below hb1') hl (he.below hb1')
  go_enter Tryd.func21, Tryd.ntmps21
  go_wp2_with fail
  rw [← zrow32]
  refine ht.mono ?_
  rintro e w3 ⟨rfl, hb3⟩
  rw [hs1] at hb3
  have hd3 : w3.heap[bd]? = some (.cells (zrow 32) 23 (0, 0)) := (hb3.block bd (by omega)).trans hd1
  have hz : (zrow 32).size = (dCells (tagd bSeed l)).size := by rw [HS2.out]; rfl
  go_wp2_with (refine wpList_store_row rfl 23 _ _ rfl bd _ rfl rfl 23 _ hd3 HI2.out hz HO2.out ?_)
  refine bodyPost_ret (results_cell_row rfl _ _ bd 23 _ (0, 0) _ rfl (setRow_heap _ _ _ _ _ _ hd3) Tryd.underlying23 rfl HI2.out) rfl ⟨rfl, ?_⟩
  exact (hb1.trans (hb3.mono (by omega))).trans ⟨rfl, rfl, rfl, by simp, fun i hi => by rw [setRow_other _ _ _ _ (by omega)]⟩

set_option maxHeartbeats 2000000 in
set_option maxRecDepth 100000 in
theorem reffirst_any (v : Value) (l : List (BitVec 8)) (w : World) (hv : BS w v l) (hl : l.length + 160 ≤ 140737488355328) :
    Calls Tryd.prog 22 #[v] w fun e w' => e = .returned (.agg (dCells (tagd bSeed l))) ∧ Below w.heap.size w w' := by
  have htl := length_tagd bSeed l
  have HI2 := Lib.hid (info_key' _ htl); have HS2 := Lib.hid (size_dCells _ htl); have HO2 := Lib.hid (one_dCells (tagd bSeed l))
  clear htl
  obtain ⟨bd, hbd⟩ : ∃ bd, w.heap.size = bd := ⟨_, rfl⟩
  rw [hbd]
  have hb1 : Below bd w (w.alloc (.cells (zrow 32) 23)) := (Below.refl bd w).alloc (by omega) _
  have hb1' : Below w.heap.size w (w.alloc (.cells (zrow 32) 23)) := by rw [hbd]; exact hb1
  have hd1 : (w.alloc (.cells (zrow 32) 23)).heap[bd]? = some (.cells (zrow 32) 23 (0, 0)) := by rw [← hbd]; exact heap_alloc_new w _
  have hs1 : (w.alloc (.cells (zrow 32) 23)).heap.size = bd + 1 := by simp [hbd]
  have ht := reftagged_any bSeed v l _ (by decide) (hv.below hb1') hl
  go_enter Tryd.func22, Tryd.ntmps22
  go_wp2_with fail
  rw [← zrow32]
  refine ht.mono ?_
  rintro e w3 ⟨rfl, hb3⟩
  rw [hs1] at hb3
  have hd3 : w3.heap[bd]? = some (.cells (zrow 32) 23 (0, 0)) := (hb3.block bd (by omega)).trans hd1
  have hz : (zrow 32).size = (dCells (tagd bSeed l)).size := by rw [HS2.out]; rfl
  go_wp2_with (refine wpList_store_row rfl 23 _ _ rfl bd _ rfl rfl 23 _ hd3 HI2.out hz HO2.out ?_)
  refine bodyPost_ret (results_cell_row rfl _ _ bd 23 _ (0, 0) _ rfl (setRow_heap _ _ _ _ _ _ hd3) Tryd.underlying23 rfl HI2.out) rfl ⟨rfl, ?_⟩
  exact (hb1.trans (hb3.mono (by omega))).trans ⟨rfl, rfl, rfl, by simp, fun i hi => by rw [setRow_other _ _ _ _ (by omega)]⟩
end Chart

namespace Chart
open Go Go.RowKit Go.Proofs

def bStep : ByteArray := { data := #[115, 116, 101, 112] }
/-- The key after n steps. -/
def stepN (k : List (BitVec 8)) : Nat → List (BitVec 8)
  | 0 => k
  | n + 1 => expd (stepN k n) bStep []
theorem length_stepN (k : List (BitVec 8)) (h : k.length = 32) : ∀ n, (stepN k n).length = 32
  | 0 => h
  | _ + 1 => length_expd _ _ _
theorem stepN_add (k : List (BitVec 8)) (m : Nat) : ∀ n, stepN (stepN k m) n = stepN k (m + n)
  | 0 => rfl
  | n + 1 => by rw [stepN, stepN_add k m n]; rfl
def zkey : List (BitVec 8) := List.replicate 32 0#8
/-- What Step answers. -/
def stepOut (k : List (BitVec 8)) (n : Int) : Value :=
  if n < 0 then .tuple #[.agg (dCells zkey), .int .i64 1] else if n > 65536 then .tuple #[.agg (dCells zkey), .int .i64 2] else .tuple #[.agg (dCells (stepN k n.toNat)), .int .i64 0]

/-- The two results of a function: a whole variable and a plain one. -/
theorem results_row_tmp {fn : Func} {p u : Tmp} {ty : TypeId} (h : fn.results = #[.cell p ty, .tmp u]) (tmps : Array Value) (w : World) (g : Nat) (cs : Array Value)
    (hp : tmps.getD p undef = .pointer (some ⟨g, 0, none⟩)) (hl : (loadVar ty ⟨g, 0, none⟩).run Tryd.prog w = .ok (.agg cs) w) :
    (results fn tmps).run Tryd.prog w = .ok (.tuple #[.agg cs, tmps.getD u undef]) w := by
  rw [results_cell_tmp h, hp]
  simp [asAddr, hl, Result.andThen]
theorem key_load {w : World} {g : Nat} {cs : Array Value} {t : TypeId} (hg : w.heap[g]? = some (.cells cs t (0, 0))) (hi : (Tryd.prog.info? 23).map (·.size) = some cs.size) :
    (loadVar 23 ⟨g, 0, none⟩).run Tryd.prog w = .ok (.agg cs) w := run_loadVar_row w g t 23 cs (0, 0) _ hg Tryd.underlying23 rfl hi

set_option maxHeartbeats 2000000 in
set_option maxRecDepth 100000 in
theorem refstep_any (k : List (BitVec 8)) (n : Int) (w : World) (hk : k.length = 32) (hn : n ≤ 9223372036854775807) :
    Calls Tryd.prog 18 #[.agg (dCells k), .int .i64 n] w fun e w' => e = .returned (stepOut k n) ∧ Below w.heap.size w w' := by
  obtain ⟨B, hB⟩ : ∃ B, w.heap.size = B := ⟨_, rfl⟩
  rw [hB]
  have hr2 : ((w.alloc (.cells (dCells k) 23)).alloc (.cells (zrow 32) 23)).heap[B]? = some (.cells (dCells k) 23 (0, 0)) :=
    (Below.heap_alloc _ _ B (by simp [hB])).trans (by rw [← hB]; exact heap_alloc_new w _)
  have hd2 : ((w.alloc (.cells (dCells k) 23)).alloc (.cells (zrow 32) 23)).heap[B + 1]? = some (.cells (zrow 32) 23 (0, 0)) := by
    have := heap_alloc_new (w.alloc (.cells (dCells k) 23)) (.cells (zrow 32) 23)
    simpa [hB] using this
  have hb2 : Below B w ((w.alloc (.cells (dCells k) 23)).alloc (.cells (zrow 32) 23)) := ((Below.refl B w).alloc (by omega) _).alloc (by simp [hB]) _
  have hs2 : ((w.alloc (.cells (dCells k) 23)).alloc (.cells (zrow 32) 23)).heap.size = B + 2 := by simp [hB]
  have hz : dCells zkey = zrow 32 := rfl
  go_enter Tryd.func18, Tryd.ntmps18
  go_upto_region 1 with (fail)
  rw [← zrow32]
  generalize (w.alloc (.cells (dCells k) 23)).alloc (.cells (zrow 32) 23) = w2 at *
  by_cases h0 : n < 0
  · have hso : stepOut k n = .tuple #[.agg (zrow 32), .int .i64 1] := by unfold stepOut; rw [if_pos h0, hz]
    have HSO := Lib.hid hso
    clear hso hz
    go_wp2_with (first
      | refine wpList_buildTo rfl 23 #[] rfl (some 9) rfl (zrow 32) (by kernel_rfl) ?_
      | (refine wpList_store_row rfl 23 _ _ rfl (B + 1) _ rfl rfl 23 _ hd2 (by kernel_rfl) rfl (by kernel_rfl) ?_))
    refine bodyPost_ret (results_row_tmp rfl _ _ (B + 1) _ rfl (key_load (setRow_heap _ _ _ _ _ _ hd2) (by kernel_rfl))) rfl ⟨by rw [HSO.out]; rfl, ?_⟩
    exact hb2.trans ⟨rfl, rfl, rfl, by simp, fun i hi => by rw [setRow_other _ _ _ _ (by omega)]⟩
  · by_cases h1 : n > 65536
    · have hso : stepOut k n = .tuple #[.agg (zrow 32), .int .i64 2] := by unfold stepOut; rw [if_neg h0, if_pos h1, hz]
      have HSO := Lib.hid hso
      clear hso hz
      go_wp2_with (first
        | refine wpList_buildTo rfl 23 #[] rfl (some 12) rfl (zrow 32) (by kernel_rfl) ?_
        | (refine wpList_store_row rfl 23 _ _ rfl (B + 1) _ rfl rfl 23 _ hd2 (by kernel_rfl) rfl (by kernel_rfl) ?_))
      refine bodyPost_ret (results_row_tmp rfl _ _ (B + 1) _ rfl (key_load (setRow_heap _ _ _ _ _ _ hd2) (by kernel_rfl))) rfl ⟨by rw [HSO.out]; rfl, ?_⟩
      exact hb2.trans ⟨rfl, rfl, rfl, by simp, fun i hi => by rw [setRow_other _ _ _ _ (by omega)]⟩
    · obtain ⟨N, rfl⟩ : ∃ N : Nat, n = N := ⟨n.toNat, by omega⟩
      have hso : stepOut k N = .tuple #[.agg (dCells (stepN k N)), .int .i64 0] := by unfold stepOut; rw [if_neg h0, if_neg h1]; rfl
      have HSO := Lib.hid hso
      clear hso hz
      go_wp2_with fail
      go_loopw [6] (fun t wr => ∃ j : Nat, j ≤ N ∧ t = .int .i64 j ∧ Below B w wr ∧ wr.heap[B]? = some (.cells (dCells (stepN k j)) 23 (0, 0)) ∧ wr.heap[B + 1]? = some (.cells (zrow 32) 23 (0, 0))) (fun t _ => N - (intOf t).toNat)
      case atStart => exact ⟨0, by omega, rfl, hb2, hr2, hd2⟩
      case round =>
        clear hr2 hd2
        obtain ⟨j, hj, rfl, hg, hr, hd⟩ := hrel
        have hgs : B + 1 < wr.heap.size := (Array.getElem?_eq_some_iff.1 hd).1
        have hlen := length_stepN k hk j
        have hlen2 := length_stepN k hk (j + 1)
        have HI1 := Lib.hid (info_key' _ hlen); have HI2 := Lib.hid (info_key' _ hlen2); have HS1 := Lib.hid (size_dCells _ hlen); have HS2 := Lib.hid (size_dCells _ hlen2); have HO2 := Lib.hid (one_dCells (stepN k (j + 1)))
        by_cases hlt : j < N
        · have hex := refexpand_any (stepN k j) bStep (.slice none 0 0) [] wr hlen (.inl ⟨rfl, rfl⟩) (by simp) (by decide) (by simp)
          rw [show expd (stepN k j) bStep [] = stepN k (j + 1) from rfl] at hex
          clear hlen hlen2
          obtain ⟨K2, hK2⟩ : ∃ K2, stepN k (j + 1) = K2 := ⟨_, rfl⟩
          rw [hK2] at hex HI2 HS2 HO2
          have HK2 := Lib.hid hK2
          clear hK2
          generalize stepN k j = K1 at *
          go_upto_region 7 with (first
            | (refine wpList_load_row rfl 23 _ rfl B rfl 23 _ (0, 0) _ hr Tryd.underlying23 rfl HI1.out ?_)
            | (go_at_call 24; refine hex.mono ?_; rintro e w6 ⟨rfl, hb6⟩; have hr6 := (hb6.block B (Nat.lt_of_succ_lt hgs)).trans hr)
            | (refine wpList_store_row rfl 23 _ _ rfl B _ rfl rfl 23 _ hr6 HI2.out (by rw [HS1.out, HS2.out]) HO2.out ?_))
          have hd6 := (hb6.block (B + 1) hgs).trans hd
          go_wp2
          go_roundw
          case rel =>
            refine ⟨j + 1, by omega, by go_num, (hg.trans (hb6.mono (by omega))).trans ⟨rfl, rfl, rfl, by simp, fun i hi => by rw [setRow_other _ _ _ _ (by omega)]⟩, ?_, ?_⟩
            · rw [HK2.out]; exact setRow_heap _ _ _ _ _ _ hr6
            · rw [setRow_other _ _ _ _ (by omega)]; exact hd6
          case measure => simp [intOf]; omega
        · obtain rfl : j = N := by omega
          clear HI2 HS2 HO2 hlen2
          have HO1 := Lib.hid (one_dCells (stepN k j))
          have hlen' := hlen
          clear hlen
          generalize stepN k j = K1 at *
          go_wp2_with (first
            | (refine wpList_load_row rfl 23 _ rfl B rfl 23 _ (0, 0) _ hr Tryd.underlying23 rfl HI1.out ?_)
            | (refine wpList_store_row rfl 23 _ _ rfl (B + 1) _ rfl rfl 23 _ hd HI1.out (by rw [HS1.out]; rfl) HO1.out ?_))
          refine bodyPost_ret (results_row_tmp rfl _ _ (B + 1) _ rfl (key_load (setRow_heap _ _ _ _ _ _ hd) HI1.out)) rfl ⟨by rw [HSO.out]; rfl, ?_⟩
          exact hg.trans ⟨rfl, rfl, rfl, by simp, fun i hi => by rw [setRow_other _ _ _ _ (by omega)]⟩
end Chart

namespace Chart
open Go Go.RowKit Go.Proofs

set_option maxHeartbeats 2000000 in
set_option maxRecDepth 100000 in
theorem refadd_any (a b m : Nat) (w : World) (ha : a < m) (hb : b < m) (hm : m < 2 ^ 62) :
    Calls Tryd.prog 119 #[.int .i64 a, .int .i64 b, .int .i64 m] w fun e w' => e = .returned (.int .i64 ((a + b) % m : Nat)) ∧ w' = w := by
  have h62 : m < 4611686018427387904 := hm
  obtain ⟨r, hr⟩ : ∃ r, (a + b) % m = r := ⟨_, rfl⟩
  rw [hr]
  by_cases h : m ≤ a + b
  · have e1 : r = a + b - m := by rw [← hr, Nat.mod_eq_sub_mod h, Nat.mod_eq_of_lt (by omega)]
    have hc : (m : Int) ≤ (a : Int) + b := by omega
    have e2 : (a : Int) + b - m = ((a + b - m : Nat) : Int) := by omega
    have E1 := Lib.hid e1; have E2 := Lib.hid e2
    clear e1 e2 hr
    go_enter Tryd.func119, Tryd.ntmps119
    go_wp2
    go_ret
    refine ⟨?_, rfl⟩
    rw [E1.out, ← E2.out]; rfl
  · have e1 : r = a + b := by rw [← hr]; exact Nat.mod_eq_of_lt (by omega)
    have hc : ¬ ((m : Int) ≤ (a : Int) + b) := by omega
    have E1 := Lib.hid e1
    clear e1 hr
    go_enter Tryd.func119, Tryd.ntmps119
    go_wp2
    go_ret
    refine ⟨?_, rfl⟩
    rw [E1.out, Int.natCast_add]; rfl

theorem prod_even (a b c m : Nat) (h : b % 2 = 0) : (c + (a + a) % m * (b / 2)) % m = (c + a * b) % m := by
  have hb : b = 2 * (b / 2) := by omega
  have e : a * b = (a + a) * (b / 2) := by conv => lhs; rw [hb]
                                           rw [← Nat.mul_assoc, Nat.mul_two]
  rw [e, Nat.add_mod, Nat.mod_mul_mod, ← Nat.add_mod]
theorem prod_odd (a b c m : Nat) (h : b % 2 = 1) : ((c + a) % m + (a + a) % m * (b / 2)) % m = (c + a * b) % m := by
  have hb : b = 2 * (b / 2) + 1 := by omega
  have e : a * b = a + (a + a) * (b / 2) := by conv => lhs; rw [hb]
                                               rw [Nat.mul_add, ← Nat.mul_assoc, Nat.mul_two, Nat.mul_one, Nat.add_comm]
  rw [e, ← Nat.add_assoc, Nat.add_mod, Nat.mod_mod, Nat.mod_mul_mod, ← Nat.add_mod]

set_option maxHeartbeats 2000000 in
set_option maxRecDepth 100000 in
theorem refprod_any (a b m : Nat) (w : World) (ha : a < m) (hb : b < 2 ^ 62) (hm : m < 2 ^ 62) :
    Calls Tryd.prog 106 #[.int .i64 a, .int .i64 b, .int .i64 m] w fun e w' => e = .returned (.int .i64 (a * b % m : Nat)) ∧ w' = w := by
  obtain ⟨r, hr⟩ : ∃ r, a * b % m = r := ⟨_, rfl⟩
  rw [hr]
  have h62 : m < 4611686018427387904 := hm
  have hb62 : b < 4611686018427387904 := hb
  have HR := Lib.hid (show (0 + a * b) % m = r by rw [Nat.zero_add]; exact hr)
  clear hr
  go_enter Tryd.func106, Tryd.ntmps106
  go_wp2
  go_loop [0, 1, 7] (fun x y z => ∃ a' b' c : Nat, x = .int .i64 a' ∧ y = .int .i64 b' ∧ z = .int .i64 c ∧ a' < m ∧ b' < 4611686018427387904 ∧ c < m ∧ (c + a' * b') % m = r) (fun _ y _ => (intOf y).toNat)
  case atStart => exact ⟨a, b, 0, rfl, rfl, rfl, ha, hb62, by omega, HR.out⟩
  case round =>
    obtain ⟨a', b', c, rfl, rfl, rfl, h1, h2, h3, h4⟩ := hrel
    have H4 := Lib.hid h4
    clear h4 HR
    have hs1 := fun w' => refadd_any c a' m w' h3 h1 hm
    have hs2 := fun w' => refadd_any a' a' m w' h1 h1 hm
    by_cases h0 : b' = 0
    · subst h0
      go_wp2
      go_ret
      have h5 := H4.out
      rw [Nat.mul_zero, Nat.add_zero, Nat.mod_eq_of_lt h3] at h5
      exact ⟨by rw [← h5]; rfl, rfl⟩
    · have hpos : (0 : Int) < (b' : Int) := by omega
      by_cases h1b : b' % 2 = 1
      · have hc : ((b' : Int)).tmod 2 = 1 := by rw [Int.tmod_eq_emod_of_nonneg (by omega)]; omega
        have hc2 : (b' : Int) % 2 = 1 := by omega
        have HP := Lib.hid (prod_odd a' b' c m h1b)
        clear h1b
        go_wp2_with fail
        refine (hs1 _).mono ?_
        rintro e w' ⟨rfl, rfl⟩
        go_wp2_with fail
        refine (hs2 _).mono ?_
        rintro e w' ⟨rfl, rfl⟩
        go_wp2
        go_round
        case rel => exact ⟨(a' + a') % m, b' / 2, (c + a') % m, rfl, by go_num, rfl, Nat.mod_lt _ (by omega), by omega, Nat.mod_lt _ (by omega), by rw [HP.out]; exact H4.out⟩
        case measure => simp [intOf]; omega
      · have hc : ¬ ((b' : Int)).tmod 2 = 1 := by rw [Int.tmod_eq_emod_of_nonneg (by omega)]; omega
        have hc2 : ¬ (b' : Int) % 2 = 1 := by omega
        have HP := Lib.hid (prod_even a' b' c m (by omega))
        clear h1b
        go_wp2_with fail
        refine (hs2 _).mono ?_
        rintro e w' ⟨rfl, rfl⟩
        go_wp2
        go_round
        case rel => exact ⟨(a' + a') % m, b' / 2, c, rfl, by go_num, rfl, Nat.mod_lt _ (by omega), by omega, h3, by rw [HP.out]; exact H4.out⟩
        case measure => simp [intOf]; omega
end Chart

namespace Chart
open Go Go.RowKit Go.Proofs

/-- The number that bytes spell, modulo m, byte by byte. -/
def restN (m : Nat) : List (BitVec 8) → Nat → Nat
  | [], n => n
  | x :: l, n => restN m l ((256 * n % m + x.toNat) % m)
theorem restN_append (m : Nat) : ∀ (l : List (BitVec 8)) (x : BitVec 8) (n : Nat), restN m (l ++ [x]) n = (256 * restN m l n % m + x.toNat) % m
  | [], _, _ => rfl
  | _ :: l, x, n => by rw [List.cons_append, restN, restN_append m l x]; rfl
theorem restN_lt (m : Nat) (hm : 0 < m) : ∀ (l : List (BitVec 8)) (n : Nat), n < m → restN m l n < m
  | [], _, h => h
  | _ :: l, _, _ => restN_lt m hm l _ (Nat.mod_lt _ hm)

set_option maxHeartbeats 2000000 in
set_option maxRecDepth 100000 in
theorem refrest_any (l : List (BitVec 8)) (m : Nat) (w : World) (hl : l.length = 32) (hm0 : 256 < m) (hm : m < 2 ^ 62) :
    Calls Tryd.prog 79 #[.agg (dCells l), .int .i64 m] w fun e w' => e = .returned (.int .i64 (restN m l 0)) ∧ Below w.heap.size w w' := by
  have h62 : m < 4611686018427387904 := hm
  obtain ⟨B, hB⟩ : ∃ B, w.heap.size = B := ⟨_, rfl⟩
  rw [hB]
  have hb1 : Below B w (w.alloc (.cells (dCells l) 38)) := (Below.refl B w).alloc (by omega) _
  have hr1 : (w.alloc (.cells (dCells l) 38)).heap[B]? = some (.cells (dCells l) 38 (0, 0)) := by rw [← hB]; exact heap_alloc_new w _
  have HD := Lib.hid (size_dCells l hl)
  go_enter Tryd.func79, Tryd.ntmps79
  go_wp2_with fail
  generalize w.alloc (.cells (dCells l) 38) = w1 at *
  go_loopw [5, 6] (fun x t wr => ∃ k : Nat, k ≤ 32 ∧ t = .int .i64 k ∧ x = .int .i64 (restN m (l.take k) 0) ∧ Below (B + 1) w1 wr) (fun _ t _ => 32 - (intOf t).toNat)
  case atStart => exact ⟨0, by omega, rfl, rfl, Below.refl _ _⟩
  case round =>
    obtain ⟨k, hk, rfl, rfl, hg⟩ := hrel
    by_cases hlt : k < 32
    · obtain ⟨x, hx⟩ : ∃ x, l[k]? = some x := ⟨l[k]'(by omega), by simp [hl, hlt]⟩
      have hrow := (hg.block B (by omega)).trans hr1
      have hc : wr.cell? ⟨B, k, none⟩ = some (B8 x) := by rw [cell_of_row wr B k _ _ _ hrow]; simp [dCells, hx]
      have hn : restN m (l.take (k + 1)) 0 = (256 * restN m (l.take k) 0 % m + x.toNat) % m := by rw [List.take_add_one, hx]; exact restN_append m _ _ _
      have hlt2 := restN_lt m (by omega) (l.take k) 0 (by omega)
      have HN := Lib.hid hn
      clear hn
      generalize restN m (l.take k) 0 = q at *
      have hp := fun w' => refprod_any 256 q m w' hm0 (by omega) hm
      have hq : 256 * q % m < m := Nat.mod_lt _ (by omega)
      obtain ⟨z, hz⟩ : ∃ z, 256 * q % m = z := ⟨_, rfl⟩
      rw [hz] at hp hq HN
      have hxl : x.toNat < 256 := x.isLt
      have hc' : wr.cell? ⟨B, k, none⟩ = some (.int .u8 (x.toNat : Int)) := hc
      clear hz hc
      go_wp2_with fail
      go_quiet ((go_at_call 106; exact Calls.quiet_of_same (hp _)))
      go_wp2
      go_roundw
      case rel => exact ⟨k + 1, by omega, by go_num, by rw [HN.out]; go_num, hg.trans ⟨rfl, rfl, rfl, Nat.le_refl _, fun _ _ => rfl⟩⟩
      case measure => simp [intOf]; omega
    · obtain rfl : k = 32 := by omega
      rw [List.take_of_length_le (by omega)]
      go_wp2
      go_ret
      exact ⟨rfl, hb1.trans (hg.mono (Nat.le_succ _))⟩
end Chart

namespace Chart
open Go Go.RowKit Go.Proofs

/-- The scalar of bytes under a tag. -/
def scal (tag : ByteArray) (l : List (BitVec 8)) : Nat := restN 2305843009213688668 (tagd tag l) 0 + 1

set_option maxHeartbeats 2000000 in
set_option maxRecDepth 100000 in
theorem refscalar_any (tag : ByteArray) (v : Value) (l : List (BitVec 8)) (w : World) (ht : tag.size + 128 ≤ 140737488355328) (hv : BS w v l) (hl : l.length + 160 ≤ 140737488355328) :
    Calls Tryd.prog 56 #[.string tag, v] w fun e w' => e = .returned (.int .i64 (scal tag l)) ∧ Below w.heap.size w w' := by
  have htg := reftagged_any tag v l w ht hv hl
  have hrs := fun w' => refrest_any (tagd tag l) 2305843009213688668 w' (length_tagd tag l) (by decide) (by decide)
  have hlt := restN_lt 2305843009213688668 (by decide) (tagd tag l) 0 (by decide)
  have HS := Lib.hid (show scal tag l = restN 2305843009213688668 (tagd tag l) 0 + 1 from rfl)
  generalize restN 2305843009213688668 (tagd tag l) 0 = q at *
  go_enter Tryd.func56, Tryd.ntmps56
  go_wp2_with fail
  refine htg.mono ?_
  rintro e w2 ⟨rfl, hb2⟩
  go_wp2_with fail
  refine (hrs _).mono ?_
  rintro e w3 ⟨rfl, hb3⟩
  go_wp2
  go_ret
  refine ⟨?_, hb2.trans (hb3.mono hb2.size)⟩
  rw [HS.out]
  simp; omega
end Chart
