/- The iterator of the path secrets. The reference's Above. schedule.Above. slices.AppendSeq and slices.Collect over the iterator of the path secrets; schedule.Ladder. schedule.Above's error. The reference's Same on lists of keys; schedule.Above's error. -/
import Derived.Test.YtphgokaeonkjaaaDoorEqKey
import Derived.Test.YtphgokaeonkjaaaDoorKeyLists
import Derived.BigQuiet
namespace Chart
open Go Go.RowKit Go.Shelf Go.Proofs
attribute [local go_sem] Oper.semAt_some

def bPathS : ByteArray := { data := #[112, 97, 116, 104] }
/-- The path secret i levels up. -/
def pathN (k : List (BitVec 8)) : Nat → List (BitVec 8)
  | 0 => k
  | n + 1 => expd (pathN k n) bPathS []
theorem length_pathN (k : List (BitVec 8)) (h : k.length = 32) : ∀ n, (pathN k n).length = 32
  | 0 => h
  | _ + 1 => length_expd _ _ _
theorem pathN_add (k : List (BitVec 8)) (m : Nat) : ∀ n, pathN (pathN k m) n = pathN k (m + n)
  | 0 => rfl
  | n + 1 => by rw [pathN, pathN_add k m n]; rfl

set_option maxHeartbeats 1000000 in
set_option maxRecDepth 100000 in
theorem rising_any (k : List (BitVec 8)) (L : Int) (w : World) :
    Calls Tryd.prog 66 #[.agg (dCells k), .int .i64 L] w fun e w' =>
      e = .returned (.func (.func 90) #[] #[.pointer (some ⟨w.heap.size + 1, 0, none⟩), .pointer (some ⟨w.heap.size, 0, none⟩)]) ∧ w' = (w.alloc (.cells (dCells k) 23)).alloc (.cells #[.int .i64 L] 3) := by
  have hmf : ∀ (fn : Fn) (first cap : Array Value) (w : World), (Instr.makeFunc fn first cap).run Tryd.prog w = .ok (.func fn first cap) w := fun _ _ _ _ => rfl
  go_enter Tryd.func66, Tryd.ntmps66
  go_wp2
  go_ret
  exact ⟨rfl, rfl⟩

set_option maxHeartbeats 2000000 in
set_option maxRecDepth 100000 in
theorem rising1_in (n : Nat) (hn : 1 ≤ n) (l bl bs L : Nat) (hL : L ≤ 10) (hne : bl ≠ bs) (k : List (BitVec 8)) (hk : k.length = 32) (J Jm : Nat → World → Prop)
    (hrow : ∀ i W, J i W → W.heap[bs]? = some (.cells (dCells (pathN k i)) 23 (0, 0)) ∧ W.heap[bl]? = some (.cells #[.int .i64 ((L + i : Nat) : Int)] 3 (0, 0)))
    (hrow' : ∀ i W, Jm i W → W.heap[bs]? = some (.cells (dCells (pathN k i)) 23 (0, 0)) ∧ W.heap[bl]? = some (.cells #[.int .i64 ((L + i : Nat) : Int)] 3 (0, 0)) ∧ ShaEnv W)
    (hstep : ∀ i W W', Jm i W → (∀ j, j < W.heap.size → j ≠ bs → j ≠ bl → W'.heap[j]? = W.heap[j]?) → (∀ B, B ≤ bs → B ≤ bl → B ≤ W.heap.size → Below B W W') →
      W'.heap[bs]? = some (.cells (dCells (pathN k (i + 1))) 23 (0, 0)) → W'.heap[bl]? = some (.cells #[.int .i64 ((L + (i + 1) : Nat) : Int)] 3 (0, 0)) → J (i + 1) W')
    (hY : ∀ i W, L + i < 10 → J i W → YieldAt Fence.wide (n - 1) Tryd.prog l #[.agg (dCells (pathN k i))] W fun e W' => e = .returned (.bool true) ∧ Jm i W')
    (W : World) (h0 : J 0 W) :
    CallsIn Fence.wide n Tryd.prog 90 #[.func (.yield l) #[] #[], .pointer (some ⟨bl, 0, none⟩), .pointer (some ⟨bs, 0, none⟩)] W fun e W' => (∃ v, e = .returned v) ∧ J (10 - L) W' := by
  refine callsIn_of_wp Tryd.func90 rfl trivial ?_ rfl
  simp only [Tryd.ntmps90, List.size_toArray, List.length_cons, List.length_nil, Nat.reduceAdd, Nat.reduceSub, Array.replicate_succ, Array.replicate_zero, List.push_toArray, List.append_toArray, List.nil_append, List.cons_append]
  gi_wp2
  gi_loopw [4] (fun _ wr => ∃ i, L + i ≤ 10 ∧ J i wr) (fun _ wr => 10 - muN bl wr)
  case atStart => exact ⟨0, by omega, h0⟩
  case round =>
    obtain ⟨i, hi, hJ⟩ := hrel
    obtain ⟨hr, hl⟩ := hrow i wr hJ
    have hcl := cell_of_row wr bl 0 _ _ _ hl
    have hmu : muN bl wr = L + i := by unfold muN; rw [show wr.cell? ⟨bl, 0, none⟩ = some (.int .i64 ((L + i : Nat) : Int)) from hcl]; simp; omega
    by_cases hlt : L + i < 10
    · obtain ⟨fn, tmps, assign, body, hy, hR⟩ := hY i wr hlt hJ
      have hlen := length_pathN k hk i
      have HI1 := Lib.hid (info_key' _ hlen)
      obtain ⟨v, hv⟩ : ∃ v : Int, ((L + i : Nat) : Int) = v := ⟨_, rfl⟩
      rw [hv] at hcl
      have hv9 : v ≤ 9 := by omega
      have hv0 : 0 ≤ v := by omega
      have HV := Lib.hid hv
      have HMU := Lib.hid hmu
      clear hmu hv hY
      gi_wp2_with (refine row_load_in rfl 23 _ rfl bs rfl 23 _ (0, 0) _ hr Tryd.underlying23 rfl HI1.out ?_)
      refine hR.mono ?_
      rintro e W3 ⟨rfl, hJm⟩
      obtain ⟨hr3, hl3, he3⟩ := hrow' i W3 hJm
      have hex := expand_any (pathN k i) bPathS (.slice none 0 0) [] W3 hlen (.inl ⟨rfl, rfl⟩) (by simp) (by decide) (by simp) he3
      rw [show expd (pathN k i) bPathS [] = pathN k (i + 1) from rfl] at hex
      have hlen2 := length_pathN k hk (i + 1)
      have HI2 := Lib.hid (info_key' _ hlen2); have HS1 := Lib.hid (size_dCells _ hlen); have HS2 := Lib.hid (size_dCells _ hlen2); have HO2 := Lib.hid (one_dCells (pathN k (i + 1)))
      have HST := Lib.hid (hstep i W3)
      have hb3 : bs < W3.heap.size := row_lt hr3
      have hbl3 : bl < W3.heap.size := row_lt hl3
      clear hlen hlen2
      obtain ⟨K2, hK2⟩ : ∃ K2, pathN k (i + 1) = K2 := ⟨_, rfl⟩
      rw [hK2] at hex HI2 HS2 HO2 HST
      clear hK2 hR hy
      generalize pathN k i = K1 at *
      rw [HV.out] at hl3
      gi_wp2_with (first
        | (refine row_load_in rfl 23 _ rfl bs rfl 23 _ (0, 0) _ hr3 Tryd.underlying23 rfl HI1.out ?_)
        | (refine ⟨trivial, ?_⟩; gi_at_call 23; refine (callsIn_wide.2 hex).mono ?_; rintro e W4 ⟨rfl, hb4⟩; have hr4 := (hb4.block bs hb3).trans hr3
           have hl4 : (W4.setRow bs (dCells K2)).heap[bl]? = some (.cells #[.int .i64 v] 3 (0, 0)) := by rw [setRow_other _ _ _ _ hne]; exact (hb4.block bl hbl3).trans hl3
           have hcl4 := cell_of_row (W4.setRow bs (dCells K2)) bl 0 _ _ _ hl4
           have hfl4 := frozen_of_row (W4.setRow bs (dCells K2)) bl 0 _ _ hl4)
        | (refine row_store_in rfl 23 _ _ rfl rfl bs _ rfl rfl 23 _ hr4 HI2.out (by rw [HS1.out, HS2.out]) HO2.out ?_))
      have hJ2 := HST.out ((W4.setRow bs (dCells K2)).setCell ⟨bl, 0, none⟩ (.int .i64 (v + 1))) hJm (fun j hj h1 h2 => by
          rw [heap_setCell_other _ _ _ _ h2, setRow_other _ _ _ _ h1]; exact hb4.block j hj)
        (fun B h1 h2 h3 => by
          have hq : Below B W3 (W4.setRow bs (dCells K2)) := (hb4.mono h3).trans ⟨rfl, rfl, rfl, by simp, fun j hj => by rw [setRow_other _ _ _ _ (by omega)]⟩
          exact hq.setCell (p := ⟨bl, 0, none⟩) h2 _)
        (by rw [heap_setCell_other _ _ _ _ (Ne.symm hne)]; exact setRow_heap _ _ _ _ _ _ hr4)
        (by rw [heap_setCell_same _ _ _ _ _ _ hl4, show ((L + (i + 1) : Nat) : Int) = v + 1 by have := HV.out; omega]; rfl)
      go_roundw
      case rel => exact ⟨i + 1, by omega, hJ2⟩
      case measure =>
        have h := cell_of_row _ bl 0 _ _ _ (hrow (i + 1) _ hJ2).2
        have h2 : muN bl ((W4.setRow bs (dCells K2)).setCell ⟨bl, 0, none⟩ (.int .i64 (v + 1))) = L + (i + 1) := by
          unfold muN
          rw [show ((W4.setRow bs (dCells K2)).setCell ⟨bl, 0, none⟩ (.int .i64 (v + 1))).cell? ⟨bl, 0, none⟩ = some (.int .i64 ((L + (i + 1) : Nat) : Int)) from h]
          simp
          omega
        rw [h2, HMU.out]
        omega
    · obtain ⟨v, hv⟩ : ∃ v : Int, ((L + i : Nat) : Int) = v := ⟨_, rfl⟩
      rw [hv] at hcl
      have hv9 : ¬ (v ≤ 9) := by omega
      have hi2 : i = 10 - L := by omega
      clear hv hmu hl
      gi_wp2
      go_end0
      exact ⟨⟨_, rfl⟩, hi2 ▸ hJ⟩
end Chart

namespace Chart
open Go Go.RowKit Go.Proofs

/-- The path secrets from one on. -/
def ladN (k : List (BitVec 8)) (n : Nat) : List (List (BitVec 8)) := (List.range n).map (pathN k)
theorem ladN_succ (k : List (BitVec 8)) (n : Nat) : ladN k (n + 1) = ladN k n ++ [pathN k n] := by unfold ladN; rw [List.range_succ, List.map_append]; rfl

theorem KO.mono {w : World} {B B' : Nat} {v : Value} {ks : List (List (BitVec 8))} (h : KO w B v ks) (hb : B' ≤ B) : KO w B' v ks := by
  refine ⟨h.1, h.2.1, ?_⟩
  rcases h.2.2 with h2 | ⟨g, cap, cur, h1, h2, h3⟩
  · exact .inl h2
  · exact .inr ⟨g, cap, cur, h1, Nat.le_trans hb h2, h3⟩

set_option maxHeartbeats 1500000 in
set_option maxRecDepth 100000 in
theorem refabove_any (k : List (BitVec 8)) (L : Nat) (w : World) (hk : k.length = 32) (hL : L ≤ 9) :
    Calls Tryd.prog 31 #[.agg (dCells k), .int .i64 L] w fun e w' => ∃ v, e = .returned (.tuple #[v, .int .i64 0]) ∧ KO w' w.heap.size v (ladN k (10 - L)) ∧ Below w.heap.size w w' := by
  obtain ⟨B, hB⟩ : ∃ B, w.heap.size = B := ⟨_, rfl⟩
  rw [hB]
  have HI := Lib.hid (info_key' _ hk)
  have hb1 : Below B w (w.alloc (.cells (dCells k) 23)) := (Below.refl B w).alloc (by omega) _
  have rA : (w.alloc (.cells (dCells k) 23)).heap[B]? = some (.cells (dCells k) 23 (0, 0)) := by rw [← hB]; exact heap_alloc_new w _
  have s1 : (w.alloc (.cells (dCells k) 23)).heap.size = B + 1 := by simp [hB]
  have j1 : ¬ ((L : Int) < 0) := by omega
  have j2 : ¬ ((9 : Int) < (L : Int)) := by omega
  go_enter Tryd.func31, Tryd.ntmps31
  go_upto_region 1 with (fail)
  generalize w.alloc (.cells (dCells k) 23) = w1 at *
  have hone := KO.one w1 (B + 1) (B + 1) k hk s1 (Nat.le_refl _)
  have b2 := below_al w1 (.cells (dCells k) 23)
  have rA2 := row_below rA b2
  have hb2 : Below B w (w1.alloc (.cells (dCells k) 23)) := hb1.trans (b2.mono (by omega))
  go_upto_region 4 with (first
    | (refine wpList_load_row rfl 23 _ rfl B rfl 23 _ (0, 0) _ rA Tryd.underlying23 rfl HI.out ?_)
    | (refine build_key rfl _ rfl k hk rfl ?_))
  have z2 : B + 1 ≤ (w1.alloc (.cells (dCells k) 23)).heap.size := by rw [World.size_alloc, s1]; omega
  clear hb1 rA b2 s1
  generalize w1.alloc (.cells (dCells k) 23) = w2 at *
  go_wp2_with fail
  go_loopw [6, 7] (fun s t wr => ∃ j : Nat, L + j ≤ 9 ∧ t = .int .i64 ((L + j : Nat) : Int) ∧ wr.heap[B]? = some (.cells (dCells (pathN k j)) 23 (0, 0)) ∧ KO wr (B + 1) s (ladN k (j + 1)) ∧ Below B w wr ∧ B + 1 ≤ wr.heap.size) (fun _ t _ => 9 - (intOf t).toNat)
  case atStart => exact ⟨0, by omega, rfl, rA2, hone, hb2, z2⟩
  case round =>
    clear rA2 hone hb2 z2
    obtain ⟨j, hj, rfl, hr, ho, hg, hz1⟩ := hrel
    have hlen := length_pathN k hk j
    have hlen2 := length_pathN k hk (j + 1)
    have HI1 := Lib.hid (info_key' _ hlen); have HI2 := Lib.hid (info_key' _ hlen2); have HS1 := Lib.hid (size_dCells _ hlen); have HS2 := Lib.hid (size_dCells _ hlen2); have HO2 := Lib.hid (one_dCells (pathN k (j + 1)))
    obtain ⟨v, hv⟩ : ∃ v : Int, ((L + j : Nat) : Int) = v := ⟨_, rfl⟩
    rw [hv]
    by_cases hlt : L + j < 9
    · have hv9 : v < 9 := by omega
      have hv0 : 0 ≤ v := by omega
      have hex := refexpand_any (pathN k j) bPathS (.slice none 0 0) [] wr hlen (.inl ⟨rfl, rfl⟩) (by simp) (by decide) (by simp)
      rw [show expd (pathN k j) bPathS [] = pathN k (j + 1) from rfl] at hex
      have hladl : (ladN k (j + 1)).length + 1 ≤ 1099511627776 := by unfold ladN; simp; omega
      have HLN := Lib.hid (ladN_succ k (j + 1))
      have HV := Lib.hid hv
      have HL2 := Lib.hid hlen2
      clear hv hlen
      obtain ⟨K2, hK2⟩ : ∃ K2, pathN k (j + 1) = K2 := ⟨_, rfl⟩
      rw [hK2] at hex HI2 HS2 HO2 HL2 HLN
      have HK2 := Lib.hid hK2
      clear hK2 hlen2
      generalize pathN k j = K1 at *
      generalize ladN k (j + 1) = LS at *
      go_wp2_with (first
        | (at_builtin; refine app_key rfl _ _ rfl (B + 1) _ _ rfl (ho7.al _) K2 HL2.out _ rfl (heap_alloc_new _ _) hladl (Nat.le_trans hz7 (World.grownBy_alloc _ _ none).size) ?_; intro v9 w9 ho9 hg9)
        | (refine wpList_load_row rfl 23 _ rfl B rfl 23 _ (0, 0) _ hr Tryd.underlying23 rfl HI1.out ?_)
        | (go_at_call 24; refine hex.mono ?_; rintro e w6 ⟨rfl, hb6⟩; have hr6 := row_below hr hb6; have ho6 := ho.below hb6; have hg6 := hg.trans (hb6.mono (by omega)); have hz6 := Nat.le_trans hz1 hb6.size)
        | (refine wpList_store_row rfl 23 _ _ rfl B _ rfl rfl 23 _ hr6 HI2.out (by rw [HS1.out, HS2.out]) HO2.out ?_
           have hr7 := setRow_heap w6 B _ (dCells K2) _ _ hr6
           have hg67 : w6.grownBy (w6.setRow B (dCells K2)) (some B) := ⟨rfl, rfl, rfl, by simp, fun i hi hr => setRow_other _ _ _ _ (fun e => hr (by rw [e]))⟩
           have ho7 : KO (w6.setRow B (dCells K2)) (B + 1) _ LS := ⟨ho6.1, World.ownsRow.kept ho6.2 hg67 (.inr (fun e => by have := (World.ownsRow.lt ho6.2 _ e).1; omega))⟩
           have hg7 : Below B w (w6.setRow B (dCells K2)) := hg6.trans ⟨rfl, rfl, rfl, by simp, fun i hi => by rw [setRow_other _ _ _ _ (by omega)]⟩
           have hz7 : B + 1 ≤ (w6.setRow B (dCells K2)).heap.size := by simp; exact hz6)
        | (refine wpList_load_row rfl 23 _ rfl B rfl 23 _ (0, 0) _ hr7 Tryd.underlying23 rfl HI2.out ?_)
        | (refine build_key rfl _ rfl K2 HL2.out rfl ?_))
      have hb9 : Below B w w9 := (hg7.alloc (by omega) _).grown hg9 (by rw [World.size_alloc]; omega) (fun k' e => by have := (World.ownsRow.lt ho7.2 k' e).1; omega)
      have hr9 : w9.heap[B]? = some (.cells (dCells K2) 23 (0, 0)) := by
        rw [hg9.block B (by rw [World.size_alloc]; omega) (fun e => by have := (World.ownsRow.lt ho7.2 B e.symm).1; omega)]
        exact (Below.heap_alloc _ _ B (by omega)).trans hr7
      have hz9 : B + 1 ≤ w9.heap.size := Nat.le_trans (Nat.le_trans hz7 (World.grownBy_alloc _ _ none).size) hg9.size
      go_roundw
      case rel => exact ⟨j + 1, by omega, by rw [show ((L + (j + 1) : Nat) : Int) = v + 1 by have := HV.out; omega], by rw [HK2.out]; exact hr9, by rw [HLN.out]; exact ho9, hb9, hz9⟩
      case measure => simp only [intOf]; omega
    · obtain rfl : j = 9 - L := by omega
      have hv9 : ¬ (v < 9) := by omega
      go_wp2
      go_ret2
      exact ⟨_, rfl, by rw [show 10 - L = 9 - L + 1 by omega]; exact ho.mono (Nat.le_succ B), hg⟩

set_option maxHeartbeats 1000000 in
set_option maxRecDepth 100000 in
theorem refabove_err (k : List (BitVec 8)) (L : Int) (w : World) (hL : L < 0 ∨ 9 < L) :
    Calls Tryd.prog 31 #[.agg (dCells k), .int .i64 L] w fun e w' => e = .returned (.tuple #[.slice none 0 0, .int .i64 1]) ∧ Below w.heap.size w w' := by
  have hb1 := below_al w (.cells (dCells k) 23)
  rcases hL with h | h
  · go_enter Tryd.func31, Tryd.ntmps31
    go_wp2
    go_ret2
    exact ⟨rfl, hb1⟩
  · have h0 : ¬ L < 0 := by omega
    go_enter Tryd.func31, Tryd.ntmps31
    go_wp2
    go_ret2
    exact ⟨rfl, hb1⟩

set_option maxHeartbeats 1000000 in
set_option maxRecDepth 100000 in
theorem refladder_any (k : List (BitVec 8)) (w : World) (hk : k.length = 32) :
    Calls Tryd.prog 34 #[.agg (dCells k)] w fun e w' => ∃ v, e = .returned v ∧ KO w' w.heap.size v (ladN k 10) ∧ Below w.heap.size w w' := by
  have HI := Lib.hid (info_key' _ hk)
  have hb1 := below_al w (.cells (dCells k) 23)
  have hr1 := heap_alloc_new w (.cells (dCells k) 23)
  have ha := refabove_any k 0 (w.alloc (.cells (dCells k) 23)) hk (by decide)
  go_enter Tryd.func34, Tryd.ntmps34
  go_wp2_with (first
    | (refine wpList_load_row rfl 23 _ rfl w.heap.size rfl 23 _ (0, 0) _ hr1 Tryd.underlying23 rfl HI.out ?_)
    | (go_at_call 31; refine ha.mono ?_; rintro e w2 ⟨v2, rfl, ho2, hb2⟩))
  go_ret
  exact ⟨v2, rfl, ho2.mono hb1.size, below_tr hb1 hb2⟩
end Chart

namespace Chart
open Go Go.RowKit Go.Shelf Go.Proofs
attribute [local go_sem] Oper.semAt_some

theorem results_keys_tmp {fn : Func} {p u : Tmp} (h : fn.results = #[.cell p 42, .tmp u]) (tmps : Array Value) (w : World) (a : Addr) (v : Value)
    (hp : tmps.getD p undef = .pointer (some a)) (hc : w.cell? a = some v) : (results fn tmps).run Tryd.prog w = .ok (.tuple #[v, tmps.getD u undef]) w := by
  rw [results_cell_tmp h, hp]
  simp [asAddr, loadVar, go_sem, hc, Result.andThen]

set_option maxHeartbeats 2000000 in
set_option maxRecDepth 100000 in
theorem sabove_any (k : List (BitVec 8)) (L : Nat) (w : World) (hk : k.length = 32) (hL : L ≤ 9) (he : ShaEnv w) :
    Calls Tryd.prog 30 #[.agg (dCells k), .int .i64 L] w fun e w' => ∃ v, e = .returned (.tuple #[v, .int .i64 0]) ∧ KO w' w.heap.size v (ladN k (10 - L)) ∧ Below w.heap.size w w' := by
  refine (callsIn_wide (n := 5)).1 ?_
  obtain ⟨B, hB⟩ : ∃ B, w.heap.size = B := ⟨_, rfl⟩
  have HI := Lib.hid (info_key' _ hk)
  have hle : B ≤ w.heap.size := Nat.le_of_eq hB.symm
  obtain ⟨w1, hw1⟩ : ∃ w1, w1 = w.alloc (.cells (dCells k) 23) := ⟨_, rfl⟩
  obtain ⟨w2, hw2⟩ : ∃ w2, w2 = w1.alloc (.cells #[.slice none 0 0] 42) := ⟨_, rfl⟩
  have s1 : w1.heap.size = B + 1 := by rw [hw1, World.size_alloc, hB]
  have s2 : w2.heap.size = B + 2 := by rw [hw2, World.size_alloc, s1]
  have b1 : Below w.heap.size w w1 := hw1 ▸ below_al w _
  have b2 : Below w1.heap.size w1 w2 := hw2 ▸ below_al w1 _
  have ra1 : w1.heap[B]? = some (.cells (dCells k) 23 (0, 0)) := by rw [hw1, ← hB]; exact heap_alloc_new w _
  have rl2 : w2.heap[B + 1]? = some (.cells #[.slice none 0 0] 42 (0, 0)) := by rw [hw2, ← s1]; exact heap_alloc_new w1 _
  have ra2 := row_below ra1 b2
  have hb2 : Below B w w2 := hB ▸ below_tr b1 b2
  rw [hB]
  clear b1 b2 ra1
  have j1 : ¬ ((L : Int) < 0) := by omega
  have j2 : ¬ ((9 : Int) < (L : Int)) := by omega
  refine callsIn_of_wp_marks Tryd.func30 rfl trivial ?_ rfl
  simp only [Tryd.ntmps30, List.size_toArray, List.length_cons, List.length_nil, Nat.reduceAdd, Nat.reduceSub, Array.replicate_succ, Array.replicate_zero, List.push_toArray, List.append_toArray, List.nil_append, List.cons_append]
  gi_upto_region 3 with (fail)
  rw [show (w.alloc (.cells (dCells k) 23)).alloc (.cells #[.slice none 0 0] 42) = w2 by rw [hw2, hw1]]
  have hrs := rising_any k L w2
  rw [s2] at hrs
  obtain ⟨wa, hwa⟩ : ∃ wa, wa = w2.alloc (.cells (dCells k) 23) := ⟨_, rfl⟩
  obtain ⟨w3, hw3⟩ : ∃ w3, w3 = wa.alloc (.cells #[.int .i64 L] 3) := ⟨_, rfl⟩
  have sa : wa.heap.size = B + 3 := by rw [hwa, World.size_alloc, s2]
  have s3 : w3.heap.size = B + 4 := by rw [hw3, World.size_alloc, sa]
  have ba : Below w2.heap.size w2 wa := hwa ▸ below_al w2 _
  have bb : Below wa.heap.size wa w3 := hw3 ▸ below_al wa _
  have rsa : wa.heap[B + 2]? = some (.cells (dCells k) 23 (0, 0)) := by rw [hwa, ← s2]; exact heap_alloc_new w2 _
  have rs3 := row_below rsa bb
  have rv3 : w3.heap[B + 3]? = some (.cells #[.int .i64 L] 3 (0, 0)) := by rw [hw3, ← sa]; exact heap_alloc_new wa _
  have rl3 := row_below (row_below rl2 ba) bb
  have hb3 : Below B w w3 := below_trB hle hb2 (below_tr ba bb)
  have hw3' : (w2.alloc (.cells (dCells k) 23)).alloc (.cells #[.int .i64 L] 3) = w3 := by rw [hw3, hwa]
  rw [hw3'] at hrs
  clear hw3' hw1 hw2 hwa hw3 ba bb rsa sa s1 s2 hb2 rl2
  gi_wp2_with (first
    | (refine row_load_in rfl 23 _ rfl B rfl 23 _ (0, 0) _ ra2 Tryd.underlying23 rfl HI.out ?_)
    | (refine ⟨trivial, ?_⟩; gi_at_call 66; refine (callsIn_wide.2 hrs).mono ?_; rintro e w4 ⟨rfl, h4⟩; obtain rfl := h4.symm))
  clear hrs ra2
  refine range_law (gf := 90) (lb := #[.pointer (some ⟨B + 3, 0, none⟩), .pointer (some ⟨B + 2, 0, none⟩)]) rfl (fun _ => by decide) rfl trivial (enters_of Tryd.func90 (by kernel_rfl) rfl) ?_
  intro fn hfn rec hrec
  rw [s3] at hrec ⊢
  have hwp : ((w3.alloc (.deferred (some []))).alloc (.loop (rec .ready none))).heap[B + 5]? = some (.loop (rec .ready none)) := by
    have := World.alloc_heap_new (w3.alloc (.deferred (some []))) (.loop (rec .ready none))
    rw [World.size_alloc, s3] at this; exact this
  have hwd : ((w3.alloc (.deferred (some []))).alloc (.loop (rec .ready none))).heap[B + 4]? = some (.deferred (some [])) := by
    have := World.alloc_heap_new w3 (.deferred (some []))
    rw [s3] at this
    exact (Below.heap_alloc _ _ _ (by simp; omega)).trans this
  have hold : ∀ j, j < B + 4 → ((w3.alloc (.deferred (some []))).alloc (.loop (rec .ready none))).heap[j]? = w3.heap[j]? := fun j hj =>
    (Below.heap_alloc _ _ _ (by simp; omega)).trans (Below.heap_alloc _ _ _ (by omega))
  have hbw : Below B w ((w3.alloc (.deferred (some []))).alloc (.loop (rec .ready none))) := (hb3.alloc (by omega) _).alloc (by simp; omega) _
  have hsw : ((w3.alloc (.deferred (some []))).alloc (.loop (rec .ready none))).heap.size = B + 6 := by simp [s3]
  generalize (w3.alloc (.deferred (some []))).alloc (.loop (rec .ready none)) = w6 at *
  refine (rising1_in 4 (by decide) (B + 5) (B + 3) (B + 2) L (by omega) (by omega) k hk
    (fun i W => W.heap[B + 2]? = some (.cells (dCells (pathN k i)) 23 (0, 0)) ∧ W.heap[B + 3]? = some (.cells #[.int .i64 ((L + i : Nat) : Int)] 3 (0, 0)) ∧ (∃ v, W.heap[B + 1]? = some (.cells #[v] 42 (0, 0)) ∧ KO W (B + 6) v (ladN k i)) ∧
      W.heap[B + 5]? = some (.loop (rec .ready none)) ∧ W.heap[B + 4]? = some (.deferred (some [])) ∧ Below B w W ∧ B + 6 ≤ W.heap.size)
    (fun i W => W.heap[B + 2]? = some (.cells (dCells (pathN k i)) 23 (0, 0)) ∧ W.heap[B + 3]? = some (.cells #[.int .i64 ((L + i : Nat) : Int)] 3 (0, 0)) ∧ (∃ v, W.heap[B + 1]? = some (.cells #[v] 42 (0, 0)) ∧ KO W (B + 6) v (ladN k (i + 1))) ∧
      W.heap[B + 5]? = some (.loop (rec .ready none)) ∧ W.heap[B + 4]? = some (.deferred (some [])) ∧ Below B w W ∧ B + 6 ≤ W.heap.size)
    ?_ ?_ ?_ ?_ w6 ⟨(hold _ (by omega)).trans rs3, (hold _ (by omega)).trans rv3, ⟨_, (hold _ (by omega)).trans rl3, KO.nil _ _⟩, hwp, hwd, hbw, Nat.le_of_eq hsw.symm⟩).mono ?_
  · rintro i W ⟨h1, h2, -⟩
    exact ⟨h1, h2⟩
  · rintro i W ⟨h1, h2, -, -, -, h7, -⟩
    exact ⟨h1, h2, he.below (by rw [hB]; exact h7)⟩
  · rintro i W W' ⟨h1, h2, ⟨v, h3, ho⟩, h5, h6, h7, h8⟩ hkeep hbel hr1 hr2
    have keep : ∀ j o, W.heap[j]? = some o → j ≠ B + 2 → j ≠ B + 3 → W'.heap[j]? = some o := fun j o hj h1 h2 => (hkeep j (Array.getElem?_eq_some_iff.1 hj).1 h1 h2).trans hj
    have hb := hbel B (by omega) (by omega) (by omega)
    exact ⟨hr1, hr2, ⟨v, keep _ _ h3 (by omega) (by omega), ho.heap (fun g hg hlt => hkeep g hlt (by omega) (by omega))⟩, keep _ _ h5 (by omega) (by omega), keep _ _ h6 (by omega) (by omega), h7.trans hb, Nat.le_trans h8 hb.size⟩
  · rintro i W hLi ⟨h1, h2, ⟨v, h3, ho⟩, h5, h4, h7, h8⟩
    have hsz : (#[Value.agg (dCells (pathN k i))] : Array Value).size = (rec .ready none).params.size := by rw [hrec]; rfl
    have hy := run_yield (P := Tryd.prog) h5 hsz
    have hbr := fun (W' : World) (h : W'.heap[B + 5]? = some (.loop (rec .ready none))) => run_beginRound (P := Tryd.prog) h (by rw [hrec]; rfl)
    rw [hrec] at hy
    dsimp only [lrec] at hy
    simp at hy
    have e2 : ({ rec .ready none with state := .ready, pending := none } : Loop) = rec .ready none := by rw [hrec]; rfl
    have E2 := Lib.hid e2
    clear e2
    have HREC := Lib.hid hrec
    clear hrec
    have hlen := length_pathN k hk i
    have HI1 := Lib.hid (info_key' _ hlen); have HS1 := Lib.hid (size_dCells _ hlen); have HO1 := Lib.hid (one_dCells (pathN k i)); have HL1 := Lib.hid hlen
    have HLN := Lib.hid (ladN_succ k i)
    have hladl : (ladN k i).length + 1 ≤ 1099511627776 := by unfold ladN; simp; omega
    clear hlen
    obtain ⟨ki, hki⟩ : ∃ ki, pathN k i = ki := ⟨_, rfl⟩
    rw [hki] at HI1 HS1 HO1 HL1 HLN hy
    rw [hki]
    have HKI := Lib.hid hki
    obtain ⟨LS, hLS⟩ : ∃ LS, ladN k i = LS := ⟨_, rfl⟩
    rw [hLS] at ho HLN hladl
    clear hki hLS
    obtain ⟨b, hb⟩ : ∃ b, W.heap.size = b := ⟨_, rfl⟩
    -- the new variable
    obtain ⟨W8, hW8⟩ : ∃ W8, W8 = W.alloc (.cells (dCells ki) 23) := ⟨_, rfl⟩
    have bW8 : Below W.heap.size W W8 := hW8 ▸ below_al W _
    have s8 : W8.heap.size = b + 1 := by rw [hW8, World.size_alloc, hb]
    have x8 : W8.heap[b]? = some (.cells (dCells ki) 23 (0, 0)) := by rw [hW8, ← hb]; exact heap_alloc_new W _
    have p8 := row_below h5 bW8
    obtain ⟨W9, hW9⟩ : ∃ W9, W8.putObj (B + 5) (.loop { rec .ready none with state := .busy }) = W9 := ⟨_, rfl⟩
    have hbr9 := hbr _ p8
    rw [hW9] at hbr9
    have keep9 : ∀ j o, W.heap[j]? = some o → j ≠ B + 5 → W9.heap[j]? = some o := fun j o hj hn => by
      rw [← hW9]; exact (World.putObj_heap_other (by omega)).trans (row_below hj bW8)
    have l9 := keep9 _ _ h3 (by omega)
    have d9 := keep9 _ _ h4 (by omega)
    have v9 := keep9 _ _ h2 (by omega)
    have c9 : W9.heap[B + 2]? = some (.cells (dCells ki) 23 (0, 0)) := keep9 _ _ (HKI.out ▸ h1) (by omega)
    have x9 : W9.heap[b]? = some (.cells (dCells ki) 23 (0, 0)) := by rw [← hW9]; exact (World.putObj_heap_other (by omega)).trans x8
    have p9 : W9.heap[B + 5]? = some (.loop { rec .ready none with state := .busy }) := by rw [← hW9]; exact World.putObj_heap_same (Array.getElem?_eq_some_iff.1 p8).1
    have b9 : Below B w W9 := by
      rw [← hW9]
      have q : Below B w W8 := h7.trans (bW8.mono (by omega))
      exact q.grown (grownBy_putObj' _ (B + 5) _) (by have := q.size; omega) (fun j e => by cases e; omega)
    have s9 : W9.heap.size = b + 1 := by rw [← hW9, ← s8]; simp
    have ho9 : KO W9 (B + 6) v LS := by
      refine ho.heap (fun g hg hlt => ?_)
      rw [← hW9]
      exact (World.putObj_heap_other (by omega)).trans (bW8.block g hlt)
    clear hbr bW8 s8 x8 p8 hW9 keep9 h1 h2 h3 h4 h5 ho hsw hwp hwd hold hbw h7
    have hcl := cell_of_row W9 (B + 1) 0 _ _ _ l9
    refine ⟨fn, _, _, _, hy, roundIn_of_wpIn hfn ?_⟩
    clear hy
    gi_wp2_with (refine st_new_in rfl 23 _ _ rfl rfl (dCells ki) _ 23 (by show Value.pointer _ = Value.pointer _; rw [hb]) rfl HI1.out (by rw [HS1.out]; rfl) HO1.out ?_)
    rw [← hW8]
    clear hW8
    refine ⟨W9, hbr9, ?_⟩
    clear hbr9
    have hR9 : B + 6 ≤ (W9.alloc (.cells (dCells ki) 23)).heap.size := by rw [World.size_alloc]; omega
    gi_wp2_with (first
      | (refine row_load_in rfl 23 _ rfl b rfl 23 _ (0, 0) _ x9 Tryd.underlying23 rfl HI1.out ?_)
      | (refine build_key_in rfl _ rfl ki HL1.out rfl ?_)
      | (gi_at_builtin; refine app_key_in rfl _ _ rfl (B + 6) _ _ rfl (ho9.al _) ki HL1.out _ rfl (heap_alloc_new _ _) hladl hR9 ?_; intro v10 W10 ho10 hg10; obtain ⟨va, vc, hvv⟩ := ho10.kr.form; rw [show (LS ++ [ki]).length = LS.length + 1 by simp] at hvv; subst hvv
         have q10 : ∀ j o, W9.heap[j]? = some o → j < B + 6 → W10.heap[j]? = some o := fun j o hj hn => by
           rw [hg10.block j (by rw [World.size_alloc]; have := row_lt hj; omega) (fun e => by have := (ho9.lt j e.symm).1; omega)]
           exact (Below.heap_alloc _ _ j (row_lt hj)).trans hj
         have l10 := q10 _ _ l9 (by omega)
         have hcl10 := cell_of_row W10 (B + 1) 0 _ _ _ l10
         have hfr10 := frozen_of_row W10 (B + 1) 0 _ _ l10))
    have b10 : Below B w W10 := (b9.alloc (by omega) _).grown hg10 (by rw [World.size_alloc]; omega) (fun k' e => by have := (ho9.lt k' e).1; omega)
    have z10 : B + 6 ≤ W10.heap.size := Nat.le_trans hR9 hg10.size
    have l11 : (W10.setCell ⟨B + 1, 0, none⟩ (.slice va (LS.length + 1) vc)).heap[B + 1]? = some (.cells #[(.slice va (LS.length + 1) vc)] 42 (0, 0)) := by rw [heap_setCell_same _ _ _ _ _ _ l10]; rfl
    have k11 : ∀ j o, W9.heap[j]? = some o → j < B + 6 → j ≠ B + 1 → (W10.setCell ⟨B + 1, 0, none⟩ (.slice va (LS.length + 1) vc)).heap[j]? = some o := fun j o hj hn hne => by
      rw [heap_setCell_other _ _ _ _ hne]; exact q10 _ _ hj hn
    have p11 := k11 _ _ p9 (by omega) (by omega)
    have b11 : Below B w (W10.setCell ⟨B + 1, 0, none⟩ (.slice va (LS.length + 1) vc)) := b10.setCell (p := ⟨B + 1, 0, none⟩) (by show B ≤ B + 1; omega) _
    have o11 : KO (W10.setCell ⟨B + 1, 0, none⟩ (.slice va (LS.length + 1) vc)) (B + 6) (.slice va (LS.length + 1) vc) (LS ++ [ki]) := ho10.heap (fun g hg hlt => heap_setCell_other _ _ _ _ (by show g ≠ B + 1; omega))
    have z11 : (W10.setCell ⟨B + 1, 0, none⟩ (.slice va (LS.length + 1) vc)).heap.size = W10.heap.size := by simp [World.setCell]
    generalize W10.setCell ⟨B + 1, 0, none⟩ (.slice va (LS.length + 1) vc) = W11 at *
    refine ⟨_, W11.putObj (B + 5) (.loop (rec .ready none)), (run_endRound (P := Tryd.prog) none p11).trans (by rw [← E2.out]; rfl), rfl, ?_⟩
    have k12 : ∀ j o, W9.heap[j]? = some o → j < B + 6 → j ≠ B + 1 → j ≠ B + 5 → (W11.putObj (B + 5) (.loop (rec .ready none))).heap[j]? = some o := fun j o hj hn hne hn2 =>
      (World.putObj_heap_other (by omega)).trans (k11 _ _ hj hn hne)
    exact ⟨k12 _ _ c9 (by omega) (by omega) (by omega), k12 _ _ v9 (by omega) (by omega) (by omega),
      ⟨_, (World.putObj_heap_other (by omega)).trans l11, by rw [HLN.out]; exact o11.heap (fun g hg hlt => World.putObj_heap_other (by omega))⟩,
      World.putObj_heap_same (Array.getElem?_eq_some_iff.1 p11).1, k12 _ _ d9 (by omega) (by omega) (by omega),
      b11.grown (grownBy_putObj' _ (B + 5) _) (by have := b11.size; omega) (fun j e => by cases e; omega), by simp; omega⟩
  · rintro e W ⟨⟨v, rfl⟩, h1, h2, ⟨v, h3, ho⟩, h5, h4, h7, h8⟩
    obtain ⟨va, vc, hvv⟩ := ho.kr.form
    subst hvv
    have HLl : (ladN k (10 - L)).length = 10 - L := by unfold ladN; simp
    have hst : (rec .ready none).state ≠ .busy := by rw [hrec]; simp [lrec]
    have hp : (rec .ready none).pending = none := by rw [hrec]; rfl
    have hend := run_endLoop (P := Tryd.prog) h5 hst
    have g2 : (W.putObj (B + 5) (.loop { rec .ready none with state := .exhausted })).heap[B + 1]? = some (.cells #[.slice va (ladN k (10 - L)).length vc] 42 (0, 0)) := (World.putObj_heap_other (by omega)).trans h3
    have g4 : (W.putObj (B + 5) (.loop { rec .ready none with state := .exhausted })).heap[B + 4]? = some (.deferred (some [])) := (World.putObj_heap_other (by omega)).trans h4
    have g7 : Below B w (W.putObj (B + 5) (.loop { rec .ready none with state := .exhausted })) := h7.grown (grownBy_putObj' W (B + 5) _) (by have := h7.size; omega) (fun j e => by cases e; omega)
    have g8 : KO (W.putObj (B + 5) (.loop { rec .ready none with state := .exhausted })) (B + 6) (.slice va (ladN k (10 - L)).length vc) (ladN k (10 - L)) := ho.heap (fun g hg hlt => World.putObj_heap_other (by omega))
    obtain ⟨W8, hW8⟩ : ∃ W8, W.putObj (B + 5) (.loop { rec .ready none with state := .exhausted }) = W8 := ⟨_, rfl⟩
    rw [hW8] at hend g2 g4 g7 g8
    rw [hp] at hend
    refine ⟨none, W8, hend, ?_⟩
    clear hend hp hst h1 h2 h3 h4 h5 h7 h8 ho hW8 hrec
    have hcC := cell_of_row W8 (B + 1) 0 _ _ _ g2
    have hfC := frozen_of_row W8 (B + 1) 0 _ _ g2
    have kk8 : ∀ u j o, W8.heap[j]? = some o → j ≠ B + 1 → (W8.setCell ⟨B + 1, 0, none⟩ u).heap[j]? = some o := fun u j o hj hne => by
      rw [heap_setCell_other _ _ _ _ hne]; exact hj
    have g9 := fun u => kk8 u _ _ g4 (by omega)
    have r9 : ∀ u, (W8.setCell ⟨B + 1, 0, none⟩ u).heap[B + 1]? = some (.cells #[u] 42 (0, 0)) := fun u => by rw [heap_setCell_same _ _ _ _ _ _ g2]; rfl
    have q9 : ∀ u, Below B w (W8.setCell ⟨B + 1, 0, none⟩ u) := fun u => g7.setCell (p := ⟨B + 1, 0, none⟩) (by show B ≤ B + 1; omega) _
    have o9 : ∀ u, KO (W8.setCell ⟨B + 1, 0, none⟩ u) (B + 6) (.slice va (ladN k (10 - L)).length vc) (ladN k (10 - L)) := fun u => g8.heap (fun g hg hlt => heap_setCell_other _ _ _ _ (by show g ≠ B + 1; omega))
    rw [HLl] at *
    clear kk8 g4 g2 g7 g8
    gi_wp2
    refine ⟨by simp, .inl ⟨_, _, rfl, run_takeDeferred (g9 _), ?_⟩⟩
    refine ⟨_, results_keys_tmp rfl _ _ ⟨B + 1, 0, none⟩ _ rfl (cell_of_row _ (B + 1) 0 _ _ _ ((World.putObj_heap_other (by omega)).trans (r9 _))), ?_⟩
    exact ⟨_, rfl, ((o9 _).heap (fun g hg hlt => World.putObj_heap_other (by omega))).mono (by omega), (q9 _).grown (grownBy_putObj' _ (B + 4) _) (by have := (q9 (.slice va (10 - L) vc)).size; omega) (fun j e => by cases e; omega)⟩
end Chart

namespace Chart
open Go Go.RowKit Go.Shelf Go.Proofs
attribute [local go_sem] Oper.semAt_some

theorem ShaEnv.belowB {w w' : World} {B : Nat} (h : ShaEnv w) (hb : Below B w w') (h4 : 4 ≤ B) : ShaEnv w' :=
  ⟨fun j x hx => (hb.cell (p := ⟨1, j, none⟩) (by show 1 < B; omega)).trans (h.nums j x hx), fun j hj => (hb.cell (p := ⟨0, j, none⟩) (by show 0 < B; omega)).trans (h.start j hj), Nat.le_trans h.size hb.size⟩

set_option maxHeartbeats 2000000 in
set_option maxRecDepth 100000 in
theorem appendseq_any (k : List (BitVec 8)) (L B0 bs bv : Nat) (w : World) (hk : k.length = 32) (hL : L ≤ 9) (he : ShaEnv w) (h0 : 4 ≤ B0) (hbs : B0 ≤ bs) (hbv : B0 ≤ bv) (hne : bv ≠ bs)
    (rs : w.heap[bs]? = some (.cells (dCells k) 23 (0, 0))) (rv : w.heap[bv]? = some (.cells #[.int .i64 L] 3 (0, 0))) :
    Calls Tryd.prog 91 #[.slice none 0 0, .func (.func 90) #[] #[.pointer (some ⟨bv, 0, none⟩), .pointer (some ⟨bs, 0, none⟩)]] w fun e w' => ∃ v, e = .returned v ∧ KO w' w.heap.size v (ladN k (10 - L)) ∧ Below B0 w w' := by
  refine (callsIn_wide (n := 5)).1 ?_
  obtain ⟨B, hB⟩ : ∃ B, w.heap.size = B := ⟨_, rfl⟩
  have hle : B ≤ w.heap.size := Nat.le_of_eq hB.symm
  have qs := row_lt rs
  have qv := row_lt rv
  obtain ⟨w3, hw3⟩ : ∃ w3, w3 = w.alloc (.cells #[.slice none 0 0] 42) := ⟨_, rfl⟩
  have s3 : w3.heap.size = B + 1 := by rw [hw3, World.size_alloc, hB]
  have b1 : Below w.heap.size w w3 := hw3 ▸ below_al w _
  have rl3 : w3.heap[B]? = some (.cells #[.slice none 0 0] 42 (0, 0)) := by rw [hw3, ← hB]; exact heap_alloc_new w _
  have rs3 := row_below rs b1
  have rv3 := row_below rv b1
  have hb3 : Below B0 w w3 := b1.mono (by omega)
  rw [hB] at qs qv ⊢
  clear b1
  refine callsIn_of_wp_marks Tryd.func91 rfl trivial ?_ rfl
  simp only [Tryd.ntmps91, List.size_toArray, List.length_cons, List.length_nil, Nat.reduceAdd, Nat.reduceSub, Array.replicate_succ, Array.replicate_zero, List.push_toArray, List.append_toArray, List.nil_append, List.cons_append]
  gi_upto_region 1 with (fail)
  rw [← hw3]
  clear hw3
  gi_wp2
  refine range_law (gf := 90) (lb := #[.pointer (some ⟨bv, 0, none⟩), .pointer (some ⟨bs, 0, none⟩)]) rfl (fun _ => by decide) rfl trivial (enters_of Tryd.func90 (by kernel_rfl) rfl) ?_
  intro fn hfn rec hrec
  rw [s3] at hrec ⊢
  have hwp : ((w3.alloc (.deferred (some []))).alloc (.loop (rec .ready none))).heap[B + 2]? = some (.loop (rec .ready none)) := by
    have := World.alloc_heap_new (w3.alloc (.deferred (some []))) (.loop (rec .ready none))
    rw [World.size_alloc, s3] at this; exact this
  have hwd : ((w3.alloc (.deferred (some []))).alloc (.loop (rec .ready none))).heap[B + 1]? = some (.deferred (some [])) := by
    have := World.alloc_heap_new w3 (.deferred (some []))
    rw [s3] at this
    exact (Below.heap_alloc _ _ _ (by simp; omega)).trans this
  have hold : ∀ j, j < B + 1 → ((w3.alloc (.deferred (some []))).alloc (.loop (rec .ready none))).heap[j]? = w3.heap[j]? := fun j hj =>
    (Below.heap_alloc _ _ _ (by simp; omega)).trans (Below.heap_alloc _ _ _ (by omega))
  have hbw : Below B0 w ((w3.alloc (.deferred (some []))).alloc (.loop (rec .ready none))) := (hb3.alloc (by omega) _).alloc (by simp; omega) _
  have hsw : ((w3.alloc (.deferred (some []))).alloc (.loop (rec .ready none))).heap.size = B + 3 := by simp [s3]
  generalize (w3.alloc (.deferred (some []))).alloc (.loop (rec .ready none)) = w6 at *
  refine (rising1_in 4 (by decide) (B + 2) (bv) (bs) L (by omega) (by omega) k hk
    (fun i W => W.heap[bs]? = some (.cells (dCells (pathN k i)) 23 (0, 0)) ∧ W.heap[bv]? = some (.cells #[.int .i64 ((L + i : Nat) : Int)] 3 (0, 0)) ∧ (∃ v, W.heap[B]? = some (.cells #[v] 42 (0, 0)) ∧ KO W (B + 3) v (ladN k i)) ∧
      W.heap[B + 2]? = some (.loop (rec .ready none)) ∧ W.heap[B + 1]? = some (.deferred (some [])) ∧ Below B0 w W ∧ B + 3 ≤ W.heap.size)
    (fun i W => W.heap[bs]? = some (.cells (dCells (pathN k i)) 23 (0, 0)) ∧ W.heap[bv]? = some (.cells #[.int .i64 ((L + i : Nat) : Int)] 3 (0, 0)) ∧ (∃ v, W.heap[B]? = some (.cells #[v] 42 (0, 0)) ∧ KO W (B + 3) v (ladN k (i + 1))) ∧
      W.heap[B + 2]? = some (.loop (rec .ready none)) ∧ W.heap[B + 1]? = some (.deferred (some [])) ∧ Below B0 w W ∧ B + 3 ≤ W.heap.size)
    ?_ ?_ ?_ ?_ w6 ⟨(hold _ (by omega)).trans rs3, (hold _ (by omega)).trans rv3, ⟨_, (hold _ (by omega)).trans rl3, KO.nil _ _⟩, hwp, hwd, hbw, Nat.le_of_eq hsw.symm⟩).mono ?_
  · rintro i W ⟨h1, h2, -⟩
    exact ⟨h1, h2⟩
  · rintro i W ⟨h1, h2, -, -, -, h7, -⟩
    exact ⟨h1, h2, he.belowB h7 h0⟩
  · rintro i W W' ⟨h1, h2, ⟨v, h3, ho⟩, h5, h6, h7, h8⟩ hkeep hbel hr1 hr2
    have keep : ∀ j o, W.heap[j]? = some o → j ≠ bs → j ≠ bv → W'.heap[j]? = some o := fun j o hj h1 h2 => (hkeep j (Array.getElem?_eq_some_iff.1 hj).1 h1 h2).trans hj
    have hb := hbel B0 (by omega) (by omega) (by omega)
    exact ⟨hr1, hr2, ⟨v, keep _ _ h3 (by omega) (by omega), ho.heap (fun g hg hlt => hkeep g hlt (by omega) (by omega))⟩, keep _ _ h5 (by omega) (by omega), keep _ _ h6 (by omega) (by omega), h7.trans hb, Nat.le_trans h8 hb.size⟩
  · rintro i W hLi ⟨h1, h2, ⟨v, h3, ho⟩, h5, h4, h7, h8⟩
    have hsz : (#[Value.agg (dCells (pathN k i))] : Array Value).size = (rec .ready none).params.size := by rw [hrec]; rfl
    have hy := run_yield (P := Tryd.prog) h5 hsz
    have hbr := fun (W' : World) (h : W'.heap[B + 2]? = some (.loop (rec .ready none))) => run_beginRound (P := Tryd.prog) h (by rw [hrec]; rfl)
    rw [hrec] at hy
    dsimp only [lrec] at hy
    simp at hy
    have e2 : ({ rec .ready none with state := .ready, pending := none } : Loop) = rec .ready none := by rw [hrec]; rfl
    have E2 := Lib.hid e2
    clear e2
    have HREC := Lib.hid hrec
    clear hrec
    have hlen := length_pathN k hk i
    have HI1 := Lib.hid (info_key' _ hlen); have HS1 := Lib.hid (size_dCells _ hlen); have HO1 := Lib.hid (one_dCells (pathN k i)); have HL1 := Lib.hid hlen
    have HLN := Lib.hid (ladN_succ k i)
    have hladl : (ladN k i).length + 1 ≤ 1099511627776 := by unfold ladN; simp; omega
    clear hlen
    obtain ⟨ki, hki⟩ : ∃ ki, pathN k i = ki := ⟨_, rfl⟩
    rw [hki] at HI1 HS1 HO1 HL1 HLN hy
    rw [hki]
    have HKI := Lib.hid hki
    obtain ⟨LS, hLS⟩ : ∃ LS, ladN k i = LS := ⟨_, rfl⟩
    rw [hLS] at ho HLN hladl
    clear hki hLS
    obtain ⟨b, hb⟩ : ∃ b, W.heap.size = b := ⟨_, rfl⟩
    -- the new variable
    obtain ⟨W8, hW8⟩ : ∃ W8, W8 = W.alloc (.cells (dCells ki) 23) := ⟨_, rfl⟩
    have bW8 : Below W.heap.size W W8 := hW8 ▸ below_al W _
    have s8 : W8.heap.size = b + 1 := by rw [hW8, World.size_alloc, hb]
    have x8 : W8.heap[b]? = some (.cells (dCells ki) 23 (0, 0)) := by rw [hW8, ← hb]; exact heap_alloc_new W _
    have p8 := row_below h5 bW8
    obtain ⟨W9, hW9⟩ : ∃ W9, W8.putObj (B + 2) (.loop { rec .ready none with state := .busy }) = W9 := ⟨_, rfl⟩
    have hbr9 := hbr _ p8
    rw [hW9] at hbr9
    have keep9 : ∀ j o, W.heap[j]? = some o → j ≠ B + 2 → W9.heap[j]? = some o := fun j o hj hn => by
      rw [← hW9]; exact (World.putObj_heap_other (by omega)).trans (row_below hj bW8)
    have l9 := keep9 _ _ h3 (by omega)
    have d9 := keep9 _ _ h4 (by omega)
    have v9 := keep9 _ _ h2 (by omega)
    have c9 : W9.heap[bs]? = some (.cells (dCells ki) 23 (0, 0)) := keep9 _ _ (HKI.out ▸ h1) (by omega)
    have x9 : W9.heap[b]? = some (.cells (dCells ki) 23 (0, 0)) := by rw [← hW9]; exact (World.putObj_heap_other (by omega)).trans x8
    have p9 : W9.heap[B + 2]? = some (.loop { rec .ready none with state := .busy }) := by rw [← hW9]; exact World.putObj_heap_same (Array.getElem?_eq_some_iff.1 p8).1
    have b9 : Below B0 w W9 := by
      rw [← hW9]
      have q : Below B0 w W8 := h7.trans (bW8.mono (by omega))
      exact q.grown (grownBy_putObj' _ (B + 2) _) (by have := q.size; omega) (fun j e => by cases e; omega)
    have s9 : W9.heap.size = b + 1 := by rw [← hW9, ← s8]; simp
    have ho9 : KO W9 (B + 3) v LS := by
      refine ho.heap (fun g hg hlt => ?_)
      rw [← hW9]
      exact (World.putObj_heap_other (by omega)).trans (bW8.block g hlt)
    clear hbr bW8 s8 x8 p8 hW9 keep9 h1 h2 h3 h4 h5 ho hsw hwp hwd hold hbw h7
    have hcl := cell_of_row W9 (B) 0 _ _ _ l9
    refine ⟨fn, _, _, _, hy, roundIn_of_wpIn hfn ?_⟩
    clear hy
    gi_wp2_with (refine st_new_in rfl 23 _ _ rfl rfl (dCells ki) _ 23 (by show Value.pointer _ = Value.pointer _; rw [hb]) rfl HI1.out (by rw [HS1.out]; rfl) HO1.out ?_)
    rw [← hW8]
    clear hW8
    refine ⟨W9, hbr9, ?_⟩
    clear hbr9
    have hR9 : B + 3 ≤ (W9.alloc (.cells (dCells ki) 23)).heap.size := by rw [World.size_alloc]; omega
    gi_wp2_with (first
      | (refine row_load_in rfl 23 _ rfl b rfl 23 _ (0, 0) _ x9 Tryd.underlying23 rfl HI1.out ?_)
      | (refine build_key_in rfl _ rfl ki HL1.out rfl ?_)
      | (gi_at_builtin; refine app_key_in rfl _ _ rfl (B + 3) _ _ rfl (ho9.al _) ki HL1.out _ rfl (heap_alloc_new _ _) hladl hR9 ?_; intro v10 W10 ho10 hg10; obtain ⟨va, vc, hvv⟩ := ho10.kr.form; rw [show (LS ++ [ki]).length = LS.length + 1 by simp] at hvv; subst hvv
         have q10 : ∀ j o, W9.heap[j]? = some o → j < B + 3 → W10.heap[j]? = some o := fun j o hj hn => by
           rw [hg10.block j (by rw [World.size_alloc]; have := row_lt hj; omega) (fun e => by have := (ho9.lt j e.symm).1; omega)]
           exact (Below.heap_alloc _ _ j (row_lt hj)).trans hj
         have l10 := q10 _ _ l9 (by omega)
         have hcl10 := cell_of_row W10 (B) 0 _ _ _ l10
         have hfr10 := frozen_of_row W10 (B) 0 _ _ l10))
    have b10 : Below B0 w W10 := (b9.alloc (by omega) _).grown hg10 (by rw [World.size_alloc]; omega) (fun k' e => by have := (ho9.lt k' e).1; omega)
    have z10 : B + 3 ≤ W10.heap.size := Nat.le_trans hR9 hg10.size
    have l11 : (W10.setCell ⟨B, 0, none⟩ (.slice va (LS.length + 1) vc)).heap[B]? = some (.cells #[(.slice va (LS.length + 1) vc)] 42 (0, 0)) := by rw [heap_setCell_same _ _ _ _ _ _ l10]; rfl
    have k11 : ∀ j o, W9.heap[j]? = some o → j < B + 3 → j ≠ B → (W10.setCell ⟨B, 0, none⟩ (.slice va (LS.length + 1) vc)).heap[j]? = some o := fun j o hj hn hne => by
      rw [heap_setCell_other _ _ _ _ hne]; exact q10 _ _ hj hn
    have p11 := k11 _ _ p9 (by omega) (by omega)
    have b11 : Below B0 w (W10.setCell ⟨B, 0, none⟩ (.slice va (LS.length + 1) vc)) := b10.setCell (p := ⟨B, 0, none⟩) (by show B0 ≤ B; omega) _
    have o11 : KO (W10.setCell ⟨B, 0, none⟩ (.slice va (LS.length + 1) vc)) (B + 3) (.slice va (LS.length + 1) vc) (LS ++ [ki]) := ho10.heap (fun g hg hlt => heap_setCell_other _ _ _ _ (by show g ≠ B; omega))
    have z11 : (W10.setCell ⟨B, 0, none⟩ (.slice va (LS.length + 1) vc)).heap.size = W10.heap.size := by simp [World.setCell]
    generalize W10.setCell ⟨B, 0, none⟩ (.slice va (LS.length + 1) vc) = W11 at *
    refine ⟨_, W11.putObj (B + 2) (.loop (rec .ready none)), (run_endRound (P := Tryd.prog) none p11).trans (by rw [← E2.out]; rfl), rfl, ?_⟩
    have k12 : ∀ j o, W9.heap[j]? = some o → j < B + 3 → j ≠ B → j ≠ B + 2 → (W11.putObj (B + 2) (.loop (rec .ready none))).heap[j]? = some o := fun j o hj hn hne hn2 =>
      (World.putObj_heap_other (by omega)).trans (k11 _ _ hj hn hne)
    exact ⟨k12 _ _ c9 (by omega) (by omega) (by omega), k12 _ _ v9 (by omega) (by omega) (by omega),
      ⟨_, (World.putObj_heap_other (by omega)).trans l11, by rw [HLN.out]; exact o11.heap (fun g hg hlt => World.putObj_heap_other (by omega))⟩,
      World.putObj_heap_same (Array.getElem?_eq_some_iff.1 p11).1, k12 _ _ d9 (by omega) (by omega) (by omega),
      b11.grown (grownBy_putObj' _ (B + 2) _) (by have := b11.size; omega) (fun j e => by cases e; omega), by simp; omega⟩
  · rintro e W ⟨⟨v, rfl⟩, h1, h2, ⟨v, h3, ho⟩, h5, h4, h7, h8⟩
    obtain ⟨va, vc, hvv⟩ := ho.kr.form
    subst hvv
    have HLl : (ladN k (10 - L)).length = 10 - L := by unfold ladN; simp
    have hst : (rec .ready none).state ≠ .busy := by rw [hrec]; simp [lrec]
    have hp : (rec .ready none).pending = none := by rw [hrec]; rfl
    have hend := run_endLoop (P := Tryd.prog) h5 hst
    have g2 : (W.putObj (B + 2) (.loop { rec .ready none with state := .exhausted })).heap[B]? = some (.cells #[.slice va (ladN k (10 - L)).length vc] 42 (0, 0)) := (World.putObj_heap_other (by omega)).trans h3
    have g4 : (W.putObj (B + 2) (.loop { rec .ready none with state := .exhausted })).heap[B + 1]? = some (.deferred (some [])) := (World.putObj_heap_other (by omega)).trans h4
    have g7 : Below B0 w (W.putObj (B + 2) (.loop { rec .ready none with state := .exhausted })) := h7.grown (grownBy_putObj' W (B + 2) _) (by have := h7.size; omega) (fun j e => by cases e; omega)
    have g8 : KO (W.putObj (B + 2) (.loop { rec .ready none with state := .exhausted })) (B + 3) (.slice va (ladN k (10 - L)).length vc) (ladN k (10 - L)) := ho.heap (fun g hg hlt => World.putObj_heap_other (by omega))
    obtain ⟨W8, hW8⟩ : ∃ W8, W.putObj (B + 2) (.loop { rec .ready none with state := .exhausted }) = W8 := ⟨_, rfl⟩
    rw [hW8] at hend g2 g4 g7 g8
    rw [hp] at hend
    refine ⟨none, W8, hend, ?_⟩
    clear hend hp hst h1 h2 h3 h4 h5 h7 h8 ho hW8 hrec
    have hcC := cell_of_row W8 (B) 0 _ _ _ g2
    have hfC := frozen_of_row W8 (B) 0 _ _ g2
    have HL2 := Lib.hid HLl
    rw [HLl] at hcC g2 g8
    clear hfC
    clear HLl
    gi_wp2
    refine ⟨by simp, .inl ⟨_, _, rfl, run_takeDeferred g4, ?_⟩⟩
    refine ⟨_, results_tmp rfl _ _ _, ?_⟩
    exact ⟨_, rfl, (g8.heap (fun g hg hlt => World.putObj_heap_other (by omega))).mono (by omega), g7.grown (grownBy_putObj' _ (B + 1) _) (by have := g7.size; omega) (fun j e => by cases e; omega)⟩

set_option maxHeartbeats 1000000 in
set_option maxRecDepth 100000 in
theorem collect_any (k : List (BitVec 8)) (L B0 bs bv : Nat) (w : World) (hk : k.length = 32) (hL : L ≤ 9) (he : ShaEnv w) (h0 : 4 ≤ B0) (hbs : B0 ≤ bs) (hbv : B0 ≤ bv) (hne : bv ≠ bs)
    (rs : w.heap[bs]? = some (.cells (dCells k) 23 (0, 0))) (rv : w.heap[bv]? = some (.cells #[.int .i64 L] 3 (0, 0))) :
    Calls Tryd.prog 67 #[.func (.func 90) #[] #[.pointer (some ⟨bv, 0, none⟩), .pointer (some ⟨bs, 0, none⟩)]] w fun e w' => ∃ v, e = .returned v ∧ KO w' w.heap.size v (ladN k (10 - L)) ∧ Below B0 w w' := by
  have hs := appendseq_any k L B0 bs bv w hk hL he h0 hbs hbv hne rs rv
  go_enter Tryd.func67, Tryd.ntmps67
  go_wp2_with (first
    | (go_at_call 91; refine hs.mono ?_; rintro e w2 ⟨v2, rfl, ho2, hb2⟩))
  go_ret
  exact ⟨_, rfl, ho2, hb2⟩

set_option maxHeartbeats 1000000 in
set_option maxRecDepth 100000 in
theorem ladder_any (k : List (BitVec 8)) (w : World) (hk : k.length = 32) (he : ShaEnv w) :
    Calls Tryd.prog 33 #[.agg (dCells k)] w fun e w' => ∃ v, e = .returned v ∧ KO w' w.heap.size v (ladN k 10) ∧ Below w.heap.size w w' := by
  have HI := Lib.hid (info_key' _ hk)
  obtain ⟨B, hB⟩ : ∃ B, w.heap.size = B := ⟨_, rfl⟩
  have hle : B ≤ w.heap.size := Nat.le_of_eq hB.symm
  obtain ⟨w1, hw1⟩ : ∃ w1, w1 = w.alloc (.cells (dCells k) 23) := ⟨_, rfl⟩
  obtain ⟨wa, hwa⟩ : ∃ wa, wa = w1.alloc (.cells (dCells k) 23) := ⟨_, rfl⟩
  obtain ⟨w3, hw3⟩ : ∃ w3, w3 = wa.alloc (.cells #[.int .i64 0] 3) := ⟨_, rfl⟩
  have s1 : w1.heap.size = B + 1 := by rw [hw1, World.size_alloc, hB]
  have sa : wa.heap.size = B + 2 := by rw [hwa, World.size_alloc, s1]
  have s3 : w3.heap.size = B + 3 := by rw [hw3, World.size_alloc, sa]
  have b1 : Below w.heap.size w w1 := hw1 ▸ below_al w _
  have b2 : Below w1.heap.size w1 wa := hwa ▸ below_al w1 _
  have b3 : Below wa.heap.size wa w3 := hw3 ▸ below_al wa _
  have ra1 : w1.heap[B]? = some (.cells (dCells k) 23 (0, 0)) := by rw [hw1, ← hB]; exact heap_alloc_new w _
  have rsa : wa.heap[B + 1]? = some (.cells (dCells k) 23 (0, 0)) := by rw [hwa, ← s1]; exact heap_alloc_new w1 _
  have rv3 : w3.heap[B + 2]? = some (.cells #[.int .i64 0] 3 (0, 0)) := by rw [hw3, ← sa]; exact heap_alloc_new wa _
  have rs3 := row_below rsa b3
  have hb3 : Below w.heap.size w w3 := below_tr (below_tr b1 b2) b3
  have hz : 4 ≤ B + 1 := by have := he.size; omega
  have hc := collect_any k 0 (B + 1) (B + 1) (B + 2) w3 hk (by decide) (he.below hb3) hz (Nat.le_refl _) (by omega) (by omega) rs3 rv3
  have hr := rising_any k 0 w1
  have e3 : (w1.alloc (.cells (dCells k) 23)).alloc (.cells #[.int .i64 0] 3) = w3 := by rw [hw3, hwa]
  rw [s1, e3] at hr
  rw [s3] at hc
  rw [hB] at hb3 ⊢
  clear b1 b2 b3 rsa e3 hwa hw3 sa
  go_enter Tryd.func33, Tryd.ntmps33
  go_upto_region 1 with (fail)
  rw [← hw1]
  clear hw1 s1
  go_wp2_with (first
    | (refine wpList_load_row rfl 23 _ rfl B rfl 23 _ (0, 0) _ ra1 Tryd.underlying23 rfl HI.out ?_)
    | (go_at_call 66; refine hr.mono ?_; rintro e w4 ⟨rfl, h4⟩; obtain rfl := h4.symm)
    | (go_at_call 67; refine hc.mono ?_; rintro e w5 ⟨v5, rfl, ho5, hb5⟩))
  go_ret
  exact ⟨_, rfl, ho5.mono (by omega), hb3.trans (hb5.mono (by omega))⟩
end Chart

namespace Chart
open Go Go.RowKit Go.Shelf Go.Proofs
attribute [local go_sem] Oper.semAt_some

set_option maxHeartbeats 1000000 in
set_option maxRecDepth 100000 in
theorem sabove_err (k : List (BitVec 8)) (L : Int) (w : World) (hL : L < 0 ∨ 9 < L) :
    Calls Tryd.prog 30 #[.agg (dCells k), .int .i64 L] w fun e w' => e = .returned (.tuple #[.slice none 0 0, .int .i64 1]) ∧ Below w.heap.size w w' := by
  refine (callsIn_wide (n := 5)).1 ?_
  obtain ⟨B, hB⟩ : ∃ B, w.heap.size = B := ⟨_, rfl⟩
  obtain ⟨w1, hw1⟩ : ∃ w1, w1 = w.alloc (.cells (dCells k) 23) := ⟨_, rfl⟩
  obtain ⟨w2, hw2⟩ : ∃ w2, w2 = w1.alloc (.cells #[.slice none 0 0] 42) := ⟨_, rfl⟩
  have s1 : w1.heap.size = B + 1 := by rw [hw1, World.size_alloc, hB]
  have b1 : Below w.heap.size w w1 := hw1 ▸ below_al w _
  have b2 : Below w1.heap.size w1 w2 := hw2 ▸ below_al w1 _
  have rl2 : w2.heap[B + 1]? = some (.cells #[.slice none 0 0] 42 (0, 0)) := by rw [hw2, ← s1]; exact heap_alloc_new w1 _
  have hb2 : Below B w w2 := hB ▸ below_tr b1 b2
  rw [hB]
  clear b1 b2 s1
  have hcl := cell_of_row w2 (B + 1) 0 _ _ _ rl2
  have hfr := frozen_of_row w2 (B + 1) 0 _ _ rl2
  have r9 : (w2.setCell ⟨B + 1, 0, none⟩ (.slice none 0 0)).heap[B + 1]? = some (.cells #[.slice none 0 0] 42 (0, 0)) := by rw [heap_setCell_same _ _ _ _ _ _ rl2]; rfl
  have q9 : Below B w (w2.setCell ⟨B + 1, 0, none⟩ (.slice none 0 0)) := hb2.setCell (p := ⟨B + 1, 0, none⟩) (by show B ≤ B + 1; omega) _
  have c9 := cell_of_row _ (B + 1) 0 _ _ _ r9
  have HC := Lib.hid c9
  clear c9 r9 rl2 hb2
  rcases hL with h | h
  · refine callsIn_of_wp_marks Tryd.func30 rfl trivial ?_ rfl
    simp only [Tryd.ntmps30, List.size_toArray, List.length_cons, List.length_nil, Nat.reduceAdd, Nat.reduceSub, Array.replicate_succ, Array.replicate_zero, List.push_toArray, List.append_toArray, List.nil_append, List.cons_append]
    gi_upto_region 1 with (fail)
    rw [show (w.alloc (.cells (dCells k) 23)).alloc (.cells #[.slice none 0 0] 42) = w2 by rw [hw2, hw1]]
    clear hw1 hw2
    gi_wp2
    refine ⟨_, results_keys_tmp rfl _ _ ⟨B + 1, 0, none⟩ _ rfl HC.out, ?_⟩
    exact ⟨rfl, q9⟩
  · have h0 : ¬ L < 0 := by omega
    refine callsIn_of_wp_marks Tryd.func30 rfl trivial ?_ rfl
    simp only [Tryd.ntmps30, List.size_toArray, List.length_cons, List.length_nil, Nat.reduceAdd, Nat.reduceSub, Array.replicate_succ, Array.replicate_zero, List.push_toArray, List.append_toArray, List.nil_append, List.cons_append]
    gi_upto_region 1 with (fail)
    rw [show (w.alloc (.cells (dCells k) 23)).alloc (.cells #[.slice none 0 0] 42) = w2 by rw [hw2, hw1]]
    clear hw1 hw2
    gi_wp2
    refine ⟨_, results_keys_tmp rfl _ _ ⟨B + 1, 0, none⟩ _ rfl HC.out, ?_⟩
    exact ⟨rfl, q9⟩
end Chart

namespace Chart
open Go Go.RowKit Go.Proofs

theorem KR.addr {w : World} {a : Option Addr} {n c : Nat} {ks : List (List (BitVec 8))} (h : KR w (.slice a n c) ks) (h0 : ks ≠ []) : ∃ b off, a = Option.some ⟨b, off, none⟩ ∧ n ≤ maxLen ∧ w.rangeAt b off (flatK ks) ∧ b < w.heap.size := by
  obtain ⟨b, off, q, hq, hle, hml, hr, hb⟩ := h.some h0
  cases hq
  exact ⟨b, off, rfl, Nat.le_trans hle hml, hr, hb⟩
theorem rangeAt_dN {w : World} {b o : Nat} {cs : List Value} (h : w.rangeAt b o cs) (n : Nat) : (w.drewN n).rangeAt b o cs := h

theorem info_len (l : List (BitVec 8)) (h : l.length = 32) : (Tryd.prog.info? 23).map (·.size) = some (l.map B8).length := by
  rw [List.length_map, h]; kernel_rfl

section
variable {P : Program} {ops : Array Oper} {rest : List Oper} {o : Oper} {a : Act} {C : World → Prop} {Q : Act → Prop}
/-- A key amid a row, the same in every world of the class. -/
theorem wpQuiet_load_mid (hw : Region.wanted o (yielded ops a.tmps) = true) (ty : TypeId) (x : Operand) (ho : o.op = .load ty x)
    (b off : Nat) (hx : a.eval x = .pointer (some ⟨b, off, none⟩)) (cs : List Value) (d : TypeDesc) (hg : ∀ w, C w → w.rangeAt b off cs)
    (hu : P.underlying ty = some d) (hd : d.isRow = true) (hi : (P.info? ty).map (·.size) = some cs.length)
    (h : wpQuiet P ops C Q rest (a.put o.dst (.agg cs.toArray))) : wpQuiet P ops C Q (o :: rest) a := by
  refine wpQuiet_step fun K hK => ?_
  rw [if_pos hw]
  refine ⟨.agg cs.toArray, fun w hw => ?_, hK _ h⟩
  unfold Oper.quietAt execOp
  simp only [ho, hx, Instr.loadAt, Instr.sureAddr, Sem.run_bind, Sem.run_pure, Result.andThen_ok, run_loadVar_mid w b off ty cs d (hg w hw) hu hd hi]
  exact ⟨rfl, rfl⟩
end

set_option maxHeartbeats 2000000 in
set_option maxRecDepth 100000 in
theorem refsame_any (v v' : Value) (ks ks' : List (List (BitVec 8))) (w : World) (h : KR w v ks) (h' : KR w v' ks') :
    Calls Tryd.prog 32 #[v, v'] w fun e w' => e = .returned (.bool (decide (ks = ks'))) ∧ ∃ n, w' = w.drewN n := by
  obtain ⟨a, c, rfl⟩ := h.form
  obtain ⟨a', c', rfl⟩ := h'.form
  obtain ⟨n, hn⟩ : ∃ n : Nat, ks.length = n := ⟨_, rfl⟩
  obtain ⟨n', hn'⟩ : ∃ n : Nat, ks'.length = n := ⟨_, rfl⟩
  rw [hn] at h ⊢
  rw [hn'] at h' ⊢
  by_cases hnn : n = n'
  · subst hnn
    have HN := Lib.hid hn; have HN' := Lib.hid hn'
    go_enter Tryd.func32, Tryd.ntmps32
    go_wp2_with fail
    go_loopw [5] (fun s wr => ∃ i : Nat, i ≤ n ∧ s = .int .i64 (i : Int) ∧ ks.take i = ks'.take i ∧ ∃ m, wr = w.drewN m) (fun s _ => n - (intOf s).toNat)
    case atStart => exact ⟨0, Nat.zero_le _, rfl, rfl, 0, rfl⟩
    case round =>
      obtain ⟨i, hi, rfl, htk, m, rfl⟩ := hrel
      by_cases hlt : i < n
      · obtain ⟨b, off, rfl, hml, hr, hb⟩ := h.addr (fun e => by rw [e] at hn; simp at hn; omega)
        obtain ⟨b', off', rfl, -, hr', hb'⟩ := h'.addr (fun e => by rw [e] at hn'; simp at hn'; omega)
        obtain ⟨x, hx⟩ : ∃ x, ks[i]? = some x := ⟨_, List.getElem?_eq_getElem (by omega)⟩
        obtain ⟨x', hx'⟩ : ∃ x, ks'[i]? = some x := ⟨_, List.getElem?_eq_getElem (by omega)⟩
        have hxl : x.length = 32 := h.1 x (List.mem_of_getElem? hx)
        have hxl' : x'.length = 32 := h'.1 x' (List.mem_of_getElem? hx')
        have rx := range_key h.1 hr hx
        have rx' := range_key h'.1 hr' hx'
        obtain ⟨I, hI⟩ : ∃ I : Int, (i : Int) = I := ⟨_, rfl⟩
        have hI0 : 0 ≤ I := by omega
        have hIn : I < (n : Int) := by omega
        have hI2 : I < 9223372036854775807 := by unfold maxLen at hml; omega
        clear hml
        rw [show i = I.toNat by omega] at rx rx'
        have HIx := Lib.hid (info_len _ hxl); have HIx' := Lib.hid (info_len _ hxl')
        have hG := eqG_key
        have HTK := Lib.hid htk
        have HX := Lib.hid hx; have HX' := Lib.hid hx'
        have HI := Lib.hid hI
        rw [hI]
        have hq : ∀ w', (∃ q, w' = (w.drewN m).drewN q) → w'.rangeAt b (off + I.toNat * 32) (x.map B8) ∧ w'.rangeAt b' (off' + I.toNat * 32) (x'.map B8) := fun w' ⟨q, e⟩ => by rw [e]; exact ⟨rx, rx'⟩
        have HQ := Lib.hid hq
        have eqx := eqIn_key x x' hxl hxl'
        clear htk hx hx' hI rx rx' hq
        by_cases hxx : x = x'
        · have eqx2 : ∀ w, (Op.equalIn 10000 23 (.agg (dCells x)) (.agg (dCells x'))).run Tryd.prog w = .ok true w := fun w => (eqx w).trans (by rw [decide_eq_true hxx])
          clear eqx
          have HXX := Lib.hid hxx
          clear hxx
          go_wp2_with fail
          refine wp_region_quiet_lit (by kernel_rfl) (by kernel_rfl) ?_
          quiet_step (fail)
          quiet_step (fail)
          quiet_step (fail)
          refine wpQuiet_load_mid rfl 23 _ rfl b _ rfl _ _ (fun w' h => (HQ.out w' h).1) Tryd.underlying23 rfl HIx.out ?_
          rw [show (x.map B8).toArray = dCells x from rfl]
          quiet_step (fail)
          quiet_step (fail)
          quiet_step (fail)
          refine wpQuiet_load_mid rfl 23 _ rfl b' _ rfl _ _ (fun w' h => (HQ.out w' h).2) Tryd.underlying23 rfl HIx'.out ?_
          rw [show (x'.map B8).toArray = dCells x' from rfl]
          quiet_step (fail)
          refine wpQuiet_nil ?_
          rintro _ ⟨m2, rfl⟩
          generalize dCells x = cx at *
          generalize dCells x' = cx' at *
          go_wp2_with fail
          go_roundw
          case rel => exact ⟨i + 1, by have := HI.out; omega, by rw [← HI.out]; rfl, by rw [List.take_add_one, List.take_add_one, HTK.out, HX.out, HX'.out, HXX.out], m + m2, by simp⟩
          case measure => simp only [intOf]; have := HI.out; omega
        · have eqx2 : ∀ w, (Op.equalIn 10000 23 (.agg (dCells x)) (.agg (dCells x'))).run Tryd.prog w = .ok false w := fun w => (eqx w).trans (by rw [decide_eq_false hxx])
          clear eqx
          have HE := Lib.hid (decide_eq_false (show ¬ ks = ks' from fun e => by subst e; exact hxx (Option.some.inj (HX.out.symm.trans HX'.out))))
          have HXX := Lib.hid hxx
          clear hxx
          go_wp2_with fail
          refine wp_region_quiet_lit (by kernel_rfl) (by kernel_rfl) ?_
          quiet_step (fail)
          quiet_step (fail)
          quiet_step (fail)
          refine wpQuiet_load_mid rfl 23 _ rfl b _ rfl _ _ (fun w' h => (HQ.out w' h).1) Tryd.underlying23 rfl HIx.out ?_
          rw [show (x.map B8).toArray = dCells x from rfl]
          quiet_step (fail)
          quiet_step (fail)
          quiet_step (fail)
          refine wpQuiet_load_mid rfl 23 _ rfl b' _ rfl _ _ (fun w' h => (HQ.out w' h).2) Tryd.underlying23 rfl HIx'.out ?_
          rw [show (x'.map B8).toArray = dCells x' from rfl]
          quiet_step (fail)
          refine wpQuiet_nil ?_
          rintro _ ⟨m2, rfl⟩
          generalize dCells x = cx at *
          generalize dCells x' = cx' at *
          go_wp2_with fail
          go_ret
          exact ⟨by rw [HE.out]; rfl, m + m2, by simp⟩
      · obtain rfl : i = n := by omega
        have heq : ks = ks' := by
          rw [List.take_of_length_le (by omega), List.take_of_length_le (by omega)] at htk
          exact htk
        have HE := Lib.hid (decide_eq_true heq)
        clear heq hlt htk
        go_wp2
        go_ret
        exact ⟨by rw [HE.out]; rfl, m, rfl⟩
  · have hne : ks ≠ ks' := fun e => by subst e; exact hnn (hn.symm.trans hn')
    have hz : ¬ (n : Int) = (n' : Int) := by omega
    have HE := Lib.hid (decide_eq_false hne)
    clear hne hnn
    go_enter Tryd.func32, Tryd.ntmps32
    go_wp2
    go_ret
    exact ⟨by rw [HE.out]; exact congrArg (fun b => Ending.returned (.bool b)) rfl, 0, rfl⟩
end Chart
