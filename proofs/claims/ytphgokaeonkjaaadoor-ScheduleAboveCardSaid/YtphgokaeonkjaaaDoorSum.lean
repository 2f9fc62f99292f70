/- digest.Sum is SHA-256. -/
import Derived.Test.YtphgokaeonkjaaaDoorPut
import Derived.Deep.DeepCutAuto
namespace Chart
open Go Go.RowKit Go.Proofs

/-- A value that is a slice of bytes which reads as a list. -/
def BS (w : World) (v : Value) (l : List (BitVec 8)) : Prop :=
  (v = .slice none 0 0 ∧ l = []) ∨ ∃ b off cap, v = .slice (some ⟨b, off, none⟩) l.length cap ∧ l.length ≤ cap ∧ cap ≤ maxLen ∧ BytesAt w b off l ∧ b < w.heap.size

theorem BS.below {w w' : World} {v : Value} {l : List (BitVec 8)} (h : BS w v l) (hb : Below w.heap.size w w') : BS w' v l := by
  rcases h with ⟨h1, h2⟩ | ⟨b, off, cap, h1, h2, h3, h4, h5⟩
  · exact .inl ⟨h1, h2⟩
  · exact .inr ⟨b, off, cap, h1, h2, h3, h4.grown (World.grownBy.of_below hb none) (by simp), Nat.lt_of_lt_of_le h5 hb.size⟩

/-- .. and that is not nil. -/
def SB (w : World) (v : Value) (l : List (BitVec 8)) : Prop :=
  ∃ b off cap, v = .slice (some ⟨b, off, none⟩) l.length cap ∧ l.length ≤ cap ∧ cap ≤ maxLen ∧ BytesAt w b off l ∧ b < w.heap.size
theorem SB.bs {w : World} {v : Value} {l : List (BitVec 8)} (h : SB w v l) : BS w v l := .inr h
theorem SB.below {w w' : World} {v : Value} {l : List (BitVec 8)} (h : SB w v l) (hb : Below w.heap.size w w') : SB w' v l := by
  obtain ⟨b, off, cap, h1, h2, h3, h4, h5⟩ := h
  exact ⟨b, off, cap, h1, h2, h3, h4.grown (World.grownBy.of_below hb none) (by simp), Nat.lt_of_lt_of_le h5 hb.size⟩

/-- What SHA-256's tables hold. -/
structure ShaEnv (w : World) : Prop where
  nums : Nums w
  start : ∀ j, j < 8 → w.cell? ⟨0, j, none⟩ = some (B32 (St.init.get j))
  size : 4 ≤ w.heap.size

theorem ShaEnv.grown {w w' : World} {row : Option Nat} (h : ShaEnv w) (hg : w.grownBy w' row) (hr : ∀ k, row = some k → 4 ≤ k) : ShaEnv w' :=
  ⟨h.nums.grown hg (fun e => by have := hr _ e; omega), fun j hj => hg.cell (h.start j hj) (fun e => by have := hr _ e.symm; simp at this), Nat.le_trans h.size hg.size⟩
theorem ShaEnv.below {w w' : World} (h : ShaEnv w) (hb : Below w.heap.size w w') : ShaEnv w' := h.grown (World.grownBy.of_below hb none) (by simp)

/-- A digest, as a value. -/
def dCells (l : List (BitVec 8)) : Array Value := (l.map B8).toArray

def zrow (n : Nat) : Array Value := (List.replicate n (Value.int .u8 0)).toArray
theorem zrow_eq (n : Nat) : zrow n = ((List.replicate n (0#8)).map B8).toArray := by unfold zrow; rw [List.map_replicate]; rfl

theorem mk128 (w : World) : (Instr.makeSlice 32 (.int .i64 64) (.int .i64 128)).run Tryd.prog w = .ok (.slice (some ⟨w.heap.size, 0, none⟩) 64 128) (w.alloc (.cells (zrow 128) 5)) := by kernel_rfl

theorem zdrop (n : Nat) (L : List (BitVec 8)) : (List.take 0 (zrow n).toList ++ L.map B8 ++ List.drop (0 + L.length) (zrow n).toList).toArray = ((L ++ List.replicate (n - L.length) 0#8).map B8).toArray := by
  rw [zrow_eq]; simp

theorem ofNat_u64 (n : Nat) : IntKind.u64.wrap (IntKind.u64.wrap (n : Int) * 8) = U64 (BitVec.ofNat 64 (n * 8)) := by
  rw [wrap_u64_mod, wrap_u64_mod]; unfold U64; rw [BitVec.toNat_ofNat]; omega

/-- What the end holds when its length is written: the tail of the padded bytes, and zeros. -/
theorem tail_short (r : List (BitVec 8)) (n : Nat) (h : r.length ≤ 55) :
    splice ((r ++ [128#8] ++ List.replicate (127 - r.length) 0#8).map B8).toArray 56 ((beN 8 (BitVec.ofNat 64 (n * 8))).map B8) = ((tailOf r n ++ List.replicate 64 0#8).map B8).toArray := by
  rw [splice_map, beN8, length_be64]
  unfold tailOf
  have e1 : (119 - r.length) % 64 = 55 - r.length := by omega
  have e2 : 127 - r.length = (55 - r.length) + 72 := by omega
  have hl : (r ++ [128#8] ++ List.replicate (55 - r.length) 0#8).length = 56 := by simp; omega
  rw [e1, e2, ← List.replicate_append_replicate, ← List.append_assoc (r ++ [128#8]), List.take_append_of_le_length (by omega), List.take_of_length_le (by omega), List.drop_append, hl]
  have : List.drop (56 + 8) (r ++ [128#8] ++ List.replicate (55 - r.length) 0#8) = [] := List.drop_of_length_le (by omega)
  rw [this, List.nil_append, List.drop_replicate]
theorem tail_long (r : List (BitVec 8)) (n : Nat) (h : ¬ r.length ≤ 55) (h2 : r.length < 64) :
    splice ((r ++ [128#8] ++ List.replicate (127 - r.length) 0#8).map B8).toArray 120 ((beN 8 (BitVec.ofNat 64 (n * 8))).map B8) = ((tailOf r n).map B8).toArray := by
  rw [splice_map, beN8, length_be64]
  unfold tailOf
  have e1 : (119 - r.length) % 64 = 119 - r.length := by omega
  have e2 : 127 - r.length = (119 - r.length) + 8 := by omega
  have hl : (r ++ [128#8] ++ List.replicate (119 - r.length) 0#8).length = 120 := by simp; omega
  rw [e1, e2, ← List.replicate_append_replicate, ← List.append_assoc (r ++ [128#8]), List.take_append_of_le_length (by omega), List.take_of_length_le (by omega), List.drop_append, hl]
  have : List.drop (120 + 8) (r ++ [128#8] ++ List.replicate (119 - r.length) 0#8) = [] := List.drop_of_length_le (by omega)
  rw [this, List.nil_append, List.drop_replicate]
  simp

/-- The digest's cells while it is written. -/
def outTo (s : St) (k : Nat) : Array Value := ((s.out.take (4 * k) ++ List.replicate (32 - 4 * k) 0#8).map B8).toArray
theorem out_take (s : St) (k : Nat) (h : k < 8) : s.out.take (4 * (k + 1)) = s.out.take (4 * k) ++ be32 (s.get k) := by
  match k, h with
  | 0, _ => rfl
  | 1, _ => rfl
  | 2, _ => rfl
  | 3, _ => rfl
  | 4, _ => rfl
  | 5, _ => rfl
  | 6, _ => rfl
  | 7, _ => rfl
theorem outTo_step (s : St) (k : Nat) (h : k < 8) : splice (outTo s k) (4 * k) ((beN 4 ((s.get k).setWidth 64)).map B8) = outTo s (k + 1) := by
  unfold outTo
  have hl : (s.out.take (4 * k)).length = 4 * k := by rw [List.length_take, length_out]; omega
  rw [splice_map, beN4, length_be32, out_take s k h, List.take_append_of_le_length (by omega), List.take_of_length_le (l := s.out.take (4 * k)) (by omega), List.drop_append, hl]
  have : List.drop (4 * k + 4) (s.out.take (4 * k)) = [] := List.drop_of_length_le (by omega)
  rw [this, List.nil_append, List.drop_replicate]
  congr 4
  omega
theorem outTo_size (s : St) (k : Nat) (h : k ≤ 8) : (outTo s k).size = 32 := by unfold outTo; simp [length_out]; omega
theorem outTo_all (s : St) : outTo s 8 = dCells s.out := by
  unfold outTo dCells; rw [List.take_of_length_le (by rw [length_out]; omega)]; simp
theorem outTo_zero (s : St) : outTo s 0 = zrow 32 := by unfold outTo; rw [zrow_eq]; simp

theorem index_state (s : St) (k : Nat) (h : k < 8) (w : World) :
    (Instr.index 88 (.agg #[B32 s.a, B32 s.b, B32 s.c, B32 s.d, B32 s.e, B32 s.f, B32 s.g, B32 s.h]) (.int .i64 k)).run Tryd.prog w = .ok (B32 (s.get k)) w := by
  match k, h with
  | 0, _ => show _ = _; kernel_rfl
  | 1, _ => show _ = _; kernel_rfl
  | 2, _ => show _ = _; kernel_rfl
  | 3, _ => show _ = _; kernel_rfl
  | 4, _ => show _ = _; kernel_rfl
  | 5, _ => show _ = _; kernel_rfl
  | 6, _ => show _ = _; kernel_rfl
  | 7, _ => show _ = _; kernel_rfl

theorem bytes_ne_state {w : World} {b off : Nat} {x : BitVec 8} {s : St} {t : TypeId} {fr : Nat × Nat} (h : w.cell? ⟨b, off, none⟩ = some (B8 x)) (hs : w.heap[b]? = some (.cells (stCells s) t fr)) : False := by
  rw [cell_of_row w b off _ _ _ hs] at h
  by_cases ho : off < 8
  · rw [stCells_get s off ho] at h
    simp at h
  · rw [Array.getElem?_eq_none (by show 8 ≤ off; omega)] at h
    cases h

def lenV : Value → Nat
  | .slice _ n _ => n
  | _ => 0

set_option maxHeartbeats 1000000 in
set_option maxRecDepth 100000 in
theorem sum_some (v : Value) (l : List (BitVec 8)) (w : World) (hv : SB w v l) (he : ShaEnv w) :
    Calls Tryd.prog 27 #[v] w fun e w' => e = .returned (.agg (dCells (sha l))) ∧ Below w.heap.size w w' := by
  have st := he.start
  have st' : ∀ j, j < 8 → ∀ o, (w.alloc o).cell? ⟨0, j, none⟩ = some (B32 (St.init.get j)) := fun j hj o => by
    rw [World.cell?_alloc_lt _ _ _ (by have := he.size; show 0 < w.heap.size; omega)]; exact st j hj
  have s0 := st' 0 (by omega); have s1 := st' 1 (by omega); have s2 := st' 2 (by omega); have s3 := st' 3 (by omega)
  have s4 := st' 4 (by omega); have s5 := st' 5 (by omega); have s6 := st' 6 (by omega); have s7 := st' 7 (by omega)
  clear st st'
  obtain ⟨b0, off0, cap0, rfl, hcap0, hm0, hby0, hlb0⟩ := id hv
  obtain ⟨bd, hbd⟩ : ∃ bd, w.heap.size = bd := ⟨_, rfl⟩
  have hsz := he.size
  rw [hbd] at hsz
  go_enter Tryd.func27, Tryd.ntmps27
  go_wp2
  go_loopw [5] (fun t wr => ∃ n : Nat, 64 * n ≤ l.length ∧ SB wr t (l.drop (64 * n)) ∧ w.grownBy wr none ∧ wr.heap[bd]? = some (.cells (zrow 32) 38 (0, 0)) ∧
      wr.heap[bd + 1]? = some (.cells (stCells (St.init.blocks l n)) 88 (0, 0))) (fun t _ => lenV t)
  case atStart =>
    refine ⟨0, by omega, ?_, ((World.grownBy.rf w none).al _).al _, ?_, ?_⟩
    · exact (hv.below (((Below.refl _ w).alloc (Nat.le_refl _) _).alloc (by simp) _))
    · rw [← hbd]; exact (Below.heap_alloc _ _ _ (by simp)).trans (heap_alloc_new w _)
    · rw [← hbd]; have := heap_alloc_new (w.alloc (.cells #[Value.int IntKind.u8 0, Value.int IntKind.u8 0, Value.int IntKind.u8 0, Value.int IntKind.u8 0,
          Value.int IntKind.u8 0, Value.int IntKind.u8 0, Value.int IntKind.u8 0, Value.int IntKind.u8 0,
          Value.int IntKind.u8 0, Value.int IntKind.u8 0, Value.int IntKind.u8 0, Value.int IntKind.u8 0,
          Value.int IntKind.u8 0, Value.int IntKind.u8 0, Value.int IntKind.u8 0, Value.int IntKind.u8 0,
          Value.int IntKind.u8 0, Value.int IntKind.u8 0, Value.int IntKind.u8 0, Value.int IntKind.u8 0,
          Value.int IntKind.u8 0, Value.int IntKind.u8 0, Value.int IntKind.u8 0, Value.int IntKind.u8 0,
          Value.int IntKind.u8 0, Value.int IntKind.u8 0, Value.int IntKind.u8 0, Value.int IntKind.u8 0,
          Value.int IntKind.u8 0, Value.int IntKind.u8 0, Value.int IntKind.u8 0, Value.int IntKind.u8 0] 38)) (.cells (stCells St.init) 88)
      rw [World.size_alloc] at this; exact this
  case round =>
    clear s0 s1 s2 s3 s4 s5 s6 s7
    obtain ⟨n, hn, hbs, hg, hd, hs⟩ := hrel
    obtain ⟨L, hL⟩ : ∃ L, l.drop (64 * n) = L := ⟨_, rfl⟩
    have hLl : l.length = 64 * n + L.length := by rw [← hL]; simp; omega
    rw [hL] at hbs
    by_cases hlt : 64 ≤ L.length
    · obtain ⟨b, off, cap, rfl, hcap, hm, hby, hlb⟩ := hbs
      have hm' := hm
      unfold maxLen at hm'
      have hnums := (he.grown hg (by simp)).nums
      have hLd : l.drop (64 * (n + 1)) = L.drop 64 := by rw [← hL, List.drop_drop]; congr 1
      have hnb : St.init.blocks l (n + 1) = (St.init.blocks l n).compress (L.take 64) := by rw [St.blocks, hL]
      have hdl : (L.drop 64).length = L.length - 64 := by simp
      have HD := Lib.hid hLd; have HB := Lib.hid hnb; have HDL := Lib.hid hdl; have HL := Lib.hid hLl
      clear hLd hnb hdl hL hLl
      have l64 : (64 : Int) ≤ (L.length : Int) := by omega
      have hszr : bd + 1 < wr.heap.size := (Array.getElem?_eq_some_iff.1 hs).1
      go_wp2_with fail
      refine (absorb_any (bd + 1) b off cap _ (L.take 64) wr hs (by simp; omega) (hby.take 64) (by omega) hm hnums).mono ?_
      rintro e w1 ⟨rfl, hg1, hs1⟩
      have hg2 : w.grownBy w1 none := ⟨hg1.os.trans hg.os, hg1.tape.trans hg.tape, hg1.output.trans hg.output, Nat.le_trans hg.size hg1.size, fun i hi _ =>
        (hg1.block i (Nat.lt_of_lt_of_le hi hg.size) (by simp; omega)).trans (hg.block i hi (by simp))⟩
      have hd1 : w1.heap[bd]? = some (.cells (zrow 32) 38 (0, 0)) := (hg1.block bd (by omega) (by simp)).trans hd
      have hbne : b ≠ bd + 1 := by
        rintro rfl
        obtain ⟨x, hx⟩ : ∃ x, L[0]? = some x := ⟨L[0]'(by omega), by simp⟩
        exact bytes_ne_state (hby 0 x hx) hs
      have hby1 := (hby.drop 64).grown hg1 (by simp; omega)
      have hlb1 : b < w1.heap.size := Nat.lt_of_lt_of_le hlb hg1.size
      by_cases hcap64 : cap = 64
      · subst hcap64
        have hL64 : L.length = 64 := by omega
        go_wp2_with fail
        go_roundw
        case rel =>
          refine ⟨n + 1, by have := HL.out; omega, ⟨b, off, 0, ?_, by rw [HD.out, HDL.out]; omega, by unfold maxLen; omega, ?_, hlb1⟩, hg2, hd1, by rw [HB.out]; exact hs1⟩
          · rw [HD.out, HDL.out, hL64]
          · rw [HD.out, List.drop_of_length_le (by omega)]; intro j x hx; simp at hx
        case measure => simp [lenV]; omega
      · go_wp2_with fail
        go_roundw
        case rel =>
          refine ⟨n + 1, by have := HL.out; omega, ⟨b, off + 64, cap - 64, ?_, by rw [HD.out, HDL.out]; omega, by unfold maxLen; omega, by rw [HD.out]; exact hby1, hlb1⟩, hg2, hd1, by rw [HB.out]; exact hs1⟩
          rw [HD.out, HDL.out]
        case measure => simp [lenV]; omega
    · have hn64 : l.length / 64 = n := by omega
      have hsz1 : bd + 1 < wr.heap.size := (Array.getElem?_eq_some_iff.1 hs).1
      have hmk := mk128
      obtain ⟨b, off, cap, rfl, hcap, hm, hby, hlb⟩ := hbs
      have hm' := hm
      unfold maxLen at hm'
      have hlt' : ¬ ((64 : Int) ≤ (L.length : Int)) := by omega
      obtain ⟨be, hbe⟩ : ∃ be, wr.heap.size = be := ⟨_, rfl⟩
      have hX : (wr.alloc (.cells (zrow 128) 5)).heap[be]? = some (.cells (zrow 128) 5 (0, 0)) := by rw [← hbe]; exact heap_alloc_new wr _
      have hcp := run_copy_row Tryd.prog (wr.alloc (.cells (zrow 128) 5)) 32 32 3 5 be 0 64 128 ⟨b, off, none⟩ L.length cap (zrow 128) 5 (L.map B8)
        Tryd.underlying32 (by kernel_rfl) hX (by rw [List.length_map]; exact (Nat.min_eq_left (by omega)).symm) (by
          intro j x hx
          rw [List.getElem?_map] at hx
          cases hx' : L[j]? with
          | none => rw [hx'] at hx; cases hx
          | some y =>
            rw [hx'] at hx; cases hx
            have := hby j y hx'
            have e : (⟨b, off, none⟩ : Addr).add j = ⟨b, off + j, none⟩ := by unfold Addr.add; split <;> simp_all
            rw [e]
            exact (World.cell?_alloc_lt _ _ _ hlb).trans this) (by simp [zrow]; omega) (by intro x hx; simp at hx; obtain ⟨y, _, rfl⟩ := hx; rfl)
      have hcl : (L.map B8).length = L.length := by simp
      rw [hcl] at hcp
      have hA := zdrop 128 L
      rw [hA] at hcp
      obtain ⟨W2, hW2⟩ : ∃ W2, (wr.alloc (.cells (zrow 128) 5)).setRow be ((L ++ List.replicate (128 - L.length) 0#8).map B8).toArray = W2 := ⟨_, rfl⟩
      rw [hW2] at hcp
      have h2 : W2.heap[be]? = some (.cells ((L ++ List.replicate (128 - L.length) 0#8).map B8).toArray 5 (0, 0)) := by rw [← hW2]; exact setRow_heap _ _ _ _ _ _ hX
      have hg2 : wr.grownBy W2 none := by
        rw [← hW2]
        exact ⟨rfl, rfl, rfl, by simp, fun i hi _ => by rw [setRow_other _ _ _ _ (by omega)]; exact Below.heap_alloc _ _ _ hi⟩
      have hc2 : W2.cell? ⟨be, L.length, none⟩ = some (.int .u8 0) := by
        rw [cell_of_row W2 be _ _ _ _ h2, List.getElem?_toArray, List.getElem?_map, List.getElem?_append_right (by omega), List.getElem?_replicate, if_pos (by omega)]; rfl
      have hf2 : W2.frozen? ⟨be, L.length, none⟩ = false := frozen_of_row W2 be _ _ _ h2
      have hd2 : W2.heap[bd]? = some (.cells (zrow 32) 38 (0, 0)) := (hg2.block bd (by omega) (by simp)).trans hd
      have hs2 : W2.heap[bd + 1]? = some (.cells (stCells (St.init.blocks l n)) 88 (0, 0)) := (hg2.block (bd + 1) (by omega) (by simp)).trans hs
      have hg3 : w.grownBy W2 none := hg.tr hg2
      have h3 : (W2.setCell ⟨be, L.length, none⟩ (.int .u8 128)).heap[be]? = some (.cells ((L ++ [128#8] ++ List.replicate (127 - L.length) 0#8).map B8).toArray 5 (0, 0)) := by
        rw [heap_setCell_same _ _ _ _ _ _ h2, show Value.int .u8 128 = B8 128#8 from rfl, set_map]
        congr 4
        rw [List.set_append_right _ _ (by omega), show 128 - L.length = (127 - L.length) + 1 by omega, List.replicate_succ]
        simp
      have hszb : be < W2.heap.size := (Array.getElem?_eq_some_iff.1 h2).1
      have HN := Lib.hid hn64; have HL := Lib.hid hLl; have HLD := Lib.hid hL
      clear hn64 hLl hL h2 hg2 hX hcl hA hW2 hby hby0 hs hd hg
      have i55 : (L.length : Int) < 64 := by omega
      have hx8 := ofNat_u64 l.length
      go_upto_if 31 with (fail)
      go_cut [6] (fun t6 wx => wx = W2.setCell ⟨be, L.length, none⟩ (.int .u8 128) ∧ ∃ m : Nat, (m = 1 ∧ L.length ≤ 55 ∨ m = 2 ∧ ¬ L.length ≤ 55) ∧ t6 = .slice (some ⟨be, 0, none⟩) (64 * m) 128)
      case first =>
        by_cases h55 : L.length ≤ 55
        · have h55' : (L.length : Int) ≤ 55 := by omega
          go_wp2_with fail
          go_meet
          exact ⟨rfl, 1, .inl ⟨rfl, h55⟩, rfl⟩
        · have h55' : (55 : Int) < (L.length : Int) := by omega
          go_wp2_with fail
          go_meet
          exact ⟨rfl, 2, .inr ⟨rfl, h55⟩, rfl⟩
      case rest =>
        obtain ⟨rfl, m, hm12, rfl⟩ := hcut
        have hm1 : 1 ≤ m := by omega
        have hm2 : m ≤ 2 := by omega
        obtain ⟨E, hE⟩ : ∃ E, tailOf L l.length = E := ⟨_, rfl⟩
        have hEl : E.length = 64 * m := by
          rw [← hE, tail_length L _ (by omega)]
          split <;> omega
        obtain ⟨Z, hZ⟩ : ∃ Z, splice ((L ++ [128#8] ++ List.replicate (127 - L.length) 0#8).map B8).toArray (64 * m - 8) ((beN 8 (BitVec.ofNat 64 (l.length * 8))).map B8) = ((E ++ Z).map B8).toArray := by
          rcases hm12 with ⟨rfl, h5⟩ | ⟨rfl, h5⟩
          · exact ⟨_, by rw [← hE]; exact tail_short L l.length h5⟩
          · exact ⟨[], by rw [← hE, List.append_nil]; exact tail_long L l.length h5 (by omega)⟩
        have hput := put_any be (64 * m - 8) 8 (128 - (64 * m - 8)) _ 5 (BitVec.ofNat 64 (l.length * 8)) _ h3 (by omega) (by simp; omega)
        rw [hZ] at hput
        have HM := Lib.hid hm12; have HE := Lib.hid hE; have HEL := Lib.hid hEl; have HP := Lib.hid hput
        clear hm12 hE hEl hput hZ h3
        have k1 : (1 : Int) ≤ (m : Int) := by omega
        have k2 : (m : Int) ≤ 2 := by omega
        have k8 : (64 * (m : Int) - 8).toNat = 64 * m - 8 := by omega
        have k9 : (8 : Int) ≤ 64 * (m : Int) := by omega
        have k10 : 64 * (m : Int) - 8 ≤ 64 * (m : Int) := by omega
        go_wp2_with fail
        rw [show 64 * m - (64 * m - 8) = 8 by omega]
        refine HP.out.mono ?_
        rintro e W4 ⟨rfl, hg4, hE4⟩
        have hbdbe : bd + 1 < be := by have := hbe; omega
        have hW4 : w.grownBy W4 none := (hg3.set be L.length (.int .u8 128) (.inl (by omega))).own hg4 (by omega)
        have hd4 : W4.heap[bd]? = some (.cells (zrow 32) 38 (0, 0)) := by
          rw [hg4.block bd (by simp; omega) (by simp; omega), heap_setCell_other _ _ _ _ (by show bd ≠ be; omega)]; exact hd2
        have hs4 : W4.heap[bd + 1]? = some (.cells (stCells (St.init.blocks l n)) 88 (0, 0)) := by
          rw [hg4.block (bd + 1) (by simp; omega) (by simp; omega), heap_setCell_other _ _ _ _ (by show bd + 1 ≠ be; omega)]; exact hs2
        clear HP hd2 hs2 hc2 hf2 hg4
        obtain ⟨S0, hS0⟩ : ∃ S0, St.init.blocks l n = S0 := ⟨_, rfl⟩
        rw [hS0] at hs4
        have HS0 := Lib.hid hS0
        clear hS0
        go_wp2_with fail
        go_loopw [6] (fun t wx => ∃ k : Nat, k ≤ m ∧ (∃ o, t = .slice (some ⟨be, o, none⟩) (64 * (m - k)) (128 - 64 * k) ∧ (k < m → o = 64 * k)) ∧ w.grownBy wx none ∧
            wx.heap[be]? = some (.cells ((E ++ Z).map B8).toArray 5 (0, 0)) ∧ wx.heap[bd]? = some (.cells (zrow 32) 38 (0, 0)) ∧
            wx.heap[bd + 1]? = some (.cells (stCells (S0.blocks E k)) 88 (0, 0))) (fun t _ => lenV t)
        case atStart => exact ⟨0, by omega, ⟨0, rfl, fun _ => rfl⟩, hW4, hE4, hd4, hs4⟩
        case round =>
          clear hW4 hE4 hd4 hs4
          obtain ⟨k, hk, ⟨o, rfl, ho⟩, hg, hE, hd, hs⟩ := hrel
          by_cases hkm : k < m
          · obtain rfl := ho hkm
            have hby := ((BytesAt.of_row hE).drop (64 * k)).take 64
            have hEk : ((E ++ Z).drop (64 * k)).take 64 = (E.drop (64 * k)).take 64 := by
              have := HEL.out
              rw [List.drop_append_of_le_length (by omega), List.take_append_of_le_length (by simp; omega)]
            rw [hEk, Nat.zero_add] at hby
            have hl64 : ((E.drop (64 * k)).take 64).length = 64 := by have := HEL.out; simp; omega
            have hnums := (he.grown hg (by simp)).nums
            have habs := absorb_any (bd + 1) be (64 * k) (128 - 64 * k) _ ((E.drop (64 * k)).take 64) wr hs hl64 hby (by omega) (by unfold maxLen; omega) hnums
            have HA := Lib.hid habs
            clear habs hby hEk hl64 ho
            have q1 : (0 : Int) < 64 * ((m - k : Nat) : Int) := by omega
            have q2 : 64 ≤ 128 - 64 * k := by omega
            have q3 : (64 : Int) ≤ ((128 - 64 * k : Nat) : Int) := by omega
            have q4 : (64 : Int) ≤ 64 * ((m - k : Nat) : Int) := by omega
            go_wp2_with fail
            refine HA.out.mono ?_
            rintro e w5 ⟨rfl, hg5, hs5⟩
            have hbr : bd + 1 < wr.heap.size := (Array.getElem?_eq_some_iff.1 hs).1
            have hgr : w.grownBy w5 none := hg.own hg5 (by omega)
            have hEr : w5.heap[be]? = some (.cells ((E ++ Z).map B8).toArray 5 (0, 0)) := (hg5.block be (Array.getElem?_eq_some_iff.1 hE).1 (by simp; omega)).trans hE
            have hdr : w5.heap[bd]? = some (.cells (zrow 32) 38 (0, 0)) := (hg5.block bd (by omega) (by simp)).trans hd
            have hl1 : 64 * (m - k) - 64 = 64 * (m - (k + 1)) := by omega
            have hl2 : 128 - 64 * k - 64 = 128 - 64 * (k + 1) := by omega
            have HL1 := Lib.hid hl1; have HL2 := Lib.hid hl2
            clear hl1 hl2
            by_cases hc64 : 128 - 64 * k = 64
            · go_wp2_with fail
              go_roundw
              case rel => exact ⟨k + 1, by omega, ⟨64 * k, by rw [HL1.out]; congr 1; omega, fun h => by omega⟩, hgr, hEr, hdr, hs5⟩
              case measure => simp [lenV]; omega
            · go_wp2_with fail
              go_roundw
              case rel => exact ⟨k + 1, by omega, ⟨64 * k + 64, by rw [HL1.out, HL2.out], fun _ => by omega⟩, hgr, hEr, hdr, hs5⟩
              case measure => simp [lenV]; omega
          · obtain rfl : k = m := by omega
            have hlb : bd + 1 < wr.heap.size := (Array.getElem?_eq_some_iff.1 hs).1
            obtain ⟨S, hS⟩ : ∃ S, S0.blocks E k = S := ⟨_, rfl⟩
            rw [hS] at hs
            have HS := Lib.hid hS
            clear hS hkm hE
            have q1 : 64 * ((k - k : Nat) : Int) = 0 := by omega
            have q2 : ¬ (0 : Int) < 64 * ((k - k : Nat) : Int) := by omega
            have hs' : wr.heap[bd + 1]? = some (.cells #[B32 S.a, B32 S.b, B32 S.c, B32 S.d, B32 S.e, B32 S.f, B32 S.g, B32 S.h] 88 (0, 0)) := hs
            go_wp2_with (refine wpList_load_row rfl 88 _ rfl (bd + 1) rfl 88 _ (0, 0) _ hs' Tryd.underlying88 rfl (by kernel_rfl) ?_)
            go_loopw [54] (fun t wx => ∃ j : Nat, j ≤ 8 ∧ t = .int .i64 j ∧ w.grownBy wx none ∧ wx.heap[bd]? = some (.cells (outTo S j) 38 (0, 0))) (fun t _ => 8 - (intOf t).toNat)
            case atStart => exact ⟨0, by omega, rfl, hg, by rw [outTo_zero]; exact hd⟩
            case round =>
              clear hs hs' hg hd
              obtain ⟨j, hj, rfl, hg, hd⟩ := hrel
              by_cases hj8 : j < 8
              · have hix := index_state S j hj8
                have hput := put_any bd (4 * j) 4 (32 - 4 * j) _ 38 ((S.get j).setWidth 64) wr hd (by omega) (by rw [outTo_size S j (by omega)]; omega)
                rw [outTo_step S j hj8] at hput
                have HP := Lib.hid hput
                clear hput
                have p1 : (0 : Int) ≤ 4 * (j : Int) := by omega
                have p2 : 4 * (j : Int) ≤ 4 * (j : Int) + 4 := by omega
                have p3 : 4 * (j : Int) + 4 ≤ 32 := by omega
                go_wp2_with fail
                refine HP.out.mono ?_
                rintro e w6 ⟨rfl, hg6, hd6⟩
                go_wp2_with fail
                go_roundw
                case rel => exact ⟨j + 1, by omega, by go_num, hg.own hg6 (by omega), hd6⟩
                case measure => simp [intOf]; omega
              · obtain rfl : j = 8 := by omega
                rw [outTo_all] at hd
                have hsz32 : (dCells S.out).size = 32 := by simp [dCells, length_out]
                have hinf : (Tryd.prog.info? 38).map (·.size) = some (dCells S.out).size := by rw [hsz32]; kernel_rfl
                have hone : (dCells S.out).all (·.oneCell') = true := by simp [dCells, Value.oneCell']
                go_wp2_with (first
                  | (refine wpList_load_row rfl 38 _ rfl bd rfl 38 _ (0, 0) _ hd Tryd.underlying38 rfl hinf ?_)
                  | (refine wpList_store_row rfl 38 _ _ rfl bd _ rfl rfl 38 _ hd hinf rfl hone ?_))
                rw [setRow_self _ _ _ _ _ hd]
                refine bodyPost_ret (results_cell_row rfl _ _ bd 38 _ (0, 0) _ rfl hd Tryd.underlying38 rfl hinf) rfl ?_
                refine ⟨?_, hg.below (Nat.le_refl _) (by simp)⟩
                rw [sha_eq, HN.out, HLD.out, HE.out, HS0.out, ← HS.out]
                have := HEL.out
                rcases HM.out with ⟨rfl, h5⟩ | ⟨rfl, h5⟩
                · rw [if_pos h5]; simp only [St.blocks]; rw [List.drop_zero, List.take_of_length_le (by omega)]
                · rw [if_neg h5]; simp only [St.blocks]; rw [List.drop_zero, List.take_of_length_le (i := 64) (l := E.drop (64 * (0 + 1))) (by simp; omega)]

set_option maxHeartbeats 1000000 in
set_option maxRecDepth 100000 in
theorem sum_nil (w : World) (he : ShaEnv w) :
    Calls Tryd.prog 27 #[.slice none 0 0] w fun e w' => e = .returned (.agg (dCells (sha []))) ∧ Below w.heap.size w w' := by
  have st := he.start
  have st' : ∀ j, j < 8 → ∀ o, (w.alloc o).cell? ⟨0, j, none⟩ = some (B32 (St.init.get j)) := fun j hj o => by
    rw [World.cell?_alloc_lt _ _ _ (by have := he.size; show 0 < w.heap.size; omega)]; exact st j hj
  have s0 := st' 0 (by omega); have s1 := st' 1 (by omega); have s2 := st' 2 (by omega); have s3 := st' 3 (by omega)
  have s4 := st' 4 (by omega); have s5 := st' 5 (by omega); have s6 := st' 6 (by omega); have s7 := st' 7 (by omega)
  clear st st'
  obtain ⟨bd, hbd⟩ : ∃ bd, w.heap.size = bd := ⟨_, rfl⟩
  have hsz := he.size
  rw [hbd] at hsz
  go_enter Tryd.func27, Tryd.ntmps27
  go_wp2
  go_loopw [5] (fun t wr => t = .slice none 0 0 ∧ w.grownBy wr none ∧ wr.heap[bd]? = some (.cells (zrow 32) 38 (0, 0)) ∧
      wr.heap[bd + 1]? = some (.cells (stCells St.init) 88 (0, 0))) (fun _ _ => 0)
  case atStart =>
    refine ⟨rfl, ((World.grownBy.rf w none).al _).al _, ?_, ?_⟩
    · rw [← hbd]; exact (Below.heap_alloc _ _ _ (by simp)).trans (heap_alloc_new w _)
    · rw [← hbd]; have := heap_alloc_new (w.alloc (.cells #[Value.int IntKind.u8 0, Value.int IntKind.u8 0, Value.int IntKind.u8 0, Value.int IntKind.u8 0,
          Value.int IntKind.u8 0, Value.int IntKind.u8 0, Value.int IntKind.u8 0, Value.int IntKind.u8 0,
          Value.int IntKind.u8 0, Value.int IntKind.u8 0, Value.int IntKind.u8 0, Value.int IntKind.u8 0,
          Value.int IntKind.u8 0, Value.int IntKind.u8 0, Value.int IntKind.u8 0, Value.int IntKind.u8 0,
          Value.int IntKind.u8 0, Value.int IntKind.u8 0, Value.int IntKind.u8 0, Value.int IntKind.u8 0,
          Value.int IntKind.u8 0, Value.int IntKind.u8 0, Value.int IntKind.u8 0, Value.int IntKind.u8 0,
          Value.int IntKind.u8 0, Value.int IntKind.u8 0, Value.int IntKind.u8 0, Value.int IntKind.u8 0,
          Value.int IntKind.u8 0, Value.int IntKind.u8 0, Value.int IntKind.u8 0, Value.int IntKind.u8 0] 38)) (.cells (stCells St.init) 88)
      rw [World.size_alloc] at this; exact this
  case round =>
    clear s0 s1 s2 s3 s4 s5 s6 s7
    obtain ⟨rfl, hg, hd, hs⟩ := hrel
    have hsz1 : bd + 1 < wr.heap.size := (Array.getElem?_eq_some_iff.1 hs).1
    have hmk := mk128
    obtain ⟨be, hbe⟩ : ∃ be, wr.heap.size = be := ⟨_, rfl⟩
    have h2 : (wr.alloc (.cells (zrow 128) 5)).heap[be]? = some (.cells ((List.replicate 128 0#8).map B8).toArray 5 (0, 0)) := by rw [← hbe, ← zrow_eq]; exact heap_alloc_new wr _
    have hg2 : wr.grownBy (wr.alloc (.cells (zrow 128) 5)) none := World.grownBy_alloc _ _ _
    have hcp := run_copy_nil Tryd.prog (wr.alloc (.cells (zrow 128) 5)) 32 32 3 5 ⟨be, 0, none⟩ 64 128 Tryd.underlying32 (by kernel_rfl)
    obtain ⟨W2, hW2⟩ : ∃ W2, wr.alloc (.cells (zrow 128) 5) = W2 := ⟨_, rfl⟩
    have hmk' : (Instr.makeSlice 32 (.int .i64 64) (.int .i64 128)).run Tryd.prog wr = .ok (.slice (some ⟨be, 0, none⟩) 64 128) W2 := by rw [← hW2, ← hbe]; exact hmk wr
    rw [hW2] at h2 hg2 hcp
    have hc2 : W2.cell? ⟨be, 0, none⟩ = some (.int .u8 0) := by rw [cell_of_row W2 be _ _ _ _ h2]; rfl
    have hf2 : W2.frozen? ⟨be, 0, none⟩ = false := frozen_of_row W2 be _ _ _ h2
    have hd2 : W2.heap[bd]? = some (.cells (zrow 32) 38 (0, 0)) := (hg2.block bd (by omega) (by simp)).trans hd
    have hs2 : W2.heap[bd + 1]? = some (.cells (stCells St.init) 88 (0, 0)) := (hg2.block (bd + 1) (by omega) (by simp)).trans hs
    have hg3 : w.grownBy W2 none := hg.tr hg2
    have h3 : (W2.setCell ⟨be, 0, none⟩ (.int .u8 128)).heap[be]? = some (.cells (([] ++ [128#8] ++ List.replicate (127 - ([] : List (BitVec 8)).length) 0#8).map B8).toArray 5 (0, 0)) := by
      rw [heap_setCell_same _ _ _ _ _ _ h2, show Value.int .u8 128 = B8 128#8 from rfl, set_map]
      rfl
    have hszb : be < W2.heap.size := (Array.getElem?_eq_some_iff.1 h2).1
    clear hmk hW2 h2 hg2
    obtain ⟨E, hE0⟩ : ∃ E, tailOf [] 0 = E := ⟨_, rfl⟩
    have hEl : E.length = 64 * 1 := by rw [← hE0]; rfl
    obtain ⟨Z, hZ⟩ : ∃ Z, splice (([] ++ [128#8] ++ List.replicate (127 - ([] : List (BitVec 8)).length) 0#8).map B8).toArray 56 ((beN 8 (BitVec.ofNat 64 (0 * 8))).map B8) = ((E ++ Z).map B8).toArray :=
      ⟨_, by rw [← hE0]; exact tail_short [] 0 (by simp)⟩
    have hput := put_any be 56 8 72 _ 5 (BitVec.ofNat 64 (0 * 8)) _ h3 (by omega) (by simp)
    rw [hZ, show B64 (BitVec.ofNat 64 (0 * 8)) = Value.int .u64 0 from rfl] at hput
    have HEL := Lib.hid hEl; have HP := Lib.hid hput
    clear hEl hput hZ h3
    go_wp2_with fail
    refine HP.out.mono ?_
    rintro e W4 ⟨rfl, hg4, hE4⟩
    have hbdbe : bd + 1 < be := by have := hbe; omega
    have hW4 : w.grownBy W4 none := (hg3.set be 0 (.int .u8 128) (.inl (by omega))).own hg4 (by omega)
    have hd4 : W4.heap[bd]? = some (.cells (zrow 32) 38 (0, 0)) := by
      rw [hg4.block bd (by simp; omega) (by simp; omega), heap_setCell_other _ _ _ _ (by show bd ≠ be; omega)]; exact hd2
    have hs4 : W4.heap[bd + 1]? = some (.cells (stCells St.init) 88 (0, 0)) := by
      rw [hg4.block (bd + 1) (by simp; omega) (by simp; omega), heap_setCell_other _ _ _ _ (by show bd + 1 ≠ be; omega)]; exact hs2
    clear HP hd2 hs2 hc2 hf2 hg4 hmk' hcp hs hd hg hg3
    have HE0 := Lib.hid hE0
    clear hE0
    obtain ⟨S0, hS0⟩ : ∃ S0, St.init = S0 := ⟨_, rfl⟩
    rw [hS0] at hs4
    have HS0 := Lib.hid hS0
    clear hS0
    go_wp2_with fail
    go_loopw [6] (fun t wx => ∃ k : Nat, k ≤ 1 ∧ (∃ o, t = .slice (some ⟨be, o, none⟩) (64 * (1 - k)) (128 - 64 * k) ∧ (k < 1 → o = 64 * k)) ∧ w.grownBy wx none ∧
        wx.heap[be]? = some (.cells ((E ++ Z).map B8).toArray 5 (0, 0)) ∧ wx.heap[bd]? = some (.cells (zrow 32) 38 (0, 0)) ∧
        wx.heap[bd + 1]? = some (.cells (stCells (S0.blocks E k)) 88 (0, 0))) (fun t _ => lenV t)
    case atStart => exact ⟨0, by omega, ⟨0, rfl, fun _ => rfl⟩, hW4, hE4, hd4, hs4⟩
    case round =>
      clear hW4 hE4 hd4 hs4
      obtain ⟨k, hk, ⟨o, rfl, ho⟩, hg, hE, hd, hs⟩ := hrel
      by_cases hkm : k < 1
      · obtain rfl := ho hkm
        have hby := ((BytesAt.of_row hE).drop (64 * k)).take 64
        have hEk : ((E ++ Z).drop (64 * k)).take 64 = (E.drop (64 * k)).take 64 := by
          have := HEL.out
          rw [List.drop_append_of_le_length (by omega), List.take_append_of_le_length (by simp; omega)]
        rw [hEk, Nat.zero_add] at hby
        have hl64 : ((E.drop (64 * k)).take 64).length = 64 := by have := HEL.out; simp; omega
        have hnums := (he.grown hg (by simp)).nums
        have habs := absorb_any (bd + 1) be (64 * k) (128 - 64 * k) _ ((E.drop (64 * k)).take 64) wr hs hl64 hby (by omega) (by unfold maxLen; omega) hnums
        have HA := Lib.hid habs
        clear habs hby hEk hl64 ho
        have q1 : (0 : Int) < 64 * ((1 - k : Nat) : Int) := by omega
        have q2 : 64 ≤ 128 - 64 * k := by omega
        have q3 : (64 : Int) ≤ ((128 - 64 * k : Nat) : Int) := by omega
        have q4 : (64 : Int) ≤ 64 * ((1 - k : Nat) : Int) := by omega
        go_wp2_with fail
        refine HA.out.mono ?_
        rintro e w5 ⟨rfl, hg5, hs5⟩
        have hbr : bd + 1 < wr.heap.size := (Array.getElem?_eq_some_iff.1 hs).1
        have hgr : w.grownBy w5 none := hg.own hg5 (by omega)
        have hEr : w5.heap[be]? = some (.cells ((E ++ Z).map B8).toArray 5 (0, 0)) := (hg5.block be (Array.getElem?_eq_some_iff.1 hE).1 (by simp; omega)).trans hE
        have hdr : w5.heap[bd]? = some (.cells (zrow 32) 38 (0, 0)) := (hg5.block bd (by omega) (by simp)).trans hd
        have hl1 : 64 * (1 - k) - 64 = 64 * (1 - (k + 1)) := by omega
        have hl2 : 128 - 64 * k - 64 = 128 - 64 * (k + 1) := by omega
        have HL1 := Lib.hid hl1; have HL2 := Lib.hid hl2
        clear hl1 hl2
        by_cases hc64 : 128 - 64 * k = 64
        · go_wp2_with fail
          go_roundw
          case rel => exact ⟨k + 1, by omega, ⟨64 * k, by rw [HL1.out]; congr 1; omega, fun h => by omega⟩, hgr, hEr, hdr, hs5⟩
          case measure => simp [lenV]; omega
        · go_wp2_with fail
          go_roundw
          case rel => exact ⟨k + 1, by omega, ⟨64 * k + 64, by rw [HL1.out, HL2.out], fun _ => by omega⟩, hgr, hEr, hdr, hs5⟩
          case measure => simp [lenV]; omega
      · obtain rfl : k = 1 := by omega
        have hlb : bd + 1 < wr.heap.size := (Array.getElem?_eq_some_iff.1 hs).1
        obtain ⟨S, hS⟩ : ∃ S, S0.blocks E 1 = S := ⟨_, rfl⟩
        rw [hS] at hs
        have HS := Lib.hid hS
        clear hS hkm hE
        have q1 : 64 * ((1 - 1 : Nat) : Int) = 0 := by omega
        have q2 : ¬ (0 : Int) < 64 * ((1 - 1 : Nat) : Int) := by omega
        have hs' : wr.heap[bd + 1]? = some (.cells #[B32 S.a, B32 S.b, B32 S.c, B32 S.d, B32 S.e, B32 S.f, B32 S.g, B32 S.h] 88 (0, 0)) := hs
        go_wp2_with (refine wpList_load_row rfl 88 _ rfl (bd + 1) rfl 88 _ (0, 0) _ hs' Tryd.underlying88 rfl (by kernel_rfl) ?_)
        go_loopw [54] (fun t wx => ∃ j : Nat, j ≤ 8 ∧ t = .int .i64 j ∧ w.grownBy wx none ∧ wx.heap[bd]? = some (.cells (outTo S j) 38 (0, 0))) (fun t _ => 8 - (intOf t).toNat)
        case atStart => exact ⟨0, by omega, rfl, hg, by rw [outTo_zero]; exact hd⟩
        case round =>
          clear hs hs' hg hd
          obtain ⟨j, hj, rfl, hg, hd⟩ := hrel
          by_cases hj8 : j < 8
          · have hix := index_state S j hj8
            have hput := put_any bd (4 * j) 4 (32 - 4 * j) _ 38 ((S.get j).setWidth 64) wr hd (by omega) (by rw [outTo_size S j (by omega)]; omega)
            rw [outTo_step S j hj8] at hput
            have HP := Lib.hid hput
            clear hput
            have p1 : (0 : Int) ≤ 4 * (j : Int) := by omega
            have p2 : 4 * (j : Int) ≤ 4 * (j : Int) + 4 := by omega
            have p3 : 4 * (j : Int) + 4 ≤ 32 := by omega
            go_wp2_with fail
            refine HP.out.mono ?_
            rintro e w6 ⟨rfl, hg6, hd6⟩
            go_wp2_with fail
            go_roundw
            case rel => exact ⟨j + 1, by omega, by go_num, hg.own hg6 (by omega), hd6⟩
            case measure => simp [intOf]; omega
          · obtain rfl : j = 8 := by omega
            rw [outTo_all] at hd
            have hsz32 : (dCells S.out).size = 32 := by simp [dCells, length_out]
            have hinf : (Tryd.prog.info? 38).map (·.size) = some (dCells S.out).size := by rw [hsz32]; kernel_rfl
            have hone : (dCells S.out).all (·.oneCell') = true := by simp [dCells, Value.oneCell']
            go_wp2_with (first
              | (refine wpList_load_row rfl 38 _ rfl bd rfl 38 _ (0, 0) _ hd Tryd.underlying38 rfl hinf ?_)
              | (refine wpList_store_row rfl 38 _ _ rfl bd _ rfl rfl 38 _ hd hinf rfl hone ?_))
            rw [setRow_self _ _ _ _ _ hd]
            refine bodyPost_ret (results_cell_row rfl _ _ bd 38 _ (0, 0) _ rfl hd Tryd.underlying38 rfl hinf) rfl ?_
            refine ⟨?_, hg.below (Nat.le_refl _) (by simp)⟩
            rw [← HS.out, ← HE0.out, ← HS0.out]
            show Ending.returned (Value.agg (dCells _)) = _
            have := HEL.out
            rw [← HE0.out] at this
            simp only [St.blocks]
            rw [List.drop_zero, List.take_of_length_le (by omega)]
            rfl

/-- digest.Sum, of every slice of bytes. -/
theorem sum_any (v : Value) (l : List (BitVec 8)) (w : World) (hv : BS w v l) (he : ShaEnv w) :
    Calls Tryd.prog 27 #[v] w fun e w' => e = .returned (.agg (dCells (sha l))) ∧ Below w.heap.size w w' := by
  rcases hv with ⟨rfl, rfl⟩ | h
  · exact sum_nil w he
  · exact sum_some v l w h he

end Chart
