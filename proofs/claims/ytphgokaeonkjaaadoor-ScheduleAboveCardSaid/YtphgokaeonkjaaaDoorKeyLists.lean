/- Lists of keys that the call owns. A slice literal of one key. Lists of keys that a call reads; the fenced forms of a slice literal of one key and of the append of one key. -/
import Derived.Test.YtphgokaeonkjaaaDoorEqKey
import Derived.Great.BuildSlice
import Derived.Deep.MidRow
import Derived.OwnWalkIn
namespace Chart
open Go Go.RowKit Go.Proofs

theorem under_keys : Tryd.prog.underlying 42 = some (.slice 23) := Tryd.underlying42
theorem info_key32 : (Tryd.prog.info? 23).map (fun i => (i.zero, i.size, i.bytes)) = some (some (.agg (zrow 32)), 32, 32) := by kernel_rfl

def flatK (ks : List (List (BitVec 8))) : List Value := ks.flatten.map B8
def K32 (ks : List (List (BitVec 8))) : Prop := ∀ k ∈ ks, k.length = 32
theorem length_flatK : ∀ (ks : List (List (BitVec 8))), K32 ks → (flatK ks).length = 32 * ks.length
  | [], _ => rfl
  | a :: t, h => by
    have ih := length_flatK t (fun k hk => h k (List.mem_cons_of_mem _ hk))
    have h1 := h a (by simp)
    unfold flatK at ih ⊢
    rw [List.length_map] at ih ⊢
    rw [List.flatten_cons, List.length_append, ih, h1, List.length_cons]
    omega
theorem flatK_append (ks : List (List (BitVec 8))) (k : List (BitVec 8)) : flatK (ks ++ [k]) = flatK ks ++ k.map B8 := by unfold flatK; simp
theorem flatK_get : ∀ (ks : List (List (BitVec 8))), K32 ks → ∀ (i : Nat) (k : List (BitVec 8)), ks[i]? = some k → ∀ j u, (k.map B8)[j]? = some u → (flatK ks)[i * 32 + j]? = some u
  | [], _, i, k, h, _, _, _ => by simp at h
  | a :: t, h32, 0, k, h, j, u, hu => by
    simp at h; subst h
    have hj : j < (a.map B8).length := (List.getElem?_eq_some_iff.1 hu).1
    unfold flatK
    rw [List.flatten_cons, List.map_append, List.getElem?_append_left (by omega)]
    simpa using hu
  | a :: t, h32, i + 1, k, h, j, u, hu => by
    have ih := flatK_get t (fun k hk => h32 k (List.mem_cons_of_mem _ hk)) i k (by simpa using h) j u hu
    have h1 := h32 a (by simp)
    unfold flatK at ih ⊢
    rw [List.flatten_cons, List.map_append, List.getElem?_append_right (by rw [List.length_map, h1]; omega), List.length_map, h1]
    rw [show (i + 1) * 32 + j - 32 = i * 32 + j by omega]
    exact ih

/-- A slice of keys in a row of the call's own. -/
def KO (w : World) (B : Nat) (v : Value) (ks : List (List (BitVec 8))) : Prop := K32 ks ∧ w.ownsRow B 23 32 v ks.length (flatK ks)
theorem KO.nil (w : World) (B : Nat) : KO w B (.slice none 0 0) [] := ⟨fun _ h => (by cases h), World.ownsRow_nil w B _ _⟩
theorem KO.al {w : World} {B : Nat} {v : Value} {ks : List (List (BitVec 8))} (h : KO w B v ks) (o : Obj) : KO (w.alloc o) B v ks := ⟨h.1, World.ownsRow.kept h.2 (World.grownBy_alloc w o none) (by cases v.ownBlock <;> simp)⟩
theorem KO.below {w w' : World} {B : Nat} {v : Value} {ks : List (List (BitVec 8))} (h : KO w B v ks) (hb : Below w.heap.size w w') : KO w' B v ks :=
  ⟨h.1, World.ownsRow.kept h.2 (World.grownBy.of_below hb none) (by cases v.ownBlock <;> simp)⟩
theorem KO.one (w : World) (B b : Nat) (k : List (BitVec 8)) (hk : k.length = 32) (hb : w.heap.size = b) (hB : B ≤ b) : KO (w.alloc (.cells (dCells k) 23)) B (.slice (some ⟨b, 0, none⟩) 1 1) [k] := by
  subst hb
  have h32 : K32 [k] := fun x hx => by rw [List.mem_singleton] at hx; rw [hx]; exact hk
  refine ⟨h32, by rw [length_flatK _ h32]; simp, .inr ⟨w.heap.size, 1, dCells k, rfl, hB, heap_alloc_new w _, Nat.le_refl _, by unfold maxLen; omega, by rw [size_dCells k hk], ?_⟩⟩
  unfold flatK dCells
  simp [List.take_of_length_le, hk]

section
variable {ops : Array Oper} {rest : List Oper} {o : Oper} {a : Act} {w : World} {Q : Exit → Act → World → Prop}
/-- append(v, key). -/
theorem app_key (hgd : o.guard = none) (s x : Operand) (ho : o.op = .call { callee := .builtin .append, args := #[s, x], argTypes := #[42, 42] })
    (B : Nat) (v : Value) (ks : List (List (BitVec 8))) (hs : a.eval s = v) (hown : KO w B v ks) (k : List (BitVec 8)) (hk : k.length = 32) (b : Nat) (hx : a.eval x = .slice (some ⟨b, 0, none⟩) 1 1) (hrow : w.heap[b]? = some (.cells (dCells k) 23 (0, 0)))
    (hlen : ks.length + 1 ≤ 1099511627776) (hB : B ≤ w.heap.size)
    (h : ∀ v' w', KO w' B v' (ks ++ [k]) → w.grownBy w' v.ownBlock → wpList Tryd.prog ops Q rest (a.put o.dst v') w') : wpList Tryd.prog ops Q (o :: rest) a w := by
  obtain ⟨i0, hi, hz0, hz1, hz2⟩ := info_parts info_key32
  refine wpList_append_own w hgd s x 42 ho B 23 i0 _ 32 32 under_keys hi hz0 hz1 hz2 rfl (by decide) v ks.length _ hs hown.2 ⟨b, 0, none⟩ 1 1 (k.map B8) hx (by rw [List.length_map, hk]) (fun j u hu => ?_)
    (fun u hu => by obtain ⟨y, _, rfl⟩ := List.mem_map.1 hu; rfl) (by unfold maxLen; omega) (by omega) hB (fun v' w' h5 h6 _ => h v' w' ?_ h6)
  · rw [Addr.add_lit, cell_of_row w b _ _ _ _ hrow, Nat.zero_add]; simpa [dCells] using hu
  · refine ⟨fun z hz => ?_, ?_⟩
    · rcases List.mem_append.1 hz with hz | hz
      · exact hown.1 z hz
      · rw [List.mem_singleton] at hz; rw [hz]; exact hk
    · rw [List.length_append, flatK_append]; exact h5
end
end Chart

namespace Chart
open Go Go.RowKit Go.Proofs

theorem fold_set : ∀ (l : List Value) (off : Nat) (b : Array Value), off + l.length ≤ b.size →
    ((l.zipIdx off).foldl (fun cs x => cs.setIfInBounds x.2 x.1) b).size = b.size ∧ ∀ i, ((l.zipIdx off).foldl (fun cs x => cs.setIfInBounds x.2 x.1) b)[i]? = if off ≤ i ∧ i < off + l.length then l[i - off]? else b[i]?
  | [], off, b, _ => ⟨rfl, fun i => by rw [if_neg (by simp)]; rfl⟩
  | x :: l, off, b, h => by
    rw [List.zipIdx_cons, List.foldl_cons]
    have ih := fold_set l (off + 1) (b.setIfInBounds off x) (by rw [Array.size_setIfInBounds]; simp at h; omega)
    rw [Array.size_setIfInBounds] at ih
    refine ⟨ih.1, fun i => ?_⟩
    rw [ih.2 i]
    simp at h
    by_cases h1 : off + 1 ≤ i ∧ i < off + 1 + l.length
    · rw [if_pos h1, if_pos (by simp; omega)]
      rw [show i - off = (i - (off + 1)) + 1 by omega, List.getElem?_cons_succ]
    · rw [if_neg h1]
      by_cases h2 : i = off
      · subst h2
        rw [if_pos (by simp), Nat.sub_self, List.getElem?_cons_zero, Array.getElem?_setIfInBounds_self_of_lt (by omega)]
      · rw [if_neg (by simp; omega), Array.getElem?_setIfInBounds_ne (fun e => h2 e.symm)]
theorem fill_key (k : List (BitVec 8)) (hk : k.length = 32) : Instr.fill (fun i => some (i * 32, 32)) ((Array.range 32).map ((Value.agg (zrow 32)).cells[· % (Value.agg (zrow 32)).cells.size]!)) [(0, Value.agg (dCells k))] = some (dCells k) := by
  have hs := size_dCells k hk
  unfold Instr.fill
  simp [Value.cells, hs]
  rw [Instr.fill]
  congr 1
  have hz : (Array.map (fun x => (zrow 32)[x % (zrow 32).size]!) (Array.range 32)).size = 32 := by simp
  generalize Array.map (fun x => (zrow 32)[x % (zrow 32).size]!) (Array.range 32) = b at *
  have hl : (k.map B8).length = 32 := by rw [List.length_map, hk]
  have hf := fold_set (k.map B8) 0 b (by omega)
  have e : Array.foldl (fun cs x => cs.setIfInBounds x.snd x.fst) b (dCells k).zipIdx 0 32 = ((k.map B8).zipIdx 0).foldl (fun cs x => cs.setIfInBounds x.2 x.1) b := by
    have hs2 : (dCells k).zipIdx.size = 32 := by rw [Array.size_zipIdx, hs]
    rw [← hs2]
    unfold dCells
    simp
  rw [e]
  apply Array.ext
  · rw [hf.1, hz, hs]
  · intro i h1 h2
    have h3 := hf.2 i
    rw [if_pos (by rw [hl]; rw [hs] at h2; omega), Nat.sub_zero] at h3
    rw [Array.getElem?_eq_getElem h1] at h3
    have h4 : (dCells k)[i]? = (k.map B8)[i]? := by unfold dCells; simp
    rw [← h4, Array.getElem?_eq_getElem h2] at h3
    exact Option.some.inj h3

section
variable {ops : Array Oper} {rest : List Oper} {o : Oper} {a : Act} {w : World} {Q : Exit → Act → World → Prop}
theorem build_key (hg : o.guard = none) (x : Operand) (ho : o.op = .buildSlice 42 1 #[(0, x)]) (k : List (BitVec 8)) (hk : k.length = 32) (hx : a.eval x = .agg (dCells k))
    (h : wpList Tryd.prog ops Q rest (a.put o.dst (.slice (some ⟨w.heap.size, 0, none⟩) 1 1)) (w.alloc (.cells (dCells k) 23))) : wpList Tryd.prog ops Q (o :: rest) a w := by
  obtain ⟨i0, hi, hz0, hz1, hz2⟩ := info_parts info_key32
  refine wpList_buildSlice hg 42 23 1 #[(0, x)] ho (dCells k) i0 (.agg (zrow 32)) under_keys hi hz0 (by rw [hz1]; decide) (by rw [hz1]; decide) ?_ h
  rw [hz1]
  simp only [List.map_toArray, List.map_cons, List.map_nil, hx]
  exact fill_key k hk
end
end Chart

namespace Chart
open Go Go.RowKit Go.Proofs

/-- A slice that reads as a list of keys. -/
def KR (w : World) (v : Value) (ks : List (List (BitVec 8))) : Prop :=
  K32 ks ∧ ((v = .slice none 0 0 ∧ ks = []) ∨ ∃ b off c, v = .slice (some ⟨b, off, none⟩) ks.length c ∧ ks.length ≤ c ∧ c ≤ maxLen ∧ w.rangeAt b off (flatK ks) ∧ b < w.heap.size)
theorem KR.below {w w' : World} {v : Value} {ks : List (List (BitVec 8))} (h : KR w v ks) (hb : Below w.heap.size w w') : KR w' v ks := by
  obtain ⟨h0, h⟩ := h
  refine ⟨h0, ?_⟩
  rcases h with h | ⟨b, off, c, h1, h2, h3, h4, h5⟩
  · exact .inl h
  · exact .inr ⟨b, off, c, h1, h2, h3, fun j u hu => (hb.cell (p := ⟨b, off + j, none⟩) h5).trans (h4 j u hu), Nat.lt_of_lt_of_le h5 hb.size⟩
theorem KO.kr {w : World} {B : Nat} {v : Value} {ks : List (List (BitVec 8))} (h : KO w B v ks) : KR w v ks := by
  obtain ⟨h0, hl, h⟩ := h
  refine ⟨h0, ?_⟩
  rcases h with ⟨h1, h2⟩ | ⟨g, cap, cur, h1, h2, h3, h4, h5, h6, h7⟩
  · exact .inl ⟨h1, List.eq_nil_of_length_eq_zero h2⟩
  · refine .inr ⟨g, 0, cap, h1, h4, h5, fun j u hu => ?_, (Array.getElem?_eq_some_iff.1 h3).1⟩
    rw [cell_of_row w g _ _ _ _ h3, Nat.zero_add]
    rw [← h7] at hu
    have hj : j < ks.length * 32 := by
      have := (List.getElem?_eq_some_iff.1 hu).1
      rw [List.length_take] at this
      omega
    rw [List.getElem?_take_of_lt hj] at hu
    simpa using hu
theorem KR.form {w : World} {v : Value} {ks : List (List (BitVec 8))} (h : KR w v ks) : ∃ a c, v = .slice a ks.length c := by
  obtain ⟨h0, h⟩ := h
  rcases h with ⟨rfl, rfl⟩ | ⟨b, off, c, rfl, h2, h3, h4, h5⟩
  · exact ⟨none, 0, rfl⟩
  · exact ⟨some ⟨b, off, none⟩, c, rfl⟩
theorem KR.some {w : World} {v : Value} {ks : List (List (BitVec 8))} (h : KR w v ks) (h0 : ks ≠ []) : ∃ b off c, v = .slice (some ⟨b, off, none⟩) ks.length c ∧ ks.length ≤ c ∧ c ≤ maxLen ∧ w.rangeAt b off (flatK ks) ∧ b < w.heap.size := by
  rcases h.2 with ⟨_, h2⟩ | h2
  · exact absurd h2 h0
  · exact h2
theorem range_key {w : World} {b off : Nat} {ks : List (List (BitVec 8))} (hk : K32 ks) (h : w.rangeAt b off (flatK ks)) {i : Nat} {k : List (BitVec 8)} (hi : ks[i]? = some k) : w.rangeAt b (off + i * 32) (k.map B8) := fun j u hu => by
  rw [Nat.add_assoc]
  exact h _ _ (flatK_get ks hk i k hi j u hu)
theorem flatK_drop : ∀ (ks : List (List (BitVec 8))), K32 ks → ∀ i, flatK (ks.drop i) = (flatK ks).drop (i * 32)
  | [], _, i => by simp [flatK]
  | a :: t, h, 0 => by simp
  | a :: t, h, i + 1 => by
    have ih := flatK_drop t (fun k hk => h k (List.mem_cons_of_mem _ hk)) i
    have h1 := h a (by simp)
    unfold flatK at ih ⊢
    rw [List.drop_succ_cons, ih, List.flatten_cons, List.map_append, List.drop_append, show List.drop ((i + 1) * 32) (a.map B8) = [] from List.drop_eq_nil_of_le (by rw [List.length_map, h1]; omega), List.nil_append, List.length_map, h1]
    rw [show (i + 1) * 32 - 32 = i * 32 by omega]
theorem range_drop {w : World} {b off : Nat} {ks : List (List (BitVec 8))} (hk : K32 ks) (h : w.rangeAt b off (flatK ks)) (i : Nat) : w.rangeAt b (off + i * 32) (flatK (ks.drop i)) := fun j u hu => by
  rw [flatK_drop ks hk i, List.getElem?_drop] at hu
  rw [Nat.add_assoc]
  exact h _ _ hu

section
variable {F : Fence} {n : Nat} {ops : Array Oper} {rest : List Oper} {o : Oper} {a : Act} {w : World} {Q : Exit → Act → World → Prop}
theorem build_key_in (hg : o.guard = none) (x : Operand) (ho : o.op = .buildSlice 42 1 #[(0, x)]) (k : List (BitVec 8)) (hk : k.length = 32) (hx : a.eval x = .agg (dCells k))
    (h : wpListIn F n Tryd.prog ops Q rest (a.put o.dst (.slice (some ⟨w.heap.size, 0, none⟩) 1 1)) (w.alloc (.cells (dCells k) 23))) : wpListIn F n Tryd.prog ops Q (o :: rest) a w := by
  obtain ⟨i0, hi, hz0, hz1, hz2⟩ := info_parts info_key32
  refine wpListIn_plain hg fun K hK => ?_
  unfold Oper.wpIn
  refine ⟨?_, ?_⟩
  · simp [Oper.about, ho]
  · rw [Oper.semAt_plain F _ _ (by rw [ho]; intro c hc'; cases hc')]
    have hf := fill_key k hk
    have hr := run_buildSlice (P := Tryd.prog) w 42 23 1 [(0, Value.agg (dCells k))].toArray (dCells k) i0 (.agg (zrow 32)) under_keys hi hz0 (by rw [hz1]; decide) (by rw [hz1]; decide) (by rw [hz1]; exact hf)
    unfold execOp
    simp only [ho, List.map_toArray, List.map_cons, List.map_nil, hx, Sem.run_bind, Sem.run_pure, hr, Result.andThen_ok]
    exact hK _ _ h
/-- append(v, key), in the body of a range over a function. -/
theorem app_key_in (hgd : o.guard = none) (s x : Operand) (ho : o.op = .call { callee := .builtin .append, args := #[s, x], argTypes := #[42, 42] })
    (B : Nat) (v : Value) (ks : List (List (BitVec 8))) (hs : a.eval s = v) (hown : KO w B v ks) (k : List (BitVec 8)) (hk : k.length = 32) (b : Nat) (hx : a.eval x = .slice (some ⟨b, 0, none⟩) 1 1) (hrow : w.heap[b]? = some (.cells (dCells k) 23 (0, 0)))
    (hlen : ks.length + 1 ≤ 1099511627776) (hB : B ≤ w.heap.size)
    (h : ∀ v' w', KO w' B v' (ks ++ [k]) → w.grownBy w' v.ownBlock → wpListIn F n Tryd.prog ops Q rest (a.put o.dst v') w') : wpListIn F n Tryd.prog ops Q (o :: rest) a w := by
  obtain ⟨i0, hi, hz0, hz1, hz2⟩ := info_parts info_key32
  refine wpListIn_append_own w hgd s x 42 ho B 23 i0 _ 32 32 under_keys hi hz0 hz1 hz2 rfl (by decide) v ks.length _ hs hown.2 ⟨b, 0, none⟩ 1 1 (k.map B8) hx (by rw [List.length_map, hk]) (fun j u hu => ?_)
    (fun u hu => by obtain ⟨y, _, rfl⟩ := List.mem_map.1 hu; rfl) (by unfold maxLen; omega) (by omega) hB (fun v' w' h5 h6 _ => h v' w' ?_ h6)
  · rw [Addr.add_lit, cell_of_row w b _ _ _ _ hrow, Nat.zero_add]; simpa [dCells] using hu
  · refine ⟨fun z hz => ?_, ?_⟩
    · rcases List.mem_append.1 hz with hz | hz
      · exact hown.1 z hz
      · rw [List.mem_singleton] at hz; rw [hz]; exact hk
    · rw [List.length_append, flatK_append]; exact h5
end
end Chart

namespace Chart
open Go Go.RowKit Go.Proofs
/-- A variable that has just been made is given its value, within a fence. -/
theorem st_new_in {F : Fence} {n : Nat} {P : Program} {ops : Array Oper} {rest : List Oper} {o : Oper} {a : Act} {w0 : World} {Q : Exit → Act → World → Prop} (hgd : o.guard = none) (ty : TypeId) (x y : Operand) (ho : o.op = .store ty x y) (hdst : o.dst = none)
    (cells old : Array Value) (t : TypeId) (hx : a.eval x = .pointer (some ⟨w0.heap.size, 0, none⟩)) (hy : a.eval y = .agg cells)
    (hi : (P.info? ty).map (·.size) = some cells.size) (hold : old.size = cells.size) (h1 : cells.all (·.oneCell') = true)
    (h : wpListIn F n P ops Q rest a (w0.alloc (.cells cells t))) : wpListIn F n P ops Q (o :: rest) a (w0.alloc (.cells old t)) :=
  row_store_in hgd ty x y ho hdst w0.heap.size cells hx hy t old (heap_alloc_new w0 _) hi hold h1 (by rw [setRow_alloc]; exact h)
theorem KO.heap {w w' : World} {B : Nat} {v : Value} {ks : List (List (BitVec 8))} (h : KO w B v ks) (hh : ∀ g, B ≤ g → g < w.heap.size → w'.heap[g]? = w.heap[g]?) : KO w' B v ks := by
  obtain ⟨h0, hl, h⟩ := h
  refine ⟨h0, hl, ?_⟩
  rcases h with h | ⟨g, cap, cur, h1, h2, h3, h4⟩
  · exact .inl h
  · exact .inr ⟨g, cap, cur, h1, h2, (hh g h2 (Array.getElem?_eq_some_iff.1 h3).1).trans h3, h4⟩
theorem KO.lt {w : World} {B : Nat} {v : Value} {ks : List (List (BitVec 8))} (h : KO w B v ks) : ∀ k, v.ownBlock = some k → B ≤ k ∧ k < w.heap.size := World.ownsRow.lt h.2
end Chart
