/- Lists of leaves that the call owns; the reference's purpose. -/
import Derived.Test.YtphgokaeonkjaaaDoorRefEncL
namespace Chart
open Go Go.RowKit Go.Proofs

theorem under_vals : Tryd.prog.underlying 60 = some (.slice 62) := Tryd.underlying60
theorem info_val : (Tryd.prog.info? 62).map (fun i => (i.zero, i.size, i.bytes)) = some (some (.agg #[.int .i64 0, .int .i64 0, .string { data := #[] }, .slice none 0 0]), 4, 56) := by kernel_rfl

def flat (ls : List Leaf) : List Value := (ls.map (fun lf => lf.cells.toList)).flatten
theorem Leaf.size_cells (lf : Leaf) : lf.cells.size = 4 := by cases lf <;> rfl
theorem length_flat (ls : List Leaf) : (flat ls).length = 4 * ls.length := by
  induction ls with
  | nil => rfl
  | cons a t ih =>
    unfold flat at ih ⊢
    rw [List.map_cons, List.flatten_cons, List.length_append, ih, Array.length_toList, Leaf.size_cells]
    simp; omega
theorem flat_get : ∀ (ls : List Leaf) (i : Nat) (lf : Leaf), ls[i]? = some lf → ∀ j u, lf.cells[j]? = some u → (flat ls)[i * 4 + j]? = some u
  | [], i, lf, h, _, _, _ => by simp at h
  | a :: t, 0, lf, h, j, u, hu => by
    simp at h; subst h
    have hj : j < 4 := by have := (Array.getElem?_eq_some_iff.1 hu).1; rw [Leaf.size_cells] at this; exact this
    unfold flat
    rw [List.map_cons, List.flatten_cons, List.getElem?_append_left (by rw [Array.length_toList, Leaf.size_cells]; omega)]
    simpa using hu
  | a :: t, i + 1, lf, h, j, u, hu => by
    have ih := flat_get t i lf (by simpa using h) j u hu
    unfold flat at ih ⊢
    rw [List.map_cons, List.flatten_cons, List.getElem?_append_right (by rw [Array.length_toList, Leaf.size_cells]; omega), Array.length_toList, Leaf.size_cells]
    rw [show (i + 1) * 4 + j - 4 = i * 4 + j by omega]; exact ih
theorem flat_append (ls : List Leaf) (lf : Leaf) : flat (ls ++ [lf]) = flat ls ++ lf.cells.toList := by unfold flat; simp

/-- A slice of leaves in a row of the call's own. -/
def OL (w : World) (B : Nat) (v : Value) (ls : List Leaf) : Prop := w.ownsRow B 62 4 v ls.length (flat ls)

theorem OL.one (w : World) (B b : Nat) (lf : Leaf) (hb : w.heap.size = b) (hB : B ≤ b) : OL (w.alloc (.cells lf.cells 62)) B (.slice (some ⟨b, 0, none⟩) 1 1) [lf] := by
  subst hb
  refine ⟨by rw [length_flat]; simp, .inr ⟨w.heap.size, 1, lf.cells, rfl, hB, heap_alloc_new w _, Nat.le_refl _, by unfold maxLen; omega, by rw [Leaf.size_cells], ?_⟩⟩
  unfold flat
  have h4 : lf.cells.toList.length = 4 := by rw [Array.length_toList, Leaf.size_cells]
  simp [List.take_of_length_le (Nat.le_of_eq h4)]
theorem OL.al {w : World} {B : Nat} {v : Value} {ls : List Leaf} (h : OL w B v ls) (o : Obj) : OL (w.alloc o) B v ls := World.ownsRow.kept h (World.grownBy_alloc w o none) (by cases v.ownBlock <;> simp)
theorem OL.below {w w' : World} {B : Nat} {v : Value} {ls : List Leaf} (h : OL w B v ls) (hb : Below w.heap.size w w') : OL w' B v ls :=
  World.ownsRow.kept h (World.grownBy.of_below hb none) (by cases v.ownBlock <;> simp)
theorem OL.some {w : World} {B : Nat} {v : Value} {ls : List Leaf} (h : OL w B v ls) (h0 : ls ≠ []) : ∃ g cap, v = .slice (some ⟨g, 0, none⟩) ls.length cap ∧ B ≤ g ∧ g < w.heap.size ∧ ls.length ≤ cap ∧ cap ≤ maxLen ∧ LeavesAt w g 0 ls := by
  rcases h.2 with ⟨_, h2⟩ | ⟨g, cap, cur, h1, h2, h3, h4, h5, h6, h7⟩
  · exact absurd (List.eq_nil_of_length_eq_zero h2) h0
  · refine ⟨g, cap, h1, h2, (Array.getElem?_eq_some_iff.1 h3).1, h4, h5, fun i lf hi j u hu => ?_⟩
    rw [cell_of_row w g _ _ _ _ h3, Nat.zero_add]
    have h8 := flat_get ls i lf hi j u hu
    rw [← h7, List.getElem?_take] at h8
    split at h8
    · simpa using h8
    · cases h8

section
variable {ops : Array Oper} {rest : List Oper} {o : Oper} {a : Act} {w : World} {Q : Exit → Act → World → Prop}
/-- append(v, leaf). -/
theorem app_leaf (hgd : o.guard = none) (s x : Operand) (ho : o.op = .call { callee := .builtin .append, args := #[s, x], argTypes := #[60, 60] })
    (B : Nat) (v : Value) (ls : List Leaf) (hs : a.eval s = v) (hown : OL w B v ls) (lf : Leaf) (b : Nat) (hx : a.eval x = .slice (some ⟨b, 0, none⟩) 1 1) (hrow : w.heap[b]? = some (.cells lf.cells 62 (0, 0)))
    (hlen : ls.length + 1 ≤ 1099511627776) (hB : B ≤ w.heap.size)
    (h : ∀ v' w', OL w' B v' (ls ++ [lf]) → w.grownBy w' v.ownBlock → wpList Tryd.prog ops Q rest (a.put o.dst v') w') : wpList Tryd.prog ops Q (o :: rest) a w := by
  obtain ⟨i0, hi, hz0, hz1, hz2⟩ := info_parts info_val
  refine wpList_append_own w hgd s x 60 ho B 62 i0 _ 4 56 under_vals hi hz0 hz1 hz2 rfl (by decide) v ls.length _ hs hown ⟨b, 0, none⟩ 1 1 lf.cells.toList hx (by rw [Array.length_toList, Leaf.size_cells]) (fun j u hu => ?_)
    (fun u hu => by cases lf <;> simp [Leaf.cells] at hu <;> rcases hu with rfl | rfl | rfl | rfl <;> rfl) (by unfold maxLen; omega) (by omega) hB (fun v' w' h5 h6 _ => h v' w' ?_ h6)
  · rw [Addr.add_lit, cell_of_row w b _ _ _ _ hrow, Nat.zero_add]; simpa using hu
  · unfold OL; rw [List.length_append, flat_append]; exact h5
end

/-- A slice of ints. -/
def IS (w : World) (v : Value) (ns : List Int) : Prop :=
  (v = .slice none 0 0 ∧ ns = []) ∨ ∃ b off cap, v = .slice (some ⟨b, off, none⟩) ns.length cap ∧ b < w.heap.size ∧ ∀ j n, ns[j]? = some n → w.cell? ⟨b, off + j, none⟩ = some (.int .i64 n)
theorem IS.below {w w' : World} {v : Value} {ns : List Int} (h : IS w v ns) (hb : Below w.heap.size w w') : IS w' v ns := by
  rcases h with h | ⟨b, off, cap, h1, h2, h3⟩
  · exact .inl h
  · exact .inr ⟨b, off, cap, h1, Nat.lt_of_lt_of_le h2 hb.size, fun j n hn => (hb.cell (p := ⟨b, off + j, none⟩) h2).trans (h3 j n hn)⟩
def ok64 (n : Int) : Prop := -9223372036854775808 ≤ n ∧ n ≤ 9223372036854775807

/-- What a label and numbers are written as. -/
def purp (label : ByteArray) (ns : List Int) : List Leaf := .text label :: ns.map .int
theorem purp_take (label : ByteArray) (ns : List Int) (k : Nat) (n : Int) (h : ns[k]? = some n) : purp label (ns.take (k + 1)) = purp label (ns.take k) ++ [.int n] := by
  unfold purp; rw [List.take_add_one, h]; simp
theorem length_enc_int (n : Int) (h : ok64 n) : (Leaf.int n).enc.length ≤ 11 := by
  have := length_numl_u64 (zz n) (zz_lt n h.1 h.2)
  simp [Leaf.enc]; omega
theorem length_encs_ints : ∀ ns : List Int, (∀ n ∈ ns, ok64 n) → (encs (ns.map Leaf.int)).length ≤ 11 * ns.length
  | [], _ => by simp [encs]
  | n :: t, h => by
    have h1 := length_enc_int n (h n (List.mem_cons_self ..))
    have h2 := length_encs_ints t (fun m hm => h m (List.mem_cons_of_mem _ hm))
    unfold encs at h2 ⊢
    simp only [List.map_cons, List.flatten_cons, List.length_append, List.length_cons]
    omega
theorem length_purp (label : ByteArray) (ns : List Int) (h : ∀ n ∈ ns, ok64 n) (h1 : label.size < 2 ^ 63) (h2 : ns.length < 2 ^ 60) : (encL (purp label ns)).length ≤ 30 + label.size + 11 * ns.length := by
  have e1 := length_numl_u64 (ns.length + 1) (by omega)
  have e2 := length_numl_u64 label.size (by omega)
  have e3 := length_encs_ints ns h
  unfold encL purp
  unfold encs at e3 ⊢
  simp only [List.length_cons, List.length_append, List.map_cons, List.flatten_cons, List.length_map, Leaf.enc, length_strB] at e3 ⊢
  omega
theorem purp_ok (label : ByteArray) (ns : List Int) (h : ∀ n ∈ ns, ok64 n) (h1 : label.size < 2 ^ 63) : ∀ lf ∈ purp label ns, lf.ok := by
  intro lf hlf
  unfold purp at hlf
  rcases List.mem_cons.1 hlf with rfl | hlf
  · exact h1
  · obtain ⟨n, hn, rfl⟩ := List.mem_map.1 hlf
    exact h n hn
end Chart
