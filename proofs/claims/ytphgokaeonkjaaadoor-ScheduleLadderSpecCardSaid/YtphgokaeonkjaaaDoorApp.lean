/- append onto bytes of the call's own, with what becomes of the row. -/
import Derived.Test.YtphgokaeonkjaaaDoorRefPad
import Derived.Lib.AppendStr
import Derived.Laws.OwnMore
namespace Chart
open Go Go.RowKit Go.Proofs

/-- What has become of a slice that is appended to: its row may have been written, or there is a new one. -/
structure Grew (w : World) (v : Value) (w' : World) (v' : Value) : Prop where
  grown : w.grownBy w' v.ownBlock
  chain : v'.ownBlock = v.ownBlock ∨ ∀ g, v'.ownBlock = some g → w.heap.size ≤ g

theorem Grew.refl (w : World) (v : Value) : Grew w v w v := ⟨.rf _ _, .inl rfl⟩
theorem Grew.trans {w w1 w2 : World} {v v1 v2 : Value} (h : Grew w v w1 v1) (k : Grew w1 v1 w2 v2) : Grew w v w2 v2 := by
  constructor
  · rcases h.chain with hc | hc
    · have := k.grown
      rw [hc] at this
      exact h.grown.tr this
    · cases hv : v1.ownBlock with
      | none => have := k.grown; rw [hv] at this; exact h.grown.tr (this.any _)
      | some g => have := k.grown; rw [hv] at this; exact h.grown.own this (hc g hv)
  · rcases k.chain with kc | kc
    · rw [kc]; exact h.chain
    · exact .inr fun g hg => Nat.le_trans h.grown.size (kc g hg)
theorem Grew.al {w w2 : World} {v v2 : Value} {o : Obj} (k : Grew (w.alloc o) v w2 v2) : Grew w v w2 v2 :=
  Grew.trans ⟨World.grownBy.any (World.grownBy_alloc w o none) _, .inl rfl⟩ k
theorem Grew.below {w w' : World} {v v' : Value} (h : Grew w v w' v') {B : Nat} {l : List (BitVec 8)} (hB : B ≤ w.heap.size) (hv : OB w B v l) : Below B w w' :=
  h.grown.below hB (fun k e => (hv.lt k e).1)
theorem Grew.quiet {w w1 w2 : World} {v v1 : Value} (h : Grew w v w1 v1) (k : Below w1.heap.size w1 w2) : Grew w v w2 v1 :=
  ⟨h.grown.tr (World.grownBy.of_below k _), h.chain⟩
theorem Grew.ahead {w w1 w2 : World} {v v2 : Value} (h : Below w.heap.size w w1) (k : Grew w1 v w2 v2) : Grew w v w2 v2 :=
  ⟨(World.grownBy.of_below h _).tr k.grown, k.chain.imp id fun h' g hg => Nat.le_trans h.size (h' g hg)⟩

theorem run_app (w : World) (B : Nat) (v : Value) (l : List (BitVec 8)) (hown : OB w B v l) (vx : Value) (m : List (BitVec 8)) (hbs : BS w vx m)
    (hlen : l.length + m.length ≤ 140737488355328) (hB : B ≤ w.heap.size) (ty : TypeId) :
    ∃ v' w', (Builtin.append_ #[32, 32] ty #[v, vx]).run Tryd.prog w = .ok v' w' ∧ OB w' B v' (l ++ m) ∧ Grew w v w' v' := by
  obtain ⟨i0, hi, hz0, hz1, hz2⟩ := info_parts info_byte
  rcases hbs with ⟨rfl, rfl⟩ | ⟨b, off, cap, rfl, h1, h2, h3, h4⟩
  · exact ⟨v, w, run_append_owned_none w B _ ty _ i0 1 under_bytes hi v l.length _ hown, by rw [List.append_nil]; exact hown, .refl _ _⟩
  · have hnews : ∀ j u, (m.map B8)[j]? = some u → w.cell? ((⟨b, off, none⟩ : Addr).add j) = some u := fun j u hu => by
      rw [List.getElem?_map] at hu
      cases hm : m[j]? with
      | none => rw [hm] at hu; cases hu
      | some y => rw [hm] at hu; cases hu; rw [Addr.add_lit]; exact h3 j y hm
    have hone : ∀ u ∈ m.map B8, u.oneCell' = true := fun u hu => by obtain ⟨y, _, rfl⟩ := List.mem_map.1 hu; rfl
    have hml : l.length + m.length ≤ maxLen := by unfold maxLen; omega
    obtain ⟨v', w', hr, ho, hg, _⟩ := run_append_own (P := Tryd.prog) w B _ ty _ i0 _ 1 1 under_bytes hi hz0 hz1 hz2 rfl (by decide) v l.length _ hown ⟨b, off, none⟩ m.length cap (m.map B8) (by simp) hnews hone hml (by omega) hB
    refine ⟨v', w', hr, by unfold OB; rw [List.length_append, List.map_append]; exact ho, hg, ?_⟩
    rcases hown.2 with ⟨rfl, h0⟩ | ⟨g, cap', cur, rfl, hbg, hgh, hnc, hcm, hcs, htake⟩
    · refine .inr fun g hgv => ?_
      obtain ⟨v2, w2, hr2, ho2, _, _⟩ := run_append_own (P := Tryd.prog) w w.heap.size _ ty _ i0 _ 1 1 under_bytes hi hz0 hz1 hz2 rfl (by decide) (.slice none 0 0) 0 [] (World.ownsRow_nil w _ _ _) ⟨b, off, none⟩ m.length cap (m.map B8) (by simp) hnews hone (by omega) (by omega) (Nat.le_refl _)
      rw [hr] at hr2
      cases hr2
      exact (World.ownsRow.lt ho2 g hgv).1
    · by_cases hroom : l.length + m.length ≤ cap'
      · have hr2 := run_append_room (P := Tryd.prog) w _ ty _ i0 under_bytes hi g l.length cap' cur hgh ⟨b, off, none⟩ m.length cap (m.map B8) (by rw [hz1]; simp) hnews hone hroom (by rw [hz1, List.length_map]; omega)
        rw [hr] at hr2
        cases hr2
        exact .inl rfl
      · have holds : ∀ j u, (l.map B8)[j]? = some u → w.cell? ((⟨g, 0, none⟩ : Addr).add j) = some u := World.ownsRow.cells hown (g := g) rfl
        have hr2 := run_append_grow (P := Tryd.prog) w _ ty _ i0 _ under_bytes hi hz0 ⟨g, 0, none⟩ l.length cap' (l.map B8) (by rw [hz1]; simp) holds ⟨b, off, none⟩ m.length cap (m.map B8) (by rw [hz1]; simp) hnews (by omega) (by omega) (growslice_fits (by omega) (by rw [hz2]; omega))
        rw [hr] at hr2
        cases hr2
        exact .inr fun g' hg' => by cases hg'; exact Nat.le_refl _

theorem strCells_B8 (s : ByteArray) : Lib.strCells s = (strB s).map B8 := by
  unfold Lib.strCells strB
  simp only [List.map_map]
  apply List.map_congr_left
  intro b _
  rfl

theorem run_app_str (w : World) (B : Nat) (v : Value) (l : List (BitVec 8)) (hown : OB w B v l) (s : ByteArray)
    (hlen : l.length + s.size ≤ 140737488355328) (hB : B ≤ w.heap.size) (ty : TypeId) :
    ∃ v' w', (Builtin.append_ #[32, 9] ty #[v, .string s]).run Tryd.prog w = .ok v' w' ∧ OB w' B v' (l ++ strB s) ∧ Grew w v w' v' := by
  obtain ⟨i0, hi, hz0, hz1, hz2⟩ := info_parts info_byte
  have hsl := length_strB s
  have hus := Tryd.underlying9
  obtain ⟨v', w', hr, ho, hg, _⟩ := Lib.run_append_own_string (P := Tryd.prog) w B _ _ ty _ i0 under_bytes hus hi hz0 hz1 hz2 v l.length _ hown s (by unfold maxLen; omega) hlen hB
  refine ⟨v', w', hr, by unfold OB; rw [List.length_append, List.map_append, hsl, ← strCells_B8]; exact ho, hg, ?_⟩
  rcases hown.2 with ⟨rfl, h0⟩ | ⟨g, cap', cur, rfl, hbg, hgh, hnc, hcm, hcs, htake⟩
  · refine .inr fun g hgv => ?_
    obtain ⟨v2, w2, hr2, ho2, _, _⟩ := Lib.run_append_own_string (P := Tryd.prog) w w.heap.size _ _ ty _ i0 under_bytes hus hi hz0 hz1 hz2 (.slice none 0 0) 0 [] (World.ownsRow_nil w _ _ _) s (by unfold maxLen; omega) (by omega) (Nat.le_refl _)
    rw [hr] at hr2
    cases hr2
    exact (World.ownsRow.lt ho2 g hgv).1
  · by_cases hroom : l.length + s.size ≤ cap'
    · have hr2 := Lib.run_append_room_string (P := Tryd.prog) w _ _ ty _ i0 under_bytes hus hi hz1 g l.length cap' cur hgh s hroom (by omega)
      rw [hr] at hr2
      cases hr2
      exact .inl rfl
    · have holds : ∀ j u, (l.map B8)[j]? = some u → w.cell? ((⟨g, 0, none⟩ : Addr).add j) = some u := World.ownsRow.cells hown (g := g) rfl
      have hr2 := Lib.run_append_grow_string (P := Tryd.prog) w _ _ ty _ i0 _ under_bytes hus hi hz0 ⟨g, 0, none⟩ l.length cap' (l.map B8) (by rw [hz1]; simp) holds s (by omega) (by omega) (growslice_fits (by omega) (by rw [hz2]; omega))
      rw [hr] at hr2
      cases hr2
      exact .inr fun g' hg' => by cases hg'; exact Nat.le_refl _

section
variable {ops : Array Oper} {rest : List Oper} {o : Oper} {a : Act} {w : World} {Q : Exit → Act → World → Prop}
theorem app2 (hgd : o.guard = none) (s x : Operand) (ho : o.op = .call { callee := .builtin .append, args := #[s, x], argTypes := #[32, 32] })
    (B : Nat) (v : Value) (l : List (BitVec 8)) (hs : a.eval s = v) (hown : OB w B v l) (vx : Value) (m : List (BitVec 8)) (hx : a.eval x = vx) (hbs : BS w vx m)
    (hlen : l.length + m.length ≤ 140737488355328) (hB : B ≤ w.heap.size)
    (h : ∀ v' w', OB w' B v' (l ++ m) → Grew w v w' v' → wpList Tryd.prog ops Q rest (a.put o.dst v') w') : wpList Tryd.prog ops Q (o :: rest) a w := by
  obtain ⟨v', w', hr, h1, h2⟩ := run_app w B v l hown vx m hbs hlen hB o.type
  exact Lib.wpList_append_run w hgd s x _ _ ho v vx hs hx v' w' hr (h v' w' h1 h2)
theorem app2_str (hgd : o.guard = none) (s x : Operand) (ho : o.op = .call { callee := .builtin .append, args := #[s, x], argTypes := #[32, 9] })
    (B : Nat) (v : Value) (l : List (BitVec 8)) (hs : a.eval s = v) (hown : OB w B v l) (str : ByteArray) (hx : a.eval x = .string str)
    (hlen : l.length + str.size ≤ 140737488355328) (hB : B ≤ w.heap.size)
    (h : ∀ v' w', OB w' B v' (l ++ strB str) → Grew w v w' v' → wpList Tryd.prog ops Q rest (a.put o.dst v') w') : wpList Tryd.prog ops Q (o :: rest) a w := by
  obtain ⟨v', w', hr, h1, h2⟩ := run_app_str w B v l hown str hlen hB o.type
  exact Lib.wpList_append_run w hgd s x _ _ ho v _ hs hx v' w' hr (h v' w' h1 h2)
end
end Chart
