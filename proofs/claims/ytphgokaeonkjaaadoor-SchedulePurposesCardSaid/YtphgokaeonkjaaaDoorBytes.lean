/- Slices of bytes: one that the call owns, append, a string's bytes. -/
import Derived.Test.YtphgokaeonkjaaaDoorSum
import Derived.Laws.AppendOwnNone
import Derived.Lib.ConvBytes
import Derived.Lib.AtoiErrMem
import Derived.Lib.AppendZeros
import Derived.Deep.AppendSrc
namespace Chart
open Go Go.RowKit Go.Proofs

theorem under_bytes : Tryd.prog.underlying 32 = some (.slice 5) := Tryd.underlying32
theorem info_byte : (Tryd.prog.info? 5).map (fun i => (i.zero, i.size, i.bytes)) = some (some (.int .u8 0), 1, 1) := by kernel_rfl

/-- A slice of bytes that lies in a row of the call's own (from block B on), at its head; or nil. -/
def OB (w : World) (B : Nat) (v : Value) (l : List (BitVec 8)) : Prop := w.ownsRow B 5 1 v l.length (l.map B8)

theorem OB.nil (w : World) (B : Nat) : OB w B (.slice none 0 0) [] := World.ownsRow_nil w B _ _
theorem OB.bs {w : World} {B : Nat} {v : Value} {l : List (BitVec 8)} (h : OB w B v l) : BS w v l := by
  rcases h.2 with ⟨h1, h2⟩ | ⟨g, cap, cur, h1, h2, h3, h4, h5, h6, h7⟩
  · exact .inl ⟨h1, List.eq_nil_of_length_eq_zero h2⟩
  · refine .inr ⟨g, 0, cap, h1, h4, h5, fun j x hx => ?_, (Array.getElem?_eq_some_iff.1 h3).1⟩
    rw [cell_of_row w g _ _ _ _ h3, Nat.zero_add]
    have hj : j < l.length := (List.getElem?_eq_some_iff.1 hx).1
    have : (cur.toList.take (l.length * 1))[j]? = some (B8 x) := by rw [h7, List.getElem?_map, hx]; rfl
    rw [List.getElem?_take_of_lt (by omega)] at this
    simpa using this
theorem OB.kept {w w' : World} {B : Nat} {v : Value} {l : List (BitVec 8)} {row : Option Nat} (h : OB w B v l) (hg : w.grownBy w' row) (hr : v.ownBlock = none ∨ v.ownBlock ≠ row) : OB w' B v l :=
  World.ownsRow.kept h hg hr
theorem OB.below {w w' : World} {B : Nat} {v : Value} {l : List (BitVec 8)} (h : OB w B v l) (hb : Below w.heap.size w w') : OB w' B v l :=
  h.kept (World.grownBy.of_below hb none) (by cases v.ownBlock <;> simp)
theorem OB.lt {w : World} {B : Nat} {v : Value} {l : List (BitVec 8)} (h : OB w B v l) : ∀ k, v.ownBlock = some k → B ≤ k ∧ k < w.heap.size := World.ownsRow.lt h

section
variable {ops : Array Oper} {rest : List Oper} {o : Oper} {a : Act} {w : World} {Q : Exit → Act → World → Prop}

/-- append(v, x...): bytes onto bytes of the call's own. -/
theorem app_bytes (hgd : o.guard = none) (s x : Operand) (ho : o.op = .call { callee := .builtin .append, args := #[s, x], argTypes := #[32, 32] })
    (B : Nat) (v : Value) (l : List (BitVec 8)) (hs : a.eval s = v) (hown : OB w B v l) (vx : Value) (m : List (BitVec 8)) (hx : a.eval x = vx) (hbs : BS w vx m)
    (hlen : l.length + m.length ≤ 140737488355328) (hB : B ≤ w.heap.size)
    (h : ∀ v' w', OB w' B v' (l ++ m) → w.grownBy w' v.ownBlock → wpList Tryd.prog ops Q rest (a.put o.dst v') w') : wpList Tryd.prog ops Q (o :: rest) a w := by
  obtain ⟨i0, hi, hz0, hz1, hz2⟩ := info_parts info_byte
  rcases hbs with ⟨rfl, rfl⟩ | ⟨b, off, cap, rfl, h1, h2, h3, h4⟩
  · refine wpList_append_own_none hgd s x 32 ho B 5 i0 1 under_bytes hi v l.length _ hs hown hx ?_
    refine h v w (by rw [List.append_nil]; exact hown) (.rf _ _)
  · refine wpList_append_own w hgd s x 32 ho B 5 i0 _ 1 1 under_bytes hi hz0 hz1 hz2 rfl (by decide) v l.length _ hs hown ⟨b, off, none⟩ m.length cap (m.map B8) hx (by simp) (fun j u hu => ?_)
      (fun u hu => by obtain ⟨y, _, rfl⟩ := List.mem_map.1 hu; rfl) (by unfold maxLen; omega) (by omega) hB (fun v' w' h5 h6 _ => h v' w' ?_ h6)
    · rw [List.getElem?_map] at hu
      cases hm : m[j]? with
      | none => rw [hm] at hu; cases hu
      | some y =>
        rw [hm] at hu; cases hu
        rw [Addr.add_lit]
        exact h3 j y hm
    · unfold OB; rw [List.length_append, List.map_append]; exact h5

/-- The bytes of a string. -/
def strB (s : ByteArray) : List (BitVec 8) := s.data.toList.map (·.toBitVec)
theorem length_strB (s : ByteArray) : (strB s).length = s.size := by unfold strB; rw [List.length_map, Array.length_toList]; rfl

theorem conv_bytes (hgd : o.guard = none) (x : Operand) (ho : o.op = .convert 9 32 x) (s : ByteArray) (hx : a.eval x = .string s) (hs : s.size ≤ maxLen)
    (h : ∀ v w', SB w' v (strB s) → Below w.heap.size w w' → wpList Tryd.prog ops Q rest (a.put o.dst v) w') : wpList Tryd.prog ops Q (o :: rest) a w := by
  refine wpList_plain hgd fun K hK => ?_
  unfold Oper.wp execOp
  have hr := Lib.run_convert_string_bytes (P := Tryd.prog) w 9 32 5 s Tryd.underlying9 under_bytes Tryd.underlying5
  simp only [ho, hx, Sem.run_bind, Sem.run_pure, Result.andThen_ok, hr]
  refine hK _ _ (h _ _ ⟨w.heap.size, 0, grownCap w s.size 0 5, by rw [length_strB], by rw [length_strB]; exact grownCap_ge _ _ _ _, grownCap_le_maxLen _ _ _ _ hs, fun j y hy => ?_, ?_⟩ (Lib.bytesWorld_below w _ s))
  · have hj : j < s.size := by rw [← length_strB]; exact (List.getElem?_eq_some_iff.1 hy).1
    rw [Nat.zero_add, Lib.bytesWorld_cell w _ s j hj]
    unfold strB at hy
    rw [List.getElem?_map] at hy
    cases hd : s.data.toList[j]? with
    | none => rw [hd] at hy; cases hy
    | some z =>
      rw [hd] at hy; cases hy
      rw [List.getD_eq_getElem?_getD, hd]
      rfl
  · rw [Lib.bytesWorld_size]; omega
end

set_option maxHeartbeats 400000 in
set_option maxRecDepth 100000 in
theorem grow_nil (n : Nat) (w : World) (hn : n ≤ 140737488355328) :
    Calls Tryd.prog 89 #[.slice none 0 0, .int .i64 n] w fun e w' => ∃ v, e = .returned v ∧ OB w' w.heap.size v [] ∧ Below w.heap.size w w' := by
  obtain ⟨i0, hi, hz0, hz1, hz2⟩ := info_parts info_byte
  go_enter Tryd.func89, Tryd.ntmps89
  by_cases h0 : n = 0
  · subst h0
    go_wp2
    go_ret
    exact ⟨_, rfl, OB.nil _ _, Below.refl _ _⟩
  · have hp : (0 : Int) < n := by omega
    have hr := Lib.run_append_nil_zeros (P := Tryd.prog) w 32 3 32 5 i0 (.int .u8 0) .i64 .i64 under_bytes Tryd.underlying3 hi hz0 n (by omega) (by omega) (by omega) (by rw [hz2]; omega)
    go_wp2_with (at_builtin; refine Lib.wpList_append_run _ rfl _ _ _ _ rfl _ _ rfl rfl _ _ hr ?_)
    go_ret
    have hge := grownCap_ge w n 0 5
    have hle := grownCap_le_maxLen w n 0 5 (by unfold maxLen; omega)
    refine ⟨_, rfl, ⟨by simp, .inr ⟨w.heap.size, _, _, rfl, Nat.le_refl _, heap_alloc_new w.drew _, Nat.zero_le _, hle, ?_, by simp⟩⟩, (Below.refl _ w).drew.alloc (Nat.le_refl _) _⟩
    simp [size_zeroCells]
    omega

/-- The slices of a list of slices of bytes. -/
def Parts (w : World) (b off : Nat) (vs : List (Value × List (BitVec 8))) : Prop := ∀ j p, vs[j]? = some p → w.cell? ⟨b, off + j, none⟩ = some p.1 ∧ BS w p.1 p.2
theorem Parts.below {w w' : World} {b off : Nat} {vs : List (Value × List (BitVec 8))} (h : Parts w b off vs) (hb : Below w.heap.size w w') : Parts w' b off vs :=
  fun j p hp => ⟨(hb.cell (p := ⟨b, off + j, none⟩) (World.block_lt_of_cell? w _ (h j p hp).1)).trans (h j p hp).1, (h j p hp).2.below hb⟩

def total (vs : List (Value × List (BitVec 8))) : List (BitVec 8) := (vs.map (·.2)).flatten
theorem total_take (vs : List (Value × List (BitVec 8))) (k : Nat) (p : Value × List (BitVec 8)) (h : vs[k]? = some p) : total (vs.take (k + 1)) = total (vs.take k) ++ p.2 := by
  unfold total; rw [List.take_add_one, h]; simp
theorem total_le (vs : List (Value × List (BitVec 8))) (k : Nat) : (total (vs.take k)).length ≤ (total vs).length := by
  have h : total vs = total (vs.take k) ++ total (vs.drop k) := by
    conv => lhs; rw [← List.take_append_drop k vs]
    unfold total; rw [List.map_append, List.flatten_append]
  rw [h, List.length_append]; omega

set_option maxHeartbeats 400000 in
set_option maxRecDepth 100000 in
theorem concat_any (b off n cap : Nat) (vs : List (Value × List (BitVec 8))) (w : World) (hn : vs.length = n) (hcap : cap ≤ maxLen) (hnc : n ≤ cap) (hp : Parts w b off vs) (hlen : (total vs).length ≤ 140737488355328) :
    Calls Tryd.prog 65 #[.slice (some ⟨b, off, none⟩) n cap] w fun e w' => ∃ v, e = .returned v ∧ OB w' w.heap.size v (total vs) ∧ Below w.heap.size w w' := by
  unfold maxLen at hcap
  go_enter Tryd.func65, Tryd.ntmps65
  go_wp2
  go_loop [3, 11] (fun s t => ∃ k : Nat, k ≤ n ∧ t = .int .i64 k ∧ s = .int .i64 ((total (vs.take k)).length : Nat)) (fun _ t => n - (intOf t).toNat)
  case atStart => exact ⟨0, by omega, rfl, rfl⟩
  case round =>
    obtain ⟨k, hk, rfl, rfl⟩ := hrel
    have hle := total_le vs k
    by_cases hlt : k < n
    · obtain ⟨p, hpk⟩ : ∃ p, vs[k]? = some p := ⟨vs[k]'(by omega), by simp [hn, hlt]⟩
      have hstep := total_take vs k p hpk
      have hle2 := total_le vs (k + 1)
      have hlen2 : (total (vs.take (k + 1))).length = (total (vs.take k)).length + p.2.length := by rw [hstep, List.length_append]
      obtain ⟨hc, hbs⟩ := hp k p hpk
      obtain ⟨v, l⟩ := p
      simp only at hc hbs hlen2
      generalize (total (vs.take k)).length = q at *
      have HL := Lib.hid hlen2
      have hb1 : q + l.length ≤ 140737488355328 := by omega
      clear hlen2 hstep hle2 hpk
      rcases hbs with ⟨rfl, rfl⟩ | ⟨b1, o1, c1, rfl, h1, h2, h3, h4⟩
      · go_wp2
        go_round
        case rel => exact ⟨k + 1, by omega, by go_num, by rw [HL.out]; simp⟩
        case measure => simp [intOf]; omega
      · go_wp2
        go_round
        case rel => exact ⟨k + 1, by omega, by go_num, by rw [HL.out]; go_num⟩
        case measure => simp [intOf]; omega
    · obtain rfl : k = n := by omega
      rw [List.take_of_length_le (by omega)]
      go_wp2_with (go_at_call 89; refine (grow_nil _ _ hlen).mono ?_; rintro e w1 ⟨v1, rfl, ho1, hb1⟩)
      have hp1 := hp.below hb1
      go_loopw [6, 27] (fun s t wr => ∃ j : Nat, j ≤ k ∧ t = .int .i64 j ∧ OB wr w.heap.size s (total (vs.take j)) ∧ Below w.heap.size w wr) (fun _ t _ => k - (intOf t).toNat)
      case atStart => exact ⟨0, by omega, rfl, ho1, hb1⟩
      case round =>
        clear ho1 hb1 hp1
        obtain ⟨j, hj, rfl, ho, hb⟩ := hrel
        have hle := total_le vs j
        by_cases hlt : j < k
        · obtain ⟨p, hpk⟩ : ∃ p, vs[j]? = some p := ⟨vs[j]'(by omega), by simp [hn, hlt]⟩
          have hstep := total_take vs j p hpk
          have hle2 := total_le vs (j + 1)
          rw [hstep, List.length_append] at hle2
          obtain ⟨hc, hbs⟩ := (hp.below hb) j p hpk
          obtain ⟨v, l⟩ := p
          simp only at hc hbs hstep hle2
          have HS := Lib.hid hstep
          clear hstep hpk
          go_wp2_with (at_builtin; refine app_bytes rfl _ _ rfl w.heap.size _ _ rfl ho _ _ rfl hbs (by omega) hb.size ?_; intro v' w' ho' hg')
          go_roundw
          case rel => exact ⟨j + 1, by omega, by go_num, by rw [HS.out]; exact ho', hb.grown hg' hb.size (fun k e => (ho.lt k e).1)⟩
          case measure => simp [intOf]; omega
        · obtain rfl : j = k := by omega
          rw [List.take_of_length_le (by omega)] at ho
          go_wp2
          go_ret
          exact ⟨_, rfl, ho, hb⟩

end Chart
