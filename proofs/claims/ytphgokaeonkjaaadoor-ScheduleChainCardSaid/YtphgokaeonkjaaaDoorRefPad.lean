/- The reference's padding. -/
import Derived.Test.YtphgokaeonkjaaaDoorTagged
namespace Chart
open Go Go.RowKit Go.Proofs

/-- A slice literal of one byte. -/
theorem BS.one (w : World) (b : Nat) (x : BitVec 8) (c : Value) (t : TypeId) (hb : w.heap.size = b) (hc : c = B8 x) : BS (w.alloc (.cells #[c] t)) (.slice (some ⟨b, 0, none⟩) 1 1) [x] := by
  subst hc hb
  refine .inr ⟨w.heap.size, 0, 1, rfl, Nat.le_refl _, by unfold maxLen; decide, fun j y hj => ?_, by simp⟩
  match j, hj with
  | 0, hj =>
    cases hj
    exact cell_of_row _ _ 0 _ _ _ (heap_alloc_new w (.cells #[B8 x] t))

/-- An empty slice literal. -/
theorem OB.empty (w : World) (B b : Nat) (hb : w.heap.size = b) (hB : B ≤ b) : OB (w.alloc (.cells #[] 5)) B (.slice (some ⟨b, 0, none⟩) 0 0) [] := by
  subst hb
  exact ⟨by simp, .inr ⟨w.heap.size, 0, #[], rfl, hB, heap_alloc_new w _, Nat.le_refl _, by unfold maxLen; omega, by simp, by simp⟩⟩

theorem OB.al {w : World} {B : Nat} {v : Value} {l : List (BitVec 8)} (h : OB w B v l) (o : Obj) : OB (w.alloc o) B v l := h.kept (World.grownBy_alloc w o none) (by cases v.ownBlock <;> simp)

theorem OB.lenV {w : World} {B : Nat} {v : Value} {l : List (BitVec 8)} (h : OB w B v l) : lenV v = l.length := by
  rcases h.2 with ⟨rfl, h2⟩ | ⟨g, cap, cur, rfl, _⟩
  · exact h2.symm
  · rfl
theorem OB.form {w : World} {B : Nat} {v : Value} {l : List (BitVec 8)} (h : OB w B v l) : ∃ a c, v = .slice a l.length c := by
  rcases h.2 with ⟨rfl, h2⟩ | ⟨g, cap, cur, rfl, _⟩
  · exact ⟨_, _, by rw [h2]⟩
  · exact ⟨_, _, rfl⟩

def padZ (n : Nat) : Nat := (119 - n % 64) % 64

set_option maxHeartbeats 2000000 in
set_option maxRecDepth 100000 in
theorem padded_any (v : Value) (l : List (BitVec 8)) (w : World) (hv : BS w v l) (hl : l.length + 128 ≤ 140737488355328) :
    Calls Tryd.prog 84 #[v] w fun e w' => ∃ v', e = .returned v' ∧ OB w' w.heap.size v' (padded l) ∧ Below w.heap.size w w' := by
  obtain ⟨va, vn, vc, rfl⟩ := hv.form
  have hvn : vn = l.length := by
    rcases hv with ⟨h, rfl⟩ | ⟨_, _, _, h, _⟩ <;> cases h <;> rfl
  subst hvn
  obtain ⟨B, hB⟩ : ∃ B, w.heap.size = B := ⟨_, rfl⟩
  rw [hB]
  have hB' : B ≤ w.heap.size := by omega
  go_enter Tryd.func84, Tryd.ntmps84
  go_wp2_with (at_builtin; first
    | (refine app_bytes rfl _ _ rfl B _ _ rfl (OB.empty w B _ hB (Nat.le_refl _)) _ _ rfl (hv.below ((Below.refl _ w).alloc (Nat.le_refl _) _)) (by simp; omega) (by simp; omega) ?_; intro v1 w1 ho1 hg1)
    | (refine app_bytes rfl _ _ rfl B _ _ rfl (ho1.al _) _ _ rfl (BS.one w1 _ 128#8 _ _ rfl rfl) (by simp; omega) (by have := hg1.size; simp at this ⊢; omega) ?_; intro v2 w2 ho2 hg2))
  have hb2 : Below B w w2 := (((((Below.refl B w).alloc hB' _).grown hg1 (by simp; omega) (fun k h => by cases h; exact Nat.le_refl _)).alloc (by have := hg1.size; simp at this ⊢; omega) _)).grown hg2 (by have := hg1.size; simp at this ⊢; omega) (fun k h => (ho1.lt k h).1)
  have hz : ∀ j, (l ++ [128#8] ++ List.replicate j 0#8).length = l.length + 1 + j := fun j => by simp; omega
  have h2z := hb2.size
  clear ho1 hg1 hg2
  go_loopw [3] (fun s wr => ∃ j : Nat, j ≤ (119 - l.length % 64) % 64 ∧ OB wr B s (l ++ [128#8] ++ List.replicate j 0#8) ∧ Below B w wr) (fun s _ => (119 - l.length % 64) % 64 + l.length + 1 - lenV s)
  case atStart => exact ⟨0, by omega, by simpa using ho2, hb2⟩
  case round =>
    clear ho2 hb2 h2z
    obtain ⟨j, hj, ho, hb⟩ := hrel
    have hlv := ho.lenV
    obtain ⟨sa, sc, rfl⟩ := ho.form
    have hbz := hb.size
    have hlen := hz j
    have hnext : l ++ [128#8] ++ List.replicate (j + 1) 0#8 = l ++ [128#8] ++ List.replicate j 0#8 ++ [0#8] := by rw [List.replicate_succ']; simp
    have HN := Lib.hid hnext
    generalize hL : l ++ [128#8] ++ List.replicate j 0#8 = L at *
    have HL := Lib.hid hL
    clear hL hnext
    by_cases hlt : j < (119 - l.length % 64) % 64
    · have hc : ¬ ((L.length : Int).tmod 64 = 56) := by rw [Int.tmod_eq_emod_of_nonneg (by omega), hlen]; omega
      go_wp2_with (at_builtin; refine app_bytes rfl _ _ rfl B _ _ rfl (ho.al _) _ _ rfl (BS.one wr _ 0#8 _ _ rfl rfl) (by simp; omega) (by simp; omega) ?_; intro v2 w2 ho2 hg2)
      have hbA := hb.alloc (by omega) (.cells #[.int .u8 0] 5)
      have hbG := hbA.grown hg2 (by simp; omega) (fun k h => (ho.lt k h).1)
      go_roundw
      case rel => exact ⟨j + 1, by omega, by rw [HN.out]; exact ho2, hbG⟩
      case measure => have := ho2.lenV; simp at this; simp [lenV] at this ⊢; omega
    · obtain rfl : j = (119 - l.length % 64) % 64 := by omega
      have hc : ((L.length : Int).tmod 64 = 56) := by rw [Int.tmod_eq_emod_of_nonneg (by omega), hlen]; omega
      have hp : padded l = L ++ be64 (BitVec.ofNat 64 (l.length * 8)) := by rw [padded, HL.out]
      have hLl : L.length ≤ 140737488355328 - 56 := by rw [hlen]; omega
      clear hlen HN HL hz hj hlt
      have HP := Lib.hid hp
      clear hp hlv
      go_wp2_with fail
      have hu : (l.length : Int) * 8 = U64 (BitVec.ofNat 64 (l.length * 8)) := by unfold U64; rw [BitVec.toNat_ofNat]; omega
      rw [hu]
      clear hu
      have h8 : ∀ n, (be64 (BitVec.ofNat 64 (l.length * 8))).take (n + 1) = (be64 (BitVec.ofNat 64 (l.length * 8))).take n ++ ((be64 (BitVec.ofNat 64 (l.length * 8)))[n]?).toList := fun n => by rw [List.take_add_one]
      generalize BitVec.ofNat 64 (l.length * 8) = x at *
      go_loopw [3, 5] (fun s t wr => ∃ m : Nat, m ≤ 8 ∧ t = .int .i64 (7 - m) ∧ OB wr B s (L ++ (be64 x).take m) ∧ Below B w wr) (fun _ t _ => (intOf t + 1).toNat)
      case atStart => exact ⟨0, by omega, rfl, by simpa using ho, hb⟩
      case round =>
        clear ho hb hbz
        obtain ⟨m, hm, rfl, ho, hb⟩ := hrel
        have hbz := hb.size
        have hlen : (L ++ (be64 x).take m).length = L.length + m := by simp [length_be64]; omega
        by_cases hlt : m < 8
        · have hnext : L ++ (be64 x).take (m + 1) = L ++ (be64 x).take m ++ [(x >>> (8 * (7 - m))).setWidth 8] := by
            rw [h8, List.append_assoc]
            congr 2
            simp [be64, hlt]
          have HN := Lib.hid hnext
          clear hnext h8
          generalize L ++ (be64 x).take m = M at *
          have i1 : (0 : Int) ≤ 7 - (m : Int) := by omega
          have i2 : (0 : Int) ≤ 8 * (7 - (m : Int)) := by omega
          go_wp2_with (at_builtin; refine app_bytes rfl _ _ rfl B _ _ rfl (ho.al _) _ _ rfl (BS.one wr _ _ _ _ rfl rfl) (by simp; omega) (by simp; omega) ?_; intro v2 w2 ho2 hg2)
          have hbG := (hb.alloc (show B ≤ wr.heap.size by omega) _).grown hg2 (by simp; omega) (fun k h => (ho.lt k h).1)
          go_roundw
          case rel => exact ⟨m + 1, by omega, by go_num, by rw [HN.out]; exact ho2, hbG⟩
          case measure => simp [intOf]; omega
        · obtain rfl : m = 8 := by omega
          rw [List.take_of_length_le (by simp [length_be64])] at ho
          go_wp2
          go_ret
          exact ⟨_, rfl, by rw [HP.out]; exact ho, hb⟩
end Chart
