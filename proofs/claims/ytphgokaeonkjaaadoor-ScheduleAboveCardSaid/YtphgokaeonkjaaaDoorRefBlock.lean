/- The reference's block is SHA-256's compression. -/
import Derived.Test.YtphgokaeonkjaaaDoorAbsorb
import Derived.Deep.RegionHeld3
import Derived.Deep.DrawnRows
import Derived.Great.BuildSlice
import Derived.Test.YtphgokaeonkjaaaDoorQt
namespace Chart
open Go Go.RowKit Go.Proofs
attribute [local go_sem ↓] Go.wp_at_zero Go.wp_at_succ

@[local go_sem ↓] theorem u32_not (a : BitVec 32) : bits .xor .u32 (if IntKind.u32.signed = true then -1 else IntKind.u32.max) (U32 a) = U32 (~~~a) := by
  rw [show (if IntKind.u32.signed = true then (-1 : Int) else IntKind.u32.max) = U32 (BitVec.allOnes 32) from rfl, u32_xor, BitVec.allOnes_xor]

theorem refword_list (b off len cap : Nat) (l : List (BitVec 8)) (w : World) (hl4 : l.length = 4) (hl : 4 ≤ len) (hm : len ≤ maxLen) (hb : BytesAt w b off l) :
    Calls Tryd.prog 112 #[.slice (some ⟨b, off, none⟩) len cap] w fun e w' => e = .returned (B32 (wd l)) ∧ ∃ n, w.drewN n = w' := by
  match l, hl4 with
  | [x0, x1, x2, x3], _ => exact refword_any b off len cap x0 x1 x2 x3 w hl hm hb

set_option maxRecDepth 100000 in
/-- The reference's table of numbers. -/
theorem refnumbers_any (w : World) : Calls Tryd.prog 114 #[] w fun e w' => e = .returned (.agg (wCells 64 KS)) ∧ Below w.heap.size w w' := by
  obtain ⟨bs, hbs⟩ : ∃ bs, w.heap.size = bs := ⟨_, rfl⟩
  rw [hbs]
  go_enter Tryd.func114, Tryd.ntmps114
  go_wp2_with (first
    | refine wpList_buildTo rfl 122 _ rfl (some 1) rfl (wCells 64 KS) (by kernel_rfl) ?_
    | refine st_new rfl 122 _ _ rfl (wCells 64 KS) _ 122 (by show Value.pointer _ = Value.pointer _; simp [hbs]) rfl (by kernel_rfl) (by kernel_rfl) (by kernel_rfl) ?_)
  have hrow : (w.alloc (.cells (wCells 64 KS) 122)).heap[bs]? = some (.cells (wCells 64 KS) 122 (0, 0)) := by rw [← hbs]; exact heap_alloc_new w _
  exact bodyPost_ret (results_cell_row rfl _ _ bs 122 _ (0, 0) _ rfl hrow Tryd.underlying122 rfl (by kernel_rfl)) rfl ⟨rfl, by rw [← hbs]; exact (World.grownBy_alloc w _ none).below (Nat.le_refl _) (by simp)⟩

set_option maxHeartbeats 20000000 in
set_option maxRecDepth 100000 in
theorem refblock_any (b off len cap : Nat) (s : St) (l : List (BitVec 8)) (w : World)
    (hl : l.length = 64) (hb : BytesAt w b off l) (hblt : b < w.heap.size) (hcap : 64 ≤ len) (hm : cap ≤ maxLen) (hlc : len ≤ cap) :
    Calls Tryd.prog 85 #[.agg (stCells s), .slice (some ⟨b, off, none⟩) len cap] w fun e w' =>
      e = .returned (.agg (stCells (s.compress l))) ∧ Below w.heap.size w w' := by
  unfold maxLen at hm
  have hlw := length_words l
  obtain ⟨bs, hbs⟩ : ∃ bs, w.heap.size = bs := ⟨_, rfl⟩
  rw [hbs] at hblt ⊢
  go_enter Tryd.func85, Tryd.ntmps85
  unfold stCells
  go_wp2_with (first
    | refine wpList_buildTo rfl 122 #[] rfl (some 22) rfl (wCells 64 []) (by kernel_rfl) ?_
    | refine st_new rfl 122 _ _ rfl (wCells 64 []) _ 122 (by show Value.pointer _ = Value.pointer _; simp [hbs]) rfl (by kernel_rfl) (by kernel_rfl) (by kernel_rfl) ?_)
  have hw2 : Below bs w ((w.alloc (.cells #[B32 s.a, B32 s.b, B32 s.c, B32 s.d, B32 s.e, B32 s.f, B32 s.g, B32 s.h] 87)).alloc (.cells (wCells 8 []) 87)) := by
    rw [← hbs]; exact ((World.grownBy_alloc w _ none).al _).below (Nat.le_refl _) (by simp)
  have hs2 : ((w.alloc (.cells #[B32 s.a, B32 s.b, B32 s.c, B32 s.d, B32 s.e, B32 s.f, B32 s.g, B32 s.h] 87)).alloc (.cells (wCells 8 []) 87)).heap[bs]? = some (.cells (stCells s) 87 (0, 0)) :=
    (Below.heap_alloc _ _ bs (by simp [hbs])).trans (by rw [← hbs]; exact heap_alloc_new w _)
  have hr2 : ((w.alloc (.cells #[B32 s.a, B32 s.b, B32 s.c, B32 s.d, B32 s.e, B32 s.f, B32 s.g, B32 s.h] 87)).alloc (.cells (wCells 8 []) 87)).heap[bs + 1]? = some (.cells (wCells 8 []) 87 (0, 0)) := by
    have := heap_alloc_new (w.alloc (.cells #[B32 s.a, B32 s.b, B32 s.c, B32 s.d, B32 s.e, B32 s.f, B32 s.g, B32 s.h] 87)) (.cells (wCells 8 []) 87)
    simpa [hbs] using this
  have hz2 : ((w.alloc (.cells #[B32 s.a, B32 s.b, B32 s.c, B32 s.d, B32 s.e, B32 s.f, B32 s.g, B32 s.h] 87)).alloc (.cells (wCells 8 []) 87)).heap.size = bs + 1 + 1 := by simp [hbs]
  have h8 : wCells 8 [] = #[Value.int IntKind.u32 0, Value.int IntKind.u32 0, Value.int IntKind.u32 0, Value.int IntKind.u32 0, Value.int IntKind.u32 0, Value.int IntKind.u32 0, Value.int IntKind.u32 0, Value.int IntKind.u32 0] := rfl
  rw [← h8]
  generalize ((w.alloc (.cells #[B32 s.a, B32 s.b, B32 s.c, B32 s.d, B32 s.e, B32 s.f, B32 s.g, B32 s.h] 87)).alloc (.cells (wCells 8 []) 87)) = w2 at *
  clear h8
  replace hb : BytesAt w2 b off l := fun j x hx => (hw2.cell (by simpa using hblt)).trans (hb j x hx)
  obtain ⟨bw, hbw⟩ : ∃ bw, bs + 1 + 1 = bw := ⟨_, rfl⟩
  rw [hbw] at hz2
  rw [hbw]
  obtain ⟨br, hbr⟩ : ∃ br, bs + 1 = br := ⟨_, rfl⟩
  rw [hbr] at hr2 hbw
  rw [hbr]
  go_loopw [6] (fun t wr => ∃ k : Nat, k ≤ 16 ∧ t = .int .i64 k ∧ w2.grownBy wr none ∧ wr.heap[bw]? = some (.cells (wCells 64 ((words l).take k)) 122 (0, 0))) (fun t _ => 16 - (intOf t).toNat)
  case atStart => exact ⟨0, Nat.zero_le _, rfl, World.grownBy_alloc _ _ _, by rw [← hz2]; exact heap_alloc_new w2 _⟩
  case round =>
    obtain ⟨k, hk, rfl, hg, hh⟩ := hrel
    by_cases hlt : k < 16
    · obtain ⟨ws, hws⟩ : ∃ ws, (l.drop (4 * k)).take 4 = ws := ⟨_, rfl⟩
      have hwl : ws.length = 4 := by rw [← hws]; simp; omega
      have hbr' : BytesAt wr b (off + 4 * k) ws := by rw [← hws]; exact ((hb.grown hg (by simp)).drop _).take _
      have hcell : wr.cell? ⟨bw, k, none⟩ = some (B32 0) := by
        rw [cell_of_row wr bw k _ _ _ hh, wCells_zero _ _ _ (by simp; omega) (by omega)]
        rfl
      have hfr : wr.frozen? ⟨bw, k, none⟩ = false := frozen_of_row wr bw k _ _ hh
      have hcap4 : ¬ (cap = 4 * k) := by omega
      have HW := Lib.hid hws
      clear hws
      go_wp2_with fail
      refine (refword_list _ _ _ _ ws _ hwl (by omega) (by unfold maxLen; omega) hbr').mono ?_
      rintro e w' ⟨rfl, n, rfl⟩
      go_wp2_with fail
      go_roundw
      case rel =>
        refine ⟨k + 1, by omega, by go_num, (hg.drN n).set _ _ _ (.inl (by omega)), ?_⟩
        rw [heap_setCell_same _ _ _ _ _ _ (by simpa using hh)]
        have hk' : k = ((words l).take k).length := by simp; omega
        have := wCells_set 64 ((words l).take k) (wd ws) (by simp; omega)
        rw [← hk'] at this
        rw [this, List.take_add_one]
        simp [words, ← HW.out, show k < 16 by omega]
      case measure => simp [intOf]; omega
    · obtain rfl : k = 16 := by omega
      rw [List.take_of_length_le (by omega)] at hh
      clear hlt hk
      rw [show ((16 : Nat) : Int) = 16 from rfl]
      go_wp2_with fail
      go_loopw [7] (fun t wr => ∃ k : Nat, 16 ≤ k ∧ k ≤ 64 ∧ t = .int .i64 k ∧ w2.grownBy wr none ∧ wr.heap[bw]? = some (.cells (wCells 64 (grow (words l) (k - 16))) 122 (0, 0))) (fun t _ => 64 - (intOf t).toNat)
      case atStart => exact ⟨16, by omega, by omega, rfl, hg, hh⟩
      case round =>
        clear hh hg
        obtain ⟨k, hk0, hk, rfl, hg, hh⟩ := hrel
        by_cases hlt : k < 64
        · obtain ⟨G, hG⟩ : ∃ G, grow (words l) (k - 16) = G := ⟨_, rfl⟩
          have hGl : G.length = k := by rw [← hG, length_grow]; omega
          have hnext : grow (words l) (k + 1 - 16) = G ++ [nextw G] := by rw [show k + 1 - 16 = (k - 16) + 1 by omega, grow, hG]
          rw [hG] at hh
          clear hG
          have cell : ∀ j, j < k → wr.cell? ⟨bw, j, none⟩ = some (B32 (G.getD j 0)) := fun j hj => by rw [cell_of_row wr bw j _ _ _ hh, wCells_get _ _ _ (by omega)]
          have c15 := cell (k - 15) (by omega)
          have c2 := cell (k - 2) (by omega)
          have c16 := cell (k - 16) (by omega)
          have c7 := cell (k - 7) (by omega)
          clear cell
          generalize hx15 : G.getD (k - 15) 0 = x15 at *
          generalize hx2 : G.getD (k - 2) 0 = x2 at *
          generalize hx16 : G.getD (k - 16) 0 = x16 at *
          generalize hx7 : G.getD (k - 7) 0 = x7 at *
          have cz : wr.cell? ⟨bw, k, none⟩ = some (.int .u32 0) := by rw [cell_of_row wr bw k _ _ _ hh, wCells_zero _ _ _ (by omega) (by omega)]
          have hfr : wr.frozen? ⟨bw, k, none⟩ = false := frozen_of_row wr bw k _ _ hh
          have H15 := Lib.hid hx15; have H2 := Lib.hid hx2; have H16 := Lib.hid hx16; have H7 := Lib.hid hx7; have HN := Lib.hid hnext; have HG := Lib.hid hGl
          clear hx15 hx2 hx16 hx7 hnext hGl
          have i1 : (0 : Int) ≤ (k : Int) - 15 := by omega
          have i2 : (k : Int) - 15 < 64 := by omega
          have i3 : (0 : Int) ≤ (k : Int) - 2 := by omega
          have i4 : (k : Int) - 2 < 64 := by omega
          have i5 : (0 : Int) ≤ (k : Int) - 16 := by omega
          have i6 : (k : Int) - 16 < 64 := by omega
          have i7 : (0 : Int) ≤ (k : Int) - 7 := by omega
          have i8 : (k : Int) - 7 < 64 := by omega
          have i9 : (0 : Int) ≤ (k : Int) := by omega
          have i10 : (k : Int) < 64 := by omega
          have i11 : (16 : Int) ≤ k := by omega
          have i12 : (7 : Int) ≤ k := by omega
          have i13 : (15 : Int) ≤ k := by omega
          have i14 : (2 : Int) ≤ k := by omega
          go_wp2_with fail
          refine wp_region_quiet_drew 29 (by kernel_rfl) (by kernel_rfl) ?_
          simp only [List.take_succ_cons, List.take_zero, List.drop_succ_cons, List.drop_zero]
          have e16 : IntKind.i64.wrap ((k : Int) - 16) = (k : Int) - 16 := IntWalk.i64_in _ (by omega)
          have e7 : IntKind.i64.wrap ((k : Int) - 7) = (k : Int) - 7 := IntWalk.i64_in _ (by omega)
          have t16 : ((k : Int) - 16).toNat = k - 16 := by omega
          have t7 : ((k : Int) - 7).toNat = k - 7 := by omega
          repeat (quiet_step ((go_at_call 113; exact quiet_d (ror_any _ _ _ (by omega) (by omega)))))
          clear e16 e7 t16 t7
          refine wpQuiet_nil ?_
          rintro _ ⟨nq, rfl⟩
          go_wp2_with fail
          go_roundw
          case rel =>
            refine ⟨k + 1, by omega, by omega, by go_num, (hg.drN _).set _ _ _ (.inl (by omega)), ?_⟩
            rw [heap_setCell_same _ _ _ _ _ _ (by simpa using hh), HN.out, ← wCells_set 64 G _ (by have := HG.out; omega), HG.out]
            congr 4
            simp only [nextw, HG.out, H15.out, H2.out, H16.out, H7.out, sg0, sg1]
          case measure => simp [intOf]; omega
        · obtain rfl : k = 64 := by omega
          clear hlt hk hk0
          rw [show ((64 : Nat) : Int) = 64 from rfl]
          go_wp2_with fail
          refine (refnumbers_any _).mono ?_
          rintro e w' ⟨rfl, hbel⟩
          replace hg := hg.tr (World.grownBy.of_below hbel none)
          have hsz : bw < wr.heap.size := (Array.getElem?_eq_some_iff.1 hh).1
          replace hh := (hbel.block _ hsz).trans hh
          have hsz' := Nat.lt_of_lt_of_le hsz hbel.size
          clear hsz hbel
          obtain ⟨W, hW⟩ : ∃ W, grow (words l) (64 - 16) = W := ⟨_, rfl⟩
          rw [hW] at hh
          have hWl : W.length = 64 := by rw [← hW, length_grow]; omega
          obtain ⟨bk, hbk⟩ : ∃ bk, w'.heap.size = bk := ⟨_, rfl⟩
          rw [hbk] at hsz'
          go_wp2_with (refine st_new rfl 122 _ _ rfl (wCells 64 KS) _ 122 (by show Value.pointer _ = Value.pointer _; rw [hbk]) rfl (by kernel_rfl) (by kernel_rfl) (by kernel_rfl) ?_)
          have hk3 : (w'.alloc (.cells (wCells 64 KS) 122)).heap[bk]? = some (.cells (wCells 64 KS) 122 (0, 0)) := by rw [← hbk]; exact heap_alloc_new w' _
          have hh3 : (w'.alloc (.cells (wCells 64 KS) 122)).heap[bw]? = some (.cells (wCells 64 W) 122 (0, 0)) := (Below.heap_alloc _ _ _ (by omega)).trans hh
          replace hg := hg.al (.cells (wCells 64 KS) 122)
          clear hbk hh
          generalize w'.alloc (.cells (wCells 64 KS) 122) = w3 at *
          have hs3 : w3.heap[bs]? = some (.cells #[B32 s.a, B32 s.b, B32 s.c, B32 s.d, B32 s.e, B32 s.f, B32 s.g, B32 s.h] 87 (0, 0)) := (hg.block bs (by omega) (by simp)).trans hs2
          have v0 : w3.cell? ⟨bs, 0, none⟩ = some (B32 s.a) := cell_of_row w3 bs 0 _ _ _ hs3
          have v1 : w3.cell? ⟨bs, 1, none⟩ = some (B32 s.b) := cell_of_row w3 bs 1 _ _ _ hs3
          have v2 : w3.cell? ⟨bs, 2, none⟩ = some (B32 s.c) := cell_of_row w3 bs 2 _ _ _ hs3
          have v3 : w3.cell? ⟨bs, 3, none⟩ = some (B32 s.d) := cell_of_row w3 bs 3 _ _ _ hs3
          have v4 : w3.cell? ⟨bs, 4, none⟩ = some (B32 s.e) := cell_of_row w3 bs 4 _ _ _ hs3
          have v5 : w3.cell? ⟨bs, 5, none⟩ = some (B32 s.f) := cell_of_row w3 bs 5 _ _ _ hs3
          have v6 : w3.cell? ⟨bs, 6, none⟩ = some (B32 s.g) := cell_of_row w3 bs 6 _ _ _ hs3
          have v7 : w3.cell? ⟨bs, 7, none⟩ = some (B32 s.h) := cell_of_row w3 bs 7 _ _ _ hs3
          have HW := Lib.hid hW
          clear hW hs3
          go_quiet (fail)
          clear v0 v1 v2 v3 v4 v5 v6 v7
          go_wp2_with fail
          go_loopw [19, 11, 12, 13, 14, 15, 16, 17, 18] (fun t xa xb xc xd xe xf xg xh wr => ∃ (k : Nat) (V : St), k ≤ 64 ∧ t = .int .i64 k ∧ V = s.rounds W k ∧ xa = B32 V.a ∧ xb = B32 V.b ∧ xc = B32 V.c ∧ xd = B32 V.d ∧ xe = B32 V.e ∧ xf = B32 V.f ∧ xg = B32 V.g ∧ xh = B32 V.h ∧ w2.grownBy wr none ∧ wr.heap[bw]? = some (.cells (wCells 64 W) 122 (0, 0)) ∧ wr.heap[bk]? = some (.cells (wCells 64 KS) 122 (0, 0)) ∧ bk < wr.heap.size) (fun t _ _ _ _ _ _ _ _ _ => 64 - (intOf t).toNat)
          case atStart => exact ⟨0, s, by omega, rfl, rfl, rfl, rfl, rfl, rfl, rfl, rfl, rfl, rfl, hg.drN _, by simpa using hh3, by simpa using hk3, (Array.getElem?_eq_some_iff.1 hk3).1⟩
          case round =>
            clear hh3 hk3 hg
            obtain ⟨k, V, hk, rfl, hV, rfl, rfl, rfl, rfl, rfl, rfl, rfl, rfl, hg, hh, hkk, hsz⟩ := hrel
            by_cases hlt : k < 64
            · have cw : wr.cell? ⟨bw, k, none⟩ = some (B32 (W.getD k 0)) := by rw [cell_of_row wr bw k _ _ _ hh, wCells_get _ _ _ (by omega)]
              have ck : wr.cell? ⟨bk, k, none⟩ = some (B32 (KS.getD k 0)) := by rw [cell_of_row wr bk k _ _ _ hkk, wCells_get _ _ _ (by exact hlt)]
              have hnext : s.rounds W (k + 1) = V.rnd (KS.getD k 0) (W.getD k 0) := by rw [St.rounds, hV]
              have HN := Lib.hid hnext
              clear hnext hV
              generalize W.getD k 0 = Wk at *
              generalize KS.getD k 0 = Kk at *
              have i1 : (0 : Int) ≤ (k : Int) := by omega
              have i2 : (k : Int) < 64 := by omega
              go_wp2_with fail
              go_quiet ((go_at_call 113; exact quiet_d (ror_any _ _ _ (by omega) (by omega))))
              obtain ⟨n1, rfl⟩ : ∃ n1, n1 = nq := ⟨_, rfl⟩
              rw [show V.h + (rr V.e 6 ^^^ rr V.e 11 ^^^ rr V.e 25) + ((V.e &&& V.f) ^^^ (~~~V.e &&& V.g)) + Kk + Wk = V.p Kk Wk from rfl]
              obtain ⟨pp, hpp⟩ : ∃ pp, V.p Kk Wk = pp := ⟨_, rfl⟩
              rw [hpp]
              have HP := Lib.hid hpp
              clear hpp
              go_wp2_with fail
              refine (ror_any _ _ _ (by omega) (by omega)).mono ?_
              rintro _ _ ⟨rfl, n2, rfl⟩
              go_wp2_with fail
              refine (ror_any _ _ _ (by omega) (by omega)).mono ?_
              rintro _ _ ⟨rfl, n3, rfl⟩
              go_wp2_with fail
              refine (ror_any _ _ _ (by omega) (by omega)).mono ?_
              rintro _ _ ⟨rfl, n4, rfl⟩
              go_wp2_with fail
              go_roundw
              case rel =>
                refine ⟨k + 1, V.rnd Kk Wk, by omega, by go_num, HN.out.symm, ?_, rfl, rfl, rfl, ?_, rfl, rfl, rfl, hg.drN _, by simpa using hh, by simpa using hkk, by simpa using hsz⟩
                · rw [← HP.out]; rfl
                · rw [← HP.out]; rfl
              case measure => simp [intOf]; omega
            · obtain rfl : k = 64 := by omega
              clear hlt hk hh hkk
              rw [show ((64 : Nat) : Int) = 64 from rfl]
              have hs3 : wr.heap[bs]? = some (.cells #[B32 s.a, B32 s.b, B32 s.c, B32 s.d, B32 s.e, B32 s.f, B32 s.g, B32 s.h] 87 (0, 0)) := (hg.block bs (by omega) (by simp)).trans hs2
              have hr3 : wr.heap[br]? = some (.cells (wCells 8 []) 87 (0, 0)) := (hg.block br (by omega) (by simp)).trans hr2
              have v0 : wr.cell? ⟨bs, 0, none⟩ = some (B32 s.a) := cell_of_row wr bs 0 _ _ _ hs3
              have v1 : wr.cell? ⟨bs, 1, none⟩ = some (B32 s.b) := cell_of_row wr bs 1 _ _ _ hs3
              have v2 : wr.cell? ⟨bs, 2, none⟩ = some (B32 s.c) := cell_of_row wr bs 2 _ _ _ hs3
              have v3 : wr.cell? ⟨bs, 3, none⟩ = some (B32 s.d) := cell_of_row wr bs 3 _ _ _ hs3
              have v4 : wr.cell? ⟨bs, 4, none⟩ = some (B32 s.e) := cell_of_row wr bs 4 _ _ _ hs3
              have v5 : wr.cell? ⟨bs, 5, none⟩ = some (B32 s.f) := cell_of_row wr bs 5 _ _ _ hs3
              have v6 : wr.cell? ⟨bs, 6, none⟩ = some (B32 s.g) := cell_of_row wr bs 6 _ _ _ hs3
              have v7 : wr.cell? ⟨bs, 7, none⟩ = some (B32 s.h) := cell_of_row wr bs 7 _ _ _ hs3
              have HV := Lib.hid hV
              clear hV hs3
              have hadd : s.compress l = ⟨s.a + V.a, s.b + V.b, s.c + V.c, s.d + V.d, s.e + V.e, s.f + V.f, s.g + V.g, s.h + V.h⟩ := by
                rw [St.compress, show (48 : Nat) = 64 - 16 from rfl, HW.out, ← HV.out]; rfl
              have HA := Lib.hid hadd
              clear hadd
              go_wp2_with (refine wpList_store_row rfl 87 _ _ rfl br _ rfl rfl 87 _ hr3 (by kernel_rfl) rfl (by kernel_rfl) ?_)
              refine bodyPost_ret (results_cell_row rfl _ _ br 87 _ (0, 0) _ rfl (setRow_heap _ _ _ _ _ _ hr3) Tryd.underlying87 rfl (by kernel_rfl)) rfl ⟨?_, ?_⟩
              · rw [HA.out]
              · have hlt : bs < br := by omega
                refine hw2.trans ((hg.below (B := bs) (by omega) (by simp)).trans ?_)
                refine ⟨rfl, rfl, rfl, by simp, fun i hi => ?_⟩
                rw [setRow_other _ _ _ _ (by omega)]
end Chart
