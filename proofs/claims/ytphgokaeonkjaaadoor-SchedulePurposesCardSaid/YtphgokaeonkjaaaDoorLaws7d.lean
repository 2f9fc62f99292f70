/- The law on private keys. -/
import Derived.Test.YtphgokaeonkjaaaDoorSane7
import Derived.Test.YtphgokaeonkjaaaDoorPow
namespace Chart
open Go Go.RowKit Go.Proofs

theorem dscal_range (k : List (BitVec 8)) (label : ByteArray) : 0 < dscal k label ∧ dscal k label < 2305843009213688669 := by
  have h0 := restN_lt 2305843009213688668 (by decide) (tagd bScalar (expd k label [])) 0 (by decide)
  have h1 : dscal k label = restN 2305843009213688668 (tagd bScalar (expd k label [])) 0 + 1 := rfl
  omega

set_option maxHeartbeats 2000000 in
set_option maxRecDepth 100000 in
theorem privateLaw_any (k : List (BitVec 8)) (s : ByteArray) (w : World) (hk : k.length = 32) (he : ShaEnv w) :
    Calls Tryd.prog 13 #[.agg (dCells k), .string s] w fun e w' => e = .returned (.bool true) ∧ Below w.heap.size w w' := by
  have HI0 := Lib.hid (info_key' _ hk)
  obtain ⟨B, hB⟩ : ∃ B, w.heap.size = B := ⟨_, rfl⟩
  rw [hB]
  have hb1 : Below B w (w.alloc (.cells (dCells k) 23)) := (Below.refl B w).alloc (by omega) _
  have rA : (w.alloc (.cells (dCells k) 23)).heap[B]? = some (.cells (dCells k) 23 (0, 0)) := by rw [← hB]; exact heap_alloc_new w _
  have he1 := he.below (show Below w.heap.size w (w.alloc (.cells (dCells k) 23)) by rw [hB]; exact hb1)
  have hle : B ≤ w.heap.size := Nat.le_of_eq hB.symm
  go_enter Tryd.func13, Tryd.ntmps13
  go_upto_region 1 with (fail)
  generalize w.alloc (.cells (dCells k) 23) = w1 at *
  have hsn := sane7_any w1 he1
  go_upto_region 3 with (go_at_call 16; refine hsn.mono ?_; rintro e w2 ⟨rfl, hb2⟩)
  have rA2 := row_below rA hb2
  have he2 := he1.below hb2
  have hB2 := below_trB hle hb1 hb2
  clear hsn rA he1 hb1 hb2
  by_cases h5 : (500 : Int) < (s.size : Int)
  · go_wp2
    go_ret
    exact ⟨rfl, hB2⟩
  have hls : s.size ≤ 1000000 := by omega
  obtain ⟨X, hX⟩ : ∃ X, expd k s [] = X := ⟨_, rfl⟩
  have hXl : X.length = 32 := by rw [← hX]; exact length_expd _ _ _
  have HIx := Lib.hid (info_key' _ hXl); have HSx := Lib.hid (size_dCells _ hXl); have HOx := Lib.hid (one_dCells X)
  obtain ⟨hd1, hd2⟩ := dscal_range k s
  have hsx : dscal k s = scal bScalar X := by rw [← hX]; rfl
  have hex := fun w' (h : ShaEnv w') => hX ▸ expand_any k s (.slice none 0 0) [] w' hk (.inl ⟨rfl, rfl⟩) (by simp) hls (by simp) h
  have hds := fun w' (h : ShaEnv w') => dscalar_any k s w' hk hls h
  rw [hsx] at hds hd1 hd2
  obtain ⟨n, hn⟩ : ∃ n, scal bScalar X = n := ⟨_, rfl⟩
  have hgs := fun v w' (h : ShaEnv w') (hb : BS w' v X) => scalar_any bScalar v X w' (by decide) hb (by rw [hXl]; decide) h
  rw [hn] at hds hd1 hd2 hgs
  clear hX hsx hn
  have hbs := fun w' => base_any n w' hd2
  have hy1 := gen_pos n
  have hy2 : 4 ^ n % 4611686018427377339 < 4611686018427377339 := Nat.mod_lt _ (by decide)
  have hck := fun w' => check_any (4 ^ n % 4611686018427377339) w' hy1 hy2 (gen_Q n)
  have hne : 4 ^ n % 4611686018427377339 ≠ 1 := four_ne n hd1 hd2
  obtain ⟨y, hy⟩ : ∃ y : Nat, 4 ^ n % 4611686018427377339 = y := ⟨_, rfl⟩
  rw [hy] at hbs hck hne
  obtain ⟨Y, hY⟩ : ∃ Y : Int, (y : Int) = Y := ⟨_, rfl⟩
  obtain ⟨Z, hZ⟩ : ∃ Z : Int, (n : Int) = Z := ⟨_, rfl⟩
  have hneY : ¬ (Y = 1) := by omega
  have hneB : (Y != 1) = true := by simp [hneY]
  simp only [hY, hZ] at hbs hck hds hgs
  clear hy hY hZ hy1 hy2 hne hd1 hd2
  have hex2 := hex w2 he2
  go_upto_region 6 with (first
    | (refine wpList_load_row rfl 23 _ rfl B rfl 23 _ (0, 0) _ rA2 Tryd.underlying23 rfl HI0.out ?_)
    | (go_at_call 23; refine hex2.mono ?_; rintro e v ⟨rfl, hv⟩)
    | (refine st_new rfl 23 _ _ rfl (dCells X) _ 23 rfl rfl HIx.out (by rw [HSx.out]; rfl) HOx.out ?_))
  have hv2 : Below w2.heap.size w2 (v.alloc (.cells (dCells X) 23)) := below_tr hv (below_al _ _)
  have rA3 := row_below rA2 hv2
  have rX3 := heap_alloc_new v (.cells (dCells X) 23)
  have hB3 := below_trB hle hB2 hv2
  have he3 := he2.below hv2
  clear hex hex2 hv hv2 rA2 he2 hB2
  generalize v.alloc (.cells (dCells X) 23) = w3 at *
  generalize v.heap.size = bX at *
  have hds3 := hds w3 he3
  go_upto_region 7 with (first
    | (refine wpList_load_row rfl 23 _ rfl B rfl 23 _ (0, 0) _ rA3 Tryd.underlying23 rfl HI0.out ?_)
    | (go_at_call 19; refine hds3.mono ?_; rintro e w4 ⟨rfl, hb4⟩))
  have rX4 := row_below rX3 hb4
  have hB4 := below_trB hle hB3 hb4
  have he4 := he3.below hb4
  clear hds hds3 rA3 rX3 he3 hB3 hb4
  have hbs4 := hbs w4
  go_upto_region 8 with (go_at_call 49; refine hbs4.mono ?_; rintro e w5 ⟨rfl, hb5⟩)
  have rX5 := row_below rX4 hb5
  have hB5 := below_trB hle hB4 hb5
  have he5 := he4.below hb5
  have hgs5 := hgs (.slice (some ⟨bX, 0, none⟩) 32 32) w5 he5 (BS.of_digest rX5 hXl)
  clear hbs hbs4 hgs rX4 rX5 he4 he5 hB4 hb5
  go_wp2_with (first
    | (go_at_call 50; refine hgs5.mono ?_; rintro e w6 ⟨rfl, hb6⟩)
    | (go_at_call 51; refine (hck _).mono ?_; rintro e w7 ⟨rfl, hb7⟩))
  go_ret
  exact ⟨rfl, below_trB hle (below_trB hle hB5 hb6) hb7⟩
end Chart
