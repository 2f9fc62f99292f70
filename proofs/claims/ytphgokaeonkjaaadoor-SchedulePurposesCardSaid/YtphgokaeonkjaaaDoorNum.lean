/- Numbers: powers modulo m, orders, Lucas' criterion with its pigeonhole: no program in sight. -/
namespace Chart

/-- Pigeonhole: an injective map of the numbers below N into themselves meets each of them. -/
theorem pigeon (N : Nat) : ∀ (f : Nat → Nat), (∀ i, i < N → f i < N) → (∀ i j, i < N → j < N → f i = f j → i = j) → ∀ v, v < N → ∃ i, i < N ∧ f i = v := by
  induction N with
  | zero => intro f _ _ v hv; omega
  | succ N ih =>
    intro f hf hinj v hv
    by_cases hu : f N = N
    · have h1 : ∀ i, i < N → f i < N := fun i hi => by
        have h := hf i (by omega)
        have : f i ≠ N := fun e => by have := hinj i N (by omega) (by omega) (by rw [e, hu]); omega
        omega
      by_cases hvN : v = N
      · exact ⟨N, by omega, by rw [hu, hvN]⟩
      · obtain ⟨i, hi, e⟩ := ih f h1 (fun i j a b c => hinj i j (by omega) (by omega) c) v (by omega)
        exact ⟨i, by omega, e⟩
    · have hu' : f N < N := by have := hf N (by omega); omega
      have key : ∀ v, v < N → ∃ i, i < N ∧ (if f i = N then f N else f i) = v := ih (fun i => if f i = N then f N else f i)
        (fun i hi => by
          show (if f i = N then f N else f i) < N
          split
          · exact hu'
          · have := hf i (by omega); omega)
        (fun i j hi hj e => by
          split at e
          · rename_i a
            split at e
            · rename_i b; exact hinj i j (by omega) (by omega) (by rw [a, b])
            · have := hinj N j (by omega) (by omega) e; omega
          · split at e
            · have := hinj i N (by omega) (by omega) e; omega
            · exact hinj i j (by omega) (by omega) e)
      by_cases hvN : v = N
      · obtain ⟨i, hi, e⟩ := key (f N) hu'
        by_cases a : f i = N
        · exact ⟨i, by omega, by rw [a, hvN]⟩
        · rw [if_neg a] at e
          have := hinj i N (by omega) (by omega) e
          omega
      · obtain ⟨i, hi, e⟩ := key v (by omega)
        by_cases a : f i = N
        · rw [if_pos a] at e
          exact ⟨N, by omega, e⟩
        · rw [if_neg a] at e
          exact ⟨i, by omega, e⟩

/-- The power by its bits, for the kernel. -/
def powm (m : Nat) : Nat → Nat → Nat → Nat → Nat
  | 0, _, _, c => c
  | f + 1, a, k, c => if k = 0 then c else powm m f (a * a % m) (k / 2) (if k % 2 = 1 then c * a % m else c)

theorem powm_eq (m : Nat) : ∀ (f a k c : Nat), k < 2 ^ f → powm m f a k c % m = c * a ^ k % m
  | 0, a, k, c, h => by
    have : k = 0 := by simpa using h
    simp [powm, this]
  | f + 1, a, k, c, h => by
    unfold powm
    by_cases hk : k = 0
    · simp [hk]
    · rw [if_neg hk]
      have ih := powm_eq m f (a * a % m) (k / 2) (if k % 2 = 1 then c * a % m else c) (by rw [Nat.pow_succ] at h; omega)
      rw [ih]
      have e : a ^ k = (a * a) ^ (k / 2) * a ^ (k % 2) := by
        rw [← Nat.pow_two, ← Nat.pow_mul, ← Nat.pow_add, Nat.div_add_mod]
      rw [e, Nat.mul_mod, ← Nat.pow_mod, ← Nat.mul_mod]
      by_cases h2 : k % 2 = 1
      · rw [if_pos h2, h2, Nat.pow_one, Nat.mul_mod, Nat.mod_mod, ← Nat.mul_mod]
        congr 1
        rw [Nat.mul_assoc, Nat.mul_comm a]
      · have h0 : k % 2 = 0 := by omega
        rw [if_neg h2, h0, Nat.pow_zero, Nat.mul_one]

theorem pow_of_powm {m f a k r : Nat} (hk : k < 2 ^ f) (h : powm m f a k 1 % m = r) : a ^ k % m = r := by
  rw [← h, powm_eq m f a k 1 hk, Nat.one_mul]

theorem pow_one_mul {m g a : Nat} (h : g ^ a % m = 1 % m) (t : Nat) : g ^ (a * t) % m = 1 % m := by
  rw [Nat.pow_mul, Nat.pow_mod, h, ← Nat.pow_mod, Nat.one_pow]

theorem pow_one_gcd {m g : Nat} (a b : Nat) : g ^ a % m = 1 % m → g ^ b % m = 1 % m → g ^ (Nat.gcd a b) % m = 1 % m := by
  induction a, b using Nat.gcd.induction with
  | H0 b => intro _ hb; simpa using hb
  | H1 a b h ih =>
    intro ha hb
    rw [Nat.gcd_rec]
    refine ih ?_ ha
    have e : g ^ b = g ^ (a * (b / a)) * g ^ (b % a) := by rw [← Nat.pow_add, Nat.div_add_mod]
    rw [e, Nat.mul_mod, pow_one_mul ha, ← Nat.mul_mod, Nat.one_mul] at hb
    exact hb

/-- A number with no divisor but 1 and itself. -/
def Prime (n : Nat) : Prop := 1 < n ∧ ∀ t, t ∣ n → t = 1 ∨ t = n

theorem Prime.coprime {p n : Nat} (h : Prime p) (hn : ¬ p ∣ n) : Nat.gcd n p = 1 := by
  rcases h.2 (Nat.gcd n p) (Nat.gcd_dvd_right n p) with e | e
  · exact e
  · exact absurd (e ▸ Nat.gcd_dvd_left n p) hn

/-- A divisor above 1 of a product of primes is divided by one of them. -/
theorem dvd_prod : ∀ (fs : List Nat) (t : Nat), (∀ p ∈ fs, Prime p) → 1 < t → t ∣ fs.foldr (· * ·) 1 → ∃ p ∈ fs, p ∣ t
  | [], t, _, h1, hd => by
    have := Nat.le_of_dvd (by simp) hd
    simp at this
    omega
  | p :: fs, t, hp, h1, hd => by
    by_cases hpt : p ∣ t
    · exact ⟨p, by simp, hpt⟩
    · have hc := (hp p (by simp)).coprime hpt
      have hd' : t ∣ fs.foldr (· * ·) 1 := by
        refine Nat.Coprime.dvd_of_dvd_mul_left hc ?_
        simpa using hd
      obtain ⟨q, hq, e⟩ := dvd_prod fs t (fun q hq => hp q (by simp [hq])) h1 hd'
      exact ⟨q, by simp [hq], e⟩

/-- What Lucas' criterion gives. -/
structure Lucas (n g : Nat) (fs : List Nat) : Prop where
  big : 2 < n
  prod : fs.foldr (· * ·) 1 = n - 1
  primes : ∀ p ∈ fs, Prime p
  one : g ^ (n - 1) % n = 1
  not : ∀ p ∈ fs, g ^ ((n - 1) / p) % n ≠ 1

theorem Lucas.order {n g : Nat} {fs : List Nat} (h : Lucas n g fs) (d : Nat) (h0 : 0 < d) (hd : d < n - 1) : g ^ d % n ≠ 1 := by
  intro e
  have h1 : 1 % n = 1 := Nat.mod_eq_of_lt (by have := h.big; omega)
  have hg := pow_one_gcd (m := n) (g := g) d (n - 1) (by rw [h1]; exact e) (by rw [h1]; exact h.one)
  rw [h1] at hg
  have hle : Nat.gcd d (n - 1) ≤ d := Nat.gcd_le_left _ h0
  have hpos : 0 < Nat.gcd d (n - 1) := Nat.gcd_pos_of_pos_left _ h0
  obtain ⟨t, ht⟩ := Nat.gcd_dvd_right d (n - 1)
  generalize Nat.gcd d (n - 1) = k at hg hle hpos ht
  have ht1 : 1 < t := by
    rcases Nat.lt_or_ge 1 t with h' | h'
    · exact h'
    · have hb := h.big
      have : k * t ≤ k * 1 := Nat.mul_le_mul_left k h'
      omega
  obtain ⟨p, hp, u, hu⟩ := dvd_prod fs t h.primes ht1 (by rw [h.prod, ht]; exact Nat.dvd_mul_left t k)
  have hp0 : 0 < p := by have := (h.primes p hp).1; omega
  refine h.not p hp ?_
  have e2 : (n - 1) / p = k * u := by
    rw [ht, hu, ← Nat.mul_assoc, Nat.mul_comm k p, Nat.mul_assoc, Nat.mul_div_cancel_left _ hp0]
  rw [e2]
  have := pow_one_mul (m := n) (g := g) (a := k) (by rw [h1]; exact hg) u
  rwa [h1] at this

/-- Every number from 1 on below n is a power of g. -/
theorem Lucas.gen {n g : Nat} {fs : List Nat} (h : Lucas n g fs) (x : Nat) (h0 : 0 < x) (hx : x < n) : ∃ k, g ^ k % n = x := by
  have hb := h.big
  have hone : 1 % n = 1 := Nat.mod_eq_of_lt (by omega)
  have hpos : ∀ i, i < n - 1 → 0 < g ^ i % n := by
    intro i hi
    rcases Nat.eq_zero_or_pos (g ^ i % n) with e | e
    · exfalso
      have hd : n ∣ g ^ i := Nat.dvd_of_mod_eq_zero e
      have : n ∣ g ^ (n - 1) := Nat.dvd_trans hd (Nat.pow_dvd_pow g (by omega))
      have h1 := h.one
      rw [Nat.mod_eq_zero_of_dvd this] at h1
      omega
    · exact e
  have hinj : ∀ i j, i ≤ j → j < n - 1 → g ^ i % n = g ^ j % n → i = j := by
    intro i j hij hj e
    rcases Nat.eq_or_lt_of_le hij with h' | h'
    · exact h'
    · exfalso
      refine h.order (j - i) (by omega) (by omega) ?_
      -- multiply both sides by g ^ (n - 1 - i)
      have e1 : g ^ (n - 1 - i) * g ^ i % n = 1 := by rw [← Nat.pow_add]; rw [show n - 1 - i + i = n - 1 by omega]; exact h.one
      have e2 : g ^ (n - 1 - i) * g ^ j % n = 1 := by rw [Nat.mul_mod, ← e, ← Nat.mul_mod]; exact e1
      rw [← Nat.pow_add, show n - 1 - i + j = (n - 1) + (j - i) by omega, Nat.pow_add, Nat.mul_mod, h.one, Nat.one_mul, Nat.mod_mod] at e2
      exact e2
  obtain ⟨k, hk', hk⟩ := pigeon (n - 1) (fun i => g ^ i % n - 1)
    (fun i hi => by have := Nat.mod_lt (g ^ i) (show n > 0 by omega); have := hpos i hi; omega)
    (fun i j hi hj e => by
      have a := hpos i hi
      have b := hpos j hj
      rcases Nat.le_total i j with l | l
      · exact hinj i j l hj (by omega)
      · exact (hinj j i l hi (by omega)).symm) (x - 1) (by omega)
  have := hpos k hk'
  exact ⟨k, by omega⟩

theorem Lucas.fermat {n g : Nat} {fs : List Nat} (h : Lucas n g fs) (x : Nat) (h0 : 0 < x) (hx : x < n) : x ^ (n - 1) % n = 1 := by
  obtain ⟨k, hk⟩ := h.gen x h0 hx
  have hone : 1 % n = 1 := Nat.mod_eq_of_lt (by have := h.big; omega)
  rw [← hk, ← Nat.pow_mod, ← Nat.pow_mul, Nat.mul_comm]
  have := pow_one_mul (m := n) (g := g) (a := n - 1) (by rw [hone]; exact h.one) k
  rwa [hone] at this

theorem Lucas.prime {n g : Nat} {fs : List Nat} (h : Lucas n g fs) : Prime n := by
  have hb := h.big
  refine ⟨by omega, fun t ht => ?_⟩
  have htn := Nat.le_of_dvd (by omega) ht
  have ht0 : 0 < t := Nat.pos_of_dvd_of_pos ht (by omega)
  by_cases e : t = n
  · exact .inr e
  · left
    have hf := h.fermat t ht0 (by omega)
    -- t divides 1
    have : t ∣ 1 := by
      have h1 : t ∣ t ^ (n - 1) := Nat.dvd_trans (by simp) (Nat.pow_dvd_pow t (show 1 ≤ n - 1 by omega))
      have h2 : t ∣ t ^ (n - 1) % n := (Nat.dvd_mod_iff ht).2 h1
      rwa [hf] at h2
    exact Nat.dvd_one.1 this

/-- A small prime, by trial. -/
theorem prime_small (n : Nat) (h : 1 < n) (hall : ∀ t, t < n → t ∣ n → t = 1) : Prime n :=
  ⟨h, fun t ht => by
    rcases Nat.lt_or_ge t n with l | l
    · exact .inl (hall t l ht)
    · exact .inr (Nat.le_antisymm (Nat.le_of_dvd (by omega) ht) l)⟩


/-- A prime below 2^f, by Lucas' criterion whose powers the kernel reckons. -/
def lucasB (n g : Nat) (fs : List Nat) : Bool :=
  decide (2 < n) && decide (n < 2 ^ 64) && fs.foldr (· * ·) 1 == n - 1 && powm n 64 g (n - 1) 1 % n == 1 && fs.all fun p => powm n 64 g ((n - 1) / p) 1 % n != 1

theorem lucas_of {n g : Nat} {fs : List Nat} (h : lucasB n g fs = true) (hp : ∀ p ∈ fs, Prime p) : Lucas n g fs := by
  simp only [lucasB, Bool.and_eq_true, decide_eq_true_eq, beq_iff_eq, List.all_eq_true, bne_iff_ne, ne_eq] at h
  obtain ⟨⟨⟨⟨h1, h2⟩, h3⟩, h4⟩, h5⟩ := h
  refine ⟨h1, h3, hp, pow_of_powm (by omega) h4, fun p hm e => h5 p hm ?_⟩
  have hlt : (n - 1) / p < 2 ^ 64 := Nat.lt_of_le_of_lt (Nat.div_le_self _ _) (by omega)
  rw [powm_eq n 64 g _ 1 hlt, Nat.one_mul]
  exact e

def smallB (n : Nat) : Bool := decide (1 < n) && (List.range n).all fun t => decide (t < 2) || n % t != 0
theorem prime_of_small {n : Nat} (h : smallB n = true) : Prime n := by
  simp only [smallB, Bool.and_eq_true, decide_eq_true_eq, List.all_eq_true, List.mem_range, Bool.or_eq_true, bne_iff_ne] at h
  refine prime_small n h.1 fun t hlt hd => ?_
  rcases h.2 t hlt with h' | h'
  · have := Nat.pos_of_dvd_of_pos hd (by omega); omega
  · exact absurd (Nat.mod_eq_zero_of_dvd hd) h'

theorem prime2 : Prime 2 := prime_of_small (by decide +kernel)
theorem prime3 : Prime 3 := prime_of_small (by decide +kernel)
theorem prime5 : Prime 5 := prime_of_small (by decide +kernel)
theorem prime7 : Prime 7 := prime_of_small (by decide +kernel)
theorem prime11 : Prime 11 := prime_of_small (by decide +kernel)
theorem prime17 : Prime 17 := prime_of_small (by decide +kernel)
theorem prime23 : Prime 23 := prime_of_small (by decide +kernel)
theorem prime41 : Prime 41 := prime_of_small (by decide +kernel)
theorem prime73 : Prime 73 := prime_of_small (by decide +kernel)
theorem prime821 : Prime 821 := (lucas_of (n := 821) (g := 2) (fs := [2, 2, 5, 41]) (by decide +kernel) (by simp [prime2, prime5, prime41])).prime
theorem prime2311 : Prime 2311 := (lucas_of (n := 2311) (g := 3) (fs := [2, 3, 5, 7, 11]) (by decide +kernel) (by simp [prime2, prime3, prime5, prime7, prime11])).prime
theorem prime172411 : Prime 172411 := (lucas_of (n := 172411) (g := 3) (fs := [2, 3, 5, 7, 821]) (by decide +kernel) (by simp [prime2, prime3, prime5, prime7, prime821])).prime
theorem prime7930907 : Prime 7930907 := (lucas_of (n := 7930907) (g := 2) (fs := [2, 23, 172411]) (by decide +kernel) (by simp [prime2, prime23, prime172411])).prime
theorem prime11864636873 : Prime 11864636873 := (lucas_of (n := 11864636873) (g := 5) (fs := [2, 2, 2, 11, 17, 7930907]) (by decide +kernel) (by simp [prime2, prime11, prime17, prime7930907])).prime
theorem prime1732236983459 : Prime 1732236983459 := (lucas_of (n := 1732236983459) (g := 2) (fs := [2, 73, 11864636873]) (by decide +kernel) (by simp [prime2, prime73, prime11864636873])).prime
theorem prime249442125618097 : Prime 249442125618097 := (lucas_of (n := 249442125618097) (g := 5) (fs := [2, 2, 2, 2, 3, 3, 1732236983459]) (by decide +kernel) (by simp [prime2, prime3, prime1732236983459])).prime

/-- The order of the group, and the modulus. -/
def Q : Nat := 2305843009213688669
def P : Nat := 4611686018427377339

theorem lucasQ : Lucas Q 2 [2, 2, 2311, 249442125618097] := lucas_of (by decide +kernel) (by simp [prime2, prime2311, prime249442125618097])
theorem primeQ : Prime Q := lucasQ.prime
theorem fermatQ (x : Nat) (h0 : 0 < x) (hx : x < Q) : x ^ (Q - 1) % Q = 1 := lucasQ.fermat x h0 hx

/-- G generates Q elements. -/
theorem four_Q : 4 ^ Q % P = 1 := pow_of_powm (f := 64) (by decide) (by decide +kernel)
theorem four_ne (n : Nat) (h0 : 0 < n) (hn : n < Q) : 4 ^ n % P ≠ 1 := by
  intro e
  have h1 : 1 % P = 1 := by decide
  have hc : Nat.gcd n Q = 1 := primeQ.coprime (fun hd => by have := Nat.le_of_dvd h0 hd; omega)
  have := pow_one_gcd (m := P) (g := 4) n Q (by rw [h1]; exact e) (by rw [h1]; exact four_Q)
  rw [hc] at this
  exact absurd this (by decide)

end Chart
