/- SHA-256, as lists of words: no program in sight. -/
import Derived.Test.YtphgokaeonkjaaaDoorWord
namespace Chart

/-- Four bytes as a word, the most significant one first. -/
def wd (l : List (BitVec 8)) : BitVec 32 := l.foldl (fun n c => n <<< 8 ||| c.setWidth 32) 0

theorem wd4 (x0 x1 x2 x3 : BitVec 8) : wd [x0, x1, x2, x3] = x0.setWidth 32 <<< 24 ||| x1.setWidth 32 <<< 16 ||| x2.setWidth 32 <<< 8 ||| x3.setWidth 32 := by
  simp only [wd, List.foldl_cons, List.foldl_nil]
  have e0 : (0 : BitVec 32) <<< 8 = 0 := by decide
  have e1 : ∀ x : BitVec 32, 0 ||| x = x := by intro x; simp
  simp only [e0, e1, BitVec.shiftLeft_or_distrib, ← BitVec.shiftLeft_add]

theorem rl_rr (x : BitVec 32) (n : Nat) (h : n ≤ 32) : rl x n = rr x (32 - n) := by
  unfold rl rr; rw [show 32 - (32 - n) = n by omega, BitVec.or_comm]

/-- The constants K. -/
def KS : List (BitVec 32) := [1116352408#32, 1899447441#32, 3049323471#32, 3921009573#32, 961987163#32, 1508970993#32, 2453635748#32, 2870763221#32, 3624381080#32, 310598401#32, 607225278#32, 1426881987#32, 1925078388#32, 2162078206#32, 2614888103#32, 3248222580#32, 3835390401#32, 4022224774#32, 264347078#32, 604807628#32, 770255983#32, 1249150122#32, 1555081692#32, 1996064986#32, 2554220882#32, 2821834349#32, 2952996808#32, 3210313671#32, 3336571891#32, 3584528711#32, 113926993#32, 338241895#32, 666307205#32, 773529912#32, 1294757372#32, 1396182291#32, 1695183700#32, 1986661051#32, 2177026350#32, 2456956037#32, 2730485921#32, 2820302411#32, 3259730800#32, 3345764771#32, 3516065817#32, 3600352804#32, 4094571909#32, 275423344#32, 430227734#32, 506948616#32, 659060556#32, 883997877#32, 958139571#32, 1322822218#32, 1537002063#32, 1747873779#32, 1955562222#32, 2024104815#32, 2227730452#32, 2361852424#32, 2428436474#32, 2756734187#32, 3204031479#32, 3329325298#32]

/-- The eight words of the state. -/
structure St where
  a : BitVec 32
  b : BitVec 32
  c : BitVec 32
  d : BitVec 32
  e : BitVec 32
  f : BitVec 32
  g : BitVec 32
  h : BitVec 32

def St.init : St := ⟨1779033703#32, 3144134277#32, 1013904242#32, 2773480762#32, 1359893119#32, 2600822924#32, 528734635#32, 1541459225#32⟩

def sg0 (x : BitVec 32) : BitVec 32 := rr x 7 ^^^ rr x 18 ^^^ x >>> 3
def sg1 (x : BitVec 32) : BitVec 32 := rr x 17 ^^^ rr x 19 ^^^ x >>> 10

/-- The word that follows the words of the schedule. -/
def nextw (g : List (BitVec 32)) : BitVec 32 :=
  g.getD (g.length - 16) 0 + sg0 (g.getD (g.length - 15) 0) + g.getD (g.length - 7) 0 + sg1 (g.getD (g.length - 2) 0)
def grow (ws : List (BitVec 32)) : Nat → List (BitVec 32)
  | 0 => ws
  | n + 1 => grow ws n ++ [nextw (grow ws n)]
theorem length_grow (ws : List (BitVec 32)) : ∀ n, (grow ws n).length = ws.length + n
  | 0 => rfl
  | n + 1 => by simp [grow, length_grow ws n]; omega

def ch (e f g : BitVec 32) : BitVec 32 := (e &&& f) ^^^ (~~~e &&& g)
def maj (a b c : BitVec 32) : BitVec 32 := (a &&& b) ^^^ (a &&& c) ^^^ (b &&& c)
theorem ch_other (e f g : BitVec 32) : g ^^^ (e &&& (f ^^^ g)) = ch e f g := by
  unfold ch
  apply BitVec.eq_of_getLsbD_eq
  intro i hi
  simp only [BitVec.getLsbD_xor, BitVec.getLsbD_and, BitVec.getLsbD_not, hi, decide_true, Bool.true_and]
  cases e.getLsbD i <;> cases f.getLsbD i <;> cases g.getLsbD i <;> rfl
theorem maj_other (a b c : BitVec 32) : (a &&& b) ||| (c &&& (a ||| b)) = maj a b c := by
  unfold maj
  apply BitVec.eq_of_getLsbD_eq
  intro i _
  simp only [BitVec.getLsbD_xor, BitVec.getLsbD_and, BitVec.getLsbD_or]
  cases a.getLsbD i <;> cases b.getLsbD i <;> cases c.getLsbD i <;> rfl

def St.p (k w : BitVec 32) (s : St) : BitVec 32 := s.h + (rr s.e 6 ^^^ rr s.e 11 ^^^ rr s.e 25) + ch s.e s.f s.g + k + w
def St.q (s : St) : BitVec 32 := (rr s.a 2 ^^^ rr s.a 13 ^^^ rr s.a 22) + maj s.a s.b s.c
/-- One round. -/
def St.rnd (k w : BitVec 32) (s : St) : St := ⟨s.p k w + s.q, s.a, s.b, s.c, s.d + s.p k w, s.e, s.f, s.g⟩
def St.rounds (ws : List (BitVec 32)) (s : St) : Nat → St
  | 0 => s
  | t + 1 => (St.rounds ws s t).rnd (KS.getD t 0) (ws.getD t 0)
def St.add (s v : St) : St := ⟨s.a + v.a, s.b + v.b, s.c + v.c, s.d + v.d, s.e + v.e, s.f + v.f, s.g + v.g, s.h + v.h⟩

/-- The sixteen words of a block of 64 bytes. -/
def words (l : List (BitVec 8)) : List (BitVec 32) := (List.range 16).map fun t => wd ((l.drop (4 * t)).take 4)
theorem length_words (l : List (BitVec 8)) : (words l).length = 16 := by simp [words]

def St.compress (s : St) (l : List (BitVec 8)) : St := s.add (s.rounds (grow (words l) 48) 64)

/-- The state after n blocks of bytes. -/
def St.blocks (s : St) (l : List (BitVec 8)) : Nat → St
  | 0 => s
  | n + 1 => (St.blocks s l n).compress ((l.drop (64 * n)).take 64)

/-- A number's eight bytes, the most significant one first. -/
def be64 (n : BitVec 64) : List (BitVec 8) := (List.range 8).map fun i => (n >>> (8 * (7 - i))).setWidth 8
def be32 (n : BitVec 32) : List (BitVec 8) := (List.range 4).map fun i => (n >>> (8 * (3 - i))).setWidth 8

/-- The bytes with their end. -/
def padded (l : List (BitVec 8)) : List (BitVec 8) :=
  l ++ [128#8] ++ List.replicate ((119 - l.length % 64) % 64) 0#8 ++ be64 (BitVec.ofNat 64 (l.length * 8))

def St.out (s : St) : List (BitVec 8) := be32 s.a ++ be32 s.b ++ be32 s.c ++ be32 s.d ++ be32 s.e ++ be32 s.f ++ be32 s.g ++ be32 s.h

/-- SHA-256. -/
def sha (l : List (BitVec 8)) : List (BitVec 8) := (St.init.blocks (padded l) ((padded l).length / 64)).out

theorem length_be32 (n : BitVec 32) : (be32 n).length = 4 := by simp [be32]
theorem length_be64 (n : BitVec 64) : (be64 n).length = 8 := by simp [be64]
theorem length_out (s : St) : s.out.length = 32 := by simp [St.out, length_be32]
theorem length_sha (l : List (BitVec 8)) : (sha l).length = 32 := length_out _

/-- The end of the padded bytes: what follows the whole blocks. -/
def tailOf (r : List (BitVec 8)) (n : Nat) : List (BitVec 8) := r ++ [128#8] ++ List.replicate ((119 - r.length) % 64) 0#8 ++ be64 (BitVec.ofNat 64 (n * 8))

theorem padded_eq (l : List (BitVec 8)) : padded l = l.take (64 * (l.length / 64)) ++ tailOf (l.drop (64 * (l.length / 64))) l.length := by
  unfold padded tailOf
  have h : (l.drop (64 * (l.length / 64))).length = l.length % 64 := by simp; omega
  rw [h]
  conv => lhs; rw [← List.take_append_drop (64 * (l.length / 64)) l]
  have h2 : (l.take (64 * (l.length / 64)) ++ l.drop (64 * (l.length / 64))).length = l.length := by rw [List.take_append_drop]
  rw [h2]
  simp only [List.append_assoc]

theorem tail_length (r : List (BitVec 8)) (n : Nat) (h : r.length < 64) : (tailOf r n).length = if r.length ≤ 55 then 64 else 128 := by
  unfold tailOf
  simp only [List.length_append, List.length_replicate, length_be64, List.length_cons, List.length_nil]
  split <;> omega

theorem blocks_take (s : St) (l m : List (BitVec 8)) (n : Nat) : ∀ k, k ≤ n → 64 * n ≤ l.length → St.blocks s (l.take (64 * n) ++ m) k = St.blocks s l k
  | 0, _, _ => rfl
  | k + 1, hk, hl => by
    rw [St.blocks, St.blocks, blocks_take s l m n k (by omega) hl]
    congr 1
    have h1 : (l.take (64 * n)).length = 64 * n := by simp; omega
    rw [List.drop_append_of_le_length (by omega), List.take_append_of_le_length (by simp; omega), List.drop_take, List.take_take]
    congr 1; omega

theorem sha_eq (l : List (BitVec 8)) : sha l =
    (if (l.drop (64 * (l.length / 64))).length ≤ 55 then ((St.init.blocks l (l.length / 64)).compress (tailOf (l.drop (64 * (l.length / 64))) l.length)).out
     else (((St.init.blocks l (l.length / 64)).compress ((tailOf (l.drop (64 * (l.length / 64))) l.length).take 64)).compress ((tailOf (l.drop (64 * (l.length / 64))) l.length).drop 64)).out) := by
  obtain ⟨n, hn⟩ : ∃ n, l.length / 64 = n := ⟨_, rfl⟩
  have hr : (l.drop (64 * n)).length < 64 := by simp; omega
  have hle : 64 * n ≤ l.length := by omega
  have hp := padded_eq l
  rw [hn] at hp ⊢
  have ht := tail_length (l.drop (64 * n)) l.length hr
  have h1 : (l.take (64 * n)).length = 64 * n := by simp; omega
  have hd : ∀ T : List (BitVec 8), (l.take (64 * n) ++ T).drop (64 * n) = T := fun T => by rw [List.drop_append_of_le_length (by omega)]; simp
  have hd2 : ∀ T : List (BitVec 8), (l.take (64 * n) ++ T).drop (64 * (n + 1)) = T.drop 64 := fun T => by rw [List.drop_append, h1, show 64 * (n + 1) - 64 * n = 64 by omega]; simp; omega
  generalize tailOf (l.drop (64 * n)) l.length = T at *
  unfold sha
  rw [hp]
  by_cases h : (l.drop (64 * n)).length ≤ 55
  · rw [if_pos h] at ht ⊢
    have hl : (l.take (64 * n) ++ T).length / 64 = n + 1 := by rw [List.length_append, h1, ht]; omega
    rw [hl, St.blocks, blocks_take _ _ _ _ _ (Nat.le_refl _) hle, hd, List.take_of_length_le (by omega)]
  · rw [if_neg h] at ht ⊢
    have hl : (l.take (64 * n) ++ T).length / 64 = n + 1 + 1 := by rw [List.length_append, h1, ht]; omega
    rw [hl, St.blocks, St.blocks, blocks_take _ _ _ _ _ (Nat.le_refl _) hle, hd, hd2, List.take_of_length_le (i := 64) (l := T.drop 64) (by simp; omega)]

end Chart
