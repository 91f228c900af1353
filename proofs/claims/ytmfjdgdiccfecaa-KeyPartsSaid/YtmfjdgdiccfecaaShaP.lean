/-
  The digest, plainly.
-/
import Derived.Test.YtmfjdgdiccfecaaBits
namespace Go.E
namespace Sha
abbrev M : Nat := 4294967296
def rotr (x n : Nat) : Nat := (x * 2 ^ (32 - n)) % M ||| x / 2 ^ n
def s0 (x : Nat) : Nat := rotr x 7 ^^^ rotr x 18 ^^^ x / 8
def s1 (x : Nat) : Nat := rotr x 17 ^^^ rotr x 19 ^^^ x / 1024
def S1 (x : Nat) : Nat := rotr x 6 ^^^ rotr x 11 ^^^ rotr x 25
def S0 (x : Nat) : Nat := rotr x 2 ^^^ rotr x 13 ^^^ rotr x 22
def ch (e f g : Nat) : Nat := (e &&& f) ^^^ ((4294967295 - e) &&& g)
def maj (a b c : Nat) : Nat := (a &&& b) ^^^ (a &&& c) ^^^ (b &&& c)
def K : List Nat := [
  0x428a2f98, 0x71374491, 0xb5c0fbcf, 0xe9b5dba5, 0x3956c25b, 0x59f111f1, 0x923f82a4, 0xab1c5ed5,
  0xd807aa98, 0x12835b01, 0x243185be, 0x550c7dc3, 0x72be5d74, 0x80deb1fe, 0x9bdc06a7, 0xc19bf174,
  0xe49b69c1, 0xefbe4786, 0x0fc19dc6, 0x240ca1cc, 0x2de92c6f, 0x4a7484aa, 0x5cb0a9dc, 0x76f988da,
  0x983e5152, 0xa831c66d, 0xb00327c8, 0xbf597fc7, 0xc6e00bf3, 0xd5a79147, 0x06ca6351, 0x14292967,
  0x27b70a85, 0x2e1b2138, 0x4d2c6dfc, 0x53380d13, 0x650a7354, 0x766a0abb, 0x81c2c92e, 0x92722c85,
  0xa2bfe8a1, 0xa81a664b, 0xc24b8b70, 0xc76c51a3, 0xd192e819, 0xd6990624, 0xf40e3585, 0x106aa070,
  0x19a4c116, 0x1e376c08, 0x2748774c, 0x34b0bcb5, 0x391c0cb3, 0x4ed8aa4a, 0x5b9cca4f, 0x682e6ff3,
  0x748f82ee, 0x78a5636f, 0x84c87814, 0x8cc70208, 0x90befffa, 0xa4506ceb, 0xbef9a3f7, 0xc67178f2]
def H0 : List Nat := [0x6a09e667, 0xbb67ae85, 0x3c6ef372, 0xa54ff53a, 0x510e527f, 0x9b05688c, 0x1f83d9ab, 0x5be0cd19]
/-- the t-th word of a block, by those ahead of it -/
def word (b w : List Nat) (t : Nat) : Nat :=
  if t < 16 then b.getD (4 * t) 0 * 16777216 + b.getD (4 * t + 1) 0 * 65536 + b.getD (4 * t + 2) 0 * 256 + b.getD (4 * t + 3) 0
  else (w.getD (t - 16) 0 + s0 (w.getD (t - 15) 0) + w.getD (t - 7) 0 + s1 (w.getD (t - 2) 0)) % M
def words (b : List Nat) : Nat → List Nat
  | 0 => []
  | t + 1 => words b t ++ [word b (words b t) t]
def step (k w : Nat) (v : List Nat) : List Nat :=
  let x := (v.getD 7 0 + S1 (v.getD 4 0) + ch (v.getD 4 0) (v.getD 5 0) (v.getD 6 0) + k + w) % M
  let y := (S0 (v.getD 0 0) + maj (v.getD 0 0) (v.getD 1 0) (v.getD 2 0)) % M
  [(x + y) % M, v.getD 0 0, v.getD 1 0, v.getD 2 0, (v.getD 3 0 + x) % M, v.getD 4 0, v.getD 5 0, v.getD 6 0]
def rounds (w v : List Nat) : Nat → List Nat
  | 0 => v
  | t + 1 => step (K.getD t 0) (w.getD t 0) (rounds w v t)
def add8 (h v : List Nat) : List Nat := (List.range 8).map fun i => (h.getD i 0 + v.getD i 0) % M
def block (h b : List Nat) : List Nat := add8 h (rounds (words b 64) h 64)
/-- how many zeros stand behind n bytes and the mark -/
def zeros (n : Nat) : Nat := (119 - n % 64) % 64
def be8 (n : Nat) : List Nat := (List.range 8).map fun i => n / 256 ^ (7 - i) % 256
def pad (b : List Nat) : List Nat := b ++ [128] ++ List.replicate (zeros b.length) 0 ++ be8 (8 * b.length)
def blocks (h : List Nat) : Nat → List Nat → List Nat
  | 0, _ => h
  | n + 1, p => blocks (block h (p.take 64)) n (p.drop 64)
def digest (h : List Nat) : List Nat := (List.range 32).map fun i => h.getD (i / 4) 0 / 256 ^ (3 - i % 4) % 256
def sum (b : List Nat) : List Nat := digest (blocks H0 ((pad b).length / 64) (pad b))
def point (b : List Nat) : Nat := (List.range 8).foldl (fun n i => n * 256 + (sum b).getD i 0) 0

/-- the same, in the way of one who must reckon: each number is made plain ahead of the next -/
noncomputable def natK {α : Type} (n : Nat) (k : Nat → α) : α := Nat.rec (motive := fun _ => α) (k 0) (fun m _ => k (m + 1)) n
theorem natK_eq {α : Type} (n : Nat) (k : Nat → α) : natK n k = k n := by cases n <;> rfl
noncomputable def listK {α : Type} : List Nat → (List Nat → α) → α
  | [], k => k []
  | x :: l, k => natK x fun x => listK l fun l => k (x :: l)
theorem listK_eq {α : Type} : ∀ (l : List Nat) (k : List Nat → α), listK l k = k l
  | [], _ => rfl
  | x :: l, k => by simp only [listK, natK_eq, listK_eq l]
noncomputable def wordsK {α : Type} (b : List Nat) : Nat → (List Nat → α) → α
  | 0, k => k []
  | t + 1, k => wordsK b t fun w => natK (word b w t) fun x => k (w ++ [x])
theorem wordsK_eq {α : Type} (b : List Nat) : ∀ (t : Nat) (k : List Nat → α), wordsK b t k = k (words b t)
  | 0, _ => rfl
  | t + 1, k => by simp only [wordsK, words, natK_eq, wordsK_eq b t]
noncomputable def iterK {α : Type} (f : Nat → List Nat → List Nat) (v : List Nat) : Nat → (List Nat → α) → α
  | 0, k => listK v k
  | t + 1, k => iterK f v t fun v => listK (f t v) k
def iter (f : Nat → List Nat → List Nat) (v : List Nat) : Nat → List Nat
  | 0 => v
  | t + 1 => f t (iter f v t)
theorem iterK_eq {α : Type} (f : Nat → List Nat → List Nat) (v : List Nat) : ∀ (t : Nat) (k : List Nat → α), iterK f v t k = k (iter f v t)
  | 0, k => by simp only [iterK, iter, listK_eq]
  | t + 1, k => by simp only [iterK, iter, listK_eq, iterK_eq f v t]
theorem iter_rounds (w v : List Nat) : ∀ t, iter (fun t v => step (K.getD t 0) (w.getD t 0) v) v t = rounds w v t
  | 0 => rfl
  | t + 1 => by rw [iter, iter_rounds w v t]; rfl
noncomputable def roundsK {α : Type} (w v : List Nat) (t : Nat) (k : List Nat → α) : α := iterK (fun t v => step (K.getD t 0) (w.getD t 0) v) v t k
theorem roundsK_eq {α : Type} (w v : List Nat) (t : Nat) (k : List Nat → α) : roundsK w v t k = k (rounds w v t) := by
  rw [roundsK, iterK_eq, iter_rounds]
noncomputable def blockK {α : Type} (h b : List Nat) (k : List Nat → α) : α := listK b fun b => wordsK b 64 fun w => listK w fun w => roundsK w h 64 fun v => listK (add8 h v) k
theorem blockK_eq {α : Type} (h b : List Nat) (k : List Nat → α) : blockK h b k = k (block h b) := by
  rw [blockK, listK_eq, wordsK_eq, listK_eq, roundsK_eq, listK_eq, block]
noncomputable def blocksK {α : Type} (h : List Nat) : Nat → List Nat → (List Nat → α) → α
  | 0, _, k => k h
  | n + 1, p, k => blockK h (p.take 64) fun h' => listK (p.drop 64) fun p' => blocksK h' n p' k
theorem blocksK_eq {α : Type} : ∀ (n : Nat) (h p : List Nat) (k : List Nat → α), blocksK h n p k = k (blocks h n p)
  | 0, _, _, _ => rfl
  | n + 1, h, p, k => by simp only [blocksK, blocks, blockK_eq, listK_eq, blocksK_eq n]
noncomputable def sumK (b : List Nat) : List Nat := listK (pad b) fun p => blocksK H0 (p.length / 64) p fun h => listK (digest h) fun d => d
theorem sumK_eq (b : List Nat) : sumK b = sum b := by simp only [sumK, listK_eq, blocksK_eq, sum]
end Sha
end Go.E
