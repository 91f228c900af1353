/-
  Numbers as bytes, plainly: no program in sight.
-/
import Derived.Test.YtkapdbbjgpofnaaE20
namespace Go.E

def beF : Nat → Nat → List Nat
  | 0, _ => []
  | f + 1, n => if n = 0 then [] else beF f (n / 256) ++ [n % 256]
theorem div_pow_succ (n i : Nat) : n / 256 ^ (i + 1) = n / 256 / 256 ^ i := by
  rw [Nat.pow_succ, Nat.mul_comm, Nat.div_div_eq_div_mul]
theorem beF_pos : ∀ (f n i : Nat), n < 256 ^ f → (0 < n / 256 ^ i ↔ i < (beF f n).length)
  | 0, n, i, h => by
    have : n = 0 := by simpa using h
    subst this; simp [beF]
  | f + 1, n, i, h => by
    by_cases hn : n = 0
    · subst hn; simp [beF]
    · simp only [beF, hn, if_false, List.length_append, List.length_singleton]
      cases i with
      | zero => simp; omega
      | succ i =>
        rw [div_pow_succ, beF_pos f (n / 256) i (by rw [Nat.pow_succ] at h; exact Nat.div_lt_of_lt_mul (by rw [Nat.mul_comm]; exact h))]
        omega
theorem beF_at : ∀ (f n j : Nat), j < (beF f n).length → (beF f n)[j]? = some (n / 256 ^ ((beF f n).length - 1 - j) % 256)
  | 0, n, j, h => by simp [beF] at h
  | f + 1, n, j, h => by
    by_cases hn : n = 0
    · subst hn; simp [beF] at h
    · simp only [beF, hn, if_false, List.length_append, List.length_singleton] at h ⊢
      by_cases hj : j < (beF f (n / 256)).length
      · rw [List.getElem?_append_left hj, beF_at f (n / 256) j hj]
        rw [show (beF f (n / 256)).length + 1 - 1 - j = (beF f (n / 256)).length - 1 - j + 1 by omega, div_pow_succ]
      · have : j = (beF f (n / 256)).length := by omega
        subst this
        simp
theorem beF_len : ∀ (f n : Nat), (beF f n).length ≤ f
  | 0, _ => by simp [beF]
  | f + 1, n => by
    by_cases hn : n = 0
    · subst hn; simp [beF]
    · simp only [beF, hn, if_false, List.length_append, List.length_singleton]
      have := beF_len f (n / 256); omega
theorem beF_lt : ∀ (f n : Nat), ∀ x ∈ beF f n, x < 256
  | 0, _, x, h => by simp [beF] at h
  | f + 1, n, x, h => by
    by_cases hn : n = 0
    · subst hn; simp [beF] at h
    · simp only [beF, hn, if_false, List.mem_append, List.mem_singleton] at h
      rcases h with h | h
      · exact beF_lt f _ x h
      · omega
theorem beF_val : ∀ (f n : Nat), n < 256 ^ f → (beF f n).foldl (fun a c => 256 * a + c) 0 = n
  | 0, n, h => by simp at h; subst h; simp [beF]
  | f + 1, n, h => by
    by_cases hn : n = 0
    · subst hn; simp [beF]
    · simp only [beF, hn, if_false, List.foldl_append, List.foldl_cons, List.foldl_nil]
      rw [beF_val f (n / 256) (by rw [Nat.pow_succ] at h; exact Nat.div_lt_of_lt_mul (by rw [Nat.mul_comm]; exact h))]
      omega
theorem beF_head : ∀ (f n : Nat), n < 256 ^ f → ∀ x, (beF f n)[0]? = some x → 0 < x := by
  intro f n h x hx
  have hl : 0 < (beF f n).length := (List.getElem?_eq_some_iff.1 hx).1
  rw [beF_at f n 0 hl] at hx
  have hx' : n / 256 ^ ((beF f n).length - 1 - 0) % 256 = x := by simpa using hx
  have h1 := (beF_pos f n ((beF f n).length - 1) h).2 (by omega)
  have h2 : n / 256 ^ ((beF f n).length - 1) < 256 := by
    have h3 : ¬ (0 < n / 256 ^ (beF f n).length) := fun h' => by have := (beF_pos f n _ h).1 h'; omega
    have h4 : n < 256 ^ (beF f n).length := by
      rcases Nat.lt_or_ge n (256 ^ (beF f n).length) with h' | h'
      · exact h'
      · exact absurd (Nat.div_pos h' (Nat.pow_pos (by decide))) h3
    refine Nat.div_lt_of_lt_mul ?_
    rw [← Nat.pow_succ]
    rw [show ((beF f n).length - 1).succ = (beF f n).length by omega]
    exact h4
  simp only [Nat.sub_zero] at hx'
  rw [Nat.mod_eq_of_lt h2] at hx'
  omega
/-- the bytes of a number, without and with their count ahead -/
def beB (n : Int) : List Int := (beF 8 n.toNat).map (fun (x : Nat) => (x : Int))
def numB (n : Int) : List Int := ((beB n).length : Int) :: beB n
def U64 (n : Int) : Prop := 0 ≤ n ∧ n < 18446744073709551616
theorem U64.lt {n : Int} (h : U64 n) : n.toNat < 256 ^ 8 := by have := h.1; have := h.2; omega
theorem beB_len (n : Int) : (beB n).length ≤ 8 := by simp only [beB, List.length_map]; exact beF_len 8 _
theorem fdiv_pow {n : Int} (h : U64 n) (i : Nat) : Int.fdiv n (2 ^ (8 * i)) = ((n.toNat / 256 ^ i : Nat) : Int) := by
  have e : (2 : Int) ^ (8 * i) = ((256 ^ i : Nat) : Int) := by
    rw [Int.pow_mul]; simp
  rw [e, Int.fdiv_eq_ediv_of_nonneg _ (Int.natCast_nonneg _)]
  have : n = (n.toNat : Int) := (Int.toNat_of_nonneg h.1).symm
  rw [this]; simp
theorem beB_at {n : Int} {j : Nat} (hj : j < (beB n).length) : (beB n)[j]? = some ((n.toNat / 256 ^ ((beB n).length - 1 - j) % 256 : Nat) : Int) := by
  simp only [beB, List.length_map] at hj ⊢
  rw [List.getElem?_map, beF_at 8 _ j hj]; rfl
theorem beB_pos {n : Int} (h : U64 n) (i : Nat) : (0 < n.toNat / 256 ^ i ↔ i < (beB n).length) := by
  simp only [beB, List.length_map]; exact beF_pos 8 _ i h.lt
theorem beB_byte (n : Int) : ∀ x ∈ beB n, 0 ≤ x ∧ x < 256 := by
  intro x hx
  simp only [beB, List.mem_map] at hx
  obtain ⟨y, hy, rfl⟩ := hx
  have := beF_lt 8 _ y hy
  omega
theorem numB_byte (n : Int) : ∀ x ∈ numB n, 0 ≤ x ∧ x < 256 := by
  intro x hx
  rcases List.mem_cons.1 hx with rfl | hx
  · have := beB_len n; omega
  · exact beB_byte n x hx
theorem numB_len (n : Int) : (numB n).length ≤ 9 := by have := beB_len n; simp only [numB, List.length_cons]; omega
/-- a whole number as a number -/
def intU (n : Int) : Int := if 0 ≤ n then 2 * n else 2 * (-n - 1) + 1
def textB (b : List Int) : List Int := numB b.length ++ b
def vecB (v : List Int) : List Int := (v.map numB).flatten
end Go.E
