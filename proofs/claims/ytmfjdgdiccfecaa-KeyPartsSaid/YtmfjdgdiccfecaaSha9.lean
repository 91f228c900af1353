/-
  Contracts of maundref01: words of a block.
-/
import Derived.Test.YtmfjdgdiccfecaaSha7
namespace Go.E.Ytmfjdgdiccfecaa
open Go.Proofs
set_option maxRecDepth 100000
theorem shl_u64 {x n : Nat} (hn : n ≤ 64) (hx : x * 2 ^ n < 18446744073709551616) : shlOf .u64 (x : Int) (n : Int) = ((x * 2 ^ n : Nat) : Int) := by
  show IntKind.u64.wrap ((x : Int) * 2 ^ (min ((n : Int).toNat) 64)) = _
  have : ((x : Int) * 2 ^ n) = ((x * 2 ^ n : Nat) : Int) := by simp
  rw [Int.toNat_natCast, Nat.min_eq_left hn, this, wu (by omega) (by omega)]
theorem tmod_nat (a b : Nat) : Int.tmod (a : Int) (b : Int) = ((a % b : Nat) : Int) := by rw [Int.tmod_eq_emod_of_nonneg (by omega)]; omega
theorem tdiv_nat (a b : Nat) : Int.tdiv (a : Int) (b : Int) = ((a / b : Nat) : Int) := by rw [Int.tdiv_eq_ediv_of_nonneg (by omega)]; omega
theorem turn_spec {m : Mem} {x n : Nat} (h1 : 1 ≤ n) (h2 : n ≤ 31) (hx : x < 2 ^ 32) : Ret Try.prog 25 [u64 x, u64 n] m [u64 ((Sha.rotr x n : Nat) : Int)] := by
  have e1 : IntKind.u64.wrap (32 - (n : Int)) = ((32 - n : Nat) : Int) := by rw [wu (by omega) (by omega)]; omega
  have h3 : (2 : Nat) ^ (32 - n) ≤ 2 ^ 31 := Nat.pow_le_pow_right (by decide) (by omega)
  have h4 : x * 2 ^ (32 - n) < 18446744073709551616 := Nat.lt_of_le_of_lt (Nat.mul_le_mul (Nat.le_of_lt hx) h3) (by decide)
  have h5 : x * 2 ^ (32 - n) % Sha.M < 2 ^ 32 := Nat.mod_lt _ (by decide)
  have h6 : x / 2 ^ n < 2 ^ 32 := Nat.lt_of_le_of_lt (Nat.div_le_self ..) hx
  refine en25 rfl (goY ?_)
  conv => whnf
  repeat (refine And.intro (by first | omega | (simp only [times]; omega)) ?_; conv => whnf)
  rw [e1]
  repeat (refine And.intro (by first | omega | (simp only [times]; omega)) ?_; conv => whnf)
  rw [shl_u64 (by omega) h4, shr_nat (by show n ≤ 64; omega)]
  refine ⟨?_, rfl⟩
  rw [show (4294967296 : Int) = ((4294967296 : Nat) : Int) from rfl, tmod_nat, or_u64 (Nat.lt_of_lt_of_le h6 (by decide)) (Nat.lt_of_lt_of_le h5 (by decide)), Nat.or_comm]
  rfl
theorem rconsts_spec {m : Mem} : Ret Try.prog 23 [] m [.a [.ints .u64 64 (nc Sha.K)]] := by
  refine en23 rfl (goY ?_)
  conv => whnf
  exact ⟨rfl, rfl⟩
/-- the first i words lie -/
structure Wl (m : Mem) (b : Nat) (ws : List Nat) : Prop where
  at' : ∃ arr t fr, m b = some (.cells arr t fr) ∧ ∀ j : Nat, j < ws.length → arr[j]? = some (.int .u64 ((ws.getD j 0 : Nat) : Int))
theorem Wl.get {m : Mem} {b : Nat} {ws : List Nat} (h : Wl m b ws) {j : Nat} (hj : j < ws.length) : mcell m b (0 + j) = some (.int .u64 ((ws.getD j 0 : Nat) : Int)) := by
  obtain ⟨arr, t, fr, h1, h2⟩ := h.at'
  rw [Nat.zero_add]
  exact mcell_of h1 (h2 j hj)
theorem mulmod (a k : Nat) (h : k * a < 18446744073709551616) : IntKind.u64.wrap ((k : Int) * (a : Int)) = ((k * a : Nat) : Int) := by
  rw [← Int.natCast_mul, wu (by omega) (by omega)]
theorem div_lt32 {x n : Nat} (h : x < 2 ^ 32) : x / n < 2 ^ 32 := Nat.lt_of_le_of_lt (Nat.div_le_self ..) h
theorem s0_lt {x : Nat} (h : x < 2 ^ 32) : Sha.s0 x < 2 ^ 32 := Nat.xor_lt_two_pow (Nat.xor_lt_two_pow (rotr_lt h) (rotr_lt h)) (div_lt32 h)
theorem s1_lt {x : Nat} (h : x < 2 ^ 32) : Sha.s1 x < 2 ^ 32 := Nat.xor_lt_two_pow (Nat.xor_lt_two_pow (rotr_lt h) (rotr_lt h)) (div_lt32 h)
theorem lt64 {x : Nat} (h : x < 2 ^ 32) : x < 2 ^ 64 := Nat.lt_of_lt_of_le h (by decide)
theorem rs0_eq {x : Nat} (hx : x < 2 ^ 32) : bitsOf .xor .u64 (bitsOf .xor .u64 ((Sha.rotr x 7 : Nat) : Int) ((Sha.rotr x 18 : Nat) : Int)) (IntKind.u64.wrap ((x : Int).tdiv 8)) = ((Sha.s0 x : Nat) : Int) := by
  have h8 := div_lt32 (n := 8) hx
  rw [show (8 : Int) = ((8 : Nat) : Int) from rfl, tdiv_nat, wu (by omega) (by omega), xor_u64 (lt64 (rotr_lt hx)) (lt64 (rotr_lt hx)), xor_u64 (Nat.xor_lt_two_pow (lt64 (rotr_lt hx)) (lt64 (rotr_lt hx))) (lt64 h8)]
  rfl
theorem rs1_eq {x : Nat} (hx : x < 2 ^ 32) : bitsOf .xor .u64 (bitsOf .xor .u64 ((Sha.rotr x 17 : Nat) : Int) ((Sha.rotr x 19 : Nat) : Int)) (IntKind.u64.wrap ((x : Int).tdiv 1024)) = ((Sha.s1 x : Nat) : Int) := by
  have h8 := div_lt32 (n := 1024) hx
  rw [show (1024 : Int) = ((1024 : Nat) : Int) from rfl, tdiv_nat, wu (by omega) (by omega), xor_u64 (lt64 (rotr_lt hx)) (lt64 (rotr_lt hx)), xor_u64 (Nat.xor_lt_two_pow (lt64 (rotr_lt hx)) (lt64 (rotr_lt hx))) (lt64 h8)]
  rfl
set_option maxHeartbeats 4000000 in
theorem rword_spec {m : Mem} {b o c wb wc : Nat} {bs : List Nat} {t : Nat} (hl : bs.length = 64) (hb : ∀ x ∈ bs, x < 256) (hv : Lb m (.slice (some ⟨b, o, none⟩) 64 c) (nc bs)) (hw : Wl m wb (Sha.words bs t)) (ht : t < 64) :
    Ret Try.prog 24 [.v (.slice (some ⟨b, o, none⟩) 64 c), .v (.slice (some ⟨wb, 0, none⟩) 64 wc), i64 t] m [u64 ((Sha.word bs (Sha.words bs t) t : Nat) : Int)] := by
  have hwl := words_len bs t
  refine en24 rfl (goY ?_)
  conv => whnf
  refine ⟨fun h => ?_, fun h => ?_⟩
  · have h' := of_decide_eq_true h
    have hlt : t < 16 := by omega
    have e4 : IntKind.i64.wrap (4 * (t : Int)) = ((4 * t : Nat) : Int) := by rw [wi (by omega) (by omega)]; omega
    have ea : ∀ k : Nat, k < 4 → IntKind.i64.wrap (((4 * t : Nat) : Int) + (k : Int)) = ((4 * t + k : Nat) : Int) := fun k hk => by rw [wi (by omega) (by omega)]; omega
    have ld : ∀ k, k < 4 → mcell m b (o + (4 * t + k)) = some (.int .u8 ((bs.getD (4 * t + k) 0 : Nat) : Int)) := fun k hk => 
      Lb.at hv (j := 4 * t + k) (x := ((bs.getD (4 * t + k) 0 : Nat) : Int)) (by simp [List.getD_eq_getElem?_getD, List.getElem?_eq_getElem (show 4 * t + k < bs.length by omega)])
    conv => whnf
    rw [e4]
    repeat (refine And.intro (by first | omega | (simp only [times]; omega)) ?_; conv => whnf)
    refine ⟨_, by have := ld 0 (by decide); simp only [times]; exact this, rfl, ?_⟩
    conv => whnf
    rw [e4, show IntKind.i64.wrap (((4 * t : Nat) : Int) + 1) = _ from ea 1 (by decide)]
    repeat (refine And.intro (by first | omega | (simp only [times]; omega)) ?_; conv => whnf)
    refine ⟨_, by have := ld 1 (by decide); simp only [times]; exact this, rfl, ?_⟩
    conv => whnf
    rw [e4, show IntKind.i64.wrap (((4 * t : Nat) : Int) + 2) = _ from ea 2 (by decide)]
    repeat (refine And.intro (by first | omega | (simp only [times]; omega)) ?_; conv => whnf)
    refine ⟨_, by have := ld 2 (by decide); simp only [times]; exact this, rfl, ?_⟩
    conv => whnf
    rw [e4, show IntKind.i64.wrap (((4 * t : Nat) : Int) + 3) = _ from ea 3 (by decide)]
    repeat (refine And.intro (by first | omega | (simp only [times]; omega)) ?_; conv => whnf)
    refine ⟨_, by have := ld 3 (by decide); simp only [times]; exact this, rfl, ?_⟩
    conv => whnf
    have g := getD_lt (by decide) hb
    have f : ∀ k : Nat, IntKind.u64.wrap ((bs.getD k 0 : Nat) : Int) = ((bs.getD k 0 : Nat) : Int) := fun k => by have := g k; rw [wu (by omega) (by omega)]
    have g0 := g (4 * t + 0); have g1 := g (4 * t + 1); have g2 := g (4 * t + 2); have g3 := g (4 * t + 3)
    refine ⟨?_, rfl⟩
    rw [f, f, f, f, Sha.word, if_pos hlt]
    generalize bs.getD (4 * t + 1) 0 = a1 at *
    generalize bs.getD (4 * t + 2) 0 = a2 at *
    generalize bs.getD (4 * t + 3) 0 = a3 at *
    rw [Nat.add_zero] at *
    generalize bs.getD (4 * t) 0 = a0 at *
    simp only [List.cons.injEq, CV.v.injEq, Value.int.injEq, and_true, true_and]
    rw [wu (n := 16777216 * (a0 : Int)) (by omega) (by omega), wu (n := 65536 * (a1 : Int)) (by omega) (by omega), wu (n := 256 * (a2 : Int)) (by omega) (by omega)]
    rw [wu (n := 16777216 * (a0 : Int) + 65536 * (a1 : Int)) (by omega) (by omega), wu (n := 16777216 * (a0 : Int) + 65536 * (a1 : Int) + 256 * (a2 : Int)) (by omega) (by omega), wu (by omega) (by omega)]
    omega
  · have h' := of_decide_eq_false h
    have hge : 16 ≤ t := by omega
    have sb : ∀ k : Nat, 1 ≤ k → k ≤ 16 → IntKind.i64.wrap ((t : Int) - (k : Int)) = ((t - k : Nat) : Int) := fun k h1 h2 => by rw [wi (by omega) (by omega)]; omega
    have hlt := words_lt hb t
    have ld : ∀ k, 1 ≤ k → k ≤ 16 → mcell m wb (0 + (t - k)) = some (.int .u64 (((Sha.words bs t).getD (t - k) 0 : Nat) : Int)) := fun k h1 h2 => hw.get (by omega)
    conv => whnf
    rw [show IntKind.i64.wrap ((t : Int) - 15) = _ from sb 15 (by decide) (by decide)]
    repeat (refine And.intro (by first | omega | (simp only [times]; omega)) ?_; conv => whnf)
    refine ⟨_, by have := ld 15 (by decide) (by decide); simp only [times]; exact this, rfl, ?_⟩
    conv => whnf
    rw [show IntKind.i64.wrap ((t : Int) - 2) = _ from sb 2 (by decide) (by decide)]
    repeat (refine And.intro (by first | omega | (simp only [times]; omega)) ?_; conv => whnf)
    refine ⟨_, by have := ld 2 (by decide) (by decide); simp only [times]; exact this, rfl, ?_⟩
    conv => whnf
    first | refine xretk (turn_spec (n := 7) (by decide) (by decide) (hlt _)) ?_ | refine xret (turn_spec (n := 7) (by decide) (by decide) (hlt _)) ?_
    conv => whnf
    first | refine xretk (turn_spec (n := 18) (by decide) (by decide) (hlt _)) ?_ | refine xret (turn_spec (n := 18) (by decide) (by decide) (hlt _)) ?_
    conv => whnf
    repeat (refine And.intro (by first | omega | (simp only [times]; omega)) ?_; conv => whnf)
    first | refine xretk (turn_spec (n := 17) (by decide) (by decide) (hlt _)) ?_ | refine xret (turn_spec (n := 17) (by decide) (by decide) (hlt _)) ?_
    conv => whnf
    first | refine xretk (turn_spec (n := 19) (by decide) (by decide) (hlt _)) ?_ | refine xret (turn_spec (n := 19) (by decide) (by decide) (hlt _)) ?_
    conv => whnf
    repeat (refine And.intro (by first | omega | (simp only [times]; omega)) ?_; conv => whnf)
    rw [show IntKind.i64.wrap ((t : Int) - 16) = _ from sb 16 (by decide) (by decide)]
    repeat (refine And.intro (by first | omega | (simp only [times]; omega)) ?_; conv => whnf)
    refine ⟨_, by have := ld 16 (by decide) (by decide); simp only [times]; exact this, rfl, ?_⟩
    conv => whnf
    rw [show IntKind.i64.wrap ((t : Int) - 7) = _ from sb 7 (by decide) (by decide)]
    repeat (refine And.intro (by first | omega | (simp only [times]; omega)) ?_; conv => whnf)
    refine ⟨_, by have := ld 7 (by decide) (by decide); simp only [times]; exact this, rfl, ?_⟩
    conv => whnf
    refine ⟨?_, rfl⟩
    have h15 := hlt (t - 15); have h2 := hlt (t - 2); have h16 := hlt (t - 16); have h7 := hlt (t - 7)
    rw [Sha.word, if_neg (by omega)]
    generalize (Sha.words bs t).getD (t - 15) 0 = x15 at *
    generalize (Sha.words bs t).getD (t - 2) 0 = x2 at *
    generalize (Sha.words bs t).getD (t - 16) 0 = x16 at *
    generalize (Sha.words bs t).getD (t - 7) 0 = x7 at *
    simp only [List.cons.injEq, CV.v.injEq, Value.int.injEq, and_true, true_and]
    rw [rs0_eq h15, rs1_eq h2]
    have b0 := s0_lt h15
    have b1 := s1_lt h2
    rw [wu (n := (x16 : Int) + ((Sha.s0 x15 : Nat) : Int)) (by omega) (by omega), wu (n := (x16 : Int) + ((Sha.s0 x15 : Nat) : Int) + (x7 : Int)) (by omega) (by omega), wu (n := (x16 : Int) + ((Sha.s0 x15 : Nat) : Int) + (x7 : Int) + ((Sha.s1 x2 : Nat) : Int)) (by omega) (by omega)]
    rw [← Int.natCast_add, ← Int.natCast_add, ← Int.natCast_add, show (4294967296 : Int) = ((4294967296 : Nat) : Int) from rfl, tmod_nat]
end Go.E.Ytmfjdgdiccfecaa
