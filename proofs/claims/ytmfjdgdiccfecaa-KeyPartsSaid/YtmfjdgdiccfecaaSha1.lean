/-
  Contracts of sha: words.
-/
import Derived.Test.YtmfjdgdiccfecaaCfg
import Derived.Test.YtmfjdgdiccfecaaH
import Derived.Test.YtmfjdgdiccfecaaBits
import Derived.Test.YtmfjdgdiccfecaaShaP
import Derived.Test.YtmfjdgdiccfecaaE22
namespace Go.E.Ytmfjdgdiccfecaa
open Go.Proofs
set_option maxRecDepth 100000
abbrev u32 (n : Int) : CV := .v (.int .u32 n)
theorem rotl_arg {n : Nat} (h1 : 1 ≤ n) (h2 : n ≤ 31) : bitsOf .and .u64 (IntKind.u64.wrap (IntKind.i64.wrap (0 - (n : Int)))) 31 = ((32 - n : Nat) : Int) := by
  have e : IntKind.u64.wrap (IntKind.i64.wrap (0 - (n : Int))) = ((18446744073709551616 - n : Nat) : Int) := by
    rw [wi (by omega) (by omega), IntKind.wrap_u64]; omega
  have e2 := and_u64 (a := 18446744073709551616 - n) (b := 31) (by omega) (by omega)
  rw [e]
  refine e2.trans ?_
  have : (18446744073709551616 - n) &&& 31 = (18446744073709551616 - n) % 2 ^ 5 := Nat.and_two_pow_sub_one_eq_mod (18446744073709551616 - n) 5
  rw [this]; omega
theorem shl_u32 {x n : Nat} (hn : n ≤ 32) : shlOf .u32 (x : Int) (n : Int) = ((x * 2 ^ n % Sha.M : Nat) : Int) := by
  show IntKind.u32.wrap ((x : Int) * 2 ^ (min ((n : Int).toNat) 32)) = _
  rw [Int.toNat_natCast, Nat.min_eq_left hn, IntKind.wrap_u32]
  have : ((x : Int) * 2 ^ n) = ((x * 2 ^ n : Nat) : Int) := by simp
  rw [this]; rfl
theorem shr_nat {k : IntKind} {x n : Nat} (hn : n ≤ k.bits) : shrOf k (x : Int) (n : Int) = ((x / 2 ^ n : Nat) : Int) := by
  show (x : Int).fdiv (2 ^ (min ((n : Int).toNat) k.bits)) = _
  rw [Int.toNat_natCast, Nat.min_eq_left hn, Int.fdiv_eq_ediv_of_nonneg _ (Int.le_of_lt (Int.pow_pos (by decide)))]
  simp
theorem rotr_lt {x n : Nat} (hx : x < 2 ^ 32) : Sha.rotr x n < 2 ^ 32 := Nat.or_lt_two_pow (Nat.mod_lt _ (by decide)) (Nat.lt_of_le_of_lt (Nat.div_le_self ..) hx)
theorem rotl_spec {m : Mem} {x n : Nat} (h1 : 1 ≤ n) (h2 : n ≤ 31) (hx : x < 2 ^ 32) : Ret Try.prog 37 [u32 x, i64 (IntKind.i64.wrap (0 - (n : Int)))] m [u32 ((Sha.rotr x n : Nat) : Int)] := by
  refine en37 rfl (goY ?_)
  conv => whnf
  rw [rotl_arg h1 h2]
  repeat (refine And.intro (by first | omega | (simp only [times]; omega)) ?_; conv => whnf)
  have e1 : IntKind.u64.wrap (32 - ((32 - n : Nat) : Int)) = (n : Int) := by rw [wu (by omega) (by omega)]; omega
  rw [e1]
  repeat (refine And.intro (by first | omega | (simp only [times]; omega)) ?_; conv => whnf)
  refine ⟨?_, rfl⟩
  rw [shl_u32 (by omega), shr_nat (by show n ≤ 32; omega)]
  have := or_u32 (a := x * 2 ^ (32 - n) % Sha.M) (b := x / 2 ^ n) (Nat.mod_lt _ (by decide)) (Nat.lt_of_le_of_lt (Nat.div_le_self ..) hx)
  rw [this]; rfl
theorem right_spec {m : Mem} {x n : Nat} (h1 : 1 ≤ n) (h2 : n ≤ 31) (hx : x < 2 ^ 32) : Ret Try.prog 35 [u32 x, i64 n] m [u32 ((Sha.rotr x n : Nat) : Int)] := by
  refine en35 rfl (goY ?_)
  conv => whnf
  first | refine xretk (rotl_spec h1 h2 hx) ?_ | refine xret (rotl_spec h1 h2 hx) ?_
  conv => whnf
  exact ⟨rfl, rfl⟩
theorem consts_spec {m : Mem} : Ret Try.prog 33 [] m [.a [.ints .u32 64 (Sha.K.map fun (n : Nat) => (n : Int))]] := by
  refine en33 rfl (goY ?_)
  conv => whnf
  exact ⟨rfl, rfl⟩
theorem first_spec {m : Mem} : Ret Try.prog 26 [] m [.a [.ints .u32 8 (Sha.H0.map fun (n : Nat) => (n : Int))]] := by
  refine en26 rfl (goY ?_)
  conv => whnf
  exact ⟨rfl, rfl⟩
/-- the first i words of 64 -/
def wc (b : List Nat) (i : Nat) : List Int := (Sha.words b i).map (fun (n : Nat) => (n : Int)) ++ List.replicate (64 - i) 0
theorem words_len (b : List Nat) : ∀ t, (Sha.words b t).length = t
  | 0 => rfl
  | t + 1 => by simp [Sha.words, words_len b t]
theorem wc_get {b : List Nat} {i j : Nat} (h : j < i) : (wc b i).getD j 0 = (((Sha.words b i).getD j 0 : Nat) : Int) := by
  have hl := words_len b i
  simp only [wc, List.getD_eq_getElem?_getD]
  rw [List.getElem?_append_left (by simp [hl, h]), List.getElem?_map, List.getElem?_eq_getElem (by omega)]
  rfl
theorem wc_set {b : List Nat} {i : Nat} {x : Int} (h : i < 64) (hx : x = ((Sha.word b (Sha.words b i) i : Nat) : Int)) : (wc b i).set i x = wc b (i + 1) := by
  have hl := words_len b i
  have e : List.replicate (64 - i) (0 : Int) = 0 :: List.replicate (64 - (i + 1)) 0 := by
    rw [← List.replicate_succ]; congr 1; omega
  rw [wc, e, List.set_append_right _ _ (by simp [hl]), wc, Sha.words, hx]
  simp [hl]
theorem word_lt {b : List Nat} (hb : ∀ x ∈ b, x < 256) (w : List Nat) (t : Nat) : Sha.word b w t < 2 ^ 32 := by
  have g : ∀ k, b.getD k 0 < 256 := fun k => by
    simp only [List.getD_eq_getElem?_getD]
    cases h : b[k]? with
    | none => simp
    | some x => simpa using hb x (List.mem_of_getElem? h)
  unfold Sha.word
  split
  · have := g (4 * t); have := g (4 * t + 1); have := g (4 * t + 2); have := g (4 * t + 3); omega
  · exact Nat.mod_lt _ (by decide)
theorem words_lt {b : List Nat} (hb : ∀ x ∈ b, x < 256) : ∀ (t : Nat) (k : Nat), (Sha.words b t).getD k 0 < 2 ^ 32
  | 0, k => by simp [Sha.words]
  | t + 1, k => by
    have ih := words_lt hb t k
    have hl := words_len b t
    simp only [Sha.words, List.getD_eq_getElem?_getD] at ih ⊢
    rcases Nat.lt_trichotomy k t with h | h | h
    · rw [List.getElem?_append_left (by omega)]; exact ih
    · subst h; rw [List.getElem?_append_right (by omega), hl]; simpa using word_lt hb _ _
    · rw [List.getElem?_eq_none (by simp; omega)]; simp
theorem Lb.at {m : Mem} {b o n c j : Nat} {l : List Int} (h : Lb m (.slice (some ⟨b, o, none⟩) n c) l) {x : Int} (hj : l[j]? = some x) : mcell m b (o + j) = some (.int .u8 x) := by
  obtain ⟨arr, t, fr, h1, h2⟩ := h.range
  exact mcell_of h1 (h2 j _ (by simp [hj]))
theorem iadd {i : Nat} (h : i < 1000000000000) : IntKind.i64.wrap ((i : Int) + 1) = ((i + 1 : Nat) : Int) := by rw [wi (by omega) (by omega)]; omega
theorem be4_nat {a b c d : Nat} (ha : a < 256) (hb : b < 256) (hc : c < 256) (hd : d < 256) :
    ((a * 2 ^ 24 % 4294967296 ||| b * 2 ^ 16 % 4294967296) ||| c * 2 ^ 8 % 4294967296) ||| d = a * 16777216 + b * 65536 + c * 256 + d := by
  have q24 : (2 : Nat) ^ 24 = 16777216 := rfl
  have q16 : (2 : Nat) ^ 16 = 65536 := rfl
  have q8 : (2 : Nat) ^ 8 = 256 := rfl
  have m1 := @or_low a (b * 65536) 24
  have m2 := @or_low (a * 256 + b) (c * 256) 16
  have m3 := @or_low (a * 65536 + b * 256 + c) d 8
  rw [q24] at m1 ⊢
  rw [q16] at m2 ⊢
  rw [q8] at m3 ⊢
  have m1 := m1 (by omega)
  have m2 := m2 (by omega)
  have m3 := m3 (by omega)
  rw [Nat.mod_eq_of_lt (show a * 16777216 < 4294967296 by omega), Nat.mod_eq_of_lt (show b * 65536 < 4294967296 by omega), Nat.mod_eq_of_lt (show c * 256 < 4294967296 by omega), m1,
    show a * 16777216 + b * 65536 = (a * 256 + b) * 65536 by omega, m2, show (a * 256 + b) * 65536 + c * 256 = (a * 65536 + b * 256 + c) * 256 by omega, m3, show (a * 65536 + b * 256 + c) * 256 + d = a * 16777216 + b * 65536 + c * 256 + d by omega]
theorem be4_int {a b c d : Nat} (ha : a < 256) (hb : b < 256) (hc : c < 256) (hd : d < 256) :
    bitsOf .or .u32 (bitsOf .or .u32 (bitsOf .or .u32 (shlOf .u32 (a : Int) 24) (shlOf .u32 (b : Int) 16)) (shlOf .u32 (c : Int) 8)) (d : Int) = ((a * 16777216 + b * 65536 + c * 256 + d : Nat) : Int) := by
  have ea := shl_u32 (x := a) (n := 24) (by decide)
  have eb := shl_u32 (x := b) (n := 16) (by decide)
  have ec := shl_u32 (x := c) (n := 8) (by decide)
  rw [show ((24 : Int)) = ((24 : Nat) : Int) from rfl, show ((16 : Int)) = ((16 : Nat) : Int) from rfl, show ((8 : Int)) = ((8 : Nat) : Int) from rfl, ea, eb, ec]
  have p1 : a * 2 ^ 24 % Sha.M < 2 ^ 32 := Nat.mod_lt _ (by decide)
  have p2 : b * 2 ^ 16 % Sha.M < 2 ^ 32 := Nat.mod_lt _ (by decide)
  have p3 : c * 2 ^ 8 % Sha.M < 2 ^ 32 := Nat.mod_lt _ (by decide)
  rw [or_u32 p1 p2, or_u32 (Nat.or_lt_two_pow p1 p2) p3, or_u32 (Nat.or_lt_two_pow (Nat.or_lt_two_pow p1 p2) p3) (Nat.lt_of_lt_of_le hd (by decide)), be4_nat ha hb hc hd]
theorem getD_lt {bs : List Nat} {n : Nat} (hn : 0 < n) (hb : ∀ x ∈ bs, x < n) (k : Nat) : bs.getD k 0 < n := by
  simp only [List.getD_eq_getElem?_getD]
  cases h : bs[k]? with
  | none => simpa using hn
  | some x => simpa using hb x (List.mem_of_getElem? h)
theorem w32 {a : Nat} (h : a < 256) : IntKind.u32.wrap (a : Int) = (a : Int) := wu32 (by omega) (by omega)
theorem word_bytes {bs : List Nat} (hb : ∀ x ∈ bs, x < 256) {i : Nat} (hi : i < 16) {w : List Nat} :
    bitsOf .or .u32 (bitsOf .or .u32 (bitsOf .or .u32 (shlOf .u32 (IntKind.u32.wrap ((bs.getD (4 * i + 0) 0 : Nat) : Int)) 24) (shlOf .u32 (IntKind.u32.wrap ((bs.getD (4 * i + 1) 0 : Nat) : Int)) 16)) (shlOf .u32 (IntKind.u32.wrap ((bs.getD (4 * i + 2) 0 : Nat) : Int)) 8)) (IntKind.u32.wrap ((bs.getD (4 * i + 3) 0 : Nat) : Int))
      = ((Sha.word bs w i : Nat) : Int) := by
  have g := getD_lt (by decide) hb
  rw [w32 (g _), w32 (g _), w32 (g _), w32 (g _), be4_int (g _) (g _) (g _) (g _), Sha.word, if_pos hi, Nat.add_zero]
theorem add_u32 (a b : Nat) : IntKind.u32.wrap ((a : Int) + (b : Int)) = (((a + b) % Sha.M : Nat) : Int) := by
  rw [IntKind.wrap_u32, ← Int.natCast_add]; rfl
theorem s0_eq {x : Nat} (hx : x < 2 ^ 32) : bitsOf .xor .u32 (bitsOf .xor .u32 ((Sha.rotr x 7 : Nat) : Int) ((Sha.rotr x 18 : Nat) : Int)) (shrOf .u32 (x : Int) 3) = ((Sha.s0 x : Nat) : Int) := by
  have e := shr_nat (k := .u32) (x := x) (n := 3) (by decide)
  rw [show ((3 : Int)) = ((3 : Nat) : Int) from rfl, e, xor_u32 (rotr_lt hx) (rotr_lt hx), xor_u32 (Nat.xor_lt_two_pow (rotr_lt hx) (rotr_lt hx)) (Nat.lt_of_le_of_lt (Nat.div_le_self ..) hx)]
  rfl
theorem s1_eq {x : Nat} (hx : x < 2 ^ 32) : bitsOf .xor .u32 (bitsOf .xor .u32 ((Sha.rotr x 17 : Nat) : Int) ((Sha.rotr x 19 : Nat) : Int)) (shrOf .u32 (x : Int) 10) = ((Sha.s1 x : Nat) : Int) := by
  have e := shr_nat (k := .u32) (x := x) (n := 10) (by decide)
  rw [show ((10 : Int)) = ((10 : Nat) : Int) from rfl, e, xor_u32 (rotr_lt hx) (rotr_lt hx), xor_u32 (Nat.xor_lt_two_pow (rotr_lt hx) (rotr_lt hx)) (Nat.lt_of_le_of_lt (Nat.div_le_self ..) hx)]
  rfl
theorem mod4 (a b c d : Nat) : (((a + b) % Sha.M + c) % Sha.M + d) % Sha.M = (a + b + c + d) % Sha.M := by show (((a + b) % 4294967296 + c) % 4294967296 + d) % 4294967296 = (a + b + c + d) % 4294967296; omega
theorem word_later {bs : List Nat} {i : Nat} (hw : ∀ k, (Sha.words bs i).getD k 0 < 2 ^ 32) (hi : 16 ≤ i) :
    IntKind.u32.wrap (IntKind.u32.wrap (IntKind.u32.wrap ((((Sha.words bs i).getD (i - 16) 0 : Nat) : Int) + bitsOf .xor .u32 (bitsOf .xor .u32 ((Sha.rotr ((Sha.words bs i).getD (i - 15) 0) 7 : Nat) : Int) ((Sha.rotr ((Sha.words bs i).getD (i - 15) 0) 18 : Nat) : Int)) (shrOf .u32 (((Sha.words bs i).getD (i - 15) 0 : Nat) : Int) 3)) + (((Sha.words bs i).getD (i - 7) 0 : Nat) : Int))
      + bitsOf .xor .u32 (bitsOf .xor .u32 ((Sha.rotr ((Sha.words bs i).getD (i - 2) 0) 17 : Nat) : Int) ((Sha.rotr ((Sha.words bs i).getD (i - 2) 0) 19 : Nat) : Int)) (shrOf .u32 (((Sha.words bs i).getD (i - 2) 0 : Nat) : Int) 10)) = ((Sha.word bs (Sha.words bs i) i : Nat) : Int) := by
  rw [s0_eq (hw _), s1_eq (hw _), add_u32, add_u32, add_u32, mod4, Sha.word, if_neg (by omega)]
set_option maxHeartbeats 4000000 in
theorem spread_spec {m : Mem} {b o c : Nat} {bs : List Nat} (hl : bs.length = 64) (hb : ∀ x ∈ bs, x < 256) (hv : Lb m (.slice (some ⟨b, o, none⟩) 64 c) (bs.map fun (n : Nat) => (n : Int))) (hc : 64 ≤ c) :
    Ret Try.prog 34 [.v (.slice (some ⟨b, o, none⟩) 64 c)] m [.a [.ints .u32 64 ((Sha.words bs 64).map fun (n : Nat) => (n : Int))]] := by
  refine en34 rfl (goY ?_)
  conv => whnf
  refine .mk (ι := Nat) (fun i => 16 - i) (fun i mm => i ≤ 16 ∧ mm = m) (fun i => [(0, .c (.v (.slice (some ⟨b, o, none⟩) 64 c))), (2, .p 0 0), (3, .p 1 0), (9, .c (i64 i))])
    (fun i => [(64, [.ints .u32 64 (List.replicate 64 0)]), (64, [.ints .u32 64 (wc bs i)])]) 0 ⟨by omega, rfl⟩ ?_ ?_
  · conv => whnf
    repeat (refine And.intro (by first | with_reducible rfl | exact congrArg (Value.int _) (wi (by omega) (by omega)) | exact wi (by omega) (by omega) | rfl) ?_; conv => whnf)
    first | exact trivial | exact fun _ _ h => h
  rintro i mm ⟨hi, he⟩
  subst mm
  conv => whnf
  refine ⟨fun h => ?_, fun h => ?_⟩
  · have h' := of_decide_eq_true h
    have hlt : i < 16 := by omega
    have e4 : IntKind.i64.wrap (4 * (i : Int)) = ((4 * i : Nat) : Int) := by rw [wi (by omega) (by omega)]; omega
    conv => whnf
    rw [e4]
    repeat (refine And.intro (by first | omega | (simp only [times]; omega)) ?_; conv => whnf)
    intro o' ho _
    obtain rfl : o' = o + 4 * i := by have := ho (by omega); rw [Int.toNat_natCast] at this; simpa using this
    have ld : ∀ k, k < 4 → mcell m b (o + 4 * i + k) = some (.int .u8 ((bs.getD (4 * i + k) 0 : Nat) : Int)) := fun k hk => by
      have := Lb.at hv (j := 4 * i + k) (x := ((bs.getD (4 * i + k) 0 : Nat) : Int)) (by simp [List.getD_eq_getElem?_getD, List.getElem?_eq_getElem (show 4 * i + k < bs.length by omega)])
      rw [Nat.add_assoc]; exact this
    conv => whnf
    repeat (refine And.intro (by first | omega | (simp only [times]; omega)) ?_; conv => whnf)
    refine ⟨_, ld 0 (by decide), rfl, ?_⟩
    conv => whnf
    repeat (refine And.intro (by first | omega | (simp only [times]; omega)) ?_; conv => whnf)
    refine ⟨_, ld 1 (by decide), rfl, ?_⟩
    conv => whnf
    repeat (refine And.intro (by first | omega | (simp only [times]; omega)) ?_; conv => whnf)
    refine ⟨_, ld 2 (by decide), rfl, ?_⟩
    conv => whnf
    repeat (refine And.intro (by first | omega | (simp only [times]; omega)) ?_; conv => whnf)
    refine ⟨_, ld 3 (by decide), rfl, ?_⟩
    conv => whnf
    repeat (refine And.intro (by first | omega | (simp only [times]; omega)) ?_; conv => whnf)
    refine ⟨i + 1, ⟨by omega, rfl⟩, by omega, ?_⟩
    conv => whnf
    repeat (refine And.intro (by first | with_reducible rfl | (first | exact congrArg (Value.int _) (iadd (by omega)) | exact wc_set (by omega) (word_bytes hb hlt)) | exact congrArg (Value.int _) (wi (by omega) (by omega)) | exact wi (by omega) (by omega) | rfl) ?_; conv => whnf)
    first | exact trivial | exact fun _ _ h => h
  · have h' := of_decide_eq_false h
    obtain rfl : i = 16 := by omega
    conv => whnf
    refine .mk (ι := Nat) (fun i => 64 - i) (fun i mm => 16 ≤ i ∧ i ≤ 64 ∧ mm = m) (fun i => [(2, .p 0 0), (3, .p 1 0), (6, .c (i64 i))])
      (fun i => [(64, [.ints .u32 64 (List.replicate 64 0)]), (64, [.ints .u32 64 (wc bs i)])]) 16 ⟨by omega, by omega, rfl⟩ ?_ ?_
    · conv => whnf
      repeat (refine And.intro (by first | with_reducible rfl | exact congrArg (Value.int _) (wi (by omega) (by omega)) | exact wi (by omega) (by omega) | rfl) ?_; conv => whnf)
      first | exact trivial | exact fun _ _ h => h
    rintro i mm ⟨hi0, hi, he⟩
    subst mm
    conv => whnf
    refine ⟨fun h => ?_, fun h => ?_⟩
    · have h' := of_decide_eq_true h
      have hlt : i < 64 := by omega
      have hw := words_lt hb i
      have sb : ∀ k : Nat, 1 ≤ k → k ≤ 16 → IntKind.i64.wrap ((i : Int) - (k : Int)) = ((i - k : Nat) : Int) := fun k h1 h2 => by rw [wi (by omega) (by omega)]; omega
      have gt : ∀ k : Nat, 1 ≤ k → k ≤ 16 → (wc bs i).getD (i - k) 0 = (((Sha.words bs i).getD (i - k) 0 : Nat) : Int) := fun k h1 h2 => wc_get (by omega)
      conv => whnf
      rw [show IntKind.i64.wrap ((i : Int) - 15) = _ from sb 15 (by decide) (by decide)]
      repeat (refine And.intro (by first | omega | (simp only [times]; omega)) ?_; conv => whnf)
      rw [show IntKind.i64.wrap ((i : Int) - 2) = _ from sb 2 (by decide) (by decide)]
      repeat (refine And.intro (by first | omega | (simp only [times]; omega)) ?_; conv => whnf)
      rw [show IntKind.i64.wrap ((i : Int) - 16) = _ from sb 16 (by decide) (by decide)]
      repeat (refine And.intro (by first | omega | (simp only [times]; omega)) ?_; conv => whnf)
      simp only [times, Int.toNat_natCast, gt 15 (by decide) (by decide), gt 2 (by decide) (by decide), gt 16 (by decide) (by decide)]
      rw [show IntKind.i64.wrap ((i : Int) - 7) = _ from sb 7 (by decide) (by decide)]
      repeat (refine And.intro (by first | omega | (simp only [times]; omega)) ?_; conv => whnf)
      simp only [Int.toNat_natCast, gt 7 (by decide) (by decide)]
      first | refine xretk (right_spec (n := 7) (by decide) (by decide) (hw _)) ?_ | refine xret (right_spec (n := 7) (by decide) (by decide) (hw _)) ?_
      conv => whnf
      first | refine xretk (right_spec (n := 18) (by decide) (by decide) (hw _)) ?_ | refine xret (right_spec (n := 18) (by decide) (by decide) (hw _)) ?_
      conv => whnf
      first | refine xretk (right_spec (n := 17) (by decide) (by decide) (hw _)) ?_ | refine xret (right_spec (n := 17) (by decide) (by decide) (hw _)) ?_
      conv => whnf
      first | refine xretk (right_spec (n := 19) (by decide) (by decide) (hw _)) ?_ | refine xret (right_spec (n := 19) (by decide) (by decide) (hw _)) ?_
      conv => whnf
      repeat (refine And.intro (by first | omega | (simp only [times]; omega)) ?_; conv => whnf)
      refine ⟨i + 1, ⟨by omega, by omega, rfl⟩, by omega, ?_⟩
      conv => whnf
      repeat (refine And.intro (by first | with_reducible rfl | (first | exact congrArg (Value.int _) (iadd (by omega)) | exact wc_set (by omega) (word_later hw hi0)) | exact congrArg (Value.int _) (wi (by omega) (by omega)) | exact wi (by omega) (by omega) | rfl) ?_; conv => whnf)
      first | exact trivial | exact fun _ _ h => h
    · have h' := of_decide_eq_false h
      obtain rfl : i = 64 := by omega
      conv => whnf
      exact ⟨by simp [wc], rfl⟩
end Go.E.Ytmfjdgdiccfecaa
