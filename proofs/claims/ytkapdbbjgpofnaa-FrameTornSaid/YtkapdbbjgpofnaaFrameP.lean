/-
  Frames, plainly: the sum of bytes, records one behind the other, bursts.
-/
import Derived.Test.YtkapdbbjgpofnaaWireQ
namespace Go.E
instance (l : List Int) : Decidable (Byt l) := inferInstanceAs (Decidable (∀ x ∈ l, 0 ≤ x ∧ x < 256))
namespace Fr
/-- one bit of a sum -/
def stp (s : Nat) : Nat := if s % 2 = 1 then (s / 2) ^^^ 3988292384 else s / 2
def stps : Nat → Nat → Nat
  | 0, s => s
  | k + 1, s => stps k (stp s)
def crc1 (s c : Nat) : Nat := stps 8 (s ^^^ c)
def crc (l : List Int) : Nat := (l.foldl (fun s c => crc1 s c.toNat) 4294967295) ^^^ 4294967295
theorem stp_lt {s : Nat} (h : s < 2 ^ 32) : stp s < 2 ^ 32 := by
  unfold stp
  have : s / 2 < 2 ^ 32 := by omega
  split
  · exact Nat.xor_lt_two_pow this (by decide)
  · exact this
theorem stps_lt : ∀ {k s : Nat}, s < 2 ^ 32 → stps k s < 2 ^ 32
  | 0, _, h => h
  | k + 1, _, h => stps_lt (k := k) (stp_lt h)
theorem stps_succ : ∀ (k s : Nat), stps (k + 1) s = stp (stps k s)
  | 0, _ => rfl
  | k + 1, s => by rw [stps, stps_succ k, stps]
theorem stps_add (j : Nat) : ∀ (k s : Nat), stps (j + k) s = stps k (stps j s)
  | 0, _ => rfl
  | k + 1, s => by rw [← Nat.add_assoc, stps_succ, stps_add j k, ← stps_succ]
theorem xor_mod2 (a b : Nat) : (a ^^^ b) % 2 = (a % 2 + b % 2) % 2 := by
  have h := Nat.xor_mod_two_pow (a := a) (b := b) (n := 1)
  rw [Nat.pow_one] at h
  rw [h]
  rcases Nat.mod_two_eq_zero_or_one a with ha | ha <;> rcases Nat.mod_two_eq_zero_or_one b with hb | hb <;> rw [ha, hb] <;> rfl
theorem xor_div2 (a b : Nat) : (a ^^^ b) / 2 = (a / 2) ^^^ (b / 2) := by
  have := @Nat.shiftRight_xor_distrib 1 a b
  simpa [Nat.shiftRight_eq_div_pow] using this
theorem stp_xor (a b : Nat) : stp (a ^^^ b) = stp a ^^^ stp b := by
  unfold stp
  rw [xor_mod2, xor_div2]
  rcases Nat.mod_two_eq_zero_or_one a with ha | ha <;> rcases Nat.mod_two_eq_zero_or_one b with hb | hb <;> simp only [ha, hb] <;> simp
  · rw [Nat.xor_assoc]
  · rw [Nat.xor_assoc, Nat.xor_assoc, Nat.xor_comm 3988292384 (b / 2)]
  · rw [Nat.xor_assoc (a / 2) 3988292384, ← Nat.xor_assoc 3988292384 (b / 2), Nat.xor_comm 3988292384 (b / 2), Nat.xor_assoc (b / 2), Nat.xor_self, Nat.xor_zero]
theorem stps_xor : ∀ (k a b : Nat), stps k (a ^^^ b) = stps k a ^^^ stps k b
  | 0, _, _ => rfl
  | k + 1, a, b => by rw [stps, stp_xor, stps_xor k, stps, stps]
theorem stps_even : ∀ (k a : Nat), stps k (a * 2 ^ k) = a
  | 0, a => by simp [stps]
  | k + 1, a => by
    have h : a * 2 ^ (k + 1) = (a * 2 ^ k) * 2 := by rw [Nat.pow_succ, Nat.mul_assoc]
    rw [stps, stp, h, if_neg (by omega), Nat.mul_div_cancel _ (by decide), stps_even k]
theorem stp_ne {s : Nat} (h : s < 2 ^ 32) (h0 : s ≠ 0) : stp s ≠ 0 := by
  unfold stp
  split
  · intro e
    have h1 : s / 2 = 3988292384 := by
      have : s / 2 ^^^ 3988292384 ^^^ 3988292384 = 0 ^^^ 3988292384 := by rw [e]
      rw [Nat.xor_assoc, Nat.xor_self, Nat.xor_zero, Nat.zero_xor] at this
      exact this
    omega
  · omega
theorem stps_ne : ∀ {k s : Nat}, s < 2 ^ 32 → s ≠ 0 → stps k s ≠ 0
  | 0, _, _, h0 => h0
  | k + 1, _, h, h0 => stps_ne (k := k) (stp_lt h) (stp_ne h h0)
/-- bytes as one number, the lowest first -/
def big : List Int → Nat
  | [] => 0
  | c :: l => c.toNat ^^^ (big l * 256)
theorem big_set {x : Nat} : ∀ {l : List Int} {k : Nat}, k < l.length → big (l.set k (((l.getD k 0).toNat ^^^ x : Nat) : Int)) = big l ^^^ (x * 256 ^ k)
  | [], _, h => by simp at h
  | c :: l, 0, _ => by
    simp only [List.set_cons_zero, big, List.getD_cons_zero, Int.toNat_natCast, Nat.pow_zero, Nat.mul_one]
    rw [Nat.xor_assoc, Nat.xor_comm x, ← Nat.xor_assoc]
  | c :: l, k + 1, h => by
    have ih := big_set (x := x) (l := l) (k := k) (by simpa using h)
    simp only [List.set_cons_succ, big, List.getD_cons_succ, ih]
    have e : (big l ^^^ x * 256 ^ k) * 256 = (big l * 256) ^^^ (x * 256 ^ (k + 1)) := by
      have := @Nat.shiftLeft_xor_distrib 8 (big l) (x * 256 ^ k)
      simp only [Nat.shiftLeft_eq] at this
      rw [show (256 : Nat) = 2 ^ 8 from rfl] at this ⊢
      rw [this, Nat.mul_assoc, ← Nat.pow_succ]
    rw [e, Nat.xor_assoc]
theorem crc_big : ∀ (l : List Int) (s : Nat), l.foldl (fun s c => crc1 s c.toNat) s = stps (8 * l.length) (s ^^^ big l)
  | [], s => by simp [big, stps]
  | c :: l, s => by
    rw [List.foldl_cons, crc_big l, List.length_cons, show 8 * (l.length + 1) = 8 + 8 * l.length by omega, stps_add, big, ← Nat.xor_assoc, stps_xor 8 (s ^^^ c.toNat), stps_even 8]
    rfl
/-- a burst turns the sum -/
theorem burst {b c : List Int} {d n : Nat} (hl : b.length = c.length) (hc : big c = big b ^^^ (d * 2 ^ n)) (hd : d < 2 ^ 32) (h0 : d ≠ 0) (hn : n ≤ 8 * b.length) : crc b ≠ crc c := by
  intro e
  have e : crc b ^^^ 4294967295 = crc c ^^^ 4294967295 := by rw [e]
  simp only [crc, Nat.xor_assoc, Nat.xor_self, Nat.xor_zero] at e
  rw [crc_big, crc_big, ← hl, hc, ← Nat.xor_assoc, stps_xor _ (4294967295 ^^^ big b)] at e
  have h1 : stps (8 * b.length) (d * 2 ^ n) = 0 := by
    have : stps (8 * b.length) (4294967295 ^^^ big b) ^^^ stps (8 * b.length) (4294967295 ^^^ big b) = stps (8 * b.length) (4294967295 ^^^ big b) ^^^ (stps (8 * b.length) (4294967295 ^^^ big b) ^^^ stps (8 * b.length) (d * 2 ^ n)) := by rw [← e]
    rw [Nat.xor_self, ← Nat.xor_assoc, Nat.xor_self, Nat.zero_xor] at this
    exact this.symm
  rw [show 8 * b.length = n + (8 * b.length - n) by omega, stps_add, stps_even] at h1
  exact stps_ne hd h0 h1
theorem fold_lt : ∀ {l : List Int} {s : Nat}, s < 2 ^ 32 → Byt l → l.foldl (fun s c => crc1 s c.toNat) s < 2 ^ 32
  | [], _, h, _ => h
  | c :: l, s, h, hb => fold_lt (l := l) (stps_lt (Nat.xor_lt_two_pow h (by have := hb c (by simp); omega))) fun x hx => hb x (by simp [hx])
theorem crc_lt {l : List Int} (hb : Byt l) : crc l < 2 ^ 32 := Nat.xor_lt_two_pow (fold_lt (by decide) hb) (by decide)
/-! ### records -/
def four (s : Nat) : List Int := [((s % 256 : Nat) : Int), ((s / 256 % 256 : Nat) : Int), ((s / 65536 % 256 : Nat) : Int), ((s / 16777216 % 256 : Nat) : Int)]
theorem four_byt (s : Nat) : Byt (four s) := by
  intro x hx
  simp only [four, List.mem_cons, List.not_mem_nil, or_false] at hx
  rcases hx with rfl | rfl | rfl | rfl <;> omega
def wr (r : List Int) : List Int := numB (r.length : Int) ++ r ++ four (crc r)
def isRec (n : Nat) : Bool := decide (1 ≤ n) && decide (n ≤ 20000)
/-- the record that bytes begin with, how many its frame has, and the fault -/
def next (b : List Int) : List Int × Nat × Int :=
  let s := rSmall 20000 (b, 0)
  if s.2.2 = 8 then ([], 0, 0) else if s.2.2 ≠ 0 ∨ s.1 = 0 then ([], 0, 3) else
  let at' := (numB s.1).length
  let n := s.1.toNat
  if (b.length : Int) - at' < n + 4 then ([], 0, 0) else
  let d := (b.drop at').take n
  if four (crc d) = (b.drop (at' + n)).take 4 then (d, at' + n + 4, 0) else ([], 0, 9)
/-- as many records as come, and where, and the fault -/
def read : Nat → List Int → List (List Int) × Nat × Int
  | 0, _ => ([], 0, 0)
  | f + 1, b => let (d, n, e) := next b; if 0 < n then let (l, k, e') := read f (b.drop n); (d :: l, n + k, e') else ([], 0, e)
theorem numB_pos (n : Int) : 0 < (numB n).length := by simp [numB]
theorem next_le (b : List Int) : (next b).2.1 ≤ b.length := by
  unfold next
  dsimp only
  split
  · simp
  · split
    · simp
    · split
      · simp
      · split
        · simp only; omega
        · simp
theorem small_back {n : Nat} (h : n ≤ 20000) (t : List Int) : rSmall 20000 (numB (n : Int) ++ t, 0) = ((n : Int), (t, 0)) := by
  have h1 := rNum_back (n := (n : Int)) ⟨by omega, by omega⟩ t
  unfold rSmall
  rw [h1]
  dsimp only
  have : (decide ((0 : Int) ≤ 20000) && decide ((n : Int) ≤ max 20000 0)) = true := by simp; omega
  rw [this]; simp [rMust]
theorem small_cut {n : Nat} (h : n ≤ 20000) (k : Nat) (hk : k < (numB (n : Int)).length) : (rSmall 20000 ((numB (n : Int)).take k, 0)).2.2 = 8 := by
  obtain ⟨u, hu⟩ := rNum_cut (n := (n : Int)) k hk rfl
  unfold rSmall
  rw [hu]
  simp [rMust]
theorem next_back {r : List Int} (h : isRec r.length = true) (t : List Int) : next (wr r ++ t) = (r, (wr r).length, 0) := by
  have h' : 1 ≤ r.length ∧ r.length ≤ 20000 := by simpa [isRec] using h
  have e : wr r ++ t = numB (r.length : Int) ++ (r ++ (four (crc r) ++ t)) := by simp [wr]
  unfold next
  dsimp only
  rw [e, small_back h'.2, if_neg (by simp), if_neg (fun hh => hh.elim (fun h => h rfl) fun h => by have : (r.length : Int) = 0 := h; omega), Int.toNat_natCast]
  have hl : (wr r).length = (numB (r.length : Int)).length + r.length + 4 := by simp [wr, four]; omega
  rw [if_neg (by simp [four]; omega)]
  have d1 : (numB (r.length : Int) ++ (r ++ (four (crc r) ++ t))).drop (numB (r.length : Int)).length = r ++ (four (crc r) ++ t) := by simp
  have d2 : (numB (r.length : Int) ++ (r ++ (four (crc r) ++ t))).drop ((numB (r.length : Int)).length + r.length) = four (crc r) ++ t := by
    rw [← List.drop_drop, d1]; simp
  rw [d1, d2]
  have t1 : (r ++ (four (crc r) ++ t)).take r.length = r := by simp
  have t2 : (four (crc r) ++ t).take 4 = four (crc r) := by simp [four]
  rw [t1, t2, if_pos rfl, hl]
theorem next_cut {r : List Int} (h : isRec r.length = true) {k : Nat} (hk : k < (wr r).length) : next ((wr r).take k) = ([], 0, 0) := by
  have h' : 1 ≤ r.length ∧ r.length ≤ 20000 := by simpa [isRec] using h
  have hl : (wr r).length = (numB (r.length : Int)).length + r.length + 4 := by simp [wr, four]; omega
  have e : wr r = numB (r.length : Int) ++ (r ++ four (crc r)) := by simp [wr]
  unfold next
  dsimp only
  by_cases hn : k < (numB (r.length : Int)).length
  · have : (wr r).take k = (numB (r.length : Int)).take k := by rw [e, List.take_append_of_le_length (by omega)]
    rw [this, small_cut h'.2 k hn, if_pos rfl]
  · have : (wr r).take k = numB (r.length : Int) ++ (r ++ four (crc r)).take (k - (numB (r.length : Int)).length) := by
      rw [e, List.take_append, List.take_of_length_le (by omega)]
    have hlen : ((wr r).take k).length = k := by simp; omega
    have hs := small_back h'.2 ((r ++ four (crc r)).take (k - (numB (r.length : Int)).length))
    rw [← this] at hs
    rw [hs, if_neg (by simp), if_neg (fun hh => hh.elim (fun h => h rfl) fun h => by have : (r.length : Int) = 0 := h; omega), if_pos (by rw [hlen]; show (k : Int) - ((numB (r.length : Int)).length : Nat) < (((r.length : Int)).toNat : Nat) + 4; omega)]
theorem next_nil : next [] = ([], 0, 0) := by
  have := @small_cut 0 (by decide) 0 (by simp [numB])
  unfold next
  dsimp only
  rw [List.take_zero] at this
  rw [if_pos this]
/-- records, one behind the other -/
def cat (l : List (List Int)) : List Int := (l.map wr).flatten
/-- how many of them are whole, and where they end, of the first k bytes -/
def whole : List (List Int) → Nat → Nat × Nat
  | [], _ => (0, 0)
  | r :: l, k => if (wr r).length ≤ k then let (a, b) := whole l (k - (wr r).length); (a + 1, (wr r).length + b) else (0, 0)
theorem wr_pos (r : List Int) : 0 < (wr r).length := by have := numB_pos (r.length : Int); simp only [wr, List.length_append]; omega
theorem read_cut : ∀ {l : List (List Int)} {k f : Nat}, (∀ r ∈ l, isRec r.length = true) → (whole l k).1 < f → read f ((cat l).take k) = (l.take (whole l k).1, (whole l k).2, 0)
  | [], k, f + 1, _, _ => by simp [cat, read, next_nil, whole]
  | r :: l, k, f + 1, h, hf => by
    have hr := h r (by simp)
    have hc : cat (r :: l) = wr r ++ cat l := by simp [cat]
    have hp := wr_pos r
    unfold whole at hf ⊢
    by_cases hk : (wr r).length ≤ k
    · have e : (cat (r :: l)).take k = wr r ++ (cat l).take (k - (wr r).length) := by
        rw [hc, List.take_append, List.take_of_length_le hk]
      rw [if_pos hk] at hf
      have ih := read_cut (l := l) (k := k - (wr r).length) (f := f) (fun r hr => h r (by simp [hr])) (by simp only at hf; omega)
      rw [if_pos hk, read, e, next_back hr]
      dsimp only
      rw [if_pos hp]
      have : (wr r ++ (cat l).take (k - (wr r).length)).drop (wr r).length = (cat l).take (k - (wr r).length) := by simp
      rw [this, ih]
      simp
    · have e : (cat (r :: l)).take k = (wr r).take k := by
        rw [hc, List.take_append_of_le_length (by omega)]
      rw [if_neg hk, read, e, next_cut hr (by omega)]
      simp
theorem whole_few : ∀ {l : List (List Int)} {k : Nat}, (whole l k).1 ≤ k
  | [], _ => by simp [whole]
  | r :: l, k => by
    have ih := whole_few (l := l) (k := k - (wr r).length)
    have hp := wr_pos r
    unfold whole
    split
    · simp only; omega
    · simp
/-- the first i bits, taken one by one -/
def bits (d : Nat) : Nat → Nat
  | 0 => 0
  | i + 1 => if d / 2 ^ i % 2 = 1 then bits d i ^^^ 2 ^ i else bits d i
theorem bits_test (d : Nat) : ∀ (i j : Nat), (bits d i).testBit j = (decide (j < i) && d.testBit j)
  | 0, j => by simp [bits]
  | i + 1, j => by
    have ht : d.testBit i = decide (d / 2 ^ i % 2 = 1) := by rw [Nat.testBit_eq_decide_div_mod_eq]
    unfold bits
    split
    · rename_i h
      rw [Nat.testBit_xor, bits_test d i j, Nat.testBit_two_pow]
      by_cases e : i = j
      · subst e
        rw [decide_eq_true h] at ht
        simp [ht]
      · have : (j < i + 1) ↔ (j < i) := by omega
        simp [e, this]
    · rename_i h
      rw [bits_test d i j]
      by_cases e : i = j
      · subst e
        rw [decide_eq_false h] at ht
        simp [ht]
      · have : (j < i + 1) ↔ (j < i) := by omega
        simp [this]
theorem bits_all {d : Nat} (h : d < 2 ^ 32) : bits d 32 = d := by
  refine Nat.eq_of_testBit_eq fun j => ?_
  rw [bits_test]
  by_cases hj : j < 32
  · simp [hj]
  · have : d.testBit j = false := Nat.testBit_lt_two_pow (Nat.lt_of_lt_of_le h (Nat.pow_le_pow_right (by decide) (by omega)))
    simp [this]
theorem bits_xor {d i n : Nat} (h : d / 2 ^ i % 2 = 1) : bits d (i + 1) * 2 ^ n = (bits d i * 2 ^ n) ^^^ (2 ^ ((n + i) % 8) * 256 ^ ((n + i) / 8)) := by
  have e : 2 ^ ((n + i) % 8) * 256 ^ ((n + i) / 8) = 2 ^ i * 2 ^ n := by
    rw [show (256 : Nat) = 2 ^ 8 from rfl, ← Nat.pow_mul, ← Nat.pow_add, ← Nat.pow_add]; congr 1; omega
  rw [e, bits, if_pos h]
  have := @Nat.shiftLeft_xor_distrib n (bits d i) (2 ^ i)
  simpa only [Nat.shiftLeft_eq] using this
theorem bits_same {d i : Nat} (h : ¬ d / 2 ^ i % 2 = 1) : bits d (i + 1) = bits d i := by rw [bits, if_neg h]
/-! ### where frames end -/
theorem cat_append (a b : List (List Int)) : cat (a ++ b) = cat a ++ cat b := by simp [cat]
theorem whole_all : ∀ {l : List (List Int)} {k : Nat}, (cat l).length ≤ k → whole l k = (l.length, (cat l).length)
  | [], k, _ => by simp [whole, cat]
  | r :: l, k, h => by
    have e : (cat (r :: l)).length = (wr r).length + (cat l).length := by simp [cat]
    unfold whole
    rw [if_pos (by omega), whole_all (l := l) (k := k - (wr r).length) (by omega), e]
    simp
theorem whole_snoc : ∀ {l : List (List Int)} {r : List Int} {k : Nat}, whole (l ++ [r]) k = if (cat (l ++ [r])).length ≤ k then (l.length + 1, (cat (l ++ [r])).length) else whole l k
  | [], r, k => by
    have e : (cat ([] ++ [r])).length = (wr r).length := by simp [cat]
    rw [e]
    simp only [List.nil_append, whole, List.length_nil]
    split <;> simp
  | q :: l, r, k => by
    have ih := whole_snoc (l := l) (r := r) (k := k - (wr q).length)
    have e : (cat (q :: l ++ [r])).length = (wr q).length + (cat (l ++ [r])).length := by simp [cat]
    rw [e]
    simp only [List.cons_append, whole, ih]
    by_cases h1 : (wr q).length ≤ k
    · rw [if_pos h1, if_pos h1]
      by_cases h2 : (wr q).length + (cat (l ++ [r])).length ≤ k
      · rw [if_pos h2, if_pos (by omega)]; simp
      · rw [if_neg h2, if_neg (by omega)]
    · rw [if_neg h1, if_neg h1, if_neg (by omega)]
theorem whole_le : ∀ {l : List (List Int)} {k : Nat}, (whole l k).1 ≤ l.length
  | [], _ => by simp [whole]
  | r :: l, k => by
    have := whole_le (l := l) (k := k - (wr r).length)
    unfold whole
    split
    · simp only [List.length_cons]; omega
    · simp
theorem cat_byt : ∀ {l : List (List Int)}, (∀ r ∈ l, Byt r) → Byt (cat l)
  | [], _ => by intro x hx; simp [cat] at hx
  | r :: l, h => by
    have e : cat (r :: l) = wr r ++ cat l := by simp [cat]
    rw [e]
    refine Byt.append (Byt.append (Byt.append (numB_byte _) (h r (by simp))) (four_byt _)) (cat_byt fun q hq => h q (by simp [hq]))
end Fr
end Go.E
