/-
  Contracts of maundref01: padding, the digest, the point.
-/
import Derived.Test.YtmfjdgdiccfecaaSha10
namespace Go.E.Ytmfjdgdiccfecaa
open Go.Proofs
set_option maxRecDepth 100000
theorem Bs.none0 {m : Mem} {b : Nat} (hb : m b = some (.cells #[] 5)) : Bs m (.slice (some ⟨b, 0, none⟩) 0 0) [] := Bs.blk (l := []) (by simpa [bc] using hb) rfl
theorem buildB0 {m : Mem} : PrimSpec Try.prog (.buildSlice 33 0 []) [] m fun r m' => ∃ b, m b = none ∧ r = [.v (.slice (some ⟨b, 0, none⟩) 0 0)] ∧ m' = m.set b (.cells #[] 5) :=
  buildSlice0_spec tt_ok hBs rfl hU8
/-- n in its first step, turned left by bytes -/
def lft (n j : Nat) : Nat := n * 256 ^ j % 18446744073709551616
theorem lft_byte {n j : Nat} (hj : j < 8) : IntKind.u8.wrap (IntKind.u64.wrap (Int.tdiv ((lft n j : Nat) : Int) 72057594037927936)) = ((n / 256 ^ (7 - j) % 256 : Nat) : Int) := by
  have h1 : lft n j < 18446744073709551616 := Nat.mod_lt _ (by decide)
  rw [show (72057594037927936 : Int) = ((72057594037927936 : Nat) : Int) from rfl, tdiv_nat, wu (by omega) (by omega), IntKind.wrap_u8]
  have e : lft n j / 72057594037927936 = n / 256 ^ (7 - j) % 256 := by
    unfold lft
    have h8 : (18446744073709551616 : Nat) = 256 ^ (7 - j) * 256 ^ j * 256 := by rw [← Nat.pow_add, ← Nat.pow_succ, show (7 - j + j).succ = 8 by omega]
    have h7 : (72057594037927936 : Nat) = 256 ^ (7 - j) * 256 ^ j := by rw [← Nat.pow_add, show 7 - j + j = 7 by omega]
    rw [h8, h7, Nat.mul_comm (256 ^ (7 - j)) (256 ^ j), Nat.mul_comm n, Nat.mul_assoc, Nat.mul_mod_mul_left, Nat.mul_div_mul_left _ _ (Nat.pow_pos (by decide)), Nat.mod_mul_right_div_self]
  rw [e]; omega
theorem lft_succ (n j : Nat) : IntKind.u64.wrap (((lft n j : Nat) : Int) * 256) = ((lft n (j + 1) : Nat) : Int) := by
  rw [IntKind.wrap_u64]
  unfold lft
  rw [Nat.pow_succ, ← Nat.mul_assoc]
  generalize n * 256 ^ j = x
  omega
set_option maxHeartbeats 2000000 in
theorem rpad_spec {m : Mem} {v : Value} {l : List Nat} (h : La m v (nc l)) (hb : l.length ≤ 1000000) :
    Spec Try.prog 20 [.v v] m fun r m' => ∃ v' p, r = [.v v'] ∧ Split m' [p, m] ∧ Bs p v' (nc (Sha.pad l)) := by
  obtain ⟨a0, c0, rfl⟩ := h.shape
  have e0 : (nc l).length = l.length := by simp
  rw [e0] at h ⊢
  refine en20 rfl (goY ?_)
  conv => whnf
  refine .mk _ (buildB0) ?_
  rintro _ _ ⟨b0, hb0, rfl, rfl⟩
  conv => whnf
  have hs0 := (Split.one m).new hb0 (.cells #[] 5)
  refine .mk _ (appendBat (i := 0) hs0 rfl (Bs.none0 (blk1_same ..)) (h.sub (Mem.sub_set _ hb0)) (by simp; omega)) ?_
  rintro _ m1 ⟨v1, p1, rfl, hs1, hv1⟩
  conv => whnf
  refine .mk _ (build1) ?_
  rintro _ _ ⟨b', hb', rfl, rfl⟩
  conv => whnf
  refine .mk _ (Bs.one hs1 hb' hv1.own (by simp; omega)) ?_
  rintro _ m2 ⟨v2, p2, rfl, hs2, hv2⟩
  conv => whnf
  have hz : Sha.zeros l.length < 64 := Nat.mod_lt _ (by decide)
  refine .mk (ι := Nat × Value) (fun i => Sha.zeros l.length - i.1) (fun ⟨k, x⟩ mm => k ≤ Sha.zeros l.length ∧ ∃ p, Split mm [p, m] ∧ Bs p x (nc (l ++ [128] ++ List.replicate k 0))) (fun ⟨k, x⟩ => [(0, .c (.v (.slice a0 l.length c0))), (3, .c (.v x))]) (fun _ => []) (0, v2) ⟨by omega, p2, hs2, by simpa using hv2⟩ ?_ ?_
  · conv => whnf
    repeat (refine And.intro (by first | with_reducible rfl | exact congrArg (Value.int _) (wi (by omega) (by omega)) | exact wi (by omega) (by omega) | rfl) ?_; conv => whnf)
    first | exact trivial | exact fun _ _ h => h
  rintro ⟨k, x⟩ mm ⟨hk, p, hs, hx⟩
  obtain ⟨a, c, rfl⟩ := hx.lb.shape
  have hln : (nc (l ++ [128] ++ List.replicate k 0)).length = l.length + 1 + k := by simp; omega
  rw [hln] at hx ⊢
  conv => whnf
  have erem : Int.tmod ((l.length + 1 + k : Nat) : Int) 64 = (((l.length + 1 + k) % 64 : Nat) : Int) := by rw [Int.tmod_eq_emod_of_nonneg (by omega)]; omega
  refine ⟨fun h1 => ?_, fun h1 => ?_⟩
  · have hne : k ≠ Sha.zeros l.length := by
      intro e
      have := (zeros_at hk).2 e
      simp only [erem, this] at h1
      revert h1; decide
    conv => whnf
    refine .mk _ (build1) ?_
    rintro _ _ ⟨b', hb', rfl, rfl⟩
    conv => whnf
    refine .mk _ (Bs.one hs hb' hx (by simp; omega)) ?_
    rintro _ m3 ⟨v3, p3, rfl, hs3, hv3⟩
    conv => whnf
    refine ⟨(k + 1, v3), ⟨by omega, p3, hs3, ?_⟩, by simp only; omega, ?_⟩
    · have e : nc (l ++ [128] ++ List.replicate (k + 1) 0) = nc (l ++ [128] ++ List.replicate k 0) ++ [0] := by
        rw [List.replicate_succ', ← List.append_assoc, nc_append]; rfl
      rw [e]; exact hv3
    · conv => whnf
      repeat (refine And.intro (by first | with_reducible rfl | exact congrArg (Value.int _) (wi (by omega) (by omega)) | exact wi (by omega) (by omega) | rfl) ?_; conv => whnf)
      first | exact trivial | exact fun _ _ h => h
  · have hke : k = Sha.zeros l.length := by
      refine (zeros_at hk).1 ?_
      simp only [erem] at h1
      have := h1
      simp at this
      omega
    subst hke
    conv => whnf
    have en : IntKind.u64.wrap (8 * IntKind.u64.wrap ((l.length : Nat) : Int)) = ((lft (8 * l.length) 0 : Nat) : Int) := by
      rw [wu (n := ((l.length : Nat) : Int)) (by omega) (by omega), wu (by omega) (by omega)]
      unfold lft; omega
    rw [en]
    refine .mk (ι := Nat × Value) (fun i => 8 - i.1) (fun ⟨j, x⟩ mm => j ≤ 8 ∧ ∃ p, Split mm [p, m] ∧ Bs p x (nc (l ++ [128] ++ List.replicate (Sha.zeros l.length) 0 ++ (Sha.be8 (8 * l.length)).take j))) (fun ⟨j, x⟩ => [(3, .c (.v x)), (4, .c (u64 ((lft (8 * l.length) j : Nat) : Int))), (5, .c (i64 j))]) (fun _ => []) (0, _) ⟨by omega, p, hs, by simpa using hx⟩ ?_ ?_
    · conv => whnf
      repeat (refine And.intro (by first | with_reducible rfl | exact congrArg (Value.int _) (wi (by omega) (by omega)) | exact wi (by omega) (by omega) | rfl) ?_; conv => whnf)
      first | exact trivial | exact fun _ _ h => h
    rintro ⟨j, x⟩ mm ⟨hj, p, hs, hx⟩
    conv => whnf
    refine ⟨fun h2 => ?_, fun h2 => ?_⟩
    · have h2' := of_decide_eq_true h2
      have hjt : j < 8 := by omega
      conv => whnf
      rw [lft_byte hjt]
      refine .mk _ (build1) ?_
      rintro _ _ ⟨b', hb', rfl, rfl⟩
      conv => whnf
      refine .mk _ (Bs.one hs hb' hx (by simp [be8_len]; omega)) ?_
      rintro _ m3 ⟨v3, p3, rfl, hs3, hv3⟩
      conv => whnf
      refine ⟨(j + 1, v3), ⟨by omega, p3, hs3, ?_⟩, by simp only; omega, ?_⟩
      · have e : nc (l ++ [128] ++ List.replicate (Sha.zeros l.length) 0 ++ (Sha.be8 (8 * l.length)).take (j + 1)) = nc (l ++ [128] ++ List.replicate (Sha.zeros l.length) 0 ++ (Sha.be8 (8 * l.length)).take j) ++ [((8 * l.length / 256 ^ (7 - j) % 256 : Nat) : Int)] := by
          rw [← be8_take hjt, ← List.append_assoc, nc_append (l ++ [128] ++ List.replicate (Sha.zeros l.length) 0 ++ (Sha.be8 (8 * l.length)).take j)]; rfl
        rw [e]; exact hv3
      · conv => whnf
        repeat (refine And.intro (by first | with_reducible rfl | (first | exact congrArg (Value.int _) (lft_succ ..) | exact congrArg (Value.int _) (iadd (by omega))) | exact congrArg (Value.int _) (wi (by omega) (by omega)) | exact wi (by omega) (by omega) | rfl) ?_; conv => whnf)
        first | exact trivial | exact fun _ _ h => h
    · have h2' := of_decide_eq_false h2
      obtain rfl : j = 8 := by omega
      conv => whnf
      rw [List.take_of_length_le (by rw [be8_len]; omega)] at hx
      exact ⟨_, p, rfl, hs, hx⟩
theorem Lb.cut {m : Mem} {b o n c c' : Nat} {l : List Int} (h : Lb m (.slice (some ⟨b, o, none⟩) n c) l) (i len : Nat) (hk : i + len ≤ l.length) (hc : len ≤ c') : Lb m (.slice (some ⟨b, o + i, none⟩) len c') ((l.drop i).take len) := by
  rcases h.cases with ⟨c, h1, h2⟩ | ⟨b', o', c', arr, t, fr, h1, h2, h3, h4⟩
  · cases h1
  · cases h1
    refine Lb.mk h2 (by simp; omega) hc (fun j x hj => ?_)
    rw [List.getElem?_take] at hj
    split at hj
    · rw [List.getElem?_drop] at hj
      rw [Nat.add_assoc]; exact h4 _ _ hj
    · cases hj
theorem dgc_set' {h : List Nat} {i : Nat} {x : Int} (hi : i < 32) (hx : x = ((h.getD (i / 4) 0 / 256 ^ (3 - i % 4) % 256 : Nat) : Int)) : (dgc h i).set i x = dgc h (i + 1) := by
  have := dgc_set (h := h) (i := i / 4) (k := i % 4) (by omega) (by omega)
  rw [show 4 * (i / 4) + i % 4 = i by omega, show 4 * (i / 4) + (i % 4 + 1) = i + 1 by omega] at this
  rw [hx]; exact this
theorem rbyte_eq {x i : Nat} (hk : i < 32) : IntKind.u8.wrap (shrOf .u64 (x : Int) (IntKind.i64.wrap (24 - IntKind.i64.wrap (8 * Int.tmod (i : Int) 4)))) = ((x / 256 ^ (3 - i % 4) % 256 : Nat) : Int) := by
  have e1 : IntKind.i64.wrap (24 - IntKind.i64.wrap (8 * Int.tmod (i : Int) 4)) = ((8 * (3 - i % 4) : Nat) : Int) := by
    rw [show (4 : Int) = ((4 : Nat) : Int) from rfl, tmod_nat, wi (n := 8 * ((i % 4 : Nat) : Int)) (by omega) (by omega), wi (by omega) (by omega)]; omega
  rw [e1, shr_nat (by show 8 * (3 - i % 4) ≤ 64; omega), IntKind.wrap_u8]
  have : 2 ^ (8 * (3 - i % 4)) = 256 ^ (3 - i % 4) := by rw [show (256 : Nat) = 2 ^ 8 from rfl, ← Nat.pow_mul]
  rw [this]; rfl
set_option maxHeartbeats 4000000 in
theorem rsum_spec {m : Mem} {v : Value} {l : List Nat} (hv : La m v (nc l)) (hb : l.length ≤ 1000000) (h256 : ∀ x ∈ l, x < 256) :
    Spec Try.prog 17 [.v v] m fun r m' => r = [.a [.ints .u8 32 (nc (Sha.sum l))]] ∧ Sub m m' := by
  refine en17 rfl (goY ?_)
  conv => whnf
  refine xcall (rpad_spec hv hb) ?_
  rintro _ m1 ⟨v', p, rfl, hs1, hv1⟩
  conv => whnf
  have hpl := pad_len l
  have hpe := pad_le l
  have hne : nc (Sha.pad l) ≠ [] := by simp [nc, Sha.pad]
  obtain ⟨b, o, c, rfl⟩ := hv1.lb.real hne
  have hcap := Lb.cap hv1.lb
  have hl1 : (nc (Sha.pad l)).length = (Sha.pad l).length := by simp
  obtain ⟨n, hn2⟩ : ∃ n, n = (Sha.pad l).length / 64 := ⟨_, rfl⟩
  rw [← hn2] at hpl
  rw [hl1] at hcap
  have hlb := hv1.lb.sub (hs1.sub (a := p) (by simp))
  have hsub : Sub m m1 := hs1.sub (by simp)
  rw [hl1, hpl] at hlb ⊢
  rw [hpl] at hcap
  refine .mk (ι := Nat) (fun k => n - k) (fun k mm => k ≤ n ∧ Sub m1 mm) (fun k => [(2, .p 0 0), (3, .p 1 0), (4, .c (.v (.slice (some ⟨b, o, none⟩) (64 * n) c))), (5, .c (i64 ((64 * k : Nat) : Int)))])
    (fun k => [(38, [.ints .u8 32 (List.replicate 32 0)]), (41, [.ints .u64 8 (nc (Sha.blocks Sha.H0 k (Sha.pad l)))])]) 0 ⟨by omega, Sub.refl _⟩ ?_ ?_
  · conv => whnf
    repeat (refine And.intro (by first | with_reducible rfl | exact congrArg (Value.int _) (wi (by omega) (by omega)) | exact wi (by omega) (by omega) | rfl) ?_; conv => whnf)
    first | exact trivial | exact fun _ _ h => h
  rintro k mm ⟨hk, hs⟩
  have hw := blocks_w8 H0_w8 (Sha.pad l) k
  conv => whnf
  refine ⟨fun h1 => ?_, fun h1 => ?_⟩
  · have h1' := of_decide_eq_true h1
    have hlt : k < n := by omega
    have e1 : IntKind.i64.wrap (((64 * k : Nat) : Int) + 64) = ((64 * k + 64 : Nat) : Int) := by rw [wi (by omega) (by omega)]; omega
    conv => whnf
    rw [e1]
    repeat (refine And.intro (by first | omega | (simp only [times]; omega)) ?_; conv => whnf)
    intro o1 ho1 _
    obtain rfl : o1 = o + 64 * k := by have := ho1 (by omega); rw [Int.toNat_natCast] at this; simpa using this
    simp only [Int.toNat_natCast]
    have hpc := Lb.cut (c' := c - 64 * k) (hlb.sub hs) (64 * k) 64 (by rw [hl1]; omega) (by omega)
    have e3 : ((nc (Sha.pad l)).drop (64 * k)).take 64 = nc (((Sha.pad l).drop (64 * k)).take 64) := by simp only [nc, List.map_drop, List.map_take]
    rw [e3] at hpc
    rw [show 64 * k + 64 - 64 * k = 64 by omega]
    refine xcall (rnext_spec (by simp; omega) (fun x hx => pad_byte h256 x (List.mem_of_mem_drop (List.mem_of_mem_take hx))) hpc hw) ?_
    rintro _ m2 ⟨rfl, hs2⟩
    conv => whnf
    rw [← blocks_succ]
    refine ⟨k + 1, ⟨by omega, hs.trans hs2⟩, by omega, ?_⟩
    conv => whnf
    repeat (refine And.intro (by first | with_reducible rfl | ((first | exact congrArg (Value.int _) (by omega))) | exact congrArg (Value.int _) (wi (by omega) (by omega)) | exact wi (by omega) (by omega) | rfl) ?_; conv => whnf)
    first | exact trivial | exact fun _ _ h => h
  · have h1' := of_decide_eq_false h1
    obtain rfl : k = n := by omega
    conv => whnf
    have hsm : Sha.sum l = Sha.digest (Sha.blocks Sha.H0 k (Sha.pad l)) := by rw [Sha.sum, ← hn2]
    rw [hsm]
    generalize Sha.blocks Sha.H0 k (Sha.pad l) = h at hw ⊢
    refine .mk (ι := Nat) (fun k => 32 - k) (fun k m' => k ≤ 32 ∧ m' = mm) (fun k => [(2, .p 0 0), (3, .p 1 0), (6, .p 2 0), (7, .c (i64 k))])
      (fun k => [(38, [.ints .u8 32 (List.replicate 32 0)]), (41, [.ints .u64 8 (nc h)]), (38, [.ints .u8 32 (dgc h k)])]) 0 ⟨by omega, rfl⟩ ?_ ?_
    · conv => whnf
      repeat (refine And.intro (by first | with_reducible rfl | exact congrArg (Value.int _) (wi (by omega) (by omega)) | exact wi (by omega) (by omega) | rfl) ?_; conv => whnf)
      first | exact trivial | exact fun _ _ h => h
    rintro i m' ⟨hi, he⟩
    subst m'
    conv => whnf
    refine ⟨fun h2 => ?_, fun h2 => ?_⟩
    · have h2' := of_decide_eq_true h2
      have hlt : i < 32 := by omega
      have e1 : Int.tdiv (i : Int) 4 = ((i / 4 : Nat) : Int) := tdiv_nat i 4
      have e2 : IntKind.i64.wrap ((i / 4 : Nat) : Int) = ((i / 4 : Nat) : Int) := wi (by omega) (by omega)
      conv => whnf
      rw [e1, e2]
      repeat (refine And.intro (by first | omega | (simp only [times]; omega)) ?_; conv => whnf)
      simp only [nc_get, times, Int.toNat_natCast, Nat.zero_add, Nat.zero_mul, Nat.mul_one, Nat.one_mul]
      refine ⟨by rw [show (4 : Int) = ((4 : Nat) : Int) from rfl, tmod_nat, wi (n := 8 * ((i % 4 : Nat) : Int)) (by omega) (by omega), wi (by omega) (by omega)]; omega, ?_⟩
      conv => whnf
      repeat (refine And.intro (by first | omega | (simp only [times]; omega)) ?_; conv => whnf)
      refine ⟨i + 1, ⟨by omega, by trivial⟩, by omega, ?_⟩
      conv => whnf
      repeat (refine And.intro (by first | with_reducible rfl | (first | exact congrArg (Value.int _) (iadd (by omega)) | exact dgc_set' hlt (rbyte_eq hlt)) | exact congrArg (Value.int _) (wi (by omega) (by omega)) | exact wi (by omega) (by omega) | rfl) ?_; conv => whnf)
      first | exact trivial | exact fun _ _ h => h
    · have h2' := of_decide_eq_false h2
      obtain rfl : i = 32 := by omega
      conv => whnf
      refine ⟨?_, hsub.trans hs⟩
      rw [dgc, List.take_of_length_le (by simp [digest_len])]; simp
theorem rpt_or {l : List Nat} {i : Nat} (hi : i < 8) : IntKind.u64.wrap (IntKind.u64.wrap (256 * ((pt l i : Nat) : Int)) + IntKind.u64.wrap (((Sha.sum l).getD i 0 : Nat) : Int)) = ((pt l (i + 1) : Nat) : Int) := by
  have h1 := pt_lt l i
  have h2 : (256 : Nat) ^ i ≤ 256 ^ 7 := Nat.pow_le_pow_right (by decide) (by omega)
  rw [show (256 : Nat) ^ 7 = 72057594037927936 from rfl] at h2
  have h3 := sum_lt l i
  rw [pt_succ]
  generalize pt l i = x at h1 ⊢
  generalize (Sha.sum l).getD i 0 = y at h3 ⊢
  rw [wu (n := (y : Int)) (by omega) (by omega), wu (n := 256 * (x : Int)) (by omega) (by omega), wu (by omega) (by omega)]; omega
set_option maxHeartbeats 4000000 in
theorem rpoint_spec {m : Mem} {v : Value} {l : List Nat} (hv : La m v (nc l)) (hb : l.length ≤ 1000000) (h256 : ∀ x ∈ l, x < 256) :
    Spec Try.prog 13 [.v v] m fun r m' => r = [.v (.int .u64 ((Sha.point l : Nat) : Int))] ∧ Sub m m' := by
  refine en13 rfl (goY ?_)
  conv => whnf
  refine xcall (rsum_spec hv hb h256) ?_
  rintro _ m1 ⟨rfl, hs1⟩
  conv => whnf
  refine .mk (ι := Nat) (fun i => 8 - i) (fun i mm => i ≤ 8 ∧ mm = m1) (fun i => [(3, .p 0 0), (4, .c (.v (.int .u64 ((pt l i : Nat) : Int)))), (5, .c (i64 i))]) (fun _ => [(38, [.ints .u8 32 (nc (Sha.sum l))])]) 0 ⟨by omega, rfl⟩ ?_ ?_
  · conv => whnf
    repeat (refine And.intro (by first | with_reducible rfl | exact congrArg (Value.int _) (wi (by omega) (by omega)) | exact wi (by omega) (by omega) | rfl) ?_; conv => whnf)
    first | exact trivial | exact fun _ _ h => h
  rintro i mm ⟨hi, he⟩
  subst mm
  conv => whnf
  refine ⟨fun h1 => ?_, fun h1 => ?_⟩
  · have h1' := of_decide_eq_true h1
    have hlt : i < 8 := by omega
    conv => whnf
    repeat (refine And.intro (by first | omega | (simp only [times]; omega)) ?_; conv => whnf)
    simp only [nc_get, times, Int.toNat_natCast, Nat.zero_add, Nat.zero_mul, Nat.mul_one, Nat.one_mul]
    refine ⟨i + 1, ⟨by omega, by trivial⟩, by omega, ?_⟩
    conv => whnf
    repeat (refine And.intro (by first | with_reducible rfl | (first | exact congrArg (Value.int _) (iadd (by omega)) | exact congrArg (Value.int _) (rpt_or hlt)) | exact congrArg (Value.int _) (wi (by omega) (by omega)) | exact wi (by omega) (by omega) | rfl) ?_; conv => whnf)
    first | exact trivial | exact fun _ _ h => h
  · have h1' := of_decide_eq_false h1
    obtain rfl : i = 8 := by omega
    conv => whnf
    exact ⟨rfl, hs1⟩
end Go.E.Ytmfjdgdiccfecaa
