/-
  Contracts of key and maundref11.
-/
import Derived.Test.YtmfjdgdiccfecaaSha11
import Derived.Test.YtmfjdgdiccfecaaE26
import Derived.Test.YtmfjdgdiccfecaaE21
namespace Go.E.Ytmfjdgdiccfecaa
open Go.Proofs
set_option maxRecDepth 100000
def isB (c : Nat) : Bool := (decide (97 ≤ c) && decide (c ≤ 122)) || (decide (48 ≤ c) && decide (c ≤ 57)) || decide (c = 45)
def keyOk (l : List Nat) : Bool := decide (0 < l.length) && decide (l.length ≤ 20) && l.all isB
theorem isByte_spec {m : Mem} {c : Nat} : Ret Try.prog 18 [.v (.int .u8 (c : Int))] m [boolV (isB c)] := by
  have e45 : ((c : Int) == 45) = decide (c = 45) := by by_cases h : c = 45 <;> simp [h]; omega
  refine en18 rfl (goY ?_)
  conv => whnf
  repeat' (first | (refine ⟨fun h => ?_, fun h => ?_⟩ <;> conv => whnf) | fail)
  all_goals (refine ⟨?_, rfl⟩; (try simp only [e45]); by_cases h45 : c = 45 <;> simp [isB, h45] at * <;> omega)
theorem chs_at (s : ByteArray) (i : Nat) : (s.data.toList.getD i 0).toNat = (chs s).getD i 0 := by
  simp only [chs, List.getD_eq_getElem?_getD, List.getElem?_map]
  cases s.data.toList[i]? <;> rfl
theorem right_key_spec {m : Mem} {s : ByteArray} (hs : s.size ≤ 1000000) : Ret Try.prog 10 [.v (.string s)] m [boolV (keyOk (chs s))] := by
  refine en10 rfl (goY ?_)
  conv => whnf
  refine .mk (ι := Nat) (fun i => s.size - i) (fun i mm => i ≤ s.size ∧ i ≤ 20 ∧ (∀ x ∈ (chs s).take i, isB x = true) ∧ mm = m) (fun i => [(0, .c (.v (.string s))), (5, .c (i64 s.size)), (6, .c (i64 i))]) (fun _ => []) 0 ⟨by omega, by omega, by simp, rfl⟩ ?_ ?_
  · conv => whnf
    repeat (refine And.intro (by first | with_reducible rfl | exact congrArg (Value.int _) (wi (by omega) (by omega)) | exact wi (by omega) (by omega) | rfl) ?_; conv => whnf)
    first | exact trivial | exact fun _ _ h => h
  rintro i mm ⟨hi, hi2, hall, he⟩
  subst mm
  conv => whnf
  refine ⟨fun h1 => ?_, fun h1 => ?_⟩
  · have h1' := of_decide_eq_true h1
    conv => whnf
    refine ⟨fun h2 => ?_, fun h2 => ?_⟩
    · conv => whnf
      have h2' := of_decide_eq_true h2
      refine ⟨?_, rfl⟩
      have : ¬ (s.size ≤ 20) := by omega
      simp [keyOk, chs_len, this]
    · have h2' := of_decide_eq_false h2
      conv => whnf
      have hlt : i < s.size := by omega
      refine ⟨⟨by omega, by omega⟩, ?_⟩
      conv => whnf
      rw [Int.toNat_natCast, chs_at]
      first | refine xretk (isByte_spec) ?_ | refine xret (isByte_spec) ?_
      conv => whnf
      have hli : i < (chs s).length := by rw [chs_len]; omega
      have hget : (chs s)[i]? = some ((chs s).getD i 0) := by simp [List.getD_eq_getElem?_getD, List.getElem?_eq_getElem hli]
      refine ⟨fun h3 => ?_, fun h3 => ?_⟩
      · conv => whnf
        refine ⟨?_, rfl⟩
        have h3' : isB ((chs s).getD i 0) = false := by simpa using h3
        have : (chs s).all isB = false := by
          rw [List.all_eq_false]
          exact ⟨_, List.mem_of_getElem? hget, by simp only [h3', Bool.false_eq_true, not_false_eq_true]⟩
        simp [keyOk, this]
      · conv => whnf
        have h3' : isB ((chs s).getD i 0) = true := by simpa using h3
        refine ⟨i + 1, ⟨by omega, by omega, ?_, rfl⟩, by omega, ?_⟩
        · intro x hx
          rw [List.take_succ_eq_append_getElem hli] at hx
          rcases List.mem_append.1 hx with hx | hx
          · exact hall x hx
          · rw [List.mem_singleton.1 hx]
            rw [List.getElem?_eq_getElem hli] at hget
            rw [Option.some.inj hget]; exact h3'
        · conv => whnf
          repeat (refine And.intro (by first | with_reducible rfl | (first | exact congrArg (Value.int _) (iadd (by omega))) | exact congrArg (Value.int _) (wi (by omega) (by omega)) | exact wi (by omega) (by omega) | rfl) ?_; conv => whnf)
          first | exact trivial | exact fun _ _ h => h
  · have h1' := of_decide_eq_false h1
    obtain rfl : i = s.size := by omega
    conv => whnf
    refine ⟨?_, rfl⟩
    have hl := chs_len s
    rw [← hl, List.take_length] at hall
    have : (chs s).all isB = true := List.all_eq_true.2 hall
    simp [keyOk, this, hl]
    omega
theorem hStr : ∃ ti, tt.get 9 = some ti := ⟨_, rfl⟩
theorem convS {m : Mem} {s : ByteArray} : PrimSpec Try.prog (.conv 9 33) [.v (.string s)] m fun r m' => ∃ v, r = [.v v] ∧ Sub m m' ∧ La m' v (nc (chs s)) :=
  (convStr_spec tt_ok hStr.choose_spec hBs rfl hU8 rfl).mono fun _ _ ⟨_, _, _, h0, h1, h2, h3⟩ => ⟨_, h1, by rw [h2]; exact Mem.sub_set _ h0, h3.la⟩
theorem point_key_spec {m : Mem} {s : ByteArray} (hs : s.size ≤ 1000000) : Spec Try.prog 12 [.v (.string s)] m fun r m' => r = [u64 ((Sha.point (chs s) : Nat) : Int)] ∧ Sub m m' := by
  refine en12 rfl (goY ?_)
  conv => whnf
  refine .mk _ (convS) ?_
  rintro _ m1 ⟨v, rfl, hs1, hv⟩
  conv => whnf
  refine xcall (point_spec hv (by rw [chs_len]; omega) (chs_lt s)) ?_
  rintro _ m2 ⟨rfl, hs2⟩
  conv => whnf
  exact ⟨rfl, hs1.trans hs2⟩
theorem pt_div (l : List Nat) : ∀ i, pt l (i + 1) / 256 ^ i = (Sha.sum l).getD 0 0
  | 0 => by simp [pt]
  | i + 1 => by
    have := sum_lt l (i + 1)
    rw [pt_succ l (i + 1), Nat.pow_succ, Nat.mul_comm (256 ^ i) 256, ← Nat.div_div_eq_div_mul, show (pt l (i + 1) * 256 + (Sha.sum l).getD (i + 1) 0) / 256 = pt l (i + 1) by omega, pt_div l i]
theorem point_top (l : List Nat) : Sha.point l / 72057594037927936 = (Sha.sum l).getD 0 0 := pt_div l 7
theorem point_lt (l : List Nat) : Sha.point l < 18446744073709551616 := pt_lt l 8
def partOf (s : ByteArray) : Nat := Sha.point (chs s) / 2305843009213693952
def leafOf (s : ByteArray) : Nat := Sha.point (chs s) / 144115188075855872 % 16
theorem partOf_eq (s : ByteArray) : partOf s = (Sha.sum (chs s)).getD 0 0 / 32 := by rw [← point_top, partOf]; omega
theorem leafOf_eq (s : ByteArray) : leafOf s = (Sha.sum (chs s)).getD 0 0 / 2 % 16 := by rw [← point_top, leafOf]; omega
theorem partOf_lt (s : ByteArray) : partOf s < 8 := by have := sum_lt (chs s) 0; rw [partOf_eq]; omega
theorem leafOf_lt (s : ByteArray) : leafOf s < 16 := by rw [leafOf]; omega
theorem at_spec {m : Mem} {s : ByteArray} (hs : s.size ≤ 1000000) : Spec Try.prog 7 [.v (.string s)] m fun r m' => r = [i64 (partOf s : Nat), i64 (leafOf s : Nat)] ∧ Sub m m' := by
  refine en7 rfl (goY ?_)
  conv => whnf
  refine xcall (point_key_spec hs) ?_
  rintro _ m1 ⟨rfl, hs1⟩
  conv => whnf
  have hp := point_lt (chs s)
  refine ⟨?_, hs1⟩
  have e1 := shr_nat (k := .u64) (x := Sha.point (chs s)) (n := 61) (by decide)
  have e2 := shr_nat (k := .u64) (x := Sha.point (chs s)) (n := 57) (by decide)
  rw [show (61 : Int) = ((61 : Nat) : Int) from rfl, e1, show (57 : Int) = ((57 : Nat) : Int) from rfl, e2]
  have e3 := and_u64 (a := Sha.point (chs s) / 2 ^ 57) (b := 15) (Nat.lt_of_le_of_lt (Nat.div_le_self ..) hp) (by decide)
  have e4 : Sha.point (chs s) / 2 ^ 57 &&& 15 = Sha.point (chs s) / 2 ^ 57 % 16 := Nat.and_two_pow_sub_one_eq_mod (Sha.point (chs s) / 2 ^ 57) 4
  rw [show (15 : Int) = ((15 : Nat) : Int) from rfl, e3, e4]
  have q1 : (2 : Nat) ^ 61 = 2305843009213693952 := rfl
  have q2 : (2 : Nat) ^ 57 = 144115188075855872 := rfl
  rw [q1, q2, wi (by omega) (by omega), wi (by omega) (by omega)]
  rfl
theorem base_spec {m : Mem} {n : Int} (hn : -9223372036854775808 ≤ n ∧ n ≤ 9223372036854775807) : Ret Try.prog 6 [i64 n] m (if n < 0 ∨ 7 < n then [u64 0, i64 1] else [u64 (n * 2305843009213693952), i64 0]) := by
  refine en6 rfl (goY ?_)
  conv => whnf
  repeat' (first | (refine ⟨fun h => ?_, fun h => ?_⟩ <;> conv => whnf) | fail)
  all_goals refine ⟨?_, rfl⟩
  · rw [if_pos (.inl (of_decide_eq_true h))]
  · rw [if_pos (.inr (by have := of_decide_eq_true h; omega))]
  · rename_i h1
    have h1' := of_decide_eq_false h1
    have h2' := of_decide_eq_false h
    rw [if_neg (by omega)]
    obtain ⟨k, rfl⟩ : ∃ k : Nat, n = k := ⟨n.toNat, by omega⟩
    rw [wu (by omega) (by omega), show (61 : Int) = ((61 : Nat) : Int) from rfl, shl_u64 (by decide) (by rw [show (2 : Nat) ^ 61 = 2305843009213693952 from rfl]; omega)]
    rw [show (2 : Nat) ^ 61 = 2305843009213693952 from rfl]
    simp
theorem part_spec {m : Mem} {s : ByteArray} (hs : s.size ≤ 1000000) : Spec Try.prog 14 [.v (.string s)] m fun r m' => r = [i64 (partOf s : Nat)] ∧ Sub m m' := by
  refine en14 rfl (goY ?_)
  conv => whnf
  refine xcall (at_spec hs) ?_
  rintro _ m1 ⟨rfl, hs1⟩
  conv => whnf
  exact ⟨rfl, hs1⟩
theorem leaf_spec {m : Mem} {s : ByteArray} (hs : s.size ≤ 1000000) : Spec Try.prog 15 [.v (.string s)] m fun r m' => r = [i64 (leafOf s : Nat)] ∧ Sub m m' := by
  refine en15 rfl (goY ?_)
  conv => whnf
  refine xcall (at_spec hs) ?_
  rintro _ m1 ⟨rfl, hs1⟩
  conv => whnf
  exact ⟨rfl, hs1⟩
theorem wu8d {x n : Nat} (h : x < 256) : IntKind.u8.wrap (Int.tdiv (x : Int) (n : Int)) = ((x / n : Nat) : Int) := by
  have := Nat.div_le_self x n
  rw [tdiv_nat]
  generalize x / n = y at *
  rw [wu8 (by omega) (by omega)]
theorem rpart_spec {m : Mem} {s : ByteArray} (hs : s.size ≤ 1000000) : Spec Try.prog 8 [.v (.string s)] m fun r m' => r = [i64 (partOf s : Nat)] ∧ Sub m m' := by
  refine en8 rfl (goY ?_)
  conv => whnf
  refine .mk _ (convS) ?_
  rintro _ m1 ⟨v, rfl, hs1, hv⟩
  conv => whnf
  refine xcall (rsum_spec hv (by rw [chs_len]; omega) (chs_lt s)) ?_
  rintro _ m2 ⟨rfl, hs2⟩
  conv => whnf
  have h0 := sum_lt (chs s) 0
  refine ⟨?_, hs1.trans hs2⟩
  simp only [nc_get, Nat.zero_mul, Nat.add_zero]
  rw [partOf_eq, show (32 : Int) = ((32 : Nat) : Int) from rfl, wu8d h0, wi (by omega) (by omega)]
theorem rleaf_spec {m : Mem} {s : ByteArray} (hs : s.size ≤ 1000000) : Spec Try.prog 9 [.v (.string s)] m fun r m' => r = [i64 (leafOf s : Nat)] ∧ Sub m m' := by
  refine en9 rfl (goY ?_)
  conv => whnf
  refine .mk _ (convS) ?_
  rintro _ m1 ⟨v, rfl, hs1, hv⟩
  conv => whnf
  refine xcall (rsum_spec hv (by rw [chs_len]; omega) (chs_lt s)) ?_
  rintro _ m2 ⟨rfl, hs2⟩
  conv => whnf
  have h0 := sum_lt (chs s) 0
  refine ⟨?_, hs1.trans hs2⟩
  simp only [nc_get, Nat.zero_mul, Nat.add_zero]
  rw [leafOf_eq, show (2 : Int) = ((2 : Nat) : Int) from rfl, wu8d h0, show (16 : Int) = ((16 : Nat) : Int) from rfl, tmod_nat, wi (by omega) (by omega)]
theorem rbase_spec {m : Mem} {n : Int} (hn : 0 ≤ n ∧ n ≤ 7) : Ret Try.prog 16 [i64 n] m [u64 (n * 2305843009213693952)] := by
  refine en16 rfl (goY ?_)
  conv => whnf
  refine ⟨?_, rfl⟩
  rw [wu (n := n) (by omega) (by omega), wu (by omega) (by omega), Int.mul_comm]
theorem right_ref_spec {m : Mem} {s : ByteArray} (hs : s.size ≤ 1000000) : Ret Try.prog 11 [.v (.string s)] m [boolV (keyOk (chs s))] := by
  refine en11 rfl (goY ?_)
  conv => whnf
  refine ⟨fun h => ?_, fun h => ?_⟩
  · have h' := of_decide_eq_true h
    conv => whnf
    refine ⟨?_, rfl⟩
    have : ¬ 0 < (chs s).length := by rw [chs_len]; omega
    simp [keyOk, this]
  have h' := of_decide_eq_false h
  conv => whnf
  refine ⟨fun h2 => ?_, fun h2 => ?_⟩
  · have h2' := of_decide_eq_true h2
    conv => whnf
    refine ⟨?_, rfl⟩
    have : ¬ (chs s).length ≤ 20 := by rw [chs_len]; omega
    simp [keyOk, this]
  have h2' := of_decide_eq_false h2
  conv => whnf
  refine .mk (ι := Nat) (fun i => s.size - i) (fun i mm => i ≤ s.size ∧ (∀ x ∈ (chs s).take i, isB x = true) ∧ mm = m) (fun i => [(0, .c (.v (.string s))), (3, .c (i64 i))]) (fun _ => []) 0 ⟨by omega, by simp, rfl⟩ ?_ ?_
  · conv => whnf
    repeat (refine And.intro (by first | with_reducible rfl | exact congrArg (Value.int _) (wi (by omega) (by omega)) | exact wi (by omega) (by omega) | rfl) ?_; conv => whnf)
    first | exact trivial | exact fun _ _ h => h
  rintro i mm ⟨hi, hall, he⟩
  subst mm
  conv => whnf
  refine ⟨fun h1 => ?_, fun h1 => ?_⟩
  · have h1' := of_decide_eq_true h1
    have hlt : i < s.size := by omega
    conv => whnf
    refine ⟨⟨by omega, by omega⟩, ?_⟩
    conv => whnf
    rw [Int.toNat_natCast, chs_at]
    have hli : i < (chs s).length := by rw [chs_len]; omega
    have hget : (chs s)[i]? = some ((chs s).getD i 0) := by simp [List.getD_eq_getElem?_getD, List.getElem?_eq_getElem hli]
    have bad : isB ((chs s).getD i 0) = false → keyOk (chs s) = false := fun h3' => by
      have : (chs s).all isB = false := by
        rw [List.all_eq_false]
        exact ⟨_, List.mem_of_getElem? hget, by simp only [h3', Bool.false_eq_true, not_false_eq_true]⟩
      simp [keyOk, this]
    have good : isB ((chs s).getD i 0) = true → ∀ x ∈ (chs s).take (i + 1), isB x = true := fun h3' x hx => by
      rw [List.take_succ_eq_append_getElem hli] at hx
      rcases List.mem_append.1 hx with hx | hx
      · exact hall x hx
      · rw [List.mem_singleton.1 hx]
        rw [List.getElem?_eq_getElem hli] at hget
        rw [Option.some.inj hget]; exact h3'
    generalize (chs s).getD i 0 = c at bad good ⊢
    have e45 : ((c : Int) == 45) = decide (c = 45) := by by_cases h : c = 45 <;> simp [h]; omega
    repeat' (first | (refine ⟨fun h => ?_, fun h => ?_⟩ <;> conv => whnf) | fail)
    all_goals first | (refine ⟨by rw [bad (by (try simp only [e45] at *); by_cases h45 : c = 45 <;> simp [isB, h45] at * <;> omega)], rfl⟩) | skip
    all_goals
      refine ⟨i + 1, ⟨by omega, good (by (try simp only [e45] at *); by_cases h45 : c = 45 <;> simp [isB, h45] at * <;> omega), rfl⟩, by omega, ?_⟩
      conv => whnf
      repeat (refine And.intro (by first | with_reducible rfl | (first | exact congrArg (Value.int _) (iadd (by omega))) | exact congrArg (Value.int _) (wi (by omega) (by omega)) | exact wi (by omega) (by omega) | rfl) ?_; conv => whnf)
      first | exact trivial | exact fun _ _ h => h
  · have h1' := of_decide_eq_false h1
    obtain rfl : i = s.size := by omega
    conv => whnf
    refine ⟨?_, rfl⟩
    have hl := chs_len s
    rw [← hl, List.take_length] at hall
    have : (chs s).all isB = true := List.all_eq_true.2 hall
    simp [keyOk, this, hl]
    omega
end Go.E.Ytmfjdgdiccfecaa
