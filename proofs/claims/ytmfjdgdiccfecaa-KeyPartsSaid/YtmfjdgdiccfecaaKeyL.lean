/-
  Laws of chapter 11.
-/
import Derived.Test.YtmfjdgdiccfecaaKey
import Derived.Test.YtmfjdgdiccfecaaSha8a
namespace Go.E.Ytmfjdgdiccfecaa
open Go.Proofs
set_option maxRecDepth 100000
theorem abc_chs : chs ⟨#[97, 98, 99]⟩ = [97, 98, 99] := by decide
theorem abc_point : Sha.point (chs ⟨#[97, 98, 99]⟩) = 13436514500253700074 := by
  rw [abc_chs]
  unfold Sha.point
  rw [abc_sum]; decide
theorem abc_part : partOf ⟨#[97, 98, 99]⟩ = 5 := by rw [partOf, abc_point]
theorem abc_leaf : leafOf ⟨#[97, 98, 99]⟩ = 13 := by rw [leafOf, abc_point]
theorem alive11_spec {m : Mem} : Spec Try.prog 5 [] m fun r m' => r = [boolV true] ∧ Sub m m' := by
  refine en5 rfl (goY ?_)
  conv => whnf
  first | refine xretk (base_spec (n := 1) (by decide)) ?_ | refine xret (base_spec (n := 1) (by decide)) ?_
  conv => whnf
  first | refine xretk (base_spec (n := 8) (by decide)) ?_ | refine xret (base_spec (n := 8) (by decide)) ?_
  conv => whnf
  refine ⟨fun _ => ?_, fun h => absurd h (by decide)⟩
  conv => whnf
  refine ⟨fun _ => ?_, fun h => absurd h (by decide)⟩
  conv => whnf
  refine ⟨fun _ => ?_, fun h => absurd h (by decide)⟩
  conv => whnf
  first | refine xretk (right_key_spec (s := ⟨#[99, 97, 114, 116, 45, 55]⟩) (by decide)) ?_ | refine xret (right_key_spec (s := ⟨#[99, 97, 114, 116, 45, 55]⟩) (by decide)) ?_
  conv => whnf
  refine ⟨fun _ => ?_, fun h => absurd h (by decide)⟩
  conv => whnf
  first | refine xretk (right_key_spec (s := ⟨#[]⟩) (by decide)) ?_ | refine xret (right_key_spec (s := ⟨#[]⟩) (by decide)) ?_
  conv => whnf
  refine ⟨fun _ => ?_, fun h => absurd h (by decide)⟩
  conv => whnf
  first | refine xretk (right_key_spec (s := ⟨#[67, 97, 114, 116]⟩) (by decide)) ?_ | refine xret (right_key_spec (s := ⟨#[67, 97, 114, 116]⟩) (by decide)) ?_
  conv => whnf
  refine ⟨fun _ => ?_, fun h => absurd h (by decide)⟩
  conv => whnf
  refine xcall (point_key_spec (s := ⟨#[97, 98, 99]⟩) (by decide)) ?_
  rintro _ m1 ⟨rfl, hs1⟩
  conv => whnf
  refine ⟨fun _ => ?_, fun h => absurd h (by simp [abc_point])⟩
  conv => whnf
  refine xcall (part_spec (s := ⟨#[97, 98, 99]⟩) (by decide)) ?_
  rintro _ m2 ⟨rfl, hs2⟩
  conv => whnf
  refine ⟨fun _ => ?_, fun h => absurd h (by simp [abc_part])⟩
  conv => whnf
  refine xcall (leaf_spec (s := ⟨#[97, 98, 99]⟩) (by decide)) ?_
  rintro _ m3 ⟨rfl, hs3⟩
  conv => whnf
  exact ⟨by simp [abc_leaf], (hs1.trans hs2).trans hs3⟩
theorem base_bad {m : Mem} {n : Int} (hn : -9223372036854775808 ≤ n ∧ n ≤ 9223372036854775807) (h : n < 0 ∨ 7 < n) : Ret Try.prog 6 [i64 n] m [u64 0, i64 1] := by
  have := base_spec (m := m) hn; rw [if_pos h] at this; exact this
theorem base_ok {m : Mem} {n : Int} (h : ¬ (n < 0 ∨ 7 < n)) : Ret Try.prog 6 [i64 n] m [u64 (n * 2305843009213693952), i64 0] := by
  have := base_spec (m := m) (n := n) (by omega); rw [if_neg h] at this; exact this
set_option maxHeartbeats 2000000 in
theorem keyTells_spec {m : Mem} {s : ByteArray} {n : Int} (hn : -9223372036854775808 ≤ n ∧ n ≤ 9223372036854775807) : Spec Try.prog 3 [.v (.string s), i64 n] m fun r m' => r = [boolV true] ∧ Sub m m' := by
  refine en3 rfl (goY ?_)
  conv => whnf
  refine ⟨fun h => ?_, fun h => ?_⟩
  · conv => whnf
    refine xcall (alive11_spec) ?_
    rintro _ m1 ⟨rfl, hs1⟩
    conv => whnf
    exact ⟨rfl, hs1⟩
  have h' := of_decide_eq_false h
  have hs : s.size ≤ 1000000 := by omega
  clear h
  have hp := partOf_lt s
  have hl := leafOf_lt s
  conv => whnf
  by_cases hr : n < 0 ∨ 7 < n
  · first | refine xretk (base_bad hn hr) ?_ | refine xret (base_bad hn hr) ?_
    conv => whnf
    refine xcall (at_spec hs) ?_
    rintro _ m1 ⟨rfl, hs1⟩
    conv => whnf
    refine xcall (rpart_spec hs) ?_
    rintro _ m2 ⟨rfl, hs2⟩
    conv => whnf
    refine ⟨fun h => absurd h (by simp at h), fun _ => ?_⟩
    conv => whnf
    refine xcall (rleaf_spec hs) ?_
    rintro _ m3 ⟨rfl, hs3⟩
    conv => whnf
    refine ⟨fun h => absurd h (by simp at h), fun _ => ?_⟩
    conv => whnf
    first | refine xretk (right_key_spec hs) ?_ | refine xret (right_key_spec hs) ?_
    conv => whnf
    first | refine xretk (right_ref_spec hs) ?_ | refine xret (right_ref_spec hs) ?_
    conv => whnf
    refine ⟨fun h => absurd h (by simp at h), fun _ => ?_⟩
    conv => whnf
    refine xcall (point_key_spec hs) ?_
    rintro _ m4 ⟨rfl, hs4⟩
    conv => whnf
    refine .mk _ (convS) ?_
    rintro _ m5 ⟨v, rfl, hs5, hv⟩
    conv => whnf
    refine xcall (rpoint_spec hv (by rw [chs_len]; omega) (chs_lt s)) ?_
    rintro _ m6 ⟨rfl, hs6⟩
    conv => whnf
    refine ⟨fun h => absurd h (by simp at h), fun _ => ?_⟩
    conv => whnf
    refine xcall (part_spec hs) ?_
    rintro _ m7 ⟨rfl, hs7⟩
    conv => whnf
    refine xcall (rpart_spec hs) ?_
    rintro _ m8 ⟨rfl, hs8⟩
    conv => whnf
    refine ⟨fun h => absurd h (by simp at h), fun _ => ?_⟩
    conv => whnf
    refine xcall (leaf_spec hs) ?_
    rintro _ m9 ⟨rfl, hs9⟩
    conv => whnf
    refine xcall (rleaf_spec hs) ?_
    rintro _ m10 ⟨rfl, hs10⟩
    conv => whnf
    refine ⟨fun h => absurd h (by simp at h), fun _ => ?_⟩
    conv => whnf
    have hall : Sub m m10 := hs1.trans (hs2.trans (hs3.trans (hs4.trans (hs5.trans (hs6.trans (hs7.trans (hs8.trans (hs9.trans hs10))))))))
    refine ⟨fun h => ?_, fun h => ?_⟩
    · conv => whnf
      refine xcall (alive11_spec) ?_
      rintro _ m11 ⟨rfl, hs11⟩
      conv => whnf
      refine ⟨fun _ => ?_, fun h => absurd h (by decide)⟩
      conv => whnf
      refine ⟨fun _ => ?_, fun h => absurd h (by decide)⟩
      conv => whnf
      exact ⟨rfl, hall.trans hs11⟩
    · conv => whnf
      refine ⟨fun _ => ?_, fun h => absurd h (by simp at * <;> omega)⟩
      conv => whnf
      refine xcall (alive11_spec) ?_
      rintro _ m11 ⟨rfl, hs11⟩
      conv => whnf
      refine ⟨fun _ => ?_, fun h => absurd h (by decide)⟩
      conv => whnf
      refine ⟨fun _ => ?_, fun h => absurd h (by decide)⟩
      conv => whnf
      exact ⟨rfl, hall.trans hs11⟩
  · first | refine xretk (base_ok hr) ?_ | refine xret (base_ok hr) ?_
    conv => whnf
    refine xcall (at_spec hs) ?_
    rintro _ m1 ⟨rfl, hs1⟩
    conv => whnf
    refine xcall (rpart_spec hs) ?_
    rintro _ m2 ⟨rfl, hs2⟩
    conv => whnf
    refine ⟨fun h => absurd h (by simp at h), fun _ => ?_⟩
    conv => whnf
    refine xcall (rleaf_spec hs) ?_
    rintro _ m3 ⟨rfl, hs3⟩
    conv => whnf
    refine ⟨fun h => absurd h (by simp at h), fun _ => ?_⟩
    conv => whnf
    first | refine xretk (right_key_spec hs) ?_ | refine xret (right_key_spec hs) ?_
    conv => whnf
    first | refine xretk (right_ref_spec hs) ?_ | refine xret (right_ref_spec hs) ?_
    conv => whnf
    refine ⟨fun h => absurd h (by simp at h), fun _ => ?_⟩
    conv => whnf
    refine xcall (point_key_spec hs) ?_
    rintro _ m4 ⟨rfl, hs4⟩
    conv => whnf
    refine .mk _ (convS) ?_
    rintro _ m5 ⟨v, rfl, hs5, hv⟩
    conv => whnf
    refine xcall (rpoint_spec hv (by rw [chs_len]; omega) (chs_lt s)) ?_
    rintro _ m6 ⟨rfl, hs6⟩
    conv => whnf
    refine ⟨fun h => absurd h (by simp at h), fun _ => ?_⟩
    conv => whnf
    refine xcall (part_spec hs) ?_
    rintro _ m7 ⟨rfl, hs7⟩
    conv => whnf
    refine xcall (rpart_spec hs) ?_
    rintro _ m8 ⟨rfl, hs8⟩
    conv => whnf
    refine ⟨fun h => absurd h (by simp at h), fun _ => ?_⟩
    conv => whnf
    refine xcall (leaf_spec hs) ?_
    rintro _ m9 ⟨rfl, hs9⟩
    conv => whnf
    refine xcall (rleaf_spec hs) ?_
    rintro _ m10 ⟨rfl, hs10⟩
    conv => whnf
    refine ⟨fun h => absurd h (by simp at h), fun _ => ?_⟩
    conv => whnf
    have hall : Sub m m10 := hs1.trans (hs2.trans (hs3.trans (hs4.trans (hs5.trans (hs6.trans (hs7.trans (hs8.trans (hs9.trans hs10))))))))
    refine ⟨fun h => absurd h (by simp at h <;> omega), fun _ => ?_⟩
    conv => whnf
    refine ⟨fun h => absurd h (by simp at h <;> omega), fun _ => ?_⟩
    conv => whnf
    refine xcall (alive11_spec) ?_
    rintro _ m11 ⟨rfl, hs11⟩
    conv => whnf
    refine ⟨fun _ => ?_, fun h => absurd h (by decide)⟩
    conv => whnf
    refine ⟨fun _ => ?_, fun h => absurd h (by decide)⟩
    conv => whnf
    first | refine xretk (rbase_spec (n := n) (by omega)) ?_ | refine xret (rbase_spec (n := n) (by omega)) ?_
    conv => whnf
    exact ⟨by simp, hall.trans hs11⟩
set_option maxHeartbeats 2000000 in
theorem keyParts_spec {m : Mem} {s t : ByteArray} : Spec Try.prog 4 [.v (.string s), .v (.string t)] m fun r m' => r = [boolV true] ∧ Sub m m' := by
  refine en4 rfl (goY ?_)
  conv => whnf
  refine ⟨fun h => ?_, fun h => ?_⟩
  · conv => whnf
    refine xcall (alive11_spec) ?_
    rintro _ m1 ⟨rfl, hs1⟩
    conv => whnf
    exact ⟨rfl, hs1⟩
  have h' := of_decide_eq_false h
  have hs : s.size ≤ 1000000 := by omega
  clear h
  conv => whnf
  refine ⟨fun h => ?_, fun h => ?_⟩
  · conv => whnf
    refine xcall (alive11_spec) ?_
    rintro _ m1 ⟨rfl, hs1⟩
    conv => whnf
    exact ⟨rfl, hs1⟩
  have h'' := of_decide_eq_false h
  have ht : t.size ≤ 1000000 := by omega
  clear h
  have hp := partOf_lt s
  have hl := leafOf_lt s
  have hpt := point_lt (chs s)
  have hpe : partOf s = Sha.point (chs s) / 2305843009213693952 := rfl
  conv => whnf
  refine xcall (part_spec hs) ?_
  rintro _ m1 ⟨rfl, hs1⟩
  conv => whnf
  first | refine xretk (base_ok (n := ((partOf s : Nat) : Int)) (by omega)) ?_ | refine xret (base_ok (n := ((partOf s : Nat) : Int)) (by omega)) ?_
  conv => whnf
  have e1 : IntKind.i64.wrap (((partOf s : Nat) : Int) + 1) = ((partOf s + 1 : Nat) : Int) := by rw [wi (by omega) (by omega)]; omega
  rw [e1]
  by_cases hlt : partOf s < 7
  · first | refine xretk (base_ok (n := ((partOf s + 1 : Nat) : Int)) (by omega)) ?_ | refine xret (base_ok (n := ((partOf s + 1 : Nat) : Int)) (by omega)) ?_
    conv => whnf
    refine ⟨fun h => absurd h (by decide), fun _ => ?_⟩
    conv => whnf
    refine xcall (point_key_spec hs) ?_
    rintro _ m2 ⟨rfl, hs2⟩
    conv => whnf
    refine ⟨fun h => absurd h (by simp at h <;> omega), fun _ => ?_⟩
    conv => whnf
    refine ⟨fun h => absurd h (by simp at h <;> omega), fun _ => ?_⟩
    conv => whnf
    refine ⟨fun _ => ?_, fun h => absurd h (by decide)⟩
    conv => whnf
    refine xcall (point_key_spec hs) ?_
    rintro _ m3 ⟨rfl, hs3⟩
    conv => whnf
    refine ⟨fun h => absurd h (by simp at h <;> omega), fun _ => ?_⟩
    conv => whnf
    refine xcall (leaf_spec hs) ?_
    rintro _ m4 ⟨rfl, hs4⟩
    conv => whnf
    refine xcall (point_key_spec hs) ?_
    rintro _ m5 ⟨rfl, hs5⟩
    conv => whnf
    refine xcall (point_key_spec ht) ?_
    rintro _ m6 ⟨rfl, hs6⟩
    conv => whnf
    refine xcall (alive11_spec) ?_
    rintro _ m7 ⟨rfl, hs7⟩
    conv => whnf
    have hall : Sub m m7 := hs1.trans (hs2.trans (hs3.trans (hs4.trans (hs5.trans (hs6.trans hs7)))))
    refine ⟨fun _ => ?_, fun h => absurd h (by decide)⟩
    conv => whnf
    refine ⟨fun _ => ?_, fun h => absurd h (by simp at h <;> omega)⟩
    conv => whnf
    refine ⟨fun _ => ?_, fun h => absurd h (by simp at h <;> omega)⟩
    conv => whnf
    refine ⟨fun h => ?_, fun h => ?_⟩
    · conv => whnf
      exact ⟨rfl, hall⟩
    have heq : Sha.point (chs s) = Sha.point (chs t) := by simp at h <;> omega
    conv => whnf
    refine xcall (part_spec ht) ?_
    rintro _ m8 ⟨rfl, hs8⟩
    conv => whnf
    refine ⟨fun _ => ?_, fun h => absurd h (by (simp [partOf, heq] at h))⟩
    conv => whnf
    refine xcall (leaf_spec ht) ?_
    rintro _ m9 ⟨rfl, hs9⟩
    conv => whnf
    exact ⟨by simp [leafOf, heq], hall.trans (hs8.trans hs9)⟩
  · first | refine xretk (base_bad (n := ((partOf s + 1 : Nat) : Int)) (by omega) (by omega)) ?_ | refine xret (base_bad (n := ((partOf s + 1 : Nat) : Int)) (by omega) (by omega)) ?_
    conv => whnf
    refine ⟨fun h => absurd h (by decide), fun _ => ?_⟩
    conv => whnf
    refine xcall (point_key_spec hs) ?_
    rintro _ m2 ⟨rfl, hs2⟩
    conv => whnf
    refine ⟨fun h => absurd h (by simp at h <;> omega), fun _ => ?_⟩
    conv => whnf
    refine ⟨fun h => absurd h (by simp at h <;> omega), fun _ => ?_⟩
    conv => whnf
    refine ⟨fun h => absurd h (by decide), fun _ => ?_⟩
    conv => whnf
    refine xcall (leaf_spec hs) ?_
    rintro _ m4 ⟨rfl, hs4⟩
    conv => whnf
    refine xcall (point_key_spec hs) ?_
    rintro _ m5 ⟨rfl, hs5⟩
    conv => whnf
    refine xcall (point_key_spec ht) ?_
    rintro _ m6 ⟨rfl, hs6⟩
    conv => whnf
    refine xcall (alive11_spec) ?_
    rintro _ m7 ⟨rfl, hs7⟩
    conv => whnf
    have hall : Sub m m7 := hs1.trans (hs2.trans (hs4.trans (hs5.trans (hs6.trans hs7))))
    refine ⟨fun _ => ?_, fun h => absurd h (by decide)⟩
    conv => whnf
    refine ⟨fun _ => ?_, fun h => absurd h (by simp at h <;> omega)⟩
    conv => whnf
    refine ⟨fun _ => ?_, fun h => absurd h (by simp at h <;> omega)⟩
    conv => whnf
    refine ⟨fun h => ?_, fun h => ?_⟩
    · conv => whnf
      exact ⟨rfl, hall⟩
    have heq : Sha.point (chs s) = Sha.point (chs t) := by simp at h <;> omega
    conv => whnf
    refine xcall (part_spec ht) ?_
    rintro _ m8 ⟨rfl, hs8⟩
    conv => whnf
    refine ⟨fun _ => ?_, fun h => absurd h (by (simp [partOf, heq] at h))⟩
    conv => whnf
    refine xcall (leaf_spec ht) ?_
    rintro _ m9 ⟨rfl, hs9⟩
    conv => whnf
    exact ⟨by simp [leafOf, heq], hall.trans (hs8.trans hs9)⟩
end Go.E.Ytmfjdgdiccfecaa
