/-
  Contracts of the functions of vec, on: dots, joins of slices, and what must come of fixed calls.
-/
import Derived.Test.YtdhojpepdgdblaaVecL
namespace Go.E.Ytdhojpepdgdblaa
open Go.Proofs
set_option maxRecDepth 100000

theorem rwith_spec {m : Mem} {v : List Int} {n k : Int} (hv : V8 v) (hk : U k) : Ret Try.prog 39 [vecV v, dotV n k] m [vecV (withN v n k)] := by
  have hv1 := hv.1
  obtain ⟨hk0, hk1⟩ := hk
  let g : Nat → List Int := fun i => if 1 ≤ n ∧ n ≤ i then withN v n k else v
  have g0 : g 0 = v := by simp only [g]; rw [if_neg (by omega)]
  have gN : ∀ i : Nat, ¬ ((i : Int) + 1 = n) → g (i + 1) = g i := by
    intro i hi
    simp only [g]
    have : (1 ≤ n ∧ n ≤ ((i + 1 : Nat) : Int)) ↔ (1 ≤ n ∧ n ≤ (i : Int)) := by omega
    simp only [this]
  have gE : ∀ i : Nat, (i : Int) + 1 = n → g i = v ∧ g (i + 1) = withN v n k := by
    intro i hi
    simp only [g]
    exact ⟨by rw [if_neg (by omega)], by rw [if_pos (by omega)]⟩
  refine en39 rfl ?_
  conv => whnf
  refine .mk (ι := Nat) (fun i => 8 - i) (fun i => i ≤ 8) (fun i => [(2, .p 0 0), (3, .p 1 0), (4, .p 2 0), (5, .p 3 0), (6, .c (i64 i))])
    (fun i => [(33, [.ints .u64 8 v]), (61, [.one (.int .i64 n), .one (.int .u64 k)]), (33, [.ints .u64 8 (List.replicate 8 0)]), (33, [.ints .u64 8 (g i)])]) (fun _ => m) 0 (by omega) ?_ ?_
  · conv => whnf
    repeat (refine And.intro (by first | with_reducible rfl | (exact g0.symm) | exact congrArg (Value.int _) (wi (by omega) (by omega)) | exact wi (by omega) (by omega) | rfl) ?_; conv => whnf)
    first | exact trivial | exact fun _ _ h => h
  intro i hi
  conv => whnf
  refine ⟨fun h => ?_, fun h => ?_⟩
  · have h' := of_decide_eq_true h
    have hw : IntKind.i64.wrap ((i : Int) + 1) = i + 1 := wi (by omega) (by omega)
    have skip : ¬ ((i : Int) + 1 = n ∧ v.getD i 0 < k) → g (i + 1) = g i := by
      intro hn
      by_cases e : (i : Int) + 1 = n
      · have e' := gE i e
        rw [e'.1, e'.2, withN, if_pos (isN_iff.2 (by omega))]
        have : (n - 1).toNat = i := by omega
        have hge : ¬ v.getD i 0 < k := fun hh => hn ⟨e, hh⟩
        rw [this, show max (v.getD i 0) k = v.getD i 0 by omega]
        exact set_self _ _
      · exact gN i e
    conv => whnf
    first | refine xretk (rright3_spec) ?_ | refine xret (rright3_spec) ?_
    conv => whnf
    refine ⟨fun h2 => ?_, fun h2 => ?_⟩
    · conv => whnf
      refine ⟨fun h3 => ?_, fun h3 => ?_⟩
      · have h3' : (i : Int) + 1 = n := by rw [hw] at h3; simpa using h3
        conv => whnf
        repeat (refine And.intro (by first | omega | (simp only [times]; omega)) ?_; conv => whnf)
        refine ⟨fun h4 => ?_, fun h4 => ?_⟩
        · have h4' : v.getD i 0 < k := of_decide_eq_true h4
          have e' := gE i h3'
          conv => whnf
          repeat (refine And.intro (by first | omega | (simp only [times]; omega)) ?_; conv => whnf)
          refine ⟨i + 1, by omega, by omega, ?_⟩
          conv => whnf
          refine And.intro ?_ ?_
          · exact wi (by omega) (by omega)
          conv => whnf
          refine And.intro rfl ?_
          conv => whnf
          refine And.intro rfl ?_
          conv => whnf
          refine And.intro rfl ?_
          conv => whnf
          refine And.intro rfl ?_
          conv => whnf
          refine And.intro ?_ ?_
          · show (g i).set i k = g (i + 1)
            rw [e'.1, e'.2, withN, if_pos (isN_iff.2 (by omega))]
            have : (n - 1).toNat = i := by omega
            rw [this, show max (v.getD i 0) k = k by omega]
          exact fun _ _ h => h
        · have h4' : ¬ v.getD i 0 < k := of_decide_eq_false h4
          have e' := skip (by intro hh; exact h4' hh.2)
          conv => whnf
          refine ⟨i + 1, by omega, by omega, ?_⟩
          conv => whnf
          repeat (refine And.intro (by first | with_reducible rfl | (exact e'.symm) | exact congrArg (Value.int _) (wi (by omega) (by omega)) | exact wi (by omega) (by omega) | rfl) ?_; conv => whnf)
          first | exact trivial | exact fun _ _ h => h
      · have h3' : ¬ (i : Int) + 1 = n := by rw [hw] at h3; simpa using h3
        have e' := skip (by intro hh; exact h3' hh.1)
        conv => whnf
        refine ⟨i + 1, by omega, by omega, ?_⟩
        conv => whnf
        repeat (refine And.intro (by first | with_reducible rfl | (exact e'.symm) | exact congrArg (Value.int _) (wi (by omega) (by omega)) | exact wi (by omega) (by omega) | rfl) ?_; conv => whnf)
        first | exact trivial | exact fun _ _ h => h
    · have e' : g (i + 1) = g i := by
        apply skip
        rintro ⟨a, b⟩
        have hv0 := (hv.2 i).1
        have : rightN n k = true := by
          simp only [rightN, Bool.and_eq_true, decide_eq_true_eq]
          exact ⟨isN_iff.2 (by omega), by omega⟩
        rw [this] at h2; simp at h2
      conv => whnf
      refine ⟨i + 1, by omega, by omega, ?_⟩
      conv => whnf
      repeat (refine And.intro (by first | with_reducible rfl | (exact e'.symm) | exact congrArg (Value.int _) (wi (by omega) (by omega)) | exact wi (by omega) (by omega) | rfl) ?_; conv => whnf)
      first | exact trivial | exact fun _ _ h => h
  · have h' := of_decide_eq_false h
    have : i = 8 := by omega
    subst this
    have e8 : g 8 = withN v n k := by
      simp only [g]
      by_cases hN : isN n = true
      · have := isN_iff.1 hN
        rw [if_pos (by omega)]
      · rw [withN, if_neg hN, if_neg]
        intro hh
        exact hN (isN_iff.2 (by omega))
    conv => whnf
    refine ⟨?_, rfl⟩
    rw [e8]
def cmpN (a b : Int) : Int := if a < b then -1 else if b < a then 1 else 0
theorem nanI_spec {m : Mem} {a : Int} : Ret Try.prog 55 [i64 a] m [boolV false] := by
  refine en55 rfl ?_
  conv => whnf
  refine ⟨?_, rfl⟩
  simp
theorem nanU_spec {m : Mem} {a : Int} : Ret Try.prog 56 [u64 a] m [boolV false] := by
  refine en56 rfl ?_
  conv => whnf
  refine ⟨?_, rfl⟩
  simp
theorem cmpI_spec {m : Mem} {a b : Int} : Ret Try.prog 52 [i64 a, i64 b] m [i64 (cmpN a b)] := by
  refine en52 rfl ?_
  conv => whnf
  first | refine xretk (nanI_spec) ?_ | refine xret (nanI_spec) ?_
  conv => whnf
  first | refine xretk (nanI_spec) ?_ | refine xret (nanI_spec) ?_
  conv => whnf
  refine ⟨fun h => absurd h (by decide), fun _ => ?_⟩
  conv => whnf
  refine ⟨fun h => absurd h (by decide), fun _ => ?_⟩
  conv => whnf
  refine ⟨fun h => ?_, fun h => ?_⟩
  · have h' := of_decide_eq_true h
    conv => whnf
    refine ⟨?_, rfl⟩
    rw [cmpN, if_pos h']
  · have h' := of_decide_eq_false h
    conv => whnf
    refine ⟨fun h2 => ?_, fun h2 => ?_⟩
    · have h2' := of_decide_eq_true h2
      conv => whnf
      refine ⟨?_, rfl⟩
      rw [cmpN, if_neg h', if_pos h2']
    · have h2' := of_decide_eq_false h2
      conv => whnf
      refine ⟨?_, rfl⟩
      rw [cmpN, if_neg h', if_neg h2']
theorem cmpU_spec {m : Mem} {a b : Int} : Ret Try.prog 53 [u64 a, u64 b] m [i64 (cmpN a b)] := by
  refine en53 rfl ?_
  conv => whnf
  first | refine xretk (nanU_spec) ?_ | refine xret (nanU_spec) ?_
  conv => whnf
  first | refine xretk (nanU_spec) ?_ | refine xret (nanU_spec) ?_
  conv => whnf
  refine ⟨fun h => absurd h (by decide), fun _ => ?_⟩
  conv => whnf
  refine ⟨fun h => absurd h (by decide), fun _ => ?_⟩
  conv => whnf
  refine ⟨fun h => ?_, fun h => ?_⟩
  · have h' := of_decide_eq_true h
    conv => whnf
    refine ⟨?_, rfl⟩
    rw [cmpN, if_pos h']
  · have h' := of_decide_eq_false h
    conv => whnf
    refine ⟨fun h2 => ?_, fun h2 => ?_⟩
    · have h2' := of_decide_eq_true h2
      conv => whnf
      refine ⟨?_, rfl⟩
      rw [cmpN, if_neg h', if_pos h2']
    · have h2' := of_decide_eq_false h2
      conv => whnf
      refine ⟨?_, rfl⟩
      rw [cmpN, if_neg h', if_neg h2']
theorem or_spec {m : Mem} {b : Nat} {x y : Int} (h0 : mcell m b 0 = some (.int .i64 x)) (h1 : mcell m b 1 = some (.int .i64 y)) :
    Ret Try.prog 51 [.v (.slice (some ⟨b, 0, none⟩) 2 2)] m [i64 (if x = 0 then y else x)] := by
  refine en51 rfl ?_
  conv => whnf
  refine .mk (ι := Nat) (fun i => 2 - i) (fun i => i ≤ 2 ∧ (1 ≤ i → x = 0) ∧ (2 ≤ i → y = 0)) (fun i => [(3, .c (i64 0)), (6, .c (.v (.slice (some ⟨b, 0, none⟩) 2 2))), (7, .c (i64 2)), (8, .c (i64 i))])
    (fun i => []) (fun _ => m) 0 (by omega) ?_ ?_
  · conv => whnf
    repeat (refine And.intro (by first | with_reducible rfl | exact congrArg (Value.int _) (wi (by omega) (by omega)) | exact wi (by omega) (by omega) | rfl) ?_; conv => whnf)
    first | exact trivial | exact fun _ _ h => h
  intro i hi
  conv => whnf
  refine ⟨fun h => ?_, fun h => ?_⟩
  · have h' := of_decide_eq_true h
    conv => whnf
    repeat (refine And.intro (by first | omega | (simp only [times]; omega)) ?_; conv => whnf)
    have hc : i = 0 ∨ i = 1 := by omega
    rcases hc with rfl | rfl
    · refine ⟨.int .i64 x, h0, rfl, ?_⟩
      conv => whnf
      refine ⟨fun h2 => ?_, fun h2 => ?_⟩
      · have h2' : x ≠ 0 := by simpa using h2
        conv => whnf
        refine ⟨?_, rfl⟩
        rw [if_neg h2']
      · have h2' : x = 0 := by simpa using h2
        conv => whnf
        refine ⟨1, by omega, by omega, ?_⟩
        conv => whnf
        repeat (refine And.intro (by first | with_reducible rfl | exact congrArg (Value.int _) (wi (by omega) (by omega)) | exact wi (by omega) (by omega) | rfl) ?_; conv => whnf)
        first | exact trivial | exact fun _ _ h => h
    · refine ⟨.int .i64 y, h1, rfl, ?_⟩
      have hx := hi.2.1 (by omega)
      conv => whnf
      refine ⟨fun h2 => ?_, fun h2 => ?_⟩
      · conv => whnf
        refine ⟨?_, rfl⟩
        rw [if_pos hx]
      · have h2' : y = 0 := by simpa using h2
        conv => whnf
        refine ⟨2, by omega, by omega, ?_⟩
        conv => whnf
        repeat (refine And.intro (by first | with_reducible rfl | exact congrArg (Value.int _) (wi (by omega) (by omega)) | exact wi (by omega) (by omega) | rfl) ?_; conv => whnf)
        first | exact trivial | exact fun _ _ h => h
  · have h' := of_decide_eq_false h
    have hx := hi.2.1 (by omega)
    have hy := hi.2.2 (by omega)
    conv => whnf
    refine ⟨?_, rfl⟩
    rw [if_pos hx, hy]
def lessN (a k b j : Int) : Bool := decide (a < b ∨ (a = b ∧ k < j))
theorem less_spec {m : Mem} {a k b j : Int} : Spec Try.prog 34 [dotV a k, dotV b j] m fun r m' => r = [boolV (lessN a k b j)] ∧ Sub m m' := by
  refine en34 rfl ?_
  conv => whnf
  first | refine xretk (cmpI_spec) ?_ | refine xret (cmpI_spec) ?_
  conv => whnf
  first | refine xretk (cmpU_spec) ?_ | refine xret (cmpU_spec) ?_
  conv => whnf
  refine .mk _ (buildSlice_spec tt_ok (t := 22) (e := 3) (by rfl) rfl (by rfl) rfl rfl (by simp [CV.cs]) (by simp) (by simp)) ?_
  rintro _ _ ⟨b', hb, rfl, rfl⟩
  first | refine ⟨fun _ h => (by cases h), ?_⟩ | skip
  conv => whnf
  first | refine xretk (or_spec (x := cmpN a b) (y := cmpN k j) (by simp [mcell, Mem.set_same, fl, CV.cs]) (by simp [mcell, Mem.set_same, fl, CV.cs])) ?_ | refine xret (or_spec (x := cmpN a b) (y := cmpN k j) (by simp [mcell, Mem.set_same, fl, CV.cs]) (by simp [mcell, Mem.set_same, fl, CV.cs])) ?_
  conv => whnf
  refine ⟨?_, Mem.sub_set _ hb⟩
  have : decide ((if cmpN a b = 0 then cmpN k j else cmpN a b) < 0) = lessN a k b j := by
    unfold lessN cmpN
    apply decide_eq_decide.2
    by_cases h1 : a < b
    · simp [h1]
    · by_cases h2 : b < a
      · simp [h1, h2]; omega
      · have : a = b := by omega
        simp [h1, h2, this]
        by_cases h3 : k < j
        · simp [h3]
        · by_cases h4 : j < k <;> simp [h3, h4]
  rw [this]
theorem rless_spec {m : Mem} {a k b j : Int} : Ret Try.prog 35 [dotV a k, dotV b j] m [boolV (lessN a k b j)] := by
  refine en35 rfl ?_
  conv => whnf
  refine ⟨fun h => ?_, fun h => ?_⟩
  · have h' := of_decide_eq_true h
    conv => whnf
    refine ⟨?_, rfl⟩
    rw [lessN, decide_eq_true (.inl h')]
  · have h' := of_decide_eq_false h
    conv => whnf
    refine ⟨fun h2 => ?_, fun h2 => ?_⟩
    · have h2' : a = b := by simpa using h2
      conv => whnf
      refine ⟨?_, rfl⟩
      simp only [lessN]
      congr 3
      apply decide_eq_decide.2
      omega
    · have h2' : a ≠ b := by simpa using h2
      conv => whnf
      refine ⟨?_, rfl⟩
      rw [lessN, decide_eq_false (by omega)]
end Go.E.Ytdhojpepdgdblaa
