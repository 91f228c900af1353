/-
  Contracts of the functions of vec, of the document's, and of the law's own.
-/
import Derived.Test.YtdhojpepdgdblaaCfg
import Derived.Test.YtdhojpepdgdblaaTallyL3
namespace Go.E.Ytdhojpepdgdblaa
open Go.Proofs
set_option maxRecDepth 100000

abbrev vecV (a : List Int) : CV := .a [.ints .u64 8 a]
abbrev dotV (n k : Int) : CV := .a [.one (.int .i64 n), .one (.int .u64 k)]
def isN (n : Int) : Bool := decide (1 ≤ n) && decide (n ≤ 8)
def rightN (n k : Int) : Bool := isN n && decide (0 < k)
def getN (v : List Int) (n : Int) : Int := if isN n = true then v.getD (n - 1).toNat 0 else 0
def withN (v : List Int) (n k : Int) : List Int := if isN n = true then v.set (n - 1).toNat (max (v.getD (n - 1).toNat 0) k) else v
def covN (a b : List Int) : Bool := eqLB [.ints .u64 8 (List.zipWith min a b)] [.ints .u64 8 b]

theorem isN_iff {n : Int} : isN n = true ↔ 1 ≤ n ∧ n ≤ 8 := by simp [isN]
theorem isN_not {n : Int} : isN n = false ↔ n < 1 ∨ 8 < n := by simp [isN]; omega
theorem isNode_spec {m : Mem} {n : Int} : Ret Try.prog 50 [i64 n] m [boolV (isN n)] := by
  refine en50 rfl ?_
  conv => whnf
  refine ⟨fun h => ?_, fun h => ?_⟩
  · conv => whnf
    refine ⟨?_, rfl⟩
    simp only [isN, h, Bool.true_and]
  · conv => whnf
    refine ⟨?_, rfl⟩
    simp only [isN, h, Bool.false_and]
theorem right3_spec {m : Mem} {n k : Int} : Ret Try.prog 32 [dotV n k] m [boolV (rightN n k)] := by
  refine en32 rfl ?_
  conv => whnf
  first | refine xretk (isNode_spec) ?_ | refine xret (isNode_spec) ?_
  conv => whnf
  refine ⟨fun h => ?_, fun h => ?_⟩
  · conv => whnf
    refine ⟨?_, rfl⟩
    simp only [rightN, h, Bool.true_and]
  · conv => whnf
    refine ⟨?_, rfl⟩
    simp only [rightN, h, Bool.false_and]
theorem rright3_spec {m : Mem} {n k : Int} : Ret Try.prog 33 [dotV n k] m [boolV (rightN n k)] := by
  refine en33 rfl ?_
  conv => whnf
  have e1 : decide (0 < n) = decide (1 ≤ n) := by apply decide_eq_decide.2; omega
  have e2 : decide (n < 9) = decide (n ≤ 8) := by apply decide_eq_decide.2; omega
  refine ⟨fun h => ?_, fun h => ?_⟩
  · rw [e1] at h
    conv => whnf
    refine ⟨fun h2 => ?_, fun h2 => ?_⟩
    · rw [e2] at h2
      conv => whnf
      refine ⟨?_, rfl⟩
      simp only [rightN, isN, h, h2, Bool.true_and]
    · rw [e2] at h2
      conv => whnf
      refine ⟨?_, rfl⟩
      simp only [rightN, isN, h, h2, Bool.true_and, Bool.false_and]
  · rw [e1] at h
    conv => whnf
    refine ⟨?_, rfl⟩
    simp only [rightN, isN, h, Bool.false_and]
theorem as3_spec {m : Mem} {n k : Int} : Ret Try.prog 29 [dotV n k] m [dotV n k] := by
  refine en29 rfl ?_
  conv => whnf
  exact ⟨rfl, rfl⟩
theorem get_spec {m : Mem} {v : List Int} {n : Int} (hn : I n) : Ret Try.prog 36 [vecV v, i64 n] m [u64 (getN v n)] := by
  obtain ⟨_, _⟩ := hn
  refine en36 rfl ?_
  conv => whnf
  first | refine xretk (isNode_spec) ?_ | refine xret (isNode_spec) ?_
  conv => whnf
  refine ⟨fun h => ?_, fun h => ?_⟩
  · have h' : isN n = false := by simpa using h
    conv => whnf
    refine ⟨?_, rfl⟩
    rw [getN, if_neg (by rw [h']; simp)]
  · have h' : isN n = true := by simpa using h
    have hb := isN_iff.1 h'
    have hw : IntKind.i64.wrap (n - 1) = n - 1 := wi (by omega) (by omega)
    conv => whnf
    repeat (refine And.intro (by first | omega | (simp only [times, hw]; omega)) ?_; conv => whnf)
    refine ⟨?_, rfl⟩
    rw [getN, if_pos h']
    simp only [times, hw]
theorem rget_spec {m : Mem} {v : List Int} {n : Int} : Ret Try.prog 37 [vecV v, i64 n] m [u64 (getN v n)] := by
  refine en37 rfl ?_
  conv => whnf
  refine .mk (ι := Nat) (fun i => 8 - i) (fun i => i ≤ 8 ∧ (1 ≤ n → i < n)) (fun i => [(1, .c (i64 n)), (2, .p 0 0), (5, .c (i64 i))])
    (fun i => [(33, [.ints .u64 8 v])]) (fun _ => m) 0 (by omega) ?_ ?_
  · conv => whnf
    repeat (refine And.intro (by first | with_reducible rfl | exact congrArg (Value.int _) (wi (by omega) (by omega)) | exact wi (by omega) (by omega) | rfl) ?_; conv => whnf)
    first | exact trivial | exact fun _ _ h => h
  intro i hi
  conv => whnf
  refine ⟨fun h => ?_, fun h => ?_⟩
  · have h' := of_decide_eq_true h
    have hw : IntKind.i64.wrap ((i : Int) + 1) = i + 1 := wi (by omega) (by omega)
    conv => whnf
    refine ⟨fun h2 => ?_, fun h2 => ?_⟩
    · have h2' : (i : Int) + 1 = n := by rw [hw] at h2; simpa using h2
      conv => whnf
      repeat (refine And.intro (by first | omega | (simp only [times]; omega)) ?_; conv => whnf)
      refine ⟨?_, rfl⟩
      rw [getN, if_pos (isN_iff.2 (by omega))]
      simp only [times]
      have e : (n - 1).toNat = i := by omega
      rw [e]; rfl
    · have h2' : (i : Int) + 1 ≠ n := by rw [hw] at h2; simpa using h2
      conv => whnf
      refine ⟨i + 1, by omega, by omega, ?_⟩
      conv => whnf
      repeat (refine And.intro (by first | with_reducible rfl | exact congrArg (Value.int _) (wi (by omega) (by omega)) | exact wi (by omega) (by omega) | rfl) ?_; conv => whnf)
      first | exact trivial | exact fun _ _ h => h
  · have h' := of_decide_eq_false h
    conv => whnf
    refine ⟨?_, rfl⟩
    rw [getN, if_neg (by rw [isN_iff]; omega)]
theorem with_spec {m : Mem} {v : List Int} {n k : Int} (hn : I n) : Ret Try.prog 38 [vecV v, dotV n k] m [vecV (withN v n k)] := by
  obtain ⟨_, _⟩ := hn
  refine en38 rfl ?_
  conv => whnf
  first | refine xretk (isNode_spec) ?_ | refine xret (isNode_spec) ?_
  conv => whnf
  refine ⟨fun h => ?_, fun h => ?_⟩
  · have hb := isN_iff.1 h
    have hw : IntKind.i64.wrap (n - 1) = n - 1 := wi (by omega) (by omega)
    conv => whnf
    repeat (refine And.intro (by first | omega | (simp only [times, hw]; omega)) ?_; conv => whnf)
    refine ⟨?_, rfl⟩
    rw [withN, if_pos h]
    simp only [times, hw]
  · conv => whnf
    refine ⟨?_, rfl⟩
    rw [withN, if_neg (by rw [h]; simp)]
theorem meet_spec {m : Mem} {u v : List Int} (hu : u.length = 8) (hv : v.length = 8) : Ret Try.prog 27 [vecV u, vecV v] m [vecV (List.zipWith min u v)] := by
  refine en27 rfl ?_
  conv => whnf
  refine .mk (ι := Nat) (fun i => 8 - i) (fun i => i ≤ 8) (fun i => [(2, .p 0 0), (3, .p 1 0), (4, .p 2 0), (6, .c (i64 i))])
    (fun i => [(33, [.ints .u64 8 (zipTo min i u v)]), (33, [.ints .u64 8 v]), (33, [.ints .u64 8 (List.replicate 8 0)])]) (fun _ => m) 0 (by omega) ?_ ?_
  · conv => whnf
    repeat (refine And.intro (by first | with_reducible rfl | (exact (zipTo_zero _ _ _).symm) | exact congrArg (Value.int _) (wi (by omega) (by omega)) | exact wi (by omega) (by omega) | rfl) ?_; conv => whnf)
    first | exact trivial | exact fun _ _ h => h
  intro i hi
  conv => whnf
  refine ⟨fun h => ?_, fun h => ?_⟩
  · have h' := of_decide_eq_true h
    conv => whnf
    repeat (refine And.intro (by first | omega | (simp only [times]; omega)) ?_; conv => whnf)
    refine ⟨i + 1, by omega, by omega, ?_⟩
    conv => whnf
    repeat (refine And.intro (by first | with_reducible rfl | (exact zipTo_set _ _ _ _ (by omega) (by omega)) | exact congrArg (Value.int _) (wi (by omega) (by omega)) | exact wi (by omega) (by omega) | rfl) ?_; conv => whnf)
    first | exact trivial | exact fun _ _ h => h
  · have h' := of_decide_eq_false h
    have : i = 8 := by omega
    subst this
    conv => whnf
    refine ⟨?_, rfl⟩
    rw [zipTo_all _ _ _ _ (by omega) (by omega)]
theorem covers_spec {m : Mem} {u v : List Int} (hu : u.length = 8) (hv : v.length = 8) : Ret Try.prog 28 [vecV u, vecV v] m [boolV (covN u v)] := by
  refine en28 rfl ?_
  conv => whnf
  first | refine xretk (meet_spec hu hv) ?_ | refine xret (meet_spec hu hv) ?_
  conv => whnf
  exact ⟨rfl, rfl⟩
theorem has_spec {m : Mem} {v : List Int} {n k : Int} (hn : I n) : Ret Try.prog 42 [vecV v, dotV n k] m [boolV (rightN n k && decide (k ≤ getN v n))] := by
  refine en42 rfl ?_
  conv => whnf
  first | refine xretk (right3_spec) ?_ | refine xret (right3_spec) ?_
  conv => whnf
  refine ⟨fun h => ?_, fun h => ?_⟩
  · conv => whnf
    first | refine xretk (get_spec hn) ?_ | refine xret (get_spec hn) ?_
    conv => whnf
    refine ⟨?_, rfl⟩
    simp only [h, Bool.true_and]
  · conv => whnf
    refine ⟨?_, rfl⟩
    simp only [h, Bool.false_and]
theorem rhas_spec {m : Mem} {v : List Int} {n k : Int} : Ret Try.prog 43 [vecV v, dotV n k] m [boolV (rightN n k && decide (k ≤ getN v n))] := by
  refine en43 rfl ?_
  conv => whnf
  first | refine xretk (rright3_spec) ?_ | refine xret (rright3_spec) ?_
  conv => whnf
  refine ⟨fun h => ?_, fun h => ?_⟩
  · conv => whnf
    first | refine xretk (rget_spec) ?_ | refine xret (rget_spec) ?_
    conv => whnf
    refine ⟨?_, rfl⟩
    simp only [h, Bool.true_and]
  · conv => whnf
    refine ⟨?_, rfl⟩
    simp only [h, Bool.false_and]
def nextR (v : List Int) (n : Int) : List CV :=
  if isN n = false then [dotV 0 0, i64 11] else if getN v n = 18446744073709551615 then [dotV 0 0, i64 13] else [dotV n (getN v n + 1), i64 0]
theorem getN_U {v : List Int} (hv : V8 v) (n : Int) : U (getN v n) := by
  unfold getN; split
  · exact hv.2 _
  · exact ⟨by decide, by decide⟩
theorem next_spec {m : Mem} {v : List Int} {n : Int} (hv : V8 v) (hn : I n) : Ret Try.prog 30 [vecV v, i64 n] m (nextR v n) := by
  have hU := getN_U hv n
  obtain ⟨hU0, hU1⟩ := hU
  refine en30 rfl ?_
  conv => whnf
  first | refine xretk (isNode_spec) ?_ | refine xret (isNode_spec) ?_
  conv => whnf
  refine ⟨fun h => ?_, fun h => ?_⟩
  · have h' : isN n = false := by simpa using h
    conv => whnf
    refine ⟨?_, rfl⟩
    rw [nextR, if_pos h']
  · have h' : isN n = true := by simpa using h
    conv => whnf
    first | refine xretk (get_spec hn) ?_ | refine xret (get_spec hn) ?_
    conv => whnf
    refine ⟨fun h2 => ?_, fun h2 => ?_⟩
    · have h2' : getN v n = 18446744073709551615 := by simpa using h2
      conv => whnf
      refine ⟨?_, rfl⟩
      rw [nextR, if_neg (by rw [h']; simp), if_pos h2']
    · have h2' : ¬ getN v n = 18446744073709551615 := by simpa using h2
      conv => whnf
      first | refine xretk (get_spec hn) ?_ | refine xret (get_spec hn) ?_
      conv => whnf
      refine ⟨?_, rfl⟩
      rw [nextR, if_neg (by rw [h']; simp), if_neg h2', wu (by omega) (by omega)]
theorem rnext_spec {m : Mem} {v : List Int} {n : Int} (hv : V8 v) (hn : I n) : Ret Try.prog 31 [vecV v, i64 n] m (nextR v n) := by
  have hU := getN_U hv n
  obtain ⟨hU0, hU1⟩ := hU
  refine en31 rfl ?_
  conv => whnf
  have big : n < 1 ∨ 8 < n → nextR v n = [dotV 0 0, i64 11] := fun hb => by rw [nextR, if_pos (isN_not.2 hb)]
  refine ⟨fun h => ?_, fun h => ?_⟩
  · have h' := of_decide_eq_true h
    conv => whnf
    refine ⟨?_, rfl⟩
    rw [big (.inl h')]
  have h' := of_decide_eq_false h
  conv => whnf
  refine ⟨fun h2 => ?_, fun h2 => ?_⟩
  · have h2' := of_decide_eq_true h2
    conv => whnf
    refine ⟨?_, rfl⟩
    rw [big (.inr h2')]
  have h2' := of_decide_eq_false h2
  have hN : isN n = true := isN_iff.2 (by omega)
  conv => whnf
  first | refine xretk (rget_spec) ?_ | refine xret (rget_spec) ?_
  conv => whnf
  refine ⟨fun h3 => ?_, fun h3 => ?_⟩
  · have h3' : IntKind.u64.wrap (getN v n + 1) = 0 := by simpa using h3
    rw [IntKind.wrap_u64] at h3'
    conv => whnf
    refine ⟨?_, rfl⟩
    rw [nextR, if_neg (by rw [hN]; simp), if_pos (by omega)]
  · have h3' : IntKind.u64.wrap (getN v n + 1) ≠ 0 := by simpa using h3
    rw [IntKind.wrap_u64] at h3'
    conv => whnf
    refine ⟨?_, rfl⟩
    rw [nextR, if_neg (by rw [hN]; simp), if_neg (by omega), wu (by omega) (by omega)]
end Go.E.Ytdhojpepdgdblaa
