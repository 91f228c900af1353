/-
  The laws of tally.
-/
import Derived.Test.YtdhojpepdgdblaaTally
namespace Go.E.Ytdhojpepdgdblaa
open Go.Proofs
set_option maxRecDepth 100000

theorem getD_of_all {p : Int → Prop} : ∀ {l : List Int}, (∀ x ∈ l, p x) → p 0 → ∀ i, p (l.getD i 0)
  | [], _, h0, i => by simpa using h0
  | a :: l, h, h0, 0 => by simpa using h a (by simp)
  | a :: l, h, h0, i + 1 => by simpa using getD_of_all (fun x hx => h x (by simp [hx])) h0 i
theorem V8.of {l : List Int} (h : l.length = 8) (h2 : l.all (fun x => decide (0 ≤ x) && decide (x < 18446744073709551616)) = true) : V8 l := by
  refine ⟨h, getD_of_all (p := U) (fun x hx => ?_) ⟨by decide, by decide⟩⟩
  have := List.all_eq_true.1 h2 x hx
  simpa [U] using this
theorem Ret.cast {P : Program} {f : FuncId} {args : List CV} {m : Mem} {r r' : List CV} (h : Ret P f args m r) (e : r = r') : Ret P f args m r' := e ▸ h
theorem ii {n : Int} (h : decide (-9223372036854775808 ≤ n) && decide (n < 9223372036854775808) = true) : I n := by simpa [I] using h
theorem uu {n : Int} (h : (decide (0 ≤ n) && decide (n < 18446744073709551616)) = true) : U n := by simpa [U] using h
theorem alive5_spec {m : Mem} : Spec Try.prog 11 [] m fun r m' => r = [boolV true] ∧ Sub m m' := by
  refine en11 rfl ?_
  conv => whnf
  refine .mk _ (buildSlice_spec tt_ok (t := 22) (e := 3) (by rfl) rfl (by rfl) rfl rfl (by simp [CV.cs]) (by decide) (by decide)) ?_
  rintro _ _ ⟨b, hb, rfl, rfl⟩
  conv => whnf
  have hI : Ints (m.set b (.cells (fl [i64 2, i64 (-3), i64 4]).toArray 3)) (.slice (some ⟨b, 0, none⟩) 3 3) [2, -3, 4] := by
    refine .inr ⟨b, 0, 3, rfl, fun j hj => ?_⟩
    simp only [mcell, Mem.set_same]
    match j, hj with
    | 0, _ => rfl
    | 1, _ => rfl
    | 2, _ => rfl
  refine xret (sum_spec (l := [2, -3, 4]) ?_ hI (by decide)) ?_
  · intro i
    match i with
    | 0 => exact ⟨by decide, by decide⟩
    | 1 => exact ⟨by decide, by decide⟩
    | 2 => exact ⟨by decide, by decide⟩
    | i + 3 => exact ⟨by simp, by simp⟩
  conv => whnf
  have c1 : countR (List.replicate 8 0) (List.replicate 8 0) 2 5 = [cnt2 [0, 5, 0, 0, 0, 0, 0, 0] (List.replicate 8 0), i64 0] := by rfl
  have c2 : countR [0, 5, 0, 0, 0, 0, 0, 0] (List.replicate 8 0) 2 (-1) = [cnt2 [0, 5, 0, 0, 0, 0, 0, 0] [0, 1, 0, 0, 0, 0, 0, 0], i64 0] := by rfl
  have c3 : countR [0, 5, 0, 0, 0, 0, 0, 0] [0, 1, 0, 0, 0, 0, 0, 0] 9 1 = [cnt2 (List.replicate 8 0) (List.replicate 8 0), i64 11] := by rfl
  refine xret (Ret.cast (count_spec (V8.of rfl rfl) (V8.of rfl rfl) (ii rfl) (ii rfl)) c1) ?_
  conv => whnf
  refine xret (Ret.cast (count_spec (V8.of rfl rfl) (V8.of rfl rfl) (ii rfl) (ii rfl)) c2) ?_
  conv => whnf
  refine xret (Ret.cast (count_spec (V8.of rfl rfl) (V8.of rfl rfl) (ii rfl) (ii rfl)) c3) ?_
  conv => whnf
  refine ⟨fun _ => ?_, fun h => absurd h (by decide)⟩
  conv => whnf
  refine xret (value_spec (uu (by decide)) (uu (by decide))) ?_
  conv => whnf
  refine ⟨fun _ => ?_, fun h => absurd h (by decide)⟩
  conv => whnf
  refine ⟨fun _ => ?_, fun h => absurd h (by decide)⟩
  conv => whnf
  refine ⟨fun _ => ?_, fun h => absurd h (by decide)⟩
  conv => whnf
  refine ⟨fun _ => ?_, fun h => absurd h (by decide)⟩
  conv => whnf
  refine xret (total_spec (V8.of rfl rfl) (V8.of rfl rfl)) ?_
  conv => whnf
  refine ⟨fun _ => ?_, fun h => absurd h (by decide)⟩
  conv => whnf
  refine xret right_spec ?_
  conv => whnf
  refine ⟨fun _ => ?_, fun h => absurd h (by decide)⟩
  conv => whnf
  refine xret right_spec ?_
  conv => whnf
  refine ⟨?_, ?_⟩
  · rfl
  · exact Mem.sub_set _ hb
theorem V8.zip {u u' : List Int} (h : V8 u) (h' : V8 u') : V8 (List.zipWith max u u') := by
  obtain ⟨h1, h2⟩ := h
  obtain ⟨h1', h2'⟩ := h'
  refine ⟨by simp [h1, h1'], fun i => ?_⟩
  by_cases hi : i < 8
  · have e : (List.zipWith max u u').getD i 0 = max (u.getD i 0) (u'.getD i 0) := by
      simp [List.getD_eq_getElem?_getD, List.getElem?_zipWith, h1, h1', hi]
    rw [e]
    obtain ⟨_, _⟩ := h2 i
    obtain ⟨_, _⟩ := h2' i
    exact ⟨by omega, by omega⟩
  · have e : (List.zipWith max u u').getD i 0 = 0 := by
      simp [List.getD_eq_getElem?_getD, List.getElem?_zipWith, h1, h1', hi]
    rw [e]; exact ⟨by decide, by decide⟩
theorem countR_is {u d : List Int} (hu : V8 u) (hd : V8 d) (node n : Int) : ∃ a b e, countR u d node n = [cnt2 a b, i64 e] := by
  unfold countR
  split
  · exact ⟨_, _, _, rfl⟩
  · split
    · exact ⟨_, _, _, rfl⟩
    · exact ⟨_, _, _, rfl⟩
theorem eqLB_refl_cnt (u d : List Int) : eqLB [.ints .u64 8 u, .ints .u64 8 d] [.ints .u64 8 u, .ints .u64 8 d] = true := by simp [eqLB]
theorem tallyCounts_spec {m : Mem} {u d u' d' : List Int} {node n : Int} (hu : V8 u) (hd : V8 d) (hu' : V8 u') (hd' : V8 d') (hnode : I node) (hn : I n) :
    Spec Try.prog 4 [cnt2 u d, cnt2 u' d', i64 node, i64 n] m fun r m' => r = [boolV true] ∧ Sub m m' := by
  obtain ⟨a, b, e, hc⟩ := countR_is hu hd node n
  refine en4 rfl ?_
  conv => whnf
  refine xret (Ret.cast (count_spec hu hd hn hnode) hc) ?_
  conv => whnf
  refine xret lof_spec ?_
  conv => whnf
  refine xret (Ret.cast (rcount_spec hu hd hn hnode) hc) ?_
  conv => whnf
  refine xcall alive5_spec ?_
  rintro _ m' ⟨rfl, hs⟩
  first | refine ⟨fun _ h => (by cases h), ?_⟩ | skip
  conv => whnf
  refine ⟨fun _ => ?_, fun h => absurd h (by decide)⟩
  conv => whnf
  first | refine xretk (lof_spec) ?_ | refine xret (lof_spec) ?_
  conv => whnf
  refine ⟨fun _ => ?_, fun h => absurd h (by simp [eqLB, ceq])⟩
  conv => whnf
  refine ⟨fun _ => ?_, fun h => absurd h (by simp [eqLB, ceq])⟩
  conv => whnf
  first | refine xretk (join_spec hu.1 hd.1 hu'.1 hd'.1) ?_ | refine xret (join_spec hu.1 hd.1 hu'.1 hd'.1) ?_
  conv => whnf
  first | refine xretk (lof_spec) ?_ | refine xret (lof_spec) ?_
  conv => whnf
  first | refine xretk (lof_spec) ?_ | refine xret (lof_spec) ?_
  conv => whnf
  first | refine xretk (lof_spec) ?_ | refine xret (lof_spec) ?_
  conv => whnf
  first | refine xretk (rjoin_spec hu.1 hd.1 hu'.1 hd'.1) ?_ | refine xret (rjoin_spec hu.1 hd.1 hu'.1 hd'.1) ?_
  conv => whnf
  refine ⟨fun _ => ?_, fun h => absurd h (by simp [eqLB, ceq])⟩
  conv => whnf
  first | refine xretk (total_spec hu hd) ?_ | refine xret (total_spec hu hd) ?_
  conv => whnf
  first | refine xretk (as_spec) ?_ | refine xret (as_spec) ?_
  conv => whnf
  first | refine xretk (lof_spec) ?_ | refine xret (lof_spec) ?_
  conv => whnf
  first | refine xretk (rtotal_spec hu hd) ?_ | refine xret (rtotal_spec hu hd) ?_
  conv => whnf
  refine ⟨?_, hs⟩
  simp [eqLB, ceq]
end Go.E.Ytdhojpepdgdblaa
