/-
  The laws of tally, on: totals.
-/
import Derived.Test.YtdhojpepdgdblaaTallyL2
namespace Go.E.Ytdhojpepdgdblaa
open Go.Proofs
set_option maxRecDepth 100000

theorem u16_of {n : Int} (h : (Lit.int .u16 n).wf = true) : 0 ≤ n ∧ n < 65536 := by
  have : 0 ≤ n ∧ n ≤ 65535 := by simpa [Lit.wf, IntKind.min, IntKind.max, IntKind.signed, IntKind.bits] using h
  exact ⟨this.1, by omega⟩
theorem sumTo_mono {u v : List Int} (h : ∀ i, u.getD i 0 ≤ v.getD i 0) : ∀ i, sumTo i u ≤ sumTo i v
  | 0 => by simp [sumTo]
  | i + 1 => by
    have := sumTo_mono h i
    have := h i
    simp only [sumTo, more, M62]
    omega
theorem sumTo_le (u : List Int) : ∀ i, sumTo i u ≤ M62
  | 0 => by simp [sumTo]
  | i + 1 => by simp only [sumTo, more]; omega
theorem zip_getD {u v : List Int} (h : u.length = v.length) (i : Nat) : (List.zipWith max u v).getD i 0 = max (u.getD i 0) (v.getD i 0) := by
  by_cases hi : i < u.length
  · simp [List.getD_eq_getElem?_getD, List.getElem?_zipWith, ← h, hi]
  · simp [List.getD_eq_getElem?_getD, List.getElem?_zipWith, ← h, hi]
theorem zip_geL {u v : List Int} (h : u.length = v.length) (i : Nat) : u.getD i 0 ≤ (List.zipWith max u v).getD i 0 := by rw [zip_getD h]; omega
theorem zip_geR {u v : List Int} (h : u.length = v.length) (i : Nat) : v.getD i 0 ≤ (List.zipWith max u v).getD i 0 := by rw [zip_getD h]; omega
theorem countR_zero {node n : Int} (h0 : 0 ≤ n) (h1 : n < 65536) : ∃ a b e, countR (List.replicate 8 0) (List.replicate 8 0) node n = [cnt2 a b, i64 e] ∧ V8 a ∧ V8 b ∧ (e = 0 → sumTo 8 a = n ∧ sumTo 8 b = 0) := by
  unfold countR
  split
  · exact ⟨_, _, _, rfl, V8.of rfl rfl, V8.of rfl rfl, by simp⟩
  · rename_i hn
    have hc : node = 1 ∨ node = 2 ∨ node = 3 ∨ node = 4 ∨ node = 5 ∨ node = 6 ∨ node = 7 ∨ node = 8 := by omega
    have hu : ofUp n = n := by simp only [ofUp, if_neg (Int.not_lt.2 h0)]
    have hd : ofDown n = 0 := by simp only [ofDown, if_neg (Int.not_lt.2 h0)]
    rw [hu, hd]
    split
    · exact ⟨_, _, _, rfl, V8.of rfl rfl, V8.of rfl rfl, by simp⟩
    · refine ⟨_, _, _, rfl, ?_, ?_, fun _ => ⟨?_, ?_⟩⟩
      · refine V8.of (by simp) ?_
        rcases hc with rfl | rfl | rfl | rfl | rfl | rfl | rfl | rfl <;> simp [List.replicate] <;> omega
      · refine V8.of (by simp) ?_
        rcases hc with rfl | rfl | rfl | rfl | rfl | rfl | rfl | rfl <;> simp [List.replicate]
      · rcases hc with rfl | rfl | rfl | rfl | rfl | rfl | rfl | rfl <;> simp [List.replicate, sumTo, more, M62] <;> omega
      · rcases hc with rfl | rfl | rfl | rfl | rfl | rfl | rfl | rfl <;> rfl
theorem tallyTotal_spec {m : Mem} {u d u' d' : List Int} {node n : Int} (hu : V8 u) (hd : V8 d) (hu' : V8 u') (hd' : V8 d') (hnode : I node) (h0 : 0 ≤ n) (h1 : n < 65536) :
    Spec Try.prog 6 [cnt2 u d, cnt2 u' d', i64 node, .v (.int .u16 n)] m fun r m' => r = [boolV true] ∧ Sub m m' := by
  obtain ⟨a, b, e, hc, ha, hb, hle⟩ := countR_zero (node := node) h0 h1
  have hz := hu.zip hu'
  have hzd := hd.zip hd'
  have k1 := sumTo_mono (zip_geL (u := u) (v := u') (by rw [hu.1, hu'.1])) 8
  have k2 := sumTo_mono (zip_geR (u := u) (v := u') (by rw [hu.1, hu'.1])) 8
  have k3 := sumTo_mono (zip_geL (u := d) (v := d') (by rw [hd.1, hd'.1])) 8
  have k4 := sumTo_mono (zip_geR (u := d) (v := d') (by rw [hd.1, hd'.1])) 8
  have k5 := sumTo_le (List.zipWith max u u') 8
  have k6 := sumTo_le (List.zipWith max d d') 8
  have hw : IntKind.i64.wrap n = n := wi (by omega) (by omega)
  have hI : I (IntKind.i64.wrap n) := by rw [hw]; exact ⟨by omega, by omega⟩
  have hu0 : IntKind.u64.wrap n = n := wu (by omega) (by omega)
  have hc' : countR (List.replicate 8 0) (List.replicate 8 0) node (IntKind.i64.wrap n) = [cnt2 a b, i64 e] := by rw [hw]; exact hc
  refine en6 rfl ?_
  conv => whnf
  first | refine xretk (join_spec hu.1 hd.1 hu'.1 hd'.1) ?_ | refine xret (join_spec hu.1 hd.1 hu'.1 hd'.1) ?_
  conv => whnf
  first | refine xretk (total_spec hz hzd) ?_ | refine xret (total_spec hz hzd) ?_
  conv => whnf
  first | refine xretk (total_spec hu hd) ?_ | refine xret (total_spec hu hd) ?_
  conv => whnf
  first | refine xretk (total_spec hu' hd') ?_ | refine xret (total_spec hu' hd') ?_
  conv => whnf
  refine ⟨fun h => absurd h (by simp only [decide_eq_true_eq]; omega), fun _ => ?_⟩
  conv => whnf
  refine ⟨fun h => absurd h (by simp only [decide_eq_true_eq]; omega), fun _ => ?_⟩
  conv => whnf
  refine ⟨fun h => absurd h (by simp only [decide_eq_true_eq]; omega), fun _ => ?_⟩
  conv => whnf
  refine ⟨fun h => absurd h (by simp only [decide_eq_true_eq]; omega), fun _ => ?_⟩
  conv => whnf
  first | refine xretk (right_spec) ?_ | refine xret (right_spec) ?_
  conv => whnf
  refine ⟨fun h => absurd h (by simp [k5, k6]), fun _ => ?_⟩
  conv => whnf
  first | refine xretk (Ret.cast (count_spec (V8.of rfl rfl) (V8.of rfl rfl) hI hnode) hc') ?_ | refine xret (Ret.cast (count_spec (V8.of rfl rfl) (V8.of rfl rfl) hI hnode) hc') ?_
  conv => whnf
  refine xcall alive5_spec ?_
  rintro _ m' ⟨rfl, hs⟩
  first | refine ⟨fun _ h => (by cases h), ?_⟩ | skip
  conv => whnf
  refine ⟨fun _ => ?_, fun h => absurd h (by simp)⟩
  conv => whnf
  refine ⟨fun h => ?_, fun h => ?_⟩
  · conv => whnf
    exact ⟨rfl, hs⟩
  · have he : e = 0 := by simpa using h
    have q1 := (hle he).1
    have q2 := (hle he).2
    conv => whnf
    first | refine xretk (total_spec ha hb) ?_ | refine xret (total_spec ha hb) ?_
    conv => whnf
    refine ⟨fun _ => ?_, fun h => absurd h (by simp [eqLB, ceq, q1, q2, hu0])⟩
    conv => whnf
    first | refine xretk (total_spec ha hb) ?_ | refine xret (total_spec ha hb) ?_
    conv => whnf
    first | refine xretk (value_spec (sumTo_U ha.2 8) (sumTo_U hb.2 8)) ?_ | refine xret (value_spec (sumTo_U ha.2 8) (sumTo_U hb.2 8)) ?_
    conv => whnf
    refine ⟨?_, hs⟩
    have : max (sumTo 8 a - sumTo 8 b) 0 = n := by rw [q1, q2]; omega
    simp [this, hu0]
end Go.E.Ytdhojpepdgdblaa
