/-
  The laws of vec, on.
-/
import Derived.Test.YtdhojpepdgdblaaVecL3
namespace Go.E.Ytdhojpepdgdblaa
open Go.Proofs
set_option maxRecDepth 100000

theorem nextR_is (v : List Int) (n : Int) : ∃ a b e, nextR v n = [dotV a b, i64 e] := by
  unfold nextR
  split
  · exact ⟨_, _, _, rfl⟩
  · split
    · exact ⟨_, _, _, rfl⟩
    · exact ⟨_, _, _, rfl⟩
set_option maxHeartbeats 4000000 in
theorem vecTells_spec {m : Mem} {u v : List Int} {a k b j n : Int} (hu : V8 u) (hv : V8 v) (ha : I a) (hk : U k) (hb : I b) (hj : U j) (hn : I n) :
    Spec Try.prog 9 [vecV u, vecV v, dotV a k, dotV b j, i64 n] m fun r m' => r = [boolV true] ∧ Sub m m' := by
  obtain ⟨x, y, e, hx⟩ := nextR_is u n
  refine en9 rfl ?_
  conv => whnf
  first | refine xretk (as3_spec) ?_ | refine xret (as3_spec) ?_
  conv => whnf
  first | refine xretk (as3_spec) ?_ | refine xret (as3_spec) ?_
  conv => whnf
  first | refine xretk (Ret.cast (next_spec hu hn) hx) ?_ | refine xret (Ret.cast (next_spec hu hn) hx) ?_
  conv => whnf
  first | refine xretk (Ret.cast (rnext_spec hu hn) hx) ?_ | refine xret (Ret.cast (rnext_spec hu hn) hx) ?_
  conv => whnf
  first | refine xretk (right3_spec) ?_ | refine xret (right3_spec) ?_
  conv => whnf
  first | refine xretk (rright3_spec) ?_ | refine xret (rright3_spec) ?_
  conv => whnf
  refine ⟨fun h => absurd h (by simp), fun _ => ?_⟩
  conv => whnf
  refine xcall less_spec ?_
  rintro _ m1 ⟨rfl, hs1⟩
  first | refine ⟨fun _ h => (by cases h), ?_⟩ | skip
  conv => whnf
  first | refine xretk (rless_spec) ?_ | refine xret (rless_spec) ?_
  conv => whnf
  refine ⟨fun h => absurd h (by simp), fun _ => ?_⟩
  conv => whnf
  first | refine xretk (get_spec hn) ?_ | refine xret (get_spec hn) ?_
  conv => whnf
  first | refine xretk (rget_spec) ?_ | refine xret (rget_spec) ?_
  conv => whnf
  refine ⟨fun h => absurd h (by simp), fun _ => ?_⟩
  conv => whnf
  first | refine xretk (with_spec hb) ?_ | refine xret (with_spec hb) ?_
  conv => whnf
  first | refine xretk (rwith_spec hu hj) ?_ | refine xret (rwith_spec hu hj) ?_
  conv => whnf
  refine ⟨fun h => absurd h (by simp [eqLB]), fun _ => ?_⟩
  conv => whnf
  first | refine xretk (as3_spec) ?_ | refine xret (as3_spec) ?_
  conv => whnf
  refine ⟨fun h => absurd h (by simp [eqLB, ceq]), fun _ => ?_⟩
  conv => whnf
  refine ⟨fun h => absurd h (by simp), fun _ => ?_⟩
  conv => whnf
  refine xcall alive3_spec ?_
  rintro _ m2 ⟨rfl, hs2⟩
  first | refine ⟨fun _ h => (by cases h), ?_⟩ | skip
  conv => whnf
  refine ⟨fun _ => ?_, fun h => absurd h (by decide)⟩
  conv => whnf
  refine .mk _ (buildVecs_spec hu hv) ?_
  rintro _ _ ⟨bb, hbb, rfl, rfl⟩
  first | refine ⟨fun _ h => (by cases h), ?_⟩ | skip
  conv => whnf
  first | refine xretk (Ret.cast (joins_spec (vecs2 hu hv) (by simp)) (congrArg (fun x => [vecV x]) (join2 hu))) ?_ | refine xret (Ret.cast (joins_spec (vecs2 hu hv) (by simp)) (congrArg (fun x => [vecV x]) (join2 hu))) ?_
  conv => whnf
  first | refine xretk (rjoin3_spec hu.1 hv.1) ?_ | refine xret (rjoin3_spec hu.1 hv.1) ?_
  conv => whnf
  refine ⟨fun _ => ?_, fun h => absurd h (by simp [eqLB])⟩
  conv => whnf
  first | refine xretk (meet_spec hu.1 hv.1) ?_ | refine xret (meet_spec hu.1 hv.1) ?_
  conv => whnf
  first | refine xretk (rmeet_spec hu.1 hv.1) ?_ | refine xret (rmeet_spec hu.1 hv.1) ?_
  conv => whnf
  refine ⟨fun _ => ?_, fun h => absurd h (by simp [eqLB])⟩
  conv => whnf
  first | refine xretk (covers_spec hu.1 hv.1) ?_ | refine xret (covers_spec hu.1 hv.1) ?_
  conv => whnf
  first | refine xretk (rcovers_spec hu.1 hv.1) ?_ | refine xret (rcovers_spec hu.1 hv.1) ?_
  conv => whnf
  refine ⟨fun _ => ?_, fun h => absurd h (by simp)⟩
  conv => whnf
  first | refine xretk (has_spec hb) ?_ | refine xret (has_spec hb) ?_
  conv => whnf
  first | refine xretk (rhas_spec) ?_ | refine xret (rhas_spec) ?_
  conv => whnf
  refine ⟨fun _ => ?_, fun h => absurd h (by simp)⟩
  conv => whnf
  first | refine xretk (order_spec hu.1 hv.1) ?_ | refine xret (order_spec hu.1 hv.1) ?_
  conv => whnf
  first | refine xretk (rorder_spec hu.1 hv.1) ?_ | refine xret (rorder_spec hu.1 hv.1) ?_
  conv => whnf
  refine ⟨?_, ?_⟩
  · simp
  · exact (Sub.trans (a := m) hs1 hs2).trans (Mem.sub_set _ hbb)
theorem vecJoins_spec {m : Mem} {v : Value} {ls : List (List Int)} (hv : Vecs m v ls) (hn : ls.length < 9223372036854775808) :
    Spec Try.prog 7 [.v v] m fun r m' => r = [boolV true] ∧ Sub m m' := by
  have hv0 := hv
  obtain ⟨hl, hlen, h8⟩ := hv
  have h9 : Vecs m (.slice none 0 0) [] := ⟨.inl ⟨0, rfl, rfl⟩, rfl, by simp⟩
  rcases hl with ⟨c, rfl, hnil⟩ | ⟨b, o, c, n, arr, t, fr, rfl, g1, g2, _, g3, g4⟩
  · have h0 : ls = [] := List.length_eq_zero_iff.1 hlen.symm
    subst h0
    refine en7 rfl ?_
    conv => whnf
    refine ⟨fun h => absurd h (by decide), fun _ => ?_⟩
    conv => whnf
    refine .mk (ι := Unit) (fun i => 0) (fun i => True) (fun i => [(0, .c (.v (.slice none 0 c))), (3, .p 0 0), (4, .c (i64 0))])
      (fun i => [(33, [.ints .u64 8 (List.replicate 8 0)])]) (fun _ => m) () trivial ?_ ?_
    · conv => whnf
      repeat (refine And.intro (by first | with_reducible rfl | exact wi (by omega) (by omega) | rfl) ?_; conv => whnf)
      exact fun _ _ h => h
    intro i hi
    conv => whnf
    refine ⟨fun h => absurd h (by decide), fun _ => ?_⟩
    conv => whnf
    refine xcall alive3_spec ?_
    rintro _ m2 ⟨rfl, hs2⟩
    first | refine ⟨fun _ h => (by cases h), ?_⟩ | skip
    conv => whnf
    refine ⟨fun _ => ?_, fun h => absurd h (by decide)⟩
    conv => whnf
    first | refine xretk (joins_spec (ls := []) ⟨.inl ⟨c, rfl, rfl⟩, rfl, by simp⟩ (by decide)) ?_ | refine xret (joins_spec (ls := []) ⟨.inl ⟨c, rfl, rfl⟩, rfl, by simp⟩ (by decide)) ?_
    conv => whnf
    refine ⟨fun _ => ?_, fun h => absurd h (by simp [eqLB])⟩
    conv => whnf
    first | refine xretk (joins_spec (ls := []) ⟨.inl ⟨0, rfl, rfl⟩, rfl, by simp⟩ (by decide)) ?_ | refine xret (joins_spec (ls := []) ⟨.inl ⟨0, rfl, rfl⟩, rfl, by simp⟩ (by decide)) ?_
    conv => whnf
    exact ⟨rfl, hs2⟩
  · have hn' : n = ls.length := hlen
    subst hn'
    refine en7 rfl ?_
    conv => whnf
    refine ⟨fun h => ?_, fun h => ?_⟩
    · conv => whnf
      refine xcall alive3_spec ?_
      rintro _ m2 ⟨rfl, hs2⟩
      conv => whnf
      exact ⟨rfl, hs2⟩
    conv => whnf
    refine .mk (ι := Nat) (fun i => ls.length - i) (fun i => i ≤ ls.length) (fun i => [(0, .c (.v (.slice (some ⟨b, o, none⟩) ls.length c))), (3, .p 0 0), (4, .c (i64 i))])
      (fun i => [(33, [.ints .u64 8 (joinTo i ls)])]) (fun _ => m) 0 (by omega) ?_ ?_
    · conv => whnf
      repeat (refine And.intro (by first | with_reducible rfl | exact wi (by omega) (by omega) | rfl) ?_; conv => whnf)
      exact fun _ _ h => h
    intro i hi
    conv => whnf
    refine ⟨fun h => ?_, fun h => ?_⟩
    · have h' := of_decide_eq_true h
      have hi' : i < ls.length := by omega
      have ha : ls[i]? = some ls[i] := by simp [hi']
      have h8a := h8 _ (List.getElem_mem hi')
      have h8j := joinTo_v8 h8 i
      have hs := joinTo_succ ha
      have ha1 := h8a.1
      generalize ls[i] = a at ha h8a hs ha1
      conv => whnf
      repeat (refine And.intro (by first | omega | (simp only [times]; omega)) ?_; conv => whnf)
      refine ⟨[.ints .u64 8 a], ⟨ha1, trivial⟩, rfl, ?_, ?_⟩
      · refine ⟨arr, t, fr, g1, fun j u hu => ?_⟩
        have := flat_at (size := 8) (ls.map vcells) (by simpa using fun x hx => (h8 x hx).1) i (vcells a) (by simp [ha]) j u (by simpa [LB.cells, Seg.cells] using hu)
        have := g3 _ _ this
        simp only [times]
        rw [show o + (Int.toNat (i : Int)) * 8 + j = o + (i * 8 + j) by simp; omega]
        exact this
      conv => whnf
      first | refine xretk (rjoin3_spec h8j.1 ha1) ?_ | refine xret (rjoin3_spec h8j.1 ha1) ?_
      conv => whnf
      refine ⟨i + 1, by omega, by omega, ?_⟩
      conv => whnf
      repeat (refine And.intro (by first | with_reducible rfl | (exact hs.symm) | exact wi (by omega) (by omega) | rfl) ?_; conv => whnf)
      exact fun _ _ h => h
    · have h' := of_decide_eq_false h
      have hi' : i = ls.length := by omega
      have e : joinTo i ls = ls.foldl (List.zipWith max) (List.replicate 8 0) := by rw [hi']; exact joinTo_all
      conv => whnf
      refine xcall alive3_spec ?_
      rintro _ m2 ⟨rfl, hs2⟩
      first | refine ⟨fun _ h => (by cases h), ?_⟩ | skip
      conv => whnf
      refine ⟨fun _ => ?_, fun h => absurd h (by decide)⟩
      conv => whnf
      first | refine xretk (joins_spec ⟨(hv0.1).sub hs2, hv0.2⟩ hn) ?_ | refine xret (joins_spec ⟨(hv0.1).sub hs2, hv0.2⟩ hn) ?_
      conv => whnf
      refine ⟨fun _ => ?_, fun h => absurd h (by simp [eqLB, e])⟩
      conv => whnf
      first | refine xretk (joins_spec (ls := []) ⟨.inl ⟨0, rfl, rfl⟩, rfl, by simp⟩ (by decide)) ?_ | refine xret (joins_spec (ls := []) ⟨.inl ⟨0, rfl, rfl⟩, rfl, by simp⟩ (by decide)) ?_
      conv => whnf
      exact ⟨rfl, hs2⟩
end Go.E.Ytdhojpepdgdblaa
