/-
  The laws of vec, on: a lattice.
-/
import Derived.Test.YtdhojpepdgdblaaVecL3
import Derived.Test.YtdhojpepdgdblaaE19
namespace Go.E.Ytdhojpepdgdblaa
open Go.Proofs
set_option maxRecDepth 100000
theorem zmin_getD {u v : List Int} (h : u.length = v.length) (i : Nat) : (List.zipWith min u v).getD i 0 = min (u.getD i 0) (v.getD i 0) := by
  by_cases hi : i < u.length
  · simp [List.getD_eq_getElem?_getD, List.getElem?_zipWith, ← h, hi]
  · simp [List.getD_eq_getElem?_getD, List.getElem?_zipWith, ← h, hi]
theorem ext8 {u v : List Int} (hu : u.length = 8) (hv : v.length = 8) (h : ∀ i, i < 8 → u.getD i 0 = v.getD i 0) : u = v := by
  apply List.ext_getElem (by omega)
  intro i h1 h2
  have := h i (by omega)
  simpa [List.getD_eq_getElem?_getD, List.getElem?_eq_getElem h1, List.getElem?_eq_getElem h2] using this
theorem zlen {f : Int → Int → Int} {u v : List Int} (hu : u.length = 8) (hv : v.length = 8) : (List.zipWith f u v).length = 8 := by simp [hu, hv]
theorem zmax_v8 {u v : List Int} (hu : V8 u) (hv : V8 v) : V8 (List.zipWith max u v) :=
  ⟨zlen hu.1 hv.1, fun i => by
    have h1 := hu.2 i; have h2 := hv.2 i
    rw [zip_getD (by rw [hu.1, hv.1])]
    unfold U at *; omega⟩
theorem zmin_v8 {u v : List Int} (hu : V8 u) (hv : V8 v) : V8 (List.zipWith min u v) :=
  ⟨zlen hu.1 hv.1, fun i => by
    have h1 := hu.2 i; have h2 := hv.2 i
    rw [zmin_getD (by rw [hu.1, hv.1])]
    unfold U at *; omega⟩
set_option maxHeartbeats 4000000 in
theorem vecLattice_spec {m : Mem} {a b c : List Int} (ha : V8 a) (hb : V8 b) (hc : V8 c) : Spec Try.prog 8 [vecV a, vecV b, vecV c] m fun r m' => r = [boolV true] ∧ Sub m m' := by
  have la := ha.1
  have lb := hb.1
  have lc := hc.1
  have hj := zmax_v8 ha hb
  have hm := zmin_v8 ha hb
  have lj := hj.1
  have lm := hm.1
  have ej : ∀ i, (List.zipWith max a b).getD i 0 = max (a.getD i 0) (b.getD i 0) := fun i => zip_getD (by omega) i
  have em : ∀ i, (List.zipWith min a b).getD i 0 = min (a.getD i 0) (b.getD i 0) := fun i => zmin_getD (by omega) i
  have cja : covN (List.zipWith max a b) a = true := (covN_iff lj la).2 fun i _ => by rw [ej]; omega
  have cjb : covN (List.zipWith max a b) b = true := (covN_iff lj lb).2 fun i _ => by rw [ej]; omega
  have cam : covN a (List.zipWith min a b) = true := (covN_iff la lm).2 fun i _ => by rw [em]; omega
  have cbm : covN b (List.zipWith min a b) = true := (covN_iff lb lm).2 fun i _ => by rw [em]; omega
  have jc : List.zipWith max b a = List.zipWith max a b := ext8 (zlen lb la) lj fun i _ => by rw [ej, zip_getD (by omega)]; omega
  have mc : List.zipWith min b a = List.zipWith min a b := ext8 (zlen lb la) lm fun i _ => by rw [em, zmin_getD (by omega)]; omega
  have k1 : covN c a = true → covN c b = true → covN c (List.zipWith max a b) = true := fun h1 h2 => (covN_iff lc lj).2 fun i hi => by
    have := (covN_iff lc la).1 h1 i hi; have := (covN_iff lc lb).1 h2 i hi; rw [ej]; omega
  have k2 : covN a c = true → covN b c = true → covN (List.zipWith min a b) c = true := fun h1 h2 => (covN_iff lm lc).2 fun i hi => by
    have := (covN_iff la lc).1 h1 i hi; have := (covN_iff lb lc).1 h2 i hi; rw [em]; omega
  have assoc : List.zipWith max (List.zipWith max a b) c = List.zipWith max a (List.zipWith max b c) := ext8 (zlen lj lc) (zlen la (zlen lb lc)) fun i _ => by
    rw [zip_getD (by omega), ej, zip_getD (by rw [zlen lb lc]; omega), zip_getD (by omega)]; omega
  have ab1 : List.zipWith max a (List.zipWith min a b) = a := ext8 (zlen la lm) la fun i _ => by rw [zip_getD (by omega), em]; omega
  have ab2 : List.zipWith min a (List.zipWith max a b) = a := ext8 (zlen la lj) la fun i _ => by rw [zmin_getD (by omega), ej]; omega
  have hbc := zmax_v8 hb hc
  generalize hJ : List.zipWith max a b = j at *
  generalize hM : List.zipWith min a b = w at *
  generalize hB : List.zipWith max b c = bc at *
  have tail : ∀ m1, Sub m m1 → xwpY c8 (restAt 6 (bodyOf Try.f8)) (QRetY tt.get Try.f8.results.toList fun r m' => r = [boolV true] ∧ Sub m m')
      [(3, .p 0 0), (4, .p 1 0), (5, .p 2 0), (7, .p 3 0), (8, .p 4 0)] [(33, [.ints .u64 8 a]), (33, [.ints .u64 8 b]), (33, [.ints .u64 8 c]), (33, [.ints .u64 8 j]), (33, [.ints .u64 8 w])] m1 [] := by
    intro m1 hs1
    conv => whnf
    refine .at ?_
    conv => whnf
    refine xcall (alive3_spec) ?_
    rintro _ m2 ⟨rfl, hs2⟩
    conv => whnf
    first | refine ⟨fun _ h => (by cases h), ?_⟩ | skip
    conv => whnf
    have hs2 := hs1.trans hs2
    refine ⟨fun _ => ?_, fun h => absurd h (by decide)⟩
    conv => whnf
    have vs : ∀ {m : Mem} {v : Value} {ls : List (List Int)} {b : Nat} {o : Obj}, Vecs m v ls → m b = none → Vecs (m.set b o) v ls := fun h hb => ⟨h.1.sub (Mem.sub_set _ hb), h.2⟩
    refine ⟨?_, ?_⟩
    · conv => whnf
      refine .mk _ (buildVecs_spec hj hc) ?_
      rintro _ _ ⟨b1, hb1, rfl, rfl⟩
      conv => whnf
      first | refine ⟨fun _ h => (by cases h), ?_⟩ | skip
      conv => whnf
      refine ⟨?_, ?_⟩
      · conv => whnf
        first | refine xretk (joins_spec (vecs2 hj hc) (by simp)) ?_ | refine xret (joins_spec (vecs2 hj hc) (by simp)) ?_
        conv => whnf
        refine .mk _ (buildVecs_spec hb hc) ?_
        rintro _ _ ⟨b2, hb2, rfl, rfl⟩
        conv => whnf
        first | refine ⟨fun _ h => (by cases h), ?_⟩ | skip
        conv => whnf
        first | refine xretk (joins_spec (vecs2 hb hc) (by simp)) ?_ | refine xret (joins_spec (vecs2 hb hc) (by simp)) ?_
        conv => whnf
        rw [join2 hj, join2 hb, hB]
        refine .mk _ (buildVecs_spec ha hbc) ?_
        rintro _ _ ⟨b3, hb3, rfl, rfl⟩
        conv => whnf
        first | refine ⟨fun _ h => (by cases h), ?_⟩ | skip
        conv => whnf
        first | refine xretk (joins_spec (vecs2 ha hbc) (by simp)) ?_ | refine xret (joins_spec (vecs2 ha hbc) (by simp)) ?_
        conv => whnf
        rw [join2 ha]
        refine ⟨fun _ => ?_, fun h => absurd h (by simp [eqLB, assoc])⟩
        conv => whnf
        refine .mk _ (buildVecs_spec ha hm) ?_
        rintro _ _ ⟨b4, hb4, rfl, rfl⟩
        conv => whnf
        first | refine ⟨fun _ h => (by cases h), ?_⟩ | skip
        conv => whnf
        first | refine xretk (joins_spec (vecs2 ha hm) (by simp)) ?_ | refine xret (joins_spec (vecs2 ha hm) (by simp)) ?_
        conv => whnf
        rw [join2 ha]
        refine ⟨fun _ => ?_, fun h => absurd h (by simp [eqLB, ab1])⟩
        conv => whnf
        first | refine xretk (meet_spec la lj) ?_ | refine xret (meet_spec la lj) ?_
        conv => whnf
        refine ⟨by simp [eqLB, ab2], ?_⟩
        exact hs2.trans ((Mem.sub_set _ hb1).trans ((Mem.sub_set _ hb2).trans ((Mem.sub_set _ hb3).trans (Mem.sub_set _ hb4))))
      · conv => whnf
        refine .mk _ (buildVecs_spec hb hc) ?_
        rintro _ _ ⟨b2, hb2, rfl, rfl⟩
        conv => whnf
        first | refine ⟨fun _ h => (by cases h), ?_⟩ | skip
        conv => whnf
        first | refine xretk (joins_spec (vs (vecs2 hj hc) hb2) (by simp)) ?_ | refine xret (joins_spec (vs (vecs2 hj hc) hb2) (by simp)) ?_
        conv => whnf
        first | refine xretk (joins_spec (vecs2 hb hc) (by simp)) ?_ | refine xret (joins_spec (vecs2 hb hc) (by simp)) ?_
        conv => whnf
        rw [join2 hj, join2 hb, hB]
        refine .mk _ (buildVecs_spec ha hbc) ?_
        rintro _ _ ⟨b3, hb3, rfl, rfl⟩
        conv => whnf
        first | refine ⟨fun _ h => (by cases h), ?_⟩ | skip
        conv => whnf
        first | refine xretk (joins_spec (vecs2 ha hbc) (by simp)) ?_ | refine xret (joins_spec (vecs2 ha hbc) (by simp)) ?_
        conv => whnf
        rw [join2 ha]
        refine ⟨fun _ => ?_, fun h => absurd h (by simp [eqLB, assoc])⟩
        conv => whnf
        refine .mk _ (buildVecs_spec ha hm) ?_
        rintro _ _ ⟨b4, hb4, rfl, rfl⟩
        conv => whnf
        first | refine ⟨fun _ h => (by cases h), ?_⟩ | skip
        conv => whnf
        first | refine xretk (joins_spec (vecs2 ha hm) (by simp)) ?_ | refine xret (joins_spec (vecs2 ha hm) (by simp)) ?_
        conv => whnf
        rw [join2 ha]
        refine ⟨fun _ => ?_, fun h => absurd h (by simp [eqLB, ab1])⟩
        conv => whnf
        first | refine xretk (meet_spec la lj) ?_ | refine xret (meet_spec la lj) ?_
        conv => whnf
        refine ⟨by simp [eqLB, ab2], ?_⟩
        exact hs2.trans ((Mem.sub_set _ hb1).trans ((Mem.sub_set _ hb2).trans ((Mem.sub_set _ hb3).trans (Mem.sub_set _ hb4))))
    · conv => whnf
      refine .mk _ (buildVecs_spec hb hc) ?_
      rintro _ _ ⟨b1, hb1, rfl, rfl⟩
      conv => whnf
      first | refine ⟨fun _ h => (by cases h), ?_⟩ | skip
      conv => whnf
      refine .mk _ (buildVecs_spec hj hc) ?_
      rintro _ _ ⟨b2, hb2, rfl, rfl⟩
      conv => whnf
      first | refine ⟨fun _ h => (by cases h), ?_⟩ | skip
      conv => whnf
      first | refine xretk (joins_spec (vecs2 hj hc) (by simp)) ?_ | refine xret (joins_spec (vecs2 hj hc) (by simp)) ?_
      conv => whnf
      first | refine xretk (joins_spec (vs (vecs2 hb hc) hb2) (by simp)) ?_ | refine xret (joins_spec (vs (vecs2 hb hc) hb2) (by simp)) ?_
      conv => whnf
      rw [join2 hj, join2 hb, hB]
      refine .mk _ (buildVecs_spec ha hbc) ?_
      rintro _ _ ⟨b3, hb3, rfl, rfl⟩
      conv => whnf
      first | refine ⟨fun _ h => (by cases h), ?_⟩ | skip
      conv => whnf
      first | refine xretk (joins_spec (vecs2 ha hbc) (by simp)) ?_ | refine xret (joins_spec (vecs2 ha hbc) (by simp)) ?_
      conv => whnf
      rw [join2 ha]
      refine ⟨fun _ => ?_, fun h => absurd h (by simp [eqLB, assoc])⟩
      conv => whnf
      refine .mk _ (buildVecs_spec ha hm) ?_
      rintro _ _ ⟨b4, hb4, rfl, rfl⟩
      conv => whnf
      first | refine ⟨fun _ h => (by cases h), ?_⟩ | skip
      conv => whnf
      first | refine xretk (joins_spec (vecs2 ha hm) (by simp)) ?_ | refine xret (joins_spec (vecs2 ha hm) (by simp)) ?_
      conv => whnf
      rw [join2 ha]
      refine ⟨fun _ => ?_, fun h => absurd h (by simp [eqLB, ab1])⟩
      conv => whnf
      first | refine xretk (meet_spec la lj) ?_ | refine xret (meet_spec la lj) ?_
      conv => whnf
      refine ⟨by simp [eqLB, ab2], ?_⟩
      exact hs2.trans ((Mem.sub_set _ hb1).trans ((Mem.sub_set _ hb2).trans ((Mem.sub_set _ hb3).trans (Mem.sub_set _ hb4))))
  refine en8 rfl (goY ?_)
  conv => whnf
  refine .mk _ (buildVecs_spec ha hb) ?_
  rintro _ _ ⟨b1, hb1, rfl, rfl⟩
  conv => whnf
  first | refine ⟨fun _ h => (by cases h), ?_⟩ | skip
  conv => whnf
  first | refine xretk (joins_spec (vecs2 ha hb) (by simp)) ?_ | refine xret (joins_spec (vecs2 ha hb) (by simp)) ?_
  conv => whnf
  rw [join2 ha, hJ]
  first | refine xretk (meet_spec la lb) ?_ | refine xret (meet_spec la lb) ?_
  conv => whnf
  rw [hM]
  first | refine xretk (covers_spec lj la) ?_ | refine xret (covers_spec lj la) ?_
  conv => whnf
  refine ⟨fun h => absurd h (by simp [cja]), fun _ => ?_⟩
  conv => whnf
  first | refine xretk (covers_spec lj lb) ?_ | refine xret (covers_spec lj lb) ?_
  conv => whnf
  refine ⟨fun h => absurd h (by simp [cjb]), fun _ => ?_⟩
  conv => whnf
  first | refine xretk (covers_spec la lm) ?_ | refine xret (covers_spec la lm) ?_
  conv => whnf
  refine ⟨fun h => absurd h (by simp [cam]), fun _ => ?_⟩
  conv => whnf
  first | refine xretk (covers_spec lb lm) ?_ | refine xret (covers_spec lb lm) ?_
  conv => whnf
  refine ⟨fun h => absurd h (by simp [cbm]), fun _ => ?_⟩
  conv => whnf
  refine .mk _ (buildVecs_spec hb ha) ?_
  rintro _ _ ⟨b2, hb2, rfl, rfl⟩
  conv => whnf
  first | refine ⟨fun _ h => (by cases h), ?_⟩ | skip
  conv => whnf
  first | refine xretk (joins_spec (vecs2 hb ha) (by simp)) ?_ | refine xret (joins_spec (vecs2 hb ha) (by simp)) ?_
  conv => whnf
  rw [join2 hb, jc]
  refine ⟨fun h => absurd h (by simp [eqLB]), fun _ => ?_⟩
  conv => whnf
  first | refine xretk (meet_spec lb la) ?_ | refine xret (meet_spec lb la) ?_
  conv => whnf
  rw [mc]
  refine ⟨fun h => absurd h (by simp [eqLB]), fun _ => ?_⟩
  conv => whnf
  have hs9 : Sub m ((m.set b1 (.cells (fl [vecV a, vecV b]).toArray 33)).set b2 (.cells (fl [vecV b, vecV a]).toArray 33)) := (Mem.sub_set _ hb1).trans (Mem.sub_set _ hb2)
  generalize (m.set b1 (.cells (fl [vecV a, vecV b]).toArray 33)).set b2 (.cells (fl [vecV b, vecV a]).toArray 33) = m9 at hs9 ⊢
  have t := tail m9 hs9
  conv at t => whnf
  first | refine xretk (covers_spec lc la) ?_ | refine xret (covers_spec lc la) ?_
  conv => whnf
  refine ⟨fun h1 => ?_, fun h1 => ?_⟩
  · conv => whnf
    first | refine xretk (covers_spec lc lb) ?_ | refine xret (covers_spec lc lb) ?_
    conv => whnf
    refine ⟨fun h2 => ?_, fun h2 => ?_⟩
    · conv => whnf
      first | refine xretk (covers_spec lc lj) ?_ | refine xret (covers_spec lc lj) ?_
      conv => whnf
      refine ⟨fun h => absurd h (by simp [k1 h1 h2]), fun _ => ?_⟩
      conv => whnf
      first | refine xretk (covers_spec la lc) ?_ | refine xret (covers_spec la lc) ?_
      conv => whnf
      refine ⟨fun h3 => ?_, fun h3 => ?_⟩
      · conv => whnf
        first | refine xretk (covers_spec lb lc) ?_ | refine xret (covers_spec lb lc) ?_
        conv => whnf
        refine ⟨fun h4 => ?_, fun h4 => ?_⟩
        · conv => whnf
          first | refine xretk (covers_spec lm lc) ?_ | refine xret (covers_spec lm lc) ?_
          conv => whnf
          refine ⟨fun h => absurd h (by simp [k2 h3 h4]), fun _ => ?_⟩
          conv => whnf
          refine .via _ _ ?_ t
          conv => whnf
          repeat (refine And.intro (by first | with_reducible rfl | exact congrArg (Value.int _) (wi (by omega) (by omega)) | exact wi (by omega) (by omega) | rfl) ?_; conv => whnf)
          first | exact trivial | exact fun _ _ h => h
        · conv => whnf
          refine .via _ _ ?_ t
          conv => whnf
          repeat (refine And.intro (by first | with_reducible rfl | exact congrArg (Value.int _) (wi (by omega) (by omega)) | exact wi (by omega) (by omega) | rfl) ?_; conv => whnf)
          first | exact trivial | exact fun _ _ h => h
      · conv => whnf
        refine .via _ _ ?_ t
        conv => whnf
        repeat (refine And.intro (by first | with_reducible rfl | exact congrArg (Value.int _) (wi (by omega) (by omega)) | exact wi (by omega) (by omega) | rfl) ?_; conv => whnf)
        first | exact trivial | exact fun _ _ h => h
    · conv => whnf
      first | refine xretk (covers_spec la lc) ?_ | refine xret (covers_spec la lc) ?_
      conv => whnf
      refine ⟨fun h3 => ?_, fun h3 => ?_⟩
      · conv => whnf
        first | refine xretk (covers_spec lb lc) ?_ | refine xret (covers_spec lb lc) ?_
        conv => whnf
        refine ⟨fun h4 => ?_, fun h4 => ?_⟩
        · conv => whnf
          first | refine xretk (covers_spec lm lc) ?_ | refine xret (covers_spec lm lc) ?_
          conv => whnf
          refine ⟨fun h => absurd h (by simp [k2 h3 h4]), fun _ => ?_⟩
          conv => whnf
          refine .via _ _ ?_ t
          conv => whnf
          repeat (refine And.intro (by first | with_reducible rfl | exact congrArg (Value.int _) (wi (by omega) (by omega)) | exact wi (by omega) (by omega) | rfl) ?_; conv => whnf)
          first | exact trivial | exact fun _ _ h => h
        · conv => whnf
          refine .via _ _ ?_ t
          conv => whnf
          repeat (refine And.intro (by first | with_reducible rfl | exact congrArg (Value.int _) (wi (by omega) (by omega)) | exact wi (by omega) (by omega) | rfl) ?_; conv => whnf)
          first | exact trivial | exact fun _ _ h => h
      · conv => whnf
        refine .via _ _ ?_ t
        conv => whnf
        repeat (refine And.intro (by first | with_reducible rfl | exact congrArg (Value.int _) (wi (by omega) (by omega)) | exact wi (by omega) (by omega) | rfl) ?_; conv => whnf)
        first | exact trivial | exact fun _ _ h => h
  · conv => whnf
    first | refine xretk (covers_spec la lc) ?_ | refine xret (covers_spec la lc) ?_
    conv => whnf
    refine ⟨fun h3 => ?_, fun h3 => ?_⟩
    · conv => whnf
      first | refine xretk (covers_spec lb lc) ?_ | refine xret (covers_spec lb lc) ?_
      conv => whnf
      refine ⟨fun h4 => ?_, fun h4 => ?_⟩
      · conv => whnf
        first | refine xretk (covers_spec lm lc) ?_ | refine xret (covers_spec lm lc) ?_
        conv => whnf
        refine ⟨fun h => absurd h (by simp [k2 h3 h4]), fun _ => ?_⟩
        conv => whnf
        refine .via _ _ ?_ t
        conv => whnf
        repeat (refine And.intro (by first | with_reducible rfl | exact congrArg (Value.int _) (wi (by omega) (by omega)) | exact wi (by omega) (by omega) | rfl) ?_; conv => whnf)
        first | exact trivial | exact fun _ _ h => h
      · conv => whnf
        refine .via _ _ ?_ t
        conv => whnf
        repeat (refine And.intro (by first | with_reducible rfl | exact congrArg (Value.int _) (wi (by omega) (by omega)) | exact wi (by omega) (by omega) | rfl) ?_; conv => whnf)
        first | exact trivial | exact fun _ _ h => h
    · conv => whnf
      refine .via _ _ ?_ t
      conv => whnf
      repeat (refine And.intro (by first | with_reducible rfl | exact congrArg (Value.int _) (wi (by omega) (by omega)) | exact wi (by omega) (by omega) | rfl) ?_; conv => whnf)
      first | exact trivial | exact fun _ _ h => h
end Go.E.Ytdhojpepdgdblaa
