/-
  Dots1, Pk, Ca1, SdD, EvF, SbV, Dots2, Dots3, Dots4, Dots5, Ca2, SxV, ScV, Dots6, Mo1
-/
import Derived.Test.YtheiididldemmaaGreatWatchNothingZ7
/-
  Contracts of dots: the order, slices.Values.
-/
namespace Go.E.YtheiididldemmaaGreat
open Go.Proofs
set_option maxRecDepth 100000
theorem orI_two (a b : Dt) : decide (orI [cmpI a.1 b.1, cmpI a.2 b.2] < 0) = dLess a b := by
  unfold dLess
  refine decide_eq_decide.2 ?_
  simp only [orI, cmpI]
  by_cases h1 : a.1 < b.1
  · simp [h1]
  by_cases h2 : b.1 < a.1
  · simp [h1, h2]; omega
  by_cases h3 : a.2 < b.2
  · simp [h1, h2, h3]; omega
  by_cases h4 : b.2 < a.2
  · simp [h1, h2, h3, h4]
  · simp [h1, h2, h3, h4]
theorem less_spec {m : Mem} {a b : Dt} : Spec Tryz.prog 84 [Dv a, Dv b] m fun r m' => r = [boolV (dLess a b)] ∧ Sub m m' := by
  refine en84 rfl (goY ?_)
  conv => whnf
  first | refine xretk (cmpInt_spec) ?_ | refine xret (cmpInt_spec) ?_
  conv => whnf
  first | refine xretk (cmpUint_spec) ?_ | refine xret (cmpUint_spec) ?_
  conv => whnf
  refine .mk _ (buildI_2) ?_
  rintro _ _ ⟨b1, hb1, rfl, rfl⟩
  conv => whnf
  first | refine xretk (orInt_spec (Il.blk (Mem.set_same ..)) (by simp)) ?_ | refine xret (orInt_spec (Il.blk (Mem.set_same ..)) (by simp)) ?_
  conv => whnf
  rw [orI_two]
  exact ⟨rfl, Mem.sub_set _ hb1⟩
theorem order4_spec {m : Mem} {a b : Dt} : Spec Tryz.prog 53 [Dv a, Dv b] m fun r m' => r = [i64 (dOrd a b)] ∧ Sub m m' := by
  refine en53 rfl (goY ?_)
  conv => whnf
  refine xcall (less_spec (a := a) (b := b)) ?_
  rintro _ m1 ⟨rfl, h1⟩
  conv => whnf
  refine ⟨fun h => ?_, fun h => ?_⟩
  · conv => whnf
    exact ⟨by rw [dOrd, if_pos h], h1⟩
  have hn := h
  conv => whnf
  refine xcall (less_spec (a := b) (b := a)) ?_
  rintro _ m2 ⟨rfl, h2⟩
  conv => whnf
  refine ⟨fun h => ?_, fun h => ?_⟩
  · conv => whnf
    exact ⟨by rw [dOrd, if_neg (by rw [hn]; simp), if_pos h], h1.trans h2⟩
  · conv => whnf
    exact ⟨by rw [dOrd, if_neg (by rw [hn]; simp), if_neg (by rw [h]; simp)], h1.trans h2⟩
theorem valuesD_spec {m : Mem} {v : Value} (hv : v.oneCell' = true) : Spec Tryz.prog 89 [.v v] m fun r m' => ∃ b, m b = none ∧ r = [fnP1V 105 b] ∧ m' = m.set b (.cells #[v] 32) := by
  refine en89 rfl (goY ?_)
  conv => whnf
  intro b hb
  conv => whnf
  refine .mk _ (makeFunc_spec (cs := [.pointer (some ⟨b, 0, none⟩)]) (by simp [Value.oneCell'])) ?_
  rintro _ _ ⟨rfl, rfl⟩
  conv => whnf
  exact ⟨b, hb, rfl, rfl⟩
set_option maxHeartbeats 2000000 in
theorem valIterD_spec {I : Nat → Mem → Prop} {l b : Nat} {v : Value} {E : List Dt} (hn : E.length ≤ 1000000000) (hI : ∀ k m, I k m → m b = some (.cells #[v] 32) ∧ Da m v E)
    (hy : ∀ k m (hk : k < E.length), I k m → YSpec Tryz.prog l [Dv E[k]] m fun r m' => r = [.v (.bool true)] ∧ I (k + 1) m') {m : Mem} (h0 : I 0 m) :
    Spec Tryz.prog 105 [.v (.func (.yield l) #[] #[]), ptrV b] m fun r m' => r = [] ∧ I E.length m' := by
  obtain ⟨g1, g2⟩ := hI 0 m h0
  obtain ⟨a, c, rfl⟩ := g2.shape
  refine en105 rfl (goY ?_)
  conv => whnf
  refine ⟨_, mcell_of g1 rfl, rfl, ?_⟩
  conv => whnf
  refine .mk (ι := Nat) (fun k => E.length - k) (fun k mm => k ≤ E.length ∧ I k mm) (fun k => [(0, .c (.v (.func (.yield l) #[] #[]))), (5, .c (.v (.slice a E.length c))), (6, .c (i64 E.length)), (7, .c (i64 k))]) (fun _ => []) 0 ⟨by omega, h0⟩ ?_ ?_
  · conv => whnf
    repeat (refine And.intro (by first | with_reducible rfl | exact congrArg (Value.int _) (wi (by omega) (by omega)) | exact wi (by omega) (by omega) | rfl) ?_; conv => whnf)
    first | exact trivial | exact fun _ _ h => h
  rintro k mm ⟨hk, hi⟩
  conv => whnf
  refine ⟨fun h1 => ?_, fun h1 => ?_⟩
  · have h1' := of_decide_eq_true h1
    have hlt : k < E.length := by omega
    obtain ⟨bl, ol, c', hh, hg⟩ := (hI k mm hi).2.real hlt
    injection hh with hh1 _ hh3
    subst hh1
    clear hh3 c'
    have hg := hg k hlt
    have hy' := hy k mm hlt hi
    generalize E[k] = x at hg hy'
    conv => whnf
    repeat (refine And.intro (by first | omega | (simp only [times]; omega)) ?_; conv => whnf)
    refine ⟨[.one (.int .i64 x.1), .one (.int .u64 x.2)], ⟨rfl, rfl, trivial⟩, rfl, by simp only [times, Int.toNat_natCast]; exact hg, ?_⟩
    conv => whnf
    refine .mk _ hy' ?_
    rintro _ m' ⟨rfl, hi'⟩
    conv => whnf
    refine ⟨fun h => absurd h (by first | decide | simp), fun _ => ?_⟩
    conv => whnf
    refine ⟨k + 1, ⟨by omega, hi'⟩, by omega, ?_⟩
    conv => whnf
    repeat (refine And.intro (by first | with_reducible rfl | (first | exact congrArg (Value.int _) (iadd (by omega))) | exact congrArg (Value.int _) (wi (by omega) (by omega)) | exact wi (by omega) (by omega) | rfl) ?_; conv => whnf)
    first | exact trivial | exact fun _ _ h => h
  · have h1' := of_decide_eq_false h1
    obtain rfl : k = E.length := by omega
    conv => whnf
    exact ⟨rfl, hi⟩
end Go.E.YtheiididldemmaaGreat

/-
  Memory in parts: one part taken, the others as one.
-/
namespace Go.E

/-- the parts but one, taken as one -/
theorem Split.restP {m q : Mem} {l : List Mem} (h : Split m (q :: l)) : Split m [allM l, q] ∧ Split (allM l) l := by
  obtain ⟨h1, h2⟩ := h
  obtain ⟨h3, h4⟩ := List.pairwise_cons.1 h2
  refine ⟨⟨fun x o hx => ?_, ?_⟩, Sub.refl _, h4⟩
  · obtain ⟨a, ha, hx2⟩ := allM_some hx
    simp only [List.mem_cons, List.not_mem_nil, or_false] at ha
    rcases ha with rfl | rfl
    · obtain ⟨b, hb, hx3⟩ := allM_some hx2
      exact h1 _ _ (allM_of h2 (List.mem_cons_of_mem _ hb) hx3)
    · exact h1 _ _ (allM_of h2 (List.mem_cons_self ..) hx2)
  · simp only [List.pairwise_cons, List.mem_singleton, forall_eq, List.not_mem_nil, false_implies, implies_true, List.Pairwise.nil, and_true]
    intro x
    cases hq : q x with
    | none => exact .inr rfl
    | some o =>
      refine .inl (allM_none.2 fun a ha => ?_)
      rcases h3 a ha x with h' | h'
      · rw [hq] at h'; cases h'
      · exact h'
/-- one part taken, the others as one -/
theorem Split.pickP {mm p : Mem} {l : List Mem} (h : Split mm (p :: l)) : ∃ q, (∀ x ∈ l, Sub x q) ∧ Split mm [p, q] ∧ ∀ m' p', Split m' [p', q] → Split m' (p' :: l) := by
  obtain ⟨h2, h3⟩ := Split.restP h
  exact ⟨allM l, fun x hx => h3.sub hx, h2.perm (List.Perm.swap _ _ _), fun m' p' h4 => Split.under (a := [p']) h4 h3⟩
/-- beside two parts that are told of, a new one -/
theorem Split.beside {m mm q : Mem} {l : List Mem} (h : Split m [q, mm]) (hs : Split mm l) : Split m (q :: l) := Split.under (a := [q]) h hs
end Go.E

/-
  Contracts of cart: dots, the order, entries in order.
-/
namespace Go.E.YtheiididldemmaaGreat
open Go.Proofs
set_option maxRecDepth 100000
theorem cdot_spec {m : Mem} {e : En} : Ret Tryz.prog 79 [Nv e] m [Dv (enDot e)] := by
  refine en79 rfl (goY ?_)
  conv => whnf
  exact ⟨rfl, rfl⟩
theorem eorder_spec {m : Mem} {a b : En} : Spec Tryz.prog 65 [Nv a, Nv b] m fun r m' => r = [i64 (eOrd a b)] ∧ Sub m m' := by
  refine en65 rfl (goY ?_)
  conv => whnf
  first | refine xretk (cmpInt_spec) ?_ | refine xret (cmpInt_spec) ?_
  conv => whnf
  first | refine xretk (cmpInt_spec) ?_ | refine xret (cmpInt_spec) ?_
  conv => whnf
  first | refine xretk (cmpUint_spec) ?_ | refine xret (cmpUint_spec) ?_
  conv => whnf
  first | refine xretk (cmpInt_spec) ?_ | refine xret (cmpInt_spec) ?_
  conv => whnf
  refine .mk _ (buildI_4) ?_
  rintro _ _ ⟨b1, hb1, rfl, rfl⟩
  conv => whnf
  first | refine xretk (orInt_spec (Il.blk (Mem.set_same ..)) (by simp)) ?_ | refine xret (orInt_spec (Il.blk (Mem.set_same ..)) (by simp)) ?_
  conv => whnf
  exact ⟨rfl, Mem.sub_set _ hb1⟩
theorem ltOf_eOrd : ltOf eOrd = eLess := rfl
theorem eLess_not {a b : En} : eLess a b = false ↔ ¬ (a.1 < b.1 ∨ (a.1 = b.1 ∧ (a.2.1 < b.2.1 ∨ (a.2.1 = b.2.1 ∧ (a.2.2.1 < b.2.2.1 ∨ (a.2.2.1 = b.2.2.1 ∧ a.2.2.2 < b.2.2.2)))))) := by
  rw [← eLess_iff]; simp
theorem eLess_swo : Go.Sort.SWO eLess where
  irrefl x := by rw [eLess_not]; omega
  trans x y z h1 h2 := by rw [eLess_iff] at *; omega
  ntrans x y z h1 h2 := by rw [eLess_not] at *; omega
theorem eLess_total {x y : En} (h1 : eLess x y = false) (h2 : eLess y x = false) : x = y := by
  rw [eLess_not] at h1 h2
  refine Prod.ext (by omega) (Prod.ext (by omega) (Prod.ext (by omega) (by omega)))
theorem sortE_spec (hS : Strict) {m : Mem} {v : Value} {E : List En} (hv : No m v E) (hl : E.length ≤ 1000000000) :
    Spec Tryz.prog 91 [.v v, fn0V 65] m fun r m' => r = [] ∧ No m' v (sortE E) := by
  have h := sortFN_spec (cf := eOrd) hS (by rw [ltOf_eOrd]; exact eLess_swo) (by rw [ltOf_eOrd]; exact fun x y => eLess_total) (g := 65) (fun x y => eorder_spec.mono fun r m' h => h.1) hv hl
  rw [ltOf_eOrd] at h
  exact h
theorem valuesN_spec {m : Mem} {v : Value} (hv : v.oneCell' = true) : Spec Tryz.prog 64 [.v v] m fun r m' => ∃ b, m b = none ∧ r = [fnP1V 92 b] ∧ m' = m.set b (.cells #[v] 39) := by
  refine en64 rfl (goY ?_)
  conv => whnf
  intro b hb
  conv => whnf
  refine .mk _ (makeFunc_spec (cs := [.pointer (some ⟨b, 0, none⟩)]) (by simp [Value.oneCell'])) ?_
  rintro _ _ ⟨rfl, rfl⟩
  conv => whnf
  exact ⟨b, hb, rfl, rfl⟩
set_option maxHeartbeats 2000000 in
theorem valIterN_spec {I : Nat → Mem → Prop} {l b : Nat} {v : Value} {E : List En} (hn : E.length ≤ 1000000000) (hI : ∀ k m, I k m → m b = some (.cells #[v] 39) ∧ Na m v E)
    (hy : ∀ k m (hk : k < E.length), I k m → YSpec Tryz.prog l [Nv E[k]] m fun r m' => r = [.v (.bool true)] ∧ I (k + 1) m') {m : Mem} (h0 : I 0 m) :
    Spec Tryz.prog 92 [.v (.func (.yield l) #[] #[]), ptrV b] m fun r m' => r = [] ∧ I E.length m' := by
  obtain ⟨g1, g2⟩ := hI 0 m h0
  obtain ⟨a, c, rfl⟩ := g2.shape
  refine en92 rfl (goY ?_)
  conv => whnf
  refine ⟨_, mcell_of g1 rfl, rfl, ?_⟩
  conv => whnf
  refine .mk (ι := Nat) (fun k => E.length - k) (fun k mm => k ≤ E.length ∧ I k mm) (fun k => [(0, .c (.v (.func (.yield l) #[] #[]))), (5, .c (.v (.slice a E.length c))), (6, .c (i64 E.length)), (7, .c (i64 k))]) (fun _ => []) 0 ⟨by omega, h0⟩ ?_ ?_
  · conv => whnf
    repeat (refine And.intro (by first | with_reducible rfl | exact congrArg (Value.int _) (wi (by omega) (by omega)) | exact wi (by omega) (by omega) | rfl) ?_; conv => whnf)
    first | exact trivial | exact fun _ _ h => h
  rintro k mm ⟨hk, hi⟩
  conv => whnf
  refine ⟨fun h1 => ?_, fun h1 => ?_⟩
  · have h1' := of_decide_eq_true h1
    have hlt : k < E.length := by omega
    obtain ⟨bl, ol, c', hh, hg⟩ := (hI k mm hi).2.real hlt
    injection hh with hh1 _ hh3
    subst hh1
    clear hh3 c'
    have hg := hg k hlt
    have hy' := hy k mm hlt hi
    generalize E[k] = x at hg hy'
    conv => whnf
    repeat (refine And.intro (by first | omega | (simp only [times]; omega)) ?_; conv => whnf)
    refine ⟨[.one (.int .i64 x.1), .one (.int .i64 x.2.1), .one (.int .u64 x.2.2.1), .one (.int .i64 x.2.2.2)], ⟨rfl, rfl, rfl, rfl, trivial⟩, rfl, by simp only [times, Int.toNat_natCast]; exact hg, ?_⟩
    conv => whnf
    refine .mk _ hy' ?_
    rintro _ m' ⟨rfl, hi'⟩
    conv => whnf
    refine ⟨fun h => absurd h (by first | decide | simp), fun _ => ?_⟩
    conv => whnf
    refine ⟨k + 1, ⟨by omega, hi'⟩, by omega, ?_⟩
    conv => whnf
    repeat (refine And.intro (by first | with_reducible rfl | (first | exact congrArg (Value.int _) (iadd (by omega))) | exact congrArg (Value.int _) (wi (by omega) (by omega)) | exact wi (by omega) (by omega) | rfl) ?_; conv => whnf)
    first | exact trivial | exact fun _ _ h => h
  · have h1' := of_decide_eq_false h1
    obtain rfl : k = E.length := by omega
    conv => whnf
    exact ⟨rfl, hi⟩
set_option maxHeartbeats 4000000 in
theorem appendSeqN_spec {m : Mem} {b : Nat} {v : Value} {E : List En} (hb : m b = some (.cells #[v] 39)) (hv : Na m v E) (hl : E.length ≤ 1000000) :
    Spec Tryz.prog 106 [.v (.slice none 0 0), fnP1V 92 b] m fun r m' => ∃ v' p, r = [.v v'] ∧ Split m' [p, m] ∧ No p v' E := by
  refine en106 rfl (goY ?_)
  conv => whnf
  intro bo hbo
  conv => whnf
  refine .mk 92 #[.pointer (some ⟨b, 0, none⟩)] rfl rfl rfl (ι := Nat)
    (fun k mm => k ≤ E.length ∧ ∃ vo p, Split mm [p, blk1 bo (.cells #[vo] 39), m] ∧ No p vo (E.take k)) 0 ⟨by omega, .slice none 0 0, emp, ((Split.one m).new hbo _).addEmp, No.nil _⟩
    (fun k x j => ∃ h : k < E.length, x = [Nv E[k]] ∧ j = k + 1) (fun k x j ⟨_, h1, _⟩ => by subst h1; rfl) ?_
    (fun mm => ∃ vo p, Split mm [p, blk1 bo (.cells #[vo] 39), m] ∧ No p vo E) ?_ ?_
  · rintro k _ _ mm ⟨hk, vo, p, hs, hp⟩ ⟨hlt, rfl, rfl⟩
    have hst : E.take (k + 1) = E.take k ++ [E[k]] := List.take_succ_eq_append_getElem hlt
    generalize E[k] = x at hst
    conv => whnf
    intro b4 hb4
    conv => whnf
    refine ⟨_, _, _, Mem.set_same .., ⟨Nat.le_refl 4, noFr⟩, ?_⟩
    rw [storeAll (by rfl)]
    conv => whnf
    have hs4 := hs.new hb4 (.cells (encE x).toArray 47)
    change Split (mm.set b4 (.cells (LB.cells [.one (.int .i64 x.1), .one (.int .i64 x.2.1), .one (.int .u64 x.2.2.1), .one (.int .i64 x.2.2.2)]).toArray 47)) _ at hs4
    generalize mm.set b4 (.cells (LB.cells [.one (.int .i64 x.1), .one (.int .i64 x.2.1), .one (.int .u64 x.2.2.1), .one (.int .i64 x.2.2.2)]).toArray 47) = m2 at hs4 ⊢
    have hr4 : MRange m2 b4 0 (encE x) := ⟨_, _, _, hs4.get (a := blk1 b4 (.cells (encE x).toArray 47)) (by simp) (blk1_same ..), fun j u hu => by rw [Nat.zero_add, List.getElem?_toArray]; exact hu⟩
    refine ⟨_, mcell_of (hs4.get (a := blk1 bo (.cells #[vo] 39)) (by simp) (blk1_same ..)) rfl, hp.ea.one, ?_⟩
    conv => whnf
    refine ⟨[.one (.int .i64 x.1), .one (.int .i64 x.2.1), .one (.int .u64 x.2.2.1), .one (.int .i64 x.2.2.2)], ⟨rfl, rfl, rfl, rfl, trivial⟩, rfl, hr4, ?_⟩
    conv => whnf
    refine .mk _ (buildN1 (e := x)) ?_
    rintro _ _ ⟨b5, hb5, rfl, rfl⟩
    conv => whnf
    refine .mk _ (pushN (i := 1) hs4 rfl hb5 hp (by rw [List.length_take]; omega)) ?_
    rintro _ m6 ⟨vo', p', rfl, hs6, hp'⟩
    conv => whnf
    refine ⟨_, _, _, hs6.get (a := blk1 bo (.cells #[vo] 39)) (by simp) (blk1_same ..), ⟨by simp, by simp⟩, ?_⟩
    conv => whnf
    have hs7 := hs6.setAt (i := 2) rfl (blk1_same ..) (.cells #[vo'] 39)
    rw [blk1_set] at hs7
    refine ⟨by omega, vo', p', hs7.drop, ?_⟩
    rw [hst]
    exact hp'
  · intro lb ob _ hround
    refine (valIterN_spec (I := fun k mm => ∃ m1, (k ≤ E.length ∧ ∃ vo p, Split m1 [p, blk1 bo (.cells #[vo] 39), m] ∧ No p vo (E.take k)) ∧ m1 lb = none ∧ mm = m1.set lb ob) (l := lb) (b := b) (v := v) (E := E) (by omega) ?_ ?_ ⟨_, ⟨Nat.zero_le _, .slice none 0 0, emp, ((Split.one m).new hbo _).addEmp, No.nil _⟩, by assumption, rfl⟩).mono ?_
    · rintro k mm ⟨m1, ⟨_, vo, p, hs, _⟩, hl, rfl⟩
      have hsub : Sub m (m1.set lb ob) := (hs.sub (by simp)).trans (Mem.sub_set _ hl)
      exact ⟨hsub _ _ hb, hv.sub hsub⟩
    · rintro k mm hk ⟨m1, hi, hl, rfl⟩
      exact hround k _ _ m1 hi ⟨hk, rfl, rfl⟩ hl
    · rintro r m' ⟨rfl, m1, ⟨_, vo, p, hs, hp⟩, hl, rfl⟩
      rw [List.take_length] at hp
      exact ⟨m1, ⟨vo, p, hs, hp⟩, hl, rfl⟩
  · rintro mm ⟨vo, p, hs, hp⟩
    conv => whnf
    refine ⟨vo, mcell_of (hs.get (a := blk1 bo (.cells #[vo] 39)) (by simp) (blk1_same ..)) rfl, hp.ea.one, ?_⟩
    conv => whnf
    exact ⟨vo, p, rfl, hs.erase 1, hp⟩
theorem collectN_spec {m : Mem} {b : Nat} {v : Value} {E : List En} (hb : m b = some (.cells #[v] 39)) (hv : Na m v E) (hl : E.length ≤ 1000000) :
    Spec Tryz.prog 90 [fnP1V 92 b] m fun r m' => ∃ v' p, r = [.v v'] ∧ Split m' [p, m] ∧ No p v' E := by
  refine en90 rfl (goY ?_)
  conv => whnf
  refine xcall (appendSeqN_spec hb hv hl) ?_
  rintro _ m1 ⟨v', p, rfl, hs, hp⟩
  conv => whnf
  exact ⟨v', p, rfl, hs, hp⟩
theorem sortedN_spec (hS : Strict) {m : Mem} {b : Nat} {v : Value} {E : List En} (hb : m b = some (.cells #[v] 39)) (hv : Na m v E) (hl : E.length ≤ 1000000) :
    Spec Tryz.prog 63 [fnP1V 92 b, fn0V 65] m fun r m' => ∃ v' p, r = [.v v'] ∧ Split m' [p, m] ∧ No p v' (sortE E) := by
  refine en63 rfl (goY ?_)
  conv => whnf
  refine xcall (collectN_spec hb hv hl) ?_
  rintro _ m1 ⟨v', p, rfl, hs, hp⟩
  conv => whnf
  refine xcall ((sortE_spec hS hp (by omega)).at hs (i := 0) rfl) ?_
  rintro _ m2 ⟨p1, ⟨rfl, hp1⟩, hs1⟩
  conv => whnf
  exact ⟨v', p1, rfl, hs1, hp1⟩
theorem orderE_spec (hS : Strict) {m : Mem} {v : Value} {E : List En} (hv : Na m v E) (hl : E.length ≤ 1000000) :
    Spec Tryz.prog 42 [.v v] m fun r m' => ∃ v' p, r = [.v v'] ∧ Split m' [p, m] ∧ No p v' (sortE E) := by
  obtain ⟨a, c, rfl⟩ := hv.shape
  refine en42 rfl (goY ?_)
  conv => whnf
  refine xcall (valuesN_spec (v := .slice a E.length c) rfl) ?_
  rintro _ m1 ⟨b, hb, rfl, rfl⟩
  conv => whnf
  have hs := (Split.one m).new hb (.cells #[.slice a E.length c] 39)
  refine xcall (sortedN_spec hS (Mem.set_same ..) (hv.sub (hs.sub (by simp))) hl) ?_
  rintro _ m2 ⟨v', p, rfl, hs2, hp⟩
  conv => whnf
  exact ⟨v', p, rfl, (Split.beside hs2 hs).erase 1, hp⟩
end Go.E.YtheiididldemmaaGreat

/-
  Slices of maund/vec.Dot: slices.DeleteFunc.
-/
namespace Go.E.YtheiididldemmaaGreat
open Go.Proofs
set_option maxRecDepth 100000
theorem clearD {m : Mem} {b o n c : Nat} {arr : Array Value} {te : TypeId} (hb : m b = some (.cells arr te)) (hn : 0 < n) (hfit : o + n * 2 ≤ arr.size) :
    PrimSpec Tryz.prog (.builtin .clear [32]) [.v (.slice (some ⟨b, o, none⟩) n c)] m fun r m' => r = [] ∧ ∃ zs, zs.length = n * 2 ∧ (∀ u ∈ zs, u.oneCell' = true) ∧ m' = m.set b (.cells (arr.toList.take o ++ zs ++ arr.toList.drop (o + n * 2)).toArray te) := by
  obtain ⟨ti, h1, h2⟩ := hDs
  obtain ⟨ei, g1, g2, g3, g4⟩ := hDn
  have := clearN_spec (P := Tryz.prog) tt_ok h1 h2 g1 (by rw [g4, g2]; rfl) (by rw [g4]; exact encD_ok.one _) (c := c) hb hn (by rw [g2]; exact hfit)
  rw [g2] at this
  exact this
end Go.E.YtheiididldemmaaGreat

/-
  Events as they lie: their dots in slices of their own.
-/
namespace Go.E.YtheiididldemmaaGreat
open Go.Proofs
set_option maxRecDepth 100000
abbrev Rv := (Int × Int × Int) × Dt × (Option Addr × Nat × Nat)
abbrev Rw := Int × Rv
def encV (r : Rv) : List Value := [.int .i64 r.1.1, .int .i64 r.1.2.1, .int .i64 r.1.2.2, .int .i64 r.2.1.1, .int .u64 r.2.1.2, .slice r.2.2.1 r.2.2.2.1 r.2.2.2.2]
def encW (r : Rw) : List Value := [.int .i64 r.1, .int .i64 r.2.1.1, .int .i64 r.2.1.2.1, .int .i64 r.2.1.2.2, .int .i64 r.2.2.1.1, .int .u64 r.2.2.1.2, .slice r.2.2.2.1 r.2.2.2.2.1 r.2.2.2.2.2]
theorem encV_ok : EncOk encV 6 := ⟨fun _ => rfl, fun x u hu => by simp [encV] at hu; rcases hu with rfl | rfl | rfl | rfl | rfl | rfl <;> rfl, by decide⟩
theorem encW_ok : EncOk encW 7 := ⟨fun _ => rfl, fun x u hu => by simp [encW] at hu; rcases hu with rfl | rfl | rfl | rfl | rfl | rfl | rfl <;> rfl, by decide⟩
/-- what is yielded by a slice is of the memory -/
theorem Da.uniq {m : Mem} {v : Value} {E E' : List Dt} (h : Da m v E) (h' : Da m v E') : E = E' := by
  have hl : E.length = E'.length := by
    obtain ⟨a, c, e⟩ := h.shape
    obtain ⟨a', c', e'⟩ := h'.shape
    rw [e] at e'; injection e'
  refine List.ext_getElem hl fun i h1 h2 => ?_
  obtain ⟨b, o, c, e, hg⟩ := h.real h1
  obtain ⟨b', o', c', e', hg'⟩ := h'.real h2
  rw [e] at e'
  injection e' with e1 _ _
  injection e1 with e1
  injection e1 with e1 e2
  subst e1 e2
  obtain ⟨arr, t, fr, k1, k2⟩ := hg i h1
  obtain ⟨arr', t', fr', k1', k2'⟩ := hg' i h2
  rw [k1] at k1'
  cases k1'
  refine encD_inj (List.ext_getElem? fun j => ?_)
  cases hj : (encD E[i])[j]? with
  | some u =>
    have hlt := (List.getElem?_eq_some_iff.1 hj).1
    have hlt' : j < (encD E'[i]).length := by rw [encD_ok.len] at *; exact hlt
    have q1 := k2 j u hj
    have q2 := k2' j _ (List.getElem?_eq_getElem hlt')
    rw [q1] at q2
    rw [List.getElem?_eq_getElem hlt']; exact q2
  | none =>
    have := List.getElem?_eq_none_iff.1 hj
    rw [encD_ok.len] at this
    exact (List.getElem?_eq_none (by rw [encD_ok.len]; exact this)).symm
/-- an event, as it lies -/
structure EvIs (m : Mem) (r : Rv) (e : Ev) : Prop where
  k : r.1 = e.1
  d : r.2.1 = e.2.1
  off : Da m (.slice r.2.2.1 r.2.2.2.1 r.2.2.2.2) e.2.2
theorem EvIs.sub {m m' : Mem} {r : Rv} {e : Ev} (h : EvIs m r e) (hs : Sub m m') : EvIs m' r e := ⟨h.k, h.d, h.off.sub hs⟩
theorem EvIs.uniq {m : Mem} {r : Rv} {e e' : Ev} (h : EvIs m r e) (h' : EvIs m r e') : e = e' := by
  obtain ⟨e1, e2, e3⟩ := e
  obtain ⟨f1, f2, f3⟩ := e'
  have h1 : e1 = f1 := h.k.symm.trans h'.k
  have h2 : e2 = f2 := h.d.symm.trans h'.d
  have h3 : e3 = f3 := h.off.uniq h'.off
  rw [h1, h2, h3]
theorem EvIs.len {m : Mem} {r : Rv} {e : Ev} (h : EvIs m r e) : r.2.2.2.1 = e.2.2.length := by
  obtain ⟨a, c, e⟩ := h.off.shape
  injection e
open Classical in
noncomputable def evOf (m : Mem) (r : Rv) : Ev := if h : ∃ e, EvIs m r e then h.choose else ((0, 0, 0), (0, 0), [])
theorem EvIs.of {m : Mem} {r : Rv} {e : Ev} (h : EvIs m r e) : evOf m r = e := by
  have hx : ∃ e, EvIs m r e := ⟨e, h⟩
  unfold evOf
  rw [dif_pos hx]
  exact hx.choose_spec.uniq h
/-- events, as they lie -/
def EvsIs (m : Mem) (R : List Rv) (E : List Ev) : Prop := E = R.map (evOf m) ∧ ∀ r ∈ R, EvIs m r (evOf m r)
theorem EvsIs.nil (m : Mem) : EvsIs m [] [] := ⟨rfl, by simp⟩
theorem EvsIs.len {m : Mem} {R : List Rv} {E : List Ev} (h : EvsIs m R E) : R.length = E.length := by rw [h.1, List.length_map]
theorem EvsIs.sub {m m' : Mem} {R : List Rv} {E : List Ev} (h : EvsIs m R E) (hs : Sub m m') : EvsIs m' R E := by
  have key : ∀ r ∈ R, evOf m' r = evOf m r := fun r hr => ((h.2 r hr).sub hs).of
  refine ⟨?_, fun r hr => ?_⟩
  · rw [h.1]
    exact List.map_congr_left fun r hr => (key r hr).symm
  · rw [key r hr]; exact (h.2 r hr).sub hs
theorem EvsIs.at {m : Mem} {R : List Rv} {E : List Ev} (h : EvsIs m R E) {i : Nat} (h1 : i < R.length) (h2 : i < E.length) : EvIs m R[i] E[i] := by
  have := h.2 R[i] (List.getElem_mem h1)
  have e : E[i] = evOf m R[i] := by
    have := congrArg (fun l : List Ev => l[i]?) h.1
    simp only [List.getElem?_map, List.getElem?_eq_getElem h1, List.getElem?_eq_getElem h2, Option.map_some] at this
    exact Option.some.inj this
  rw [e]; exact this
theorem EvsIs.append {m : Mem} {R R' : List Rv} {E E' : List Ev} (h : EvsIs m R E) (h' : EvsIs m R' E') : EvsIs m (R ++ R') (E ++ E') :=
  ⟨by rw [h.1, h'.1, List.map_append], fun r hr => (List.mem_append.1 hr).elim (h.2 r) (h'.2 r)⟩
theorem EvsIs.one {m : Mem} {r : Rv} {e : Ev} (h : EvIs m r e) : EvsIs m [r] [e] :=
  ⟨by simp [h.of], fun x hx => by rw [List.mem_singleton.1 hx, h.of]; exact h⟩
theorem EvsIs.filter {m : Mem} {R : List Rv} {E : List Ev} (h : EvsIs m R E) (q : Ev → Bool) : EvsIs m (R.filter fun r => q (evOf m r)) (E.filter q) := by
  refine ⟨?_, fun r hr => h.2 r (List.mem_filter.1 hr).1⟩
  rw [h.1, List.filter_map]; rfl
theorem EvsIs.take {m : Mem} {R : List Rv} {E : List Ev} (h : EvsIs m R E) (i : Nat) : EvsIs m (R.take i) (E.take i) :=
  ⟨by rw [h.1, List.map_take], fun r hr => h.2 r (List.mem_of_mem_take hr)⟩
theorem EvsIs.any {m : Mem} {R : List Rv} {E : List Ev} (h : EvsIs m R E) (q : Ev → Bool) : (R.any fun r => q (evOf m r)) = E.any q := by
  rw [h.1, List.any_map]; rfl
end Go.E.YtheiididldemmaaGreat

/-
  Slices of maund/edit.Event: that lie somewhere, that are owned; append, slices.Clone.
-/
namespace Go.E.YtheiididldemmaaGreat
open Go.Proofs
set_option maxRecDepth 100000
abbrev Vv (x : Rv) : CV := .a [.one (.int .i64 x.1.1), .one (.int .i64 x.1.2.1), .one (.int .i64 x.1.2.2), .one (.int .i64 x.2.1.1), .one (.int .u64 x.2.1.2), .one (.slice x.2.2.1 x.2.2.2.1 x.2.2.2.2)]
theorem hVs : ∃ ti, tt.get 52 = some ti ∧ ti.k = .slice 34 := ⟨_, rfl, rfl⟩
theorem hVn : ∃ ti, tt.get 34 = some ti ∧ ti.size = 6 ∧ ti.bytes = 64 ∧ LB.cells ti.zero = encV ((0, 0, 0), (0, 0), (none, 0, 0)) := ⟨_, rfl, rfl, rfl, rfl⟩
def Vl (m : Mem) (v : Value) (E : List Rv) : Prop := Lies m 6 v (E.flatMap encV)
def Vo (m : Mem) (v : Value) (E : List Rv) : Prop := Own m 34 6 v (E.flatMap encV)
def Va (m : Mem) (v : Value) (E : List Rv) : Prop := Vl m v E ∨ (E = [] ∧ ∃ a, v = .slice (some a) 0 0)
theorem Vl.sub {m m' : Mem} {v : Value} {E : List Rv} (h : Vl m v E) (hs : Sub m m') : Vl m' v E := Lies.sub h hs
theorem Vo.sub {m m' : Mem} {v : Value} {E : List Rv} (h : Vo m v E) (hs : Sub m m') : Vo m' v E := Own.sub h hs
theorem Vo.el {m : Mem} {v : Value} {E : List Rv} (h : Vo m v E) : Vl m v E := Own.lies h
theorem Vl.ea {m : Mem} {v : Value} {E : List Rv} (h : Vl m v E) : Va m v E := .inl h
theorem Vo.ea {m : Mem} {v : Value} {E : List Rv} (h : Vo m v E) : Va m v E := h.el.ea
theorem Va.sub {m m' : Mem} {v : Value} {E : List Rv} (h : Va m v E) (hs : Sub m m') : Va m' v E := h.imp (·.sub hs) id
theorem Vo.nil (m : Mem) : Vo m (.slice none 0 0) [] := .inl ⟨rfl, rfl⟩
theorem Va.nil (m : Mem) : Va m (.slice none 0 0) [] := (Vo.nil m).ea
theorem Vl.shape {m : Mem} {v : Value} {E : List Rv} (h : Vl m v E) : ∃ a c, v = .slice a E.length c := encV_ok.shape h
theorem Va.shape {m : Mem} {v : Value} {E : List Rv} (h : Va m v E) : ∃ a c, v = .slice a E.length c := by
  rcases h with h | ⟨rfl, a, rfl⟩
  · exact h.shape
  · exact ⟨_, _, rfl⟩
theorem Va.el {m : Mem} {v : Value} {E : List Rv} (h : Va m v E) (hl : 0 < E.length) : Vl m v E := h.elim id fun h => by rw [h.1] at hl; simp at hl
theorem Va.real {m : Mem} {v : Value} {E : List Rv} (h : Va m v E) {i : Nat} (hi : i < E.length) : ∃ b o c, v = .slice (some ⟨b, o, none⟩) E.length c ∧ ∀ j (hj : j < E.length), MRange m b (o + j * 6) (encV E[j]) := by
  rcases h with h | ⟨rfl, _⟩
  · exact encV_ok.real h hi
  · simp at hi
theorem Va.lenV {m : Mem} {v : Value} {E : List Rv} (h : Va m v E) : lenV v = E.length := by obtain ⟨a, c, rfl⟩ := h.shape; rfl
theorem Va.one {m : Mem} {v : Value} {E : List Rv} (h : Va m v E) : v.oneCell' = true := by obtain ⟨a, c, rfl⟩ := h.shape; rfl
theorem Va.gives {m : Mem} {v : Value} {E : List Rv} {e : TypeId} (h : Va m v E) : Gives m 6 (.slice e) v (E.flatMap encV) := .inl ⟨e, rfl, h.imp id fun ⟨h1, h2⟩ => ⟨by rw [h1]; rfl, h2⟩⟩
theorem appendVat {m p : Mem} {ls : List Mem} {i : Nat} {v x : Value} {E news : List Rv} (hs : Split m ls) (hi : ls[i]? = some p) (hv : Vo p v E) (hg : Va m x news) (hb : E.length + news.length ≤ 100000000) :
    PrimSpec Tryz.prog (.builtin .append [52, 52]) [.v v, .v x] m fun r m' => ∃ v' p', r = [.v v'] ∧ Split m' (ls.set i p') ∧ Vo p' v' (E ++ news) := by
  obtain ⟨ti, h1, h2⟩ := hVs
  obtain ⟨ei, g1, g2, g3, g4⟩ := hVn
  have e1 := hv.el.ea.lenV
  have e2 := hg.lenV
  have hv' : Own p 34 ei.size v (E.flatMap encV) := by rw [g2]; exact hv
  refine (append_at (news := news.flatMap encV) tt_ok h1 h2 g1 h1 (by rw [g4, g2]; rfl) hs hi hv' (by rw [h2, g2]; exact hg.gives) (by rw [e1, e2, g3]; omega) (by rw [e1, e2]; omega)).mono fun r m' ⟨v', p', q1, q2, q3⟩ => ⟨v', p', q1, q2, ?_⟩
  have := q3.own
  rw [g2, ← List.flatMap_append] at this
  exact this
theorem buildV0 {m : Mem} : PrimSpec Tryz.prog (.buildSlice 52 0 []) [] m fun r m' => ∃ b, m b = none ∧ r = [.v (.slice (some ⟨b, 0, none⟩) 0 0)] ∧ m' = m.set b (.cells #[] 34) := by
  obtain ⟨ti, h1, h2⟩ := hVs
  obtain ⟨ei, g1, g2, g3, g4⟩ := hVn
  exact buildSlice0_spec tt_ok h1 h2 g1
theorem buildV1 {m : Mem} {e : Rv} : PrimSpec Tryz.prog (.buildSlice 52 1 [0]) [Vv e] m fun r m' => ∃ b, m b = none ∧ r = [.v (.slice (some ⟨b, 0, none⟩) 1 1)] ∧ m' = m.set b (.cells (encV e).toArray 34) := by
  obtain ⟨ti, h1, h2⟩ := hVs
  obtain ⟨ei, g1, g2, g3, g4⟩ := hVn
  exact (buildSlice_spec (n := 1) tt_ok h1 h2 g1 rfl rfl (by simp [CV.cs, LB.cells, Seg.cells, g2]) (by omega) (by omega)).mono fun r m' ⟨b, e1, e2, e3⟩ => ⟨b, e1, e2, e3⟩
theorem Vo.blk1 {m : Mem} {b : Nat} {e : Rv} (h : m b = some (.cells (encV e).toArray 34)) : Vo m (.slice (some ⟨b, 0, none⟩) 1 1) [e] :=
  .inr ⟨b, 0, 1, 1, _, rfl, h, rfl, Nat.le_refl _, Nat.le_refl _, fun j u hu => by rw [Nat.zero_add, List.getElem?_toArray]; simpa using hu, encV_ok.fone⟩
theorem Vo.blk0 {m : Mem} {b : Nat} (h : m b = some (.cells #[] 34)) : Vo m (.slice (some ⟨b, 0, none⟩) 0 0) [] :=
  .inr ⟨b, 0, 0, 0, _, rfl, h, rfl, Nat.le_refl _, Nat.le_refl _, fun j u hu => by simp at hu, encV_ok.fone⟩
theorem pushV {m p : Mem} {ls : List Mem} {i b' : Nat} {x : Rv} {y : Value} {E : List Rv} (hs : Split m ls) (hi : ls[i]? = some p) (hb : m b' = none) (hy : Vo p y E) (hl : E.length ≤ 10000000) :
    PrimSpec Tryz.prog (.builtin .append [52, 52]) [.v y, .v (.slice (some ⟨b', 0, none⟩) 1 1)] (m.set b' (.cells (encV x).toArray 34)) fun r m' => ∃ y' p', r = [.v y'] ∧ Split m' (ls.set i p') ∧ Vo p' y' (E ++ [x]) := by
  have hs1 := hs.new hb (.cells (encV x).toArray 34)
  exact (appendVat (i := i + 1) hs1 (by simpa using hi) hy (Vo.blk1 (Mem.set_same ..)).el.ea (by simp; omega)).mono fun r m' ⟨v', p', h1, h2, h3⟩ => ⟨v', p', h1, h2.erase 0, h3⟩
end Go.E.YtheiididldemmaaGreat

/-
  Contracts of dots: slices.Compact; a set.
-/
namespace Go.E.YtheiididldemmaaGreat
open Go.Proofs
set_option maxRecDepth 100000
theorem ltOf_dOrd : ltOf dOrd = dLess := by
  funext a b
  unfold ltOf dOrd
  cases h1 : dLess a b with
  | true => simp
  | false =>
    cases h2 : dLess b a <;> simp
theorem dLess_iff {a b : Dt} : dLess a b = true ↔ a.1 < b.1 ∨ (a.1 = b.1 ∧ a.2 < b.2) := by simp [dLess]
theorem dLess_not {a b : Dt} : dLess a b = false ↔ ¬ (a.1 < b.1 ∨ (a.1 = b.1 ∧ a.2 < b.2)) := by simp [dLess]
theorem dLess_swo : Go.Sort.SWO dLess where
  irrefl x := by rw [dLess_not]; omega
  trans x y z h1 h2 := by rw [dLess_iff] at *; omega
  ntrans x y z h1 h2 := by rw [dLess_not] at *; omega
theorem dLess_total {x y : Dt} (h1 : dLess x y = false) (h2 : dLess y x = false) : x = y := by
  rw [dLess_not] at h1 h2
  exact Prod.ext (by omega) (by omega)
theorem sortD_spec (hS : Strict) {m : Mem} {v : Value} {E : List Dt} (hv : Do m v E) (hl : E.length ≤ 1000000000) :
    Spec Tryz.prog 103 [.v v, fn0V 53] m fun r m' => r = [] ∧ Do m' v (sortD E) := by
  have h := sortFD_spec (cf := dOrd) hS (by rw [ltOf_dOrd]; exact dLess_swo) (by rw [ltOf_dOrd]; exact fun x y => dLess_total) (g := 53) (fun x y => order4_spec.mono fun r m' h => h.1) hv hl
  rw [ltOf_dOrd] at h
  exact h
end Go.E.YtheiididldemmaaGreat

/-
  slices.Compact at dots.
-/
namespace Go.E.YtheiididldemmaaGreat
open Go.Proofs
set_option maxRecDepth 100000
theorem compD_cc (a b : Dt) (r : List Dt) : compD (a :: b :: r) = if a = b then compD (b :: r) else a :: compD (b :: r) := by rw [compD]
theorem compD_one (a : Dt) : compD [a] = [a] := rfl
theorem compD_snoc : ∀ (l : List Dt) (y x : Dt), compD (l ++ [y, x]) = if y = x then compD (l ++ [y]) else compD (l ++ [y]) ++ [x]
  | [], y, x => by
    show compD [y, x] = if y = x then compD [y] else compD [y] ++ [x]
    rw [compD_cc, compD_one, compD_one]
    by_cases h : y = x
    · rw [if_pos h, if_pos h, h]
    · rw [if_neg h, if_neg h]; rfl
  | [a], y, x => by
    have ih : compD [y, x] = if y = x then compD [y] else compD [y] ++ [x] := compD_snoc [] y x
    show compD (a :: y :: [x]) = if y = x then compD (a :: y :: []) else compD (a :: y :: []) ++ [x]
    rw [compD_cc a y [x], compD_cc a y []]
    by_cases h : a = y
    · rw [if_pos h, if_pos h]; exact ih
    · rw [if_neg h, if_neg h, ih]; split <;> rfl
  | a :: b :: r, y, x => by
    have ih : compD (b :: (r ++ [y, x])) = if y = x then compD (b :: (r ++ [y])) else compD (b :: (r ++ [y])) ++ [x] := compD_snoc (b :: r) y x
    show compD (a :: b :: (r ++ [y, x])) = if y = x then compD (a :: b :: (r ++ [y])) else compD (a :: b :: (r ++ [y])) ++ [x]
    rw [compD_cc a b (r ++ [y, x]), compD_cc a b (r ++ [y])]
    by_cases h : a = b
    · rw [if_pos h, if_pos h]; exact ih
    · rw [if_neg h, if_neg h, ih]; split <;> rfl
theorem take_two {E : List Dt} {i : Nat} (h : i + 1 < E.length) : E.take (i + 2) = E.take i ++ [E[i], E[i + 1]] := by
  rw [List.take_succ_eq_append_getElem h, List.take_succ_eq_append_getElem (by omega : i < E.length), List.append_assoc]; rfl
theorem compD_step {E : List Dt} {i : Nat} (h : i + 1 < E.length) : compD (E.take (i + 2)) = if E[i] = E[i + 1] then compD (E.take (i + 1)) else compD (E.take (i + 1)) ++ [E[i + 1]] := by
  rw [take_two h, compD_snoc, List.take_succ_eq_append_getElem (by omega : i < E.length)]
theorem compD_short : ∀ {E : List Dt}, E.length < 2 → compD E = E
  | [], _ => rfl
  | [a], _ => rfl
  | a :: b :: r, h => by simp at h; omega
set_option maxHeartbeats 4000000 in
theorem compactD_spec {mm m p : Mem} {v : Value} {E : List Dt} (hs : Split mm [p, m]) (hv : Do p v E) (hl : E.length ≤ 10000000) :
    Spec Tryz.prog 104 [.v v] mm fun r m' => ∃ v' p', r = [.v v'] ∧ Split m' [p', m] ∧ Do p' v' (compD E) := by
  obtain ⟨a, c, rfl⟩ := hv.el.shape
  refine en104 rfl (goY ?_)
  conv => whnf
  refine ⟨fun h => ?_, fun h => ?_⟩
  · have h' := of_decide_eq_true h
    conv => whnf
    exact ⟨_, p, rfl, hs, by rw [compD_short (by omega)]; exact hv⟩
  have h2 : 2 ≤ E.length := by have := of_decide_eq_false h; omega
  clear h
  obtain ⟨bl, ol, c', hh, hg⟩ := hv.el.ea.real (i := 0) (by omega)
  injection hh with hh1 _ hh3
  subst hh1
  clear hh3 c'
  have hcap : E.length ≤ c := (encD_ok.row hv).choose_spec.2.2.1
  conv => whnf
  refine .mk (ι := Nat) (fun k => E.length - k) (fun k mm' => 1 ≤ k ∧ k ≤ E.length ∧ compD (E.take k) = E.take k ∧ mm' = mm) (fun k => [(0, .c (.v (.slice (some ⟨bl, ol, none⟩) E.length c))), (3, .c (i64 k))]) (fun _ => []) 1 ⟨by omega, by omega, compD_short (by rw [List.length_take]; omega), rfl⟩ ?_ ?_
  · conv => whnf
    repeat (refine And.intro (by first | with_reducible rfl | exact congrArg (Value.int _) (wi (by omega) (by omega)) | exact wi (by omega) (by omega) | rfl) ?_; conv => whnf)
    first | exact trivial | exact fun _ _ h => h
  rintro k mm' ⟨hk1, hk, hcd, he⟩
  subst mm'
  conv => whnf
  refine ⟨fun h => ?_, fun h => ?_⟩
  rotate_left
  · have h' := of_decide_eq_false h
    obtain rfl : k = E.length := by omega
    rw [List.take_length] at hcd
    conv => whnf
    exact ⟨_, p, rfl, hs, by rw [hcd]; exact hv⟩
  have h' := of_decide_eq_true h
  have hlt : k < E.length := by omega
  clear h h'
  have hsub : Sub p mm := hs.sub (by simp)
  have hg1 := (hg k hlt).sub hsub
  have hg0 := (hg (k - 1) (by omega)).sub hsub
  have ew : IntKind.i64.wrap ((k : Int) - 1) = ((k - 1 : Nat) : Int) := by rw [wi (by omega) (by omega)]; omega
  have hst := compD_step (E := E) (i := k - 1) (by omega)
  have hk2 : k - 1 + 1 = k := by omega
  have hk3 : k - 1 + 2 = k + 1 := by omega
  simp only [hk2, hk3] at hst
  conv => whnf
  repeat (refine And.intro (by first | omega | (simp only [times]; omega)) ?_; conv => whnf)
  refine ⟨[.one (.int .i64 E[k].1), .one (.int .u64 E[k].2)], ⟨rfl, rfl, trivial⟩, rfl, by simp only [times, Int.toNat_natCast]; exact hg1, ?_⟩
  conv => whnf
  rw [ew]
  repeat (refine And.intro (by first | omega | (simp only [times]; omega)) ?_; conv => whnf)
  refine ⟨[.one (.int .i64 (E[k - 1]'(by omega)).1), .one (.int .u64 (E[k - 1]'(by omega)).2)], ⟨rfl, rfl, trivial⟩, rfl, by simp only [times, Int.toNat_natCast]; exact hg0, ?_⟩
  conv => whnf
  rw [eqPD]
  refine ⟨fun h => ?_, fun h => ?_⟩
  rotate_left
  · have hne : ¬ E[k - 1]'(by omega) = E[k] := fun e => by rw [e] at h; simp at h
    rw [if_neg hne, hcd, ← List.take_succ_eq_append_getElem hlt] at hst
    conv => whnf
    refine ⟨k + 1, ⟨by omega, by omega, hst, rfl⟩, by omega, ?_⟩
    conv => whnf
    repeat (refine And.intro (by first | with_reducible rfl | (first | exact congrArg (Value.int _) (iadd (by omega))) | exact congrArg (Value.int _) (wi (by omega) (by omega)) | exact wi (by omega) (by omega) | rfl) ?_; conv => whnf)
    first | exact trivial | exact fun _ _ h => h
  have heq : E[k] = E[k - 1]'(by omega) := of_decide_eq_true h
  rw [if_pos heq.symm, hcd] at hst
  clear h ew hg0 hg1
  conv => whnf
  repeat (refine And.intro (by first | omega | (simp only [times]; omega)) ?_; conv => whnf)
  intro o' q1 q2
  obtain rfl : o' = ol + k * 2 := by simpa [times] using q1 (by omega)
  clear q1 q2
  have ek : (k : Int).toNat = k := by omega
  conv => whnf
  rw [ek]
  refine .mk (ι := Nat × Nat) (fun i => E.length - i.2) (fun ⟨i, j⟩ mm' => ∃ p Z, Split mm' [p, m] ∧ Do p (.slice (some ⟨bl, ol, none⟩) E.length c) Z ∧ Z.take i = compD (E.take (k + j)) ∧ Z.drop (k + j - 1) = E.drop (k + j - 1) ∧ i ≤ k + j - 1 ∧ 1 ≤ j ∧ k + j ≤ E.length)
    (fun ⟨i, j⟩ => [(0, .c (.v (.slice (some ⟨bl, ol, none⟩) E.length c))), (3, .c (i64 i)), (4, .c (.v (.slice (some ⟨bl, ol + k * 2, none⟩) (E.length - k) (c - k)))), (5, .c (i64 j))]) (fun _ => []) (k, 1) ⟨p, E, hs, hv, hst.symm, rfl, by omega, by omega, by omega⟩ ?_ ?_
  · conv => whnf
    repeat (refine And.intro (by first | with_reducible rfl | exact congrArg (Value.int _) (wi (by omega) (by omega)) | exact wi (by omega) (by omega) | rfl) ?_; conv => whnf)
    first | exact trivial | exact fun _ _ h => h
  rintro ⟨i, j⟩ mm' ⟨p, Z, hs, hZ, ht, hd, hij, hj1, hj⟩
  have hZl : Z.length = E.length := (encD_ok.row hZ).choose_spec.2.1
  conv => whnf
  refine ⟨fun h => ?_, fun h => ?_⟩
  · have h' := of_decide_eq_true h
    have hlt : k + j < E.length := by omega
    clear h h'
    have hZE : ∀ x (hx : x < E.length), k + j - 1 ≤ x → Z[x]'(by omega) = E[x] := fun x hx hx2 => by
      have := congrArg (fun l : List Dt => l[x - (k + j - 1)]?) hd
      simp only [List.getElem?_drop, show k + j - 1 + (x - (k + j - 1)) = x by omega] at this
      rw [List.getElem?_eq_getElem (by omega), List.getElem?_eq_getElem hx] at this
      exact Option.some.inj this
    obtain ⟨bl', ol', c', hh, hg⟩ := hZ.el.ea.real (i := 0) (by omega)
    injection hh with hh1 _ hh3
    injection hh1 with hh1
    injection hh1 with hb1 ho1
    subst hb1
    subst ho1
    clear hh3 c'
    have hsub : Sub p mm' := hs.sub (by simp)
    have hg1 := (hg (k + j) (by omega)).sub hsub
    have hg0 := (hg (k + j - 1) (by omega)).sub hsub
    rw [hZE _ hlt (by omega)] at hg1
    rw [hZE _ (by omega) (by omega)] at hg0
    have hst := compD_step (E := E) (i := k + j - 1) (by omega)
    have hk2 : k + j - 1 + 1 = k + j := by omega
    have hk3 : k + j - 1 + 2 = k + (j + 1) := by omega
    simp only [hk2, hk3] at hst
    have hd1 : Z.drop (k + j) = E.drop (k + j) := by
      have := congrArg (List.drop 1) hd
      rw [List.drop_drop, List.drop_drop, hk2] at this; exact this
    have ew : IntKind.i64.wrap ((j : Int) - 1) = ((j - 1 : Nat) : Int) := by rw [wi (by omega) (by omega)]; omega
    have eo1 : ol + k * 2 + j * 2 = ol + (k + j) * 2 := by omega
    have eo0 : ol + k * 2 + (j - 1) * 2 = ol + (k + j - 1) * 2 := by omega
    generalize hx : E[k + j] = x at hg1 hst
    generalize hy : E[k + j - 1]'(by omega) = y at hg0 hst
    conv => whnf
    repeat (refine And.intro (by first | omega | (simp only [times]; omega)) ?_; conv => whnf)
    refine ⟨[.one (.int .i64 x.1), .one (.int .u64 x.2)], ⟨rfl, rfl, trivial⟩, rfl, by simp only [times, Int.toNat_natCast, eo1]; exact hg1, ?_⟩
    conv => whnf
    rw [ew]
    repeat (refine And.intro (by first | omega | (simp only [times]; omega)) ?_; conv => whnf)
    refine ⟨[.one (.int .i64 y.1), .one (.int .u64 y.2)], ⟨rfl, rfl, trivial⟩, rfl, by simp only [times, Int.toNat_natCast, eo0]; exact hg0, ?_⟩
    conv => whnf
    rw [eqPD']
    refine ⟨fun h => ?_, fun h => ?_⟩
    · have hne : ¬ y = x := fun e => by rw [e] at h; simp at h
      rw [if_neg hne] at hst
      clear h
      conv => whnf
      repeat (refine And.intro (by first | omega | (simp only [times]; omega)) ?_; conv => whnf)
      refine ⟨[.one (.int .i64 x.1), .one (.int .u64 x.2)], ⟨rfl, rfl, trivial⟩, rfl, by simp only [times, Int.toNat_natCast, eo1]; exact hg1, ?_⟩
      conv => whnf
      repeat (refine And.intro (by first | omega | (simp only [times]; omega)) ?_; conv => whnf)
      obtain ⟨arr, k1, k2, k3⟩ := encD_ok.set hZ (i := i) (by omega) x
      refine ⟨arr, _, _, hs.sub (a := p) (by simp) _ _ k1, ⟨by simp only [times, Int.toNat_natCast]; exact k2, noFr⟩, ?_⟩
      have hs2 := hs.set k1 (.cells (arr.toList.take (ol + i * 2) ++ (encD x ++ arr.toList.drop (ol + i * 2 + 2))).toArray 31)
      simp only [times, Int.toNat_natCast]
      have hk1 : IntKind.i64.wrap ((i : Int) + 1) = ((i + 1 : Nat) : Int) := iadd (by omega)
      conv => whnf
      refine ⟨(i + 1, j + 1), ⟨_, Z.set i x, hs2, k3, ?_, ?_, by omega, by omega, by omega⟩, by simp only; omega, ?_⟩
      · rw [hst, ← ht, List.take_succ_eq_append_getElem (by rw [List.length_set]; omega), List.getElem_set_self, List.take_set_of_le (by omega)]
      · rw [show k + (j + 1) - 1 = k + j by omega, List.drop_set_of_lt (by omega)]; exact hd1
      · conv => whnf
        repeat (refine And.intro (by first | with_reducible rfl | (first | exact congrArg (Value.int _) (iadd (by omega))) | exact congrArg (Value.int _) (wi (by omega) (by omega)) | exact wi (by omega) (by omega) | rfl) ?_; conv => whnf)
        first | exact trivial | exact fun _ _ h => h
    · have heq : y = x := by simp at h; exact h.symm
      rw [if_pos heq] at hst
      conv => whnf
      refine ⟨(i, j + 1), ⟨p, Z, hs, hZ, by rw [hst]; exact ht, by rw [show k + (j + 1) - 1 = k + j by omega]; exact hd1, by omega, by omega, by omega⟩, by simp only; omega, ?_⟩
      conv => whnf
      repeat (refine And.intro (by first | with_reducible rfl | (first | exact congrArg (Value.int _) (iadd (by omega))) | exact congrArg (Value.int _) (wi (by omega) (by omega)) | exact wi (by omega) (by omega) | rfl) ?_; conv => whnf)
      first | exact trivial | exact fun _ _ h => h
  · have h' := of_decide_eq_false h
    have hje : k + j = E.length := by omega
    rw [hje, List.take_length] at ht
    obtain ⟨arr, k1, k2, k3, k4, k5⟩ := encD_ok.row hZ
    clear h h'
    have ei : (i : Int).toNat = i := by omega
    conv => whnf
    repeat (refine And.intro (by first | omega | (simp only [times]; omega)) ?_; conv => whnf)
    intro o' q1 q2
    have ho : o' = ol + i * 2 := by simpa [times] using q1 (by omega)
    clear q1 q2
    subst ho
    conv => whnf
    rw [ei]
    refine .mk _ (clearD (hs.sub (a := p) (by simp) _ _ k1) (by omega) (by omega)) ?_
    rintro _ m' ⟨rfl, zs, hz1, hz2, rfl⟩
    conv => whnf
    have hs2 := hs.set k1 (.cells (arr.toList.take (ol + i * 2) ++ zs ++ arr.toList.drop (ol + i * 2 + (E.length - i) * 2)).toArray 31)
    repeat (refine And.intro (by first | omega | (simp only [times]; omega)) ?_; conv => whnf)
    intro o' q1 q2
    obtain rfl : o' = ol := by have := q1 (by omega); simpa [times] using this
    conv => whnf
    rw [ei]
    refine ⟨_, _, rfl, hs2, ?_⟩
    rw [← ht]
    refine encD_ok.mk' (Mem.set_same ..) (by rw [List.length_take]; omega) (by omega) ?_ fun j u hu => ?_
    · simp only [List.size_toArray, List.length_append, List.length_take, List.length_drop, Array.length_toList, hz1]; omega
    · have hjl := (List.getElem?_eq_some_iff.1 hu).1
      rw [encD_ok.flen, List.length_take] at hjl
      have hj2 : o' + j < o' + i * 2 := by have := Nat.mul_le_mul_right 2 (Nat.min_le_left i Z.length); omega
      rw [← encD_ok.take, List.getElem?_take] at hu
      split at hu
      · have := k5 j u hu
        rw [List.getElem?_toArray, List.append_assoc, List.getElem?_append_left (by rw [List.length_take, Array.length_toList]; omega), List.getElem?_take, if_pos hj2, Array.getElem?_toList]
        exact this
      · cases hu
end Go.E.YtheiididldemmaaGreat

/-
  Contracts of dots: what is yielded, as a set.
-/
namespace Go.E.YtheiididldemmaaGreat
open Go.Proofs
set_option maxRecDepth 100000
theorem compD_le (l : List Dt) : (compD (sortD (l.filter rightD))).length ≤ l.length := by
  have h1 := compD_len (sortD (l.filter rightD))
  have h2 : (sortD (l.filter rightD)).length ≤ l.length := by
    unfold sortD; rw [List.length_mergeSort]; exact List.length_filter_le ..
  omega
set_option maxHeartbeats 4000000 in
theorem setV_spec (hS : Strict) {m : Mem} {b : Nat} {v : Value} {E : List Dt} (hb : m b = some (.cells #[v] 32)) (hv : Da m v E) (hl : E.length ≤ 1000000) :
    Spec Tryz.prog 88 [fnP1V 105 b] m fun r m' => ∃ v' p, r = [.v v'] ∧ Split m' [p, m] ∧ Do p v' (setF E) := by
  refine en88 rfl (goY ?_)
  conv => whnf
  intro bo hbo
  conv => whnf
  refine .mk 105 #[.pointer (some ⟨b, 0, none⟩)] rfl rfl rfl (ι := Nat)
    (fun k mm => k ≤ E.length ∧ ∃ vo p, Split mm [p, blk1 bo (.cells #[vo] 32), m] ∧ Do p vo ((E.take k).filter rightD)) 0 ⟨by omega, .slice none 0 0, emp, ((Split.one m).new hbo _).addEmp, Do.nil _⟩
    (fun k x j => ∃ h : k < E.length, x = [Dv E[k]] ∧ j = k + 1) (fun k x j ⟨_, h1, _⟩ => by subst h1; rfl) ?_
    (fun mm => ∃ vo p, Split mm [p, blk1 bo (.cells #[vo] 32), m] ∧ Do p vo (E.filter rightD)) ?_ ?_
  · rintro k _ _ mm ⟨hk, vo, p, hs, hp⟩ ⟨hlt, rfl, rfl⟩
    have hst : E.take (k + 1) = E.take k ++ [E[k]] := List.take_succ_eq_append_getElem hlt
    generalize E[k] = x at hst
    conv => whnf
    intro b4 hb4
    conv => whnf
    refine ⟨_, _, _, Mem.set_same .., ⟨Nat.le_refl 2, noFr⟩, ?_⟩
    rw [storeAll (by rfl)]
    conv => whnf
    have hs4 := hs.new hb4 (.cells (encD x).toArray 31)
    change Split (mm.set b4 (.cells (LB.cells [.one (.int .i64 x.1), .one (.int .u64 x.2)]).toArray 31)) _ at hs4
    generalize mm.set b4 (.cells (LB.cells [.one (.int .i64 x.1), .one (.int .u64 x.2)]).toArray 31) = m2 at hs4 ⊢
    have hr4 : MRange m2 b4 0 (encD x) := ⟨_, _, _, hs4.get (a := blk1 b4 (.cells (encD x).toArray 31)) (by simp) (blk1_same ..), fun j u hu => by rw [Nat.zero_add, List.getElem?_toArray]; exact hu⟩
    refine ⟨[.one (.int .i64 x.1), .one (.int .u64 x.2)], ⟨rfl, rfl, trivial⟩, rfl, hr4, ?_⟩
    conv => whnf
    first | refine xretk (right3_spec (n := x.1) (k := x.2)) ?_ | refine xret (right3_spec (n := x.1) (k := x.2)) ?_
    conv => whnf
    refine ⟨fun h => ?_, fun h => ?_⟩
    · have hx : rightD x = true := h
      conv => whnf
      refine ⟨_, mcell_of (hs4.get (a := blk1 bo (.cells #[vo] 32)) (by simp) (blk1_same ..)) rfl, hp.ea.one, ?_⟩
      conv => whnf
      refine ⟨[.one (.int .i64 x.1), .one (.int .u64 x.2)], ⟨rfl, rfl, trivial⟩, rfl, hr4, ?_⟩
      conv => whnf
      refine .mk _ (buildD1 (e := x)) ?_
      rintro _ _ ⟨b5, hb5, rfl, rfl⟩
      conv => whnf
      have hfl : ((E.take k).filter rightD).length ≤ E.length := by have h1 := List.length_filter_le rightD (E.take k); rw [List.length_take] at h1; omega
      refine .mk _ (pushD (i := 1) hs4 rfl hb5 hp (by omega)) ?_
      rintro _ m6 ⟨vo', p', rfl, hs6, hp'⟩
      conv => whnf
      refine ⟨_, _, _, hs6.get (a := blk1 bo (.cells #[vo] 32)) (by simp) (blk1_same ..), ⟨by simp, by simp⟩, ?_⟩
      conv => whnf
      have hs7 := hs6.setAt (i := 2) rfl (blk1_same ..) (.cells #[vo'] 32)
      rw [blk1_set] at hs7
      refine ⟨by omega, vo', p', hs7.drop, ?_⟩
      rw [hst, List.filter_append, List.filter_cons_of_pos hx]
      exact hp'
    · have hx : ¬ rightD x = true := by have : rightD x = false := h; rw [this]; simp
      conv => whnf
      refine ⟨by omega, vo, p, hs4.drop, ?_⟩
      rw [hst, List.filter_append, List.filter_cons_of_neg hx]
      simpa using hp
  · intro lb ob _ hround
    refine (valIterD_spec (I := fun k mm => ∃ m1, (k ≤ E.length ∧ ∃ vo p, Split m1 [p, blk1 bo (.cells #[vo] 32), m] ∧ Do p vo ((E.take k).filter rightD)) ∧ m1 lb = none ∧ mm = m1.set lb ob) (l := lb) (b := b) (v := v) (E := E) (by omega) ?_ ?_ ⟨_, ⟨Nat.zero_le _, .slice none 0 0, emp, ((Split.one m).new hbo _).addEmp, Do.nil _⟩, by assumption, rfl⟩).mono ?_
    · rintro k mm ⟨m1, ⟨_, vo, p, hs, _⟩, hl, rfl⟩
      have hsub : Sub m (m1.set lb ob) := (hs.sub (by simp)).trans (Mem.sub_set _ hl)
      exact ⟨hsub _ _ hb, hv.sub hsub⟩
    · rintro k mm hk ⟨m1, hi, hl, rfl⟩
      exact hround k _ _ m1 hi ⟨hk, rfl, rfl⟩ hl
    · rintro r m' ⟨rfl, m1, ⟨_, vo, p, hs, hp⟩, hl, rfl⟩
      rw [List.take_length] at hp
      exact ⟨m1, ⟨vo, p, hs, hp⟩, hl, rfl⟩
  · rintro mm ⟨vo, p, hs, hp⟩
    have hfl : (E.filter rightD).length ≤ E.length := List.length_filter_le ..
    conv => whnf
    refine ⟨vo, mcell_of (hs.get (a := blk1 bo (.cells #[vo] 32)) (by simp) (blk1_same ..)) rfl, hp.ea.one, ?_⟩
    conv => whnf
    refine xcall ((sortD_spec hS hp (by omega)).at hs (i := 0) rfl) ?_
    rintro _ m1 ⟨p1, ⟨rfl, hp1⟩, hs1⟩
    conv => whnf
    refine ⟨vo, mcell_of (hs1.get (a := blk1 bo (.cells #[vo] 32)) (by simp) (blk1_same ..)) rfl, hp.ea.one, ?_⟩
    conv => whnf
    have hsl : (sortD (E.filter rightD)).length = (E.filter rightD).length := by unfold sortD; exact List.length_mergeSort _
    obtain ⟨J, hJ, hsJ, back⟩ := Split.pickP hs1
    refine xcall (compactD_spec hsJ hp1 (by omega)) ?_
    rintro _ m2 ⟨v2, p2, rfl, hs2', hp2⟩
    conv => whnf
    have hs2 : Split m2 [p2, blk1 bo (.cells #[vo] 32), m] := back _ _ hs2'
    refine ⟨_, _, _, hs2.get (a := blk1 bo (.cells #[vo] 32)) (by simp) (blk1_same ..), ⟨by simp, by simp⟩, ?_⟩
    conv => whnf
    have hs3 := hs2.setAt (i := 1) rfl (blk1_same ..) (.cells #[v2] 32)
    rw [blk1_set] at hs3
    have hs3 : Split (m2.set bo (.cells #[v2] 32)) [p2, blk1 bo (.cells #[v2] 32), m] := hs3
    have ebo : (m2.set bo (.cells #[v2] 32)) bo = some (.cells #[v2] 32) := Mem.set_same ..
    have hle := compD_le E
    have hset : setF E = (compD (sortD (E.filter rightD))).take 2000 := rfl
    rw [hset]
    generalize compD (sortD (E.filter rightD)) = L at hp2 hle
    obtain ⟨a2, c2, rfl⟩ := hp2.el.shape
    refine ⟨_, mcell_of ebo rfl, rfl, ?_⟩
    conv => whnf
    refine ⟨_, mcell_of ebo rfl, rfl, ?_⟩
    conv => whnf
    have emin : min (L.length : Int) 2000 = ((min L.length 2000 : Nat) : Int) := by omega
    rw [emin]
    cases a2 with
    | none =>
      have hL : L = [] := by
        rcases hp2 with ⟨e, h⟩ | ⟨b', o', c', n', arr, e, _⟩
        · exact List.eq_nil_of_length_eq_zero (encD_ok.count (n := 0) (by rw [h]; rfl))
        · cases e
      subst hL
      have hc2 : c2 = 0 := by
        rcases hp2 with ⟨e, h⟩ | ⟨b', o', c', n', arr, e, _⟩
        · injection e
        · cases e
      subst hc2
      rw [show ((min ([] : List Dt).length 2000 : Nat) : Int) = 0 from rfl]
      conv => whnf
      repeat (refine And.intro (by first | omega | (simp only [times]; omega)) ?_; conv => whnf)
      exact ⟨_, p2, rfl, hs3.erase 1, .inl ⟨rfl, rfl⟩⟩
    | some a2 =>
      obtain ⟨b9, o9, e9⟩ := (show ∃ b o, a2 = ⟨b, o, none⟩ by
        rcases hp2 with ⟨e, h⟩ | ⟨b', o', c', n', arr, e, _⟩
        · cases e
        · injection e with e; injection e with e; exact ⟨_, _, e⟩)
      subst e9
      obtain ⟨arr, r1, r2, r3, r4, r5⟩ := encD_ok.row hp2
      conv => whnf
      repeat (refine And.intro (by first | omega | (simp only [times]; omega)) ?_; conv => whnf)
      intro o' q1 q2
      obtain rfl : o' = o9 := by
        by_cases h0 : c2 = 0
        · exact q2 h0
        · have := q1 h0; simpa using this
      clear q1 q2
      conv => whnf
      have hcut := encD_ok.cut hp2 (i := min L.length 2000) (by omega)
      have et : L.take (min L.length 2000) = L.take 2000 := by
        by_cases h0 : L.length ≤ 2000
        · rw [List.take_of_length_le (by omega), List.take_of_length_le h0]
        · rw [Nat.min_eq_right (by omega)]
      rw [et] at hcut
      refine ⟨_, p2, rfl, hs3.erase 1, ?_⟩
      simp only [Int.toNat_natCast, Nat.sub_zero]
      exact hcut
theorem ofD_spec (hS : Strict) {m : Mem} {v : Value} {E : List Dt} (hv : Da m v E) (hl : E.length ≤ 1000000) :
    Spec Tryz.prog 62 [.v v] m fun r m' => ∃ v' p, r = [.v v'] ∧ Split m' [p, m] ∧ Do p v' (setF E) := by
  obtain ⟨a, c, rfl⟩ := hv.shape
  refine en62 rfl (goY ?_)
  conv => whnf
  refine xcall (valuesD_spec (v := .slice a E.length c) rfl) ?_
  rintro _ m1 ⟨b, hb, rfl, rfl⟩
  conv => whnf
  have hs := (Split.one m).new hb (.cells #[.slice a E.length c] 32)
  refine xcall (setV_spec hS (Mem.set_same ..) (hv.sub (hs.sub (by simp))) hl) ?_
  rintro _ m2 ⟨v', p, rfl, hs2, hp⟩
  conv => whnf
  exact ⟨v', p, rfl, (Split.beside hs2 hs).erase 1, hp⟩
theorem has4_spec {m : Mem} {v : Value} {E : List Dt} {d : Dt} (hv : Da m v E) (hl : E.length ≤ 100000000) : Ret Tryz.prog 34 [.v v, Dv d] m [boolV (E.contains d)] := by
  obtain ⟨a, c, rfl⟩ := hv.shape
  refine en34 rfl (goY ?_)
  conv => whnf
  first | refine xretk (containsEqD_spec hv hl) ?_ | refine xret (containsEqD_spec hv hl) ?_
  conv => whnf
  exact ⟨rfl, rfl⟩
end Go.E.YtheiididldemmaaGreat

/-
  Contracts of dots: which lists are sets; spans; whole sets.
-/
namespace Go.E.YtheiididldemmaaGreat
open Go.Proofs
set_option maxRecDepth 100000
def dAt (E : List Dt) (i : Nat) : Dt := E.getD i (0, 0)
theorem dAt_eq {E : List Dt} {i : Nat} (h : i < E.length) : E[i] = dAt E i := by rw [dAt, List.getD_eq_getElem?_getD, List.getElem?_eq_getElem h]; rfl
theorem dAt_mem {E : List Dt} {i : Nat} (h : i < E.length) : dAt E i ∈ E := by rw [← dAt_eq h]; exact List.getElem_mem h
def okD4 (E : List Dt) (i : Nat) : Bool := rightD (dAt E i) && (decide (i = 0) || dLess (dAt E (i - 1)) (dAt E i))
theorem ascD_iff : ∀ {E : List Dt}, ascD E = true ↔ ∀ i, i + 1 < E.length → dLess (dAt E i) (dAt E (i + 1)) = true
  | [] => by simp [ascD]
  | [a] => by simp [ascD]
  | a :: b :: r => by
    rw [ascD, Bool.and_eq_true, ascD_iff (E := b :: r)]
    constructor
    · rintro ⟨h1, h2⟩ i hi
      cases i with
      | zero => exact h1
      | succ i => exact h2 i (by simpa using hi)
    · intro h
      exact ⟨h 0 (by simp), fun i hi => h (i + 1) (by simpa using hi)⟩
theorem rightsD_eq (E : List Dt) : rightsD E = ((List.range E.length).all (okD4 E) && decide (E.length ≤ 2000)) := by
  unfold rightsD
  congr 1
  rw [Bool.eq_iff_iff, Bool.and_eq_true, ascD_iff, List.all_eq_true, List.all_eq_true]
  constructor
  · rintro ⟨h1, h2⟩ i hi
    have hi := List.mem_range.1 hi
    unfold okD4
    rw [h1 _ (dAt_mem hi), Bool.true_and, Bool.or_eq_true, decide_eq_true_eq]
    cases i with
    | zero => exact .inl rfl
    | succ i => exact .inr (h2 i hi)
  · intro h
    refine ⟨fun d hd => ?_, fun i hi => ?_⟩
    · obtain ⟨i, hi, rfl⟩ := List.getElem_of_mem hd
      have := h i (List.mem_range.2 hi)
      unfold okD4 at this
      rw [dAt_eq hi]
      exact (Bool.and_eq_true _ _ ▸ this).1
    · have := h (i + 1) (List.mem_range.2 hi)
      unfold okD4 at this
      simp only [Bool.and_eq_true, Bool.or_eq_true, decide_eq_true_eq, Nat.add_sub_cancel] at this
      rcases this.2 with h0 | h0
      · omega
      · exact h0
theorem dOrd_ge (a b : Dt) : decide (0 ≤ dOrd a b) = !dLess a b := by
  unfold dOrd
  cases h : dLess a b with
  | true => rfl
  | false => cases h2 : dLess b a <;> rfl
set_option maxHeartbeats 4000000 in
theorem rights4_spec {m : Mem} {v : Value} {E : List Dt} (hv : Da m v E) (hl : E.length ≤ 100000000) : Spec Tryz.prog 33 [.v v] m fun r m' => r = [boolV (rightsD E)] ∧ Sub m m' := by
  obtain ⟨a, c, rfl⟩ := hv.shape
  rw [rightsD_eq]
  have hbad : ∀ i, i < E.length → okD4 E i = false → ((List.range E.length).all (okD4 E) && decide (E.length ≤ 2000)) = false := fun i hi e => by
    have : (List.range E.length).all (okD4 E) = false := by
      rw [List.all_eq_false]; exact ⟨i, List.mem_range.2 hi, by rw [e]; decide⟩
    rw [this]; rfl
  refine en33 rfl (goY ?_)
  conv => whnf
  refine .mk (ι := Nat) (fun i => E.length - i) (fun i mm => i ≤ E.length ∧ (∀ j, j < i → okD4 E j = true) ∧ Sub m mm) (fun i => [(0, .c (.v (.slice a E.length c))), (5, .c (.v (.slice a E.length c))), (6, .c (i64 E.length)), (7, .c (i64 i))]) (fun _ => []) 0 ⟨by omega, by omega, Sub.refl _⟩ ?_ ?_
  · conv => whnf
    repeat (refine And.intro (by first | with_reducible rfl | exact congrArg (Value.int _) (wi (by omega) (by omega)) | exact wi (by omega) (by omega) | rfl) ?_; conv => whnf)
    first | exact trivial | exact fun _ _ h => h
  rintro i mm ⟨hi, hall, hs⟩
  conv => whnf
  refine ⟨fun h => ?_, fun h => ?_⟩
  · have h' := of_decide_eq_true h
    have hlt : i < E.length := by omega
    clear h
    obtain ⟨bl, ol, c', hh, hg⟩ := hv.real hlt
    injection hh with hh1 _ hh3
    subst hh1
    clear hh3 c'
    have hg' := hg i hlt
    rw [dAt_eq hlt] at hg'
    have hok : okD4 E i = (rightD (dAt E i) && (decide (i = 0) || dLess (dAt E (i - 1)) (dAt E i))) := rfl
    have hone := hg (i - 1) (by omega)
    rw [dAt_eq (by omega)] at hone
    have hbi := hbad i hlt
    generalize dAt E i = x at hg' hok
    conv => whnf
    repeat (refine And.intro (by first | omega | (simp only [times]; omega)) ?_; conv => whnf)
    refine ⟨[.one (.int .i64 x.1), .one (.int .u64 x.2)], ⟨rfl, rfl, trivial⟩, rfl, by simp only [times, Int.toNat_natCast]; exact hg'.sub hs, ?_⟩
    conv => whnf
    first | refine xretk (right3_spec (n := x.1) (k := x.2)) ?_ | refine xret (right3_spec (n := x.1) (k := x.2)) ?_
    conv => whnf
    by_cases hx : rightD x = true
    rotate_left
    · have hx' : rightN x.1 x.2 = false := by have : rightD x = false := by simpa using hx
                                              exact this
      have hx0 : rightD x = false := hx'
      rw [hx0] at hok
      rw [hx']
      refine ⟨fun _ => ?_, fun h => absurd h (by first | decide | simp)⟩
      conv => whnf
      exact ⟨by rw [hbi hok], hs⟩
    have hx' : rightN x.1 x.2 = true := hx
    rw [hx] at hok
    rw [hx']
    refine ⟨fun h => absurd h (by first | decide | simp), fun _ => ?_⟩
    conv => whnf
    refine ⟨fun h1 => ?_, fun h1 => ?_⟩
    · have h1' := of_decide_eq_true h1
      clear h1
      have ew : IntKind.i64.wrap ((i : Int) - 1) = ((i - 1 : Nat) : Int) := by rw [wi (by omega) (by omega)]; omega
      rw [decide_eq_false (show ¬ i = 0 by omega), Bool.false_or, Bool.true_and] at hok
      conv => whnf
      rw [ew]
      repeat (refine And.intro (by first | omega | (simp only [times]; omega)) ?_; conv => whnf)
      generalize dAt E (i - 1) = y at hone hok
      refine ⟨[.one (.int .i64 y.1), .one (.int .u64 y.2)], ⟨rfl, rfl, trivial⟩, rfl, by simp only [times, Int.toNat_natCast]; exact hone.sub hs, ?_⟩
      conv => whnf
      refine xcall (order4_spec (a := y) (b := x)) ?_
      rintro _ m3 ⟨rfl, hs3⟩
      conv => whnf
      first | refine ⟨fun _ h => (by cases h), ?_⟩ | skip
      conv => whnf
      rw [dOrd_ge]
      have hm3 : Sub m m3 := hs.trans hs3
      refine ⟨fun h2 => ?_, fun h2 => ?_⟩
      · have h2' : dLess y x = false := by simpa using h2
        rw [h2'] at hok
        conv => whnf
        exact ⟨by rw [hbi hok], hm3⟩
      · have h2' : dLess y x = true := by simpa using h2
        rw [h2'] at hok
        conv => whnf
        refine ⟨i + 1, ⟨by omega, fun j hj => ?_, hm3⟩, by omega, ?_⟩
        · by_cases e : j = i
          · subst e; exact hok
          · exact hall j (by omega)
        · conv => whnf
          repeat (refine And.intro (by first | with_reducible rfl | (first | exact congrArg (Value.int _) (iadd (by omega))) | exact congrArg (Value.int _) (wi (by omega) (by omega)) | exact wi (by omega) (by omega) | rfl) ?_; conv => whnf)
          first | exact trivial | exact fun _ _ h => h
    · have h1' := of_decide_eq_false h1
      clear h1
      rw [decide_eq_true (show i = 0 by omega)] at hok
      conv => whnf
      refine ⟨i + 1, ⟨by omega, fun j hj => ?_, hs⟩, by omega, ?_⟩
      · by_cases e : j = i
        · subst e; rw [hok]; rfl
        · exact hall j (by omega)
      · conv => whnf
        repeat (refine And.intro (by first | with_reducible rfl | (first | exact congrArg (Value.int _) (iadd (by omega))) | exact congrArg (Value.int _) (wi (by omega) (by omega)) | exact wi (by omega) (by omega) | rfl) ?_; conv => whnf)
        first | exact trivial | exact fun _ _ h => h
  · have h' := of_decide_eq_false h
    obtain rfl : i = E.length := by omega
    conv => whnf
    refine ⟨?_, hs⟩
    have : (List.range E.length).all (okD4 E) = true := List.all_eq_true.2 fun j hj => hall j (List.mem_range.1 hj)
    rw [this, Bool.true_and]
    simp
    omega
theorem rightsR_spec {m : Mem} {v : Value} {E : List Dt} (hv : Da m v E) (hl : E.length ≤ 100000000) : Ret Tryz.prog 33 [.v v] m [boolV (rightsD E)] :=
  (rights4_spec hv hl).ret fun _ _ h => h
theorem span_snoc (v : List Int) (l : List Dt) (d : Dt) : spanFrom v (l ++ [d]) = if rightD d then withD (spanFrom v l) d else spanFrom v l := by
  simp only [spanFrom, List.foldl_append, List.foldl_cons, List.foldl_nil]
theorem spanD_len (l : List Dt) : (spanD l).length = 8 := by
  have key : ∀ (l : List Dt) (v : List Int), v.length = 8 → (spanFrom v l).length = 8 := by
    intro l
    induction l with
    | nil => intro v hv; exact hv
    | cons d r ih =>
      intro v hv
      simp only [spanFrom, List.foldl_cons]
      split
      · exact ih _ (by rw [withD_len]; exact hv)
      · exact ih _ hv
  exact key l _ rfl
theorem span4_spec {m : Mem} {v : Value} {E : List Dt} (hv : Da m v E) (hI : ∀ d ∈ E, okD d) (hl : E.length ≤ 100000000) : Ret Tryz.prog 40 [.v v] m [vecV (spanD E)] := by
  obtain ⟨a, c, rfl⟩ := hv.shape
  refine en40 rfl (goY ?_)
  conv => whnf
  refine .mk (ι := Nat) (fun i => E.length - i) (fun i mm => i ≤ E.length ∧ mm = m) (fun i => [(2, .p 0 0), (3, .p 1 0), (6, .c (.v (.slice a E.length c))), (7, .c (i64 E.length)), (8, .c (i64 i))]) (fun i => [(38, [.ints .u64 8 zeros]), (38, [.ints .u64 8 (spanD (E.take i))])]) 0 ⟨by omega, rfl⟩ ?_ ?_
  · conv => whnf
    repeat (refine And.intro (by first | with_reducible rfl | exact congrArg (Value.int _) (wi (by omega) (by omega)) | exact wi (by omega) (by omega) | rfl) ?_; conv => whnf)
    first | exact trivial | exact fun _ _ h => h
  rintro i mm ⟨hi, he⟩
  subst mm
  conv => whnf
  refine ⟨fun h => ?_, fun h => ?_⟩
  · have h' := of_decide_eq_true h
    have hlt : i < E.length := by omega
    obtain ⟨bl, ol, c', hh, hg⟩ := hv.real hlt
    injection hh with hh1 _ hh3
    subst hh1
    clear hh3 c'
    have hg := hg i hlt
    have hst : E.take (i + 1) = E.take i ++ [E[i]] := List.take_succ_eq_append_getElem hlt
    have hok := hI _ (List.getElem_mem hlt)
    generalize E[i] = x at hg hst hok
    have hsn : spanD (E.take (i + 1)) = if rightD x then withD (spanD (E.take i)) x else spanD (E.take i) := by rw [hst]; exact span_snoc _ _ _
    conv => whnf
    repeat (refine And.intro (by first | omega | (simp only [times]; omega)) ?_; conv => whnf)
    refine ⟨[.one (.int .i64 x.1), .one (.int .u64 x.2)], ⟨rfl, rfl, trivial⟩, rfl, by simp only [times, Int.toNat_natCast]; exact hg, ?_⟩
    conv => whnf
    first | refine xretk (right3_spec (n := x.1) (k := x.2)) ?_ | refine xret (right3_spec (n := x.1) (k := x.2)) ?_
    conv => whnf
    refine ⟨fun h => ?_, fun h => ?_⟩
    · have hx : rightD x = true := h
      rw [if_pos hx] at hsn
      conv => whnf
      first | refine xretk (with_spec (v := spanD (E.take i)) (n := x.1) (k := x.2) hok.1) ?_ | refine xret (with_spec (v := spanD (E.take i)) (n := x.1) (k := x.2) hok.1) ?_
      conv => whnf
      refine ⟨i + 1, ⟨by omega, rfl⟩, by omega, ?_⟩
      conv => whnf
      repeat (refine And.intro (by first | with_reducible rfl | (first | exact congrArg (Value.int _) (iadd (by omega)) | exact hsn.symm) | exact congrArg (Value.int _) (wi (by omega) (by omega)) | exact wi (by omega) (by omega) | rfl) ?_; conv => whnf)
      first | exact trivial | exact fun _ _ h => h
    · have hx : rightD x = false := h
      rw [if_neg (by rw [hx]; simp)] at hsn
      conv => whnf
      refine ⟨i + 1, ⟨by omega, rfl⟩, by omega, ?_⟩
      conv => whnf
      repeat (refine And.intro (by first | with_reducible rfl | (first | exact congrArg (Value.int _) (iadd (by omega)) | exact hsn.symm) | exact congrArg (Value.int _) (wi (by omega) (by omega)) | exact wi (by omega) (by omega) | rfl) ?_; conv => whnf)
      first | exact trivial | exact fun _ _ h => h
  · have h' := of_decide_eq_false h
    obtain rfl : i = E.length := by omega
    rw [List.take_length]
    conv => whnf
    exact ⟨rfl, rfl⟩
end Go.E.YtheiididldemmaaGreat

/-
  Contracts of cart: equal carts, what is off; of edit: equal events, which ops may be.
-/
namespace Go.E.YtheiididldemmaaGreat
open Go.Proofs
set_option maxRecDepth 100000
abbrev cartV (v : List Int) (a : Option Addr) (n c : Nat) : CV := .a [.ints .u64 8 v, .one (.slice a n c)]
theorem beqL (u w : List Int) : eqLB [.ints .u64 8 u] [.ints .u64 8 w] = decide (u = w) := by
  rw [Bool.eq_iff_iff]
  simp [eqLB]
theorem sameC_spec {m : Mem} {u w : List Int} {a a' : Option Addr} {c c' : Nat} {E K : List En} (hv : Na m (.slice a E.length c) E) (hw : Na m (.slice a' K.length c') K) (hl : E.length ≤ 100000000) :
    Ret Tryz.prog 11 [cartV u a E.length c, cartV w a' K.length c'] m [boolV (decide (u = w) && decide (E = K))] := by
  refine en11 rfl (goY ?_)
  conv => whnf
  rw [beqL]
  refine ⟨fun h => ?_, fun h => ?_⟩
  · conv => whnf
    first | refine xretk (equalN_spec hv hw hl) ?_ | refine xret (equalN_spec hv hw hl) ?_
    conv => whnf
    exact ⟨by rw [h]; rfl, rfl⟩
  · conv => whnf
    exact ⟨by rw [h]; rfl, rfl⟩
theorem isOff1_spec {m : Mem} {e : En} {d : Dt} {b : Nat} (hb : m b = some (.cells (encD d).toArray 31)) : Ret Tryz.prog 78 [Nv e, ptrV b] m [boolV (decide (enDot e = d))] := by
  have hr : MRange m b 0 (encD d) := ⟨_, _, _, hb, fun j u hu => by rw [Nat.zero_add, List.getElem?_toArray]; exact hu⟩
  refine en78 rfl (goY ?_)
  conv => whnf
  refine ⟨[.one (.int .i64 d.1), .one (.int .u64 d.2)], ⟨rfl, rfl, trivial⟩, rfl, hr, ?_⟩
  conv => whnf
  first | refine xretk (cdot_spec (e := e)) ?_ | refine xret (cdot_spec (e := e)) ?_
  conv => whnf
  exact ⟨by rw [eqPD], rfl⟩
theorem isOff_spec {m : Mem} {u : List Int} {a : Option Addr} {c : Nat} {E : List En} {d : Dt} (hv : Na m (.slice a E.length c) E) (hd : I d.1) (hl : E.length ≤ 100000000) :
    Ret Tryz.prog 48 [cartV u a E.length c, Dv d] m [boolV (isOff (u, E) d)] := by
  refine Spec.ret (R := fun r m' => r = [boolV (isOff (u, E) d)] ∧ Sub m m') ?_ fun _ _ h => h
  refine en48 rfl (goY ?_)
  conv => whnf
  intro b hb
  conv => whnf
  refine .mk _ (makeFunc_spec (cs := [.pointer (some ⟨b, 0, none⟩)]) (by simp [Value.oneCell'])) ?_
  rintro _ _ ⟨rfl, rfl⟩
  conv => whnf
  have hs := Mem.sub_set (.cells (encD d).toArray 31) hb
  have hb2 : (m.set b (.cells (encD d).toArray 31)) b = some (.cells (encD d).toArray 31) := Mem.set_same ..
  have hr : MRange (m.set b (.cells (encD d).toArray 31)) b 0 (encD d) := ⟨_, _, _, hb2, fun j u hu => by rw [Nat.zero_add, List.getElem?_toArray]; exact hu⟩
  refine ⟨[.one (.int .i64 d.1), .one (.int .u64 d.2)], ⟨rfl, rfl, trivial⟩, rfl, hr, ?_⟩
  conv => whnf
  first | refine xretk (has_spec (v := u) (n := d.1) (k := d.2) hd) ?_ | refine xret (has_spec (v := u) (n := d.1) (k := d.2) hd) ?_
  conv => whnf
  refine ⟨fun h => ?_, fun h => ?_⟩
  · have h' : hasV u d = true := h
    conv => whnf
    first | refine xretk (containsN1_spec (p := fun e => decide (enDot e = d)) (hv.sub hs) (fun e _ => isOff1_spec hb2) hl) ?_ | refine xret (containsN1_spec (p := fun e => decide (enDot e = d)) (hv.sub hs) (fun e _ => isOff1_spec hb2) hl) ?_
    conv => whnf
    exact ⟨by unfold isOff; rw [h']; rfl, hs⟩
  · have h' : hasV u d = false := h
    conv => whnf
    exact ⟨by unfold isOff; rw [h']; rfl, hs⟩
theorem ev_ne {e e' : Ev} (h : e.1.1 ≠ e'.1.1 ∨ e.1.2.1 ≠ e'.1.2.1 ∨ e.1.2.2 ≠ e'.1.2.2 ∨ e.2.1 ≠ e'.2.1) : decide (e = e') = false := by
  refine decide_eq_false fun he => ?_
  subst he
  simp at h
set_option maxHeartbeats 2000000 in
theorem sameE_spec {m : Mem} {r r' : Rv} {e e' : Ev} (hr : EvIs m r e) (hr' : EvIs m r' e') (hl : e.2.2.length ≤ 100000000) : Ret Tryz.prog 17 [Vv r, Vv r'] m [boolV (decide (e = e'))] := by
  obtain ⟨⟨k1, k2, k3⟩, ⟨d1, d2⟩, a, n, c⟩ := r
  obtain ⟨⟨k1', k2', k3'⟩, ⟨d1', d2'⟩, a', n', c'⟩ := r'
  have hn := hr.len
  have hn' := hr'.len
  have hk := hr.k
  have hk' := hr'.k
  have hd := hr.d
  have hd' := hr'.d
  have ho := hr.off
  have ho' := hr'.off
  simp only at hn hn' hk hk' hd hd' ho ho'
  obtain ⟨ek, ed, eo⟩ := e
  obtain ⟨ek', ed', eo'⟩ := e'
  simp only at hn hn' hk hk' hd hd' ho ho'
  subst hk hk' hd hd'
  refine en17 rfl (goY ?_)
  conv => whnf
  refine ⟨fun h => ?_, fun h => ?_⟩
  rotate_left
  · conv => whnf
    exact ⟨by rw [ev_ne (.inl (by simpa using h))], rfl⟩
  have h1 : k1 = k1' := by simpa using h
  conv => whnf
  refine ⟨fun h => ?_, fun h => ?_⟩
  rotate_left
  · conv => whnf
    exact ⟨by rw [ev_ne (.inr (.inl (by simpa using h)))], rfl⟩
  have h2 : k2 = k2' := by simpa using h
  conv => whnf
  refine ⟨fun h => ?_, fun h => ?_⟩
  rotate_left
  · conv => whnf
    exact ⟨by rw [ev_ne (.inr (.inr (.inl (by simpa using h))))], rfl⟩
  have h3 : k3 = k3' := by simpa using h
  conv => whnf
  have heq := eqPD (d1, d2) (d1', d2')
  simp only at heq
  rw [heq]
  refine ⟨fun h => ?_, fun h => ?_⟩
  rotate_left
  · conv => whnf
    exact ⟨by rw [ev_ne (.inr (.inr (.inr (of_decide_eq_false h))))], rfl⟩
  have h4 := of_decide_eq_true h
  conv => whnf
  subst hn hn'
  first | refine xretk (equalD_spec ho ho' hl) ?_ | refine xret (equalD_spec ho ho' hl) ?_
  conv => whnf
  refine ⟨?_, rfl⟩
  congr 1
  rw [decide_eq_decide.2]
  injection h4 with h4 h5
  subst h1 h2 h3 h4 h5
  simp
theorem within_spec {m : Mem} {n x y : Int} : Ret Tryz.prog 55 [i64 n, i64 x, i64 y] m [boolV (decide (x ≤ n) && decide (n ≤ y))] := by
  refine en55 rfl (goY ?_)
  conv => whnf
  refine ⟨fun h => ?_, fun h => ?_⟩
  · conv => whnf
    exact ⟨by rw [h]; rfl, rfl⟩
  · conv => whnf
    exact ⟨by rw [h]; rfl, rfl⟩
abbrev opV (k i q : Int) : CV := .a [.one (.int .i64 k), .one (.int .i64 i), .one (.int .i64 q)]
theorem may_spec {m : Mem} {k i q : Int} : Ret Tryz.prog 36 [opV k i q] m [boolV (mayF k i q)] := by
  refine en36 rfl (goY ?_)
  conv => whnf
  refine ⟨fun h => ?_, fun h => ?_⟩
  · have h4 : k = 4 := by simpa using h
    conv => whnf
    refine ⟨?_, rfl⟩
    subst h4
    simp [mayF, eqLB, ceq, beqG]
  have h4 : ¬ k = 4 := by simpa using h
  have hm : mayF k i q = if ¬ (1 ≤ i ∧ i ≤ 60) then false
      else if k = 1 then !decide (q = 0) && decide (-1000 ≤ q ∧ q ≤ 1000)
      else if k = 2 then decide (0 ≤ q ∧ q ≤ 1000)
      else decide (k = 3) && decide (q = 0) := by unfold mayF; rw [if_neg h4]
  rw [hm]
  clear h hm
  conv => whnf
  first | refine xretk (within_spec) ?_ | refine xret (within_spec) ?_
  conv => whnf
  refine ⟨fun h => ?_, fun h => ?_⟩
  · have hi : ¬ (1 ≤ i ∧ i ≤ 60) := by simp at h; omega
    conv => whnf
    exact ⟨by rw [if_pos hi], rfl⟩
  have hi : 1 ≤ i ∧ i ≤ 60 := by simp at h; omega
  rw [if_neg (by simpa using hi)]
  clear h
  conv => whnf
  refine ⟨fun h => ?_, fun h => ?_⟩
  · have h1 : k = 1 := by simpa using h
    rw [if_pos h1]
    conv => whnf
    refine ⟨fun h => ?_, fun h => ?_⟩
    · have hq : ¬ q = 0 := by simpa using h
      conv => whnf
      first | refine xretk (within_spec) ?_ | refine xret (within_spec) ?_
      conv => whnf
      refine ⟨?_, rfl⟩
      rw [decide_eq_false hq]
      simp
    · have hq : q = 0 := by simpa using h
      conv => whnf
      exact ⟨by rw [decide_eq_true hq]; rfl, rfl⟩
  have h1 : ¬ k = 1 := by simpa using h
  rw [if_neg h1]
  clear h
  conv => whnf
  refine ⟨fun h => ?_, fun h => ?_⟩
  · have h2 : k = 2 := by simpa using h
    rw [if_pos h2]
    conv => whnf
    first | refine xretk (within_spec) ?_ | refine xret (within_spec) ?_
    conv => whnf
    exact ⟨by simp, rfl⟩
  have h2 : ¬ k = 2 := by simpa using h
  rw [if_neg h2]
  clear h
  conv => whnf
  refine ⟨fun h => ?_, fun h => ?_⟩
  · have h3 : k = 3 := by simpa using h
    conv => whnf
    exact ⟨by rw [decide_eq_true h3, beqG]; rfl, rfl⟩
  · have h3 : ¬ k = 3 := by simpa using h
    conv => whnf
    exact ⟨by rw [decide_eq_false h3]; rfl, rfl⟩
end Go.E.YtheiididldemmaaGreat

/-
  Slices of maund/edit.Event: slices.IndexFunc, ContainsFunc.
-/
namespace Go.E.YtheiididldemmaaGreat
open Go.Proofs
set_option maxRecDepth 100000
set_option maxHeartbeats 1000000 in
theorem indexV0_spec {m : Mem} {v : Value} {E : List Rv} {F : Nat} {p : Rv → Bool} (hv : Va m v E) (hF : ∀ e ∈ E, Ret Tryz.prog F [Vv e] m [boolV (p e)]) (hl : E.length ≤ 100000000) : Ret Tryz.prog 45 [.v v, (fn0V F)] m [i64 (idxG p E)] := by
  obtain ⟨a, c, rfl⟩ := hv.shape
  refine en45 rfl (goY ?_)
  conv => whnf
  refine .mk (ι := Nat) (fun i => E.length - i) (fun i mm => i ≤ E.length ∧ (∀ x ∈ E.take i, p x = false) ∧ mm = m) (fun i => [(0, .c (.v (.slice a E.length c))), (1, .c (fn0V F)), (7, .c (i64 E.length)), (8, .c (i64 i))]) (fun _ => []) 0 ⟨by omega, by simp, rfl⟩ ?_ ?_
  · conv => whnf
    repeat (refine And.intro (by first | with_reducible rfl | exact congrArg (Value.int _) (wi (by omega) (by omega)) | exact wi (by omega) (by omega) | rfl) ?_; conv => whnf)
    first | exact trivial | exact fun _ _ h => h
  rintro i mm ⟨hi, hall, he⟩
  subst mm
  conv => whnf
  refine ⟨fun h => ?_, fun h => ?_⟩
  · have h' := of_decide_eq_true h
    have hlt : i < E.length := by omega
    obtain ⟨bl, ol, c', hh, hg⟩ := hv.real hlt
    injection hh with hh1 _ hh3
    subst hh1
    clear hh3 c'
    have hg := hg i hlt
    conv => whnf
    repeat (refine And.intro (by first | omega | (simp only [times]; omega)) ?_; conv => whnf)
    refine ⟨[.one (.int .i64 E[i].1.1), .one (.int .i64 E[i].1.2.1), .one (.int .i64 E[i].1.2.2), .one (.int .i64 E[i].2.1.1), .one (.int .u64 E[i].2.1.2), .one (.slice E[i].2.2.1 E[i].2.2.2.1 E[i].2.2.2.2)], ⟨rfl, rfl, rfl, rfl, rfl, rfl, trivial⟩, rfl, by simp only [times, Int.toNat_natCast]; exact hg, ?_⟩
    conv => whnf
    first | refine xretk ((hF E[i] (List.getElem_mem hlt))) ?_ | refine xret ((hF E[i] (List.getElem_mem hlt))) ?_
    conv => whnf
    have hst : E.take (i + 1) = E.take i ++ [E[i]] := List.take_succ_eq_append_getElem hlt
    refine ⟨fun h => ?_, fun h => ?_⟩
    · conv => whnf
      exact ⟨by rw [idxG_at hlt hall h], rfl⟩
    · conv => whnf
      refine ⟨i + 1, ⟨by omega, fun x hx => ?_, rfl⟩, by omega, ?_⟩
      · rw [hst] at hx
        rcases List.mem_append.1 hx with hx | hx
        · exact hall x hx
        · rw [List.mem_singleton.1 hx]; exact h
      · conv => whnf
        repeat (refine And.intro (by first | with_reducible rfl | (first | exact congrArg (Value.int _) (iadd (by omega))) | exact congrArg (Value.int _) (wi (by omega) (by omega)) | exact wi (by omega) (by omega) | rfl) ?_; conv => whnf)
        first | exact trivial | exact fun _ _ h => h
  · have h' := of_decide_eq_false h
    obtain rfl : i = E.length := by omega
    rw [List.take_length] at hall
    conv => whnf
    exact ⟨by rw [idxG_none hall], rfl⟩
theorem containsV0_spec {m : Mem} {v : Value} {E : List Rv} {F : Nat} {p : Rv → Bool} (hv : Va m v E) (hF : ∀ e ∈ E, Ret Tryz.prog F [Vv e] m [boolV (p e)]) (hl : E.length ≤ 100000000) : Ret Tryz.prog 56 [.v v, (fn0V F)] m [boolV (E.any p)] := by
  obtain ⟨a, c, rfl⟩ := hv.shape
  refine en56 rfl (goY ?_)
  conv => whnf
  first | refine xretk (indexV0_spec hv hF hl) ?_ | refine xret (indexV0_spec hv hF hl) ?_
  conv => whnf
  exact ⟨by rw [idxG_nonneg], rfl⟩
set_option maxHeartbeats 1000000 in
theorem indexV1_spec {m : Mem} {v : Value} {E : List Rv} {F b : Nat} {p : Rv → Bool} (hv : Va m v E) (hF : ∀ e ∈ E, Ret Tryz.prog F [Vv e, ptrV b] m [boolV (p e)]) (hl : E.length ≤ 100000000) : Ret Tryz.prog 45 [.v v, (fnP1V F b)] m [i64 (idxG p E)] := by
  obtain ⟨a, c, rfl⟩ := hv.shape
  refine en45 rfl (goY ?_)
  conv => whnf
  refine .mk (ι := Nat) (fun i => E.length - i) (fun i mm => i ≤ E.length ∧ (∀ x ∈ E.take i, p x = false) ∧ mm = m) (fun i => [(0, .c (.v (.slice a E.length c))), (1, .c (fnP1V F b)), (7, .c (i64 E.length)), (8, .c (i64 i))]) (fun _ => []) 0 ⟨by omega, by simp, rfl⟩ ?_ ?_
  · conv => whnf
    repeat (refine And.intro (by first | with_reducible rfl | exact congrArg (Value.int _) (wi (by omega) (by omega)) | exact wi (by omega) (by omega) | rfl) ?_; conv => whnf)
    first | exact trivial | exact fun _ _ h => h
  rintro i mm ⟨hi, hall, he⟩
  subst mm
  conv => whnf
  refine ⟨fun h => ?_, fun h => ?_⟩
  · have h' := of_decide_eq_true h
    have hlt : i < E.length := by omega
    obtain ⟨bl, ol, c', hh, hg⟩ := hv.real hlt
    injection hh with hh1 _ hh3
    subst hh1
    clear hh3 c'
    have hg := hg i hlt
    conv => whnf
    repeat (refine And.intro (by first | omega | (simp only [times]; omega)) ?_; conv => whnf)
    refine ⟨[.one (.int .i64 E[i].1.1), .one (.int .i64 E[i].1.2.1), .one (.int .i64 E[i].1.2.2), .one (.int .i64 E[i].2.1.1), .one (.int .u64 E[i].2.1.2), .one (.slice E[i].2.2.1 E[i].2.2.2.1 E[i].2.2.2.2)], ⟨rfl, rfl, rfl, rfl, rfl, rfl, trivial⟩, rfl, by simp only [times, Int.toNat_natCast]; exact hg, ?_⟩
    conv => whnf
    first | refine xretk ((hF E[i] (List.getElem_mem hlt))) ?_ | refine xret ((hF E[i] (List.getElem_mem hlt))) ?_
    conv => whnf
    have hst : E.take (i + 1) = E.take i ++ [E[i]] := List.take_succ_eq_append_getElem hlt
    refine ⟨fun h => ?_, fun h => ?_⟩
    · conv => whnf
      exact ⟨by rw [idxG_at hlt hall h], rfl⟩
    · conv => whnf
      refine ⟨i + 1, ⟨by omega, fun x hx => ?_, rfl⟩, by omega, ?_⟩
      · rw [hst] at hx
        rcases List.mem_append.1 hx with hx | hx
        · exact hall x hx
        · rw [List.mem_singleton.1 hx]; exact h
      · conv => whnf
        repeat (refine And.intro (by first | with_reducible rfl | (first | exact congrArg (Value.int _) (iadd (by omega))) | exact congrArg (Value.int _) (wi (by omega) (by omega)) | exact wi (by omega) (by omega) | rfl) ?_; conv => whnf)
        first | exact trivial | exact fun _ _ h => h
  · have h' := of_decide_eq_false h
    obtain rfl : i = E.length := by omega
    rw [List.take_length] at hall
    conv => whnf
    exact ⟨by rw [idxG_none hall], rfl⟩
theorem containsV1_spec {m : Mem} {v : Value} {E : List Rv} {F b : Nat} {p : Rv → Bool} (hv : Va m v E) (hF : ∀ e ∈ E, Ret Tryz.prog F [Vv e, ptrV b] m [boolV (p e)]) (hl : E.length ≤ 100000000) : Ret Tryz.prog 56 [.v v, (fnP1V F b)] m [boolV (E.any p)] := by
  obtain ⟨a, c, rfl⟩ := hv.shape
  refine en56 rfl (goY ?_)
  conv => whnf
  first | refine xretk (indexV1_spec hv hF hl) ?_ | refine xret (indexV1_spec hv hF hl) ?_
  conv => whnf
  exact ⟨by rw [idxG_nonneg], rfl⟩
end Go.E.YtheiididldemmaaGreat

/-
  Slices of maund/edit.Event: slices.Grow of none, Concat.
-/
namespace Go.E.YtheiididldemmaaGreat
open Go.Proofs
set_option maxRecDepth 100000
theorem growV_spec {m : Mem} {n : Nat} (hn : n ≤ 1000000) :
    Spec Tryz.prog 82 [.v (.slice none 0 0), .v (.int .i64 n)] m fun r m' => ∃ v p, r = [.v v] ∧ Split m' [p, m] ∧ Vo p v [] := by
  obtain ⟨ti, t1, t2⟩ := hVs
  obtain ⟨ei, g1, g2, g3, g4⟩ := hVn
  refine en82 rfl (goY ?_)
  conv => whnf
  refine ⟨fun h => absurd h (by (simp; try omega)), fun _ => ?_⟩
  conv => whnf
  refine .mk _ (cap_spec tt_ok (by rfl) rfl) ?_
  rintro _ _ ⟨rfl, rfl⟩
  conv => whnf
  have e : IntKind.i64.wrap ((n : Int) - IntKind.i64.wrap (((0 : Nat) : Int) - ((0 : Nat) : Int))) = (n : Int) := by rw [wi (n := ((0 : Nat) : Int) - ((0 : Nat) : Int)) (by omega) (by omega), wi (by omega) (by omega)]; omega
  rw [e]
  refine ⟨fun h => ?_, fun h => ?_⟩
  · have h' := of_decide_eq_true h
    conv => whnf
    refine .mk _ (cap_spec tt_ok (by rfl) rfl) ?_
    rintro _ _ ⟨rfl, rfl⟩
    conv => whnf
    repeat (refine And.intro (by first | omega | (simp only [times]; omega)) ?_; conv => whnf)
    refine .mk _ (appendZeros_spec (n := 0) (c := 0) (a := none) (l := []) tt_ok t1 t2 g1 hI' rfl (by rw [g2]; decide) rfl (.inl ⟨0, rfl, by simp⟩) (by omega) (by omega) (by rw [g3]; omega) (by omega)) ?_
    rintro _ _ ⟨b, C, hb, hC, rfl, rfl⟩
    conv => whnf
    repeat (refine And.intro (by first | omega | (simp only [times]; omega)) ?_; conv => whnf)
    intro o' h1 h2
    obtain rfl : o' = 0 := by have := h1 (by omega); simpa using this
    conv => whnf
    refine ⟨_, blk1 b _, rfl, (Split.one m).new hb _, .inr ⟨b, 0, C, 0, _, rfl, blk1_same .., rfl, Nat.zero_le _, ?_, by intro j u hu; simp at hu, by simp⟩⟩
    simp only [Array.size_append, zeroCells_size, List.size_toArray, List.length_nil, g4]
    have hz : (encV ((0, 0, 0), (0, 0), (none, 0, 0))).length = 6 := rfl
    rw [hz]
    omega
  · have h' := of_decide_eq_false h
    conv => whnf
    exact ⟨_, emp, rfl, (Split.one m).addEmp, Vo.nil _⟩
structure LsV (m : Mem) (v : Value) (ps : List (Value × List Rv)) : Prop where
  lies : Lies m 1 v (ps.map (·.1))
  la : ∀ p ∈ ps, Va m p.1 p.2
theorem LsV.shape {m : Mem} {v : Value} {ps : List (Value × List Rv)} (h : LsV m v ps) : ∃ a c, v = .slice a ps.length c := by
  rcases h.lies with ⟨c, rfl, e⟩ | ⟨b, o, c, n, arr, t, fr, rfl, _, e, _⟩
  · have : ps.length = 0 := by simpa using congrArg List.length e
    exact ⟨none, c, by rw [this]⟩
  · have : ps.length = n := by simpa using e
    exact ⟨_, c, by rw [this]⟩
theorem LsV.real {m : Mem} {v : Value} {ps : List (Value × List Rv)} (h : LsV m v ps) {i : Nat} (hi : i < ps.length) : ∃ b o c, v = .slice (some ⟨b, o, none⟩) ps.length c ∧ ∀ (i : Nat) (hi : i < ps.length), mcell m b (o + i) = some ps[i].1 := by
  rcases h.lies with ⟨c, rfl, e⟩ | ⟨b, o, c, n, arr, t, fr, rfl, g1, e, _, g2, _⟩
  · have : ps.length = 0 := by simpa using congrArg List.length e
    omega
  · have : ps.length = n := by simpa using e
    exact ⟨b, o, c, by rw [this], fun j hj => mcell_of g1 (g2 j _ (by simp [hj]))⟩
def catV (ps : List (Value × List Rv)) : List Rv := (ps.map (·.2)).flatten
theorem catV_take {ps : List (Value × List Rv)} {i : Nat} (h : i < ps.length) : catV (ps.take i) ++ ps[i].2 = catV (ps.take (i + 1)) := by
  rw [List.take_succ_eq_append_getElem h, catV, catV, List.map_append, List.flatten_append]; simp
theorem catV_le {ps : List (Value × List Rv)} (i : Nat) : (catV (ps.take i)).length ≤ (catV ps).length := by
  have e : catV ps = catV (ps.take i) ++ catV (ps.drop i) := by
    rw [catV, catV, catV, ← List.flatten_append, ← List.map_append, List.take_append_drop]
  rw [e, List.length_append]; omega
set_option maxHeartbeats 2000000 in
theorem concatV_spec {m : Mem} {v : Value} {ps : List (Value × List Rv)} (h : LsV m v ps) (hb : (catV ps).length ≤ 1000000) (hn : ps.length ≤ 1000000) :
    Spec Tryz.prog 50 [.v v] m fun r m' => ∃ v' p, r = [.v v'] ∧ Split m' [p, m] ∧ Vo p v' (catV ps) := by
  obtain ⟨a, c, rfl⟩ := h.shape
  refine en50 rfl (goY ?_)
  conv => whnf
  refine .mk (ι := Nat) (fun i => ps.length - i) (fun i mm => i ≤ ps.length ∧ mm = m) (fun i => [(0, .c (.v (.slice a ps.length c))), (3, .c (i64 (catV (ps.take i)).length)), (9, .c (.v (.slice a ps.length c))), (10, .c (i64 ps.length)), (11, .c (i64 i))]) (fun _ => []) 0 ⟨by omega, rfl⟩ ?_ ?_
  · conv => whnf
    repeat (refine And.intro (by first | with_reducible rfl | exact congrArg (Value.int _) (wi (by omega) (by omega)) | exact wi (by omega) (by omega) | rfl) ?_; conv => whnf)
    first | exact trivial | exact fun _ _ h => h
  rintro i mm ⟨hi, he⟩
  subst mm
  conv => whnf
  refine ⟨fun h1 => ?_, fun h1 => ?_⟩
  · have h1' := of_decide_eq_true h1
    have hlt : i < ps.length := by omega
    obtain ⟨b, o, c', e, hat⟩ := h.real hlt
    cases e
    have hla := h.la ps[i] (by simp)
    obtain ⟨ai, ci, hvi⟩ := hla.shape
    have hc := hat i hlt
    rw [hvi] at hc
    have hle := catV_le (ps := ps) (i + 1)
    rw [← catV_take hlt, List.length_append] at hle
    conv => whnf
    repeat (refine And.intro (by first | omega | (simp only [times]; omega)) ?_; conv => whnf)
    refine ⟨_, hc, rfl, ?_⟩
    conv => whnf
    have e3 : IntKind.i64.wrap (((catV (ps.take i)).length : Int) + (ps[i].2.length : Int)) = ((catV (ps.take (i + 1))).length : Int) := by
      rw [← catV_take hlt, List.length_append, wi (by omega) (by omega)]; omega
    rw [e3]
    refine ⟨fun h => absurd h (by (simp; try omega)), fun _ => ?_⟩
    conv => whnf
    refine ⟨i + 1, ⟨by omega, rfl⟩, by omega, ?_⟩
    conv => whnf
    repeat (refine And.intro (by first | with_reducible rfl | (exact congrArg (Value.int _) (iadd (by omega))) | exact congrArg (Value.int _) (wi (by omega) (by omega)) | exact wi (by omega) (by omega) | rfl) ?_; conv => whnf)
    first | exact trivial | exact fun _ _ h => h
  · have h1' := of_decide_eq_false h1
    obtain rfl : i = ps.length := by omega
    rw [List.take_length]
    conv => whnf
    refine xcall (growV_spec (n := (catV ps).length) (by omega)) ?_
    rintro _ m2 ⟨v2, p2, rfl, hs2, hv2⟩
    conv => whnf
    refine .mk (ι := Nat × Value) (fun i => ps.length - i.1) (fun ⟨i, x⟩ mm => i ≤ ps.length ∧ ∃ p, Split mm [p, m] ∧ Vo p x (catV (ps.take i))) (fun ⟨i, x⟩ => [(6, .c (.v x)), (25, .c (.v (.slice a ps.length c))), (26, .c (i64 ps.length)), (27, .c (i64 i))]) (fun _ => []) (0, v2) ⟨by omega, p2, hs2, by simpa [catV] using hv2⟩ ?_ ?_
    · conv => whnf
      repeat (refine And.intro (by first | with_reducible rfl | exact congrArg (Value.int _) (wi (by omega) (by omega)) | exact wi (by omega) (by omega) | rfl) ?_; conv => whnf)
      first | exact trivial | exact fun _ _ h => h
    rintro ⟨i, x⟩ mm ⟨hi, p, hs, hx⟩
    conv => whnf
    refine ⟨fun h2 => ?_, fun h2 => ?_⟩
    · have h2' := of_decide_eq_true h2
      have hlt : i < ps.length := by omega
      obtain ⟨b, o, c', e, hat⟩ := h.real hlt
      cases e
      have hla := h.la ps[i] (by simp)
      have hle := catV_le (ps := ps) (i + 1)
      rw [← catV_take hlt, List.length_append] at hle
      have hc : mcell mm b (o + i) = some ps[i].1 := mcell_sub (hat i hlt) (hs.at (i := 1) rfl)
      conv => whnf
      repeat (refine And.intro (by first | omega | (simp only [times]; omega)) ?_; conv => whnf)
      refine ⟨_, hc, hla.one, ?_⟩
      conv => whnf
      refine .mk _ (appendVat (i := 0) hs rfl hx (hla.sub (hs.at (i := 1) rfl)) (by omega)) ?_
      rintro _ m3 ⟨v3, p3, rfl, hs3, hv3⟩
      conv => whnf
      refine ⟨(i + 1, v3), ⟨by omega, p3, hs3, ?_⟩, by simp only; omega, ?_⟩
      · rw [catV_take hlt] at hv3; exact hv3
      · conv => whnf
        repeat (refine And.intro (by first | with_reducible rfl | (exact congrArg (Value.int _) (iadd (by omega))) | exact congrArg (Value.int _) (wi (by omega) (by omega)) | exact wi (by omega) (by omega) | rfl) ?_; conv => whnf)
        first | exact trivial | exact fun _ _ h => h
    · have h2' := of_decide_eq_false h2
      obtain rfl : i = ps.length := by omega
      rw [List.take_length] at hx
      conv => whnf
      exact ⟨x, p, rfl, hs, hx⟩
theorem LsV.blk {m : Mem} {b n : Nat} {ps : List (Value × List Rv)} {t : TypeId} {fr : Nat × Nat} (h : m b = some (.cells (ps.map (·.1)).toArray t fr)) (hn : ps.length = n) (hl : ∀ p ∈ ps, Va m p.1 p.2) : LsV m (.slice (some ⟨b, 0, none⟩) n n) ps := by
  refine ⟨.inr ⟨b, 0, n, n, _, _, _, rfl, h, by simp [hn], Nat.le_refl _, fun j u hu => by simpa using hu, fun u hu => ?_⟩, fun p hp => hl p hp⟩
  obtain ⟨p, hp, rfl⟩ := List.mem_map.1 hu
  exact (hl p hp).one
theorem buildVL2 {m : Mem} {x y : Value} : PrimSpec Tryz.prog (.buildSlice 123 2 [0, 1]) [.v x, .v y] m fun r m' => ∃ b, m b = none ∧ r = [.v (.slice (some ⟨b, 0, none⟩) 2 2)] ∧ m' = m.set b (.cells #[x, y] 52) := by
  obtain ⟨ti, t1, t2⟩ := hVs
  exact buildSlice_spec (n := 2) tt_ok (show tt.get 123 = some ⟨.slice 52, 1, 24, [.one (.slice none 0 0)], false⟩ by rfl) rfl (show tt.get 52 = some ⟨.slice 34, 1, 24, [.one (.slice none 0 0)], false⟩ by rfl) rfl rfl (by simp [CV.cs]) (by simp) (by simp)
end Go.E.YtheiididldemmaaGreat

/-
  Contracts of dots: whole sets.
-/
namespace Go.E.YtheiididldemmaaGreat
open Go.Proofs
set_option maxRecDepth 100000
theorem V8.withD {v : List Int} (hv : V8 v) {d : Dt} (hd : U d.2) : V8 (withD v d) := by
  unfold Go.E.YtheiididldemmaaGreat.withD withN
  split
  · rename_i h
    have hb := isN_iff.1 h
    refine ⟨by rw [List.length_set]; exact hv.1, fun i => ?_⟩
    have h1 := hv.2 i
    rw [List.getD_eq_getElem?_getD, List.getElem?_set]
    rw [List.getD_eq_getElem?_getD] at h1
    split
    · rename_i e
      rw [if_pos (by have := hv.1; omega), e]
      simp only [Option.getD_some]
      have h2 := hv.2 i
      obtain ⟨a1, a2⟩ := h2
      obtain ⟨b1, b2⟩ := hd
      exact ⟨by omega, by omega⟩
    · exact h1
  · exact hv
theorem V8.zeros : V8 zeros := V8.of rfl rfl
theorem v8_span : ∀ (l : List Dt) (v : List Int), V8 v → (∀ d ∈ l, okD d) → V8 (spanFrom v l)
  | [], v, h, _ => h
  | d :: r, v, h, hd => by
    simp only [spanFrom, List.foldl_cons]
    split
    · exact v8_span r _ (h.withD (hd d (by simp)).2) fun x hx => hd x (by simp [hx])
    · exact v8_span r v h fun x hx => hd x (by simp [hx])
theorem next_cases (v : List Int) (d : Dt) : (nextOk v d = false ∧ ∃ x e, nextR v d.1 = [Dv x, i64 e] ∧ (e ≠ 0 ∨ x ≠ d)) ∨ (nextOk v d = true ∧ nextR v d.1 = [Dv d, i64 0]) := by
  unfold nextOk nextR
  by_cases h1 : isN d.1 = true
  · rw [if_neg (by rw [h1]; simp)]
    by_cases h2 : getN v d.1 = 18446744073709551615
    · rw [if_pos h2, decide_eq_true h2]
      exact .inl ⟨by rw [h1]; rfl, (0, 0), 13, rfl, .inl (by decide)⟩
    · rw [if_neg h2, decide_eq_false h2, h1]
      by_cases h3 : d.2 = getN v d.1 + 1
      · rw [decide_eq_true h3]
        refine .inr ⟨rfl, ?_⟩
        show [Dv (d.1, getN v d.1 + 1), i64 0] = [Dv d, i64 0]
        rw [← h3]
      · rw [decide_eq_false h3]
        exact .inl ⟨rfl, (d.1, getN v d.1 + 1), 0, rfl, .inr fun e => h3 (by rw [← e])⟩
  · have h1' : isN d.1 = false := by simpa using h1
    rw [if_pos h1', h1']
    exact .inl ⟨rfl, (0, 0), 11, rfl, .inl (by decide)⟩
/-- the vector behind the first ones -/
def stepTo (E : List Dt) (i : Nat) : List Int := (E.take i).foldl withD zeros
theorem wholeFrom_at : ∀ (E : List Dt) (v : List Int) (i : Nat) (hi : i < E.length), (∀ j (hj : j < i), nextOk ((E.take j).foldl withD v) (dAt E j) = true) → nextOk ((E.take i).foldl withD v) (dAt E i) = false → wholeFrom v E = false
  | [], _, _, hi, _, _ => by simp at hi
  | d :: r, v, 0, _, _, h => by
    have h : nextOk v d = false := h
    rw [wholeFrom, h]; rfl
  | d :: r, v, i + 1, hi, hall, h => by
    have h0 : nextOk v d = true := hall 0 (by omega)
    rw [wholeFrom, h0, Bool.true_and]
    exact wholeFrom_at r (withD v d) i (by simpa using hi) (fun j hj => hall (j + 1) (by omega)) h
theorem wholeFrom_all : ∀ (E : List Dt) (v : List Int), (∀ j, j < E.length → nextOk ((E.take j).foldl withD v) (dAt E j) = true) → wholeFrom v E = true
  | [], _, _ => rfl
  | d :: r, v, h => by
    have h0 : nextOk v d = true := h 0 (by simp)
    rw [wholeFrom, h0, Bool.true_and]
    exact wholeFrom_all r (withD v d) fun j hj => h (j + 1) (by simpa using hj)
theorem v8_step {E : List Dt} (hI : ∀ d ∈ E, okD d) (i : Nat) : V8 (stepTo E i) := by
  have key : ∀ (l : List Dt) (v : List Int), V8 v → (∀ d ∈ l, okD d) → V8 (l.foldl withD v) := by
    intro l
    induction l with
    | nil => intro v h _; exact h
    | cons d r ih => intro v h hd; exact ih _ (h.withD (hd d (by simp)).2) fun x hx => hd x (by simp [hx])
  exact key _ _ V8.zeros fun d hd => hI d (List.mem_of_mem_take hd)
set_option maxHeartbeats 4000000 in
theorem whole4_spec {m : Mem} {v : Value} {E : List Dt} (hv : Da m v E) (hI : ∀ d ∈ E, okD d) (hl : E.length ≤ 100000000) : Ret Tryz.prog 59 [.v v] m [boolV (wholeD E)] := by
  obtain ⟨a, c, rfl⟩ := hv.shape
  refine en59 rfl (goY ?_)
  conv => whnf
  refine .mk (ι := Nat) (fun i => E.length - i) (fun i mm => i ≤ E.length ∧ (∀ j, j < i → nextOk (stepTo E j) (dAt E j) = true) ∧ mm = m) (fun i => [(0, .c (.v (.slice a E.length c))), (3, .p 0 0), (8, .c (.v (.slice a E.length c))), (9, .c (i64 E.length)), (10, .c (i64 i))]) (fun i => [(38, [.ints .u64 8 (stepTo E i)])]) 0 ⟨by omega, by omega, rfl⟩ ?_ ?_
  · conv => whnf
    repeat (refine And.intro (by first | with_reducible rfl | exact congrArg (Value.int _) (wi (by omega) (by omega)) | exact wi (by omega) (by omega) | rfl) ?_; conv => whnf)
    first | exact trivial | exact fun _ _ h => h
  rintro i mm ⟨hi, hall, he⟩
  subst mm
  conv => whnf
  refine ⟨fun h => ?_, fun h => ?_⟩
  · have h' := of_decide_eq_true h
    have hlt : i < E.length := by omega
    clear h
    obtain ⟨bl, ol, c', hh, hg⟩ := hv.real hlt
    injection hh with hh1 _ hh3
    subst hh1
    clear hh3 c'
    have hg := hg i hlt
    have hst : stepTo E (i + 1) = withD (stepTo E i) (dAt E i) := by
      unfold stepTo
      rw [List.take_succ_eq_append_getElem hlt, List.foldl_append, dAt_eq hlt]; rfl
    have hok := hI _ (dAt_mem hlt)
    have hbad : nextOk (stepTo E i) (dAt E i) = false → wholeD E = false := fun e => by
      unfold wholeD
      rw [wholeFrom_at E zeros i hlt (fun j hj => hall j hj) e]; rfl
    have hgood : nextOk (stepTo E i) (dAt E i) = true → ∀ j, j < i + 1 → nextOk (stepTo E j) (dAt E j) = true := fun e j hj => by
      by_cases h0 : j = i
      · subst h0; exact e
      · exact hall j (by omega)
    have hV := v8_step hI i
    rw [dAt_eq hlt] at hg
    have hnc := next_cases (stepTo E i) (dAt E i)
    generalize dAt E i = x at hg hst hok hbad hgood hnc
    generalize hw : stepTo E i = w at hst hbad hgood hnc hV
    conv => whnf
    repeat (refine And.intro (by first | omega | (simp only [times]; omega)) ?_; conv => whnf)
    refine ⟨[.one (.int .i64 x.1), .one (.int .u64 x.2)], ⟨rfl, rfl, trivial⟩, rfl, by simp only [times, Int.toNat_natCast]; exact hg, ?_⟩
    conv => whnf
    rcases hnc with ⟨e1, y, e, e2, e3⟩ | ⟨e1, e2⟩
    · first | refine xretk (Ret.cast (next_spec (v := w) hV hok.1) e2) ?_ | refine xret (Ret.cast (next_spec (v := w) hV hok.1) e2) ?_
      conv => whnf
      refine ⟨fun h => ?_, fun h => ?_⟩
      · conv => whnf
        exact ⟨by rw [hbad e1], rfl⟩
      · have he0 : e = 0 := by simpa using h
        have hne : y ≠ x := by rcases e3 with h0 | h0
                               · exact absurd he0 h0
                               · exact h0
        conv => whnf
        rw [eqPD', decide_eq_true hne]
        refine ⟨fun _ => ?_, fun h => absurd h (by first | decide | simp)⟩
        conv => whnf
        exact ⟨by rw [hbad e1], rfl⟩
    · first | refine xretk (Ret.cast (next_spec (v := w) hV hok.1) e2) ?_ | refine xret (Ret.cast (next_spec (v := w) hV hok.1) e2) ?_
      conv => whnf
      refine ⟨fun h => absurd h (by first | decide | simp), fun _ => ?_⟩
      conv => whnf
      rw [eqPD', decide_eq_false (by simp)]
      refine ⟨fun h => absurd h (by first | decide | simp), fun _ => ?_⟩
      conv => whnf
      first | refine xretk (with_spec (v := w) (n := x.1) (k := x.2) hok.1) ?_ | refine xret (with_spec (v := w) (n := x.1) (k := x.2) hok.1) ?_
      conv => whnf
      refine ⟨i + 1, ⟨by omega, hgood e1, rfl⟩, by omega, ?_⟩
      conv => whnf
      repeat (refine And.intro (by first | with_reducible rfl | (first | exact congrArg (Value.int _) (iadd (by omega)) | exact hst.symm) | exact congrArg (Value.int _) (wi (by omega) (by omega)) | exact wi (by omega) (by omega) | rfl) ?_; conv => whnf)
      first | exact trivial | exact fun _ _ h => h
  · have h' := of_decide_eq_false h
    obtain rfl : i = E.length := by omega
    conv => whnf
    first | refine xretk (rightsR_spec hv hl) ?_ | refine xret (rightsR_spec hv hl) ?_
    conv => whnf
    refine ⟨?_, rfl⟩
    unfold wholeD
    rw [wholeFrom_all E zeros fun j hj => hall j hj]; rfl
end Go.E.YtheiididldemmaaGreat

/-
  Contracts of model: which events may be; whether one is among them.
-/
namespace Go.E.YtheiididldemmaaGreat
open Go.Proofs
set_option maxRecDepth 100000
theorem EvIs.split {m : Mem} {r : Rv} {e : Ev} (h : EvIs m r e) : ∃ a c, r = (e.1, e.2.1, (a, e.2.2.length, c)) ∧ Da m (.slice a e.2.2.length c) e.2.2 := by
  obtain ⟨r1, r2, a, n, c⟩ := r
  have h1 : r1 = e.1 := h.k
  have h2 : r2 = e.2.1 := h.d
  have h3 : n = e.2.2.length := h.len
  have h4 : Da m (.slice a n c) e.2.2 := h.off
  subst h1 h2 h3
  exact ⟨a, c, rfl, h4⟩
theorem adds_spec {m : Mem} {r : Rv} {e : Ev} (hr : EvIs m r e) : Ret Tryz.prog 35 [Vv r] m [boolV (addsE e)] := by
  obtain ⟨a, c, rfl, ho⟩ := hr.split
  obtain ⟨⟨k1, k2, k3⟩, ⟨d1, d2⟩, eo⟩ := e
  refine en35 rfl (goY ?_)
  conv => whnf
  refine ⟨fun h => ?_, fun h => ?_⟩
  · have h1 : k1 = 1 := by simpa using h
    conv => whnf
    exact ⟨by simp [addsE, h1], rfl⟩
  · have h1 : ¬ k1 = 1 := by simpa using h
    conv => whnf
    exact ⟨by simp [addsE, h1, beqG], rfl⟩
theorem rightE_bad {e : Ev} (h : rightsD e.2.2 = false ∨ e.2.2.contains e.2.1 = true ∨ (e.1.1 = 1 ∧ 0 < e.2.2.length)) : rightE e = false := by unfold rightE; rw [if_pos h]
theorem rightE_ok {e : Ev} (h : ¬ (rightsD e.2.2 = false ∨ e.2.2.contains e.2.1 = true ∨ (e.1.1 = 1 ∧ 0 < e.2.2.length))) : rightE e = if addsE e then mayF e.1.1 e.1.2.1 e.1.2.2 && rightD e.2.1
  else (decide (e.1.1 = 3) || decide (e.1.1 = 4)) && decide (e.1.2.1 = 0) && decide (e.1.2.2 = 0) && decide (e.2.1 = (0, 0)) := by unfold rightE; rw [if_neg h]
set_option maxHeartbeats 4000000 in
theorem right20_spec {m : Mem} {r : Rv} {e : Ev} (hr : EvIs m r e) (hl : e.2.2.length ≤ 100000000) : Ret Tryz.prog 20 [Vv r] m [boolV (rightE e)] := by
  have hr0 := hr
  obtain ⟨a, c, rfl, ho⟩ := hr.split
  have hbad := rightE_bad (e := e)
  have hok := rightE_ok (e := e)
  have hadd := adds_spec hr0
  generalize rightE e = b at hbad hok
  generalize addsE e = ad at hok hadd
  obtain ⟨⟨k1, k2, k3⟩, ⟨d1, d2⟩, eo⟩ := e
  simp only at hl ho hbad hok
  refine en20 rfl (goY ?_)
  conv => whnf
  first | refine xretk (rightsR_spec ho hl) ?_ | refine xret (rightsR_spec ho hl) ?_
  conv => whnf
  cases h1 : rightsD eo with
  | false =>
    refine ⟨fun _ => ?_, fun h => absurd h (by first | decide | simp)⟩
    conv => whnf
    exact ⟨by rw [hbad (.inl h1)], rfl⟩
  | true =>
  refine ⟨fun h => absurd h (by first | decide | simp), fun _ => ?_⟩
  conv => whnf
  first | refine xretk (has4_spec (d := (d1, d2)) ho hl) ?_ | refine xret (has4_spec (d := (d1, d2)) ho hl) ?_
  conv => whnf
  cases h2 : eo.contains (d1, d2) with
  | true =>
    refine ⟨fun _ => ?_, fun h => absurd h (by first | decide | simp)⟩
    conv => whnf
    exact ⟨by rw [hbad (.inr (.inl h2))], rfl⟩
  | false =>
  refine ⟨fun h => absurd h (by first | decide | simp), fun _ => ?_⟩
  conv => whnf
  have fin : ¬ (k1 = 1 ∧ 0 < eo.length) → b = if ad = true then mayF k1 k2 k3 && rightD (d1, d2) else (decide (k1 = 3) || decide (k1 = 4)) && decide (k2 = 0) && decide (k3 = 0) && decide ((d1, d2) = ((0, 0) : Dt)) := fun h => hok (by
    rintro (e | e | e)
    · rw [h1] at e; cases e
    · rw [h2] at e; cases e
    · exact h e)
  clear hok
  refine ⟨fun h => ?_, fun h => ?_⟩
  · have hk : k1 = 1 := by simpa using h
    conv => whnf
    refine ⟨fun h => ?_, fun h => ?_⟩
    · have h0 : (0 : Int) < (eo.length : Int) := of_decide_eq_true h
      have hl0 : 0 < eo.length := by omega
      conv => whnf
      exact ⟨by rw [hbad (.inr (.inr ⟨hk, hl0⟩))], rfl⟩
    have h0 : ¬ (0 : Int) < (eo.length : Int) := of_decide_eq_false h
    have fin := fin (fun hh => by omega)
    subst hk
    clear h
    conv => whnf
    first | refine xretk (hadd) ?_ | refine xret (hadd) ?_
    conv => whnf
    cases ad with
    | true =>
      refine ⟨fun _ => ?_, fun h => absurd h (by first | decide | simp)⟩
      conv => whnf
      first | refine xretk (may_spec (k := 1) (i := k2) (q := k3)) ?_ | refine xret (may_spec (k := 1) (i := k2) (q := k3)) ?_
      conv => whnf
      cases h3 : mayF 1 k2 k3 with
      | false =>
        refine ⟨fun h => absurd h (by first | decide | simp), fun _ => ?_⟩
        conv => whnf
        exact ⟨by rw [fin, if_pos rfl, h3]; rfl, rfl⟩
      | true =>
        refine ⟨fun _ => ?_, fun h => absurd h (by first | decide | simp)⟩
        conv => whnf
        first | refine xretk (right3_spec (n := d1) (k := d2)) ?_ | refine xret (right3_spec (n := d1) (k := d2)) ?_
        conv => whnf
        exact ⟨by rw [fin, if_pos rfl, h3]; rfl, rfl⟩
    | false =>
      refine ⟨fun h => absurd h (by first | decide | simp), fun _ => ?_⟩
      conv => whnf
      refine ⟨fun h => absurd h (by first | decide | simp), fun _ => ?_⟩
      conv => whnf
      refine ⟨fun h => absurd h (by first | decide | simp), fun _ => ?_⟩
      conv => whnf
      exact ⟨by rw [fin, if_neg (by decide)]; rfl, rfl⟩
  have hk : ¬ k1 = 1 := by simpa using h
  have fin := fin (fun hh => hk hh.1)
  clear h
  conv => whnf
  first | refine xretk (hadd) ?_ | refine xret (hadd) ?_
  conv => whnf
  cases ad with
  | true =>
    refine ⟨fun _ => ?_, fun h => absurd h (by first | decide | simp)⟩
    conv => whnf
    first | refine xretk (may_spec (k := k1) (i := k2) (q := k3)) ?_ | refine xret (may_spec (k := k1) (i := k2) (q := k3)) ?_
    conv => whnf
    cases h3 : mayF k1 k2 k3 with
    | false =>
      refine ⟨fun h => absurd h (by first | decide | simp), fun _ => ?_⟩
      conv => whnf
      exact ⟨by rw [fin, if_pos rfl, h3]; rfl, rfl⟩
    | true =>
      refine ⟨fun _ => ?_, fun h => absurd h (by first | decide | simp)⟩
      conv => whnf
      first | refine xretk (right3_spec (n := d1) (k := d2)) ?_ | refine xret (right3_spec (n := d1) (k := d2)) ?_
      conv => whnf
      exact ⟨by rw [fin, if_pos rfl, h3]; rfl, rfl⟩
  | false =>
    rw [if_neg (by decide)] at fin
    refine ⟨fun h => absurd h (by first | decide | simp), fun _ => ?_⟩
    conv => whnf
    have fz : (k1 = 3 ∨ k1 = 4) → b = (decide (k2 = 0) && decide (k3 = 0) && decide ((d1, d2) = ((0, 0) : Dt))) := fun h => by
      rw [fin]
      rcases h with h | h <;> simp [h]
    have fn : ¬ (k1 = 3 ∨ k1 = 4) → b = false := fun h => by
      rw [fin]
      have a1 : ¬ k1 = 3 := fun e => h (.inl e)
      have a2 : ¬ k1 = 4 := fun e => h (.inr e)
      simp [a1, a2]
    have last : ∀ h : k1 = 3 ∨ k1 = 4, (k2 = 0 → k3 = 0 → b = decide ((d1, d2) = ((0, 0) : Dt))) ∧ (¬ k2 = 0 → b = false) ∧ (¬ k3 = 0 → b = false) := fun h => by
      rw [fz h]
      refine ⟨fun a1 a2 => by simp [a1, a2], fun a1 => by simp [a1], fun a1 => by simp [a1]⟩
    have heq := eqPD (d1, d2) (0, 0)
    simp only at heq
    refine ⟨fun h => ?_, fun h => ?_⟩
    · obtain ⟨l1, l2, l3⟩ := last (.inl (by simpa using h))
      conv => whnf
      refine ⟨fun h => ?_, fun h => ?_⟩
      · have a1 : k2 = 0 := by simpa using h
        conv => whnf
        refine ⟨fun h => ?_, fun h => ?_⟩
        · have a2 : k3 = 0 := by simpa using h
          conv => whnf
          exact ⟨by rw [l1 a1 a2, heq], rfl⟩
        · conv => whnf
          exact ⟨by rw [l3 (by simpa using h)], rfl⟩
      · conv => whnf
        exact ⟨by rw [l2 (by simpa using h)], rfl⟩
    · have n3 : ¬ k1 = 3 := by simpa using h
      conv => whnf
      refine ⟨fun h => ?_, fun h => ?_⟩
      · obtain ⟨l1, l2, l3⟩ := last (.inr (by simpa using h))
        conv => whnf
        refine ⟨fun h => ?_, fun h => ?_⟩
        · have a1 : k2 = 0 := by simpa using h
          conv => whnf
          refine ⟨fun h => ?_, fun h => ?_⟩
          · have a2 : k3 = 0 := by simpa using h
            conv => whnf
            exact ⟨by rw [l1 a1 a2, heq], rfl⟩
          · conv => whnf
            exact ⟨by rw [l3 (by simpa using h)], rfl⟩
        · conv => whnf
          exact ⟨by rw [l2 (by simpa using h)], rfl⟩
      · conv => whnf
        exact ⟨by rw [fn (fun hh => by rcases hh with hh | hh
                                       · exact n3 hh
                                       · simp [hh] at h)], rfl⟩
theorem has1_spec {m : Mem} {r x : Rv} {e y : Ev} {b : Nat} (hr : EvIs m r e) (hx : EvIs m x y) (hb : m b = some (.cells (encV x).toArray 34)) (hl : y.2.2.length ≤ 100000000) : Ret Tryz.prog 83 [Vv r, ptrV b] m [boolV (decide (y = e))] := by
  have hm : MRange m b 0 (encV x) := ⟨_, _, _, hb, fun j u hu => by rw [Nat.zero_add, List.getElem?_toArray]; exact hu⟩
  refine en83 rfl (goY ?_)
  conv => whnf
  refine ⟨[.one (.int .i64 x.1.1), .one (.int .i64 x.1.2.1), .one (.int .i64 x.1.2.2), .one (.int .i64 x.2.1.1), .one (.int .u64 x.2.1.2), .one (.slice x.2.2.1 x.2.2.2.1 x.2.2.2.2)], ⟨rfl, rfl, rfl, rfl, rfl, rfl, trivial⟩, rfl, hm, ?_⟩
  conv => whnf
  first | refine xretk (sameE_spec (r := x) (r' := r) hx hr hl) ?_ | refine xret (sameE_spec (r := x) (r' := r) hx hr hl) ?_
  conv => whnf
  exact ⟨rfl, rfl⟩
theorem has20_spec {m : Mem} {v : Value} {R : List Rv} {E : List Ev} {x : Rv} {y : Ev} (hv : Va m v R) (hE : EvsIs m R E) (hx : EvIs m x y) (hl : E.length ≤ 100000000) (hy : y.2.2.length ≤ 100000000) : Spec Tryz.prog 51 [.v v, Vv x] m fun r m' => r = [boolV (E.contains y)] ∧ Sub m m' := by
  obtain ⟨a, c, rfl⟩ := hv.shape
  refine en51 rfl (goY ?_)
  conv => whnf
  intro b hb
  conv => whnf
  refine .mk _ (makeFunc_spec (cs := [.pointer (some ⟨b, 0, none⟩)]) (by simp [Value.oneCell'])) ?_
  rintro _ _ ⟨rfl, rfl⟩
  conv => whnf
  have hs := Mem.sub_set (.cells (encV x).toArray 34) hb
  have hb2 : (m.set b (.cells (encV x).toArray 34)) b = some (.cells (encV x).toArray 34) := Mem.set_same ..
  have hE' := hE.sub hs
  have hx' := hx.sub hs
  first | refine xretk (containsV1_spec (p := fun r => decide (y = evOf (m.set b (.cells (encV x).toArray 34)) r)) (hv.sub hs) (fun r hr => has1_spec (hE'.2 r hr) hx' hb2 hy) (by have := hE.len; omega)) ?_ | refine xret (containsV1_spec (p := fun r => decide (y = evOf (m.set b (.cells (encV x).toArray 34)) r)) (hv.sub hs) (fun r hr => has1_spec (hE'.2 r hr) hx' hb2 hy) (by have := hE.len; omega)) ?_
  conv => whnf
  refine ⟨?_, hs⟩
  have := hE'.any (fun z => decide (y = z))
  rw [this]
  congr 3
  rw [Bool.eq_iff_iff, List.any_eq_true, List.contains_iff_mem]
  exact ⟨fun ⟨z, h1, h2⟩ => by rw [of_decide_eq_true h2]; exact h1, fun h => ⟨y, h, by simp⟩⟩
end Go.E.YtheiididldemmaaGreat
