/-
  Ca1, SdD, EvF, SbV, Dots2, Dots3, Dots4, Dots5, Ca2, StA, StL, E33, WireD, StP, KyF, SbK, SxK
-/
import Derived.Test.YtcionccfgcnhoaaGreatDoorStoreRefusesZ7
import Derived.Sort.Walk0
namespace Go.E.YtcionccfgcnhoaaGreatDoor
open Go.Proofs
set_option maxRecDepth 100000
theorem cdot_spec {m : Mem} {e : En} : Ret Tryz.prog 121 [Nv e] m [Dv (enDot e)] := by
  refine en121 rfl (goY ?_)
  conv => whnf
  exact ⟨rfl, rfl⟩
theorem eorder_spec {m : Mem} {a b : En} : Spec Tryz.prog 122 [Nv a, Nv b] m fun r m' => r = [i64 (eOrd a b)] ∧ Sub m m' := by
  refine en122 rfl (goY ?_)
  conv => whnf
  first | refine xretk (cmpInt_spec) ?_ | refine xret (cmpInt_spec) ?_
  conv => whnf
  first | refine xretk (cmpInt_spec) ?_ | refine xret (cmpInt_spec) ?_
  conv => whnf
  first | refine xretk (cmpUint_spec) ?_ | refine xret (cmpUint_spec) ?_
  conv => whnf
  first | refine xretk (cmpInt_spec) ?_ | refine xret (cmpInt_spec) ?_
  conv => whnf
  refine .mk _ (buildI_4) ?_
  rintro _ _ ⟨b1, hb1, rfl, rfl⟩
  conv => whnf
  first | refine xretk (orInt_spec (Il.blk (Mem.set_same ..)) (by simp)) ?_ | refine xret (orInt_spec (Il.blk (Mem.set_same ..)) (by simp)) ?_
  conv => whnf
  exact ⟨rfl, Mem.sub_set _ hb1⟩
theorem ltOf_eOrd : ltOf eOrd = eLess := rfl
theorem eLess_not {a b : En} : eLess a b = false ↔ ¬ (a.1 < b.1 ∨ (a.1 = b.1 ∧ (a.2.1 < b.2.1 ∨ (a.2.1 = b.2.1 ∧ (a.2.2.1 < b.2.2.1 ∨ (a.2.2.1 = b.2.2.1 ∧ a.2.2.2 < b.2.2.2)))))) := by
  rw [← eLess_iff]; simp
theorem eLess_swo : Go.Sort.SWO eLess where
  irrefl x := by rw [eLess_not]; omega
  trans x y z h1 h2 := by rw [eLess_iff] at *; omega
  ntrans x y z h1 h2 := by rw [eLess_not] at *; omega
theorem eLess_total {x y : En} (h1 : eLess x y = false) (h2 : eLess y x = false) : x = y := by
  rw [eLess_not] at h1 h2
  refine Prod.ext (by omega) (Prod.ext (by omega) (Prod.ext (by omega) (by omega)))
theorem sortE_at {m p : Mem} {l : List Mem} {i : Nat} (hS : Strong m) (hs : Split m l) (hi : l[i]? = some p) {v : Value} {E : List En} (hv : No p v E) (hl : E.length ≤ 1000000000) :
    Spec Tryz.prog 172 [.v v, fn0V 122] m fun r m' => ∃ p', r = [] ∧ Split m' (l.set i p') ∧ No p' v (sortE E) := by
  have h := sortFN_at (cf := eOrd) (by rw [ltOf_eOrd]; exact eLess_swo) (by rw [ltOf_eOrd]; exact fun x y => eLess_total) (g := 122) (fun x y => eorder_spec.mono fun r m' h => h.1) hS hs hi hv hl
  rw [ltOf_eOrd] at h
  exact h
theorem valuesN_spec {m : Mem} {v : Value} (hv : v.oneCell' = true) : Spec Tryz.prog 135 [.v v] m fun r m' => ∃ b, m b = none ∧ r = [fnP1V 173 b] ∧ m' = m.set b (.cells #[v] 38) := by
  refine en135 rfl (goY ?_)
  conv => whnf
  intro b hb
  conv => whnf
  refine .mk _ (makeFunc_spec (cs := [.pointer (some ⟨b, 0, none⟩)]) (by simp [Value.oneCell'])) ?_
  rintro _ _ ⟨rfl, rfl⟩
  conv => whnf
  exact ⟨b, hb, rfl, rfl⟩
set_option maxHeartbeats 2000000 in
theorem valIterN_spec {I : Nat → Mem → Prop} {l b : Nat} {v : Value} {E : List En} (hn : E.length ≤ 1000000000) (hI : ∀ k m, I k m → m b = some (.cells #[v] 38) ∧ Na m v E)
    (hy : ∀ k m (hk : k < E.length), I k m → YSpec Tryz.prog l [Nv E[k]] m fun r m' => r = [.v (.bool true)] ∧ I (k + 1) m') {m : Mem} (h0 : I 0 m) :
    Spec Tryz.prog 173 [.v (.func (.yield l) #[] #[]), ptrV b] m fun r m' => r = [] ∧ I E.length m' := by
  obtain ⟨g1, g2⟩ := hI 0 m h0
  obtain ⟨a, c, rfl⟩ := g2.shape
  refine en173 rfl (goY ?_)
  conv => whnf
  refine ⟨_, mcell_of g1 rfl, rfl, ?_⟩
  conv => whnf
  refine .mk (ι := Nat) (fun k => E.length - k) (fun k mm => k ≤ E.length ∧ I k mm) (fun k => [(0, .c (.v (.func (.yield l) #[] #[]))), (5, .c (.v (.slice a E.length c))), (6, .c (i64 E.length)), (7, .c (i64 k))]) (fun _ => []) 0 ⟨by omega, h0⟩ ?_ ?_
  · conv => whnf
    repeat (refine And.intro (by first | with_reducible rfl | exact congrArg (Value.int _) (wi (by omega) (by omega)) | exact wi (by omega) (by omega) | rfl) ?_; conv => whnf)
    first | exact trivial | exact fun _ _ h => h
  rintro k mm ⟨hk, hi⟩
  conv => whnf
  refine ⟨fun h1 => ?_, fun h1 => ?_⟩
  · have h1' := of_decide_eq_true h1
    have hlt : k < E.length := by omega
    obtain ⟨bl, ol, c', hh, hg⟩ := (hI k mm hi).2.real hlt
    injection hh with hh1 _ hh3
    subst hh1
    clear hh3 c'
    have hg := hg k hlt
    have hy' := hy k mm hlt hi
    generalize E[k] = x at hg hy'
    conv => whnf
    repeat (refine And.intro (by first | omega | (simp only [times]; omega)) ?_; conv => whnf)
    refine ⟨[.one (.int .i64 x.1), .one (.int .i64 x.2.1), .one (.int .u64 x.2.2.1), .one (.int .i64 x.2.2.2)], ⟨rfl, rfl, rfl, rfl, trivial⟩, rfl, by simp only [times, Int.toNat_natCast]; exact hg, ?_⟩
    conv => whnf
    refine .mk _ hy' ?_
    rintro _ m' ⟨rfl, hi'⟩
    conv => whnf
    refine ⟨fun h => absurd h (by first | decide | simp), fun _ => ?_⟩
    conv => whnf
    refine ⟨k + 1, ⟨by omega, hi'⟩, by omega, ?_⟩
    conv => whnf
    repeat (refine And.intro (by first | with_reducible rfl | (first | exact congrArg (Value.int _) (iadd (by omega))) | exact congrArg (Value.int _) (wi (by omega) (by omega)) | exact wi (by omega) (by omega) | rfl) ?_; conv => whnf)
    first | exact trivial | exact fun _ _ h => h
  · have h1' := of_decide_eq_false h1
    obtain rfl : k = E.length := by omega
    conv => whnf
    exact ⟨rfl, hi⟩
set_option maxHeartbeats 4000000 in
theorem appendSeqN_spec {m : Mem} {b : Nat} {v : Value} {E : List En} (hb : m b = some (.cells #[v] 38)) (hv : Na m v E) (hl : E.length ≤ 1000000) :
    Spec Tryz.prog 78 [.v (.slice none 0 0), fnP1V 173 b] m fun r m' => ∃ v' p, r = [.v v'] ∧ Split m' [p, m] ∧ No p v' E := by
  refine en78 rfl (goY ?_)
  conv => whnf
  intro bo hbo
  conv => whnf
  refine .mk 173 #[.pointer (some ⟨b, 0, none⟩)] rfl rfl rfl (ι := Nat)
    (fun k mm => k ≤ E.length ∧ ∃ vo p, Split mm [p, blk1 bo (.cells #[vo] 38), m] ∧ No p vo (E.take k)) 0 ⟨by omega, .slice none 0 0, emp, ((Split.one m).new hbo _).addEmp, No.nil _⟩
    (fun k x j => ∃ h : k < E.length, x = [Nv E[k]] ∧ j = k + 1) (fun k x j ⟨_, h1, _⟩ => by subst h1; rfl) ?_
    (fun mm => ∃ vo p, Split mm [p, blk1 bo (.cells #[vo] 38), m] ∧ No p vo E) ?_ ?_
  · rintro k _ _ mm ⟨hk, vo, p, hs, hp⟩ ⟨hlt, rfl, rfl⟩
    have hst : E.take (k + 1) = E.take k ++ [E[k]] := List.take_succ_eq_append_getElem hlt
    generalize E[k] = x at hst
    conv => whnf
    intro b4 hb4
    conv => whnf
    refine ⟨_, _, _, Mem.set_same .., ⟨Nat.le_refl 4, noFr⟩, ?_⟩
    rw [storeAll (by rfl)]
    conv => whnf
    have hs4 := hs.new hb4 (.cells (encE x).toArray 57)
    change Split (mm.set b4 (.cells (LB.cells [.one (.int .i64 x.1), .one (.int .i64 x.2.1), .one (.int .u64 x.2.2.1), .one (.int .i64 x.2.2.2)]).toArray 57)) _ at hs4
    generalize mm.set b4 (.cells (LB.cells [.one (.int .i64 x.1), .one (.int .i64 x.2.1), .one (.int .u64 x.2.2.1), .one (.int .i64 x.2.2.2)]).toArray 57) = m2 at hs4 ⊢
    have hr4 : MRange m2 b4 0 (encE x) := ⟨_, _, _, hs4.get (a := blk1 b4 (.cells (encE x).toArray 57)) (by simp) (blk1_same ..), fun j u hu => by rw [Nat.zero_add, List.getElem?_toArray]; exact hu⟩
    refine ⟨_, mcell_of (hs4.get (a := blk1 bo (.cells #[vo] 38)) (by simp) (blk1_same ..)) rfl, hp.ea.one, ?_⟩
    conv => whnf
    refine ⟨[.one (.int .i64 x.1), .one (.int .i64 x.2.1), .one (.int .u64 x.2.2.1), .one (.int .i64 x.2.2.2)], ⟨rfl, rfl, rfl, rfl, trivial⟩, rfl, hr4, ?_⟩
    conv => whnf
    refine .mk _ (buildN1 (e := x)) ?_
    rintro _ _ ⟨b5, hb5, rfl, rfl⟩
    conv => whnf
    refine .mk _ (pushN (i := 1) hs4 rfl hb5 hp (by rw [List.length_take]; omega)) ?_
    rintro _ m6 ⟨vo', p', rfl, hs6, hp'⟩
    conv => whnf
    refine ⟨_, _, _, hs6.get (a := blk1 bo (.cells #[vo] 38)) (by simp) (blk1_same ..), ⟨by simp, by simp⟩, ?_⟩
    conv => whnf
    have hs7 := hs6.setAt (i := 2) rfl (blk1_same ..) (.cells #[vo'] 38)
    rw [blk1_set] at hs7
    refine ⟨by omega, vo', p', hs7.drop, ?_⟩
    rw [hst]
    exact hp'
  · intro lb ob _ hround
    refine (valIterN_spec (I := fun k mm => ∃ m1, (k ≤ E.length ∧ ∃ vo p, Split m1 [p, blk1 bo (.cells #[vo] 38), m] ∧ No p vo (E.take k)) ∧ m1 lb = none ∧ mm = m1.set lb ob) (l := lb) (b := b) (v := v) (E := E) (by omega) ?_ ?_ ⟨_, ⟨Nat.zero_le _, .slice none 0 0, emp, ((Split.one m).new hbo _).addEmp, No.nil _⟩, by assumption, rfl⟩).mono ?_
    · rintro k mm ⟨m1, ⟨_, vo, p, hs, _⟩, hl, rfl⟩
      have hsub : Sub m (m1.set lb ob) := (hs.sub (by simp)).trans (Mem.sub_set _ hl)
      exact ⟨hsub _ _ hb, hv.sub hsub⟩
    · rintro k mm hk ⟨m1, hi, hl, rfl⟩
      exact hround k _ _ m1 hi ⟨hk, rfl, rfl⟩ hl
    · rintro r m' ⟨rfl, m1, ⟨_, vo, p, hs, hp⟩, hl, rfl⟩
      rw [List.take_length] at hp
      exact ⟨m1, ⟨vo, p, hs, hp⟩, hl, rfl⟩
  · rintro mm ⟨vo, p, hs, hp⟩
    conv => whnf
    refine ⟨vo, mcell_of (hs.get (a := blk1 bo (.cells #[vo] 38)) (by simp) (blk1_same ..)) rfl, hp.ea.one, ?_⟩
    conv => whnf
    exact ⟨vo, p, rfl, hs.erase 1, hp⟩
theorem collectN_spec {m : Mem} {b : Nat} {v : Value} {E : List En} (hb : m b = some (.cells #[v] 38)) (hv : Na m v E) (hl : E.length ≤ 1000000) :
    Spec Tryz.prog 79 [fnP1V 173 b] m fun r m' => ∃ v' p, r = [.v v'] ∧ Split m' [p, m] ∧ No p v' E := by
  refine en79 rfl (goY ?_)
  conv => whnf
  refine xcall (appendSeqN_spec hb hv hl) ?_
  rintro _ m1 ⟨v', p, rfl, hs, hp⟩
  conv => whnf
  exact ⟨v', p, rfl, hs, hp⟩
theorem sortedN_spec {m : Mem} (hS : Strong m) {b : Nat} {v : Value} {E : List En} (hb : m b = some (.cells #[v] 38)) (hv : Na m v E) (hl : E.length ≤ 1000000) :
    Spec Tryz.prog 134 [fnP1V 173 b, fn0V 122] m fun r m' => ∃ v' p, r = [.v v'] ∧ Split m' [p, m] ∧ No p v' (sortE E) := by
  refine en134 rfl (goY ?_)
  conv => whnf
  refine xcall (collectN_spec hb hv hl) ?_
  rintro _ m1 ⟨v', p, rfl, hs, hp⟩
  conv => whnf
  refine xcall (sortE_at (hS.sub (hs.sub (by simp))) hs (i := 0) rfl hp (by omega)) ?_
  rintro _ m2 ⟨p1, rfl, hs1, hp1⟩
  conv => whnf
  exact ⟨v', p1, rfl, hs1, hp1⟩
theorem orderE_spec {m : Mem} (hS : Strong m) {v : Value} {E : List En} (hv : Na m v E) (hl : E.length ≤ 1000000) :
    Spec Tryz.prog 82 [.v v] m fun r m' => ∃ v' p, r = [.v v'] ∧ Split m' [p, m] ∧ No p v' (sortE E) := by
  obtain ⟨a, c, rfl⟩ := hv.shape
  refine en82 rfl (goY ?_)
  conv => whnf
  refine xcall (valuesN_spec (v := .slice a E.length c) rfl) ?_
  rintro _ m1 ⟨b, hb, rfl, rfl⟩
  conv => whnf
  have hs := (Split.one m).new hb (.cells #[.slice a E.length c] 38)
  refine xcall (sortedN_spec (hS.sub (hs.sub (by simp))) (Mem.set_same ..) (hv.sub (hs.sub (by simp))) hl) ?_
  rintro _ m2 ⟨v', p, rfl, hs2, hp⟩
  conv => whnf
  exact ⟨v', p, rfl, (Split.beside hs2 hs).erase 1, hp⟩
theorem clearD {m : Mem} {b o n c : Nat} {arr : Array Value} {te : TypeId} (hb : m b = some (.cells arr te)) (hn : 0 < n) (hfit : o + n * 2 ≤ arr.size) :
    PrimSpec Tryz.prog (.builtin .clear [189]) [.v (.slice (some ⟨b, o, none⟩) n c)] m fun r m' => r = [] ∧ ∃ zs, zs.length = n * 2 ∧ (∀ u ∈ zs, u.oneCell' = true) ∧ m' = m.set b (.cells (arr.toList.take o ++ zs ++ arr.toList.drop (o + n * 2)).toArray te) := by
  obtain ⟨ti, h1, h2⟩ := hDs
  obtain ⟨ei, g1, g2, g3, g4⟩ := hDn
  have := clearN_spec (P := Tryz.prog) tt_ok h1 h2 g1 (by rw [g4, g2]; rfl) (by rw [g4]; exact encD_ok.one _) (c := c) hb hn (by rw [g2]; exact hfit)
  rw [g2] at this
  exact this
abbrev Rv := (Int × Int × Int) × Dt × (Option Addr × Nat × Nat)
def encV (r : Rv) : List Value := [.int .i64 r.1.1, .int .i64 r.1.2.1, .int .i64 r.1.2.2, .int .i64 r.2.1.1, .int .u64 r.2.1.2, .slice r.2.2.1 r.2.2.2.1 r.2.2.2.2]
structure EvIs (m : Mem) (r : Rv) (e : Ev) : Prop where
  k : r.1 = e.1
  d : r.2.1 = e.2.1
  off : Da m (.slice r.2.2.1 r.2.2.2.1 r.2.2.2.2) e.2.2
open Classical in
noncomputable def evOf (m : Mem) (r : Rv) : Ev := if h : ∃ e, EvIs m r e then h.choose else ((0, 0, 0), (0, 0), [])
def EvsIs (m : Mem) (R : List Rv) (E : List Ev) : Prop := E = R.map (evOf m) ∧ ∀ r ∈ R, EvIs m r (evOf m r)
theorem EvsIs.nil (m : Mem) : EvsIs m [] [] := ⟨rfl, by simp⟩
theorem EvsIs.at {m : Mem} {R : List Rv} {E : List Ev} (h : EvsIs m R E) {i : Nat} (h1 : i < R.length) (h2 : i < E.length) : EvIs m R[i] E[i] := by
  have := h.2 R[i] (List.getElem_mem h1)
  have e : E[i] = evOf m R[i] := by
    have := congrArg (fun l : List Ev => l[i]?) h.1
    simp only [List.getElem?_map, List.getElem?_eq_getElem h1, List.getElem?_eq_getElem h2, Option.map_some] at this
    exact Option.some.inj this
  rw [e]; exact this
theorem EvsIs.filter {m : Mem} {R : List Rv} {E : List Ev} (h : EvsIs m R E) (q : Ev → Bool) : EvsIs m (R.filter fun r => q (evOf m r)) (E.filter q) := by
  refine ⟨?_, fun r hr => h.2 r (List.mem_filter.1 hr).1⟩
  rw [h.1, List.filter_map]; rfl
theorem EvsIs.take {m : Mem} {R : List Rv} {E : List Ev} (h : EvsIs m R E) (i : Nat) : EvsIs m (R.take i) (E.take i) :=
  ⟨by rw [h.1, List.map_take], fun r hr => h.2 r (List.mem_of_mem_take hr)⟩
theorem EvsIs.any {m : Mem} {R : List Rv} {E : List Ev} (h : EvsIs m R E) (q : Ev → Bool) : (R.any fun r => q (evOf m r)) = E.any q := by
  rw [h.1, List.any_map]; rfl
def Vl (m : Mem) (v : Value) (E : List Rv) : Prop := Lies m 6 v (E.flatMap encV)
def Va (m : Mem) (v : Value) (E : List Rv) : Prop := Vl m v E ∨ (E = [] ∧ ∃ a, v = .slice (some a) 0 0)
theorem Vl.ea {m : Mem} {v : Value} {E : List Rv} (h : Vl m v E) : Va m v E := .inl h
theorem ltOf_dOrd : ltOf dOrd = dLess := by
  funext a b
  unfold ltOf dOrd
  cases h1 : dLess a b with
  | true => simp
  | false =>
    cases h2 : dLess b a <;> simp
theorem dLess_iff {a b : Dt} : dLess a b = true ↔ a.1 < b.1 ∨ (a.1 = b.1 ∧ a.2 < b.2) := by simp [dLess]
theorem dLess_not {a b : Dt} : dLess a b = false ↔ ¬ (a.1 < b.1 ∨ (a.1 = b.1 ∧ a.2 < b.2)) := by simp [dLess]
theorem dLess_swo : Go.Sort.SWO dLess where
  irrefl x := by rw [dLess_not]; omega
  trans x y z h1 h2 := by rw [dLess_iff] at *; omega
  ntrans x y z h1 h2 := by rw [dLess_not] at *; omega
theorem dLess_total {x y : Dt} (h1 : dLess x y = false) (h2 : dLess y x = false) : x = y := by
  rw [dLess_not] at h1 h2
  exact Prod.ext (by omega) (by omega)
theorem sortD_at {m p : Mem} {l : List Mem} {i : Nat} (hS : Strong m) (hs : Split m l) (hi : l[i]? = some p) {v : Value} {E : List Dt} (hv : Do p v E) (hl : E.length ≤ 1000000000) :
    Spec Tryz.prog 206 [.v v, fn0V 207] m fun r m' => ∃ p', r = [] ∧ Split m' (l.set i p') ∧ Do p' v (sortD E) := by
  have h := sortFD_at (cf := dOrd) (by rw [ltOf_dOrd]; exact dLess_swo) (by rw [ltOf_dOrd]; exact fun x y => dLess_total) (g := 207) (fun x y => order4_spec.mono fun r m' h => h.1) hS hs hi hv hl
  rw [ltOf_dOrd] at h
  exact h
theorem compD_cc (a b : Dt) (r : List Dt) : compD (a :: b :: r) = if a = b then compD (b :: r) else a :: compD (b :: r) := by rw [compD]
theorem compD_one (a : Dt) : compD [a] = [a] := rfl
theorem compD_snoc : ∀ (l : List Dt) (y x : Dt), compD (l ++ [y, x]) = if y = x then compD (l ++ [y]) else compD (l ++ [y]) ++ [x]
  | [], y, x => by
    show compD [y, x] = if y = x then compD [y] else compD [y] ++ [x]
    rw [compD_cc, compD_one, compD_one]
    by_cases h : y = x
    · rw [if_pos h, if_pos h, h]
    · rw [if_neg h, if_neg h]; rfl
  | [a], y, x => by
    have ih : compD [y, x] = if y = x then compD [y] else compD [y] ++ [x] := compD_snoc [] y x
    show compD (a :: y :: [x]) = if y = x then compD (a :: y :: []) else compD (a :: y :: []) ++ [x]
    rw [compD_cc a y [x], compD_cc a y []]
    by_cases h : a = y
    · rw [if_pos h, if_pos h]; exact ih
    · rw [if_neg h, if_neg h, ih]; split <;> rfl
  | a :: b :: r, y, x => by
    have ih : compD (b :: (r ++ [y, x])) = if y = x then compD (b :: (r ++ [y])) else compD (b :: (r ++ [y])) ++ [x] := compD_snoc (b :: r) y x
    show compD (a :: b :: (r ++ [y, x])) = if y = x then compD (a :: b :: (r ++ [y])) else compD (a :: b :: (r ++ [y])) ++ [x]
    rw [compD_cc a b (r ++ [y, x]), compD_cc a b (r ++ [y])]
    by_cases h : a = b
    · rw [if_pos h, if_pos h]; exact ih
    · rw [if_neg h, if_neg h, ih]; split <;> rfl
theorem take_two {E : List Dt} {i : Nat} (h : i + 1 < E.length) : E.take (i + 2) = E.take i ++ [E[i], E[i + 1]] := by
  rw [List.take_succ_eq_append_getElem h, List.take_succ_eq_append_getElem (by omega : i < E.length), List.append_assoc]; rfl
theorem compD_step {E : List Dt} {i : Nat} (h : i + 1 < E.length) : compD (E.take (i + 2)) = if E[i] = E[i + 1] then compD (E.take (i + 1)) else compD (E.take (i + 1)) ++ [E[i + 1]] := by
  rw [take_two h, compD_snoc, List.take_succ_eq_append_getElem (by omega : i < E.length)]
theorem compD_short : ∀ {E : List Dt}, E.length < 2 → compD E = E
  | [], _ => rfl
  | [a], _ => rfl
  | a :: b :: r, h => by simp at h; omega
set_option maxHeartbeats 4000000 in
theorem compactD_spec {mm m p : Mem} {v : Value} {E : List Dt} (hs : Split mm [p, m]) (hv : Do p v E) (hl : E.length ≤ 10000000) :
    Spec Tryz.prog 208 [.v v] mm fun r m' => ∃ v' p', r = [.v v'] ∧ Split m' [p', m] ∧ Do p' v' (compD E) := by
  obtain ⟨a, c, rfl⟩ := hv.el.shape
  refine en208 rfl (goY ?_)
  conv => whnf
  refine ⟨fun h => ?_, fun h => ?_⟩
  · have h' := of_decide_eq_true h
    conv => whnf
    exact ⟨_, p, rfl, hs, by rw [compD_short (by omega)]; exact hv⟩
  have h2 : 2 ≤ E.length := by have := of_decide_eq_false h; omega
  clear h
  obtain ⟨bl, ol, c', hh, hg⟩ := hv.el.ea.real (i := 0) (by omega)
  injection hh with hh1 _ hh3
  subst hh1
  clear hh3 c'
  have hcap : E.length ≤ c := (encD_ok.row hv).choose_spec.2.2.1
  conv => whnf
  refine .mk (ι := Nat) (fun k => E.length - k) (fun k mm' => 1 ≤ k ∧ k ≤ E.length ∧ compD (E.take k) = E.take k ∧ mm' = mm) (fun k => [(0, .c (.v (.slice (some ⟨bl, ol, none⟩) E.length c))), (3, .c (i64 k))]) (fun _ => []) 1 ⟨by omega, by omega, compD_short (by rw [List.length_take]; omega), rfl⟩ ?_ ?_
  · conv => whnf
    repeat (refine And.intro (by first | with_reducible rfl | exact congrArg (Value.int _) (wi (by omega) (by omega)) | exact wi (by omega) (by omega) | rfl) ?_; conv => whnf)
    first | exact trivial | exact fun _ _ h => h
  rintro k mm' ⟨hk1, hk, hcd, he⟩
  subst mm'
  conv => whnf
  refine ⟨fun h => ?_, fun h => ?_⟩
  rotate_left
  · have h' := of_decide_eq_false h
    obtain rfl : k = E.length := by omega
    rw [List.take_length] at hcd
    conv => whnf
    exact ⟨_, p, rfl, hs, by rw [hcd]; exact hv⟩
  have h' := of_decide_eq_true h
  have hlt : k < E.length := by omega
  clear h h'
  have hsub : Sub p mm := hs.sub (by simp)
  have hg1 := (hg k hlt).sub hsub
  have hg0 := (hg (k - 1) (by omega)).sub hsub
  have ew : IntKind.i64.wrap ((k : Int) - 1) = ((k - 1 : Nat) : Int) := by rw [wi (by omega) (by omega)]; omega
  have hst := compD_step (E := E) (i := k - 1) (by omega)
  have hk2 : k - 1 + 1 = k := by omega
  have hk3 : k - 1 + 2 = k + 1 := by omega
  simp only [hk2, hk3] at hst
  conv => whnf
  repeat (refine And.intro (by first | omega | (simp only [times]; omega)) ?_; conv => whnf)
  refine ⟨[.one (.int .i64 E[k].1), .one (.int .u64 E[k].2)], ⟨rfl, rfl, trivial⟩, rfl, by simp only [times, Int.toNat_natCast]; exact hg1, ?_⟩
  conv => whnf
  rw [ew]
  repeat (refine And.intro (by first | omega | (simp only [times]; omega)) ?_; conv => whnf)
  refine ⟨[.one (.int .i64 (E[k - 1]'(by omega)).1), .one (.int .u64 (E[k - 1]'(by omega)).2)], ⟨rfl, rfl, trivial⟩, rfl, by simp only [times, Int.toNat_natCast]; exact hg0, ?_⟩
  conv => whnf
  rw [eqPD]
  refine ⟨fun h => ?_, fun h => ?_⟩
  rotate_left
  · have hne : ¬ E[k - 1]'(by omega) = E[k] := fun e => by rw [e] at h; simp at h
    rw [if_neg hne, hcd, ← List.take_succ_eq_append_getElem hlt] at hst
    conv => whnf
    refine ⟨k + 1, ⟨by omega, by omega, hst, rfl⟩, by omega, ?_⟩
    conv => whnf
    repeat (refine And.intro (by first | with_reducible rfl | (first | exact congrArg (Value.int _) (iadd (by omega))) | exact congrArg (Value.int _) (wi (by omega) (by omega)) | exact wi (by omega) (by omega) | rfl) ?_; conv => whnf)
    first | exact trivial | exact fun _ _ h => h
  have heq : E[k] = E[k - 1]'(by omega) := of_decide_eq_true h
  rw [if_pos heq.symm, hcd] at hst
  clear h ew hg0 hg1
  conv => whnf
  repeat (refine And.intro (by first | omega | (simp only [times]; omega)) ?_; conv => whnf)
  intro o' q1 q2
  obtain rfl : o' = ol + k * 2 := by simpa [times] using q1 (by omega)
  clear q1 q2
  have ek : (k : Int).toNat = k := by omega
  conv => whnf
  rw [ek]
  refine .mk (ι := Nat × Nat) (fun i => E.length - i.2) (fun ⟨i, j⟩ mm' => ∃ p Z, Split mm' [p, m] ∧ Do p (.slice (some ⟨bl, ol, none⟩) E.length c) Z ∧ Z.take i = compD (E.take (k + j)) ∧ Z.drop (k + j - 1) = E.drop (k + j - 1) ∧ i ≤ k + j - 1 ∧ 1 ≤ j ∧ k + j ≤ E.length)
    (fun ⟨i, j⟩ => [(0, .c (.v (.slice (some ⟨bl, ol, none⟩) E.length c))), (3, .c (i64 i)), (4, .c (.v (.slice (some ⟨bl, ol + k * 2, none⟩) (E.length - k) (c - k)))), (5, .c (i64 j))]) (fun _ => []) (k, 1) ⟨p, E, hs, hv, hst.symm, rfl, by omega, by omega, by omega⟩ ?_ ?_
  · conv => whnf
    repeat (refine And.intro (by first | with_reducible rfl | exact congrArg (Value.int _) (wi (by omega) (by omega)) | exact wi (by omega) (by omega) | rfl) ?_; conv => whnf)
    first | exact trivial | exact fun _ _ h => h
  rintro ⟨i, j⟩ mm' ⟨p, Z, hs, hZ, ht, hd, hij, hj1, hj⟩
  have hZl : Z.length = E.length := (encD_ok.row hZ).choose_spec.2.1
  conv => whnf
  refine ⟨fun h => ?_, fun h => ?_⟩
  · have h' := of_decide_eq_true h
    have hlt : k + j < E.length := by omega
    clear h h'
    have hZE : ∀ x (hx : x < E.length), k + j - 1 ≤ x → Z[x]'(by omega) = E[x] := fun x hx hx2 => by
      have := congrArg (fun l : List Dt => l[x - (k + j - 1)]?) hd
      simp only [List.getElem?_drop, show k + j - 1 + (x - (k + j - 1)) = x by omega] at this
      rw [List.getElem?_eq_getElem (by omega), List.getElem?_eq_getElem hx] at this
      exact Option.some.inj this
    obtain ⟨bl', ol', c', hh, hg⟩ := hZ.el.ea.real (i := 0) (by omega)
    injection hh with hh1 _ hh3
    injection hh1 with hh1
    injection hh1 with hb1 ho1
    subst hb1
    subst ho1
    clear hh3 c'
    have hsub : Sub p mm' := hs.sub (by simp)
    have hg1 := (hg (k + j) (by omega)).sub hsub
    have hg0 := (hg (k + j - 1) (by omega)).sub hsub
    rw [hZE _ hlt (by omega)] at hg1
    rw [hZE _ (by omega) (by omega)] at hg0
    have hst := compD_step (E := E) (i := k + j - 1) (by omega)
    have hk2 : k + j - 1 + 1 = k + j := by omega
    have hk3 : k + j - 1 + 2 = k + (j + 1) := by omega
    simp only [hk2, hk3] at hst
    have hd1 : Z.drop (k + j) = E.drop (k + j) := by
      have := congrArg (List.drop 1) hd
      rw [List.drop_drop, List.drop_drop, hk2] at this; exact this
    have ew : IntKind.i64.wrap ((j : Int) - 1) = ((j - 1 : Nat) : Int) := by rw [wi (by omega) (by omega)]; omega
    have eo1 : ol + k * 2 + j * 2 = ol + (k + j) * 2 := by omega
    have eo0 : ol + k * 2 + (j - 1) * 2 = ol + (k + j - 1) * 2 := by omega
    generalize hx : E[k + j] = x at hg1 hst
    generalize hy : E[k + j - 1]'(by omega) = y at hg0 hst
    conv => whnf
    repeat (refine And.intro (by first | omega | (simp only [times]; omega)) ?_; conv => whnf)
    refine ⟨[.one (.int .i64 x.1), .one (.int .u64 x.2)], ⟨rfl, rfl, trivial⟩, rfl, by simp only [times, Int.toNat_natCast, eo1]; exact hg1, ?_⟩
    conv => whnf
    rw [ew]
    repeat (refine And.intro (by first | omega | (simp only [times]; omega)) ?_; conv => whnf)
    refine ⟨[.one (.int .i64 y.1), .one (.int .u64 y.2)], ⟨rfl, rfl, trivial⟩, rfl, by simp only [times, Int.toNat_natCast, eo0]; exact hg0, ?_⟩
    conv => whnf
    rw [eqPD']
    refine ⟨fun h => ?_, fun h => ?_⟩
    · have hne : ¬ y = x := fun e => by rw [e] at h; simp at h
      rw [if_neg hne] at hst
      clear h
      conv => whnf
      repeat (refine And.intro (by first | omega | (simp only [times]; omega)) ?_; conv => whnf)
      refine ⟨[.one (.int .i64 x.1), .one (.int .u64 x.2)], ⟨rfl, rfl, trivial⟩, rfl, by simp only [times, Int.toNat_natCast, eo1]; exact hg1, ?_⟩
      conv => whnf
      repeat (refine And.intro (by first | omega | (simp only [times]; omega)) ?_; conv => whnf)
      obtain ⟨arr, k1, k2, k3⟩ := encD_ok.set hZ (i := i) (by omega) x
      refine ⟨arr, _, _, hs.sub (a := p) (by simp) _ _ k1, ⟨by simp only [times, Int.toNat_natCast]; exact k2, noFr⟩, ?_⟩
      have hs2 := hs.set k1 (.cells (arr.toList.take (ol + i * 2) ++ (encD x ++ arr.toList.drop (ol + i * 2 + 2))).toArray 186)
      simp only [times, Int.toNat_natCast]
      have hk1 : IntKind.i64.wrap ((i : Int) + 1) = ((i + 1 : Nat) : Int) := iadd (by omega)
      conv => whnf
      refine ⟨(i + 1, j + 1), ⟨_, Z.set i x, hs2, k3, ?_, ?_, by omega, by omega, by omega⟩, by simp only; omega, ?_⟩
      · rw [hst, ← ht, List.take_succ_eq_append_getElem (by rw [List.length_set]; omega), List.getElem_set_self, List.take_set_of_le (by omega)]
      · rw [show k + (j + 1) - 1 = k + j by omega, List.drop_set_of_lt (by omega)]; exact hd1
      · conv => whnf
        repeat (refine And.intro (by first | with_reducible rfl | (first | exact congrArg (Value.int _) (iadd (by omega))) | exact congrArg (Value.int _) (wi (by omega) (by omega)) | exact wi (by omega) (by omega) | rfl) ?_; conv => whnf)
        first | exact trivial | exact fun _ _ h => h
    · have heq : y = x := by simp at h; exact h.symm
      rw [if_pos heq] at hst
      conv => whnf
      refine ⟨(i, j + 1), ⟨p, Z, hs, hZ, by rw [hst]; exact ht, by rw [show k + (j + 1) - 1 = k + j by omega]; exact hd1, by omega, by omega, by omega⟩, by simp only; omega, ?_⟩
      conv => whnf
      repeat (refine And.intro (by first | with_reducible rfl | (first | exact congrArg (Value.int _) (iadd (by omega))) | exact congrArg (Value.int _) (wi (by omega) (by omega)) | exact wi (by omega) (by omega) | rfl) ?_; conv => whnf)
      first | exact trivial | exact fun _ _ h => h
  · have h' := of_decide_eq_false h
    have hje : k + j = E.length := by omega
    rw [hje, List.take_length] at ht
    obtain ⟨arr, k1, k2, k3, k4, k5⟩ := encD_ok.row hZ
    clear h h'
    have ei : (i : Int).toNat = i := by omega
    conv => whnf
    repeat (refine And.intro (by first | omega | (simp only [times]; omega)) ?_; conv => whnf)
    intro o' q1 q2
    have ho : o' = ol + i * 2 := by simpa [times] using q1 (by omega)
    clear q1 q2
    subst ho
    conv => whnf
    rw [ei]
    refine .mk _ (clearD (hs.sub (a := p) (by simp) _ _ k1) (by omega) (by omega)) ?_
    rintro _ m' ⟨rfl, zs, hz1, hz2, rfl⟩
    conv => whnf
    have hs2 := hs.set k1 (.cells (arr.toList.take (ol + i * 2) ++ zs ++ arr.toList.drop (ol + i * 2 + (E.length - i) * 2)).toArray 186)
    repeat (refine And.intro (by first | omega | (simp only [times]; omega)) ?_; conv => whnf)
    intro o' q1 q2
    obtain rfl : o' = ol := by have := q1 (by omega); simpa [times] using this
    conv => whnf
    rw [ei]
    refine ⟨_, _, rfl, hs2, ?_⟩
    rw [← ht]
    refine encD_ok.mk' (Mem.set_same ..) (by rw [List.length_take]; omega) (by omega) ?_ fun j u hu => ?_
    · simp only [List.size_toArray, List.length_append, List.length_take, List.length_drop, Array.length_toList, hz1]; omega
    · have hjl := (List.getElem?_eq_some_iff.1 hu).1
      rw [encD_ok.flen, List.length_take] at hjl
      have hj2 : o' + j < o' + i * 2 := by have := Nat.mul_le_mul_right 2 (Nat.min_le_left i Z.length); omega
      rw [← encD_ok.take, List.getElem?_take] at hu
      split at hu
      · have := k5 j u hu
        rw [List.getElem?_toArray, List.append_assoc, List.getElem?_append_left (by rw [List.length_take, Array.length_toList]; omega), List.getElem?_take, if_pos hj2, Array.getElem?_toList]
        exact this
      · cases hu
theorem compD_le (l : List Dt) : (compD (sortD (l.filter rightD))).length ≤ l.length := by
  have h1 := compD_len (sortD (l.filter rightD))
  have h2 : (sortD (l.filter rightD)).length ≤ l.length := by
    unfold sortD; rw [List.length_mergeSort]; exact List.length_filter_le ..
  omega
set_option maxHeartbeats 4000000 in
theorem setV_spec {m : Mem} (hS : Strong m) {b : Nat} {v : Value} {E : List Dt} (hb : m b = some (.cells #[v] 189)) (hv : Da m v E) (hl : E.length ≤ 1000000) :
    Spec Tryz.prog 193 [fnP1V 209 b] m fun r m' => ∃ v' p, r = [.v v'] ∧ Split m' [p, m] ∧ Do p v' (setF E) := by
  refine en193 rfl (goY ?_)
  conv => whnf
  intro bo hbo
  conv => whnf
  refine .mk 209 #[.pointer (some ⟨b, 0, none⟩)] rfl rfl rfl (ι := Nat)
    (fun k mm => k ≤ E.length ∧ ∃ vo p, Split mm [p, blk1 bo (.cells #[vo] 189), m] ∧ Do p vo ((E.take k).filter rightD)) 0 ⟨by omega, .slice none 0 0, emp, ((Split.one m).new hbo _).addEmp, Do.nil _⟩
    (fun k x j => ∃ h : k < E.length, x = [Dv E[k]] ∧ j = k + 1) (fun k x j ⟨_, h1, _⟩ => by subst h1; rfl) ?_
    (fun mm => ∃ vo p, Split mm [p, blk1 bo (.cells #[vo] 189), m] ∧ Do p vo (E.filter rightD)) ?_ ?_
  · rintro k _ _ mm ⟨hk, vo, p, hs, hp⟩ ⟨hlt, rfl, rfl⟩
    have hst : E.take (k + 1) = E.take k ++ [E[k]] := List.take_succ_eq_append_getElem hlt
    generalize E[k] = x at hst
    conv => whnf
    intro b4 hb4
    conv => whnf
    refine ⟨_, _, _, Mem.set_same .., ⟨Nat.le_refl 2, noFr⟩, ?_⟩
    rw [storeAll (by rfl)]
    conv => whnf
    have hs4 := hs.new hb4 (.cells (encD x).toArray 186)
    change Split (mm.set b4 (.cells (LB.cells [.one (.int .i64 x.1), .one (.int .u64 x.2)]).toArray 186)) _ at hs4
    generalize mm.set b4 (.cells (LB.cells [.one (.int .i64 x.1), .one (.int .u64 x.2)]).toArray 186) = m2 at hs4 ⊢
    have hr4 : MRange m2 b4 0 (encD x) := ⟨_, _, _, hs4.get (a := blk1 b4 (.cells (encD x).toArray 186)) (by simp) (blk1_same ..), fun j u hu => by rw [Nat.zero_add, List.getElem?_toArray]; exact hu⟩
    refine ⟨[.one (.int .i64 x.1), .one (.int .u64 x.2)], ⟨rfl, rfl, trivial⟩, rfl, hr4, ?_⟩
    conv => whnf
    first | refine xretk (right3_spec (n := x.1) (k := x.2)) ?_ | refine xret (right3_spec (n := x.1) (k := x.2)) ?_
    conv => whnf
    refine ⟨fun h => ?_, fun h => ?_⟩
    · have hx : rightD x = true := h
      conv => whnf
      refine ⟨_, mcell_of (hs4.get (a := blk1 bo (.cells #[vo] 189)) (by simp) (blk1_same ..)) rfl, hp.ea.one, ?_⟩
      conv => whnf
      refine ⟨[.one (.int .i64 x.1), .one (.int .u64 x.2)], ⟨rfl, rfl, trivial⟩, rfl, hr4, ?_⟩
      conv => whnf
      refine .mk _ (buildD1 (e := x)) ?_
      rintro _ _ ⟨b5, hb5, rfl, rfl⟩
      conv => whnf
      have hfl : ((E.take k).filter rightD).length ≤ E.length := by have h1 := List.length_filter_le rightD (E.take k); rw [List.length_take] at h1; omega
      refine .mk _ (pushD (i := 1) hs4 rfl hb5 hp (by omega)) ?_
      rintro _ m6 ⟨vo', p', rfl, hs6, hp'⟩
      conv => whnf
      refine ⟨_, _, _, hs6.get (a := blk1 bo (.cells #[vo] 189)) (by simp) (blk1_same ..), ⟨by simp, by simp⟩, ?_⟩
      conv => whnf
      have hs7 := hs6.setAt (i := 2) rfl (blk1_same ..) (.cells #[vo'] 189)
      rw [blk1_set] at hs7
      refine ⟨by omega, vo', p', hs7.drop, ?_⟩
      rw [hst, List.filter_append, List.filter_cons_of_pos hx]
      exact hp'
    · have hx : ¬ rightD x = true := by have : rightD x = false := h; rw [this]; simp
      conv => whnf
      refine ⟨by omega, vo, p, hs4.drop, ?_⟩
      rw [hst, List.filter_append, List.filter_cons_of_neg hx]
      simpa using hp
  · intro lb ob _ hround
    refine (valIterD_spec (I := fun k mm => ∃ m1, (k ≤ E.length ∧ ∃ vo p, Split m1 [p, blk1 bo (.cells #[vo] 189), m] ∧ Do p vo ((E.take k).filter rightD)) ∧ m1 lb = none ∧ mm = m1.set lb ob) (l := lb) (b := b) (v := v) (E := E) (by omega) ?_ ?_ ⟨_, ⟨Nat.zero_le _, .slice none 0 0, emp, ((Split.one m).new hbo _).addEmp, Do.nil _⟩, by assumption, rfl⟩).mono ?_
    · rintro k mm ⟨m1, ⟨_, vo, p, hs, _⟩, hl, rfl⟩
      have hsub : Sub m (m1.set lb ob) := (hs.sub (by simp)).trans (Mem.sub_set _ hl)
      exact ⟨hsub _ _ hb, hv.sub hsub⟩
    · rintro k mm hk ⟨m1, hi, hl, rfl⟩
      exact hround k _ _ m1 hi ⟨hk, rfl, rfl⟩ hl
    · rintro r m' ⟨rfl, m1, ⟨_, vo, p, hs, hp⟩, hl, rfl⟩
      rw [List.take_length] at hp
      exact ⟨m1, ⟨vo, p, hs, hp⟩, hl, rfl⟩
  · rintro mm ⟨vo, p, hs, hp⟩
    have hfl : (E.filter rightD).length ≤ E.length := List.length_filter_le ..
    conv => whnf
    refine ⟨vo, mcell_of (hs.get (a := blk1 bo (.cells #[vo] 189)) (by simp) (blk1_same ..)) rfl, hp.ea.one, ?_⟩
    conv => whnf
    refine xcall (sortD_at (hS.sub (hs.sub (by simp))) hs (i := 0) rfl hp (by omega)) ?_
    rintro _ m1 ⟨p1, rfl, hs1, hp1⟩
    conv => whnf
    refine ⟨vo, mcell_of (hs1.get (a := blk1 bo (.cells #[vo] 189)) (by simp) (blk1_same ..)) rfl, hp.ea.one, ?_⟩
    conv => whnf
    have hsl : (sortD (E.filter rightD)).length = (E.filter rightD).length := by unfold sortD; exact List.length_mergeSort _
    obtain ⟨J, hJ, hsJ, back⟩ := Split.pickP hs1
    refine xcall (compactD_spec hsJ hp1 (by omega)) ?_
    rintro _ m2 ⟨v2, p2, rfl, hs2', hp2⟩
    conv => whnf
    have hs2 : Split m2 [p2, blk1 bo (.cells #[vo] 189), m] := back _ _ hs2'
    refine ⟨_, _, _, hs2.get (a := blk1 bo (.cells #[vo] 189)) (by simp) (blk1_same ..), ⟨by simp, by simp⟩, ?_⟩
    conv => whnf
    have hs3 := hs2.setAt (i := 1) rfl (blk1_same ..) (.cells #[v2] 189)
    rw [blk1_set] at hs3
    have hs3 : Split (m2.set bo (.cells #[v2] 189)) [p2, blk1 bo (.cells #[v2] 189), m] := hs3
    have ebo : (m2.set bo (.cells #[v2] 189)) bo = some (.cells #[v2] 189) := Mem.set_same ..
    have hle := compD_le E
    have hset : setF E = (compD (sortD (E.filter rightD))).take 2000 := rfl
    rw [hset]
    generalize compD (sortD (E.filter rightD)) = L at hp2 hle
    obtain ⟨a2, c2, rfl⟩ := hp2.el.shape
    refine ⟨_, mcell_of ebo rfl, rfl, ?_⟩
    conv => whnf
    refine ⟨_, mcell_of ebo rfl, rfl, ?_⟩
    conv => whnf
    have emin : min (L.length : Int) 2000 = ((min L.length 2000 : Nat) : Int) := by omega
    rw [emin]
    cases a2 with
    | none =>
      have hL : L = [] := by
        rcases hp2 with ⟨e, h⟩ | ⟨b', o', c', n', arr, e, _⟩
        · exact List.eq_nil_of_length_eq_zero (encD_ok.count (n := 0) (by rw [h]; rfl))
        · cases e
      subst hL
      have hc2 : c2 = 0 := by
        rcases hp2 with ⟨e, h⟩ | ⟨b', o', c', n', arr, e, _⟩
        · injection e
        · cases e
      subst hc2
      rw [show ((min ([] : List Dt).length 2000 : Nat) : Int) = 0 from rfl]
      conv => whnf
      repeat (refine And.intro (by first | omega | (simp only [times]; omega)) ?_; conv => whnf)
      exact ⟨_, p2, rfl, hs3.erase 1, .inl ⟨rfl, rfl⟩⟩
    | some a2 =>
      obtain ⟨b9, o9, e9⟩ := (show ∃ b o, a2 = ⟨b, o, none⟩ by
        rcases hp2 with ⟨e, h⟩ | ⟨b', o', c', n', arr, e, _⟩
        · cases e
        · injection e with e; injection e with e; exact ⟨_, _, e⟩)
      subst e9
      obtain ⟨arr, r1, r2, r3, r4, r5⟩ := encD_ok.row hp2
      conv => whnf
      repeat (refine And.intro (by first | omega | (simp only [times]; omega)) ?_; conv => whnf)
      intro o' q1 q2
      obtain rfl : o' = o9 := by
        by_cases h0 : c2 = 0
        · exact q2 h0
        · have := q1 h0; simpa using this
      clear q1 q2
      conv => whnf
      have hcut := encD_ok.cut hp2 (i := min L.length 2000) (by omega)
      have et : L.take (min L.length 2000) = L.take 2000 := by
        by_cases h0 : L.length ≤ 2000
        · rw [List.take_of_length_le (by omega), List.take_of_length_le h0]
        · rw [Nat.min_eq_right (by omega)]
      rw [et] at hcut
      refine ⟨_, p2, rfl, hs3.erase 1, ?_⟩
      simp only [Int.toNat_natCast, Nat.sub_zero]
      exact hcut
theorem ofD_spec {m : Mem} (hS : Strong m) {v : Value} {E : List Dt} (hv : Da m v E) (hl : E.length ≤ 1000000) :
    Spec Tryz.prog 168 [.v v] m fun r m' => ∃ v' p, r = [.v v'] ∧ Split m' [p, m] ∧ Do p v' (setF E) := by
  obtain ⟨a, c, rfl⟩ := hv.shape
  refine en168 rfl (goY ?_)
  conv => whnf
  refine xcall (valuesD_spec (v := .slice a E.length c) rfl) ?_
  rintro _ m1 ⟨b, hb, rfl, rfl⟩
  conv => whnf
  have hs := (Split.one m).new hb (.cells #[.slice a E.length c] 189)
  refine xcall (setV_spec (hS.sub (hs.sub (by simp))) (Mem.set_same ..) (hv.sub (hs.sub (by simp))) hl) ?_
  rintro _ m2 ⟨v', p, rfl, hs2, hp⟩
  conv => whnf
  exact ⟨v', p, rfl, (Split.beside hs2 hs).erase 1, hp⟩
abbrev cartV (v : List Int) (a : Option Addr) (n c : Nat) : CV := .a [.ints .u64 8 v, .one (.slice a n c)]
theorem beqL (u w : List Int) : eqLB [.ints .u64 8 u] [.ints .u64 8 w] = decide (u = w) := by
  rw [Bool.eq_iff_iff]
  simp [eqLB]
theorem sameC_spec {m : Mem} {u w : List Int} {a a' : Option Addr} {c c' : Nat} {E K : List En} (hv : Na m (.slice a E.length c) E) (hw : Na m (.slice a' K.length c') K) (hl : E.length ≤ 100000000) :
    Ret Tryz.prog 20 [cartV u a E.length c, cartV w a' K.length c'] m [boolV (decide (u = w) && decide (E = K))] := by
  refine en20 rfl (goY ?_)
  conv => whnf
  rw [beqL]
  refine ⟨fun h => ?_, fun h => ?_⟩
  · conv => whnf
    first | refine xretk (equalN_spec hv hw hl) ?_ | refine xret (equalN_spec hv hw hl) ?_
    conv => whnf
    exact ⟨by rw [h]; rfl, rfl⟩
  · conv => whnf
    exact ⟨by rw [h]; rfl, rfl⟩
theorem isEntry_spec {m : Mem} {e : En} : Ret Tryz.prog 119 [Nv e] m [boolV (isEn e)] := by
  refine en119 rfl (goY ?_)
  conv => whnf
  repeat' (first | (refine ⟨fun h => ?_, fun h => ?_⟩ <;> conv => whnf) | fail)
  all_goals (refine ⟨?_, rfl⟩; simp [isEn] at *; try omega)
theorem dots_take {E : List En} {i : Nat} (h : i < E.length) : (E.take (i + 1)).map enDot = (E.take i).map enDot ++ [enDot E[i]] := by
  rw [List.take_succ_eq_append_getElem h, List.map_append]; rfl
set_option maxHeartbeats 2000000 in
theorem live_spec {m : Mem} (hS : Strong m) {u : List Int} {a : Option Addr} {c : Nat} {E : List En} (hv : Na m (.slice a E.length c) E) (hl : E.length ≤ 1000000) :
    Spec Tryz.prog 123 [cartV u a E.length c] m fun r m' => ∃ v p, r = [.v v] ∧ Split m' [p, m] ∧ Do p v (liveC E) := by
  refine en123 rfl (goY ?_)
  conv => whnf
  refine .mk (ι := Nat × Value) (fun i => E.length - i.1) (fun ⟨i, vo⟩ mm => i ≤ E.length ∧ ∃ p, Split mm [p, m] ∧ Do p vo ((E.take i).map enDot)) (fun ⟨i, vo⟩ => [(3, .c (.v vo)), (7, .c (.v (.slice a E.length c))), (8, .c (i64 E.length)), (9, .c (i64 i))]) (fun _ => []) (0, .slice none 0 0) ⟨by omega, emp, (Split.one m).addEmp, Do.nil _⟩ ?_ ?_
  · conv => whnf
    repeat (refine And.intro (by first | with_reducible rfl | exact congrArg (Value.int _) (wi (by omega) (by omega)) | exact wi (by omega) (by omega) | rfl) ?_; conv => whnf)
    first | exact trivial | exact fun _ _ h => h
  rintro ⟨i, vo⟩ mm ⟨hi, p, hs, hp⟩
  conv => whnf
  refine ⟨fun h => ?_, fun h => ?_⟩
  · have h' := of_decide_eq_true h
    have hlt : i < E.length := by omega
    clear h
    obtain ⟨bl, ol, c', hh, hg⟩ := (hv.sub (hs.sub (by simp))).real hlt
    injection hh with hh1 _ hh3
    subst hh1
    clear hh3 c'
    have hg := hg i hlt
    have hst := dots_take hlt
    generalize E[i] = x at hg hst
    conv => whnf
    repeat (refine And.intro (by first | omega | (simp only [times]; omega)) ?_; conv => whnf)
    refine ⟨[.one (.int .i64 x.1), .one (.int .i64 x.2.1), .one (.int .u64 x.2.2.1), .one (.int .i64 x.2.2.2)], ⟨rfl, rfl, rfl, rfl, trivial⟩, rfl, by simp only [times, Int.toNat_natCast]; exact hg, ?_⟩
    conv => whnf
    first | refine xretk (cdot_spec (e := x)) ?_ | refine xret (cdot_spec (e := x)) ?_
    conv => whnf
    refine .mk _ (buildD1 (e := enDot x)) ?_
    rintro _ _ ⟨b5, hb5, rfl, rfl⟩
    conv => whnf
    refine .mk _ (pushD (i := 0) hs rfl hb5 hp (by rw [List.length_map, List.length_take]; omega)) ?_
    rintro _ m6 ⟨vo', p', rfl, hs6, hp'⟩
    conv => whnf
    refine ⟨(i + 1, vo'), ⟨by omega, p', hs6, by rw [hst]; exact hp'⟩, by simp only; omega, ?_⟩
    conv => whnf
    repeat (refine And.intro (by first | with_reducible rfl | (first | exact congrArg (Value.int _) (iadd (by omega))) | exact congrArg (Value.int _) (wi (by omega) (by omega)) | exact wi (by omega) (by omega) | rfl) ?_; conv => whnf)
    first | exact trivial | exact fun _ _ h => h
  · have h' := of_decide_eq_false h
    obtain rfl : i = E.length := by omega
    rw [List.take_length] at hp
    conv => whnf
    have hS2 : Strong mm := hS.sub (hs.sub (by simp))
    refine xcall (ofD_spec hS2 (hp.ea.sub (hs.sub (a := p) (by simp))) (by rw [List.length_map]; omega)) ?_
    rintro _ m2 ⟨v', p', rfl, hs2, hp2⟩
    conv => whnf
    exact ⟨v', p', rfl, (Split.under (a := [p']) hs2 hs).erase 1, hp2⟩
set_option maxHeartbeats 4000000 in
theorem right6_spec {m : Mem} (hS : Strong m) {u : List Int} {a : Option Addr} {c : Nat} {E : List En} (hv : Na m (.slice a E.length c) E) (hI : ∀ e ∈ E, okE e) (hl : E.length ≤ 1000000) :
    Spec Tryz.prog 74 [cartV u a E.length c] m fun r m' => r = [boolV (rightC u E)] ∧ Sub m m' := by
  have hbad : ∀ i, i < E.length → okE3 u E i = false → rightC u E = false := fun i hi e => by
    have : (List.range E.length).all (okE3 u E) = false := by
      rw [List.all_eq_false]; exact ⟨i, List.mem_range.2 hi, by rw [e]; decide⟩
    rw [rightC, this]; simp
  refine en74 rfl (goY ?_)
  conv => whnf
  refine ⟨fun h => ?_, fun h => ?_⟩
  · have h' : 400 < E.length := by have := of_decide_eq_true h; omega
    conv => whnf
    exact ⟨by rw [rightC, decide_eq_false (by omega)]; rfl, Sub.refl _⟩
  have h4 : E.length ≤ 400 := by have := of_decide_eq_false h; omega
  clear h
  conv => whnf
  refine .mk (ι := Nat) (fun i => E.length - i) (fun i mm => i ≤ E.length ∧ (∀ j, j < i → okE3 u E j = true) ∧ Sub m mm) (fun i => [(1, .p 0 0), (10, .c (.v (.slice a E.length c))), (11, .c (i64 E.length)), (12, .c (i64 i))]) (fun _ => [(40, [.ints .u64 8 u, .one (.slice a E.length c)])]) 0 ⟨by omega, by omega, Sub.refl _⟩ ?_ ?_
  · conv => whnf
    repeat (refine And.intro (by first | with_reducible rfl | exact congrArg (Value.int _) (wi (by omega) (by omega)) | exact wi (by omega) (by omega) | rfl) ?_; conv => whnf)
    first | exact trivial | exact fun _ _ h => h
  rintro i mm ⟨hi, hall, hs⟩
  conv => whnf
  refine ⟨fun h => ?_, fun h => ?_⟩
  · have h' := of_decide_eq_true h
    have hlt : i < E.length := by omega
    clear h
    obtain ⟨bl, ol, c', hh, hg⟩ := hv.real hlt
    injection hh with hh1 _ hh3
    subst hh1
    clear hh3 c'
    have hg' := hg i hlt
    rw [eAt_eq hlt] at hg'
    have hok : okE3 u E i = (isEn (eAt E i) && hasV u (enDot (eAt E i)) && (decide (i = 0) || eLess (eAt E (i - 1)) (eAt E i))) := rfl
    have hone := hg (i - 1) (by omega)
    rw [eAt_eq (by omega)] at hone
    have hbi := hbad i hlt
    have hIx := hI _ (eAt_mem hlt)
    generalize eAt E i = x at hg' hok hIx
    conv => whnf
    repeat (refine And.intro (by first | omega | (simp only [times]; omega)) ?_; conv => whnf)
    refine ⟨[.one (.int .i64 x.1), .one (.int .i64 x.2.1), .one (.int .u64 x.2.2.1), .one (.int .i64 x.2.2.2)], ⟨rfl, rfl, rfl, rfl, trivial⟩, rfl, by simp only [times, Int.toNat_natCast]; exact hg'.sub hs, ?_⟩
    conv => whnf
    first | refine xretk (isEntry_spec (e := x)) ?_ | refine xret (isEntry_spec (e := x)) ?_
    conv => whnf
    by_cases hx : isEn x = true
    rotate_left
    · have hx0 : isEn x = false := by simpa using hx
      rw [hx0] at hok ⊢
      refine ⟨fun _ => ?_, fun h => absurd h (by first | decide | simp)⟩
      conv => whnf
      exact ⟨by rw [hbi hok], hs⟩
    rw [hx] at hok ⊢
    refine ⟨fun h => absurd h (by first | decide | simp), fun _ => ?_⟩
    conv => whnf
    first | refine xretk (cdot_spec (e := x)) ?_ | refine xret (cdot_spec (e := x)) ?_
    conv => whnf
    first | refine xretk (has_spec (v := u) (n := x.2.1) (k := x.2.2.1) hIx.2.1) ?_ | refine xret (has_spec (v := u) (n := x.2.1) (k := x.2.2.1) hIx.2.1) ?_
    conv => whnf
    have hhv : (rightN x.2.1 x.2.2.1 && decide (x.2.2.1 ≤ getN u x.2.1)) = hasV u (enDot x) := rfl
    rw [hhv]
    by_cases hh : hasV u (enDot x) = true
    rotate_left
    · have hh0 : hasV u (enDot x) = false := by simpa using hh
      rw [hh0] at hok ⊢
      refine ⟨fun _ => ?_, fun h => absurd h (by first | decide | simp)⟩
      conv => whnf
      exact ⟨by rw [hbi hok], hs⟩
    rw [hh] at hok ⊢
    refine ⟨fun h => absurd h (by first | decide | simp), fun _ => ?_⟩
    conv => whnf
    refine ⟨fun h1 => ?_, fun h1 => ?_⟩
    · have h1' := of_decide_eq_true h1
      clear h1
      have ew : IntKind.i64.wrap ((i : Int) - 1) = ((i - 1 : Nat) : Int) := by rw [wi (by omega) (by omega)]; omega
      rw [decide_eq_false (show ¬ i = 0 by omega), Bool.false_or, Bool.true_and, Bool.true_and] at hok
      conv => whnf
      rw [ew]
      repeat (refine And.intro (by first | omega | (simp only [times]; omega)) ?_; conv => whnf)
      generalize eAt E (i - 1) = y at hone hok
      refine ⟨[.one (.int .i64 y.1), .one (.int .i64 y.2.1), .one (.int .u64 y.2.2.1), .one (.int .i64 y.2.2.2)], ⟨rfl, rfl, rfl, rfl, trivial⟩, rfl, by simp only [times, Int.toNat_natCast]; exact hone.sub hs, ?_⟩
      conv => whnf
      refine xcall (eorder_spec (a := y) (b := x)) ?_
      rintro _ m3 ⟨rfl, hs3⟩
      conv => whnf
      first | refine ⟨fun _ h => (by cases h), ?_⟩ | skip
      conv => whnf
      have hm3 : Sub m m3 := hs.trans hs3
      have hge : decide (0 ≤ eOrd y x) = !eLess y x := by
        unfold eLess
        by_cases hlt0 : eOrd y x < 0
        · rw [decide_eq_true hlt0, decide_eq_false (by omega)]; rfl
        · rw [decide_eq_false hlt0, decide_eq_true (by omega)]; rfl
      rw [hge]
      refine ⟨fun h2 => ?_, fun h2 => ?_⟩
      · have h2' : eLess y x = false := by simpa using h2
        rw [h2'] at hok
        conv => whnf
        exact ⟨by rw [hbi hok], hm3⟩
      · have h2' : eLess y x = true := by simpa using h2
        rw [h2'] at hok
        conv => whnf
        refine ⟨i + 1, ⟨by omega, fun j hj => ?_, hm3⟩, by omega, ?_⟩
        · by_cases e : j = i
          · subst e; exact hok
          · exact hall j (by omega)
        · conv => whnf
          repeat (refine And.intro (by first | with_reducible rfl | (first | exact congrArg (Value.int _) (iadd (by omega))) | exact congrArg (Value.int _) (wi (by omega) (by omega)) | exact wi (by omega) (by omega) | rfl) ?_; conv => whnf)
          first | exact trivial | exact fun _ _ h => h
    · have h1' := of_decide_eq_false h1
      clear h1
      rw [decide_eq_true (show i = 0 by omega)] at hok
      conv => whnf
      refine ⟨i + 1, ⟨by omega, fun j hj => ?_, hs⟩, by omega, ?_⟩
      · by_cases e : j = i
        · subst e; rw [hok]; rfl
        · exact hall j (by omega)
      · conv => whnf
        repeat (refine And.intro (by first | with_reducible rfl | (first | exact congrArg (Value.int _) (iadd (by omega))) | exact congrArg (Value.int _) (wi (by omega) (by omega)) | exact wi (by omega) (by omega) | rfl) ?_; conv => whnf)
        first | exact trivial | exact fun _ _ h => h
  · have h' := of_decide_eq_false h
    obtain rfl : i = E.length := by omega
    have hv2 := hv.sub hs
    conv => whnf
    refine xcall (live_spec (u := u) (hS.sub hs) hv2 hl) ?_
    rintro _ m2 ⟨v', p', rfl, hs2, hp2⟩
    conv => whnf
    first | refine ⟨fun _ h => (by cases h), ?_⟩ | skip
    conv => whnf
    obtain ⟨a', c', rfl⟩ := hp2.el.shape
    conv => whnf
    refine ⟨?_, hs.trans (hs2.sub (by simp))⟩
    have hall' : (List.range E.length).all (okE3 u E) = true := List.all_eq_true.2 fun j hj => hall j (List.mem_range.1 hj)
    rw [rightC, hall', decide_eq_true h4]
    simp only [Bool.true_and]
    rw [beqG]
    have e : decide (((liveC E).length : Int) = (E.length : Int)) = decide ((liveC E).length = E.length) := decide_eq_decide.2 (by omega)
    rw [e]
theorem right6R {m : Mem} (hS : Strong m) {u : List Int} {a : Option Addr} {c : Nat} {E : List En} (hv : Na m (.slice a E.length c) E) (hI : ∀ e ∈ E, okE e) (hl : E.length ≤ 1000000) :
    Ret Tryz.prog 74 [cartV u a E.length c] m [boolV (rightC u E)] := (right6_spec hS hv hI hl).ret fun _ _ h => h
theorem sLess_eq (a b : ByteArray) : sLess a b = decide (a.data.toList < b.data.toList) := by
  unfold sLess
  rw [bytesLess_eq, ByteArray.toList_eq, ByteArray.toList_eq]
theorem sLess_irrefl (a : ByteArray) : sLess a a = false := by
  rw [sLess_eq]; exact decide_eq_false (List.lt_irrefl _)
theorem sLess_trans {a b c : ByteArray} (h : sLess a b = true) (k : sLess b c = true) : sLess a c = true := by
  rw [sLess_eq] at *
  exact decide_eq_true (List.lt_trans (of_decide_eq_true h) (of_decide_eq_true k))
theorem sLess_total {a b : ByteArray} (h : sLess a b = false) (k : sLess b a = false) : a = b := by
  rw [sLess_eq] at *
  have h1 := of_decide_eq_false h
  have h2 := of_decide_eq_false k
  have : a.data.toList = b.data.toList := List.le_antisymm (List.not_lt.1 h2) (List.not_lt.1 h1)
  cases a; cases b
  congr 1
  exact Array.toList_inj.1 this
theorem sLess_asymm {a b : ByteArray} (h : sLess a b = true) : sLess b a = false := by
  cases k : sLess b a with
  | false => rfl
  | true => have := sLess_trans h k; rw [sLess_irrefl] at this; cases this
theorem sLess_ne {a b : ByteArray} (h : sLess a b = true) : a ≠ b := fun e => by rw [e, sLess_irrefl] at h; cases h
def AscK (L : List Kd) : Prop := L.Pairwise fun x y => sLess x.1 y.1 = true
theorem mem_insK {k : ByteArray} {c : Ct} {x : Kd} : ∀ {L : List Kd}, x ∈ insK k c L ↔ x = (k, c) ∨ x ∈ L
  | [] => by simp [insK]
  | y :: L => by
    unfold insK
    split
    · simp
    · rw [List.mem_cons, mem_insK (L := L), List.mem_cons]
      constructor
      · rintro (h | h | h)
        · exact .inr (.inl h)
        · exact .inl h
        · exact .inr (.inr h)
      · rintro (h | h | h)
        · exact .inr (.inl h)
        · exact .inl h
        · exact .inr (.inr h)
theorem insK_asc {k : ByteArray} {c : Ct} : ∀ {L : List Kd}, AscK L → (∀ x ∈ L, x.1 ≠ k) → AscK (insK k c L)
  | [], _, _ => by simp [insK, AscK]
  | y :: L, h, hk => by
    unfold AscK at h ⊢
    rw [List.pairwise_cons] at h
    unfold insK
    split
    · rename_i hlt
      rw [List.pairwise_cons]
      refine ⟨fun x hx => ?_, List.pairwise_cons.2 h⟩
      rcases List.mem_cons.1 hx with rfl | hx
      · exact hlt
      · exact sLess_trans hlt (h.1 x hx)
    · rename_i hlt
      rw [List.pairwise_cons]
      refine ⟨fun x hx => ?_, insK_asc h.2 fun x hx => hk x (by simp [hx])⟩
      rcases mem_insK.1 hx with rfl | hx
      · cases h2 : sLess y.1 k with
        | true => rfl
        | false => exact absurd (sLess_total h2 (by simpa using hlt)) (hk y (by simp))
      · exact h.1 x hx
theorem withK_asc {L : List Kd} {k : ByteArray} {c : Ct} (h : AscK L) : AscK (withK L k c) := by
  unfold withK
  split
  · unfold AscK at h ⊢
    rw [List.pairwise_map]
    refine h.imp fun {a b} hab => ?_
    have e1 : ∀ x : Kd, (if x.1 = k then (k, c) else x).1 = x.1 := fun x => by split <;> simp [*]
    rw [e1, e1]; exact hab
  · rename_i hn
    refine insK_asc h fun x hx e => hn ?_
    rw [List.any_eq_true]
    exact ⟨x, hx, decide_eq_true e⟩
theorem mem_withK {L : List Kd} {k : ByteArray} {c : Ct} {x : Kd} (h : x ∈ withK L k c) : x = (k, c) ∨ x ∈ L := by
  unfold withK at h
  split at h
  · obtain ⟨y, hy, rfl⟩ := List.mem_map.1 h
    split
    · exact .inl rfl
    · exact .inr hy
  · exact mem_insK.1 h
theorem insK_len (k : ByteArray) (c : Ct) : ∀ L : List Kd, (insK k c L).length = L.length + 1
  | [] => rfl
  | y :: L => by
    unfold insK
    split
    · rfl
    · rw [List.length_cons, insK_len k c L]; rfl
theorem withK_len (L : List Kd) (k : ByteArray) (c : Ct) : (withK L k c).length ≤ L.length + 1 := by
  unfold withK
  split
  · rw [List.length_map]; omega
  · rw [insK_len]; omega
theorem insK_end {k : ByteArray} {c : Ct} : ∀ {L : List Kd}, (∀ x ∈ L, sLess x.1 k = true) → insK k c L = L ++ [(k, c)]
  | [], _ => rfl
  | y :: L, h => by
    unfold insK
    rw [if_neg (by rw [sLess_asymm (h y (by simp))]; decide), insK_end fun x hx => h x (by simp [hx])]
    rfl
theorem withK_end {L : List Kd} {k : ByteArray} {c : Ct} (h : ∀ x ∈ L, sLess x.1 k = true) : withK L k c = L ++ [(k, c)] := by
  unfold withK
  rw [if_neg, insK_end h]
  intro hc
  rw [List.any_eq_true] at hc
  obtain ⟨x, hx, e⟩ := hc
  exact sLess_ne (h x hx) (of_decide_eq_true e)
theorem withs_snoc (L A : List Kd) (x : Kd) : withs L (A ++ [x]) = withK (withs L A) x.1 x.2 := by simp [withs]
theorem withs_asc {L : List Kd} (h : AscK L) : ∀ R : List Kd, AscK (withs L R)
  | [] => h
  | x :: R => withs_asc (L := withK L x.1 x.2) (withK_asc h) R
theorem withs_p {P : Kd → Prop} : ∀ (R L : List Kd), (∀ x ∈ L, P x) → (∀ x ∈ R, P x) → ∀ x ∈ withs L R, P x
  | [], L, h, _ => h
  | y :: R, L, h, k => withs_p R (withK L y.1 y.2) (fun x hx => by
      rcases mem_withK hx with rfl | hx
      · exact k y (by simp)
      · exact h x hx) fun x hx => k x (by simp [hx])
theorem withs_len (L : List Kd) : ∀ R : List Kd, (withs L R).length ≤ L.length + R.length
  | [] => Nat.le_refl _
  | x :: R => by
    have h1 := withs_len (withK L x.1 x.2) R
    have h2 := withK_len L x.1 x.2
    show (withs (withK L x.1 x.2) R).length ≤ _
    rw [List.length_cons]; omega
theorem withs_id : ∀ (R L : List Kd), AscK (L ++ R) → withs L R = L ++ R
  | [], L, _ => by simp [withs]
  | x :: R, L, h => by
    have h1 : ∀ y ∈ L, sLess y.1 x.1 = true := fun y hy => (List.pairwise_append.1 h).2.2 y hy x (by simp)
    show withs (withK L x.1 x.2) R = _
    rw [withK_end h1, withs_id R (L ++ [(x.1, x.2)]) (by simpa using h)]
    simp
theorem withs_self {L : List Kd} (h : AscK L) : withs [] L = L := withs_id L [] h
theorem asc_nil : AscK [] := List.Pairwise.nil
theorem findK_mem {L : List Kd} {k : ByteArray} {c : Ct} (h : findK L k = some c) : (k, c) ∈ L := by
  unfold findK at h
  cases e : L.find? fun x => decide (x.1 = k) with
  | none => rw [e] at h; cases h
  | some x =>
    rw [e] at h
    injection h with h
    have h1 := List.find?_some e
    have h2 := List.mem_of_find?_eq_some e
    obtain ⟨x1, x2⟩ := x
    simp only [decide_eq_true_eq] at h1 h
    rw [← h1, ← h]; exact h2
theorem numB_lt {n : Int} {k : Nat} (h : n.toNat < 256 ^ k) (hk : k ≤ 8) : (numB n).length ≤ k + 1 := by
  have h1 : (beB n).length ≤ k := by
    rw [beB, List.length_map]
    have := (beF_pos 8 n.toNat k (Nat.lt_of_lt_of_le h (Nat.pow_le_pow_right (by decide) hk)))
    have h0 : n.toNat / 256 ^ k = 0 := Nat.div_eq_of_lt h
    rw [h0] at this
    have := this.symm
    omega
  rw [numB, List.length_cons]; omega
theorem entB_len {e : En} (h : GoodE e) : (entB e).length ≤ 16 := by
  have h1 := h.i1
  have h2 := h.i2
  have h3 := h.n1
  have h4 := h.n2
  have h5 := h.q1
  have h6 := h.q2
  have a1 : (numB e.1).length ≤ 2 := numB_lt (k := 1) (by omega) (by omega)
  have a2 : (numB e.2.1).length ≤ 2 := numB_lt (k := 1) (by omega) (by omega)
  have a3 := numB_len e.2.2.1
  have a4 : (numB (intU e.2.2.2)).length ≤ 3 := numB_lt (k := 2) (by unfold intU; split <;> omega) (by omega)
  simp only [entB, List.length_append]
  omega
theorem entsB_len : ∀ {E : List En}, (∀ e ∈ E, GoodE e) → (entsB E).length ≤ 16 * E.length
  | [], _ => by simp [entsB]
  | e :: E, h => by
    have h1 := entB_len (h e (by simp))
    have h2 := entsB_len (E := E) fun x hx => h x (by simp [hx])
    have e1 : entsB (e :: E) = entB e ++ entsB E := by simp [entsB]
    rw [e1, List.length_append, List.length_cons]; omega
structure GoodK (x : Kd) : Prop where
  k : keyOk (chs x.1) = true
  u : WV8 x.2.1
  r : rightC x.2.1 x.2.2 = true
theorem chI_len (s : ByteArray) : (chI s).length = s.size := by
  rw [List.length_map, chs, List.length_map]; rfl
theorem GoodK.key {x : Kd} (h : GoodK x) : 1 ≤ x.1.size ∧ x.1.size ≤ 20 := by
  have := h.k
  simp only [keyOk, Bool.and_eq_true, decide_eq_true_eq] at this
  have hl := chI_len x.1
  rw [List.length_map] at hl
  omega
theorem cartB_len {c : Ct} (hu : WV8 c.1) (h : rightC c.1 c.2 = true) : (cartB c).length ≤ 6500 := by
  have h1 := vecB_len c.1
  rw [hu.1] at h1
  have h2 := rightC_len h
  have h3 := entsB_len (rightC_good hu h)
  have h4 := numB_len (c.2.length : Int)
  simp only [cartB, List.length_append]
  omega
theorem GoodK.len {x : Kd} (h : GoodK x) : 1 ≤ (kdB x).length ∧ (kdB x).length ≤ 6600 := by
  have h1 := h.key
  have h2 := cartB_len h.u h.r
  have h3 := numB_len ((chI x.1).length : Int)
  have h4 := chI_len x.1
  simp only [kdB, putB, textB, List.length_append]
  rw [if_pos h.r, h4]
  have h5 : 1 ≤ (numB (x.1.size : Int)).length := by simp [numB]
  rw [h4] at h3
  omega
theorem numB_byt (n : Int) : Byt (numB n) := numB_byte n
theorem byt_flat {α : Type} {f : α → List Int} : ∀ {l : List α}, (∀ x ∈ l, Byt (f x)) → Byt (l.map f).flatten
  | [], _ => by simp [Byt.nil]
  | x :: l, h => by
    rw [List.map_cons, List.flatten_cons]
    exact Byt.append (h x (by simp)) (byt_flat fun y hy => h y (by simp [hy]))
theorem vecB_byt (v : List Int) : Byt (vecB v) := byt_flat fun x _ => numB_byt x
theorem entB_byt (e : En) : Byt (entB e) := Byt.append (Byt.append (Byt.append (numB_byt _) (numB_byt _)) (numB_byt _)) (numB_byt _)
theorem cartB_byt (c : Ct) : Byt (cartB c) := Byt.append (Byt.append (vecB_byt _) (numB_byt _)) (byt_flat fun x _ => entB_byt x)
theorem putB_byt (c : Ct) : Byt (putB c) := by
  unfold putB
  split
  · exact cartB_byt c
  · exact Byt.nil
theorem kdB_byt (x : Kd) : Byt (kdB x) := Byt.append (Byt.append (numB_byt _) (chI_byt _)) (putB_byt _)
end Go.E.YtcionccfgcnhoaaGreatDoor
namespace Go.E
theorem Split.weld {m m' : Mem} {a l : List Mem} (h : Split m' (a ++ [m])) (hs : Split m l) : Split m' (a ++ l) := by
  obtain ⟨h1, h2⟩ := h
  obtain ⟨h3, h4⟩ := hs
  obtain ⟨h5, _, h6⟩ := List.pairwise_append.1 h2
  have key : ∀ b ∈ l, ∀ x o, b x = some o → m x = some o := fun b hb x o hx => h3 _ _ (allM_of h4 hb hx)
  have hp : (a ++ l).Pairwise Dj := List.pairwise_append.2 ⟨h5, h4, fun x hx y hy z => by
    rcases h6 x hx m (by simp) z with h | h
    · exact .inl h
    · refine .inr ?_
      cases hyz : y z with
      | none => rfl
      | some o => rw [key y hy z o hyz] at h; cases h⟩
  refine ⟨fun x o hx => ?_, hp⟩
  obtain ⟨b, hb, hbx⟩ := allM_some hx
  rcases List.mem_append.1 hb with hb | hb
  · exact h1 _ _ (allM_of h2 (by simp [hb]) hbx)
  · exact h1 _ _ (allM_of h2 (by simp) (key b hb _ _ hbx))
theorem Split.all {m : Mem} {l : List Mem} (h : Split m l) : Split (allM l) l := ⟨Sub.refl _, h.2⟩
theorem Split.group {m : Mem} (a : List Mem) {l : List Mem} (h : Split m (a ++ l)) : Split m (allM a :: l) ∧ Split (allM a) a := by
  obtain ⟨h1, h2⟩ := h
  obtain ⟨h3, h4, h5⟩ := List.pairwise_append.1 h2
  refine ⟨⟨fun x o hx => ?_, List.pairwise_cons.2 ⟨fun b hb x => ?_, h4⟩⟩, Sub.refl _, h3⟩
  · obtain ⟨b, hb, hbx⟩ := allM_some hx
    rcases List.mem_cons.1 hb with rfl | hb
    · obtain ⟨d, hd, hdx⟩ := allM_some hbx
      exact h1 _ _ (allM_of h2 (by simp [hd]) hdx)
    · exact h1 _ _ (allM_of h2 (by simp [hb]) hbx)
  · cases hx : allM a x with
    | none => exact .inl rfl
    | some o =>
      obtain ⟨d, hd, hdx⟩ := allM_some hx
      rcases h5 d hd b hb x with h | h
      · rw [hdx] at h; cases h
      · exact .inr h
theorem Split.part {mm p : Mem} {l : List Mem} (h : Split mm (p :: l)) : ∃ q, (∀ x ∈ l, Sub x q) ∧ Split mm [p, q] ∧ ∀ m' p', Split m' [p', q] → Split m' (p' :: l) := by
  have h0 : Split mm (l ++ [p]) := h.perm (List.perm_append_comm (l₁ := [p]) (l₂ := l))
  obtain ⟨h2, h3⟩ := Split.group l h0
  exact ⟨allM l, fun x hx => h3.sub hx, h2.perm (List.Perm.swap _ _ _), fun m' p' h4 => Split.weld (a := [p']) h4 h3⟩
theorem Split.part2 {mm p p2 : Mem} {l : List Mem} (h : Split mm (p :: p2 :: l)) : ∃ q, (∀ x ∈ l, Sub x q) ∧ Split mm [p, p2, q] ∧ ∀ m' p' p2', Split m' [p', p2', q] → Split m' (p' :: p2' :: l) := by
  have h0 : Split mm (l ++ [p, p2]) := h.perm (List.perm_append_comm (l₁ := [p, p2]) (l₂ := l))
  obtain ⟨h2, h3⟩ := Split.group l h0
  refine ⟨allM l, fun x hx => h3.sub hx, h2.perm ?_, fun m' p' p2' h4 => Split.weld (a := [p', p2']) h4 h3⟩
  exact (List.Perm.swap _ _ _).trans (List.Perm.cons _ (List.Perm.swap _ _ _))
theorem Split.fewer {mm m q : Mem} {l : List Mem} (h : Split mm (q :: l)) (hs : Sub m q) : Split mm (m :: l) := by
  obtain ⟨h1, h2⟩ := h
  obtain ⟨h3, h4⟩ := List.pairwise_cons.1 h2
  refine ⟨fun x o hx => ?_, List.pairwise_cons.2 ⟨fun b hb x => ?_, h4⟩⟩
  · obtain ⟨b, hb, hbx⟩ := allM_some hx
    rcases List.mem_cons.1 hb with rfl | hb
    · exact h1 _ _ (allM_of h2 (by simp) (hs _ _ hbx))
    · exact h1 _ _ (allM_of h2 (by simp [hb]) hbx)
  · cases hm : m x with
    | none => exact .inl rfl
    | some o =>
      rcases h3 b hb x with h | h
      · rw [hs _ _ hm] at h; cases h
      · exact .inr h
end Go.E
namespace Go.E.YtcionccfgcnhoaaGreatDoor
open Go.Proofs
set_option maxRecDepth 100000
def Rd (m : Mem) (bp : Nat) (s : RS) : Prop := ∃ v, m bp = some (.cells #[.bool true, v, .int .i64 s.2] 172) ∧ Lb m v s.1 ∧ blkV v ≠ some bp ∧ Byt s.1 ∧ s.1.length ≤ 100000000
def Lx (m : Mem) (bp : Nat) (v : Value) (l : List Int) : Prop := Lb m v l ∧ blkV v ≠ some bp
theorem Lies.setOther {m : Mem} {size : Nat} {v : Value} {l : List Value} {b : Nat} {o : Obj} (h : Lies m size v l) (hn : blkV v ≠ some b) : Lies (m.set b o) size v l :=
  h.keep fun x hx => Mem.set_ne _ _ fun e => hn (by rw [hx, e])
theorem from_spec {m : Mem} {v : Value} {l : List Int} (hv : La m v l) (hb : Byt l) (hl : l.length ≤ 100000000) :
    Spec Tryz.prog 60 [.v v] m fun r m' => ∃ bp p, r = [ptrV bp] ∧ Split m' [p, m] ∧ Rd p bp (l, 0) := by
  refine en60 rfl (goY ?_)
  conv => whnf
  refine xcall (clone_spec hv hl) ?_
  rintro _ m1 ⟨v1, p1, rfl, hs1, hv1⟩
  conv => whnf
  intro b hb1
  conv => whnf
  have hp : p1 b = none := hs1.none hb1 p1 (by simp)
  have hs2 := (hs1.new hb1 (.cells (LB.cells [.one (.bool true), .one v1, .one (.int .i64 0)]).toArray 172)).pair
  refine ⟨b, _, rfl, hs2, v1, ?_, ?_, ?_, hb, hl⟩
  · rw [joinM_blk1, Mem.set_same]; rfl
  · rw [joinM_blk1]; exact hv1.lb.sub (Mem.sub_set _ hp)
  · intro e
    rcases hv1 with ⟨rfl, _⟩ | ⟨b', o, c, n, arr, rfl, h1, _⟩
    · simp [blkV] at e
    · simp [blkV] at e; subst e; rw [h1] at hp; cases hp
theorem err_spec {m : Mem} {bp : Nat} {s : RS} (h : Rd m bp s) : Ret Tryz.prog 109 [ptrV bp] m [i64 s.2] := by
  obtain ⟨v, hb, hv, hn, _⟩ := h
  refine en109 rfl (goY ?_)
  conv => whnf
  refine ⟨fun h => absurd h (by first | decide | simp), fun _ => ?_⟩
  conv => whnf
  refine ⟨_, mcell_of hb rfl, rfl, ?_⟩
  conv => whnf
  refine ⟨fun h => absurd h (by first | decide | simp), fun _ => ?_⟩
  conv => whnf
  refine ⟨_, mcell_of hb rfl, rfl, ?_⟩
  conv => whnf
  exact ⟨rfl, rfl⟩
def Only (m m' : Mem) (bp : Nat) : Prop := ∀ b, b ≠ bp → m' b = m b
theorem Only.refl (m : Mem) (bp : Nat) : Only m m bp := fun _ _ => rfl
theorem Only.trans {m m' m'' : Mem} {bp : Nat} (h : Only m m' bp) (k : Only m' m'' bp) : Only m m'' bp := fun b hb => (k b hb).trans (h b hb)
theorem Only.set (m : Mem) (bp : Nat) (o : Obj) : Only m (m.set bp o) bp := fun _ hb => Mem.set_ne _ _ hb
theorem Lx.only {m m' : Mem} {bp : Nat} {v : Value} {l : List Int} (h : Lx m bp v l) (k : Only m m' bp) : Lx m' bp v l := ⟨h.1.keep fun b hb => k b fun e => h.2 (by rw [hb, e]), h.2⟩
theorem must_spec {m : Mem} {bp : Nat} {s : RS} {is : Bool} (h : Rd m bp s) :
    Spec Tryz.prog 111 [ptrV bp, boolV is] m fun r m' => r = [] ∧ Rd m' bp (rMust is s) ∧ Only m m' bp := by
  have h0 := h
  obtain ⟨v, hb, hv, hn, hby, hl⟩ := h
  refine en111 rfl (goY ?_)
  conv => whnf
  first | refine xretk (err_spec h0) ?_ | refine xret (err_spec h0) ?_
  conv => whnf
  refine ⟨fun h1 => ?_, fun h1 => ?_⟩
  · have h1' : s.2 = 0 := by simpa using h1
    conv => whnf
    refine ⟨fun h2 => ?_, fun h2 => ?_⟩
    · have h2' : is = false := by simpa using h2
      conv => whnf
      refine ⟨_, _, _, hb, ⟨by simp, by omega⟩, ?_⟩
      conv => whnf
      refine ⟨rfl, ?_, Only.set _ _ _⟩
      rw [rMust, if_pos ⟨h1', h2'⟩]
      exact ⟨v, Mem.set_same .., Lies.setOther hv hn, hn, hby, hl⟩
    · have h2' : is = true := by simpa using h2
      conv => whnf
      refine ⟨rfl, ?_, Only.refl _ _⟩
      rw [rMust, if_neg (by simp [h2'])]
      exact h0
  · have h1' : s.2 ≠ 0 := by simpa using h1
    conv => whnf
    refine ⟨rfl, ?_, Only.refl _ _⟩
    rw [rMust, if_neg (by simp [h1'])]
    exact h0
set_option maxHeartbeats 1000000 in
theorem take_spec {m : Mem} {bp : Nat} {s : RS} {n : Nat} (h : Rd m bp s) (hn1 : n < 9223372036854775808) :
    Spec Tryz.prog 106 [ptrV bp, i64 n] m fun r m' => ∃ v', r = [.v v'] ∧ Lx m' bp v' (rTake n s).1 ∧ Rd m' bp (rTake n s).2 ∧ Only m m' bp := by
  have h0 := h
  obtain ⟨l, e⟩ := s
  obtain ⟨v, hb, hv, hn, hby, hl⟩ := h
  simp only at hb hv hby hl
  refine en106 rfl (goY ?_)
  conv => whnf
  first | refine xretk (err_spec h0) ?_ | refine xret (err_spec h0) ?_
  conv => whnf
  refine ⟨fun h1 => ?_, fun h1 => ?_⟩
  · have h1' : e ≠ 0 := by simpa using h1
    conv => whnf
    rw [rTake, if_pos h1']
    exact ⟨_, rfl, ⟨Lb.nil .., by simp [blkV]⟩, h0, Only.refl _ _⟩
  · have h1' : e = 0 := by simpa using h1
    subst h1'
    conv => whnf
    refine ⟨v, mcell_of hb rfl, hv.one, ?_⟩
    obtain ⟨a, c, rfl⟩ := hv.shape
    conv => whnf
    refine ⟨fun h2 => ?_, fun h2 => ?_⟩
    · have h2' := of_decide_eq_true h2
      conv => whnf
      refine ⟨_, _, _, hb, ⟨by simp, by omega⟩, ?_⟩
      conv => whnf
      rw [rTake, if_neg (by simp), if_pos (by show l.length < n; omega)]
      exact ⟨_, rfl, ⟨Lb.nil .., by simp [blkV]⟩, ⟨_, Mem.set_same .., Lies.setOther hv hn, hn, hby, hl⟩, Only.set _ _ _⟩
    · have h2' := of_decide_eq_false h2
      have hln : n ≤ l.length := by omega
      conv => whnf
      refine ⟨.slice a l.length c, mcell_of hb rfl, hv.one, ?_⟩
      rw [rTake, if_neg (by simp), if_neg (by show ¬ (l.length < n); omega)]
      rcases hv.cases with ⟨c', e1, e2⟩ | ⟨b, o, c', arr, t, fr, e1, g1, g2, g3⟩
      · subst e2
        cases e1
        obtain rfl : n = 0 := by simpa using hln
        conv => whnf
        repeat (refine And.intro (by first | omega | (simp only [times]; omega)) ?_; conv => whnf)
        refine ⟨.slice none 0 c, mcell_of hb rfl, hv.one, ?_⟩
        conv => whnf
        repeat (refine And.intro (by first | omega | (simp only [times]; omega)) ?_; conv => whnf)
        refine ⟨_, _, _, hb, ⟨by simp, by omega⟩, ?_⟩
        conv => whnf
        exact ⟨_, rfl, ⟨Lb.nil .., by simp [blkV]⟩, ⟨_, Mem.set_same .., Lb.nil .., by simp [blkV], Byt.nil, by simp⟩, Only.set _ _ _⟩
      · cases e1
        have hbn : b ≠ bp := fun e => hn (by rw [e]; rfl)
        conv => whnf
        repeat (refine And.intro (by first | omega | (simp only [times]; omega)) ?_; conv => whnf)
        intro o1 ho1 ho1'
        obtain rfl : o1 = o := by
          rcases Nat.eq_zero_or_pos n with h | h
          · exact ho1' (by omega)
          · have := ho1 (by omega); simpa using this
        conv => whnf
        refine ⟨.slice (some ⟨b, o1, none⟩) l.length c, mcell_of hb rfl, hv.one, ?_⟩
        conv => whnf
        repeat (refine And.intro (by first | omega | (simp only [times]; omega)) ?_; conv => whnf)
        intro o2 ho2 ho2'
        conv => whnf
        refine ⟨_, _, _, hb, ⟨by simp, by omega⟩, ?_⟩
        conv => whnf
        refine ⟨_, rfl, ⟨Lb.mk (arr := arr) (t := t) (fr := fr) ?_ (by simp; omega) (by simp) ?_, ?_⟩, ⟨_, Mem.set_same .., Lb.mk (arr := arr) (t := t) (fr := fr) ?_ (by simp) (by omega) ?_, ?_, hby.drop n, by simp; omega⟩, Only.set _ _ _⟩
        · rw [Mem.set_ne _ _ hbn]; exact g1
        · intro j u hu
          have := (List.getElem?_eq_some_iff.1 hu).1
          simp only [List.length_take] at this
          rw [List.getElem?_take, if_pos (by omega)] at hu
          exact g3 j u hu
        · intro e; simp [blkV] at e; exact hbn e
        · rw [Mem.set_ne _ _ hbn]; exact g1
        · intro j u hu
          rw [List.getElem?_drop] at hu
          have : n + j < l.length := (List.getElem?_eq_some_iff.1 hu).1
          have e2 := ho2 (by omega)
          simp only [Nat.mul_one] at e2
          have := g3 _ u hu
          rw [show o2 + j = o1 + (n + j) by simp at e2; omega]
          exact this
        · intro e; simp [blkV] at e; exact hbn e
theorem Lx.head {m : Mem} {bp : Nat} {v : Value} {l : List Int} (h : Lx m bp v l) (hl : l ≠ []) : ∃ b o c arr t fr, v = .slice (some ⟨b, o, none⟩) l.length c ∧ b ≠ bp ∧ m b = some (.cells arr t fr) ∧ (∀ j n, l[j]? = some n → arr[o + j]? = some (.int .u8 n)) := by
  rcases h.1.cases with ⟨c, rfl, h'⟩ | ⟨b, o, c, arr, t, fr, rfl, g1, g2, g3⟩
  · exact absurd h' hl
  · exact ⟨b, o, c, arr, t, fr, rfl, fun e => h.2 (by rw [e]; rfl), g1, g3⟩
theorem shl8or {a c : Int} (ha : 0 ≤ a) (ha' : a < 72057594037927936) (hc : 0 ≤ c ∧ c < 256) : bitsOf .or .u64 (shlOf .u64 a 8) (IntKind.u64.wrap c) = 256 * a + c := by
  obtain ⟨a, rfl⟩ := Int.eq_ofNat_of_zero_le ha
  obtain ⟨c, rfl⟩ := Int.eq_ofNat_of_zero_le hc.1
  rw [wu (by omega) (by omega)]
  have e1 : shlOf .u64 (a : Int) 8 = ((a * 2 ^ 8 : Nat) : Int) := by
    show IntKind.u64.wrap ((a : Int) * 256) = _
    rw [wu (by omega) (by omega)]; omega
  rw [e1, or_u64 (by omega) (by omega), or_low 8 (by omega)]
  omega
set_option maxHeartbeats 2000000 in
theorem num_spec {m : Mem} {bp : Nat} {s : RS} (h : Rd m bp s) :
    Spec Tryz.prog 149 [ptrV bp] m fun r m' => r = [u64 (rNum s).1] ∧ Rd m' bp (rNum s).2 ∧ Only m m' bp := by
  have hbs : Byt s.1 := by obtain ⟨v, _, _, _, h, _⟩ := h; exact h
  have ht1 := rTake_byt (n := 1) hbs
  have hl1 := rTake_len (n := 1) (s := s)
  rcases hr1 : rTake 1 s with ⟨hd, s1⟩
  rw [hr1] at ht1 hl1
  simp only at ht1 hl1
  rcases hd with _ | ⟨c, _ | ⟨c', hd'⟩⟩
  · have e : rNum s = (0, s1) := by simp [rNum, hr1]
    refine en149 rfl (goY ?_)
    conv => whnf
    refine xcall (take_spec (n := 1) h (by omega)) ?_
    rintro _ m1 ⟨v1, rfl, hv1, h1, o1⟩
    conv => whnf
    rw [hr1] at hv1 h1
    simp only at hv1 h1
    obtain ⟨a1, c1, rfl⟩ := hv1.1.shape
    conv => whnf
    refine ⟨fun _ => ?_, fun h => absurd h (by first | decide | simp)⟩
    conv => whnf
    rw [e]
    exact ⟨rfl, h1, o1⟩
  · have hc := ht1.1 c (by simp)
    have hcw : IntKind.i64.wrap c = (c.toNat : Int) := by rw [wi (by omega) (by omega)]; omega
    have ht2 := rTake_byt (n := c.toNat) (rMust_byt (b := decide (c ≤ 8)) ht1.2)
    have hl2 := rTake_len (n := c.toNat) (s := rMust (decide (c ≤ 8)) s1)
    have hc8 : c.toNat ≤ 8 ∨ (rTake c.toNat (rMust (decide (c ≤ 8)) s1)).1 = [] := by
      by_cases h8 : c ≤ 8
      · exact .inl (by omega)
      · refine .inr ?_
        have : (rMust (decide (c ≤ 8)) s1).2 ≠ 0 := by
          unfold rMust; split
          · simp
          · rename_i h; simp [h8] at h; exact h
        rw [rTake, if_pos this]
    rcases hr2 : rTake c.toNat (rMust (decide (c ≤ 8)) s1) with ⟨l, s3⟩
    rw [hr2] at ht2 hl2 hc8
    simp only at ht2 hl2 hc8
    have hl8 : l.length ≤ 8 := by
      rcases hc8 with h | h
      · omega
      · rw [h]; simp
    have e : rNum s = (if (rMust (l.isEmpty || decide (0 < hd0 l)) s3).2 ≠ 0 then 0 else beN l, rMust (l.isEmpty || decide (0 < hd0 l)) s3) := by
      unfold rNum; rw [hr1]; dsimp only; rw [if_neg (by simp), show hd0 [c] = c from rfl, hr2]
    rcases l with _ | ⟨x, l'⟩
    · refine en149 rfl (goY ?_)
      conv => whnf
      refine xcall (take_spec (n := 1) h (by omega)) ?_
      rintro _ m1 ⟨v1, rfl, hv1, h1, o1⟩
      conv => whnf
      rw [hr1] at hv1 h1
      simp only at hv1 h1
      obtain ⟨b, o, cc, arr, t, fr, rfl, hbn, hb1, hat⟩ := hv1.head (by simp)
      conv => whnf
      refine ⟨fun h => absurd h (by simp), fun _ => ?_⟩
      conv => whnf
      refine ⟨⟨by simp, by simp⟩, ?_⟩
      conv => whnf
      refine ⟨.int .u8 c, mcell_of hb1 (hat 0 c rfl), rfl, ?_⟩
      conv => whnf
      refine xcall (must_spec (is := decide (c ≤ 8)) h1) ?_
      rintro _ m2 ⟨rfl, h2, o2⟩
      conv => whnf
      have hb2 : m2 b = some (.cells arr t fr) := by rw [o2 b hbn]; exact hb1
      refine ⟨⟨by simp, by simp⟩, ?_⟩
      conv => whnf
      refine ⟨.int .u8 c, mcell_of hb2 (hat 0 c rfl), rfl, ?_⟩
      conv => whnf
      rw [hcw]
      refine xcall (take_spec (n := c.toNat) h2 (by omega)) ?_
      rintro _ m3 ⟨v3, rfl, hv3, h3, o3⟩
      conv => whnf
      rw [hr2] at hv3 h3
      simp only at hv3 h3
      obtain ⟨a3, c3, rfl⟩ := hv3.1.shape
      conv => whnf
      refine ⟨fun _ => ?_, fun h => absurd h (by first | decide | simp)⟩
      conv => whnf
      refine xcall (must_spec (is := true) h3) ?_
      rintro _ m4 ⟨rfl, h4, o4⟩
      conv => whnf
      refine .mk (ι := Unit) (fun _ => 0) (fun _ mm => mm = m4) (fun _ => [(0, .c (ptrV bp)), (5, .c (u64 0)), (36, .c (.v (.slice a3 0 c3))), (37, .c (i64 0)), (38, .c (i64 0))]) (fun _ => []) () rfl ?_ ?_
      · conv => whnf
        repeat (refine And.intro (by first | with_reducible rfl | exact congrArg (Value.int _) (wi (by omega) (by omega)) | exact wi (by omega) (by omega) | rfl) ?_; conv => whnf)
        first | exact trivial | exact fun _ _ h => h
      rintro _ _ rfl
      conv => whnf
      refine ⟨fun h => absurd h (by first | decide | simp), fun _ => ?_⟩
      conv => whnf
      have h4' := h4
      obtain ⟨v4, hb4, _⟩ := h4'
      refine ⟨_, mcell_of hb4 rfl, rfl, ?_⟩
      conv => whnf
      have fin : rNum s = (0, rMust true s3) := by rw [e]; simp [beN]
      rw [fin]
      refine ⟨fun h5 => ?_, fun h5 => ?_⟩
      · conv => whnf
        exact ⟨rfl, h4, ((o1.trans o2).trans o3).trans o4⟩
      · conv => whnf
        exact ⟨rfl, h4, ((o1.trans o2).trans o3).trans o4⟩
    · refine en149 rfl (goY ?_)
      conv => whnf
      refine xcall (take_spec (n := 1) h (by omega)) ?_
      rintro _ m1 ⟨v1, rfl, hv1, h1, o1⟩
      conv => whnf
      rw [hr1] at hv1 h1
      simp only at hv1 h1
      obtain ⟨b, o, cc, arr, t, fr, rfl, hbn, hb1, hat⟩ := hv1.head (by simp)
      conv => whnf
      refine ⟨fun h => absurd h (by simp), fun _ => ?_⟩
      conv => whnf
      refine ⟨⟨by simp, by simp⟩, ?_⟩
      conv => whnf
      refine ⟨.int .u8 c, mcell_of hb1 (hat 0 c rfl), rfl, ?_⟩
      conv => whnf
      refine xcall (must_spec (is := decide (c ≤ 8)) h1) ?_
      rintro _ m2 ⟨rfl, h2, o2⟩
      conv => whnf
      have hb2 : m2 b = some (.cells arr t fr) := by rw [o2 b hbn]; exact hb1
      refine ⟨⟨by simp, by simp⟩, ?_⟩
      conv => whnf
      refine ⟨.int .u8 c, mcell_of hb2 (hat 0 c rfl), rfl, ?_⟩
      conv => whnf
      rw [hcw]
      refine xcall (take_spec (n := c.toNat) h2 (by omega)) ?_
      rintro _ m3 ⟨v3, rfl, hv3, h3, o3⟩
      conv => whnf
      rw [hr2] at hv3 h3
      simp only at hv3 h3
      obtain ⟨b3, o3', cc3, arr3, t3, fr3, rfl, hbn3, hb3, hat3⟩ := hv3.head (by simp)
      conv => whnf
      refine ⟨fun h => absurd h (by simp; omega), fun _ => ?_⟩
      conv => whnf
      refine ⟨⟨by simp, by simp⟩, ?_⟩
      conv => whnf
      refine ⟨.int .u8 x, mcell_of hb3 (hat3 0 x rfl), rfl, ?_⟩
      conv => whnf
      refine xcall (must_spec (is := decide (0 < x)) h3) ?_
      rintro _ m4 ⟨rfl, h4, o4⟩
      conv => whnf
      have e4 : rMust ((x :: l').isEmpty || decide (0 < hd0 (x :: l'))) s3 = rMust (decide (0 < x)) s3 := rfl
      rw [e4] at e
      have hv4 := hv3.only o4
      refine .mk (ι := Nat) (fun i => (x :: l').length - i) (fun i mm => m4 = mm ∧ i ≤ (x :: l').length) (fun i => [(0, .c (ptrV bp)), (5, .c (u64 (beN ((x :: l').take i)))), (36, .c (.v (.slice (some ⟨b3, o3', none⟩) (x :: l').length cc3))), (37, .c (i64 (x :: l').length)), (38, .c (i64 i))]) (fun _ => []) 0 ⟨rfl, by simp⟩ ?_ ?_
      · conv => whnf
        repeat (refine And.intro (by first | with_reducible rfl | exact congrArg (Value.int _) (wi (by omega) (by omega)) | exact wi (by omega) (by omega) | rfl) ?_; conv => whnf)
        first | exact trivial | exact fun _ _ h => h
      rintro i _ ⟨rfl, hi⟩
      conv => whnf
      refine ⟨fun h5 => ?_, fun h5 => ?_⟩
      · have h5' := of_decide_eq_true h5
        have hlt : i < (x :: l').length := by omega
        conv => whnf
        repeat (refine And.intro (by first | omega | (simp only [times]; omega)) ?_; conv => whnf)
        have hb4' : m4 b3 = some (.cells arr3 t3 fr3) := by rw [o4 b3 hbn3]; exact hb3
        refine ⟨.int .u8 (x :: l')[i], mcell_of hb4' (hat3 i _ (by simp)), rfl, ?_⟩
        conv => whnf
        refine ⟨i + 1, ⟨rfl, by omega⟩, by omega, ?_⟩
        have hbt := beN_bound (ht2.1.take i)
        have hpw : (256 : Nat) ^ ((x :: l').take i).length ≤ 256 ^ 7 := Nat.pow_le_pow_right (by decide) (by rw [List.length_take]; omega)
        have hpe : ((256 ^ ((x :: l').take i).length : Nat) : Int) = (256 : Int) ^ ((x :: l').take i).length := by simp
        have hx := ht2.1 (x :: l')[i] (by simp)
        have hst : bitsOf .or .u64 (shlOf .u64 (beN ((x :: l').take i)) 8) (IntKind.u64.wrap (x :: l')[i]) = beN ((x :: l').take (i + 1)) := by
          rw [shl8or hbt.1 (by omega) hx, List.take_succ_eq_append_getElem hlt, beN_snoc]
        conv => whnf
        repeat (refine And.intro (by first | with_reducible rfl | (first | exact congrArg (Value.int _) (iadd (by omega)) | exact congrArg (Value.int _) hst) | exact congrArg (Value.int _) (wi (by omega) (by omega)) | exact wi (by omega) (by omega) | rfl) ?_; conv => whnf)
        first | exact trivial | exact fun _ _ h => h
      · have h5' := of_decide_eq_false h5
        obtain rfl : i = (x :: l').length := by omega
        conv => whnf
        have h4' := h4
        obtain ⟨v4, hb4, _⟩ := h4'
        refine ⟨_, mcell_of hb4 rfl, rfl, ?_⟩
        conv => whnf
        rw [e]
        refine ⟨fun h6 => ?_, fun h6 => ?_⟩
        · have h6' : (rMust (decide (0 < x)) s3).2 ≠ 0 := by simpa using h6
          conv => whnf
          rw [if_pos h6']
          exact ⟨rfl, h4, ((o1.trans o2).trans o3).trans o4⟩
        · have h6' : (rMust (decide (0 < x)) s3).2 = 0 := by simpa using h6
          conv => whnf
          rw [if_neg (by simp [h6']), List.take_length]
          exact ⟨rfl, h4, ((o1.trans o2).trans o3).trans o4⟩
  · simp at hl1
theorem rNum_U {s : RS} (h : Byt s.1) : U64 (rNum s).1 := by
  have z : U64 0 := ⟨by decide, by decide⟩
  unfold rNum
  rcases hr : rTake 1 s with ⟨hd, s1⟩
  have b1 := rTake_byt (n := 1) h
  rw [hr] at b1
  dsimp only
  split
  · exact z
  · rcases hr2 : rTake (hd0 hd).toNat (rMust (decide (hd0 hd ≤ 8)) s1) with ⟨l, s3⟩
    have b2 := rTake_byt (n := (hd0 hd).toNat) (rMust_byt (b := decide (hd0 hd ≤ 8)) b1.2)
    have l2 := rTake_len (n := (hd0 hd).toNat) (s := rMust (decide (hd0 hd ≤ 8)) s1)
    rw [hr2] at b2 l2
    dsimp only
    split
    · exact z
    · refine beN_U b2.1 ?_
      by_cases h8 : hd0 hd ≤ 8
      · exact Nat.le_trans l2 (by omega)
      · have : (rMust (decide (hd0 hd ≤ 8)) s1).2 ≠ 0 := by
          unfold rMust; split
          · simp
          · rename_i h; simp [h8] at h; exact h
        rw [rTake, if_pos this] at hr2
        cases hr2
        simp
theorem Rd.byt {m : Mem} {bp : Nat} {s : RS} (h : Rd m bp s) : Byt s.1 := by obtain ⟨v, _, _, _, h, _⟩ := h; exact h
theorem small_spec {m : Mem} {bp : Nat} {s : RS} {most : Int} (h : Rd m bp s) (hm : I64 most) :
    Spec Tryz.prog 107 [ptrV bp, i64 most] m fun r m' => r = [i64 (rSmall most s).1] ∧ Rd m' bp (rSmall most s).2 ∧ Only m m' bp := by
  have hU := rNum_U h.byt
  have hU0 := hU.1
  have hU1 := hU.2
  have hm0 := hm.1
  have hm1 := hm.2
  rcases hr : rNum s with ⟨n, s1⟩
  rw [hr] at hU0 hU1
  simp only at hU0 hU1
  have key : ∀ is : Bool, is = (decide (0 ≤ most) && decide (n ≤ max most 0)) → rSmall most s = (if (rMust is s1).2 ≠ 0 then 0 else n, rMust is s1) := by
    rintro is rfl; simp only [rSmall, hr]
  refine en107 rfl (goY ?_)
  conv => whnf
  refine xcall (num_spec h) ?_
  rintro _ m1 ⟨rfl, h1, o1⟩
  conv => whnf
  rw [hr] at h1
  simp only [hr] at h1
  refine ⟨fun h2 => ?_, fun h2 => ?_⟩
  · have h2' := of_decide_eq_true h2
    conv => whnf
    have k := key (decide (n ≤ max most 0)) (by simp [h2'])
    rw [hr]
    have ew : IntKind.u64.wrap (max most 0) = max most 0 := wu (by omega) (by omega)
    rw [ew]
    refine xcall (must_spec (is := decide (n ≤ max most 0)) h1) ?_
    rintro _ m3 ⟨rfl, h3, o3⟩
    conv => whnf
    first | refine xretk (err_spec h3) ?_ | refine xret (err_spec h3) ?_
    conv => whnf
    rw [k]
    refine ⟨fun h4 => ?_, fun h4 => ?_⟩
    · have h4' : (rMust (decide (n ≤ max most 0)) s1).2 ≠ 0 := by simpa using h4
      conv => whnf
      rw [if_pos h4']
      exact ⟨rfl, h3, o1.trans o3⟩
    · have h4' : (rMust (decide (n ≤ max most 0)) s1).2 = 0 := by simpa using h4
      conv => whnf
      have hle : n ≤ max most 0 := by
        unfold rMust at h4'
        split at h4'
        · simp at h4'
        · rename_i hh; simp [h4'] at hh; omega
      rw [if_neg (by simp [h4']), wi (by omega) (by omega)]
      exact ⟨rfl, h3, o1.trans o3⟩
  · have h2' := of_decide_eq_false h2
    conv => whnf
    have k := key false (by simp [h2'])
    refine xcall (must_spec (is := false) h1) ?_
    rintro _ m3 ⟨rfl, h3, o3⟩
    conv => whnf
    first | refine xretk (err_spec h3) ?_ | refine xret (err_spec h3) ?_
    conv => whnf
    rw [k]
    have hne : (rMust false s1).2 ≠ 0 := by
      unfold rMust; split
      · simp
      · rename_i hh; simpa using hh
    refine ⟨fun h4 => ?_, fun h4 => ?_⟩
    · conv => whnf
      rw [if_pos hne]
      exact ⟨rfl, h3, o1.trans o3⟩
    · exact absurd h4 (by simpa using hne)
theorem end_spec {m : Mem} {bp : Nat} {s : RS} (h : Rd m bp s) : Ret Tryz.prog 63 [ptrV bp] m [i64 (if s.2 ≠ 0 then s.2 else if s.1 = [] then 0 else 2)] := by
  have h0 := h
  obtain ⟨v, hb, hv, hn, hby, hl⟩ := h
  refine en63 rfl (goY ?_)
  conv => whnf
  first | refine xretk (err_spec h0) ?_ | refine xret (err_spec h0) ?_
  conv => whnf
  refine ⟨fun h1 => ?_, fun h1 => ?_⟩
  · have h1' : s.2 ≠ 0 := by simpa using h1
    conv => whnf
    rw [if_pos h1']
    exact ⟨rfl, rfl⟩
  · have h1' : s.2 = 0 := by simpa using h1
    conv => whnf
    obtain ⟨a, c, rfl⟩ := hv.shape
    refine ⟨.slice a s.1.length c, mcell_of hb rfl, rfl, ?_⟩
    conv => whnf
    rw [if_neg (by simp [h1'])]
    refine ⟨fun h2 => ?_, fun h2 => ?_⟩
    · have h2' := of_decide_eq_true h2
      conv => whnf
      rw [if_neg (by intro e; simp [e] at h2')]
      exact ⟨rfl, rfl⟩
    · have h2' := of_decide_eq_false h2
      conv => whnf
      rw [if_pos (by apply List.eq_nil_of_length_eq_zero; omega)]
      exact ⟨rfl, rfl⟩
theorem shr1 {n : Int} (h : U64 n) : shrOf .u64 n 1 = n / 2 := by
  show n.fdiv 2 = _
  rw [Int.fdiv_eq_ediv_of_nonneg _ (by decide)]
theorem and1 {n : Int} (h : U64 n) : bitsOf .and .u64 n 1 = n % 2 := by
  obtain ⟨k, rfl⟩ := Int.eq_ofNat_of_zero_le h.1
  have := h.2
  have e := and_u64 (a := k) (b := 1) (by omega) (by omega)
  refine e.trans ?_
  rw [Nat.and_one_is_mod]; rfl
theorem rMust_zero {b : Bool} {s : RS} (h : (rMust b s).2 = 0) : s.2 = 0 ∧ b = true := by
  unfold rMust at h
  split at h
  · simp at h
  · rename_i hh
    refine ⟨h, ?_⟩
    cases b with
    | true => rfl
    | false => exact absurd ⟨h, rfl⟩ hh
set_option maxHeartbeats 1000000 in
theorem int_spec {m : Mem} {bp : Nat} {s : RS} (h : Rd m bp s) :
    Spec Tryz.prog 150 [ptrV bp] m fun r m' => r = [i64 (rInt s).1] ∧ Rd m' bp (rInt s).2 ∧ Only m m' bp := by
  have hU := rNum_U h.byt
  rcases hr : rNum s with ⟨n, s1⟩
  rw [hr] at hU
  simp only at hU
  have hU0 := hU.1
  have hU1 := hU.2
  have hI : rInt s = (let s2 := if n % 2 = 0 then rMust (decide (n / 2 ≤ 4611686018427387904)) s1 else rMust (decide (n / 2 < 4611686018427387904)) s1; (if s2.2 ≠ 0 then 0 else if n % 2 = 1 then - (n / 2) - 1 else n / 2, s2)) := by
    simp only [rInt, hr]
  refine en150 rfl (goY ?_)
  conv => whnf
  refine xcall (num_spec h) ?_
  rintro _ m1 ⟨rfl, h1, o1⟩
  conv => whnf
  simp only [hr] at h1
  rw [hr]
  simp only [shr1 hU, and1 hU]
  refine ⟨fun h2 => ?_, fun h2 => ?_⟩
  · have h2' : n % 2 = 0 := by simpa using h2
    conv => whnf
    refine xcall (must_spec (is := decide (n / 2 ≤ 4611686018427387904)) h1) ?_
    rintro _ m3 ⟨rfl, h3, o3⟩
    conv => whnf
    first | refine xretk (err_spec h3) ?_ | refine xret (err_spec h3) ?_
    conv => whnf
    rw [hI]
    simp only [h2', if_true]
    refine ⟨fun h4 => ?_, fun h4 => ?_⟩
    · have h4' : (rMust (decide (n / 2 ≤ 4611686018427387904)) s1).2 ≠ 0 := by simpa using h4
      conv => whnf
      rw [if_pos h4']
      exact ⟨rfl, h3, o1.trans o3⟩
    · have h4' : (rMust (decide (n / 2 ≤ 4611686018427387904)) s1).2 = 0 := by simpa using h4
      conv => whnf
      refine ⟨fun h => absurd h (by rw [and1 hU, h2']; decide), fun _ => ?_⟩
      conv => whnf
      have := of_decide_eq_true (rMust_zero h4').2
      rw [if_neg (by simp [h4']), if_neg (by decide), wi (by omega) (by omega)]
      exact ⟨rfl, h3, o1.trans o3⟩
  · have h2' : n % 2 = 1 := by have : n % 2 ≠ 0 := by simpa using h2
                               omega
    conv => whnf
    refine xcall (must_spec (is := decide (n / 2 < 4611686018427387904)) h1) ?_
    rintro _ m3 ⟨rfl, h3, o3⟩
    conv => whnf
    first | refine xretk (err_spec h3) ?_ | refine xret (err_spec h3) ?_
    conv => whnf
    rw [hI]
    simp only [h2', if_neg (show ¬ (1 : Int) = 0 by decide), if_true]
    refine ⟨fun h4 => ?_, fun h4 => ?_⟩
    · have h4' : (rMust (decide (n / 2 < 4611686018427387904)) s1).2 ≠ 0 := by simpa using h4
      conv => whnf
      rw [if_pos h4']
      exact ⟨rfl, h3, o1.trans o3⟩
    · have h4' : (rMust (decide (n / 2 < 4611686018427387904)) s1).2 = 0 := by simpa using h4
      conv => whnf
      refine ⟨fun _ => ?_, fun h => absurd h (by rw [and1 hU, h2']; decide)⟩
      conv => whnf
      have := of_decide_eq_true (rMust_zero h4').2
      rw [wi (by omega) (by omega), not_i64 (by omega) (by omega), if_neg (by simp [h4'])]
      exact ⟨rfl, h3, o1.trans o3⟩
theorem rSmall_nat {most : Int} {s : RS} (h : Byt s.1) (hm : I64 most) : 0 ≤ (rSmall most s).1 ∧ (rSmall most s).1 ≤ max most 0 := by
  have hU := rNum_U h
  rcases hr : rNum s with ⟨n, s1⟩
  rw [hr] at hU
  have hU0 : 0 ≤ n := hU.1
  simp only [rSmall, hr]
  split
  · omega
  · rename_i hh
    have := (rMust_zero (by simpa using hh)).2
    simp at this
    omega
theorem text_spec {m : Mem} {bp : Nat} {s : RS} {most : Int} (h : Rd m bp s) (hm : I64 most) :
    Spec Tryz.prog 61 [ptrV bp, i64 most] m fun r m' => ∃ v p q, r = [.v v] ∧ Split m' [p, q] ∧ Bs p v (rText most s).1 ∧ Rd q bp (rText most s).2 := by
  have hn := rSmall_nat (most := most) h.byt hm
  have hm1 := hm.2
  rcases hr : rSmall most s with ⟨k, s1⟩
  rw [hr] at hn
  simp only at hn
  have ht : rText most s = rTake k.toNat s1 := by simp only [rText, hr]
  refine en61 rfl (goY ?_)
  conv => whnf
  refine xcall (small_spec h hm) ?_
  rintro _ m1 ⟨rfl, h1, o1⟩
  conv => whnf
  simp only [hr] at h1
  rw [hr]
  have hk : (i64 k) = i64 (k.toNat : Int) := by rw [Int.toNat_of_nonneg hn.1]
  simp only [hk]
  refine xcall (take_spec h1 (by omega)) ?_
  rintro _ m2 ⟨v2, rfl, hv2, h2, o2⟩
  conv => whnf
  have hby := rTake_byt (n := k.toNat) h1.byt
  have hlen : (rTake k.toNat s1).1.length ≤ 100000000 := by
    obtain ⟨v, _, _, _, _, hl⟩ := h1
    unfold rTake; split
    · simp
    · split
      · simp
      · simp; omega
  refine xcall (clone_spec hv2.1.la hlen) ?_
  rintro _ m3 ⟨v3, p3, rfl, hs3, hv3⟩
  conv => whnf
  rw [ht]
  exact ⟨v3, p3, m2, rfl, hs3, hv3, h2⟩
theorem Rd.mono {m m' : Mem} {bp : Nat} {s : RS} (h : Rd m bp s) (hs : Sub m m') : Rd m' bp s := by
  obtain ⟨v, h1, h2, h3⟩ := h
  exact ⟨v, hs _ _ h1, h2.sub hs, h3⟩
theorem rNums_len : ∀ (k : Nat) (s : RS), (rNums k s).1.length = k
  | 0, _ => rfl
  | k + 1, s => by simp [rNums, rNums_len k s]
theorem rNums_set {k : Nat} {s : RS} (h : k < 8) : ((rNums k s).1 ++ List.replicate (8 - k) 0).set k (rNum (rNums k s).2).1 = (rNums (k + 1) s).1 ++ List.replicate (8 - (k + 1)) 0 := by
  have hl := rNums_len k s
  rw [List.set_append_right _ _ (by omega), hl, Nat.sub_self]
  obtain ⟨j, hj⟩ : ∃ j, 8 - k = j + 1 := ⟨8 - k - 1, by omega⟩
  rw [hj, List.replicate_succ, List.set_cons_zero, show 8 - (k + 1) = j by omega]
  simp [rNums]
set_option maxHeartbeats 1000000 in
theorem vec_spec {m : Mem} {bp : Nat} {s : RS} (h : Rd m bp s) :
    Spec Tryz.prog 108 [ptrV bp] m fun r m' => r = [wvecV (rVec s).1] ∧ Rd m' bp (rVec s).2 ∧ Only m m' bp := by
  refine en108 rfl (goY ?_)
  conv => whnf
  refine .mk (ι := Nat) (fun i => 8 - i) (fun i mm => i ≤ 8 ∧ Rd mm bp (rNums i s).2 ∧ Only m mm bp)
    (fun i => [(0, .c (ptrV bp)), (2, .p 0 0), (3, .p 1 0), (5, .c (i64 i))]) (fun i => [(37, [.ints .u64 8 (List.replicate 8 0)]), (37, [.ints .u64 8 ((rNums i s).1 ++ List.replicate (8 - i) 0)])]) 0 ⟨by omega, h, Only.refl _ _⟩ ?_ ?_
  · conv => whnf
    repeat (refine And.intro (by first | with_reducible rfl | exact congrArg (Value.int _) (wi (by omega) (by omega)) | exact wi (by omega) (by omega) | rfl) ?_; conv => whnf)
    first | exact trivial | exact fun _ _ h => h
  rintro i mm ⟨hi, h1, o1⟩
  conv => whnf
  refine ⟨fun h2 => ?_, fun h2 => ?_⟩
  · have h2' := of_decide_eq_true h2
    conv => whnf
    refine xcall (num_spec h1) ?_
    rintro _ m3 ⟨rfl, h3, o3⟩
    conv => whnf
    repeat (refine And.intro (by first | omega | (simp only [times]; omega)) ?_; conv => whnf)
    refine ⟨i + 1, ⟨by omega, h3, o1.trans o3⟩, by omega, ?_⟩
    conv => whnf
    repeat (refine And.intro (by first | with_reducible rfl | (first | exact congrArg (Value.int _) (iadd (by omega)) | exact rNums_set (by omega)) | exact congrArg (Value.int _) (wi (by omega) (by omega)) | exact wi (by omega) (by omega) | rfl) ?_; conv => whnf)
    first | exact trivial | exact fun _ _ h => h
  · have h2' := of_decide_eq_false h2
    obtain rfl : i = 8 := by omega
    conv => whnf
    first | refine xretk (err_spec h1) ?_ | refine xret (err_spec h1) ?_
    conv => whnf
    have hv : rVec s = (if (rNums 8 s).2.2 ≠ 0 then List.replicate 8 0 else (rNums 8 s).1, (rNums 8 s).2) := rfl
    rw [hv]
    refine ⟨fun h3 => ?_, fun h3 => ?_⟩
    · have h3' : (rNums 8 s).2.2 ≠ 0 := by simpa using h3
      conv => whnf
      rw [if_pos h3']
      exact ⟨rfl, h1, o1⟩
    · have h3' : (rNums 8 s).2.2 = 0 := by simpa using h3
      conv => whnf
      rw [if_neg (by simp [h3'])]
      refine ⟨?_, h1, o1⟩
      simp
theorem GoodE.ok {e : En} (h : GoodE e) : okE e := by
  have h1 := h.i1
  have h2 := h.i2
  have h3 := h.n1
  have h4 := h.n2
  have h5 := h.k1
  have h6 := h.k2
  have h7 := h.q1
  have h8 := h.q2
  unfold okE I U
  omega
theorem entsB_take {E : List En} {i : Nat} (h : i < E.length) : entsB (E.take (i + 1)) = entsB (E.take i) ++ entB E[i] := by
  rw [List.take_succ_eq_append_getElem h, entsB, List.map_append, List.flatten_append]
  simp [entsB]
set_option maxHeartbeats 4000000 in
theorem pput_spec {mm m p : Mem} (hS : Strong m) {bp : Nat} {l u : List Int} {a : Option Addr} {c : Nat} {E : List En} (hs : Split mm [p, m]) (hw : Wr p bp l) (hv : Na m (.slice a E.length c) E) (hu : WV8 u) (hI : ∀ e ∈ E, okE e) (hl : l.length ≤ 10000000 - 100000) (hlE : E.length ≤ 1000000) :
    Spec Tryz.prog 71 [ptrV bp, cartV u a E.length c] mm fun r m' => r = [] ∧ ∃ p', Split m' [p', m] ∧ Wr p' bp (l ++ putB (u, E)) := by
  have hsm : Sub m mm := hs.sub (by simp)
  refine en71 rfl (goY ?_)
  conv => whnf
  first | refine xretk (right6R (u := u) (hS.sub hsm) (hv.sub hsm) hI hlE) ?_ | refine xret (right6R (u := u) (hS.sub hsm) (hv.sub hsm) hI hlE) ?_
  conv => whnf
  by_cases hr : rightC u E = true
  rotate_left
  · have hr : rightC u E = false := by simpa using hr
    rw [hr]
    refine ⟨fun _ => ?_, fun h => absurd h (by first | decide | simp)⟩
    conv => whnf
    refine ⟨rfl, p, hs, ?_⟩
    simp only [putB]
    rw [if_neg (by rw [hr]; decide), List.append_nil]
    exact hw
  have hgood := rightC_good hu hr
  have h400 := rightC_len hr
  have hvl := vecB_len u
  rw [hu.1] at hvl
  rw [hr]
  refine ⟨fun h => absurd h (by first | decide | simp), fun _ => ?_⟩
  conv => whnf
  refine xcall (Spec.frame hs (wvec_spec (v := u) hw hu (by omega))) ?_
  rintro _ m1 ⟨p1, ⟨rfl, hw1⟩, hs1⟩
  conv => whnf
  rw [wu (by omega) (by omega)]
  refine xcall (Spec.frame hs1 (wnum_spec (n := (E.length : Int)) hw1 (numB_U (by omega)) (by rw [List.length_append]; omega))) ?_
  rintro _ m2 ⟨p2, ⟨rfl, hw2⟩, hs2⟩
  conv => whnf
  have hnl := numB_len (E.length : Int)
  have hbase : (l ++ vecB u ++ numB (E.length : Int)).length ≤ 10000000 - 90000 := by simp only [List.length_append]; omega
  have hres : l ++ putB (u, E) = l ++ vecB u ++ numB (E.length : Int) ++ entsB E := by
    simp only [putB]
    rw [if_pos hr, cartB]
    simp only [List.append_assoc]
  rw [hres]
  generalize l ++ vecB u ++ numB (E.length : Int) = l0 at hw2 hbase
  refine .mk (ι := Nat) (fun i => E.length - i) (fun i mm => i ≤ E.length ∧ ∃ p, Split mm [p, m] ∧ Wr p bp (l0 ++ entsB (E.take i))) (fun i => [(0, .c (ptrV bp)), (20, .c (.v (.slice a E.length c))), (21, .c (i64 E.length)), (22, .c (i64 i))]) (fun _ => []) 0 ⟨by omega, p2, hs2, by simpa [entsB] using hw2⟩ ?_ ?_
  · conv => whnf
    repeat (refine And.intro (by first | with_reducible rfl | exact congrArg (Value.int _) (wi (by omega) (by omega)) | exact wi (by omega) (by omega) | rfl) ?_; conv => whnf)
    first | exact trivial | exact fun _ _ h => h
  rintro i mm ⟨hi, p, hs, hw⟩
  conv => whnf
  refine ⟨fun h => ?_, fun h => ?_⟩
  · have h' := of_decide_eq_true h
    have hlt : i < E.length := by omega
    clear h
    obtain ⟨bl, ol, c', hh, hg⟩ := (hv.sub (hs.sub (a := m) (by simp))).real hlt
    injection hh with hh1 _ hh3
    subst hh1
    clear hh3 c'
    have hg := hg i hlt
    have hst := entsB_take hlt
    have hgi := hgood _ (List.getElem_mem hlt)
    have hel := entsB_len (E := E.take i) fun e he => hgood e (List.mem_of_mem_take he)
    rw [List.length_take] at hel
    generalize E[i] = x at hg hst hgi
    have e1 := hgi.i1
    have e2 := hgi.i2
    have e3 := hgi.n1
    have e4 := hgi.n2
    have e5 := hgi.k1
    have e6 := hgi.k2
    have e7 := hgi.q1
    have e8 := hgi.q2
    have el := entB_len hgi
    conv => whnf
    repeat (refine And.intro (by first | omega | (simp only [times]; omega)) ?_; conv => whnf)
    refine ⟨[.one (.int .i64 x.1), .one (.int .i64 x.2.1), .one (.int .u64 x.2.2.1), .one (.int .i64 x.2.2.2)], ⟨rfl, rfl, rfl, rfl, trivial⟩, rfl, by simp only [times, Int.toNat_natCast]; exact hg, ?_⟩
    conv => whnf
    rw [wu (by omega) (by omega)]
    have n1 := numB_len x.1
    have n2 := numB_len x.2.1
    have n3 := numB_len x.2.2.1
    refine xcall (Spec.frame hs (wnum_spec (n := x.1) hw ⟨by omega, by omega⟩ (by simp only [List.length_append]; omega))) ?_
    rintro _ k1 ⟨q1, ⟨rfl, hq1⟩, ht1⟩
    conv => whnf
    rw [wu (by omega) (by omega)]
    refine xcall (Spec.frame ht1 (wnum_spec (n := x.2.1) hq1 ⟨by omega, by omega⟩ (by simp only [List.length_append]; omega))) ?_
    rintro _ k2 ⟨q2, ⟨rfl, hq2⟩, ht2⟩
    conv => whnf
    refine xcall (Spec.frame ht2 (wnum_spec (n := x.2.2.1) hq2 ⟨by omega, by omega⟩ (by simp only [List.length_append]; omega))) ?_
    rintro _ k3 ⟨q3, ⟨rfl, hq3⟩, ht3⟩
    conv => whnf
    refine xcall (Spec.frame ht3 (wint_spec (n := x.2.2.2) hq3 ⟨by omega, by omega⟩ (by simp only [List.length_append]; omega))) ?_
    rintro _ k4 ⟨q4, ⟨rfl, hq4⟩, ht4⟩
    conv => whnf
    refine ⟨i + 1, ⟨by omega, q4, ht4, ?_⟩, by omega, ?_⟩
    · rw [hst, entB]
      simpa only [List.append_assoc] using hq4
    · conv => whnf
      repeat (refine And.intro (by first | with_reducible rfl | (first | exact congrArg (Value.int _) (iadd (by omega))) | exact congrArg (Value.int _) (wi (by omega) (by omega)) | exact wi (by omega) (by omega) | rfl) ?_; conv => whnf)
      first | exact trivial | exact fun _ _ h => h
  · have h' := of_decide_eq_false h
    obtain rfl : i = E.length := by omega
    rw [List.take_length] at hw
    conv => whnf
    exact ⟨rfl, p, hs, hw⟩
theorem rIntI {s : RS} (h : Byt s.1) : I64 (rInt s).1 := by
  have hU := rNum_U h
  rcases hr : rNum s with ⟨n, s1⟩
  rw [hr] at hU
  have h0 : 0 ≤ n := hU.1
  have h1 : n < 18446744073709551616 := hU.2
  unfold rInt I64
  rw [hr]
  dsimp only
  split
  · omega
  · split <;> omega
theorem rNumByt {s : RS} (h : Byt s.1) : Byt (rNum s).2.1 := by
  unfold rNum
  rcases hr : rTake 1 s with ⟨hd, s1⟩
  have b1 := rTake_byt (n := 1) h
  rw [hr] at b1
  dsimp only
  split
  · exact b1.2
  · exact rMust_byt (rTake_byt (rMust_byt b1.2)).2
theorem rVecV {s : RS} (h : Byt s.1) : WV8 (rVec s).1 := by
  have hn : ∀ k, Byt (rNums k s).2.1 ∧ ∀ x ∈ (rNums k s).1, U64 x := by
    intro k
    induction k with
    | zero => exact ⟨h, by simp [rNums]⟩
    | succ k ih =>
      refine ⟨rNumByt ih.1, ?_⟩
      intro x hx
      simp only [rNums, List.mem_append, List.mem_singleton] at hx
      rcases hx with hx | rfl
      · exact ih.2 x hx
      · exact rNum_U ih.1
  refine ⟨?_, ?_⟩
  · unfold rVec; simp only; split
    · simp
    · exact rNums_len 8 s
  · unfold rVec; simp only; split
    · intro x hx
      have := List.eq_of_mem_replicate hx
      subst this; exact ⟨by decide, by decide⟩
    · exact (hn 8).2
theorem entry_spec {m : Mem} {bp : Nat} {s : RS} (h : Rd m bp s) :
    Spec Tryz.prog 110 [ptrV bp] m fun r m' => r = [Nv (entF s).1] ∧ Rd m' bp (entF s).2 ∧ okE (entF s).1 := by
  refine en110 rfl (goY ?_)
  conv => whnf
  have k1 := rSmall_nat (most := 60) h.byt ⟨by decide, by decide⟩
  refine xcall (small_spec (most := 60) h ⟨by decide, by decide⟩) ?_
  rintro _ m1 ⟨rfl, h1, o1⟩
  conv => whnf
  have k2 := rSmall_nat (most := 8) h1.byt ⟨by decide, by decide⟩
  refine xcall (small_spec (most := 8) h1 ⟨by decide, by decide⟩) ?_
  rintro _ m2 ⟨rfl, h2, o2⟩
  conv => whnf
  have k3 := rNum_U h2.byt
  refine xcall (num_spec h2) ?_
  rintro _ m3 ⟨rfl, h3, o3⟩
  conv => whnf
  have k4 := rIntI h3.byt
  refine xcall (int_spec h3) ?_
  rintro _ m4 ⟨rfl, h4, o4⟩
  conv => whnf
  refine ⟨rfl, h4, ?_⟩
  unfold entF okE I U
  unfold U64 at k3
  unfold I64 at k4
  simp only
  omega
abbrev Rk := ByteArray × List Int × (Option Addr × Nat × Nat)
def n8 (u : List Int) : List Int := [u.getD 0 0, u.getD 1 0, u.getD 2 0, u.getD 3 0, u.getD 4 0, u.getD 5 0, u.getD 6 0, u.getD 7 0]
theorem n8_eq {u : List Int} (h : u.length = 8) : n8 u = u := by
  match u, h with
  | [a, b, c, d, e, f, g, i], _ => rfl
def encK (r : Rk) : List Value := [.string r.1] ++ (n8 r.2.1).map (Value.int .u64) ++ [.slice r.2.2.1 r.2.2.2.1 r.2.2.2.2]
theorem encK_ok : EncOk encK 10 := ⟨fun _ => rfl, fun x u hu => by
  simp only [encK, List.mem_append, List.mem_singleton, List.mem_map] at hu
  rcases hu with (rfl | ⟨_, _, rfl⟩) | rfl <;> rfl, by decide⟩
structure KyIs (m : Mem) (r : Rk) (x : Kd) : Prop where
  k : r.1 = x.1
  u : r.2.1 = x.2.1
  u8 : x.2.1.length = 8
  e : Na m (.slice r.2.2.1 r.2.2.2.1 r.2.2.2.2) x.2.2
theorem KyIs.sub {m m' : Mem} {r : Rk} {x : Kd} (h : KyIs m r x) (hs : Sub m m') : KyIs m' r x := ⟨h.k, h.u, h.u8, h.e.sub hs⟩
theorem KyIs.len {m : Mem} {r : Rk} {x : Kd} (h : KyIs m r x) : r.2.2.2.1 = x.2.2.length := by
  obtain ⟨a, c, e⟩ := h.e.shape
  injection e
structure KysIs (m : Mem) (R : List Rk) (L : List Kd) : Prop where
  len : R.length = L.length
  at' : ∀ i (h1 : i < R.length) (h2 : i < L.length), KyIs m R[i] L[i]
theorem KysIs.nil (m : Mem) : KysIs m [] [] := ⟨rfl, fun i h => by simp at h⟩
theorem KysIs.sub {m m' : Mem} {R : List Rk} {L : List Kd} (h : KysIs m R L) (hs : Sub m m') : KysIs m' R L := ⟨h.len, fun i h1 h2 => (h.at' i h1 h2).sub hs⟩
theorem KysIs.append {m : Mem} {R R' : List Rk} {L L' : List Kd} (h : KysIs m R L) (h' : KysIs m R' L') : KysIs m (R ++ R') (L ++ L') := by
  refine ⟨by rw [List.length_append, List.length_append, h.len, h'.len], fun i h1 h2 => ?_⟩
  have hl := h.len
  by_cases hi : i < R.length
  · rw [List.getElem_append_left hi, List.getElem_append_left (by omega)]
    exact h.at' i hi (by omega)
  · rw [List.getElem_append_right (by omega), List.getElem_append_right (by omega)]
    simp only [hl]
    rw [List.length_append] at h1 h2
    have := h'.at' (i - L.length) (by omega) (by omega)
    exact this
theorem KysIs.one {m : Mem} {r : Rk} {x : Kd} (h : KyIs m r x) : KysIs m [r] [x] := ⟨rfl, fun i h1 h2 => by
  have : i = 0 := by simp at h1; omega
  subst this; exact h⟩
theorem KysIs.take {m : Mem} {R : List Rk} {L : List Kd} (h : KysIs m R L) (i : Nat) : KysIs m (R.take i) (L.take i) := by
  refine ⟨by rw [List.length_take, List.length_take, h.len], fun j h1 h2 => ?_⟩
  rw [List.getElem_take, List.getElem_take]
  exact h.at' j _ _
theorem KysIs.drop {m : Mem} {R : List Rk} {L : List Kd} (h : KysIs m R L) (i : Nat) : KysIs m (R.drop i) (L.drop i) := by
  refine ⟨by rw [List.length_drop, List.length_drop, h.len], fun j h1 h2 => ?_⟩
  rw [List.getElem_drop, List.getElem_drop]
  exact h.at' _ _ _
theorem KysIs.set {m : Mem} {R : List Rk} {L : List Kd} (h : KysIs m R L) {i : Nat} {r : Rk} {x : Kd} (hx : KyIs m r x) : KysIs m (R.set i r) (L.set i x) := by
  refine ⟨by rw [List.length_set, List.length_set, h.len], fun j h1 h2 => ?_⟩
  rw [List.getElem_set, List.getElem_set]
  split
  · exact hx
  · exact h.at' j _ _
theorem KysIs.keys {m : Mem} {R : List Rk} {L : List Kd} (h : KysIs m R L) : R.map (·.1) = L.map (·.1) := by
  refine List.ext_getElem (by simp [h.len]) fun i h1 h2 => ?_
  rw [List.getElem_map, List.getElem_map]
  exact (h.at' i (by simpa using h1) (by simpa using h2)).k
theorem KysIs.any {m : Mem} {R : List Rk} {L : List Kd} (h : KysIs m R L) (q : ByteArray → Bool) : (R.any fun r => q r.1) = L.any fun x => q x.1 := by
  have e1 : (R.any fun r => q r.1) = (R.map (·.1)).any q := by rw [List.any_map]; rfl
  have e2 : (L.any fun x => q x.1) = (L.map (·.1)).any q := by rw [List.any_map]; rfl
  rw [e1, e2, h.keys]
abbrev Kv (x : Rk) : CV := .a [.one (.string x.1), .ints .u64 8 (n8 x.2.1), .one (.slice x.2.2.1 x.2.2.2.1 x.2.2.2.2)]
theorem hKs : ∃ ti, tt.get 67 = some ti ∧ ti.k = .slice 82 := ⟨_, rfl, rfl⟩
theorem hKn : ∃ ti, tt.get 82 = some ti ∧ ti.size = 10 ∧ ti.bytes = 104 ∧ LB.cells ti.zero = encK (ByteArray.empty, [], (none, 0, 0)) := ⟨_, rfl, rfl, rfl, rfl⟩
def Kl (m : Mem) (v : Value) (E : List Rk) : Prop := Lies m 10 v (E.flatMap encK)
def Ko (m : Mem) (v : Value) (E : List Rk) : Prop := Own m 82 10 v (E.flatMap encK)
def Ka (m : Mem) (v : Value) (E : List Rk) : Prop := Kl m v E ∨ (E = [] ∧ ∃ a, v = .slice (some a) 0 0)
theorem Kl.sub {m m' : Mem} {v : Value} {E : List Rk} (h : Kl m v E) (hs : Sub m m') : Kl m' v E := Lies.sub h hs
theorem Ko.el {m : Mem} {v : Value} {E : List Rk} (h : Ko m v E) : Kl m v E := Own.lies h
theorem Kl.ea {m : Mem} {v : Value} {E : List Rk} (h : Kl m v E) : Ka m v E := .inl h
theorem Ko.ea {m : Mem} {v : Value} {E : List Rk} (h : Ko m v E) : Ka m v E := h.el.ea
theorem Ka.sub {m m' : Mem} {v : Value} {E : List Rk} (h : Ka m v E) (hs : Sub m m') : Ka m' v E := h.imp (·.sub hs) id
theorem Ko.nil (m : Mem) : Ko m (.slice none 0 0) [] := .inl ⟨rfl, rfl⟩
theorem Ka.nil (m : Mem) : Ka m (.slice none 0 0) [] := (Ko.nil m).ea
theorem Kl.shape {m : Mem} {v : Value} {E : List Rk} (h : Kl m v E) : ∃ a c, v = .slice a E.length c := encK_ok.shape h
theorem Ka.shape {m : Mem} {v : Value} {E : List Rk} (h : Ka m v E) : ∃ a c, v = .slice a E.length c := by
  rcases h with h | ⟨rfl, a, rfl⟩
  · exact h.shape
  · exact ⟨_, _, rfl⟩
theorem Ka.real {m : Mem} {v : Value} {E : List Rk} (h : Ka m v E) {i : Nat} (hi : i < E.length) : ∃ b o c, v = .slice (some ⟨b, o, none⟩) E.length c ∧ ∀ j (hj : j < E.length), MRange m b (o + j * 10) (encK E[j]) := by
  rcases h with h | ⟨rfl, _⟩
  · exact encK_ok.real h hi
  · simp at hi
theorem Ka.lenV {m : Mem} {v : Value} {E : List Rk} (h : Ka m v E) : lenV v = E.length := by obtain ⟨a, c, rfl⟩ := h.shape; rfl
theorem Ka.gives {m : Mem} {v : Value} {E : List Rk} {e : TypeId} (h : Ka m v E) : Gives m 10 (.slice e) v (E.flatMap encK) := .inl ⟨e, rfl, h.imp id fun ⟨h1, h2⟩ => ⟨by rw [h1]; rfl, h2⟩⟩
theorem appendKat {m p : Mem} {ls : List Mem} {i : Nat} {v x : Value} {E news : List Rk} (hs : Split m ls) (hi : ls[i]? = some p) (hv : Ko p v E) (hg : Ka m x news) (hb : E.length + news.length ≤ 100000000) :
    PrimSpec Tryz.prog (.builtin .append [67, 67]) [.v v, .v x] m fun r m' => ∃ v' p', r = [.v v'] ∧ Split m' (ls.set i p') ∧ Ko p' v' (E ++ news) := by
  obtain ⟨ti, h1, h2⟩ := hKs
  obtain ⟨ei, g1, g2, g3, g4⟩ := hKn
  have e1 := hv.el.ea.lenV
  have e2 := hg.lenV
  have hv' : Own p 82 ei.size v (E.flatMap encK) := by rw [g2]; exact hv
  refine (append_at (news := news.flatMap encK) tt_ok h1 h2 g1 h1 (by rw [g4, g2]; rfl) hs hi hv' (by rw [h2, g2]; exact hg.gives) (by rw [e1, e2, g3]; omega) (by rw [e1, e2]; omega)).mono fun r m' ⟨v', p', q1, q2, q3⟩ => ⟨v', p', q1, q2, ?_⟩
  have := q3.own
  rw [g2, ← List.flatMap_append] at this
  exact this
theorem buildK0 {m : Mem} : PrimSpec Tryz.prog (.buildSlice 67 0 []) [] m fun r m' => ∃ b, m b = none ∧ r = [.v (.slice (some ⟨b, 0, none⟩) 0 0)] ∧ m' = m.set b (.cells #[] 82) := by
  obtain ⟨ti, h1, h2⟩ := hKs
  obtain ⟨ei, g1, g2, g3, g4⟩ := hKn
  exact buildSlice0_spec tt_ok h1 h2 g1
theorem buildK1 {m : Mem} {e : Rk} : PrimSpec Tryz.prog (.buildSlice 67 1 [0]) [Kv e] m fun r m' => ∃ b, m b = none ∧ r = [.v (.slice (some ⟨b, 0, none⟩) 1 1)] ∧ m' = m.set b (.cells (encK e).toArray 82) := by
  obtain ⟨ti, h1, h2⟩ := hKs
  obtain ⟨ei, g1, g2, g3, g4⟩ := hKn
  exact (buildSlice_spec (n := 1) tt_ok h1 h2 g1 rfl rfl (by simp [CV.cs, LB.cells, Seg.cells, g2] <;> rfl) (by omega) (by omega)).mono fun r m' ⟨b, e1, e2, e3⟩ => ⟨b, e1, e2, e3⟩
theorem Ko.blk1 {m : Mem} {b : Nat} {e : Rk} (h : m b = some (.cells (encK e).toArray 82)) : Ko m (.slice (some ⟨b, 0, none⟩) 1 1) [e] :=
  .inr ⟨b, 0, 1, 1, _, rfl, h, rfl, Nat.le_refl _, Nat.le_refl _, fun j u hu => by rw [Nat.zero_add, List.getElem?_toArray]; simpa using hu, encK_ok.fone⟩
theorem Ko.blk0 {m : Mem} {b : Nat} (h : m b = some (.cells #[] 82)) : Ko m (.slice (some ⟨b, 0, none⟩) 0 0) [] :=
  .inr ⟨b, 0, 0, 0, _, rfl, h, rfl, Nat.le_refl _, Nat.le_refl _, fun j u hu => by simp at hu, encK_ok.fone⟩
theorem cloneK_spec {m : Mem} {v : Value} {E : List Rk} (hv : Ka m v E) (hl : E.length ≤ 10000000) : Spec Tryz.prog 47 [.v v] m fun r m' => ∃ v' p, r = [.v v'] ∧ Split m' [p, m] ∧ Ko p v' E := by
  obtain ⟨a, c, rfl⟩ := hv.shape
  cases a with
  | none =>
    have hE : E = [] := by
      rcases hv with (⟨c', e, h⟩ | ⟨b, o, c', n, arr, t, fr, e, _⟩) | ⟨h, _⟩
      · exact List.eq_nil_of_length_eq_zero (encK_ok.count (n := 0) (by rw [h]; rfl))
      · cases e
      · exact h
    subst hE
    refine en47 rfl (goY ?_)
    conv => whnf
    refine ⟨fun _ => ?_, fun h => absurd h (by first | decide | simp)⟩
    conv => whnf
    exact ⟨_, emp, rfl, (Split.one m).addEmp, Ko.nil _⟩
  | some a =>
    refine en47 rfl (goY ?_)
    conv => whnf
    refine ⟨fun h => absurd h (by first | decide | simp), fun _ => ?_⟩
    conv => whnf
    refine .mk _ (buildK0) ?_
    rintro _ _ ⟨b, hb, rfl, rfl⟩
    conv => whnf
    refine .mk _ (appendKat (i := 0) ((Split.one m).new hb _) rfl (Ko.blk0 (blk1_same ..)) (hv.sub (Mem.sub_set _ hb)) (by simp; omega)) ?_
    rintro _ m' ⟨v', p, rfl, hs, hv'⟩
    conv => whnf
    exact ⟨v', p, rfl, hs, hv'⟩
set_option maxHeartbeats 1000000 in
theorem indexK1_spec {m : Mem} {v : Value} {E : List Rk} {F b : Nat} {p : Rk → Bool} (hv : Ka m v E) (hF : ∀ e ∈ E, Ret Tryz.prog F [Kv e, ptrV b] m [boolV (p e)]) (hl : E.length ≤ 100000000) : Ret Tryz.prog 65 [.v v, (fnP1V F b)] m [i64 (idxG p E)] := by
  obtain ⟨a, c, rfl⟩ := hv.shape
  refine en65 rfl (goY ?_)
  conv => whnf
  refine .mk (ι := Nat) (fun i => E.length - i) (fun i mm => i ≤ E.length ∧ (∀ x ∈ E.take i, p x = false) ∧ mm = m) (fun i => [(0, .c (.v (.slice a E.length c))), (1, .c (fnP1V F b)), (7, .c (i64 E.length)), (8, .c (i64 i))]) (fun _ => []) 0 ⟨by omega, by simp, rfl⟩ ?_ ?_
  · conv => whnf
    repeat (refine And.intro (by first | with_reducible rfl | exact congrArg (Value.int _) (wi (by omega) (by omega)) | exact wi (by omega) (by omega) | rfl) ?_; conv => whnf)
    first | exact trivial | exact fun _ _ h => h
  rintro i mm ⟨hi, hall, he⟩
  subst mm
  conv => whnf
  refine ⟨fun h => ?_, fun h => ?_⟩
  · have h' := of_decide_eq_true h
    have hlt : i < E.length := by omega
    obtain ⟨bl, ol, c', hh, hg⟩ := hv.real hlt
    injection hh with hh1 _ hh3
    subst hh1
    clear hh3 c'
    have hg := hg i hlt
    conv => whnf
    repeat (refine And.intro (by first | omega | (simp only [times]; omega)) ?_; conv => whnf)
    refine ⟨[.one (.string E[i].1), .ints .u64 8 (n8 E[i].2.1), .one (.slice E[i].2.2.1 E[i].2.2.2.1 E[i].2.2.2.2)], ⟨rfl, rfl, rfl, trivial⟩, rfl, by simp only [times, Int.toNat_natCast]; exact hg, ?_⟩
    conv => whnf
    first | refine xretk ((hF E[i] (List.getElem_mem hlt))) ?_ | refine xret ((hF E[i] (List.getElem_mem hlt))) ?_
    conv => whnf
    have hst : E.take (i + 1) = E.take i ++ [E[i]] := List.take_succ_eq_append_getElem hlt
    refine ⟨fun h => ?_, fun h => ?_⟩
    · conv => whnf
      exact ⟨by rw [idxG_at hlt hall h], rfl⟩
    · conv => whnf
      refine ⟨i + 1, ⟨by omega, fun x hx => ?_, rfl⟩, by omega, ?_⟩
      · rw [hst] at hx
        rcases List.mem_append.1 hx with hx | hx
        · exact hall x hx
        · rw [List.mem_singleton.1 hx]; exact h
      · conv => whnf
        repeat (refine And.intro (by first | with_reducible rfl | (first | exact congrArg (Value.int _) (iadd (by omega))) | exact congrArg (Value.int _) (wi (by omega) (by omega)) | exact wi (by omega) (by omega) | rfl) ?_; conv => whnf)
        first | exact trivial | exact fun _ _ h => h
  · have h' := of_decide_eq_false h
    obtain rfl : i = E.length := by omega
    rw [List.take_length] at hall
    conv => whnf
    exact ⟨by rw [idxG_none hall], rfl⟩
end Go.E.YtcionccfgcnhoaaGreatDoor
