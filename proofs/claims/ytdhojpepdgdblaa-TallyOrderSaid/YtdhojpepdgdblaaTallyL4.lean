/-
  The laws of tally, on: the order in which numbers are counted.
-/
import Derived.Test.YtdhojpepdgdblaaTallyL3
import Derived.Test.YtdhojpepdgdblaaE17
import Derived.Test.YtdhojpepdgdblaaE19
namespace Go.E.Ytdhojpepdgdblaa
open Go.Proofs
set_option maxRecDepth 100000

def sumL : List Int → Int
  | [] => 0
  | a :: l => a + sumL l
theorem sumL_append : ∀ (a b : List Int), sumL (a ++ b) = sumL a + sumL b
  | [], b => by simp [sumL]
  | x :: a, b => by simp only [List.cons_append, sumL, sumL_append a b]; omega
theorem sumL_reverse : ∀ (a : List Int), sumL a.reverse = sumL a
  | [] => rfl
  | x :: a => by simp only [List.reverse_cons, sumL_append, sumL, sumL_reverse a]; omega
theorem sumL_nonneg : ∀ {a : List Int}, (∀ x ∈ a, 0 ≤ x) → 0 ≤ sumL a
  | [], _ => by simp [sumL]
  | x :: a, h => by
    have := sumL_nonneg (a := a) (fun y hy => h y (by simp [hy]))
    have := h x (by simp)
    simp only [sumL]; omega
theorem addTo_eq {f : Int → Int} (hf : ∀ n, 0 ≤ f n) (l : List Int) : ∀ i, i ≤ l.length → addTo f i l = min (sumL ((l.take i).map f)) M62
  | 0, _ => by simp only [addTo, List.take_zero, List.map_nil, sumL, M62]; omega
  | i + 1, h => by
    have ih := addTo_eq hf l i (by omega)
    have hg : l.getD i 0 = l[i] := by simp [List.getD_eq_getElem?_getD, List.getElem?_eq_getElem (show i < l.length by omega)]
    rw [List.take_succ_eq_append_getElem (show i < l.length by omega), List.map_append, sumL_append]
    simp only [addTo, ih, hg, more, List.map_cons, List.map_nil, sumL, M62]
    have h1 : 0 ≤ sumL ((l.take i).map f) := sumL_nonneg (by intro x hx; obtain ⟨y, _, rfl⟩ := List.mem_map.1 hx; exact hf y)
    have h2 := hf l[i]
    omega
theorem addAll {f : Int → Int} (hf : ∀ n, 0 ≤ f n) (l : List Int) : addTo f l.length l = min (sumL (l.map f)) M62 := by rw [addTo_eq hf l _ (Nat.le_refl _), List.take_length]
theorem ofUp_nn (n : Int) : 0 ≤ ofUp n := by unfold ofUp; split <;> omega
theorem ofDown_nn (n : Int) : 0 ≤ ofDown n := by unfold ofDown; split <;> omega
theorem addAll_nn {f : Int → Int} (hf : ∀ n, 0 ≤ f n) (l : List Int) : 0 ≤ addTo f l.length l ∧ addTo f l.length l ≤ M62 := by
  rw [addAll hf]
  have h1 : 0 ≤ sumL (l.map f) := sumL_nonneg (by intro x hx; obtain ⟨y, _, rfl⟩ := List.mem_map.1 hx; exact hf y)
  simp only [M62]
  omega
theorem more_parts {f : Int → Int} (hf : ∀ n, 0 ≤ f n) (l : List Int) (c : Nat) : more (addTo f (l.take c).length (l.take c)) (addTo f (l.drop c).length (l.drop c)) = addTo f l.length l := by
  rw [addAll hf, addAll hf, addAll hf]
  have h1 : 0 ≤ sumL ((l.take c).map f) := sumL_nonneg (by intro x hx; obtain ⟨y, _, rfl⟩ := List.mem_map.1 hx; exact hf y)
  have h2 : 0 ≤ sumL ((l.drop c).map f) := sumL_nonneg (by intro x hx; obtain ⟨y, _, rfl⟩ := List.mem_map.1 hx; exact hf y)
  have h3 : sumL (l.map f) = sumL ((l.take c).map f) + sumL ((l.drop c).map f) := by rw [← sumL_append, ← List.map_append, List.take_append_drop]
  simp only [more, M62]
  omega
/-- the numbers, turned and from behind -/
def othL (l : List Int) (t : Nat) : List Int := (l.drop t ++ l.take t).reverse
theorem othL_length (l : List Int) (t : Nat) : (othL l t).length = l.length := by simp [othL]; omega
theorem othL_sum {f : Int → Int} (hf : ∀ n, 0 ≤ f n) (l : List Int) (t : Nat) : addTo f (othL l t).length (othL l t) = addTo f l.length l := by
  rw [addAll hf, addAll hf]
  have : sumL ((othL l t).map f) = sumL (l.map f) := by
    rw [othL, List.map_reverse, sumL_reverse, List.map_append, sumL_append, Int.add_comm, ← sumL_append, ← List.map_append, List.take_append_drop]
  rw [this]
theorem othL_at {l : List Int} {t k : Nat} (ht : t < l.length) (hk : k < l.length) : (othL l t)[k]? = some (l.getD ((l.length - 1 - k + t) % l.length) 0) := by
  have hr : (l.drop t ++ l.take t).length = l.length := by simp; omega
  rw [othL, List.getElem?_reverse (by omega), hr]
  have hg : ∀ i, i < l.length → l.getD i 0 = l[i]?.getD 0 := fun i _ => List.getD_eq_getElem?_getD ..
  by_cases h : l.length - 1 - k + t < l.length
  · rw [Nat.mod_eq_of_lt h, List.getElem?_append_left (by simp; omega), List.getElem?_drop, hg _ h]
    rw [show t + (l.length - 1 - k) = l.length - 1 - k + t by omega, List.getElem?_eq_getElem h]; rfl
  · have e : (l.length - 1 - k + t) % l.length = l.length - 1 - k + t - l.length := by
      rw [Nat.mod_eq_sub_mod (by omega), Nat.mod_eq_of_lt (by omega)]
    rw [e, List.getElem?_append_right (by simp; omega), List.getElem?_take, if_pos (by simp; omega), hg _ (by omega)]
    rw [show l.length - 1 - k - (l.drop t).length = l.length - 1 - k + t - l.length by simp; omega, List.getElem?_eq_getElem (by omega)]; rfl
abbrev icells (l : List Int) : List Value := l.map (Value.int .i64)
theorem ints_of {m : Mem} {v : Value} {l : List Int} (h : Lies m 1 v (icells l)) : Ints m v l := by
  rcases h with ⟨c, rfl, h⟩ | ⟨b, o, c, n, arr, t, fr, rfl, g1, g2, _, g3, g4⟩
  · exact .inl ⟨c, rfl, by simpa using h⟩
  · have hn : n = l.length := by simpa using g2.symm
    subst hn
    refine .inr ⟨b, o, c, rfl, fun j hj => ?_⟩
    simp only [mcell, g1]
    refine g3 j _ ?_
    simp [List.getElem?_eq_getElem hj, List.getD_eq_getElem?_getD]
theorem I_getD {l : List Int} (h : ∀ n ∈ l, I n) (i : Nat) : I (l.getD i 0) := getD_of_all h ⟨by decide, by decide⟩ i
theorem appendI_spec {m : Mem} {v x : Value} {l news : List Value} (hv : Own m 3 1 v l) (hg : Gives m 1 (.slice 3) x news) (hbig : lenV v + lenV x ≤ 1000000) :
    PrimSpec Try.prog (.builtin .append [22, 22]) [.v v, .v x] m fun r m' => ∃ v', r = [.v v'] ∧ Apd m 3 1 v (l ++ news) (lenV x) v' m' := by
  have hi : tt.get 3 = some ⟨.int .i64, 1, 8, [.one (.int .i64 0)], false⟩ := by rfl
  have hs : tt.get 22 = some ⟨.slice 3, 1, 24, [.one (.slice none 0 0)], false⟩ := by rfl
  exact append_spec tt_ok hs rfl hi hs rfl hv hg (by simp only; omega) (by omega)
set_option maxHeartbeats 4000000 in
theorem tallyOrder_spec {m : Mem} {v : Value} {l : List Int} {turn cut : Int} (hI : ∀ n ∈ l, I n) (hv : Lies m 1 v (icells l)) (hlen : lenV v = l.length) (ht : I turn) (hc : I cut) :
    Spec Try.prog 3 [.v v, i64 turn, i64 cut] m fun r m' => r = [boolV true] ∧ Sub m m' := by
  have hv0 := hv
  have alone : ∀ {x : Value}, x = v → Spec Try.prog 11 [] m fun r m' => r = [boolV true] ∧ Sub m m' := fun _ => alive5_spec
  rcases hv with ⟨c, rfl, h⟩ | ⟨b, o, c, n, arr, t, fr, rfl, g1, g2, g2', g3, g4⟩
  · refine en3 rfl (goY ?_)
    conv => whnf
    refine ⟨fun h => absurd h (by decide), fun _ => ?_⟩
    conv => whnf
    refine ⟨fun h => ?_, fun h => ?_⟩
    · conv => whnf
      refine xcall alive5_spec ?_
      rintro _ m2 ⟨rfl, hs2⟩
      conv => whnf
      exact ⟨rfl, hs2⟩
    have h' := of_decide_eq_false h
    conv => whnf
    refine ⟨fun h => ?_, fun h => ?_⟩
    · conv => whnf
      refine xcall alive5_spec ?_
      rintro _ m2 ⟨rfl, hs2⟩
      conv => whnf
      exact ⟨rfl, hs2⟩
    have h2' : ¬ (0 : Int) ≤ turn := of_decide_eq_false h
    exact absurd (Int.not_lt.1 h') h2'
  · have hn : n = l.length := hlen
    subst hn
    have hints := ints_of hv0
    have hIg := I_getD hI
    have ht0 := ht.1
    have ht1 := ht.2
    have hc0 := hc.1
    have hc1 := hc.2
    refine en3 rfl (goY ?_)
    conv => whnf
    have al : ∀ {K : List CV → Mem → Prop}, (∀ m', Sub m m' → K [boolV true] m') → XCall Try.prog 11 [] m K := fun hk => xcall alive5_spec (by rintro _ m2 ⟨rfl, hs2⟩; exact hk m2 hs2)
    refine ⟨fun h => ?_, fun h => ?_⟩
    · conv => whnf
      refine al fun m2 hs2 => ?_
      conv => whnf
      exact ⟨rfl, hs2⟩
    have k1 := of_decide_eq_false h
    conv => whnf
    refine ⟨fun h => ?_, fun h => ?_⟩
    · conv => whnf
      refine al fun m2 hs2 => ?_
      conv => whnf
      exact ⟨rfl, hs2⟩
    have k2 := of_decide_eq_false h
    conv => whnf
    refine ⟨fun h => ?_, fun h => ?_⟩
    · conv => whnf
      refine al fun m2 hs2 => ?_
      conv => whnf
      exact ⟨rfl, hs2⟩
    have k3 := of_decide_eq_false h
    conv => whnf
    refine ⟨fun h => ?_, fun h => ?_⟩
    · conv => whnf
      refine al fun m2 hs2 => ?_
      conv => whnf
      exact ⟨rfl, hs2⟩
    have k4 := of_decide_eq_false h
    conv => whnf
    refine ⟨fun h => ?_, fun h => ?_⟩
    · conv => whnf
      refine al fun m2 hs2 => ?_
      conv => whnf
      exact ⟨rfl, hs2⟩
    have k5 := of_decide_eq_false h
    have hw1 : IntKind.i64.wrap ((l.length : Int) - 1) = l.length - 1 := wi (by omega) (by omega)
    conv => whnf
    first | refine xretk (sum_spec hIg hints (by omega)) ?_ | refine xret (sum_spec hIg hints (by omega)) ?_
    conv => whnf
    refine .mk (ι := Nat × Value) (fun x => l.length - x.1) (fun ⟨k, v8⟩ mm => k ≤ l.length ∧ Own mm 3 1 v8 (icells ((othL l turn.toNat).take k)) ∧ Sub m mm ∧ (∀ b, blkV v8 = some b → m b = none) ∧ lenV v8 = k)
      (fun ⟨k, v8⟩ => [(0, .c (.v (.slice (some ⟨b, o, none⟩) l.length c))), (1, .c (i64 turn)), (2, .c (i64 cut)), (7, .p 0 0), (8, .c (.v v8)), (9, .c (i64 (l.length - 1 - k)))])
      (fun _ => [(26, [.one (.int .u64 (addTo ofUp l.length l)), .one (.int .u64 (addTo ofDown l.length l))])]) (0, .slice none 0 0) ⟨by omega, .inl ⟨rfl, by simp⟩, Sub.refl _, by simp [blkV], rfl⟩ ?_ ?_
    · conv => whnf
      repeat (refine And.intro (by first | with_reducible rfl | (exact congrArg (Value.int _) (by rw [hw1]; simp)) | exact congrArg (Value.int _) (wi (by omega) (by omega)) | exact wi (by omega) (by omega) | rfl) ?_; conv => whnf)
      first | exact trivial | exact fun _ _ h => h
    rintro ⟨k, v8⟩ mm ⟨i1, i2, i3, i4, i5⟩
    conv => whnf
    refine ⟨fun h => ?_, fun h => ?_⟩
    · have h' : (0 : Int) ≤ l.length - 1 - k := of_decide_eq_true h
      have hadd : IntKind.i64.wrap ((l.length : Int) - 1 - k + turn) = l.length - 1 - k + turn := wi (by omega) (by omega)
      have hne : (l.length : Int) ≠ 0 := by omega
      have hmod : (IntKind.i64.wrap ((l.length : Int) - 1 - k + turn)).tmod l.length = (((l.length - 1 - k + turn.toNat) % l.length : Nat) : Int) := by
        rw [hadd, Int.tmod_eq_emod_of_nonneg (by omega)]
        rw [show (l.length : Int) - 1 - k + turn = ((l.length - 1 - k + turn.toNat : Nat) : Int) by omega]
        rfl
      have hlt : (l.length - 1 - k + turn.toNat) % l.length < l.length := Nat.mod_lt _ (by omega)
      generalize hq : (l.length - 1 - k + turn.toNat) % l.length = q at hmod hlt
      have hoth : (othL l turn.toNat)[k]? = some (l.getD q 0) := by rw [← hq]; exact othL_at (by omega) (by omega)
      have hmm : mm b = some (.cells arr t fr) := i3 _ _ g1
      have htimes : times ((IntKind.i64.wrap ((l.length : Int) - 1 - k + turn)).tmod l.length) 1 = q := by simp only [times, hmod]; rfl
      have hcell : mcell mm b (o + q) = some (.int .i64 (l.getD q 0)) := by
        simp only [mcell, hmm]
        refine g3 _ _ ?_
        simp [List.getElem?_eq_getElem hlt, List.getD_eq_getElem?_getD]
      conv => whnf
      refine ⟨hne, ?_⟩
      conv => whnf
      refine ⟨by rw [hmod]; omega, ?_⟩
      conv => whnf
      refine ⟨.int .i64 (l.getD q 0), ?_, rfl, ?_⟩
      · exact (congrArg (fun z => mcell mm b (o + z)) htimes).trans hcell
      conv => whnf
      refine .mk _ (buildSlice_spec tt_ok (t := 22) (e := 3) (by rfl) rfl (by rfl) rfl rfl (by simp [CV.cs]) (by simp) (by simp)) ?_
      rintro _ _ ⟨b', hb, rfl, rfl⟩
      conv => whnf
      have hown : Own (mm.set b' (.cells (fl [i64 (l.getD q 0)]).toArray 3)) 3 1 v8 (icells ((othL l turn.toNat).take k)) := i2.sub (Mem.sub_set _ hb)
      have hgv : Gives (mm.set b' (.cells (fl [i64 (l.getD q 0)]).toArray 3)) 1 (.slice 3) (.slice (some ⟨b', 0, none⟩) 1 1) [.int .i64 (l.getD q 0)] :=
        .inl ⟨_, rfl, .inr ⟨b', 0, 1, 1, _, _, _, rfl, Mem.set_same .., rfl, Nat.le_refl _, by
          intro j u hu
          rw [Nat.zero_add, List.getElem?_toArray]
          exact hu, by
          intro u hu
          rw [List.mem_singleton.1 hu]; rfl⟩⟩
      refine .mk _ (appendI_spec hown hgv (by rw [i5]; simp [lenV]; omega)) ?_
      rintro _ m' ⟨v', rfl, hap⟩
      conv => whnf
      refine ⟨(k + 1, v'), ⟨by omega, ?_, ?_, ?_, ?_⟩, by simp only; omega, ?_⟩
      · have := hap.own
        have e : icells ((othL l turn.toNat).take (k + 1)) = icells ((othL l turn.toNat).take k) ++ [.int .i64 (l.getD q 0)] := by
          have hk' := (List.getElem?_eq_some_iff.1 hoth)
          rw [List.take_succ_eq_append_getElem hk'.1, hk'.2]; simp [icells]
        rw [e]; exact this
      · intro x ob hx
        refine hap.keep x ob (Mem.sub_set _ hb x ob (i3 x ob hx)) (fun hh => ?_)
        have := i4 x hh
        rw [hx] at this; simp at this
      · intro x hx
        rcases hap.new x hx with h1 | h1
        · exact i4 x h1
        · cases hmx : m x with
          | none => rfl
          | some ob =>
            have := Mem.sub_set (.cells (fl [i64 (l.getD q 0)]).toArray 3) hb x ob (i3 x ob hmx)
            rw [h1] at this; simp at this
      · have := hap.len
        rw [this, i5]; rfl
      conv => whnf
      have hsub : IntKind.i64.wrap ((l.length : Int) - 1 - k - 1) = l.length - 1 - ((k + 1 : Nat) : Int) := by rw [wi (by omega) (by omega)]; omega
      repeat (refine And.intro (by first | with_reducible rfl | (exact congrArg (Value.int _) hsub) | exact congrArg (Value.int _) (wi (by omega) (by omega)) | exact wi (by omega) (by omega) | rfl) ?_; conv => whnf)
      first | exact trivial | exact fun _ _ h => h
    · have h' : ¬ (0 : Int) ≤ l.length - 1 - k := of_decide_eq_false h
      have hk : k = l.length := by omega
      have hcut : cut.toNat ≤ l.length := by omega
      have hoth : (othL l turn.toNat).take k = othL l turn.toNat := by rw [hk, ← othL_length l turn.toNat, List.take_length]
      rw [hoth] at i2
      have hmm : mm b = some (.cells arr t fr) := i3 _ _ g1
      conv => whnf
      refine ⟨by omega, ?_⟩
      conv => whnf
      intro o1 ho1 ho1'
      conv => whnf
      refine ⟨by omega, ?_⟩
      conv => whnf
      intro o2 ho2 ho2'
      conv => whnf
      have eo1 : o1 = o := by
        by_cases e : c = 0
        · exact ho1' e
        · have := ho1 e; simpa using this
      have hi1 : Ints mm (.slice (some ⟨b, o1, none⟩) cut.toNat c) (l.take cut.toNat) := by
        have hl1 : (l.take cut.toNat).length = cut.toNat := by simp; omega
        refine .inr ⟨b, o1, c, by rw [hl1], fun j hj => ?_⟩
        rw [hl1] at hj
        simp only [mcell, hmm, eo1]
        refine g3 j _ ?_
        simp [List.getD_eq_getElem?_getD, List.getElem?_take, hj, List.getElem?_eq_getElem (show j < l.length by omega)]
      have hi2 : Ints mm (.slice (some ⟨b, o2, none⟩) (l.length - cut.toNat) (c - cut.toNat)) (l.drop cut.toNat) := by
        refine .inr ⟨b, o2, c - cut.toNat, by simp, fun j hj => ?_⟩
        simp at hj
        have e2 : o2 = o + cut.toNat := by
          have := ho2 (by omega); simpa using this
        simp only [mcell, hmm, e2]
        have := g3 (cut.toNat + j) (.int .i64 ((l.drop cut.toNat).getD j 0)) (by
          simp [List.getD_eq_getElem?_getD, List.getElem?_eq_getElem (show cut.toNat + j < l.length by omega)])
        rw [← Nat.add_assoc] at this
        exact this
      have hI1 : ∀ i, I ((l.take cut.toNat).getD i 0) := I_getD (fun n hn => hI n (List.mem_of_mem_take hn))
      have hI2 : ∀ i, I ((l.drop cut.toNat).getD i 0) := I_getD (fun n hn => hI n (List.mem_of_mem_drop hn))
      have hI3 : ∀ i, I ((othL l turn.toNat).getD i 0) := I_getD (fun n hn => by
        simp only [othL, List.mem_reverse, List.mem_append] at hn
        rcases hn with hn | hn
        · exact hI n (List.mem_of_mem_drop hn)
        · exact hI n (List.mem_of_mem_take hn))
      have u1 := addTo_U (fun i => ofUp_U (hI1 i)) (l.take cut.toNat).length
      have u2 := addTo_U (fun i => ofDown_U (hI1 i)) (l.take cut.toNat).length
      have u3 := addTo_U (fun i => ofUp_U (hI2 i)) (l.drop cut.toNat).length
      have u4 := addTo_U (fun i => ofDown_U (hI2 i)) (l.drop cut.toNat).length
      have u5 := addTo_U (fun i => ofUp_U (hIg i)) l.length
      have u6 := addTo_U (fun i => ofDown_U (hIg i)) l.length
      have r1 := (addAll_nn ofUp_nn l).2
      have r2 := (addAll_nn ofDown_nn l).2
      have p1 := more_parts ofUp_nn l cut.toNat
      have p2 := more_parts ofDown_nn l cut.toNat
      have s1 := othL_sum ofUp_nn l turn.toNat
      have s2 := othL_sum ofDown_nn l turn.toNat
      have d1 := u5.1
      have d2 := u6.1
      first | refine xretk (sum_spec hI1 hi1 (by simp; omega)) ?_ | refine xret (sum_spec hI1 hi1 (by simp; omega)) ?_
      conv => whnf
      first | refine xretk (sum_spec hI2 hi2 (by simp; omega)) ?_ | refine xret (sum_spec hI2 hi2 (by simp; omega)) ?_
      conv => whnf
      first | refine xretk (plus_spec u1 u2 u3 u4) ?_ | refine xret (plus_spec u1 u2 u3 u4) ?_
      conv => whnf
      refine xcall alive5_spec ?_
      rintro _ m2 ⟨rfl, hs2⟩
      first | refine ⟨fun _ h => (by cases h), ?_⟩ | skip
      have hs2' : Sub mm m2 := hs2
      conv => whnf
      refine ⟨fun _ => ?_, fun h => absurd h (by decide)⟩
      conv => whnf
      first | refine xretk (right_spec) ?_ | refine xret (right_spec) ?_
      conv => whnf
      refine ⟨fun _ => ?_, fun h => absurd h (by simp [r1, r2])⟩
      conv => whnf
      first | refine xretk (sum_spec hI3 (ints_of (i2.lies.sub hs2')) (by rw [othL_length]; omega)) ?_ | refine xret (sum_spec hI3 (ints_of (i2.lies.sub hs2')) (by rw [othL_length]; omega)) ?_
      conv => whnf
      refine ⟨fun _ => ?_, fun h => absurd h (by simp [eqLB, ceq, s1, s2])⟩
      conv => whnf
      refine ⟨fun _ => ?_, fun h => absurd h (by simp only [p1, p2]; simp [eqLB, ceq])⟩
      conv => whnf
      first | refine xretk (value_spec u5 u6) ?_ | refine xret (value_spec u5 u6) ?_
      conv => whnf
      refine ⟨?_, i3.trans hs2'⟩
      have : decide (max (addTo ofUp l.length l - addTo ofDown l.length l) 0 ≤ addTo ofUp l.length l) = true := decide_eq_true (by omega)
      rw [this]
end Go.E.Ytdhojpepdgdblaa
