/-
  SoP, SoQ, Door
-/
import Derived.Test.YtcionccfgcnhoaaGreatDoorStoreRefusesZ13
import Derived.Test.YtcionccfgcnhoaaGreatDoorCards
import Derived.Lay
import Derived.OpenShut
import Derived.LaidLaws
import Derived.MakeChecks
namespace Go.E.YtcionccfgcnhoaaGreatDoor
open Go.Proofs
set_option maxRecDepth 100000
theorem Play.sub {m' mq : Mem} {bs bf j : Nat} {q : Int} {s : Sto} (h : Play m' mq bs bf q j s) : Sub mq m' := by
  obtain ⟨_, _, _, hL, _, _⟩ := h.ex
  obtain ⟨p, pf, h1, _⟩ := hL.ex
  exact h1.sub (by simp)
set_option maxHeartbeats 8000000 in
theorem refuses_tail {m m' : Mem} {bs bf j : Nat} {q : Int} {s : Sto} {o : O18} (hg : Glob m) (hP : Play m' m bs bf q j s) (hj : j ≤ 50) (hoi : o.Ok m) (hol : o.l.length ≤ 60) (hok : o.key.size ≤ 100) (hq : 0 ≤ q ∧ q ≤ 9223372036854775807) :
    xwpY c4 (restAt 13 (bodyOf Tryz.f4)) (QRetY tt.get Tryz.f4.results.toList fun r m' => r = [boolV true] ∧ Sub m m')
      [(5, .p 0 0), (9, .c (ptrB bs))] [(42, o18L o)] m' [] := by
  have hsub := hP.sub
  obtain ⟨hgl, _, _⟩ := hP.goods
  have hll := hP.L_len
  obtain ⟨bl, lv, sv, hsr⟩ := hP.reads
  conv => whnf
  refine .at ?_
  conv => whnf
  refine xcall (stext_spec (hg.sub hsub).strong hsr hgl (by omega)) ?_
  rintro _ m1 ⟨rfl, hs1⟩
  conv => whnf
  have hP1 := hP.grow hs1
  obtain ⟨bl1, lv1, sv1, hsr1⟩ := hP1.reads
  first | refine xretk (sall_spec hsr1) ?_ | refine xret (sall_spec hsr1) ?_
  conv => whnf
  refine xcall (splay_spec (k := o.kind) (key := o.key) (u := o.u) (E := o.l) hg hP1 (by omega) hoi.l ⟨hoi.u, hoi.e, by simp only; omega⟩ (by omega) hq hoi.lv) ?_
  rintro _ m2 ⟨b, s', rfl, hP2, hD, hk⟩
  conv => whnf
  have hs2 := hP2.sub
  refine ⟨fun hb => ?_, fun hb => ?_⟩
  · conv => whnf
    refine xcall (alive18_spec (hg.sub hs2)) ?_
    rintro _ m3 ⟨rfl, hs3⟩
    conv => whnf
    exact ⟨rfl, hs2.trans hs3⟩
  conv => whnf
  refine ⟨fun hk1 => ?_, fun hk1 => ?_⟩
  · conv => whnf
    refine xcall (alive18_spec (hg.sub hs2)) ?_
    rintro _ m3 ⟨rfl, hs3⟩
    conv => whnf
    exact ⟨rfl, hs2.trans hs3⟩
  have hk1' : o.kind ≤ 1 := by have := of_decide_eq_false hk1; omega
  obtain rfl := hk hk1' hb
  conv => whnf
  refine xcall (alive18_spec (hg.sub hs2)) ?_
  rintro _ m3 ⟨rfl, hs3⟩
  conv => whnf
  refine ⟨fun _ => ?_, fun h => absurd h (by first | decide | simp)⟩
  conv => whnf
  have hP3 := hP2.grow hs3
  obtain ⟨bl3, lv3, sv3, hsr3⟩ := hP3.reads
  refine xcall (stext_spec (hg.sub (hs2.trans hs3)).strong hsr3 hgl (by omega)) ?_
  rintro _ m4 ⟨rfl, hs4⟩
  conv => whnf
  have hP4 := hP3.grow hs4
  obtain ⟨bl4, lv4, sv4, hsr4⟩ := hP4.reads
  rw [strEq]
  refine ⟨fun _ => ?_, fun h => absurd h (by first | decide | simp)⟩
  conv => whnf
  first | refine xretk (sall_spec hsr4) ?_ | refine xret (sall_spec hsr4) ?_
  conv => whnf
  exact ⟨by simp, (hs2.trans hs3).trans hs4⟩
set_option maxHeartbeats 8000000 in
theorem storeRefuses_spec {m : Mem} {q : Int} {v : Value} {O : List O18} {o : O18} (hg : Glob m) (hv : O18s m v O) (hO : O.length ≤ 9223372036854775807) (ho : o.Ok m) (hq : -9223372036854775808 ≤ q ∧ q ≤ 9223372036854775807) :
    Spec Tryz.prog 4 [i64 q, .v v, .a (o18L o)] m fun r m' => r = [boolV true] ∧ Sub m m' := by
  obtain ⟨av, cv, rfl⟩ := hv.shape
  have hokL : LB.ok (o18L o) := ⟨rfl, rfl, ho.u.1, rfl, ho.lv, trivial⟩
  refine en4 rfl (goY ?_)
  conv => whnf
  by_cases hq0 : q < 0
  · first | refine xretk (new_neg hq0) ?_ | refine xret (new_neg hq0) ?_
    conv => whnf
    refine ⟨fun _ => ?_, fun h => absurd h (by first | decide | simp)⟩
    conv => whnf
    refine xcall (alive18_spec hg) ?_
    rintro _ m1 ⟨rfl, hs1⟩
    conv => whnf
    refine ⟨fun _ => ?_, fun h => absurd h (by first | decide | simp)⟩
    conv => whnf
    refine ⟨fun h => ?_, fun h => ?_⟩
    · conv => whnf
      exact ⟨rfl, hs1⟩
    · exact absurd hq0 (of_decide_eq_false h)
  refine xcall (new_spec (q := q) (by omega)) ?_
  rintro _ m1 ⟨bf, pf, rfl, hs, hf⟩
  conv => whnf
  refine ⟨fun h => absurd h (by first | decide | simp), fun _ => ?_⟩
  conv => whnf
  refine ⟨fun h => absurd h (by first | decide | simp), fun _ => ?_⟩
  conv => whnf
  first | refine xretk (great18_spec (k := o.kind) (key := o.key) (u := o.u) (a := o.a) (n := o.l.length) (c := o.c) (lv := o.lv)) ?_ | refine xret (great18_spec (k := o.kind) (key := o.key) (u := o.u) (a := o.a) (n := o.l.length) (c := o.c) (lv := o.lv)) ?_
  conv => whnf
  refine ⟨fun h1 => ?_, fun h1 => ?_⟩
  · conv => whnf
    refine xcall (alive18_spec (hg.sub (hs.sub (by simp)))) ?_
    rintro _ m2 ⟨rfl, hs2⟩
    conv => whnf
    refine ⟨fun _ => ?_, fun h => absurd h (by first | decide | simp)⟩
    conv => whnf
    refine ⟨fun h => ?_, fun h => ?_⟩
    · exact absurd (of_decide_eq_true h) hq0
    · conv => whnf
      exact ⟨rfl, (hs.sub (by simp)).trans hs2⟩
  have hsm : o.l.length ≤ 60 ∧ o.key.size ≤ 100 := by
    simp only [Bool.or_eq_false_iff, decide_eq_false_iff_not] at h1
    omega
  clear h1
  conv => whnf
  refine xcall (sopen_spec hg hs hf (Smj (by simp) (by simp) (by omega) (by omega)) (fun a ha => by simp at ha) (CI.nil q) (by omega) (by omega) (by omega) (by simp)) ?_
  rintro _ m2 ⟨bs, ns1, A1, rfl, hL1, hfi1, hns1, hgr1, hsame1⟩
  conv => whnf
  obtain rfl := hsame1 rfl
  rw [opened00] at hL1 hfi1
  have hp0 : Play m2 m bs bf q 1 s0A := ⟨⟨0, ns1, [], hL1, hfi1, ⟨by simp, by simp, fun a ha => by simp at ha, by omega, by omega⟩⟩, by simp [s0A], by simp [s0A]⟩
  refine ⟨fun h => absurd h (by first | decide | simp), fun _ => ?_⟩
  conv => whnf
  refine ⟨fun h => absurd h (by first | decide | simp), fun _ => ?_⟩
  conv => whnf
  refine .mk (ι := Nat) (fun i => 40 - i) (fun i m' => i ≤ O.length ∧ i ≤ 40 ∧ ∃ s, Play m' m bs bf q (i + 1) s) (fun i => [(1, .c (.v (.slice av O.length cv))), (5, .p 0 0), (9, .c (ptrB bs)), (11, .c (i64 i))]) (fun _ => [(42, o18L o)]) 0 ⟨by omega, by omega, s0A, hp0⟩ ?_ ?_
  · conv => whnf
    repeat (refine And.intro (by first | with_reducible rfl | exact congrArg (Value.int _) (wi (by omega) (by omega)) | exact wi (by omega) (by omega) | rfl) ?_; conv => whnf)
    first | exact trivial | exact fun _ _ h => h
  rintro i m' ⟨hi, hi40, s, hP⟩
  have fin := refuses_tail hg hP (by omega) ho hsm.1 hsm.2 ⟨by omega, hq.2⟩
  have hmm' := hP.sub
  conv => whnf
  refine ⟨fun h1 => ?_, fun h1 => ?_⟩
  rotate_left
  · have tl := fin
    conv at tl => whnf
    conv => whnf
    refine .via _ _ ?_ tl
    conv => whnf
    repeat (refine And.intro (by first | with_reducible rfl | exact congrArg (Value.int _) (wi (by omega) (by omega)) | exact wi (by omega) (by omega) | rfl) ?_; conv => whnf)
    first | exact trivial | exact fun _ _ h => h
  have hi1 : i < O.length := by have := of_decide_eq_true h1; omega
  clear h1
  conv => whnf
  refine ⟨fun h1 => ?_, fun h1 => ?_⟩
  rotate_left
  · have tl := fin
    conv at tl => whnf
    conv => whnf
    refine .via _ _ ?_ tl
    conv => whnf
    repeat (refine And.intro (by first | with_reducible rfl | exact congrArg (Value.int _) (wi (by omega) (by omega)) | exact wi (by omega) (by omega) | rfl) ?_; conv => whnf)
    first | exact trivial | exact fun _ _ h => h
  have hi2 : i < 40 := by have := of_decide_eq_true h1; omega
  clear h1 fin
  obtain ⟨bo, oo, co, e, hgo⟩ := hv.elem i hi1
  cases e
  have hgi := hgo i hi1
  have hoi := hv.ok O[i] (List.getElem_mem hi1)
  generalize O[i] = op at hgi hoi
  have hok : LB.ok (o18L op) := ⟨rfl, rfl, hoi.u.1, rfl, hoi.lv, trivial⟩
  conv => whnf
  repeat (refine And.intro (by first | omega | (simp only [times]; omega)) ?_; conv => whnf)
  refine ⟨o18L op, hok, rfl, by simp only [times, Int.toNat_natCast]; exact hgi.sub hmm', ?_⟩
  conv => whnf
  first | refine xretk (great18_spec (k := op.kind) (key := op.key) (u := op.u) (a := op.a) (n := op.l.length) (c := op.c) (lv := op.lv)) ?_ | refine xret (great18_spec (k := op.kind) (key := op.key) (u := op.u) (a := op.a) (n := op.l.length) (c := op.c) (lv := op.lv)) ?_
  conv => whnf
  refine ⟨fun h1 => ?_, fun h1 => ?_⟩
  · conv => whnf
    refine xcall (alive18_spec (hg.sub hmm')) ?_
    rintro _ m5 ⟨rfl, hs5⟩
    conv => whnf
    exact ⟨rfl, hmm'.trans hs5⟩
  have hsm2 : op.l.length ≤ 60 ∧ op.key.size ≤ 100 := by
    simp only [Bool.or_eq_false_iff, decide_eq_false_iff_not] at h1
    omega
  clear h1
  conv => whnf
  repeat (refine And.intro (by first | omega | (simp only [times]; omega)) ?_; conv => whnf)
  refine ⟨o18L op, hok, rfl, by simp only [times, Int.toNat_natCast]; exact hgi.sub hmm', ?_⟩
  conv => whnf
  refine xcall (splay_spec (k := op.kind) (key := op.key) (u := op.u) (E := op.l) hg hP (by omega) hoi.l ⟨hoi.u, hoi.e, by simp only; omega⟩ (by omega) ⟨by omega, hq.2⟩ hoi.lv) ?_
  rintro _ m5 ⟨b, s', rfl, hP5, hD, _⟩
  conv => whnf
  refine ⟨i + 1, ⟨by omega, by omega, s', hP5⟩, by omega, ?_⟩
  conv => whnf
  repeat (refine And.intro (by first | with_reducible rfl | (first | exact congrArg (Value.int _) (iadd (by omega))) | exact congrArg (Value.int _) (wi (by omega) (by omega)) | exact wi (by omega) (by omega) | rfl) ?_; conv => whnf)
  first | exact trivial | exact fun _ _ h => h
end Go.E.YtcionccfgcnhoaaGreatDoor
namespace Go.E
open Go.Proofs
theorem val_struct18 {P : Program} {w : World} {r : Reach} {b0 : Nat} {t : TypeId} {fs : _} {v : Value} (hu : P.underlying t = some (.struct fs)) (h : Value.okWide P w r b0 t v) : v = .agg (v.cells.toList).toArray := by
  unfold Value.okWide at h
  rw [hu] at h
  obtain ⟨cs, rfl, _⟩ := h
  rfl
end Go.E
namespace Go.E.YtcionccfgcnhoaaGreatDoor
open Go.Proofs
set_option maxRecDepth 100000
abbrev shEn : Sh := .pair (.int .i64) (.pair (.int .i64) (.pair (.int .u64) (.pair (.int .i64) .unit)))
abbrev shCa : Sh := .pair (.rep 8 (.int .u64)) (.pair (.slice shEn) .unit)
abbrev shO18 : Sh := .pair (.int .i64) (.pair .str (.pair shCa (.pair (.slice (.int .i64)) .unit)))
theorem wfI18 {n : Int} (h : (Lit.int .i64 n).wf = true) : I n := by
  have := wf_i64 h
  exact ⟨this.1, by omega⟩
theorem dat_en {m : Mem} {cs : List Value} (h : Dat m shEn cs) : ∃ e : En, cs = encE e ∧ okE e := by
  obtain ⟨_, _, rfl, ⟨n1, rfl, h1⟩, _, _, rfl, ⟨n2, rfl, h2⟩, _, _, rfl, ⟨n3, rfl, h3⟩, _, _, rfl, ⟨n4, rfl, h4⟩, h5⟩ := h
  simp only [Dat] at h5
  subst h5
  exact ⟨(n1, n2, n3, n4), rfl, wfI18 h1, wfI18 h2, wf_u64 h3, wfI18 h4⟩
theorem dat_en_rows {m : Mem} : ∀ {els : List (List Value)}, (∀ c ∈ els, Dat m shEn c) → ∃ E : List En, els.flatten = E.flatMap encE ∧ E.length = els.length ∧ ∀ e ∈ E, okE e
  | [], _ => ⟨[], rfl, rfl, by simp⟩
  | c :: els, h => by
    obtain ⟨e, rfl, he⟩ := dat_en (h c (by simp))
    obtain ⟨E, h1, h2, h3⟩ := dat_en_rows (els := els) fun c hc => h c (by simp [hc])
    refine ⟨e :: E, by rw [List.flatten_cons, List.flatMap_cons, h1], by simp [h2], fun d hd => ?_⟩
    rcases List.mem_cons.1 hd with rfl | hd
    · exact he
    · exact h3 d hd
theorem dat_ens {m : Mem} {cs : List Value} (h : Dat m (.slice shEn) cs) : ∃ a c E, cs = [.slice a (E : List En).length c] ∧ Na m (.slice a E.length c) E ∧ ∀ e ∈ E, okE e := by
  obtain ⟨v, els, rfl, h1, h2, h3, h4⟩ := h
  obtain ⟨E, e1, e2, e3⟩ := dat_en_rows h3
  have hna : Na m v E := by
    rcases h1 with h1 | ⟨rfl, a, rfl⟩
    · rw [e1] at h1; exact .inl h1
    · exact .inr ⟨List.eq_nil_of_length_eq_zero (by simpa using e2), a, rfl⟩
  obtain ⟨a, c, rfl⟩ := hna.shape
  exact ⟨a, c, E, rfl, hna, e3⟩
theorem dat_o18 {m : Mem} {cs : List Value} (h : Dat m shO18 cs) : ∃ o : O18, cs = LB.cells (o18L o) ∧ o.Ok m := by
  obtain ⟨_, _, rfl, ⟨n1, rfl, _⟩, _, _, rfl, ⟨k, rfl, _⟩, _, _, rfl, hc, _, _, rfl, hl, h5⟩ := h
  simp only [Dat] at h5
  subst h5
  obtain ⟨_, _, rfl, hu, _, _, rfl, he, h6⟩ := hc
  simp only [Dat] at h6
  subst h6
  obtain ⟨u, rfl, hu1, hu2⟩ := dat_ints hu
  obtain ⟨a, c, E, rfl, hE, hEo⟩ := dat_ens he
  obtain ⟨v, l, rfl, g1, _, _⟩ := dat_last hl
  exact ⟨⟨n1, k, u, a, c, E, v⟩, by simp [LB.cells, Seg.cells], ⟨hu1, fun x hx => wf_u64 (hu2 x hx)⟩, hEo, hE, g1.one⟩
theorem o18_len {m : Mem} {o : O18} (h : o.Ok m) : (LB.cells (o18L o)).length = 12 := by simp [LB.cells, Seg.cells, h.u.1]
theorem dat_o18_rows {m : Mem} : ∀ {els : List (List Value)}, (∀ c ∈ els, Dat m shO18 c) → ∃ O : List O18, els = O.map (fun o => LB.cells (o18L o)) ∧ ∀ o ∈ O, o.Ok m
  | [], _ => ⟨[], rfl, by simp⟩
  | c :: els, h => by
    obtain ⟨o, rfl, ho⟩ := dat_o18 (h c (by simp))
    obtain ⟨O, rfl, h2⟩ := dat_o18_rows (els := els) fun c hc => h c (by simp [hc])
    refine ⟨o :: O, rfl, fun d hd => ?_⟩
    rcases List.mem_cons.1 hd with rfl | hd
    · exact ho
    · exact h2 d hd
theorem dat_o18s {m : Mem} {cs : List Value} (h : Dat m (.slice shO18) cs) : ∃ v O, cs = [v] ∧ O18s m v O ∧ O.length ≤ 9223372036854775807 := by
  obtain ⟨v, els, rfl, h1, h2, h3, h4⟩ := h
  obtain ⟨O, rfl, hO⟩ := dat_o18_rows h3
  rw [List.length_map] at h2 h4
  refine ⟨v, O, rfl, ⟨hO, ?_, fun i hi => ?_⟩, h4⟩
  · rcases h1 with h1 | ⟨h1, a, rfl⟩
    · rcases h1 with ⟨c, rfl, _⟩ | ⟨b, o, c, n, arr, t, fr, rfl, _⟩
      · exact ⟨none, c, by rw [← h2]; rfl⟩
      · exact ⟨_, c, by rw [← h2]; rfl⟩
    · exact ⟨_, 0, by rw [← h2]; rfl⟩
  · rcases h1 with h1 | ⟨h1, a, rfl⟩
    · obtain ⟨b, o, c, e1, e2⟩ := Lies.elem (s := 12) h1 (fun c hc => by
        obtain ⟨o, ho, rfl⟩ := List.mem_map.1 hc
        exact o18_len (hO o ho)) (by decide) (by rw [List.length_map]; exact h2) (i := i) (by rw [List.length_map]; exact hi)
      rw [List.length_map] at e1
      exact ⟨b, o, c, e1, fun j hj => e2 j _ (by simp [hj])⟩
    · have : O = [] := by simpa using h1
      subst this
      simp at hi
end Go.E.YtcionccfgcnhoaaGreatDoor
namespace Go.E
theorem trod_ints {H : Type} {enc : TypeId × Value → H} {P : Program} {w : World} {base : Nat} {spare : Nat → Bool} {held : Bool} {fuel : Nat} {t e : TypeId} {cs : List Value} {n : Nat} {k : IntKind} {zs : List Int} {p : List MemPlace} (ht : P.underlying t = some (.array n e)) (he : P.underlying e = some (.int k)) (hc : P.cellsOf e = 1) (hct : P.cellsOf t = n)
    (h : DataW.trod enc P w base spare held fuel t cs = some (.agg (zs.map fun z => .lit (.int k z)), p)) : cs = zs.map fun z => Value.int k z := by
  obtain ⟨xs, m, _, ex, hl, hn, hel⟩ := DataW.trod_array ht h
  rw [hct] at hl
  have e1 : xs.map (·.1) = zs.map fun z => .lit (.int k z) := (DataW.agg.inj (Prod.mk.inj ex).1).symm
  have hz : zs.length = n := by have := congrArg List.length e1; simp at this; omega
  refine List.ext_getElem? fun i => ?_
  by_cases hi : i < n
  · have h1 := hel i hi
    rw [hc, Nat.mul_one, List.getElem?_eq_getElem (by omega)] at h1
    obtain ⟨z, f1, f2, _⟩ := DataW.trod_int he h1
    have e4 : (xs.map (·.1))[i]? = (zs.map fun z => (DataW.lit (.int k z) : DataW H))[i]? := by rw [e1]
    rw [List.getElem?_map, List.getElem?_map, List.getElem?_eq_getElem (by omega : i < xs.length), List.getElem?_eq_getElem (by omega : i < zs.length), f2] at e4
    have hzz : z = zs[i] := by simpa using e4
    have h0 : ((cs.drop i).take 1)[0]? = some (.int k z) := by rw [f1]; rfl
    rw [List.getElem?_map, List.getElem?_eq_getElem (by omega : i < zs.length), ← hzz]
    simpa using h0
  · rw [List.getElem?_eq_none (by omega), List.getElem?_eq_none (by simp; omega)]
theorem trod_iface {H : Type} {enc : TypeId × Value → H} {P : Program} {w : World} {base : Nat} {spare : Nat → Bool} {fuel : Nat} {t : TypeId} {cs : List Value} {ms : _} {name : String} {d : DataW H} {p : List MemPlace} (ht : P.underlying t = some (.interface ms))
    (h : DataW.trod enc P w base spare false fuel t cs = some (.iface name d, p)) : ∃ u v, cs = [.iface u v] := by
  cases fuel with
  | zero => simp [DataW.trod] at h
  | succ m =>
    unfold DataW.trod at h
    rw [ht] at h
    split at h <;> simp_all
theorem var_heap {P : Program} {W : World} {name : String} {g : Nat} {cs : Array Value} (hg : P.globalNamed name = some g) (h : W.var? P name = some cs) : ∃ T fr, W.heap[g]? = some (.cells cs T fr) := by
  unfold World.var? at h
  rw [hg] at h
  simp only [Option.bind_some] at h
  split at h
  · rename_i arr T fr hb
    injection h with h; subst h
    exact ⟨T, fr, hb⟩
  · cases h
end Go.E
namespace Go.E.YtcionccfgcnhoaaGreatDoor
open Go.Proofs
set_option maxRecDepth 100000
theorem glob_met {W : World} (h : laidMetH Tryz.prog [("math/bits.deBruijn32tab", Go.Proofs.YtcionccfgcnhoaaGreatDoor.Rows.laid_math_bits_deBruijn32tab), ("math/bits.deBruijn64tab", Go.Proofs.YtcionccfgcnhoaaGreatDoor.Rows.laid_math_bits_deBruijn64tab), ("internal/strconv.uint64pow10", Go.Proofs.YtcionccfgcnhoaaGreatDoor.Rows.laid_internal_strconv_uint64pow10), ("strconv.ErrRange", Go.Proofs.YtcionccfgcnhoaaGreatDoor.Rows.laid_strconv_ErrRange), ("strconv.ErrSyntax", Go.Proofs.YtcionccfgcnhoaaGreatDoor.Rows.laid_strconv_ErrSyntax)] W) : Glob (fun b => W.heap[b]?) := by
  rw [MakeChecks.laidMetH_plain _ _ _ (by kernel_rfl)] at h
  obtain ⟨ps, hl, _, _⟩ := h
  obtain ⟨g1, t1, c1, f1, p1, q1, hg1, ht1, hv1, hd1, hl, _⟩ := hl
  obtain ⟨g2, t2, c2, f2, p2, q2, hg2, ht2, hv2, hd2, hl, _⟩ := hl
  obtain ⟨g3, t3, c3, f3, p3, q3, hg3, ht3, hv3, hd3, hl, _⟩ := hl
  obtain ⟨g4, t4, c4, f4, p4, q4, hg4, ht4, hv4, hd4, hl, _⟩ := hl
  obtain ⟨g5, t5, c5, f5, p5, q5, hg5, ht5, hv5, hd5, hl, _⟩ := hl
  obtain rfl := Option.some.inj (gTab.symm.trans hg3)
  obtain rfl := Option.some.inj (gRng.symm.trans hg4)
  obtain rfl := Option.some.inj (gSyn.symm.trans hg5)
  obtain ⟨T3, r3, hh3⟩ := var_heap hg3 hv3
  obtain ⟨T4, r4, hh4⟩ := var_heap hg4 hv4
  obtain ⟨T5, r5, hh5⟩ := var_heap hg5 hv5
  obtain rfl := Option.some.inj ((show (Tryz.prog.globals[0]?).map (·.type) = some 260 by kernel_rfl).symm.trans ht3)
  obtain rfl := Option.some.inj ((show (Tryz.prog.globals[3]?).map (·.type) = some 167 by kernel_rfl).symm.trans ht4)
  obtain rfl := Option.some.inj ((show (Tryz.prog.globals[2]?).map (·.type) = some 167 by kernel_rfl).symm.trans ht5)
  have k3 := trod_ints (zs := Lib.pow10Tab) Tryz.underlying260 Tryz.underlying35 (by kernel_rfl) (by kernel_rfl) hd3
  obtain ⟨u4, w4, k4⟩ := trod_iface Tryz.underlying167 hd4
  obtain ⟨u5, w5, k5⟩ := trod_iface Tryz.underlying167 hd5
  refine ⟨⟨u5, w5, T5, r5, ?_⟩, ⟨u4, w4, T4, r4, ?_⟩, ⟨T3, r3, ?_⟩⟩
  · rw [hh5, ← Array.toArray_toList (xs := c5), k5]
  · rw [hh4, ← Array.toArray_toList (xs := c4), k4]
  · rw [hh3, ← Array.toArray_toList (xs := c3), k3]
end Go.E.YtcionccfgcnhoaaGreatDoor
