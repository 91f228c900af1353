/-
  Mo2, Mo3, Mo4, SbW, Wa1, E30, SdV, Wa2, Wa3, Nc, KeyR, SxW
-/
import Derived.Test.YtheiididldemmaaGreatWatchNothingZ8
import Derived.MapKept
/-
  Contracts of model: events of either, dots, dots that went off.
-/
namespace Go.E.YtheiididldemmaaGreat
open Go.Proofs
set_option maxRecDepth 100000
theorem unionFrom_snoc : ∀ (l out : List Ev) (x : Ev), unionFrom out (l ++ [x]) = if (unionFrom out l).contains x then unionFrom out l else unionFrom out l ++ [x]
  | [], out, x => by simp [unionFrom]
  | y :: l, out, x => by
    rw [List.cons_append, unionFrom, unionFrom]
    split <;> exact unionFrom_snoc l _ x
theorem unionFrom_len : ∀ (l out : List Ev), (unionFrom out l).length ≤ out.length + l.length
  | [], out => by simp [unionFrom]
  | y :: l, out => by
    rw [unionFrom]
    split
    · have := unionFrom_len l out; simp only [List.length_cons]; omega
    · have := unionFrom_len l (out ++ [y]); simp only [List.length_append, List.length_cons, List.length_nil] at *; omega
abbrev partsV (r : Rv) : LB := [.one (.int .i64 r.1.1), .one (.int .i64 r.1.2.1), .one (.int .i64 r.1.2.2), .one (.int .i64 r.2.1.1), .one (.int .u64 r.2.1.2), .one (.slice r.2.2.1 r.2.2.2.1 r.2.2.2.2)]
set_option maxHeartbeats 4000000 in
theorem union20_spec {m : Mem} {v : Value} {R : List Rv} {E : List Ev} (hv : Va m v R) (hE : EvsIs m R E) (hl : E.length ≤ 100000) (ho : ∀ e ∈ E, e.2.2.length ≤ 100000) :
    Spec Tryz.prog 29 [.v v, .v (.slice none 0 0)] m fun r m' => ∃ v' p R', r = [.v v'] ∧ Split m' [p, m] ∧ Vo p v' R' ∧ EvsIs m R' (unionE E []) := by
  have hlen := hE.len
  have hun : unionE E [] = unionFrom [] E := by unfold unionE; rw [List.append_nil]
  rw [hun]
  obtain ⟨av, cv, rfl⟩ := hv.shape
  refine en29 rfl (goY ?_)
  conv => whnf
  refine .mk _ (buildVL2) ?_
  rintro _ _ ⟨b1, hb1, rfl, rfl⟩
  conv => whnf
  have hs1 := (Split.one m).new hb1 (.cells #[.slice av R.length cv, .slice none 0 0] 52)
  have hcat : catV [(.slice av R.length cv, R), (.slice none 0 0, [])] = R := by simp [catV]
  have hls : LsV (m.set b1 (.cells #[.slice av R.length cv, .slice none 0 0] 52)) (.slice (some ⟨b1, 0, none⟩) 2 2) [(.slice av R.length cv, R), (.slice none 0 0, [])] :=
    LsV.blk (ps := [(.slice av R.length cv, R), (.slice none 0 0, [])]) (Mem.set_same ..) rfl (by
      intro q hq
      simp only [List.mem_cons, List.not_mem_nil, or_false] at hq
      rcases hq with rfl | rfl
      · exact hv.sub (hs1.sub (by simp))
      · exact Va.nil _)
  refine xcall (concatV_spec hls (by rw [hcat]; omega) (by simp)) ?_
  rintro _ m2 ⟨v2, p2, rfl, hs2', hv2⟩
  conv => whnf
  rw [hcat] at hv2
  have hs2 : Split m2 [p2, m] := (Split.beside hs2' hs1).erase 1
  clear hs2' hs1 hb1 hcat
  obtain ⟨a2, c2, rfl⟩ := hv2.el.shape
  conv => whnf
  refine .mk (ι := Nat × Value) (fun i => R.length - i.1) (fun ⟨i, vo⟩ mm => i ≤ R.length ∧ ∃ p Ro, Split mm [p, p2, m] ∧ Vo p vo Ro ∧ EvsIs m Ro (unionFrom [] (E.take i))) (fun ⟨i, vo⟩ => [(5, .c (.v vo)), (11, .c (.v (.slice a2 R.length c2))), (12, .c (i64 R.length)), (13, .c (i64 i))]) (fun _ => []) (0, .slice none 0 0) ⟨by omega, emp, [], hs2.addEmp, Vo.nil _, EvsIs.nil _⟩ ?_ ?_
  · conv => whnf
    repeat (refine And.intro (by first | with_reducible rfl | exact congrArg (Value.int _) (wi (by omega) (by omega)) | exact wi (by omega) (by omega) | rfl) ?_; conv => whnf)
    first | exact trivial | exact fun _ _ h => h
  rintro ⟨i, vo⟩ mm ⟨hi, p, Ro, hs, hvo, hRo⟩
  conv => whnf
  refine ⟨fun h => ?_, fun h => ?_⟩
  · have h' := of_decide_eq_true h
    have hlt : i < R.length := by omega
    have hltE : i < E.length := by omega
    obtain ⟨bl, ol, c', hh, hg⟩ := hv2.el.ea.real hlt
    injection hh with hh1 _ hh3
    subst hh1
    clear hh3 c'
    have hg := (hg i hlt).sub (hs.sub (a := p2) (by simp))
    have hx := hE.at hlt hltE
    have hst : unionFrom [] (E.take (i + 1)) = if (unionFrom [] (E.take i)).contains E[i] then unionFrom [] (E.take i) else unionFrom [] (E.take i) ++ [E[i]] := by
      rw [List.take_succ_eq_append_getElem hltE, unionFrom_snoc]
    have hul := unionFrom_len (E.take i) []
    rw [List.length_take] at hul
    have hyo := ho _ (List.getElem_mem hltE)
    generalize R[i] = x at hg hx
    generalize E[i] = y at hx hst hyo
    obtain ⟨ao, co, rfl⟩ := hvo.el.shape
    conv => whnf
    repeat (refine And.intro (by first | omega | (simp only [times]; omega)) ?_; conv => whnf)
    refine ⟨partsV x, ⟨rfl, rfl, rfl, rfl, rfl, rfl, trivial⟩, rfl, by simp only [times, Int.toNat_natCast]; exact hg, ?_⟩
    conv => whnf
    have hm : Sub m mm := hs.sub (by simp)
    have hRl := hRo.len
    refine xcall (has20_spec (x := x) (hvo.el.ea.sub (hs.sub (by simp))) (hRo.sub hm) (hx.sub hm) (by simp only [List.length_nil] at hul; omega) (by omega)) ?_
    rintro _ m3 ⟨rfl, hsub⟩
    conv => whnf
    have hs3 := hs.grow hsub
    cases hc : (unionFrom [] (E.take i)).contains y with
    | true =>
      rw [hc, if_pos rfl] at hst
      refine ⟨fun h => absurd h (by first | decide | simp), fun _ => ?_⟩
      conv => whnf
      refine ⟨(i + 1, _), ⟨by omega, p, Ro, hs3, hvo, by rw [hst]; exact hRo⟩, by simp only; omega, ?_⟩
      conv => whnf
      repeat (refine And.intro (by first | with_reducible rfl | (first | exact congrArg (Value.int _) (iadd (by omega))) | exact congrArg (Value.int _) (wi (by omega) (by omega)) | exact wi (by omega) (by omega) | rfl) ?_; conv => whnf)
      first | exact trivial | exact fun _ _ h => h
    | false =>
      rw [hc, if_neg (by decide)] at hst
      refine ⟨fun _ => ?_, fun h => absurd h (by first | decide | simp)⟩
      conv => whnf
      refine .mk _ (buildV1 (e := x)) ?_
      rintro _ _ ⟨b5, hb5, rfl, rfl⟩
      conv => whnf
      refine .mk _ (pushV (i := 0) hs3 rfl hb5 hvo (by simp only [List.length_nil] at hul; omega)) ?_
      rintro _ m4 ⟨v', p', rfl, hs4, hv'⟩
      conv => whnf
      refine ⟨(i + 1, v'), ⟨by omega, p', Ro ++ [x], hs4, hv', by rw [hst]; exact hRo.append (EvsIs.one hx)⟩, by simp only; omega, ?_⟩
      conv => whnf
      repeat (refine And.intro (by first | with_reducible rfl | (first | exact congrArg (Value.int _) (iadd (by omega))) | exact congrArg (Value.int _) (wi (by omega) (by omega)) | exact wi (by omega) (by omega) | rfl) ?_; conv => whnf)
      first | exact trivial | exact fun _ _ h => h
  · have h' := of_decide_eq_false h
    obtain rfl : i = R.length := by omega
    rw [List.take_of_length_le (by omega)] at hRo
    conv => whnf
    exact ⟨vo, p, Ro, rfl, hs.erase 1, hvo, hRo⟩
theorem dotsL_snoc (l : List Ev) (x : Ev) : dotsL (l ++ [x]) = if addsE x && rightE x then dotsL l ++ [x.2.1] else dotsL l := by
  unfold dotsL
  rw [List.filter_append, List.map_append]
  cases h : (addsE x && rightE x) with
  | true =>
    have e : [x].filter (fun x => addsE x && rightE x) = [x] := by simp only [List.filter_cons, h, if_true, List.filter_nil]
    rw [e, if_pos rfl]; rfl
  | false =>
    have e : [x].filter (fun x => addsE x && rightE x) = [] := by simp only [List.filter_cons, h, Bool.false_eq_true, if_false, List.filter_nil]
    rw [e, if_neg (by decide)]; simp
theorem dotsL_len (l : List Ev) : (dotsL l).length ≤ l.length := by unfold dotsL; rw [List.length_map]; exact List.length_filter_le ..
set_option maxHeartbeats 4000000 in
theorem dots20_spec (hS : Strict) {m : Mem} {v : Value} {R : List Rv} {E : List Ev} (hv : Va m v R) (hE : EvsIs m R E) (hl : E.length ≤ 100000) (ho : ∀ e ∈ E, e.2.2.length ≤ 100000) :
    Spec Tryz.prog 41 [.v v] m fun r m' => ∃ v' p, r = [.v v'] ∧ Split m' [p, m] ∧ Do p v' (dotsE E) := by
  have hlen := hE.len
  obtain ⟨av, cv, rfl⟩ := hv.shape
  refine en41 rfl (goY ?_)
  conv => whnf
  refine .mk (ι := Nat × Value) (fun i => R.length - i.1) (fun ⟨i, vo⟩ mm => i ≤ R.length ∧ ∃ p, Split mm [p, m] ∧ Do p vo (dotsL (E.take i))) (fun ⟨i, vo⟩ => [(3, .c (.v vo)), (6, .c (.v (.slice av R.length cv))), (7, .c (i64 R.length)), (8, .c (i64 i))]) (fun _ => []) (0, .slice none 0 0) ⟨by omega, emp, (Split.one m).addEmp, Do.nil _⟩ ?_ ?_
  · conv => whnf
    repeat (refine And.intro (by first | with_reducible rfl | exact congrArg (Value.int _) (wi (by omega) (by omega)) | exact wi (by omega) (by omega) | rfl) ?_; conv => whnf)
    first | exact trivial | exact fun _ _ h => h
  rintro ⟨i, vo⟩ mm ⟨hi, p, hs, hvo⟩
  conv => whnf
  refine ⟨fun h => ?_, fun h => ?_⟩
  · have h' := of_decide_eq_true h
    have hlt : i < R.length := by omega
    have hltE : i < E.length := by omega
    obtain ⟨bl, ol, c', hh, hg⟩ := hv.real hlt
    injection hh with hh1 _ hh3
    subst hh1
    clear hh3 c'
    have hm : Sub m mm := hs.sub (by simp)
    have hg := (hg i hlt).sub hm
    have hx := (hE.at hlt hltE).sub hm
    have hst : dotsL (E.take (i + 1)) = if addsE E[i] && rightE E[i] then dotsL (E.take i) ++ [E[i].2.1] else dotsL (E.take i) := by
      rw [List.take_succ_eq_append_getElem hltE, dotsL_snoc]
    have hdl := dotsL_len (E.take i)
    rw [List.length_take] at hdl
    have hyo := ho _ (List.getElem_mem hltE)
    generalize R[i] = x at hg hx
    generalize E[i] = y at hx hst hyo
    conv => whnf
    repeat (refine And.intro (by first | omega | (simp only [times]; omega)) ?_; conv => whnf)
    refine ⟨partsV x, ⟨rfl, rfl, rfl, rfl, rfl, rfl, trivial⟩, rfl, by simp only [times, Int.toNat_natCast]; exact hg, ?_⟩
    conv => whnf
    first | refine xretk (adds_spec (r := x) hx) ?_ | refine xret (adds_spec (r := x) hx) ?_
    conv => whnf
    cases ha : addsE y with
    | false =>
      rw [ha, Bool.false_and, if_neg (by decide)] at hst
      refine ⟨fun h => absurd h (by first | decide | simp), fun _ => ?_⟩
      conv => whnf
      refine ⟨(i + 1, vo), ⟨by omega, p, hs, by rw [hst]; exact hvo⟩, by simp only; omega, ?_⟩
      conv => whnf
      repeat (refine And.intro (by first | with_reducible rfl | (first | exact congrArg (Value.int _) (iadd (by omega))) | exact congrArg (Value.int _) (wi (by omega) (by omega)) | exact wi (by omega) (by omega) | rfl) ?_; conv => whnf)
      first | exact trivial | exact fun _ _ h => h
    | true =>
      refine ⟨fun _ => ?_, fun h => absurd h (by first | decide | simp)⟩
      conv => whnf
      first | refine xretk (right20_spec (r := x) hx (by omega)) ?_ | refine xret (right20_spec (r := x) hx (by omega)) ?_
      conv => whnf
      rw [ha, Bool.true_and] at hst
      cases hr : rightE y with
      | false =>
        rw [hr, if_neg (by decide)] at hst
        refine ⟨fun h => absurd h (by first | decide | simp), fun _ => ?_⟩
        conv => whnf
        refine ⟨(i + 1, vo), ⟨by omega, p, hs, by rw [hst]; exact hvo⟩, by simp only; omega, ?_⟩
        conv => whnf
        repeat (refine And.intro (by first | with_reducible rfl | (first | exact congrArg (Value.int _) (iadd (by omega))) | exact congrArg (Value.int _) (wi (by omega) (by omega)) | exact wi (by omega) (by omega) | rfl) ?_; conv => whnf)
        first | exact trivial | exact fun _ _ h => h
      | true =>
        rw [hr, if_pos rfl] at hst
        refine ⟨fun _ => ?_, fun h => absurd h (by first | decide | simp)⟩
        conv => whnf
        refine .mk _ (buildD1 (e := x.2.1)) ?_
        rintro _ _ ⟨b5, hb5, rfl, rfl⟩
        conv => whnf
        refine .mk _ (pushD (i := 0) hs rfl hb5 hvo (by omega)) ?_
        rintro _ m4 ⟨v', p', rfl, hs4, hv'⟩
        conv => whnf
        refine ⟨(i + 1, v'), ⟨by omega, p', hs4, by rw [hst, ← hx.d]; exact hv'⟩, by simp only; omega, ?_⟩
        conv => whnf
        repeat (refine And.intro (by first | with_reducible rfl | (first | exact congrArg (Value.int _) (iadd (by omega))) | exact congrArg (Value.int _) (wi (by omega) (by omega)) | exact wi (by omega) (by omega) | rfl) ?_; conv => whnf)
        first | exact trivial | exact fun _ _ h => h
  · have h' := of_decide_eq_false h
    obtain rfl : i = R.length := by omega
    rw [List.take_of_length_le (by omega)] at hvo
    have hdl := dotsL_len E
    conv => whnf
    refine xcall (ofD_spec hS (hvo.ea.sub (hs.sub (by simp))) (by omega)) ?_
    rintro _ m2 ⟨v', p', rfl, hs2, hv'⟩
    conv => whnf
    exact ⟨v', p', rfl, (Split.beside hs2 hs).erase 1, hv'⟩
theorem offE_snoc (l : List Ev) (x : Ev) : offE (l ++ [x]) = offE l ++ x.2.2 := by unfold offE; rw [List.flatMap_append]; simp
theorem offE_len (l : List Ev) (h : ∀ e ∈ l, e.2.2.length ≤ 100) : (offE l).length ≤ l.length * 100 := by
  induction l with
  | nil => simp [offE]
  | cons x r ih =>
    have h1 := ih fun e he => h e (by simp [he])
    have h2 := h x (by simp)
    unfold offE at *
    rw [List.flatMap_cons, List.length_append, List.length_cons, Nat.add_mul]; omega
set_option maxHeartbeats 4000000 in
theorem off20_spec {m : Mem} {v : Value} {R : List Rv} {E : List Ev} (hv : Va m v R) (hE : EvsIs m R E) (hl : E.length ≤ 10000) (ho : ∀ e ∈ E, e.2.2.length ≤ 100) :
    Spec Tryz.prog 39 [.v v] m fun r m' => ∃ v' p, r = [.v v'] ∧ Split m' [p, m] ∧ Do p v' (offE E) := by
  have hlen := hE.len
  obtain ⟨av, cv, rfl⟩ := hv.shape
  refine en39 rfl (goY ?_)
  conv => whnf
  refine .mk (ι := Nat × Value) (fun i => R.length - i.1) (fun ⟨i, vo⟩ mm => i ≤ R.length ∧ ∃ p, Split mm [p, m] ∧ Do p vo (offE (E.take i))) (fun ⟨i, vo⟩ => [(3, .c (.v vo)), (6, .c (.v (.slice av R.length cv))), (7, .c (i64 R.length)), (8, .c (i64 i))]) (fun _ => []) (0, .slice none 0 0) ⟨by omega, emp, (Split.one m).addEmp, Do.nil _⟩ ?_ ?_
  · conv => whnf
    repeat (refine And.intro (by first | with_reducible rfl | exact congrArg (Value.int _) (wi (by omega) (by omega)) | exact wi (by omega) (by omega) | rfl) ?_; conv => whnf)
    first | exact trivial | exact fun _ _ h => h
  rintro ⟨i, vo⟩ mm ⟨hi, p, hs, hvo⟩
  conv => whnf
  refine ⟨fun h => ?_, fun h => ?_⟩
  · have h' := of_decide_eq_true h
    have hlt : i < R.length := by omega
    have hltE : i < E.length := by omega
    obtain ⟨bl, ol, c', hh, hg⟩ := hv.real hlt
    injection hh with hh1 _ hh3
    subst hh1
    clear hh3 c'
    have hm : Sub m mm := hs.sub (by simp)
    have hg := (hg i hlt).sub hm
    have hx := (hE.at hlt hltE).sub hm
    have hst : offE (E.take (i + 1)) = offE (E.take i) ++ E[i].2.2 := by
      rw [List.take_succ_eq_append_getElem hltE, offE_snoc]
    have hdl := offE_len (E.take i) fun e he => ho e (List.mem_of_mem_take he)
    rw [List.length_take] at hdl
    have hyo := ho _ (List.getElem_mem hltE)
    generalize R[i] = x at hg hx
    generalize E[i] = y at hx hst hyo
    conv => whnf
    repeat (refine And.intro (by first | omega | (simp only [times]; omega)) ?_; conv => whnf)
    refine ⟨partsV x, ⟨rfl, rfl, rfl, rfl, rfl, rfl, trivial⟩, rfl, by simp only [times, Int.toNat_natCast]; exact hg, ?_⟩
    conv => whnf
    refine .mk _ (appendDat (i := 0) hs rfl hvo hx.off (by omega)) ?_
    rintro _ m4 ⟨v', p', rfl, hs4, hv'⟩
    conv => whnf
    refine ⟨(i + 1, v'), ⟨by omega, p', hs4, by rw [hst]; exact hv'⟩, by simp only; omega, ?_⟩
    conv => whnf
    repeat (refine And.intro (by first | with_reducible rfl | (first | exact congrArg (Value.int _) (iadd (by omega))) | exact congrArg (Value.int _) (wi (by omega) (by omega)) | exact wi (by omega) (by omega) | rfl) ?_; conv => whnf)
    first | exact trivial | exact fun _ _ h => h
  · have h' := of_decide_eq_false h
    obtain rfl : i = R.length := by omega
    rw [List.take_of_length_le (by omega)] at hvo
    conv => whnf
    exact ⟨vo, p, rfl, hs, hvo⟩
end Go.E.YtheiididldemmaaGreat

/-
  Contracts of model: clashes, whole lists.
-/
namespace Go.E.YtheiididldemmaaGreat
open Go.Proofs
set_option maxRecDepth 100000
theorem rangeV {m : Mem} {x : Rv} {b : Nat} (hb : m b = some (.cells (encV x).toArray 34)) : MRange m b 0 (encV x) := ⟨_, _, _, hb, fun j u hu => by rw [Nat.zero_add, List.getElem?_toArray]; exact hu⟩
theorem clash1_spec {m : Mem} {r x : Rv} {e y : Ev} {b : Nat} (hr : EvIs m r e) (hx : EvIs m x y) (hb : m b = some (.cells (encV x).toArray 34)) (hl : y.2.2.length ≤ 100000000) : Ret Tryz.prog 86 [Vv r, ptrV b] m [boolV (clashes y e)] := by
  have hm := rangeV hb
  refine en86 rfl (goY ?_)
  conv => whnf
  first | refine xretk (adds_spec (r := r) hr) ?_ | refine xret (adds_spec (r := r) hr) ?_
  conv => whnf
  cases ha : addsE e with
  | false =>
    refine ⟨fun h => absurd h (by first | decide | simp), fun _ => ?_⟩
    conv => whnf
    exact ⟨by simp [clashes, ha], rfl⟩
  | true =>
  refine ⟨fun _ => ?_, fun h => absurd h (by first | decide | simp)⟩
  conv => whnf
  refine ⟨[.one (.int .i64 x.2.1.1), .one (.int .u64 x.2.1.2)], ⟨rfl, rfl, trivial⟩, rfl, ?_, ?_⟩
  · obtain ⟨arr, t, fr, h1, h2⟩ := hm
    refine ⟨arr, t, fr, h1, fun j u hu => ?_⟩
    have hj : j = 0 ∨ j = 1 := by have := (List.getElem?_eq_some_iff.1 hu).1; simp [LB.cells, Seg.cells] at this; omega
    have := h2 (3 + j) u (by rcases hj with rfl | rfl <;> exact hu)
    rw [Nat.zero_add] at this
    exact this
  conv => whnf
  have heq := (eqPD x.2.1 r.2.1).trans (show decide (x.2.1 = r.2.1) = decide (y.2.1 = e.2.1) by rw [hr.d, hx.d])
  rw [heq]
  refine ⟨fun h => ?_, fun h => ?_⟩
  · conv => whnf
    refine ⟨partsV x, ⟨rfl, rfl, rfl, rfl, rfl, rfl, trivial⟩, rfl, hm, ?_⟩
    conv => whnf
    first | refine xretk (sameE_spec (r := x) (r' := r) hx hr hl) ?_ | refine xret (sameE_spec (r := x) (r' := r) hx hr hl) ?_
    conv => whnf
    exact ⟨by unfold clashes; rw [ha, h]; rfl, rfl⟩
  · conv => whnf
    exact ⟨by unfold clashes; rw [ha, h]; rfl, rfl⟩
theorem clashFrom_at : ∀ (E pre : List Ev) (i : Nat) (hi : i < E.length), (addsE E[i] && (pre ++ E.take i).any (clashes E[i])) = true → clashFrom pre E = true
  | [], _, _, hi, _ => by simp at hi
  | x :: r, pre, 0, _, h => by
    have h : (addsE x && pre.any (clashes x)) = true := by simpa using h
    rw [clashFrom, h]; rfl
  | x :: r, pre, i + 1, hi, h => by
    rw [clashFrom, clashFrom_at r (pre ++ [x]) i (by simpa using hi) (by simpa using h)]; simp
theorem clashFrom_none : ∀ (E pre : List Ev), (∀ i (hi : i < E.length), (addsE E[i] && (pre ++ E.take i).any (clashes E[i])) = false) → clashFrom pre E = false
  | [], _, _ => rfl
  | x :: r, pre, h => by
    have h0 : (addsE x && pre.any (clashes x)) = false := by have := h 0 (by simp); simpa using this
    rw [clashFrom, h0, Bool.false_or]
    refine clashFrom_none r _ fun i hi => ?_
    have := h (i + 1) (by simpa using hi)
    simpa using this
set_option maxHeartbeats 4000000 in
theorem clash20_spec {m : Mem} {v : Value} {R : List Rv} {E : List Ev} (hv : Va m v R) (hE : EvsIs m R E) (hl : E.length ≤ 100000) (ho : ∀ e ∈ E, e.2.2.length ≤ 100000) :
    Ret Tryz.prog 58 [.v v] m [boolV (clashFrom [] E)] := by
  refine Spec.ret (R := fun r m' => r = [boolV (clashFrom [] E)] ∧ Sub m m') ?_ fun _ _ h => h
  have hlen := hE.len
  obtain ⟨av, cv, rfl⟩ := hv.shape
  refine en58 rfl (goY ?_)
  conv => whnf
  refine .mk (ι := Nat) (fun i => R.length - i) (fun i mm => i ≤ R.length ∧ Sub m mm ∧ (∀ j (hj : j < E.length), j < i → (addsE E[j] && (E.take j).any (clashes E[j])) = false)) (fun i => [(0, .c (.v (.slice av R.length cv))), (5, .c (.v (.slice av R.length cv))), (6, .c (i64 R.length)), (7, .c (i64 i))]) (fun _ => []) 0 ⟨by omega, Sub.refl _, fun _ _ h => absurd h (by omega)⟩ ?_ ?_
  · conv => whnf
    repeat (refine And.intro (by first | with_reducible rfl | exact congrArg (Value.int _) (wi (by omega) (by omega)) | exact wi (by omega) (by omega) | rfl) ?_; conv => whnf)
    first | exact trivial | exact fun _ _ h => h
  rintro i mm ⟨hi, hm, hall⟩
  conv => whnf
  refine ⟨fun h => ?_, fun h => ?_⟩
  · have h' := of_decide_eq_true h
    have hlt : i < R.length := by omega
    have hltE : i < E.length := by omega
    have hv0 := hv
    obtain ⟨bl, ol, c', hh, hg⟩ := hv.real hlt
    injection hh with hh1 _ hh3
    subst hh1
    clear hh3 c'
    have hcap : R.length ≤ cv := by rcases lies_cap (s := 6) (by decide) (hv0.el (by omega)) with h | h <;> omega
    have hg := (hg i hlt).sub hm
    have hx := (hE.at hlt hltE).sub hm
    have hyo := ho _ (List.getElem_mem hltE)
    have hat := clashFrom_at E [] i hltE
    have hst : (addsE E[i] && (E.take i).any (clashes E[i])) = false → ∀ j (hj : j < E.length), j < i + 1 → (addsE E[j] && (E.take j).any (clashes E[j])) = false := fun h0 j hj hji => by
      by_cases e : j = i
      · subst e; exact h0
      · exact hall j hj (by omega)
    rw [List.nil_append] at hat
    generalize R[i] = x at hg hx
    generalize E[i] = y at hx hyo hat hst
    conv => whnf
    repeat (refine And.intro (by first | omega | (simp only [times]; omega)) ?_; conv => whnf)
    refine ⟨partsV x, ⟨rfl, rfl, rfl, rfl, rfl, rfl, trivial⟩, rfl, by simp only [times, Int.toNat_natCast]; exact hg, ?_⟩
    conv => whnf
    intro b hb
    conv => whnf
    refine ⟨_, _, _, Mem.set_same .., ⟨Nat.le_refl 6, noFr⟩, ?_⟩
    rw [storeAll (by rfl)]
    conv => whnf
    have hb2 : (mm.set b (.cells (LB.cells (partsV x)).toArray 34)) b = some (.cells (encV x).toArray 34) := Mem.set_same ..
    have hs2 := Mem.sub_set (.cells (LB.cells (partsV x)).toArray 34) hb
    generalize mm.set b (.cells (LB.cells (partsV x)).toArray 34) = m2 at hb2 hs2 ⊢
    have hm2 := hm.trans hs2
    have hx2 := hx.sub hs2
    refine ⟨partsV x, ⟨rfl, rfl, rfl, rfl, rfl, rfl, trivial⟩, rfl, rangeV hb2, ?_⟩
    conv => whnf
    first | refine xretk (adds_spec (r := x) hx2) ?_ | refine xret (adds_spec (r := x) hx2) ?_
    conv => whnf
    cases ha : addsE y with
    | false =>
      rw [ha, Bool.false_and] at hst
      refine ⟨fun h => absurd h (by first | decide | simp), fun _ => ?_⟩
      conv => whnf
      refine ⟨i + 1, ⟨by omega, hm2, hst rfl⟩, by omega, ?_⟩
      conv => whnf
      repeat (refine And.intro (by first | with_reducible rfl | (first | exact congrArg (Value.int _) (iadd (by omega))) | exact congrArg (Value.int _) (wi (by omega) (by omega)) | exact wi (by omega) (by omega) | rfl) ?_; conv => whnf)
      first | exact trivial | exact fun _ _ h => h
    | true =>
      rw [ha, Bool.true_and] at hat hst
      refine ⟨fun _ => ?_, fun h => absurd h (by first | decide | simp)⟩
      conv => whnf
      repeat (refine And.intro (by first | omega | (simp only [times]; omega)) ?_; conv => whnf)
      intro o' q1 q2
      obtain rfl : o' = ol := by
        by_cases h0 : cv = 0
        · exact q2 h0
        · have := q1 h0; simpa using this
      clear q1 q2
      conv => whnf
      refine .mk _ (makeFunc_spec (cs := [.pointer (some ⟨b, 0, none⟩)]) (by simp [Value.oneCell'])) ?_
      rintro _ _ ⟨rfl, rfl⟩
      conv => whnf
      have hEt := (hE.sub hm2).take i
      have hpre : Va m2 (.slice (some ⟨bl, o', none⟩) i cv) (R.take i) := .inl (encV_ok.pre ((hv0.sub hm2).el (by omega)) (by omega) (by omega))
      first | refine xretk (containsV1_spec (p := fun r => clashes y (evOf m2 r)) hpre (fun r hr => clash1_spec (hEt.2 r hr) hx2 hb2 (by omega)) (by rw [List.length_take]; omega)) ?_ | refine xret (containsV1_spec (p := fun r => clashes y (evOf m2 r)) hpre (fun r hr => clash1_spec (hEt.2 r hr) hx2 hb2 (by omega)) (by rw [List.length_take]; omega)) ?_
      conv => whnf
      have hany := hEt.any (clashes y)
      rw [hany]
      cases hc : (E.take i).any (clashes y) with
      | true =>
        refine ⟨fun _ => ?_, fun h => absurd h (by first | decide | simp)⟩
        conv => whnf
        exact ⟨by rw [hat hc], hm2⟩
      | false =>
        refine ⟨fun h => absurd h (by first | decide | simp), fun _ => ?_⟩
        conv => whnf
        refine ⟨i + 1, ⟨by omega, hm2, hst hc⟩, by omega, ?_⟩
        conv => whnf
        repeat (refine And.intro (by first | with_reducible rfl | (first | exact congrArg (Value.int _) (iadd (by omega))) | exact congrArg (Value.int _) (wi (by omega) (by omega)) | exact wi (by omega) (by omega) | rfl) ?_; conv => whnf)
        first | exact trivial | exact fun _ _ h => h
  · have h' := of_decide_eq_false h
    obtain rfl : i = R.length := by omega
    conv => whnf
    refine ⟨?_, hm⟩
    rw [clashFrom_none E [] fun j hj => by rw [List.nil_append]; exact hall j hj (by omega)]
theorem whole1_spec {m : Mem} {r : Rv} {e : Ev} (hr : EvIs m r e) (hl : e.2.2.length ≤ 100000000) : Ret Tryz.prog 57 [Vv r] m [boolV (!rightE e)] := by
  refine en57 rfl (goY ?_)
  conv => whnf
  first | refine xretk (right20_spec (r := r) hr hl) ?_ | refine xret (right20_spec (r := r) hr hl) ?_
  conv => whnf
  exact ⟨rfl, rfl⟩
theorem whole2_spec {m : Mem} {d : Dt} {b : Nat} {a : Option Addr} {c : Nat} {E : List Dt} (hb : m b = some (.cells #[.slice a E.length c] 32)) (hv : Da m (.slice a E.length c) E) (hl : E.length ≤ 100000000) : Ret Tryz.prog 60 [Dv d, ptrV b] m [boolV (!E.contains d)] := by
  refine en60 rfl (goY ?_)
  conv => whnf
  refine ⟨_, mcell_of hb rfl, rfl, ?_⟩
  conv => whnf
  first | refine xretk (has4_spec (d := d) hv hl) ?_ | refine xret (has4_spec (d := d) hv hl) ?_
  conv => whnf
  exact ⟨rfl, rfl⟩
theorem EvsIs.mem {m : Mem} {R : List Rv} {E : List Ev} (h : EvsIs m R E) {r : Rv} (hr : r ∈ R) : evOf m r ∈ E := by rw [h.1]; exact List.mem_map.2 ⟨r, hr, rfl⟩
theorem any_not (l : List Ev) (p : Ev → Bool) : (l.any fun x => !p x) = !l.all p := by
  rw [Bool.eq_iff_iff]; simp
theorem setF_len (l : List Dt) : (setF l).length ≤ 2000 := by unfold setF; rw [List.length_take]; omega
theorem setF_ok {l : List Dt} (h : ∀ d ∈ l, okD d) : ∀ d ∈ setF l, okD d := fun d hd => by
  unfold setF at hd
  have h1 := compD_mem.1 (List.mem_of_mem_take hd)
  unfold sortD at h1
  exact h d (List.mem_filter.1 (List.mem_mergeSort.1 h1)).1
theorem dotsE_ok {E : List Ev} (hI : ∀ e ∈ E, okD e.2.1) : ∀ d ∈ dotsE E, okD d := by
  refine setF_ok fun d hd => ?_
  unfold dotsL at hd
  obtain ⟨e, he, rfl⟩ := List.mem_map.1 hd
  exact hI e (List.mem_filter.1 he).1
set_option maxHeartbeats 4000000 in
theorem whole20_spec (hS : Strict) {m : Mem} {v : Value} {R : List Rv} {E : List Ev} (hv : Va m v R) (hE : EvsIs m R E) (hl : E.length ≤ 10000) (ho : ∀ e ∈ E, e.2.2.length ≤ 100) (hI : ∀ e ∈ E, okD e.2.1) :
    Ret Tryz.prog 38 [.v v] m [boolV (wholeE E)] := by
  refine Spec.ret (R := fun r m' => r = [boolV (wholeE E)] ∧ Sub m m') ?_ fun _ _ h => h
  have hlen := hE.len
  have ho' : ∀ e ∈ E, e.2.2.length ≤ 100000 := fun e he => by have := ho e he; omega
  have hw : ∀ r ∈ R, (evOf m r).2.2.length ≤ 100000000 := fun r hr => by have := ho _ (hE.mem hr); omega
  have hany := (hE.any fun e => !rightE e).trans (any_not E rightE)
  obtain ⟨av, cv, rfl⟩ := hv.shape
  refine en38 rfl (goY ?_)
  conv => whnf
  first | refine xretk (containsV0_spec (p := fun r => !rightE (evOf m r)) hv (fun r hr => whole1_spec (hE.2 r hr) (hw r hr)) (by omega)) ?_ | refine xret (containsV0_spec (p := fun r => !rightE (evOf m r)) hv (fun r hr => whole1_spec (hE.2 r hr) (hw r hr)) (by omega)) ?_
  conv => whnf
  rw [hany]
  cases h1 : E.all rightE with
  | false =>
    refine ⟨fun _ => ?_, fun h => absurd h (by first | decide | simp)⟩
    conv => whnf
    exact ⟨by unfold wholeE; rw [h1]; rfl, Sub.refl _⟩
  | true =>
  refine ⟨fun h => absurd h (by first | decide | simp), fun _ => ?_⟩
  conv => whnf
  first | refine xretk (clash20_spec hv hE (by omega) ho') ?_ | refine xret (clash20_spec hv hE (by omega) ho') ?_
  conv => whnf
  cases h2 : clashFrom [] E with
  | true =>
    refine ⟨fun _ => ?_, fun h => absurd h (by first | decide | simp)⟩
    conv => whnf
    exact ⟨by unfold wholeE; rw [h1, h2]; rfl, Sub.refl _⟩
  | false =>
  have hwe : wholeE E = (wholeD (dotsE E) && (offE E).all fun d => (dotsE E).contains d) := by unfold wholeE; rw [h1, h2]; rfl
  rw [hwe]
  refine ⟨fun h => absurd h (by first | decide | simp), fun _ => ?_⟩
  conv => whnf
  refine xcall (dots20_spec hS hv hE (by omega) ho') ?_
  rintro _ m3 ⟨v3, p3, rfl, hs3, hv3⟩
  conv => whnf
  obtain ⟨a3, c3, rfl⟩ := hv3.el.shape
  conv => whnf
  intro b hb
  conv => whnf
  refine ⟨_, _, _, Mem.set_same .., ⟨by decide, by simp⟩, ?_⟩
  rw [Mem.set_set]
  conv => whnf
  generalize hM : Mem.set m3 b _ = m4
  have hs4 : Split m4 [blk1 b (.cells #[.slice a3 (dotsE E).length c3] 32), p3, m] := by rw [← hM]; exact hs3.new hb _
  clear hM
  have hb4 : m4 b = some (.cells #[.slice a3 (dotsE E).length c3] 32) := hs4.get (a := blk1 b (.cells #[.slice a3 (dotsE E).length c3] 32)) (by simp) (blk1_same ..)
  have hv4 := hv3.ea.sub (hs4.sub (a := p3) (by simp))
  have hm4 : Sub m m4 := hs4.sub (by simp)
  have hsl := setF_len (dotsL E)
  have hsl : (dotsE E).length ≤ 2000 := hsl
  refine ⟨_, mcell_of hb4 rfl, rfl, ?_⟩
  conv => whnf
  first | refine xretk (whole4_spec hv4 (dotsE_ok hI) (by omega)) ?_ | refine xret (whole4_spec hv4 (dotsE_ok hI) (by omega)) ?_
  conv => whnf
  cases h3 : wholeD (dotsE E) with
  | false =>
    refine ⟨fun h => absurd h (by first | decide | simp), fun _ => ?_⟩
    conv => whnf
    exact ⟨rfl, hm4⟩
  | true =>
  refine ⟨fun _ => ?_, fun h => absurd h (by first | decide | simp)⟩
  conv => whnf
  refine xcall (off20_spec (hv.sub hm4) (hE.sub hm4) hl ho) ?_
  rintro _ m5 ⟨v5, p5, rfl, hs5', hv5⟩
  conv => whnf
  have hs5 := Split.beside hs5' hs4
  have hol := offE_len E ho
  refine .mk _ (makeFunc_spec (cs := [.pointer (some ⟨b, 0, none⟩)]) (by simp [Value.oneCell'])) ?_
  rintro _ _ ⟨rfl, rfl⟩
  conv => whnf
  have hb5 : m5 b = some (.cells #[.slice a3 (dotsE E).length c3] 32) := hs5.get (a := blk1 b (.cells #[.slice a3 (dotsE E).length c3] 32)) (by simp) (blk1_same ..)
  first | refine xretk (containsD1_spec (p := fun d => !(dotsE E).contains d) (hv5.ea.sub (hs5.sub (by simp))) (fun d _ => whole2_spec hb5 (hv3.ea.sub (hs5.sub (by simp))) (by omega)) (by omega)) ?_ | refine xret (containsD1_spec (p := fun d => !(dotsE E).contains d) (hv5.ea.sub (hs5.sub (by simp))) (fun d _ => whole2_spec hb5 (hv3.ea.sub (hs5.sub (by simp))) (by omega)) (by omega)) ?_
  conv => whnf
  refine ⟨?_, hs5.sub (by simp)⟩
  congr 3
  rw [Bool.eq_iff_iff]
  simp
end Go.E.YtheiididldemmaaGreat

/-
  Contracts of model: what a cart must be.
-/
namespace Go.E.YtheiididldemmaaGreat
open Go.Proofs
set_option maxRecDepth 100000
def isLive (gone : List Dt) (x : Ev) : Bool := addsE x && !gone.contains x.2.1
def liveOf (gone : List Dt) (U : List Ev) : List En := (U.filter (isLive gone)).map entE
theorem liveE_eq (E : List Ev) : liveE E = liveOf (offE E) (unionE E []) := rfl
theorem liveOf_snoc (gone : List Dt) (l : List Ev) (x : Ev) : liveOf gone (l ++ [x]) = if isLive gone x then liveOf gone l ++ [entE x] else liveOf gone l := by
  unfold liveOf
  rw [List.filter_append, List.map_append]
  cases h : isLive gone x with
  | true =>
    have e : [x].filter (isLive gone) = [x] := by simp only [List.filter_cons, h, if_true, List.filter_nil]
    rw [e, if_pos rfl]; rfl
  | false =>
    have e : [x].filter (isLive gone) = [] := by simp only [List.filter_cons, h, Bool.false_eq_true, if_false, List.filter_nil]
    rw [e, if_neg (by decide)]; simp
theorem liveOf_len (gone : List Dt) (l : List Ev) : (liveOf gone l).length ≤ l.length := by unfold liveOf; rw [List.length_map]; exact List.length_filter_le ..
theorem unionE_sub {E : List Ev} : ∀ e ∈ unionE E [], e ∈ E := by
  have key : ∀ (l out : List Ev), ∀ e ∈ unionFrom out l, e ∈ out ∨ e ∈ l := by
    intro l
    induction l with
    | nil => intro out e he; exact .inl he
    | cons x r ih =>
      intro out e he
      rw [unionFrom] at he
      split at he
      · rcases ih _ e he with h | h
        · exact .inl h
        · exact .inr (by simp [h])
      · rcases ih _ e he with h | h
        · rcases List.mem_append.1 h with h | h
          · exact .inl h
          · exact .inr (by simp [List.mem_singleton.1 h])
        · exact .inr (by simp [h])
  intro e he
  unfold unionE at he
  rw [List.append_nil] at he
  rcases key E [] e he with h | h
  · cases h
  · exact h
theorem unionE_len (E : List Ev) : (unionE E []).length ≤ E.length := by
  unfold unionE
  have := unionFrom_len (E ++ []) []
  simpa using this
set_option maxHeartbeats 8000000 in
theorem cart20_spec (hS : Strict) {m : Mem} {v : Value} {R : List Rv} {E : List Ev} (hv : Va m v R) (hE : EvsIs m R E) (hl : E.length ≤ 10000) (ho : ∀ e ∈ E, e.2.2.length ≤ 100) (hI : ∀ e ∈ E, okD e.2.1) :
    Spec Tryz.prog 23 [.v v] m fun r m' => ∃ a c p, r = [cartV (cartE E).1.1 a (cartE E).1.2.length c, i64 (cartE E).2] ∧ Split m' [p, m] ∧ No p (.slice a (cartE E).1.2.length c) (cartE E).1.2 := by
  have hlen := hE.len
  have ho' : ∀ e ∈ E, e.2.2.length ≤ 100000 := fun e he => by have := ho e he; omega
  obtain ⟨av, cv, rfl⟩ := hv.shape
  refine en23 rfl (goY ?_)
  conv => whnf
  first | refine xretk (whole20_spec hS hv hE hl ho hI) ?_ | refine xret (whole20_spec hS hv hE hl ho hI) ?_
  conv => whnf
  cases h1 : wholeE E with
  | false =>
    have hc : cartE E = ((zeros, []), 7) := by unfold cartE; rw [if_pos h1]
    rw [hc]
    refine ⟨fun _ => ?_, fun h => absurd h (by first | decide | simp)⟩
    conv => whnf
    exact ⟨none, 0, emp, rfl, (Split.one m).addEmp, No.nil _⟩
  | true =>
  refine ⟨fun h => absurd h (by first | decide | simp), fun _ => ?_⟩
  conv => whnf
  refine xcall (off20_spec hv hE hl ho) ?_
  rintro _ m1 ⟨vg, pg, rfl, hs1, hvg⟩
  conv => whnf
  have hm1 : Sub m m1 := hs1.sub (by simp)
  refine xcall (union20_spec (hv.sub hm1) (hE.sub hm1) (by omega) ho') ?_
  rintro _ m2 ⟨vu, pu, Ru, rfl, hs2, hvu, hRu⟩
  conv => whnf
  have hol := offE_len E ho
  have hul := unionE_len E
  have hlv : liveE E = liveOf (offE E) (unionE E []) := rfl
  have huI : ∀ e ∈ unionE E [], e ∈ E := unionE_sub
  generalize hU : unionE E [] = U at hRu hul hlv huI
  generalize hG : offE E = gone at hvg hol hlv
  have hRl := hRu.len
  obtain ⟨ag, cg, rfl⟩ := hvg.el.shape
  obtain ⟨au, cu, rfl⟩ := hvu.el.shape
  have hvg1 := hvg.ea.sub (hs1.sub (by simp) : Sub pg m1)
  conv => whnf
  refine .mk (ι := Nat × Value) (fun i => Ru.length - i.1) (fun ⟨i, vo⟩ mm => i ≤ Ru.length ∧ ∃ p, Split mm [p, pu, m1] ∧ No p vo (liveOf gone (U.take i))) (fun ⟨i, vo⟩ => [(0, .c (.v (.slice av R.length cv))), (2, .p 0 0), (4, .c (.v (.slice ag gone.length cg))), (5, .c (.v vo)), (15, .c (.v (.slice au Ru.length cu))), (16, .c (i64 Ru.length)), (17, .c (i64 i))]) (fun _ => [(41, [.ints .u64 8 zeros, .one (.slice none 0 0)])]) (0, .slice none 0 0) ⟨by omega, emp, hs2.addEmp, No.nil _⟩ ?_ ?_
  · conv => whnf
    repeat (refine And.intro (by first | with_reducible rfl | exact congrArg (Value.int _) (wi (by omega) (by omega)) | exact wi (by omega) (by omega) | rfl) ?_; conv => whnf)
    first | exact trivial | exact fun _ _ h => h
  rintro ⟨i, vo⟩ mm ⟨hi, p, hs, hvo⟩
  conv => whnf
  refine ⟨fun h => ?_, fun h => ?_⟩
  · have h' := of_decide_eq_true h
    have hlt : i < Ru.length := by omega
    have hltU : i < U.length := by omega
    obtain ⟨bl, ol, c', hh, hg⟩ := hvu.el.ea.real hlt
    injection hh with hh1 _ hh3
    subst hh1
    clear hh3 c'
    have hm1' : Sub m1 mm := hs.sub (by simp)
    have hg := (hg i hlt).sub (hs.sub (a := pu) (by simp))
    have hx := (hRu.at hlt hltU).sub hm1'
    have hst : liveOf gone (U.take (i + 1)) = if isLive gone U[i] then liveOf gone (U.take i) ++ [entE U[i]] else liveOf gone (U.take i) := by
      rw [List.take_succ_eq_append_getElem hltU, liveOf_snoc]
    have hll := liveOf_len gone (U.take i)
    rw [List.length_take] at hll
    generalize Ru[i] = x at hg hx
    generalize U[i] = y at hx hst
    conv => whnf
    repeat (refine And.intro (by first | omega | (simp only [times]; omega)) ?_; conv => whnf)
    refine ⟨partsV x, ⟨rfl, rfl, rfl, rfl, rfl, rfl, trivial⟩, rfl, by simp only [times, Int.toNat_natCast]; exact hg, ?_⟩
    conv => whnf
    first | refine xretk (adds_spec (r := x) hx) ?_ | refine xret (adds_spec (r := x) hx) ?_
    conv => whnf
    cases ha : addsE y with
    | false =>
      have hil : isLive gone y = false := by unfold isLive; rw [ha]; rfl
      rw [hil, if_neg (by decide)] at hst
      refine ⟨fun h => absurd h (by first | decide | simp), fun _ => ?_⟩
      conv => whnf
      refine ⟨(i + 1, vo), ⟨by omega, p, hs, by rw [hst]; exact hvo⟩, by simp only; omega, ?_⟩
      conv => whnf
      repeat (refine And.intro (by first | with_reducible rfl | (first | exact congrArg (Value.int _) (iadd (by omega))) | exact congrArg (Value.int _) (wi (by omega) (by omega)) | exact wi (by omega) (by omega) | rfl) ?_; conv => whnf)
      first | exact trivial | exact fun _ _ h => h
    | true =>
    refine ⟨fun _ => ?_, fun h => absurd h (by first | decide | simp)⟩
    conv => whnf
    first | refine xretk (has4_spec (d := x.2.1) (hvg1.sub hm1') (by omega)) ?_ | refine xret (has4_spec (d := x.2.1) (hvg1.sub hm1') (by omega)) ?_
    conv => whnf
    rw [hx.d]
    cases hc : gone.contains y.2.1 with
    | true =>
      have hil : isLive gone y = false := by unfold isLive; rw [ha, hc]; rfl
      rw [hil, if_neg (by decide)] at hst
      refine ⟨fun h => absurd h (by first | decide | simp), fun _ => ?_⟩
      conv => whnf
      refine ⟨(i + 1, vo), ⟨by omega, p, hs, by rw [hst]; exact hvo⟩, by simp only; omega, ?_⟩
      conv => whnf
      repeat (refine And.intro (by first | with_reducible rfl | (first | exact congrArg (Value.int _) (iadd (by omega))) | exact congrArg (Value.int _) (wi (by omega) (by omega)) | exact wi (by omega) (by omega) | rfl) ?_; conv => whnf)
      first | exact trivial | exact fun _ _ h => h
    | false =>
    have hil : isLive gone y = true := by unfold isLive; rw [ha, hc]; rfl
    rw [hil, if_pos rfl] at hst
    refine ⟨fun _ => ?_, fun h => absurd h (by first | decide | simp)⟩
    conv => whnf
    refine .mk _ (buildN1 (e := (x.1.2.1, x.2.1.1, x.2.1.2, x.1.2.2))) ?_
    rintro _ _ ⟨b5, hb5, rfl, rfl⟩
    conv => whnf
    refine .mk _ (pushN (i := 0) hs rfl hb5 hvo (by omega)) ?_
    rintro _ m4 ⟨v', p', rfl, hs4, hv'⟩
    conv => whnf
    have hent : ((x.1.2.1, x.2.1.1, x.2.1.2, x.1.2.2) : En) = entE y := by unfold entE; rw [hx.d, hx.k]
    rw [hent] at hv'
    refine ⟨(i + 1, v'), ⟨by omega, p', hs4, by rw [hst]; exact hv'⟩, by simp only; omega, ?_⟩
    conv => whnf
    repeat (refine And.intro (by first | with_reducible rfl | (first | exact congrArg (Value.int _) (iadd (by omega))) | exact congrArg (Value.int _) (wi (by omega) (by omega)) | exact wi (by omega) (by omega) | rfl) ?_; conv => whnf)
    first | exact trivial | exact fun _ _ h => h
  have h' := of_decide_eq_false h
  obtain rfl : i = Ru.length := by omega
  rw [List.take_of_length_le (by omega), ← hlv] at hvo
  have hll := liveOf_len gone U
  rw [← hlv] at hll
  have hc : cartE E = if 400 < (liveE E).length then ((zeros, []), 5) else ((spanD (dotsE E), sortE (liveE E)), 0) := by unfold cartE; rw [if_neg (by rw [h1]; decide)]
  rw [hc]
  clear hc h h'
  generalize liveE E = L at hvo hll
  obtain ⟨ao, co, rfl⟩ := hvo.el.shape
  conv => whnf
  refine ⟨fun h => ?_, fun h => ?_⟩
  · have hL : 400 < L.length := by have := of_decide_eq_true h; omega
    rw [if_pos hL]
    conv => whnf
    exact ⟨none, 0, emp, rfl, (hs.drop.drop.take (i := 0) rfl).addEmp.under (a := [emp]) (l := [pg, m]) hs1 |>.erase 1, No.nil _⟩
  have hL : ¬ 400 < L.length := by have := of_decide_eq_false h; omega
  rw [if_neg hL]
  clear h
  have hm : Sub m mm := hm1.trans (hs.sub (by simp))
  conv => whnf
  refine xcall (dots20_spec hS (hv.sub hm) (hE.sub hm) (by omega) ho') ?_
  rintro _ m5 ⟨vd, pd, rfl, hs5', hvd⟩
  conv => whnf
  have hs5 := Split.beside hs5' hs
  first | refine xretk (span4_spec (hvd.ea.sub (hs5.sub (by simp))) (dotsE_ok hI) (by have := setF_len (dotsL E); unfold dotsE; omega)) ?_ | refine xret (span4_spec (hvd.ea.sub (hs5.sub (by simp))) (dotsE_ok hI) (by have := setF_len (dotsL E); unfold dotsE; omega)) ?_
  conv => whnf
  refine xcall (orderE_spec hS (hvo.ea.sub (hs5.sub (by simp))) (by omega)) ?_
  rintro _ m6 ⟨vq, pq, rfl, hs6', hvq⟩
  conv => whnf
  have hs6 := Split.beside hs6' hs5
  obtain ⟨aq, cq, rfl⟩ := hvq.el.shape
  have e : List.take 0 (List.replicate 8 (0 : Int)) ++ (spanD (dotsE E) ++ List.drop (0 + 8) (List.replicate 8 0)) = spanD (dotsE E) := by simp
  rw [e]
  exact ⟨aq, cq, pq, rfl, (Split.under (a := [pq]) (((hs6.erase 1).erase 1).erase 1) hs1).erase 1, hvq⟩
end Go.E.YtheiididldemmaaGreat

/-
  Slices of maund/watch.told: that lie somewhere, that are owned; append, slices.Clone.
-/
namespace Go.E.YtheiididldemmaaGreat
open Go.Proofs
set_option maxRecDepth 100000
abbrev Wv (x : Rw) : CV := .a [.one (.int .i64 x.1), .one (.int .i64 x.2.1.1), .one (.int .i64 x.2.1.2.1), .one (.int .i64 x.2.1.2.2), .one (.int .i64 x.2.2.1.1), .one (.int .u64 x.2.2.1.2), .one (.slice x.2.2.2.1 x.2.2.2.2.1 x.2.2.2.2.2)]
theorem hWs : ∃ ti, tt.get 65 = some ti ∧ ti.k = .slice 59 := ⟨_, rfl, rfl⟩
theorem hWn : ∃ ti, tt.get 59 = some ti ∧ ti.size = 7 ∧ ti.bytes = 72 ∧ LB.cells ti.zero = encW (0, (0, 0, 0), (0, 0), (none, 0, 0)) := ⟨_, rfl, rfl, rfl, rfl⟩
def Wl (m : Mem) (v : Value) (E : List Rw) : Prop := Lies m 7 v (E.flatMap encW)
def Wo (m : Mem) (v : Value) (E : List Rw) : Prop := Own m 59 7 v (E.flatMap encW)
def Wa (m : Mem) (v : Value) (E : List Rw) : Prop := Wl m v E ∨ (E = [] ∧ ∃ a, v = .slice (some a) 0 0)
theorem Wl.sub {m m' : Mem} {v : Value} {E : List Rw} (h : Wl m v E) (hs : Sub m m') : Wl m' v E := Lies.sub h hs
theorem Wo.sub {m m' : Mem} {v : Value} {E : List Rw} (h : Wo m v E) (hs : Sub m m') : Wo m' v E := Own.sub h hs
theorem Wo.el {m : Mem} {v : Value} {E : List Rw} (h : Wo m v E) : Wl m v E := Own.lies h
theorem Wl.ea {m : Mem} {v : Value} {E : List Rw} (h : Wl m v E) : Wa m v E := .inl h
theorem Wo.ea {m : Mem} {v : Value} {E : List Rw} (h : Wo m v E) : Wa m v E := h.el.ea
theorem Wa.sub {m m' : Mem} {v : Value} {E : List Rw} (h : Wa m v E) (hs : Sub m m') : Wa m' v E := h.imp (·.sub hs) id
theorem Wo.nil (m : Mem) : Wo m (.slice none 0 0) [] := .inl ⟨rfl, rfl⟩
theorem Wa.nil (m : Mem) : Wa m (.slice none 0 0) [] := (Wo.nil m).ea
theorem Wl.shape {m : Mem} {v : Value} {E : List Rw} (h : Wl m v E) : ∃ a c, v = .slice a E.length c := encW_ok.shape h
theorem Wa.shape {m : Mem} {v : Value} {E : List Rw} (h : Wa m v E) : ∃ a c, v = .slice a E.length c := by
  rcases h with h | ⟨rfl, a, rfl⟩
  · exact h.shape
  · exact ⟨_, _, rfl⟩
theorem Wa.el {m : Mem} {v : Value} {E : List Rw} (h : Wa m v E) (hl : 0 < E.length) : Wl m v E := h.elim id fun h => by rw [h.1] at hl; simp at hl
theorem Wa.real {m : Mem} {v : Value} {E : List Rw} (h : Wa m v E) {i : Nat} (hi : i < E.length) : ∃ b o c, v = .slice (some ⟨b, o, none⟩) E.length c ∧ ∀ j (hj : j < E.length), MRange m b (o + j * 7) (encW E[j]) := by
  rcases h with h | ⟨rfl, _⟩
  · exact encW_ok.real h hi
  · simp at hi
theorem Wa.lenV {m : Mem} {v : Value} {E : List Rw} (h : Wa m v E) : lenV v = E.length := by obtain ⟨a, c, rfl⟩ := h.shape; rfl
theorem Wa.one {m : Mem} {v : Value} {E : List Rw} (h : Wa m v E) : v.oneCell' = true := by obtain ⟨a, c, rfl⟩ := h.shape; rfl
theorem Wa.gives {m : Mem} {v : Value} {E : List Rw} {e : TypeId} (h : Wa m v E) : Gives m 7 (.slice e) v (E.flatMap encW) := .inl ⟨e, rfl, h.imp id fun ⟨h1, h2⟩ => ⟨by rw [h1]; rfl, h2⟩⟩
theorem appendWat {m p : Mem} {ls : List Mem} {i : Nat} {v x : Value} {E news : List Rw} (hs : Split m ls) (hi : ls[i]? = some p) (hv : Wo p v E) (hg : Wa m x news) (hb : E.length + news.length ≤ 100000000) :
    PrimSpec Tryz.prog (.builtin .append [65, 65]) [.v v, .v x] m fun r m' => ∃ v' p', r = [.v v'] ∧ Split m' (ls.set i p') ∧ Wo p' v' (E ++ news) := by
  obtain ⟨ti, h1, h2⟩ := hWs
  obtain ⟨ei, g1, g2, g3, g4⟩ := hWn
  have e1 := hv.el.ea.lenV
  have e2 := hg.lenV
  have hv' : Own p 59 ei.size v (E.flatMap encW) := by rw [g2]; exact hv
  refine (append_at (news := news.flatMap encW) tt_ok h1 h2 g1 h1 (by rw [g4, g2]; rfl) hs hi hv' (by rw [h2, g2]; exact hg.gives) (by rw [e1, e2, g3]; omega) (by rw [e1, e2]; omega)).mono fun r m' ⟨v', p', q1, q2, q3⟩ => ⟨v', p', q1, q2, ?_⟩
  have := q3.own
  rw [g2, ← List.flatMap_append] at this
  exact this
theorem buildW0 {m : Mem} : PrimSpec Tryz.prog (.buildSlice 65 0 []) [] m fun r m' => ∃ b, m b = none ∧ r = [.v (.slice (some ⟨b, 0, none⟩) 0 0)] ∧ m' = m.set b (.cells #[] 59) := by
  obtain ⟨ti, h1, h2⟩ := hWs
  obtain ⟨ei, g1, g2, g3, g4⟩ := hWn
  exact buildSlice0_spec tt_ok h1 h2 g1
theorem buildW1 {m : Mem} {e : Rw} : PrimSpec Tryz.prog (.buildSlice 65 1 [0]) [Wv e] m fun r m' => ∃ b, m b = none ∧ r = [.v (.slice (some ⟨b, 0, none⟩) 1 1)] ∧ m' = m.set b (.cells (encW e).toArray 59) := by
  obtain ⟨ti, h1, h2⟩ := hWs
  obtain ⟨ei, g1, g2, g3, g4⟩ := hWn
  exact (buildSlice_spec (n := 1) tt_ok h1 h2 g1 rfl rfl (by simp [CV.cs, LB.cells, Seg.cells, g2]) (by omega) (by omega)).mono fun r m' ⟨b, e1, e2, e3⟩ => ⟨b, e1, e2, e3⟩
theorem Wo.blk1 {m : Mem} {b : Nat} {e : Rw} (h : m b = some (.cells (encW e).toArray 59)) : Wo m (.slice (some ⟨b, 0, none⟩) 1 1) [e] :=
  .inr ⟨b, 0, 1, 1, _, rfl, h, rfl, Nat.le_refl _, Nat.le_refl _, fun j u hu => by rw [Nat.zero_add, List.getElem?_toArray]; simpa using hu, encW_ok.fone⟩
theorem Wo.blk0 {m : Mem} {b : Nat} (h : m b = some (.cells #[] 59)) : Wo m (.slice (some ⟨b, 0, none⟩) 0 0) [] :=
  .inr ⟨b, 0, 0, 0, _, rfl, h, rfl, Nat.le_refl _, Nat.le_refl _, fun j u hu => by simp at hu, encW_ok.fone⟩
theorem pushW {m p : Mem} {ls : List Mem} {i b' : Nat} {x : Rw} {y : Value} {E : List Rw} (hs : Split m ls) (hi : ls[i]? = some p) (hb : m b' = none) (hy : Wo p y E) (hl : E.length ≤ 10000000) :
    PrimSpec Tryz.prog (.builtin .append [65, 65]) [.v y, .v (.slice (some ⟨b', 0, none⟩) 1 1)] (m.set b' (.cells (encW x).toArray 59)) fun r m' => ∃ y' p', r = [.v y'] ∧ Split m' (ls.set i p') ∧ Wo p' y' (E ++ [x]) := by
  have hs1 := hs.new hb (.cells (encW x).toArray 59)
  exact (appendWat (i := i + 1) hs1 (by simpa using hi) hy (Wo.blk1 (Mem.set_same ..)).el.ea (by simp; omega)).mono fun r m' ⟨v', p', h1, h2, h3⟩ => ⟨v', p', h1, h2.erase 0, h3⟩
end Go.E.YtheiididldemmaaGreat

/-
  Contracts of watch: small tests; what a cart knows.
-/
namespace Go.E.YtheiididldemmaaGreat
open Go.Proofs
set_option maxRecDepth 100000
theorem rangeBlk {m : Mem} {b : Nat} {l : List Value} {t : TypeId} {fr : Nat × Nat} (hb : m b = some (.cells l.toArray t fr)) : MRange m b 0 l := ⟨_, _, _, hb, fun j u hu => by rw [Nat.zero_add, List.getElem?_toArray]; exact hu⟩
theorem MRange.part {m : Mem} {b o : Nat} {l k : List Value} {j : Nat} (h : MRange m b o l) (hk : ∀ i u, k[i]? = some u → l[j + i]? = some u) : MRange m b (o + j) k := by
  obtain ⟨arr, t, fr, h1, h2⟩ := h
  exact ⟨arr, t, fr, h1, fun i u hu => by rw [Nat.add_assoc]; exact h2 _ _ (hk i u hu)⟩
theorem rangeVd {m : Mem} {x : Rv} {b : Nat} (hb : m b = some (.cells (encV x).toArray 34)) : MRange m b 3 (encD x.2.1) := by
  have := MRange.part (j := 3) (k := encD x.2.1) (rangeV hb) fun i u hu => by
    have hi : i = 0 ∨ i = 1 := by have := (List.getElem?_eq_some_iff.1 hu).1; simp [encD] at this; omega
    rcases hi with rfl | rfl <;> exact hu
  simpa using this
theorem wadds_spec {m : Mem} {r : Rv} {e : Ev} (hr : EvIs m r e) : Ret Tryz.prog 16 [Vv r] m [boolV (rightD e.2.1)] := by
  obtain ⟨a, c, rfl, ho⟩ := hr.split
  obtain ⟨⟨k1, k2, k3⟩, ⟨d1, d2⟩, eo⟩ := e
  refine en16 rfl (goY ?_)
  conv => whnf
  first | refine xretk (right3_spec (n := d1) (k := d2)) ?_ | refine xret (right3_spec (n := d1) (k := d2)) ?_
  conv => whnf
  exact ⟨rfl, rfl⟩
def wclash (e y : Ev) : Bool := rightD e.2.1 && decide (y.2.1 = e.2.1) && !decide (y = e)
theorem wrote1_spec {m : Mem} {t : Rw} {x : Rv} {e y : Ev} {b : Nat} (ht : EvIs m t.2 y) (hx : EvIs m x e) (hb : m b = some (.cells (encV x).toArray 34)) (hl : y.2.2.length ≤ 100000000) : Ret Tryz.prog 15 [Wv t, ptrV b] m [boolV (wclash e y)] := by
  have hm := rangeV hb
  refine en15 rfl (goY ?_)
  conv => whnf
  refine ⟨partsV x, ⟨rfl, rfl, rfl, rfl, rfl, rfl, trivial⟩, rfl, hm, ?_⟩
  conv => whnf
  first | refine xretk (wadds_spec (r := x) hx) ?_ | refine xret (wadds_spec (r := x) hx) ?_
  conv => whnf
  cases ha : rightD e.2.1 with
  | false =>
    refine ⟨fun h => absurd h (by first | decide | simp), fun _ => ?_⟩
    conv => whnf
    exact ⟨by unfold wclash; rw [ha]; rfl, rfl⟩
  | true =>
  refine ⟨fun _ => ?_, fun h => absurd h (by first | decide | simp)⟩
  conv => whnf
  refine ⟨[.one (.int .i64 x.2.1.1), .one (.int .u64 x.2.1.2)], ⟨rfl, rfl, trivial⟩, rfl, rangeVd hb, ?_⟩
  conv => whnf
  have heq := (eqPD t.2.2.1 x.2.1).trans (show decide (t.2.2.1 = x.2.1) = decide (y.2.1 = e.2.1) by rw [ht.d, hx.d])
  rw [heq]
  refine ⟨fun h => ?_, fun h => ?_⟩
  · conv => whnf
    refine ⟨partsV x, ⟨rfl, rfl, rfl, rfl, rfl, rfl, trivial⟩, rfl, hm, ?_⟩
    conv => whnf
    first | refine xretk (sameE_spec (r := t.2) (r' := x) ht hx hl) ?_ | refine xret (sameE_spec (r := t.2) (r' := x) ht hx hl) ?_
    conv => whnf
    exact ⟨by unfold wclash; rw [ha, h]; rfl, rfl⟩
  · conv => whnf
    exact ⟨by unfold wclash; rw [ha, h]; rfl, rfl⟩
/-- a cart as it lies in a block -/
abbrev cartB (u : List Int) (a : Option Addr) (n c : Nat) : LB := [.ints .u64 8 u, .one (.slice a n c)]
theorem knows1_spec {m : Mem} {u : List Int} {a : Option Addr} {c : Nat} {E : List En} {d : Dt} {b : Nat} (hb : m b = some (.cells (LB.cells (cartB u a E.length c)).toArray 41)) (hu : u.length = 8) (hv : Na m (.slice a E.length c) E) (hd : I d.1) (hl : E.length ≤ 100000000) :
    Ret Tryz.prog 47 [Dv d, ptrV b] m [boolV (!isOff (u, E) d)] := by
  refine en47 rfl (goY ?_)
  conv => whnf
  refine ⟨cartB u a E.length c, ⟨hu, rfl, trivial⟩, rfl, rangeBlk hb, ?_⟩
  conv => whnf
  first | refine xretk (isOff_spec (u := u) (d := d) hv hd hl) ?_ | refine xret (isOff_spec (u := u) (d := d) hv hd hl) ?_
  conv => whnf
  exact ⟨rfl, rfl⟩
theorem any_notD (l : List Dt) (p : Dt → Bool) : (l.any fun x => !p x) = !l.all p := by
  rw [Bool.eq_iff_iff]; simp
set_option maxHeartbeats 2000000 in
theorem knows35_spec {m : Mem} {u : List Int} {a : Option Addr} {c : Nat} {E : List En} {r : Rv} {e : Ev} (hu : u.length = 8) (hv : Na m (.slice a E.length c) E) (hr : EvIs m r e) (hI : I e.2.1.1 ∧ ∀ d ∈ e.2.2, I d.1) (hl : E.length ≤ 100000000) (ho : e.2.2.length ≤ 100000000) :
    Ret Tryz.prog 28 [cartV u a E.length c, Vv r] m [boolV (knowsE (u, E) e)] := by
  refine Spec.ret (R := fun r m' => r = [boolV (knowsE (u, E) e)] ∧ Sub m m') ?_ fun _ _ h => h
  have hoff := hr.off
  have hn := hr.len
  refine en28 rfl (goY ?_)
  conv => whnf
  intro b hb
  conv => whnf
  have hs := Mem.sub_set (.cells (LB.cells (cartB u a E.length c)).toArray 41) hb
  have hb2 : (m.set b (.cells (LB.cells (cartB u a E.length c)).toArray 41)) b = some (.cells (LB.cells (cartB u a E.length c)).toArray 41) := Mem.set_same ..
  first | refine xretk (wadds_spec (hr.sub hs)) ?_ | refine xret (wadds_spec (hr.sub hs)) ?_
  conv => whnf
  have hk : knowsE (u, E) e = if rightD e.2.1 then hasV u e.2.1 else decide (0 < e.2.2.length) && e.2.2.all fun d => isOff (u, E) d := rfl
  rw [hk]
  clear hk
  cases ha : rightD e.2.1 with
  | true =>
    rw [if_pos rfl]
    refine ⟨fun _ => ?_, fun h => absurd h (by first | decide | simp)⟩
    conv => whnf
    refine ⟨[.ints .u64 8 u], ⟨hu, trivial⟩, rfl, MRange.mid [] [.one (.slice a E.length c)] hb2 rfl, ?_⟩
    conv => whnf
    first | refine xretk (has_spec (v := u) (n := r.2.1.1) (k := r.2.1.2) (by rw [hr.d]; exact hI.1)) ?_ | refine xret (has_spec (v := u) (n := r.2.1.1) (k := r.2.1.2) (by rw [hr.d]; exact hI.1)) ?_
    conv => whnf
    exact ⟨by rw [hr.d]; rfl, hs⟩
  | false =>
    rw [if_neg (by decide)]
    refine ⟨fun h => absurd h (by first | decide | simp), fun _ => ?_⟩
    conv => whnf
    refine .mk _ (makeFunc_spec (cs := [.pointer (some ⟨b, 0, none⟩)]) (by simp [Value.oneCell'])) ?_
    rintro _ _ ⟨rfl, rfl⟩
    conv => whnf
    refine ⟨fun h => ?_, fun h => ?_⟩
    · have h0 : (0 : Int) < (r.2.2.2.1 : Int) := of_decide_eq_true h
      have h0 : 0 < e.2.2.length := by omega
      rw [decide_eq_true h0]
      conv => whnf
      first | refine xretk (containsD1_spec (p := fun d => !isOff (u, E) d) (hoff.sub hs) (fun d hd => knows1_spec (u := u) hb2 hu (hv.sub hs) (hI.2 d hd) hl) ho) ?_ | refine xret (containsD1_spec (p := fun d => !isOff (u, E) d) (hoff.sub hs) (fun d hd => knows1_spec (u := u) hb2 hu (hv.sub hs) (hI.2 d hd) hl) ho) ?_
      conv => whnf
      rw [any_notD]
      exact ⟨by simp, hs⟩
    · have h0 : ¬ (0 : Int) < (r.2.2.2.1 : Int) := of_decide_eq_false h
      have h0 : ¬ 0 < e.2.2.length := by omega
      rw [decide_eq_false h0]
      conv => whnf
      exact ⟨rfl, hs⟩
theorem knowsC_spec {m : Mem} {u : List Int} {a : Option Addr} {c : Nat} {E : List En} {r : Rv} {e : Ev} {b : Nat} (hb : m b = some (.cells (LB.cells (cartB u a E.length c)).toArray 41)) (hu : u.length = 8) (hv : Na m (.slice a E.length c) E) (hr : EvIs m r e) (hI : I e.2.1.1 ∧ ∀ d ∈ e.2.2, I d.1) (hl : E.length ≤ 100000000) (ho : e.2.2.length ≤ 100000000) :
    Ret Tryz.prog 27 [Vv r, ptrV b] m [boolV (!knowsE (u, E) e)] := by
  refine en27 rfl (goY ?_)
  conv => whnf
  refine ⟨cartB u a E.length c, ⟨hu, rfl, trivial⟩, rfl, rangeBlk hb, ?_⟩
  conv => whnf
  first | refine xretk (knows35_spec (r := r) hu hv hr hI hl ho) ?_ | refine xret (knows35_spec (r := r) hu hv hr hI hl ho) ?_
  conv => whnf
  exact ⟨rfl, rfl⟩
theorem made_spec {m : Mem} {b : Nat} {bm : Nat} (hb : m b = some (.cells #[.map (some bm)] 57)) : Ret Tryz.prog 18 [ptrV b] m [boolV true] := by
  refine en18 rfl (goY ?_)
  conv => whnf
  refine ⟨fun _ => ?_, fun h => absurd h (by first | decide | simp)⟩
  conv => whnf
  refine ⟨_, mcell_of hb rfl, rfl, ?_⟩
  conv => whnf
  exact ⟨rfl, rfl⟩
end Go.E.YtheiididldemmaaGreat

/-
  Maps: made, looked up, set, deleted from, ranged over.
-/
namespace Go.E
/-- an entry of a map: a key, what it leads to, when it was born -/
structure Men (α : Type) where
  k : α
  v : CV
  b : Nat
def Men.entry {α : Type} (enc : α → Value) (e : Men α) : MapEntry := ⟨enc e.k, e.v.val, e.b⟩
def mapO {α : Type} (enc : α → Value) (es : List (Men α)) (clock : Nat) : Obj := .map (es.map (Men.entry enc)).toArray clock
/-- keys that are compared at once -/
structure KeyOk {α : Type} [DecidableEq α] (enc : α → Value) (d : TypeDesc) : Prop where
  same : ∀ a b, Instr.sameNow d (enc a) (enc b) = some (decide (a = b))
  isK : ∀ a, MapKept.IsKey d (enc a)
  bits : ∀ a, Instr.sameBits 10000 (enc a) (enc a) = true
  one : ∀ a, (enc a).oneCell' = true
theorem bytesBeq (a b : ByteArray) : (a == b) = decide (a = b) := by
  rcases a with ⟨a⟩; rcases b with ⟨b⟩
  have h : ((⟨a⟩ : ByteArray) == ⟨b⟩) = (a == b) := rfl
  rw [h]
  by_cases e : a = b
  · subst e; simp
  · have : ¬ (⟨a⟩ : ByteArray) = ⟨b⟩ := fun h => e (by injection h)
    rw [decide_eq_false this]; exact beq_false_of_ne e
theorem strKey : KeyOk Value.string .string :=
  ⟨fun a b => by simp [Instr.sameNow, bytesBeq], fun _ => trivial, fun a => by simp [Instr.sameBits, bytesBeq], fun _ => rfl⟩
theorem intKey (k : IntKind) : KeyOk (Value.int k) (.int k) :=
  ⟨fun a b => by by_cases h : a = b <;> simp [Instr.sameNow, h], fun _ => rfl, fun a => by simp [Instr.sameBits], fun _ => rfl⟩
section
variable {α : Type} [DecidableEq α]
def findM (k : α) (es : List (Men α)) : Option CV := (es.find? fun e => decide (k = e.k)).map (·.v)
def setM (k : α) (v : CV) (clock : Nat) : List (Men α) → List (Men α)
  | [] => [⟨k, v, clock⟩]
  | e :: es => if k = e.k then ⟨k, v, e.b⟩ :: es else e :: setM k v clock es
def clockM (k : α) (clock : Nat) (es : List (Men α)) : Nat := if (findM k es).isSome then clock else clock + 1
def delM (k : α) : List (Men α) → List (Men α)
  | [] => []
  | e :: es => if k = e.k then es else e :: delM k es
theorem findNow_eq {enc : α → Value} {d : TypeDesc} (hk : KeyOk enc d) (k : α) : ∀ (es : List (Men α)) (i : Nat),
    Instr.findNow d (enc k) (es.map (Men.entry enc)) i = some (match es.findIdx? fun e => decide (k = e.k) with
      | some j => some (i + j, ((es[j]?).map fun e => e.v.val).getD undef)
      | none => none)
  | [], i => rfl
  | e :: es, i => by
    simp only [List.map_cons, Instr.findNow, Men.entry, hk.same, List.findIdx?_cons]
    by_cases h : k = e.k
    · simp [h]
    · have ih := findNow_eq hk k es (i + 1)
      simp only [h, decide_false, if_false, Bool.false_eq_true]
      rw [ih]
      cases es.findIdx? fun e => decide (k = e.k) with
      | none => rfl
      | some j => simp only [List.getElem?_cons_succ]; congr 2; rw [Prod.mk.injEq]; exact ⟨by simp only; omega, rfl⟩
theorem find_idx (k : α) : ∀ (es : List (Men α)), (match es.findIdx? fun e => decide (k = e.k) with
    | some j => ∃ e, es[j]? = some e ∧ findM k es = some e.v ∧ e.k = k
    | none => findM k es = none)
  | [] => rfl
  | e :: es => by
    rw [List.findIdx?_cons]
    by_cases h : k = e.k
    · simp only [h, decide_true, cond_true, if_true]
      exact ⟨e, rfl, by simp [findM], rfl⟩
    · have ih := find_idx k es
      simp only [h, decide_false, if_false, Bool.false_eq_true]
      have hf : findM k (e :: es) = findM k es := by simp [findM, h]
      rw [hf]
      cases hx : es.findIdx? fun e => decide (k = e.k) with
      | none => rw [hx] at ih; exact ih
      | some j => rw [hx] at ih; exact ih
theorem set_modify (enc : α → Value) (k : α) (v : CV) (clock : Nat) : ∀ (es : List (Men α)), (match es.findIdx? fun e => decide (k = e.k) with
    | some j => (es.map (Men.entry enc)).modify j (fun e => { e with key := enc k, val := v.val }) = (setM k v clock es).map (Men.entry enc)
    | none => es.map (Men.entry enc) ++ [⟨enc k, v.val, clock⟩] = (setM k v clock es).map (Men.entry enc))
  | [] => rfl
  | e :: es => by
    rw [List.findIdx?_cons]
    by_cases h : k = e.k
    · subst h
      simp [setM, Men.entry]
    · have ih := set_modify enc k v clock es
      simp only [h, decide_false, if_false, Bool.false_eq_true]
      cases hx : es.findIdx? fun e => decide (k = e.k) with
      | none => rw [hx] at ih; simp only [Option.map_none, List.map_cons, setM, h, if_false, List.cons_append] at ih ⊢; rw [ih]
      | some j => rw [hx] at ih; simp only [Option.map_some, List.map_cons, setM, h, if_false, List.modify_succ_cons] at ih ⊢; rw [ih]
theorem del_erase (enc : α → Value) (k : α) : ∀ (es : List (Men α)), (match es.findIdx? fun e => decide (k = e.k) with
    | some j => (es.map (Men.entry enc)).eraseIdx j = (delM k es).map (Men.entry enc)
    | none => es.map (Men.entry enc) = (delM k es).map (Men.entry enc))
  | [] => rfl
  | e :: es => by
    rw [List.findIdx?_cons]
    by_cases h : k = e.k
    · subst h
      simp [delM]
    · have ih := del_erase enc k es
      simp only [h, decide_false, if_false, Bool.false_eq_true]
      cases hx : es.findIdx? fun e => decide (k = e.k) with
      | none => rw [hx] at ih; simp only [Option.map_none, List.map_cons, delM, h, if_false] at ih ⊢; rw [ih]
      | some j => rw [hx] at ih; simp only [Option.map_some, List.map_cons, delM, h, if_false, List.eraseIdx_cons_succ] at ih ⊢; rw [ih]
end
section
variable {P : Program} {T : Tab} {α : Type} [DecidableEq α] {enc : α → Value}
theorem run_checkKey' {w : World} {kt : TypeId} {d : TypeDesc} {k : Value} (hd : P.underlying kt = some d) (hk : MapKept.IsKey d k) (e : Bool) : (Instr.checkKey e 10000 kt k).run P w = .ok () w := MapKept.run_checkKey hd hk e 9999
omit [DecidableEq α] in
theorem makeMap_spec {t : TypeId} {m : Mem} : PrimSpec P (.makeMap t) [] m fun r m' => ∃ b, m b = none ∧ r = [.v (.map (some b))] ∧ m' = m.set b (mapO enc [] 0) := by
  intro _ ty W hW
  refine ⟨[.v (.map (some W.heap.size))], _, _, ?_, (by intro y hy; simp at hy; subst hy; rfl), ⟨W.heap.size, hW.none (Nat.le_refl _), rfl, rfl⟩, (After.refl hW).alloc (mapO enc [] 0)⟩
  simp [Prim.run, Prim.out, Prim.tup, resVal, CV.val, Instr.makeMap, mapO, newObj, Sem.run, Result.andThen]
theorem run_find {d : TypeDesc} {kt : TypeId} (hk : KeyOk enc d) (hd : P.underlying kt = some d) (w : World) (k : α) (es : List (Men α)) :
    (Instr.findKey kt (enc k) (es.map (Men.entry enc))).run P w = .ok (match es.findIdx? fun e => decide (k = e.k) with
      | some j => some (j, ((es[j]?).map fun e => e.v.val).getD undef)
      | none => none) w := by
  have := findNow_eq hk k es 0
  simp only [Nat.zero_add] at this
  exact MapKept.run_findKey hd this
theorem lookup_spec {mt kt et : TypeId} {d : TypeDesc} (hk : KeyOk enc d) (hm : P.underlying mt = some (.map kt et)) (hd : P.underlying kt = some d) {z : CV} (hz : (P.info? et).bind (·.zero) = some z.val) (hzok : z.ok) {m : Mem} {b clock : Nat} {es : List (Men α)} {k : α}
    (hb : m b = some (mapO enc es clock)) (hes : ∀ e ∈ es, e.v.ok) (ok : Bool) :
    PrimSpec P (.lookup mt ok) [.v (.map (some b)), .v (enc k)] m fun r m' => r = (if ok then [(findM k es).getD z, .v (.bool (findM k es).isSome)] else [(findM k es).getD z]) ∧ m = m' := by
  intro _ ty W hW
  have hWb := hW _ _ hb
  have hzv : (zeroValue et).run P W = .ok z.val W := by
    cases hi : P.info? et with
    | none => simp [hi] at hz
    | some i => simp [hi] at hz; simp [zeroValue, typeInfo, hi, hz]
  have hf := run_find hk hd W k es
  have hx := find_idx k es
  have hck : ∀ e, (Instr.checkKey e 10000 kt (enc k)).run P W = .ok () W := fun e => run_checkKey' hd (hk.isK k) e
  have hvok : ((findM k es).getD z).ok := by
    unfold findM
    cases hq : es.find? (fun e => decide (k = e.k)) with
    | none => exact hzok
    | some e => exact hes e (List.mem_of_find?_eq_some hq)
  refine ⟨_, m, W, ?_, ?_, ⟨rfl, rfl⟩, After.refl hW⟩
  · cases hi : es.findIdx? fun e => decide (k = e.k) with
    | none =>
      rw [hi] at hx hf
      simp only at hx hf
      rw [hx]
      cases ok <;> simp [Prim.run, Prim.out, Prim.tup, CV.val, resVal, Instr.lookup, run_underlying hm, MapKept.run_getObj_map hWb, hck, hf, hzv, mapO] <;> rfl
    | some j =>
      rw [hi] at hx hf
      obtain ⟨e, h1, h2, _⟩ := hx
      simp only [h1, Option.map_some, Option.getD_some] at hf
      rw [h2]
      cases ok <;> simp [Prim.run, Prim.out, Prim.tup, CV.val, resVal, Instr.lookup, run_underlying hm, MapKept.run_getObj_map hWb, hck, hf, mapO] <;> rfl
  · intro y hy
    cases ok
    · simp at hy; subst hy; exact hvok
    · simp at hy
      rcases hy with rfl | rfl
      · exact hvok
      · rfl
theorem After.put {m : Mem} {W : World} (hW : Over m W) {b : Nat} {o : Obj} (hb : m b = some o) (o' : Obj) : After m W (m.set b o') { W with heap := W.heap.setIfInBounds b o' } := by
  obtain ⟨h1, h2⟩ := MapKept.heap_set (o' := o') (hW _ _ hb)
  exact After.setObj hW hb (by simp) h1 h2
theorem mapSet_spec {mt kt et : TypeId} {d : TypeDesc} (hk : KeyOk enc d) (hm : P.underlying mt = some (.map kt et)) (hd : P.underlying kt = some d) {m : Mem} {b clock : Nat} {es : List (Men α)} {k : α} {v : CV} (hb : m b = some (mapO enc es clock)) :
    PrimSpec P (.mapUpdate mt) [.v (.map (some b)), .v (enc k), v] m fun r m' => m' = m.set b (mapO enc (setM k v clock es) (clockM k clock es)) := by
  intro _ ty W hW
  have hWb := hW _ _ hb
  have hf := run_find hk hd W k es
  have hx := find_idx k es
  have hset := set_modify enc k v clock es
  have hck : (Instr.checkKey false 10000 kt (enc k)).run P W = .ok () W := run_checkKey' hd (hk.isK k) false
  have ha : List.map CV.val [.v (.map (some b)), .v (enc k), v] = [.map (some b), enc k, v.val] := rfl
  rw [ha]
  cases hi : es.findIdx? fun e => decide (k = e.k) with
  | none =>
    rw [hi] at hx hf hset
    simp only at hx hf hset
    refine ⟨[], _, _, ?_, (by intro y hy; cases hy), rfl, After.put hW hb _⟩
    have hc : clockM k clock es = clock + 1 := by simp [clockM, hx]
    have he : (es.map (Men.entry enc)).toArray.push ⟨enc k, v.val, clock⟩ = ((setM k v clock es).map (Men.entry enc)).toArray := by
      rw [← hset]; simp
    have hr : (Instr.mapUpdate mt (.map (some b)) (enc k) v.val).run P W = .ok () { W with heap := W.heap.setIfInBounds b (mapO enc (setM k v clock es) (clockM k clock es)) } := by
      simp only [Instr.mapUpdate, Sem.run_bind, run_underlying hm, MapKept.run_getObj_map hWb, hck, hf, Result.andThen_ok, List.toList_toArray, he, hc, MapKept.run_setObj_map _ hWb, mapO]
    simp only [Prim.run, Sem.run_bind, hr, Result.andThen_ok, Sem.run_pure]
    rfl
  | some j =>
    rw [hi] at hx hf hset
    obtain ⟨e, h1, h2, h3⟩ := hx
    simp only [h1, Option.map_some, Option.getD_some] at hf hset
    refine ⟨[], _, _, ?_, (by intro y hy; cases hy), rfl, After.put hW hb _⟩
    have hc : clockM k clock es = clock := by simp [clockM, h2]
    have hkey : ((((es.map (Men.entry enc)).toArray[j]?).map (·.key)).getD (enc k)) = enc k := by
      simp [h1, Men.entry, h3]
    have hsb := hk.bits k
    have he : (es.map (Men.entry enc)).toArray.modify j (fun e => { e with key := enc k, val := v.val }) = ((setM k v clock es).map (Men.entry enc)).toArray := by
      rw [← hset]; simp
    have hr : (Instr.mapUpdate mt (.map (some b)) (enc k) v.val).run P W = .ok () { W with heap := W.heap.setIfInBounds b (mapO enc (setM k v clock es) (clockM k clock es)) } := by
      simp only [Instr.mapUpdate, Sem.run_bind, run_underlying hm, MapKept.run_getObj_map hWb, hck, hf, Result.andThen_ok, List.toList_toArray, hkey, Instr.keyThatStays, hsb, if_true, Sem.run_pure, he, hc, MapKept.run_setObj_map _ hWb, mapO]
    simp only [Prim.run, Sem.run_bind, hr, Result.andThen_ok, Sem.run_pure]
    rfl
theorem mapDel_spec {mt kt et : TypeId} {d : TypeDesc} {ats : List TypeId} (hk : KeyOk enc d) (hm : P.underlying mt = some (.map kt et)) (hd : P.underlying kt = some d) {m : Mem} {b clock : Nat} {es : List (Men α)} {k : α} (hb : m b = some (mapO enc es clock)) :
    PrimSpec P (.builtin .delete (mt :: ats)) [.v (.map (some b)), .v (enc k)] m fun r m' => r = [] ∧ m' = m.set b (mapO enc (delM k es) clock) := by
  intro _ ty W hW
  have hWb := hW _ _ hb
  have hf := run_find hk hd W k es
  have hset := del_erase enc k es
  have hck : ∀ e, (Instr.checkKey e 10000 kt (enc k)).run P W = .ok () W := fun e => run_checkKey' hd (hk.isK k) e
  refine ⟨[], _, _, ?_, (by intro y hy; cases hy), ⟨rfl, rfl⟩, After.put hW hb _⟩
  cases hi : es.findIdx? fun e => decide (k = e.k) with
  | none =>
    rw [hi] at hf hset
    simp only at hf hset
    simp [Prim.run, Prim.out, Prim.tup, CV.val, resVal, Builtin.delete_, run_underlying hm, MapKept.run_getObj_map hWb, hck, hf, mapO, MapKept.run_setObj_map _ hWb, ← hset]
  | some j =>
    rw [hi] at hf hset
    simp only at hf hset
    have he : (es.map (Men.entry enc)).toArray.eraseIdxIfInBounds j = ((delM k es).map (Men.entry enc)).toArray := by
      rw [← hset]; simp
    simp [Prim.run, Prim.out, Prim.tup, CV.val, resVal, Builtin.delete_, run_underlying hm, MapKept.run_getObj_map hWb, hck, hf, mapO, MapKept.run_setObj_map _ hWb, ← hset]
end
end Go.E

/-
  Slices of maund/edit.Event: slices.DeleteFunc.
-/
namespace Go.E.YtheiididldemmaaGreat
open Go.Proofs
set_option maxRecDepth 100000
theorem clearV {m : Mem} {b o n c : Nat} {arr : Array Value} {te : TypeId} (hb : m b = some (.cells arr te)) (hn : 0 < n) (hfit : o + n * 6 ≤ arr.size) :
    PrimSpec Tryz.prog (.builtin .clear [52]) [.v (.slice (some ⟨b, o, none⟩) n c)] m fun r m' => r = [] ∧ ∃ zs, zs.length = n * 6 ∧ (∀ u ∈ zs, u.oneCell' = true) ∧ m' = m.set b (.cells (arr.toList.take o ++ zs ++ arr.toList.drop (o + n * 6)).toArray te) := by
  obtain ⟨ti, h1, h2⟩ := hVs
  obtain ⟨ei, g1, g2, g3, g4⟩ := hVn
  have := clearN_spec (P := Tryz.prog) tt_ok h1 h2 g1 (by rw [g4, g2]; rfl) (by rw [g4]; exact encV_ok.one _) (c := c) hb hn (by rw [g2]; exact hfit)
  rw [g2] at this
  exact this
set_option maxHeartbeats 2000000 in
theorem deleteV0_spec {mm m p : Mem} {v : Value} {E : List Rv} {F : Nat} {pr : Rv → Bool} (hs : Split mm [p, m]) (hv : Vo p v E) (hF : ∀ m', Sub m m' → ∀ e ∈ E, Ret Tryz.prog F [Vv e] m' [boolV (pr e)]) (hl : E.length ≤ 10000000) :
    Spec Tryz.prog 26 [.v v, (fn0V F)] mm fun r m' => ∃ v' p', r = [.v v'] ∧ Split m' [p', m] ∧ Vo p' v' (E.filter fun e => !pr e) := by
  obtain ⟨a, c, rfl⟩ := hv.el.shape
  refine en26 rfl (goY ?_)
  conv => whnf
  first | refine xretk (indexV0_spec (p := pr) (hv.el.ea.sub (hs.sub (by simp))) (hF _ (hs.sub (by simp))) (by omega)) ?_ | refine xret (indexV0_spec (p := pr) (hv.el.ea.sub (hs.sub (by simp))) (hF _ (hs.sub (by simp))) (by omega)) ?_
  conv => whnf
  rcases idxG_split pr E with ⟨e1, e2⟩ | ⟨i0, hi0, e1, e2, e3⟩
  · rw [e1]
    refine ⟨fun _ => ?_, fun h => absurd h (by first | decide | simp)⟩
    conv => whnf
    refine ⟨_, p, rfl, hs, ?_⟩
    have : E.filter (fun e => !pr e) = E := List.filter_eq_self.2 fun x hx => by rw [e2 x hx]; rfl
    rw [this]; exact hv
  rw [e1]
  obtain ⟨bl, ol, c', hh, hg⟩ := hv.el.ea.real hi0
  injection hh with hh1 _ hh3
  subst hh1
  clear hh3 c' hg
  have hne : ((i0 : Int) == -1) = false := by rw [beqG]; exact decide_eq_false (by omega)
  refine ⟨fun h => absurd h (by rw [hne]; decide), fun _ => ?_⟩
  have ew : IntKind.i64.wrap ((i0 : Int) + 1) = ((i0 + 1 : Nat) : Int) := iadd (by omega)
  conv => whnf
  rw [ew]
  refine .mk (ι := Nat × Nat) (fun i => E.length - i.2) (fun ⟨i, j⟩ mm => ∃ p Z, Split mm [p, m] ∧ Vo p (.slice (some ⟨bl, ol, none⟩) E.length c) Z ∧ Z.take i = (E.take j).filter (fun e => !pr e) ∧ Z.drop j = E.drop j ∧ i < j ∧ j ≤ E.length)
    (fun ⟨i, j⟩ => [(0, .c (.v (.slice (some ⟨bl, ol, none⟩) E.length c))), (1, .c (fn0V F)), (5, .c (i64 i)), (6, .c (i64 j))]) (fun _ => []) (i0, i0 + 1) ⟨p, E, hs, hv, ?_, rfl, by omega, by omega⟩ ?_ ?_
  · rw [List.take_succ_eq_append_getElem hi0, List.filter_append]
    have : (E.take i0).filter (fun e => !pr e) = E.take i0 := List.filter_eq_self.2 fun x hx => by rw [e3 x hx]; rfl
    rw [this]; simp [e2]
  · conv => whnf
    repeat (refine And.intro (by first | with_reducible rfl | exact congrArg (Value.int _) (wi (by omega) (by omega)) | exact wi (by omega) (by omega) | rfl) ?_; conv => whnf)
    first | exact trivial | exact fun _ _ h => h
  rintro ⟨i, j⟩ mm ⟨p, Z, hs, hZ, ht, hd, hij, hj⟩
  have hZl : Z.length = E.length := (encV_ok.row hZ).choose_spec.2.1
  conv => whnf
  refine ⟨fun h => ?_, fun h => ?_⟩
  · have h' := of_decide_eq_true h
    have hlt : j < E.length := by omega
    clear h
    have hZE : Z[j]'(by omega) = E[j] := by
      have := congrArg (fun l : List Rv => l[0]?) hd
      simp only [List.getElem?_drop, Nat.add_zero] at this
      rw [List.getElem?_eq_getElem (by omega), List.getElem?_eq_getElem hlt] at this
      exact Option.some.inj this
    obtain ⟨bl', ol', c', hh, hg⟩ := hZ.el.ea.real (i := j) (by omega)
    injection hh with hh1 _ hh3
    injection hh1 with hh1
    injection hh1 with hb1 ho1
    subst hb1
    subst ho1
    clear hh3 c'
    have hg' := hg j (by omega)
    have hst : E.take (j + 1) = E.take j ++ [E[j]] := List.take_succ_eq_append_getElem hlt
    have hd1 : Z.drop (j + 1) = E.drop (j + 1) := by
      rw [← List.drop_drop, ← List.drop_drop, hd]
    rw [hZE] at hg'
    have hxm : E[j] ∈ E := List.getElem_mem hlt
    generalize E[j] = x at hg' hst hxm
    conv => whnf
    repeat (refine And.intro (by first | omega | (simp only [times]; omega)) ?_; conv => whnf)
    refine ⟨[.one (.int .i64 x.1.1), .one (.int .i64 x.1.2.1), .one (.int .i64 x.1.2.2), .one (.int .i64 x.2.1.1), .one (.int .u64 x.2.1.2), .one (.slice x.2.2.1 x.2.2.2.1 x.2.2.2.2)], ⟨rfl, rfl, rfl, rfl, rfl, rfl, trivial⟩, rfl, by simp only [times, Int.toNat_natCast]; exact hg'.sub (hs.sub (by simp)), ?_⟩
    conv => whnf
    first | refine xretk ((hF _ (hs.sub (by simp)) x hxm)) ?_ | refine xret ((hF _ (hs.sub (by simp)) x hxm)) ?_
    conv => whnf
    cases hp : pr x with
    | true =>
      refine ⟨fun h => absurd h (by first | decide | simp), fun _ => ?_⟩
      conv => whnf
      refine ⟨(i, j + 1), ⟨p, Z, hs, hZ, by rw [hst, List.filter_append, ht]; simp [hp], hd1, by omega, by omega⟩, by simp only; omega, ?_⟩
      conv => whnf
      repeat (refine And.intro (by first | with_reducible rfl | (first | exact congrArg (Value.int _) (iadd (by omega))) | exact congrArg (Value.int _) (wi (by omega) (by omega)) | exact wi (by omega) (by omega) | rfl) ?_; conv => whnf)
      first | exact trivial | exact fun _ _ h => h
    | false =>
      refine ⟨fun _ => ?_, fun h => absurd h (by first | decide | simp)⟩
      conv => whnf
      repeat (refine And.intro (by first | omega | (simp only [times]; omega)) ?_; conv => whnf)
      obtain ⟨arr, k1, k2, k3⟩ := encV_ok.set hZ (i := i) (by omega) x
      refine ⟨arr, _, _, hs.sub (a := p) (by simp) _ _ k1, ⟨by simp only [times, Int.toNat_natCast]; exact k2, noFr⟩, ?_⟩
      have hs2 := hs.set k1 (.cells (arr.toList.take (ol + i * 6) ++ (encV x ++ arr.toList.drop (ol + i * 6 + 6))).toArray 34)
      simp only [times, Int.toNat_natCast]
      have hk1 : IntKind.i64.wrap ((i : Int) + 1) = ((i + 1 : Nat) : Int) := iadd (by omega)
      conv => whnf
      refine ⟨(i + 1, j + 1), ⟨_, Z.set i x, hs2, k3, ?_, ?_, by omega, by omega⟩, by simp only; omega, ?_⟩
      · rw [hst, List.filter_append, ← ht, List.take_succ_eq_append_getElem (by rw [List.length_set]; omega), List.getElem_set_self, List.take_set_of_le (by omega)]
        simp [hp]
      · rw [List.drop_set_of_lt (by omega)]; exact hd1
      · conv => whnf
        repeat (refine And.intro (by first | with_reducible rfl | (first | exact congrArg (Value.int _) (iadd (by omega))) | exact congrArg (Value.int _) (wi (by omega) (by omega)) | exact wi (by omega) (by omega) | rfl) ?_; conv => whnf)
        first | exact trivial | exact fun _ _ h => h
  · have h' := of_decide_eq_false h
    obtain rfl : j = E.length := by omega
    rw [List.take_length] at ht
    obtain ⟨arr, k1, k2, k3, k4, k5⟩ := encV_ok.row hZ
    clear h
    conv => whnf
    repeat (refine And.intro (by first | omega | (simp only [times]; omega)) ?_; conv => whnf)
    intro o' q1 q2
    have ho : o' = ol + i * 6 := by simpa using q1 (by omega)
    have ei : (i : Int).toNat = i := by omega
    clear q1 q2
    subst ho
    conv => whnf
    rw [ei]
    refine .mk _ (clearV (hs.sub (a := p) (by simp) _ _ k1) (by omega) (by omega)) ?_
    rintro _ m' ⟨rfl, zs, hz1, hz2, rfl⟩
    conv => whnf
    have hs2 := hs.set k1 (.cells (arr.toList.take (ol + i * 6) ++ zs ++ arr.toList.drop (ol + i * 6 + (E.length - i) * 6)).toArray 34)
    repeat (refine And.intro (by first | omega | (simp only [times]; omega)) ?_; conv => whnf)
    intro o' q1 q2
    obtain rfl : o' = ol := by have := q1 (by omega); simpa [times] using this
    conv => whnf
    rw [ei]
    refine ⟨_, _, rfl, hs2, ?_⟩
    rw [← ht]
    refine encV_ok.mk' (Mem.set_same ..) (by rw [List.length_take]; omega) (by omega) ?_ fun j u hu => ?_
    · simp only [List.size_toArray, List.length_append, List.length_take, List.length_drop, Array.length_toList, hz1]; omega
    · have hjl := (List.getElem?_eq_some_iff.1 hu).1
      rw [encV_ok.flen, List.length_take] at hjl
      have hj2 : o' + j < o' + i * 6 := by have := Nat.mul_le_mul_right 6 (Nat.min_le_left i Z.length); omega
      rw [← encV_ok.take, List.getElem?_take] at hu
      split at hu
      · have := k5 j u hu
        rw [List.getElem?_toArray, List.append_assoc, List.getElem?_append_left (by rw [List.length_take, Array.length_toList]; omega), List.getElem?_take, if_pos hj2, Array.getElem?_toList]
        exact this
      · cases hu
set_option maxHeartbeats 2000000 in
theorem deleteV1_spec {mm m p : Mem} {v : Value} {E : List Rv} {F b : Nat} {pr : Rv → Bool} (hs : Split mm [p, m]) (hv : Vo p v E) (hF : ∀ m', Sub m m' → ∀ e ∈ E, Ret Tryz.prog F [Vv e, ptrV b] m' [boolV (pr e)]) (hl : E.length ≤ 10000000) :
    Spec Tryz.prog 26 [.v v, (fnP1V F b)] mm fun r m' => ∃ v' p', r = [.v v'] ∧ Split m' [p', m] ∧ Vo p' v' (E.filter fun e => !pr e) := by
  obtain ⟨a, c, rfl⟩ := hv.el.shape
  refine en26 rfl (goY ?_)
  conv => whnf
  first | refine xretk (indexV1_spec (p := pr) (hv.el.ea.sub (hs.sub (by simp))) (hF _ (hs.sub (by simp))) (by omega)) ?_ | refine xret (indexV1_spec (p := pr) (hv.el.ea.sub (hs.sub (by simp))) (hF _ (hs.sub (by simp))) (by omega)) ?_
  conv => whnf
  rcases idxG_split pr E with ⟨e1, e2⟩ | ⟨i0, hi0, e1, e2, e3⟩
  · rw [e1]
    refine ⟨fun _ => ?_, fun h => absurd h (by first | decide | simp)⟩
    conv => whnf
    refine ⟨_, p, rfl, hs, ?_⟩
    have : E.filter (fun e => !pr e) = E := List.filter_eq_self.2 fun x hx => by rw [e2 x hx]; rfl
    rw [this]; exact hv
  rw [e1]
  obtain ⟨bl, ol, c', hh, hg⟩ := hv.el.ea.real hi0
  injection hh with hh1 _ hh3
  subst hh1
  clear hh3 c' hg
  have hne : ((i0 : Int) == -1) = false := by rw [beqG]; exact decide_eq_false (by omega)
  refine ⟨fun h => absurd h (by rw [hne]; decide), fun _ => ?_⟩
  have ew : IntKind.i64.wrap ((i0 : Int) + 1) = ((i0 + 1 : Nat) : Int) := iadd (by omega)
  conv => whnf
  rw [ew]
  refine .mk (ι := Nat × Nat) (fun i => E.length - i.2) (fun ⟨i, j⟩ mm => ∃ p Z, Split mm [p, m] ∧ Vo p (.slice (some ⟨bl, ol, none⟩) E.length c) Z ∧ Z.take i = (E.take j).filter (fun e => !pr e) ∧ Z.drop j = E.drop j ∧ i < j ∧ j ≤ E.length)
    (fun ⟨i, j⟩ => [(0, .c (.v (.slice (some ⟨bl, ol, none⟩) E.length c))), (1, .c (fnP1V F b)), (5, .c (i64 i)), (6, .c (i64 j))]) (fun _ => []) (i0, i0 + 1) ⟨p, E, hs, hv, ?_, rfl, by omega, by omega⟩ ?_ ?_
  · rw [List.take_succ_eq_append_getElem hi0, List.filter_append]
    have : (E.take i0).filter (fun e => !pr e) = E.take i0 := List.filter_eq_self.2 fun x hx => by rw [e3 x hx]; rfl
    rw [this]; simp [e2]
  · conv => whnf
    repeat (refine And.intro (by first | with_reducible rfl | exact congrArg (Value.int _) (wi (by omega) (by omega)) | exact wi (by omega) (by omega) | rfl) ?_; conv => whnf)
    first | exact trivial | exact fun _ _ h => h
  rintro ⟨i, j⟩ mm ⟨p, Z, hs, hZ, ht, hd, hij, hj⟩
  have hZl : Z.length = E.length := (encV_ok.row hZ).choose_spec.2.1
  conv => whnf
  refine ⟨fun h => ?_, fun h => ?_⟩
  · have h' := of_decide_eq_true h
    have hlt : j < E.length := by omega
    clear h
    have hZE : Z[j]'(by omega) = E[j] := by
      have := congrArg (fun l : List Rv => l[0]?) hd
      simp only [List.getElem?_drop, Nat.add_zero] at this
      rw [List.getElem?_eq_getElem (by omega), List.getElem?_eq_getElem hlt] at this
      exact Option.some.inj this
    obtain ⟨bl', ol', c', hh, hg⟩ := hZ.el.ea.real (i := j) (by omega)
    injection hh with hh1 _ hh3
    injection hh1 with hh1
    injection hh1 with hb1 ho1
    subst hb1
    subst ho1
    clear hh3 c'
    have hg' := hg j (by omega)
    have hst : E.take (j + 1) = E.take j ++ [E[j]] := List.take_succ_eq_append_getElem hlt
    have hd1 : Z.drop (j + 1) = E.drop (j + 1) := by
      rw [← List.drop_drop, ← List.drop_drop, hd]
    rw [hZE] at hg'
    have hxm : E[j] ∈ E := List.getElem_mem hlt
    generalize E[j] = x at hg' hst hxm
    conv => whnf
    repeat (refine And.intro (by first | omega | (simp only [times]; omega)) ?_; conv => whnf)
    refine ⟨[.one (.int .i64 x.1.1), .one (.int .i64 x.1.2.1), .one (.int .i64 x.1.2.2), .one (.int .i64 x.2.1.1), .one (.int .u64 x.2.1.2), .one (.slice x.2.2.1 x.2.2.2.1 x.2.2.2.2)], ⟨rfl, rfl, rfl, rfl, rfl, rfl, trivial⟩, rfl, by simp only [times, Int.toNat_natCast]; exact hg'.sub (hs.sub (by simp)), ?_⟩
    conv => whnf
    first | refine xretk ((hF _ (hs.sub (by simp)) x hxm)) ?_ | refine xret ((hF _ (hs.sub (by simp)) x hxm)) ?_
    conv => whnf
    cases hp : pr x with
    | true =>
      refine ⟨fun h => absurd h (by first | decide | simp), fun _ => ?_⟩
      conv => whnf
      refine ⟨(i, j + 1), ⟨p, Z, hs, hZ, by rw [hst, List.filter_append, ht]; simp [hp], hd1, by omega, by omega⟩, by simp only; omega, ?_⟩
      conv => whnf
      repeat (refine And.intro (by first | with_reducible rfl | (first | exact congrArg (Value.int _) (iadd (by omega))) | exact congrArg (Value.int _) (wi (by omega) (by omega)) | exact wi (by omega) (by omega) | rfl) ?_; conv => whnf)
      first | exact trivial | exact fun _ _ h => h
    | false =>
      refine ⟨fun _ => ?_, fun h => absurd h (by first | decide | simp)⟩
      conv => whnf
      repeat (refine And.intro (by first | omega | (simp only [times]; omega)) ?_; conv => whnf)
      obtain ⟨arr, k1, k2, k3⟩ := encV_ok.set hZ (i := i) (by omega) x
      refine ⟨arr, _, _, hs.sub (a := p) (by simp) _ _ k1, ⟨by simp only [times, Int.toNat_natCast]; exact k2, noFr⟩, ?_⟩
      have hs2 := hs.set k1 (.cells (arr.toList.take (ol + i * 6) ++ (encV x ++ arr.toList.drop (ol + i * 6 + 6))).toArray 34)
      simp only [times, Int.toNat_natCast]
      have hk1 : IntKind.i64.wrap ((i : Int) + 1) = ((i + 1 : Nat) : Int) := iadd (by omega)
      conv => whnf
      refine ⟨(i + 1, j + 1), ⟨_, Z.set i x, hs2, k3, ?_, ?_, by omega, by omega⟩, by simp only; omega, ?_⟩
      · rw [hst, List.filter_append, ← ht, List.take_succ_eq_append_getElem (by rw [List.length_set]; omega), List.getElem_set_self, List.take_set_of_le (by omega)]
        simp [hp]
      · rw [List.drop_set_of_lt (by omega)]; exact hd1
      · conv => whnf
        repeat (refine And.intro (by first | with_reducible rfl | (first | exact congrArg (Value.int _) (iadd (by omega))) | exact congrArg (Value.int _) (wi (by omega) (by omega)) | exact wi (by omega) (by omega) | rfl) ?_; conv => whnf)
        first | exact trivial | exact fun _ _ h => h
  · have h' := of_decide_eq_false h
    obtain rfl : j = E.length := by omega
    rw [List.take_length] at ht
    obtain ⟨arr, k1, k2, k3, k4, k5⟩ := encV_ok.row hZ
    clear h
    conv => whnf
    repeat (refine And.intro (by first | omega | (simp only [times]; omega)) ?_; conv => whnf)
    intro o' q1 q2
    have ho : o' = ol + i * 6 := by simpa using q1 (by omega)
    have ei : (i : Int).toNat = i := by omega
    clear q1 q2
    subst ho
    conv => whnf
    rw [ei]
    refine .mk _ (clearV (hs.sub (a := p) (by simp) _ _ k1) (by omega) (by omega)) ?_
    rintro _ m' ⟨rfl, zs, hz1, hz2, rfl⟩
    conv => whnf
    have hs2 := hs.set k1 (.cells (arr.toList.take (ol + i * 6) ++ zs ++ arr.toList.drop (ol + i * 6 + (E.length - i) * 6)).toArray 34)
    repeat (refine And.intro (by first | omega | (simp only [times]; omega)) ?_; conv => whnf)
    intro o' q1 q2
    obtain rfl : o' = ol := by have := q1 (by omega); simpa [times] using this
    conv => whnf
    rw [ei]
    refine ⟨_, _, rfl, hs2, ?_⟩
    rw [← ht]
    refine encV_ok.mk' (Mem.set_same ..) (by rw [List.length_take]; omega) (by omega) ?_ fun j u hu => ?_
    · simp only [List.size_toArray, List.length_append, List.length_take, List.length_drop, Array.length_toList, hz1]; omega
    · have hjl := (List.getElem?_eq_some_iff.1 hu).1
      rw [encV_ok.flen, List.length_take] at hjl
      have hj2 : o' + j < o' + i * 6 := by have := Nat.mul_le_mul_right 6 (Nat.min_le_left i Z.length); omega
      rw [← encV_ok.take, List.getElem?_take] at hu
      split at hu
      · have := k5 j u hu
        rw [List.getElem?_toArray, List.append_assoc, List.getElem?_append_left (by rw [List.length_take, Array.length_toList]; omega), List.getElem?_take, if_pos hj2, Array.getElem?_toList]
        exact this
      · cases hu
end Go.E.YtheiididldemmaaGreat

/-
  A watch as it lies; the events of a key.
-/
namespace Go.E.YtheiididldemmaaGreat
open Go.Proofs
set_option maxRecDepth 100000
/-- what is kept of a key: where its events lie, and which these are -/
structure WRow where
  k : ByteArray
  a : Option Addr
  c : Nat
  q : Mem
  rs : List Rw
  es : List Ev
  b : Nat
def WRow.men (d : WRow) : Men ByteArray := ⟨d.k, .v (.slice d.a d.rs.length d.c), d.b⟩
structure WRowOk (r : Mem) (clock : Nat) (d : WRow) : Prop where
  own : Wo d.q (.slice d.a d.rs.length d.c) d.rs
  evs : EvsIs r (d.rs.map (·.2)) d.es
  born : d.b < clock
abbrev watchO (bm : Nat) : Obj := .cells #[.map (some bm)] 57
abbrev wmapO (D : List WRow) (clock : Nat) : Obj := mapO Value.string (D.map WRow.men) clock
structure WO (p : Mem) (b bm : Nat) (r : Mem) (D : List WRow) (clock : Nat) : Prop where
  sp : Split p (blk1 b (watchO bm) :: blk1 bm (wmapO D clock) :: r :: D.map (·.q))
  ok : ∀ d ∈ D, WRowOk r clock d
  keys : (D.map (·.k)).Nodup
  births : D.Pairwise fun x y => x.b ≠ y.b
def findW (k : ByteArray) (D : List WRow) : Option WRow := D.find? fun d => decide (k = d.k)
def evsW (D : List WRow) (k : ByteArray) : List Ev := ((findW k D).map (·.es)).getD []
theorem findM_W (k : ByteArray) : ∀ D : List WRow, findM k (D.map WRow.men) = (findW k D).map fun d => .v (.slice d.a d.rs.length d.c)
  | [] => rfl
  | d :: D => by
    have ih := findM_W k D
    unfold findM findW at *
    rw [List.map_cons, List.find?_cons, List.find?_cons]
    by_cases h : k = d.k
    · have e : k = d.men.k := h
      rw [decide_eq_true e, decide_eq_true h]; rfl
    · have e : ¬ k = d.men.k := h
      rw [decide_eq_false e, decide_eq_false h]; exact ih
theorem findW_some {k : ByteArray} {D : List WRow} {d : WRow} (h : findW k D = some d) : ∃ A B, D = A ++ d :: B ∧ k = d.k := by
  unfold findW at h
  obtain ⟨h1, A, B, h2, _⟩ := List.find?_eq_some_iff_append.1 h
  exact ⟨A, B, h2, of_decide_eq_true h1⟩
theorem findW_mem {k : ByteArray} {D : List WRow} {d : WRow} (h : findW k D = some d) : d ∈ D := List.mem_of_find?_eq_some h
theorem lookupW {m : Mem} {bm clock : Nat} {D : List WRow} {k : ByteArray} (hb : m bm = some (wmapO D clock)) :
    PrimSpec Tryz.prog (.lookup 55 false) [.v (.map (some bm)), .v (.string k)] m fun r m' => r = [((findW k D).map fun d => CV.v (.slice d.a d.rs.length d.c)).getD (.v (.slice none 0 0))] ∧ m = m' := by
  have h := lookup_spec (P := Tryz.prog) strKey (k := k) Tryz.underlying55 Tryz.underlying9 (z := .v (.slice none 0 0)) (by kernel_rfl) rfl hb (fun e he => by obtain ⟨f, _, rfl⟩ := List.mem_map.1 he; rfl) false
  rw [findM_W] at h
  exact h
section
variable {p : Mem} {b bm : Nat} {r : Mem} {D : List WRow} {clock : Nat}
theorem WO.book (h : WO p b bm r D clock) : p b = some (watchO bm) := h.sp.sub (a := blk1 b (watchO bm)) (by simp) _ _ (blk1_same ..)
theorem WO.map (h : WO p b bm r D clock) : p bm = some (wmapO D clock) := h.sp.sub (a := blk1 bm (wmapO D clock)) (by simp) _ _ (blk1_same ..)
theorem WO.offs (h : WO p b bm r D clock) : Sub r p := h.sp.sub (by simp)
theorem WO.rows (h : WO p b bm r D clock) {d : WRow} (hd : d ∈ D) : Sub d.q p := h.sp.sub (by simp only [List.mem_cons, List.mem_map]; exact .inr (.inr (.inr ⟨d, hd, rfl⟩)))
end
theorem joinM_subL (a b : Mem) : Sub a (joinM a b) := fun x o h => by simp only [joinM, h]
theorem joinM_subR {a b : Mem} (hd : Dj a b) : Sub b (joinM a b) := fun x o h => by
  rcases hd x with h' | h'
  · simp only [joinM, h']; exact h
  · rw [h'] at h; cases h
set_option maxHeartbeats 8000000 in
theorem events_spec {mm m p r : Mem} {b bm clock : Nat} {D : List WRow} {k : ByteArray} (hs : Split mm [p, m]) (h : WO p b bm r D clock) (hl : ∀ d ∈ D, d.es.length ≤ 10000) (ho : ∀ d ∈ D, ∀ e ∈ d.es, e.2.2.length ≤ 100) :
    Spec Tryz.prog 14 [ptrV b, .v (.string k)] mm fun r' m' => ∃ v' q o R', r' = [.v v'] ∧ Split m' [q, o, mm] ∧ Vo q v' R' ∧ EvsIs o R' (unionE (evsW D k) []) := by
  have hp : Sub p mm := hs.sub (by simp)
  refine en14 rfl (goY ?_)
  conv => whnf
  refine ⟨fun _ => ?_, fun h => absurd h (by first | decide | simp)⟩
  conv => whnf
  refine ⟨_, mcell_of (hp _ _ h.book) rfl, rfl, ?_⟩
  conv => whnf
  refine .mk _ (lookupW (k := k) (hp _ _ h.map)) ?_
  rintro _ _ ⟨rfl, rfl⟩
  conv => whnf
  obtain ⟨a, c, R, E, hfind, hE0, hv, hev⟩ : ∃ a c R E, ((findW k D).map fun d => CV.v (.slice d.a d.rs.length d.c)).getD (.v (.slice none 0 0)) = .v (.slice a R.length c) ∧ E = evsW D k ∧ Wa mm (.slice a R.length c) R ∧ EvsIs mm (R.map (·.2)) E := by
    unfold evsW
    cases hf : findW k D with
    | none => exact ⟨none, 0, [], [], rfl, rfl, Wa.nil _, EvsIs.nil _⟩
    | some d =>
      have hd := findW_mem hf
      exact ⟨d.a, d.c, d.rs, d.es, rfl, rfl, ((h.ok d hd).own.ea).sub ((h.rows hd).trans hp), (h.ok d hd).evs.sub (h.offs.trans hp)⟩
  have hEl : E.length ≤ 10000 := by
    rw [hE0]; unfold evsW
    cases hf : findW k D with
    | none => simp
    | some d => exact hl d (findW_mem hf)
  have hEo : ∀ e ∈ E, e.2.2.length ≤ 100 := by
    rw [hE0]; unfold evsW
    cases hf : findW k D with
    | none => simp
    | some d => exact ho d (findW_mem hf)
  rw [hfind, ← hE0]
  clear hfind hE0
  have hlen := hev.len
  rw [List.length_map] at hlen
  conv => whnf
  refine .mk (ι := Nat × Value) (fun i => R.length - i.1) (fun ⟨i, vo⟩ m' => i ≤ R.length ∧ ∃ po pc Ro, Split m' [po, pc, mm] ∧ Vo po vo Ro ∧ EvsIs pc Ro (E.take i)) (fun ⟨i, vo⟩ => [(5, .c (.v vo)), (16, .c (.v (.slice a R.length c))), (17, .c (i64 R.length)), (18, .c (i64 i))]) (fun _ => []) (0, .slice none 0 0) ⟨by omega, emp, emp, [], (Split.one mm).addEmp.addEmp, Vo.nil _, EvsIs.nil _⟩ ?_ ?_
  · conv => whnf
    repeat (refine And.intro (by first | with_reducible rfl | exact congrArg (Value.int _) (wi (by omega) (by omega)) | exact wi (by omega) (by omega) | rfl) ?_; conv => whnf)
    first | exact trivial | exact fun _ _ h => h
  rintro ⟨i, vo⟩ m' ⟨hi, po, pc, Ro, hs2, hvo, hRo⟩
  conv => whnf
  refine ⟨fun h => ?_, fun h => ?_⟩
  · have h' := of_decide_eq_true h
    have hlt : i < R.length := by omega
    have hltE : i < E.length := by omega
    obtain ⟨bl, ol, c', hh, hg⟩ := hv.real hlt
    injection hh with hh1 _ hh3
    subst hh1
    clear hh3 c'
    have hm : Sub mm m' := hs2.sub (by simp)
    have hg := (hg i hlt).sub hm
    have hx := (hev.at (i := i) (by rw [List.length_map]; exact hlt) hltE).sub hm
    rw [List.getElem_map] at hx
    have hst : E.take (i + 1) = E.take i ++ [E[i]] := List.take_succ_eq_append_getElem hltE
    have hyo := hEo _ (List.getElem_mem hltE)
    generalize R[i] = x at hg hx
    generalize E[i] = y at hx hst hyo
    conv => whnf
    repeat (refine And.intro (by first | omega | (simp only [times]; omega)) ?_; conv => whnf)
    refine ⟨[.one (.int .i64 x.1), .one (.int .i64 x.2.1.1), .one (.int .i64 x.2.1.2.1), .one (.int .i64 x.2.1.2.2), .one (.int .i64 x.2.2.1.1), .one (.int .u64 x.2.2.1.2), .one (.slice x.2.2.2.1 x.2.2.2.2.1 x.2.2.2.2.2)], ⟨rfl, rfl, rfl, rfl, rfl, rfl, rfl, trivial⟩, rfl, by simp only [times, Int.toNat_natCast]; exact hg, ?_⟩
    conv => whnf
    refine xcall (cloneD_spec hx.off (by omega)) ?_
    rintro _ m3 ⟨v2, p2, rfl, hs3', hv2⟩
    conv => whnf
    have hs3 := Split.beside hs3' hs2
    obtain ⟨a2, c2, rfl⟩ := hv2.el.shape
    conv => whnf
    have hRol := hRo.len
    rw [List.length_take] at hRol
    refine .mk _ (buildV1 (e := (x.2.1, x.2.2.1, (a2, y.2.2.length, c2)))) ?_
    rintro _ _ ⟨b5, hb5, rfl, rfl⟩
    conv => whnf
    refine .mk _ (pushV (i := 1) hs3 rfl hb5 hvo (by omega)) ?_
    rintro _ m4 ⟨v', p', rfl, hs4, hv'⟩
    conv => whnf
    have hs5 : Split m4 [p2, pc, p', mm] := hs4.perm (l' := [p2, pc, p', mm]) (.cons _ (.swap _ _ _))
    have hdj : Dj p2 pc := hs5.dj
    have hs6 : Split m4 [p', joinM p2 pc, mm] := hs5.pair.perm (.swap _ _ _)
    have hnew : EvIs (joinM p2 pc) (x.2.1, x.2.2.1, (a2, y.2.2.length, c2)) y := ⟨hx.k, hx.d, hv2.ea.sub (joinM_subL _ _)⟩
    refine ⟨(i + 1, v'), ⟨by omega, p', joinM p2 pc, _, hs6, hv', by rw [hst]; exact (hRo.sub (joinM_subR hdj)).append (EvsIs.one hnew)⟩, by simp only; omega, ?_⟩
    conv => whnf
    repeat (refine And.intro (by first | with_reducible rfl | (first | exact congrArg (Value.int _) (iadd (by omega))) | exact congrArg (Value.int _) (wi (by omega) (by omega)) | exact wi (by omega) (by omega) | rfl) ?_; conv => whnf)
    first | exact trivial | exact fun _ _ h => h
  · have h' := of_decide_eq_false h
    obtain rfl : i = R.length := by omega
    rw [List.take_of_length_le (by omega)] at hRo
    have hdj : Dj po pc := hs2.dj
    conv => whnf
    refine xcall ((union20_spec (m := joinM po pc) (hvo.el.ea.sub (joinM_subL _ _)) (hRo.sub (joinM_subR hdj)) (by omega) (fun e he => by have := hEo e he; omega)).frame hs2.pair) ?_
    rintro _ m5 ⟨m1', ⟨v', q, R', rfl, hs3, hv', hR'⟩, hs4⟩
    conv => whnf
    exact ⟨v', q, joinM po pc, R', rfl, Split.flat hs4 (i := 0) rfl hs3, hv', hR'⟩
end Go.E.YtheiididldemmaaGreat

/-
  Contracts of watch: what a cart knows of a key's events, whether it goes with them, and the whole.
-/
namespace Go.E.YtheiididldemmaaGreat
open Go.Proofs
set_option maxRecDepth 100000
/-- an event whose numbers fit, with few dots that went off -/
def okEv (e : Ev) : Prop := okD e.2.1 ∧ (∀ d ∈ e.2.2, okD d) ∧ e.2.2.length ≤ 100
def OkW (D : List WRow) : Prop := ∀ d ∈ D, d.es.length ≤ 10000 ∧ ∀ e ∈ d.es, okEv e
theorem evsW_ok {D : List WRow} (h : OkW D) (k : ByteArray) : (evsW D k).length ≤ 10000 ∧ ∀ e ∈ evsW D k, okEv e := by
  unfold evsW
  cases hf : findW k D with
  | none => simp
  | some d => exact h d (findW_mem hf)
def knownW (D : List WRow) (k : ByteArray) (c : Ct) : List Ev := (unionE (evsW D k) []).filter (knowsE c)
set_option maxHeartbeats 4000000 in
theorem knowsW_spec {mm m p r : Mem} {b bm clock : Nat} {D : List WRow} {k : ByteArray} {u : List Int} {a : Option Addr} {c : Nat} {E : List En} (hs : Split mm [p, m]) (h : WO p b bm r D clock) (hok : OkW D) (hu : u.length = 8) (hv : Na mm (.slice a E.length c) E) (hl : E.length ≤ 1000000) :
    Spec Tryz.prog 13 [ptrV b, .v (.string k), cartV u a E.length c] mm fun r' m' => ∃ v' q o R', r' = [.v v'] ∧ Split m' [q, o, mm] ∧ Vo q v' R' ∧ EvsIs o R' (knownW D k (u, E)) := by
  have hul := unionE_len (evsW D k)
  have hmem := unionE_sub (E := evsW D k)
  obtain ⟨hel, heo⟩ := evsW_ok hok k
  refine en13 rfl (goY ?_)
  conv => whnf
  intro b5 hb5
  conv => whnf
  have hs1 := hs.new hb5 (.cells (LB.cells (cartB u a E.length c)).toArray 41)
  have hs2 : Split (mm.set b5 (.cells (LB.cells (cartB u a E.length c)).toArray 41)) [p, joinM (blk1 b5 (.cells (LB.cells (cartB u a E.length c)).toArray 41)) m] :=
    (hs1.perm (l' := [blk1 b5 (.cells (LB.cells (cartB u a E.length c)).toArray 41), m, p]) (.cons _ (.swap _ _ _))).pair.perm (.swap _ _ _)
  have hb6 : (mm.set b5 (.cells (LB.cells (cartB u a E.length c)).toArray 41)) b5 = some (.cells (LB.cells (cartB u a E.length c)).toArray 41) := Mem.set_same ..
  have hsub := Mem.sub_set (.cells (LB.cells (cartB u a E.length c)).toArray 41) hb5
  refine xcall (events_spec (k := k) hs2 h (fun d hd => (hok d hd).1) (fun d hd e he => ((hok d hd).2 e he).2.2)) ?_
  rintro _ m3 ⟨v1, q1, o1, R1, rfl, hs3, hv1, hR1⟩
  conv => whnf
  refine .mk _ (makeFunc_spec (cs := [.pointer (some ⟨b5, 0, none⟩)]) (by simp [Value.oneCell'])) ?_
  rintro _ _ ⟨rfl, rfl⟩
  conv => whnf
  obtain ⟨J, hJ, hsJ, back⟩ := Split.pickP hs3
  have ho1 : Sub o1 J := hJ o1 (by simp)
  have hm1 := hJ (mm.set b5 (.cells (LB.cells (cartB u a E.length c)).toArray 41)) (by simp)
  have hRl := hR1.len
  refine xcall (deleteV1_spec (pr := fun r => !knowsE (u, E) (evOf o1 r)) hsJ hv1 (fun m' hm r hr => knowsC_spec (hm _ _ (hm1 _ _ hb6)) hu ((hv.sub hsub).sub (hm1.trans hm)) ((hR1.2 r hr).sub (ho1.trans hm)) ⟨(heo _ (hmem _ (hR1.mem hr))).1.1, fun d hd => ((heo _ (hmem _ (hR1.mem hr))).2.1 d hd).1⟩ (by omega) (by have := (heo _ (hmem _ (hR1.mem hr))).2.2; omega)) (by omega)) ?_
  rintro _ m4 ⟨v2, q2, rfl, hs4, hv2⟩
  conv => whnf
  have hs5 := back _ _ hs4
  have hf := hR1.filter (knowsE (u, E))
  have e : (R1.filter fun r => !!knowsE (u, E) (evOf o1 r)) = R1.filter fun r => knowsE (u, E) (evOf o1 r) := by simp
  rw [e] at hv2
  refine ⟨v2, q2, o1, _, rfl, ?_, hv2, hf⟩
  have hs6 : Split (mm.set b5 (.cells (LB.cells (cartB u a E.length c)).toArray 41)) [mm] := ((Split.one mm).new hb5 _).drop
  exact Split.under (a := [q2, o1]) hs5 hs6
def rightW (D : List WRow) (k : ByteArray) (c : Ct) : Bool := decide ((cartE (knownW D k c)).2 = 0) && (decide ((cartE (knownW D k c)).1.1 = c.1) && decide ((cartE (knownW D k c)).1.2 = c.2))
theorem sortE_len (l : List En) : (sortE l).length = l.length := by unfold sortE; exact List.length_mergeSort _
theorem cartE_len (l : List Ev) : (cartE l).1.2.length ≤ 400 := by
  unfold cartE
  split
  · simp
  · split
    · simp
    · rename_i h; simp only [sortE_len]; omega
theorem cartE_vec (l : List Ev) : (cartE l).1.1.length = 8 := by
  unfold cartE
  split
  · rfl
  · split
    · rfl
    · exact spanD_len _
set_option maxHeartbeats 4000000 in
theorem rightW_spec (hS : Strict) {mm m p r : Mem} {b bm clock : Nat} {D : List WRow} {k : ByteArray} {u : List Int} {a : Option Addr} {c : Nat} {E : List En} (hs : Split mm [p, m]) (h : WO p b bm r D clock) (hok : OkW D) (hu : u.length = 8) (hv : Na mm (.slice a E.length c) E) (hl : E.length ≤ 1000000) :
    Ret Tryz.prog 9 [ptrV b, .v (.string k), cartV u a E.length c] mm [boolV (rightW D k (u, E))] := by
  refine Spec.ret (R := fun r m' => r = [boolV (rightW D k (u, E))] ∧ Sub mm m') ?_ fun _ _ h => h
  have hul := unionE_len (evsW D k)
  have hmem := unionE_sub (E := evsW D k)
  obtain ⟨hel, heo⟩ := evsW_ok hok k
  have hkl : (knownW D k (u, E)).length ≤ 10000 := by
    have := List.length_filter_le (knowsE (u, E)) (unionE (evsW D k) [])
    unfold knownW; omega
  have hko : ∀ e ∈ knownW D k (u, E), okEv e := fun e he => heo e (hmem e (List.mem_filter.1 he).1)
  refine en9 rfl (goY ?_)
  conv => whnf
  refine xcall (knowsW_spec (k := k) (u := u) hs h hok hu hv hl) ?_
  rintro _ m1 ⟨v1, q1, o1, R1, rfl, hs1, hv1, hR1⟩
  conv => whnf
  refine xcall (cart20_spec hS (hv1.el.ea.sub (hs1.sub (by simp))) (hR1.sub (hs1.sub (by simp))) hkl (fun e he => (hko e he).2.2) (fun e he => (hko e he).1)) ?_
  rintro _ m2 ⟨a2, c2, p2, rfl, hs2', hv2⟩
  conv => whnf
  have hs2 := Split.beside hs2' hs1
  have hm2 : Sub mm m2 := hs2.sub (by simp)
  have hcl := cartE_len (knownW D k (u, E))
  first | refine xretk (made_spec (hm2 _ _ ((hs.sub (by simp) : Sub p mm) _ _ h.book))) ?_ | refine xret (made_spec (hm2 _ _ ((hs.sub (by simp) : Sub p mm) _ _ h.book))) ?_
  conv => whnf
  have hr : rightW D k (u, E) = (decide ((cartE (knownW D k (u, E))).2 = 0) && (decide ((cartE (knownW D k (u, E))).1.1 = u) && decide ((cartE (knownW D k (u, E))).1.2 = E))) := rfl
  rw [hr]
  clear hr
  generalize cartE (knownW D k (u, E)) = X at hv2 hcl
  refine ⟨fun _ => ?_, fun h => absurd h (by first | decide | simp)⟩
  conv => whnf
  refine ⟨fun h0 => ?_, fun h0 => ?_⟩
  · have h1 : X.2 = 0 := by simpa using h0
    conv => whnf
    first | refine xretk (sameC_spec (u := X.1.1) (w := u) (hv2.ea.sub (hs2.sub (by simp))) (hv.sub hm2) (by omega)) ?_ | refine xret (sameC_spec (u := X.1.1) (w := u) (hv2.ea.sub (hs2.sub (by simp))) (hv.sub hm2) (by omega)) ?_
    conv => whnf
    exact ⟨by rw [decide_eq_true h1]; rfl, hm2⟩
  · have h1 : ¬ X.2 = 0 := by simpa using h0
    conv => whnf
    exact ⟨by rw [decide_eq_false h1]; rfl, hm2⟩
set_option maxHeartbeats 4000000 in
theorem wholeW_spec (hS : Strict) {mm m p r : Mem} {b bm clock : Nat} {D : List WRow} {k : ByteArray} (hs : Split mm [p, m]) (h : WO p b bm r D clock) (hok : OkW D) :
    Spec Tryz.prog 8 [ptrV b, .v (.string k)] mm fun r' m' => ∃ a c q, r' = [cartV (cartE (unionE (evsW D k) [])).1.1 a (cartE (unionE (evsW D k) [])).1.2.length c, i64 (cartE (unionE (evsW D k) [])).2] ∧ Split m' [q, mm] ∧ No q (.slice a (cartE (unionE (evsW D k) [])).1.2.length c) (cartE (unionE (evsW D k) [])).1.2 := by
  have hul := unionE_len (evsW D k)
  have hmem := unionE_sub (E := evsW D k)
  obtain ⟨hel, heo⟩ := evsW_ok hok k
  refine en8 rfl (goY ?_)
  conv => whnf
  first | refine xretk (made_spec ((hs.sub (by simp) : Sub p mm) _ _ h.book)) ?_ | refine xret (made_spec ((hs.sub (by simp) : Sub p mm) _ _ h.book)) ?_
  conv => whnf
  refine ⟨fun h => absurd h (by first | decide | simp), fun _ => ?_⟩
  conv => whnf
  refine xcall (events_spec (k := k) hs h (fun d hd => (hok d hd).1) (fun d hd e he => ((hok d hd).2 e he).2.2)) ?_
  rintro _ m1 ⟨v1, q1, o1, R1, rfl, hs1, hv1, hR1⟩
  conv => whnf
  refine xcall (cart20_spec hS (hv1.el.ea.sub (hs1.sub (by simp))) (hR1.sub (hs1.sub (by simp))) (by omega) (fun e he => (heo e (hmem e he)).2.2) (fun e he => (heo e (hmem e he)).1)) ?_
  rintro _ m2 ⟨a2, c2, p2, rfl, hs2', hv2⟩
  conv => whnf
  have hs2 := Split.beside hs2' hs1
  generalize cartE (unionE (evsW D k) []) = X at hv2
  exact ⟨a2, c2, p2, rfl, (hs2.erase 1).erase 1, hv2⟩
end Go.E.YtheiididldemmaaGreat

/-
  Bytes as numbers.
-/
namespace Go.E.YtheiididldemmaaGreat
abbrev nc (l : List Nat) : List Int := l.map fun (n : Nat) => (n : Int)
theorem nc_len (l : List Nat) : (nc l).length = l.length := by simp
theorem strEq (a b : ByteArray) : (a.toList == b.toList) = decide (a = b) := by
  by_cases h : a = b
  · subst h; simp
  · rw [decide_eq_false h]
    refine beq_eq_false_iff_ne.2 fun e => h ?_
    rw [ByteArray.toList_eq, ByteArray.toList_eq] at e
    cases a; cases b
    congr 1
    exact Array.toList_inj.1 e
end Go.E.YtheiididldemmaaGreat

/-
  Which keys may be.
-/
namespace Go.E.YtheiididldemmaaGreat
open Go.Proofs
set_option maxRecDepth 100000
def isB (c : Nat) : Bool := (decide (97 ≤ c) && decide (c ≤ 122)) || (decide (48 ≤ c) && decide (c ≤ 57)) || decide (c = 45)
def keyOk (l : List Nat) : Bool := decide (0 < l.length) && decide (l.length ≤ 20) && l.all isB
theorem isByte_spec {m : Mem} {c : Nat} : Ret Tryz.prog 32 [.v (.int .u8 (c : Int))] m [boolV (isB c)] := by
  have e45 : ((c : Int) == 45) = decide (c = 45) := by by_cases h : c = 45 <;> simp [h]; omega
  refine en32 rfl (goY ?_)
  conv => whnf
  repeat' (first | (refine ⟨fun h => ?_, fun h => ?_⟩ <;> conv => whnf) | fail)
  all_goals (refine ⟨?_, rfl⟩; (try simp only [e45]); by_cases h45 : c = 45 <;> simp [isB, h45] at * <;> omega)
theorem chs_at (s : ByteArray) (i : Nat) : (s.data.toList.getD i 0).toNat = (chs s).getD i 0 := by
  simp only [chs, List.getD_eq_getElem?_getD, List.getElem?_map]
  cases s.data.toList[i]? <;> rfl
theorem right_key_spec {m : Mem} {s : ByteArray} (hs : s.size ≤ 1000000) : Ret Tryz.prog 19 [.v (.string s)] m [boolV (keyOk (chs s))] := by
  refine en19 rfl (goY ?_)
  conv => whnf
  refine .mk (ι := Nat) (fun i => s.size - i) (fun i mm => i ≤ s.size ∧ i ≤ 20 ∧ (∀ x ∈ (chs s).take i, isB x = true) ∧ mm = m) (fun i => [(0, .c (.v (.string s))), (5, .c (i64 s.size)), (6, .c (i64 i))]) (fun _ => []) 0 ⟨by omega, by omega, by simp, rfl⟩ ?_ ?_
  · conv => whnf
    repeat (refine And.intro (by first | with_reducible rfl | exact congrArg (Value.int _) (wi (by omega) (by omega)) | exact wi (by omega) (by omega) | rfl) ?_; conv => whnf)
    first | exact trivial | exact fun _ _ h => h
  rintro i mm ⟨hi, hi2, hall, he⟩
  subst mm
  conv => whnf
  refine ⟨fun h1 => ?_, fun h1 => ?_⟩
  · have h1' := of_decide_eq_true h1
    conv => whnf
    refine ⟨fun h2 => ?_, fun h2 => ?_⟩
    · conv => whnf
      have h2' := of_decide_eq_true h2
      refine ⟨?_, rfl⟩
      have : ¬ (s.size ≤ 20) := by omega
      simp [keyOk, chs_len, this]
    · have h2' := of_decide_eq_false h2
      conv => whnf
      have hlt : i < s.size := by omega
      refine ⟨⟨by omega, by omega⟩, ?_⟩
      conv => whnf
      rw [Int.toNat_natCast, chs_at]
      first | refine xretk (isByte_spec) ?_ | refine xret (isByte_spec) ?_
      conv => whnf
      have hli : i < (chs s).length := by rw [chs_len]; omega
      have hget : (chs s)[i]? = some ((chs s).getD i 0) := by simp [List.getD_eq_getElem?_getD, List.getElem?_eq_getElem hli]
      refine ⟨fun h3 => ?_, fun h3 => ?_⟩
      · conv => whnf
        refine ⟨?_, rfl⟩
        have h3' : isB ((chs s).getD i 0) = false := by simpa using h3
        have : (chs s).all isB = false := by
          rw [List.all_eq_false]
          exact ⟨_, List.mem_of_getElem? hget, by simp only [h3', Bool.false_eq_true, not_false_eq_true]⟩
        simp [keyOk, this]
      · conv => whnf
        have h3' : isB ((chs s).getD i 0) = true := by simpa using h3
        refine ⟨i + 1, ⟨by omega, by omega, ?_, rfl⟩, by omega, ?_⟩
        · intro x hx
          rw [List.take_succ_eq_append_getElem hli] at hx
          rcases List.mem_append.1 hx with hx | hx
          · exact hall x hx
          · rw [List.mem_singleton.1 hx]
            rw [List.getElem?_eq_getElem hli] at hget
            rw [Option.some.inj hget]; exact h3'
        · conv => whnf
          repeat (refine And.intro (by first | with_reducible rfl | (first | exact congrArg (Value.int _) (iadd (by omega))) | exact congrArg (Value.int _) (wi (by omega) (by omega)) | exact wi (by omega) (by omega) | rfl) ?_; conv => whnf)
          first | exact trivial | exact fun _ _ h => h
  · have h1' := of_decide_eq_false h1
    obtain rfl : i = s.size := by omega
    conv => whnf
    refine ⟨?_, rfl⟩
    have hl := chs_len s
    rw [← hl, List.take_length] at hall
    have : (chs s).all isB = true := List.all_eq_true.2 hall
    simp [keyOk, this, hl]
    omega
theorem hStr : ∃ ti, tt.get 9 = some ti := ⟨_, rfl⟩
end Go.E.YtheiididldemmaaGreat

/-
  Slices of maund/watch.told: slices.IndexFunc, ContainsFunc.
-/
namespace Go.E.YtheiididldemmaaGreat
open Go.Proofs
set_option maxRecDepth 100000
set_option maxHeartbeats 1000000 in
theorem indexW0_spec {m : Mem} {v : Value} {E : List Rw} {F : Nat} {p : Rw → Bool} (hv : Wa m v E) (hF : ∀ e ∈ E, Ret Tryz.prog F [Wv e] m [boolV (p e)]) (hl : E.length ≤ 100000000) : Ret Tryz.prog 37 [.v v, (fn0V F)] m [i64 (idxG p E)] := by
  obtain ⟨a, c, rfl⟩ := hv.shape
  refine en37 rfl (goY ?_)
  conv => whnf
  refine .mk (ι := Nat) (fun i => E.length - i) (fun i mm => i ≤ E.length ∧ (∀ x ∈ E.take i, p x = false) ∧ mm = m) (fun i => [(0, .c (.v (.slice a E.length c))), (1, .c (fn0V F)), (7, .c (i64 E.length)), (8, .c (i64 i))]) (fun _ => []) 0 ⟨by omega, by simp, rfl⟩ ?_ ?_
  · conv => whnf
    repeat (refine And.intro (by first | with_reducible rfl | exact congrArg (Value.int _) (wi (by omega) (by omega)) | exact wi (by omega) (by omega) | rfl) ?_; conv => whnf)
    first | exact trivial | exact fun _ _ h => h
  rintro i mm ⟨hi, hall, he⟩
  subst mm
  conv => whnf
  refine ⟨fun h => ?_, fun h => ?_⟩
  · have h' := of_decide_eq_true h
    have hlt : i < E.length := by omega
    obtain ⟨bl, ol, c', hh, hg⟩ := hv.real hlt
    injection hh with hh1 _ hh3
    subst hh1
    clear hh3 c'
    have hg := hg i hlt
    conv => whnf
    repeat (refine And.intro (by first | omega | (simp only [times]; omega)) ?_; conv => whnf)
    refine ⟨[.one (.int .i64 E[i].1), .one (.int .i64 E[i].2.1.1), .one (.int .i64 E[i].2.1.2.1), .one (.int .i64 E[i].2.1.2.2), .one (.int .i64 E[i].2.2.1.1), .one (.int .u64 E[i].2.2.1.2), .one (.slice E[i].2.2.2.1 E[i].2.2.2.2.1 E[i].2.2.2.2.2)], ⟨rfl, rfl, rfl, rfl, rfl, rfl, rfl, trivial⟩, rfl, by simp only [times, Int.toNat_natCast]; exact hg, ?_⟩
    conv => whnf
    first | refine xretk ((hF E[i] (List.getElem_mem hlt))) ?_ | refine xret ((hF E[i] (List.getElem_mem hlt))) ?_
    conv => whnf
    have hst : E.take (i + 1) = E.take i ++ [E[i]] := List.take_succ_eq_append_getElem hlt
    refine ⟨fun h => ?_, fun h => ?_⟩
    · conv => whnf
      exact ⟨by rw [idxG_at hlt hall h], rfl⟩
    · conv => whnf
      refine ⟨i + 1, ⟨by omega, fun x hx => ?_, rfl⟩, by omega, ?_⟩
      · rw [hst] at hx
        rcases List.mem_append.1 hx with hx | hx
        · exact hall x hx
        · rw [List.mem_singleton.1 hx]; exact h
      · conv => whnf
        repeat (refine And.intro (by first | with_reducible rfl | (first | exact congrArg (Value.int _) (iadd (by omega))) | exact congrArg (Value.int _) (wi (by omega) (by omega)) | exact wi (by omega) (by omega) | rfl) ?_; conv => whnf)
        first | exact trivial | exact fun _ _ h => h
  · have h' := of_decide_eq_false h
    obtain rfl : i = E.length := by omega
    rw [List.take_length] at hall
    conv => whnf
    exact ⟨by rw [idxG_none hall], rfl⟩
theorem containsW0_spec {m : Mem} {v : Value} {E : List Rw} {F : Nat} {p : Rw → Bool} (hv : Wa m v E) (hF : ∀ e ∈ E, Ret Tryz.prog F [Wv e] m [boolV (p e)]) (hl : E.length ≤ 100000000) : Ret Tryz.prog 21 [.v v, (fn0V F)] m [boolV (E.any p)] := by
  obtain ⟨a, c, rfl⟩ := hv.shape
  refine en21 rfl (goY ?_)
  conv => whnf
  first | refine xretk (indexW0_spec hv hF hl) ?_ | refine xret (indexW0_spec hv hF hl) ?_
  conv => whnf
  exact ⟨by rw [idxG_nonneg], rfl⟩
set_option maxHeartbeats 1000000 in
theorem indexW1_spec {m : Mem} {v : Value} {E : List Rw} {F b : Nat} {p : Rw → Bool} (hv : Wa m v E) (hF : ∀ e ∈ E, Ret Tryz.prog F [Wv e, ptrV b] m [boolV (p e)]) (hl : E.length ≤ 100000000) : Ret Tryz.prog 37 [.v v, (fnP1V F b)] m [i64 (idxG p E)] := by
  obtain ⟨a, c, rfl⟩ := hv.shape
  refine en37 rfl (goY ?_)
  conv => whnf
  refine .mk (ι := Nat) (fun i => E.length - i) (fun i mm => i ≤ E.length ∧ (∀ x ∈ E.take i, p x = false) ∧ mm = m) (fun i => [(0, .c (.v (.slice a E.length c))), (1, .c (fnP1V F b)), (7, .c (i64 E.length)), (8, .c (i64 i))]) (fun _ => []) 0 ⟨by omega, by simp, rfl⟩ ?_ ?_
  · conv => whnf
    repeat (refine And.intro (by first | with_reducible rfl | exact congrArg (Value.int _) (wi (by omega) (by omega)) | exact wi (by omega) (by omega) | rfl) ?_; conv => whnf)
    first | exact trivial | exact fun _ _ h => h
  rintro i mm ⟨hi, hall, he⟩
  subst mm
  conv => whnf
  refine ⟨fun h => ?_, fun h => ?_⟩
  · have h' := of_decide_eq_true h
    have hlt : i < E.length := by omega
    obtain ⟨bl, ol, c', hh, hg⟩ := hv.real hlt
    injection hh with hh1 _ hh3
    subst hh1
    clear hh3 c'
    have hg := hg i hlt
    conv => whnf
    repeat (refine And.intro (by first | omega | (simp only [times]; omega)) ?_; conv => whnf)
    refine ⟨[.one (.int .i64 E[i].1), .one (.int .i64 E[i].2.1.1), .one (.int .i64 E[i].2.1.2.1), .one (.int .i64 E[i].2.1.2.2), .one (.int .i64 E[i].2.2.1.1), .one (.int .u64 E[i].2.2.1.2), .one (.slice E[i].2.2.2.1 E[i].2.2.2.2.1 E[i].2.2.2.2.2)], ⟨rfl, rfl, rfl, rfl, rfl, rfl, rfl, trivial⟩, rfl, by simp only [times, Int.toNat_natCast]; exact hg, ?_⟩
    conv => whnf
    first | refine xretk ((hF E[i] (List.getElem_mem hlt))) ?_ | refine xret ((hF E[i] (List.getElem_mem hlt))) ?_
    conv => whnf
    have hst : E.take (i + 1) = E.take i ++ [E[i]] := List.take_succ_eq_append_getElem hlt
    refine ⟨fun h => ?_, fun h => ?_⟩
    · conv => whnf
      exact ⟨by rw [idxG_at hlt hall h], rfl⟩
    · conv => whnf
      refine ⟨i + 1, ⟨by omega, fun x hx => ?_, rfl⟩, by omega, ?_⟩
      · rw [hst] at hx
        rcases List.mem_append.1 hx with hx | hx
        · exact hall x hx
        · rw [List.mem_singleton.1 hx]; exact h
      · conv => whnf
        repeat (refine And.intro (by first | with_reducible rfl | (first | exact congrArg (Value.int _) (iadd (by omega))) | exact congrArg (Value.int _) (wi (by omega) (by omega)) | exact wi (by omega) (by omega) | rfl) ?_; conv => whnf)
        first | exact trivial | exact fun _ _ h => h
  · have h' := of_decide_eq_false h
    obtain rfl : i = E.length := by omega
    rw [List.take_length] at hall
    conv => whnf
    exact ⟨by rw [idxG_none hall], rfl⟩
theorem containsW1_spec {m : Mem} {v : Value} {E : List Rw} {F b : Nat} {p : Rw → Bool} (hv : Wa m v E) (hF : ∀ e ∈ E, Ret Tryz.prog F [Wv e, ptrV b] m [boolV (p e)]) (hl : E.length ≤ 100000000) : Ret Tryz.prog 21 [.v v, (fnP1V F b)] m [boolV (E.any p)] := by
  obtain ⟨a, c, rfl⟩ := hv.shape
  refine en21 rfl (goY ?_)
  conv => whnf
  first | refine xretk (indexW1_spec hv hF hl) ?_ | refine xret (indexW1_spec hv hF hl) ?_
  conv => whnf
  exact ⟨by rw [idxG_nonneg], rfl⟩
end Go.E.YtheiididldemmaaGreat
