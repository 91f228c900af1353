/-
  Wa4, E31, VisG, Fi1, Fi2, SortLay, SortS, Fi3, Wa5, Wa6, ToF, SbT, Wa7, Wa8, E16, E18
-/
import Derived.Test.YtheiididldemmaaGreatWatchNothingZ9
import Derived.Laws.NewFold
import Derived.Shelf.Slices.In.SortAlone
import Derived.Shelf.Slices.In.SortNone
import Derived.ProofKit
import Derived.OpenShut
import Derived.ChangeArms
/-
  Contracts of watch: an event remembered.
-/
namespace Go.E.YtheiididldemmaaGreat
open Go.Proofs
set_option maxRecDepth 100000
def wroteF (E : List Ev) (k : ByteArray) (node : Int) (e : Ev) : Int :=
  if keyOk (chs k) = false then 1 else if node < 1 ∨ 8 < node then 11 else if rightE e = false then 3 else if E.any (wclash e) = true then 10 else 0
def absW (D : List WRow) : List (ByteArray × List Ev) := D.map fun d => (d.k, d.es)
def evA (k : ByteArray) : List (ByteArray × List Ev) → List Ev
  | [] => []
  | x :: r => if k = x.1 then x.2 else evA k r
def putA (k : ByteArray) (e : Ev) : List (ByteArray × List Ev) → List (ByteArray × List Ev)
  | [] => [(k, [e])]
  | x :: r => if k = x.1 then (x.1, x.2 ++ [e]) :: r else x :: putA k e r
theorem evsW_abs (k : ByteArray) : ∀ D : List WRow, evsW D k = evA k (absW D)
  | [] => rfl
  | d :: D => by
    have ih := evsW_abs k D
    unfold evsW findW at *
    rw [List.find?_cons]
    show _ = if k = d.k then d.es else evA k (absW D)
    by_cases h : k = d.k
    · rw [decide_eq_true h, if_pos h]; rfl
    · rw [decide_eq_false h, if_neg h]; exact ih
theorem evA_put (k k' : ByteArray) (e : Ev) : ∀ A, evA k' (putA k e A) = if k' = k then evA k A ++ [e] else evA k' A
  | [] => by
    by_cases h : k' = k
    · simp [putA, evA, h]
    · simp [putA, evA, h]
  | x :: r => by
    have ih := evA_put k k' e r
    unfold putA
    by_cases h : k = x.1
    · rw [if_pos h]
      by_cases h2 : k' = k
      · have h3 : k' = x.1 := h2.trans h
        simp [evA, h2, h]
      · have h3 : ¬ k' = x.1 := fun e => h2 (e.trans h.symm)
        simp [evA, h2, h3]
    · rw [if_neg h]
      by_cases h3 : k' = x.1
      · have h2 : ¬ k' = k := fun e => h (e.symm.trans h3)
        simp [evA, h3]
        intro e; exact absurd e.symm h
      · simp only [evA, if_neg h3, if_neg h]; exact ih
theorem findW_split {k : ByteArray} {D : List WRow} {d : WRow} (h : findW k D = some d) : ∃ A B, D = A ++ d :: B ∧ k = d.k ∧ ∀ x ∈ A, k ≠ x.k := by
  unfold findW at h
  obtain ⟨h1, A, B, h2, h3⟩ := List.find?_eq_some_iff_append.1 h
  exact ⟨A, B, h2, of_decide_eq_true h1, fun x hx => by have := h3 x hx; simpa using this⟩
theorem findW_none {k : ByteArray} {D : List WRow} (h : findW k D = none) : ∀ x ∈ D, k ≠ x.k := fun x hx => by
  unfold findW at h
  have := List.find?_eq_none.1 h x hx
  simpa using this
theorem setM_found {k : ByteArray} {v : CV} {clock : Nat} {d : WRow} {B : List (Men ByteArray)} (hk : k = d.k) : ∀ {A : List WRow}, (∀ x ∈ A, k ≠ x.k) → setM k v clock (A.map WRow.men ++ d.men :: B) = A.map WRow.men ++ ⟨k, v, d.b⟩ :: B
  | [], _ => by
    show setM k v clock (d.men :: B) = _
    rw [setM, if_pos (show k = d.men.k from hk)]; rfl
  | x :: A, h => by
    have hx : ¬ k = x.men.k := h x (by simp)
    simp only [List.map_cons, List.cons_append]
    rw [setM, if_neg hx, setM_found hk fun y hy => h y (by simp [hy])]
theorem setM_new {k : ByteArray} {v : CV} {clock : Nat} : ∀ {A : List WRow}, (∀ x ∈ A, k ≠ x.k) → setM k v clock (A.map WRow.men) = A.map WRow.men ++ [⟨k, v, clock⟩]
  | [], _ => rfl
  | x :: A, h => by
    have hx : ¬ k = x.men.k := h x (by simp)
    simp only [List.map_cons, List.cons_append]
    rw [setM, if_neg hx, setM_new fun y hy => h y (by simp [hy])]
theorem putA_found {k : ByteArray} {e : Ev} {d : WRow} {B : List (ByteArray × List Ev)} (hk : k = d.k) : ∀ {A : List WRow}, (∀ x ∈ A, k ≠ x.k) → putA k e (absW A ++ (d.k, d.es) :: B) = absW A ++ (d.k, d.es ++ [e]) :: B
  | [], _ => by
    show putA k e ((d.k, d.es) :: B) = _
    rw [putA, if_pos hk]; rfl
  | x :: A, h => by
    have hx : ¬ k = x.k := h x (by simp)
    show putA k e ((x.k, x.es) :: (absW A ++ (d.k, d.es) :: B)) = _
    rw [putA, if_neg hx, putA_found hk fun y hy => h y (by simp [hy])]; rfl
theorem putA_new {k : ByteArray} {e : Ev} : ∀ {A : List WRow}, (∀ x ∈ A, k ≠ x.k) → putA k e (absW A) = absW A ++ [(k, [e])]
  | [], _ => rfl
  | x :: A, h => by
    have hx : ¬ k = x.k := h x (by simp)
    show putA k e ((x.k, x.es) :: absW A) = _
    rw [putA, if_neg hx, putA_new fun y hy => h y (by simp [hy])]; rfl
theorem WRowOk.sub {r r' : Mem} {clock clock' : Nat} {d : WRow} (h : WRowOk r clock d) (hs : Sub r r') (hc : clock ≤ clock') : WRowOk r' clock' d := ⟨h.own, h.evs.sub hs, by have := h.born; omega⟩
theorem absW_append (A B : List WRow) : absW (A ++ B) = absW A ++ absW B := by unfold absW; rw [List.map_append]
theorem findM_none_W {k : ByteArray} {D : List WRow} (h : findW k D = none) : findM k (D.map WRow.men) = none := by rw [findM_W, h]; rfl
set_option maxHeartbeats 8000000 in
theorem stepW {m3 m p p2 r o7 : Mem} {b bm b8 clock : Nat} {D : List WRow} {k : ByteArray} {node : Int} {x' : Rv} {e : Ev} (hs : Split m3 [p2, o7, p, m]) (h : WO p b bm r D clock) (hx : EvIs p2 x' e) (hb8 : m3 b8 = none) (hok : OkW D) :
    PrimSpec Tryz.prog (.builtin .append [65, 65]) [((findW k D).map fun d => CV.v (.slice d.a d.rs.length d.c)).getD (.v (.slice none 0 0)), .v (.slice (some ⟨b8, 0, none⟩) 1 1)] (m3.set b8 (.cells (encW (node, x')).toArray 59)) fun r' m' =>
      ∃ v', r' = [.v v'] ∧ v'.oneCell' = true ∧ Sub o7 m' ∧ m' b = some (watchO bm) ∧ m' bm = some (wmapO D clock) ∧ ∃ p' ro D' clock', Split (m'.set bm (mapO Value.string (setM k (.v v') clock (D.map WRow.men)) (clockM k clock (D.map WRow.men)))) [p', m] ∧ WO p' b bm ro D' clock' ∧ absW D' = putA k e (absW D) := by
  have hf := Split.flat hs (i := 2) rfl h.sp
  cases hfd : findW k D with
  | none =>
    have hnk := findW_none hfd
    have hf1 := hf.addEmp
    refine (pushW (i := 0) (x := (node, x')) hf1 rfl hb8 (Wo.nil emp) (by simp)).mono ?_
    rintro r' m' ⟨v', q', rfl, hs4, hv'⟩
    have hs4 : Split m' (q' :: ((blk1 b (watchO bm) :: blk1 bm (wmapO D clock) :: r :: D.map (·.q)) ++ [p2, o7, m])) := hs4
    have hv' : Wo q' v' [(node, x')] := hv'
    obtain ⟨a', c', rfl⟩ := hv'.el.shape
    obtain ⟨w, hw⟩ : ∃ w : WRow, w = ⟨k, a', c', q', [(node, x')], [e], clock⟩ := ⟨_, rfl⟩
    have wq : w.q = q' := by rw [hw]
    have wb : w.b = clock := by rw [hw]
    have wk : w.k = k := by rw [hw]
    have wes : w.es = [e] := by rw [hw]
    have wok : WRowOk (joinM p2 r) (clock + 1) w := by rw [hw]; exact ⟨hv', EvsIs.one (hx.sub (joinM_subL _ _)), by simp⟩
    have e1 : setM k (.v (.slice a' [(node, x')].length c')) clock (D.map WRow.men) = (D ++ [w]).map WRow.men := by
      rw [setM_new hnk, List.map_append, hw]; rfl
    have e2 : clockM k clock (D.map WRow.men) = clock + 1 := by unfold clockM; rw [findM_none_W hfd]; rfl
    clear hw
    refine ⟨_, rfl, rfl, hs4.sub (by simp), hs4.get (a := blk1 b (watchO bm)) (by simp) (blk1_same ..), hs4.get (a := blk1 bm (wmapO D clock)) (by simp) (blk1_same ..), ?_⟩
    rw [e1, e2]
    have hs5 := hs4.setAt (i := 2) rfl (blk1_same ..) (wmapO (D ++ [w]) (clock + 1))
    rw [blk1_set] at hs5
    have hs5 : Split (m'.set bm (wmapO (D ++ [w]) (clock + 1))) (q' :: ((blk1 b (watchO bm) :: blk1 bm (wmapO (D ++ [w]) (clock + 1)) :: r :: D.map (·.q)) ++ [p2, o7, m])) := hs5
    have hs6 := hs5.perm (l' := o7 :: p2 :: r :: m :: blk1 b (watchO bm) :: blk1 bm (wmapO (D ++ [w]) (clock + 1)) :: (D ++ [w]).map (·.q)) (by classical exact List.perm_iff_count.2 fun x => by simp only [wq, List.map_append, List.map_cons, List.map_nil, List.count_cons, List.count_append, List.count_nil]; omega)
    have hdj := hs6.drop.dj
    have hs7 := hs6.drop.pair.perm (l' := m :: blk1 b (watchO bm) :: blk1 bm (wmapO (D ++ [w]) (clock + 1)) :: joinM p2 r :: (D ++ [w]).map (·.q)) (by classical exact List.perm_iff_count.2 fun x => by simp only [List.count_cons]; omega)
    obtain ⟨g1, g2⟩ := hs7.restP
    refine ⟨_, joinM p2 r, D ++ [w], _, g1, ⟨g2, ?_, ?_, ?_⟩, ?_⟩
    · intro d hd
      rcases List.mem_append.1 hd with hd | hd
      · exact (h.ok d hd).sub (joinM_subR hdj) (by omega)
      · rw [List.mem_singleton.1 hd]; exact wok
    · rw [List.map_append, List.nodup_append]
      refine ⟨h.keys, by simp, fun y hy z hz => ?_⟩
      obtain ⟨d, hd, rfl⟩ := List.mem_map.1 hy
      simp only [List.map_cons, List.map_nil, List.mem_singleton] at hz
      rw [hz, wk]
      exact (hnk d hd).symm
    · rw [List.pairwise_append]
      refine ⟨h.births, by simp, fun y hy z hz => ?_⟩
      rw [List.mem_singleton.1 hz]
      have := (h.ok y hy).born
      rw [wb]
      omega
    · rw [absW_append, putA_new hnk]
      show absW D ++ [(w.k, w.es)] = _
      rw [wk, wes]
  | some d =>
    obtain ⟨A, B, rfl, hkd, hA⟩ := findW_split hfd
    have hd : d ∈ A ++ d :: B := by simp
    have hdo := h.ok d hd
    have hdl := hdo.evs.len
    rw [List.length_map] at hdl
    have hle := (hok d hd).1
    have hf1 := hf.perm (l' := d.q :: ((blk1 b (watchO bm) :: blk1 bm (wmapO (A ++ d :: B) clock) :: r :: (A.map (·.q) ++ B.map (·.q))) ++ [p2, o7, m])) (by classical exact List.perm_iff_count.2 fun x => by simp only [List.map_append, List.map_cons, List.count_cons, List.count_append, List.count_nil, List.eraseIdx_cons_succ, List.eraseIdx_cons_zero]; omega)
    refine (pushW (i := 0) (x := (node, x')) hf1 rfl hb8 hdo.own (by omega)).mono ?_
    rintro r' m' ⟨v', q', rfl, hs4, hv'⟩
    have hs4 : Split m' (q' :: ((blk1 b (watchO bm) :: blk1 bm (wmapO (A ++ d :: B) clock) :: r :: (A.map (·.q) ++ B.map (·.q))) ++ [p2, o7, m])) := hs4
    obtain ⟨a', c', rfl⟩ := hv'.el.shape
    obtain ⟨w, hw⟩ : ∃ w : WRow, w = ⟨d.k, a', c', q', d.rs ++ [(node, x')], d.es ++ [e], d.b⟩ := ⟨_, rfl⟩
    have wq : w.q = q' := by rw [hw]
    have wb : w.b = d.b := by rw [hw]
    have wk : w.k = d.k := by rw [hw]
    have wes : w.es = d.es ++ [e] := by rw [hw]
    have e1 : setM k (.v (.slice a' (d.rs ++ [(node, x')]).length c')) clock ((A ++ d :: B).map WRow.men) = (A ++ w :: B).map WRow.men := by
      rw [List.map_append, List.map_cons, setM_found hkd hA, List.map_append, List.map_cons, hw, hkd]; rfl
    have e2 : clockM k clock ((A ++ d :: B).map WRow.men) = clock := by unfold clockM; rw [findM_W, hfd]; rfl
    refine ⟨_, rfl, rfl, hs4.sub (by simp), hs4.get (a := blk1 b (watchO bm)) (by simp) (blk1_same ..), hs4.get (a := blk1 bm (wmapO (A ++ d :: B) clock)) (by simp) (blk1_same ..), ?_⟩
    rw [e1, e2]
    have hs5 := hs4.setAt (i := 2) rfl (blk1_same ..) (wmapO (A ++ w :: B) clock)
    rw [blk1_set] at hs5
    have hs5 : Split (m'.set bm (wmapO (A ++ w :: B) clock)) (q' :: ((blk1 b (watchO bm) :: blk1 bm (wmapO (A ++ w :: B) clock) :: r :: (A.map (·.q) ++ B.map (·.q))) ++ [p2, o7, m])) := hs5
    have hs6 := hs5.perm (l' := o7 :: p2 :: r :: m :: blk1 b (watchO bm) :: blk1 bm (wmapO (A ++ w :: B) clock) :: (A ++ w :: B).map (·.q)) (by classical exact List.perm_iff_count.2 fun x => by simp only [wq, List.map_append, List.map_cons, List.map_nil, List.count_cons, List.count_append, List.count_nil]; omega)
    have hdj := hs6.drop.dj
    have hs7 := hs6.drop.pair.perm (l' := m :: blk1 b (watchO bm) :: blk1 bm (wmapO (A ++ w :: B) clock) :: joinM p2 r :: (A ++ w :: B).map (·.q)) (by classical exact List.perm_iff_count.2 fun x => by simp only [List.count_cons]; omega)
    have wok : WRowOk (joinM p2 r) clock w := by
      rw [hw]
      refine ⟨hv', ?_, hdo.born⟩
      rw [List.map_append]
      exact (hdo.evs.sub (joinM_subR hdj)).append (EvsIs.one (hx.sub (joinM_subL _ _)))
    clear hw
    obtain ⟨g1, g2⟩ := hs7.restP
    refine ⟨_, joinM p2 r, A ++ w :: B, _, g1, ⟨g2, ?_, ?_, ?_⟩, ?_⟩
    · intro y hy
      rcases List.mem_append.1 hy with hy | hy
      · exact (h.ok y (by simp [hy])).sub (joinM_subR hdj) (by omega)
      · rcases List.mem_cons.1 hy with rfl | hy
        · exact wok
        · exact (h.ok y (by simp [hy])).sub (joinM_subR hdj) (by omega)
    · have := h.keys
      rw [List.map_append, List.map_cons] at this ⊢
      rw [wk]; exact this
    · have := h.births
      rw [List.pairwise_append, List.pairwise_cons] at this ⊢
      refine ⟨this.1, ⟨fun y hy => by rw [wb]; exact this.2.1.1 y hy, this.2.1.2⟩, fun y hy z hz => ?_⟩
      rcases List.mem_cons.1 hz with rfl | hz
      · rw [wb]; exact this.2.2 y hy d (by simp)
      · exact this.2.2 y hy z (by simp [hz])
    · rw [absW_append, absW_append]
      show absW A ++ (w.k, w.es) :: absW B = putA k e (absW A ++ (d.k, d.es) :: absW B)
      rw [putA_found hkd hA, wk, wes]
set_option maxHeartbeats 8000000 in
theorem wrote_spec {mm m p r : Mem} {b bm clock : Nat} {D : List WRow} {k : ByteArray} {node : Int} {x : Rv} {e : Ev} (hs : Split mm [p, m]) (h : WO p b bm r D clock) (hk : k.size ≤ 1000000) (hx : EvIs m x e) (ho : e.2.2.length ≤ 100) (hok : OkW D) :
    Spec Tryz.prog 7 [ptrV b, .v (.string k), i64 node, Vv x] mm fun r' m' => ∃ p' ro D' clock', r' = [i64 (wroteF (evsW D k) k node e)] ∧ Split m' [p', m] ∧ WO p' b bm ro D' clock' ∧ absW D' = if wroteF (evsW D k) k node e = 0 then putA k e (absW D) else absW D := by
  have hp : Sub p mm := hs.sub (by simp)
  refine en7 rfl (goY ?_)
  conv => whnf
  intro b7 hb7
  conv => whnf
  have hb8 : (mm.set b7 (.cells (encV x).toArray 34)) b7 = some (.cells (encV x).toArray 34) := Mem.set_same ..
  have hsub := Mem.sub_set (.cells (encV x).toArray 34) hb7
  have hs1 := hs.new hb7 (.cells (encV x).toArray 34)
  generalize hM : (mm.set b7 (.cells (LB.cells (partsV x)).toArray 34)) = m1
  have hb8 : m1 b7 = some (.cells (encV x).toArray 34) := by rw [← hM]; exact hb8
  have hsub : Sub mm m1 := by rw [← hM]; exact hsub
  have hs1 : Split m1 [blk1 b7 (.cells (encV x).toArray 34), p, m] := by rw [← hM]; exact hs1
  clear hM
  have hx1 := hx.sub ((hs.sub (by simp) : Sub m mm).trans hsub)
  have back : ∃ p' ro D' clock', Split m1 [p', m] ∧ WO p' b bm ro D' clock' ∧ absW D' = absW D := ⟨p, r, D, clock, hs1.drop, h, rfl⟩
  obtain ⟨p0, r0, D0, c0, back1, back2, back3⟩ := back
  refine .mk _ (makeFunc_spec (cs := [.pointer (some ⟨b7, 0, none⟩)]) (by simp [Value.oneCell'])) ?_
  rintro _ _ ⟨rfl, rfl⟩
  conv => whnf
  first | refine xretk (made_spec (hsub _ _ (hp _ _ h.book))) ?_ | refine xret (made_spec (hsub _ _ (hp _ _ h.book))) ?_
  conv => whnf
  refine ⟨fun h => absurd h (by first | decide | simp), fun _ => ?_⟩
  conv => whnf
  first | refine xretk (right_key_spec (s := k) hk) ?_ | refine xret (right_key_spec (s := k) hk) ?_
  conv => whnf
  have hw0 : keyOk (chs k) = false → wroteF (evsW D k) k node e = 1 := fun h0 => by unfold wroteF; rw [if_pos h0]
  have hw1 : keyOk (chs k) = true → (node < 1 ∨ 8 < node) → wroteF (evsW D k) k node e = 11 := fun h0 h1 => by unfold wroteF; rw [if_neg (by rw [h0]; decide), if_pos h1]
  have hw2 : keyOk (chs k) = true → ¬ (node < 1 ∨ 8 < node) → rightE e = false → wroteF (evsW D k) k node e = 3 := fun h0 h1 h2 => by unfold wroteF; rw [if_neg (by rw [h0]; decide), if_neg h1, if_pos h2]
  have hw3 : keyOk (chs k) = true → ¬ (node < 1 ∨ 8 < node) → rightE e = true → wroteF (evsW D k) k node e = if (evsW D k).any (wclash e) = true then 10 else 0 := fun h0 h1 h2 => by unfold wroteF; rw [if_neg (by rw [h0]; decide), if_neg h1, if_neg (by rw [h2]; decide)]
  generalize hwf : wroteF (evsW D k) k node e = wf at hw0 hw1 hw2 hw3
  clear hwf
  cases h1 : keyOk (chs k) with
  | false =>
    refine ⟨fun _ => ?_, fun h => absurd h (by first | decide | simp)⟩
    conv => whnf
    refine ⟨p0, r0, D0, c0, by rw [hw0 h1], back1, back2, ?_⟩
    rw [hw0 h1, if_neg (by decide), back3]
  | true =>
  refine ⟨fun h => absurd h (by first | decide | simp), fun _ => ?_⟩
  conv => whnf
  refine ⟨fun h2 => ?_, fun h2 => ?_⟩
  · have h2' : node < 1 := of_decide_eq_true h2
    conv => whnf
    refine ⟨p0, r0, D0, c0, by rw [hw1 h1 (.inl h2')], back1, back2, ?_⟩
    rw [hw1 h1 (.inl h2'), if_neg (by decide), back3]
  have h2' : ¬ node < 1 := of_decide_eq_false h2
  conv => whnf
  refine ⟨fun h3 => ?_, fun h3 => ?_⟩
  · have h3' : 8 < node := of_decide_eq_true h3
    conv => whnf
    refine ⟨p0, r0, D0, c0, by rw [hw1 h1 (.inr h3')], back1, back2, ?_⟩
    rw [hw1 h1 (.inr h3'), if_neg (by decide), back3]
  have h3' : ¬ 8 < node := of_decide_eq_false h3
  have hn : ¬ (node < 1 ∨ 8 < node) := by omega
  conv => whnf
  refine ⟨partsV x, ⟨rfl, rfl, rfl, rfl, rfl, rfl, trivial⟩, rfl, rangeV hb8, ?_⟩
  conv => whnf
  first | refine xretk (right20_spec (r := x) hx1 (by omega)) ?_ | refine xret (right20_spec (r := x) hx1 (by omega)) ?_
  conv => whnf
  cases h4 : rightE e with
  | false =>
    refine ⟨fun _ => ?_, fun h => absurd h (by first | decide | simp)⟩
    conv => whnf
    refine ⟨p0, r0, D0, c0, by rw [hw2 h1 hn h4], back1, back2, ?_⟩
    rw [hw2 h1 hn h4, if_neg (by decide), back3]
  | true =>
  refine ⟨fun h => absurd h (by first | decide | simp), fun _ => ?_⟩
  conv => whnf
  have hw4 := hw3 h1 hn h4
  clear hw0 hw1 hw2 hw3
  refine ⟨_, mcell_of (hsub _ _ (hp _ _ h.book)) rfl, rfl, ?_⟩
  conv => whnf
  refine .mk _ (lookupW (k := k) (hsub _ _ (hp _ _ h.map))) ?_
  rintro _ _ ⟨rfl, rfl⟩
  conv => whnf
  have hbk : Sub p m1 := hp.trans hsub
  obtain ⟨hEl, hEo⟩ := evsW_ok hok k
  obtain ⟨a, c, R, hfind, hv, hev⟩ : ∃ a c R, ((findW k D).map fun d => CV.v (.slice d.a d.rs.length d.c)).getD (.v (.slice none 0 0)) = .v (.slice a R.length c) ∧ Wa m1 (.slice a R.length c) R ∧ EvsIs m1 (R.map (·.2)) (evsW D k) := by
    unfold evsW
    cases hf : findW k D with
    | none => exact ⟨none, 0, [], rfl, Wa.nil _, EvsIs.nil _⟩
    | some d =>
      have hd := findW_mem hf
      exact ⟨d.a, d.c, d.rs, rfl, ((h.ok d hd).own.ea).sub ((h.rows hd).trans hbk), (h.ok d hd).evs.sub (h.offs.trans hbk)⟩
  have hlen := hev.len
  rw [List.length_map] at hlen
  have hany : (R.any fun t => wclash e (evOf m1 t.2)) = (evsW D k).any (wclash e) := by
    rw [← hev.any (wclash e), List.any_map]; rfl
  rw [hfind]
  first | refine xretk (containsW1_spec (p := fun t => wclash e (evOf m1 t.2)) hv (fun t ht => wrote1_spec (hev.2 _ (List.mem_map.2 ⟨t, ht, rfl⟩)) hx1 hb8 (by have := (hEo _ (hev.mem (List.mem_map.2 ⟨t, ht, rfl⟩))).2.2; omega)) (by omega)) ?_ | refine xret (containsW1_spec (p := fun t => wclash e (evOf m1 t.2)) hv (fun t ht => wrote1_spec (hev.2 _ (List.mem_map.2 ⟨t, ht, rfl⟩)) hx1 hb8 (by have := (hEo _ (hev.mem (List.mem_map.2 ⟨t, ht, rfl⟩))).2.2; omega)) (by omega)) ?_
  conv => whnf
  rw [hany]
  clear hany hfind
  cases h5 : (evsW D k).any (wclash e) with
  | true =>
    rw [h5, if_pos rfl] at hw4
    refine ⟨fun _ => ?_, fun h => absurd h (by first | decide | simp)⟩
    conv => whnf
    refine ⟨p0, r0, D0, c0, by rw [hw4], back1, back2, ?_⟩
    rw [hw4, if_neg (by decide), back3]
  | false =>
  rw [h5, if_neg (by decide)] at hw4
  clear back1 back2 back3 h5 hEl hEo hv hev hlen
  subst hw4
  rw [if_pos rfl]
  refine ⟨fun h => absurd h (by first | decide | simp), fun _ => ?_⟩
  conv => whnf
  have hr5 : MRange m1 b7 5 [.slice x.2.2.1 x.2.2.2.1 x.2.2.2.2] := MRange.mid [.one (.int .i64 x.1.1), .one (.int .i64 x.1.2.1), .one (.int .i64 x.1.2.2), .one (.int .i64 x.2.1.1), .one (.int .u64 x.2.1.2)] [] (c := [.one (.slice x.2.2.1 x.2.2.2.1 x.2.2.2.2)]) hb8 rfl
  refine ⟨_, mcell_rng (j := 0) hr5 rfl, rfl, ?_⟩
  conv => whnf
  refine xcall (cloneD_spec hx1.off (by omega)) ?_
  rintro _ m2 ⟨v2, p2, rfl, hs2', hv2⟩
  conv => whnf
  have hs2 : Split m2 [p2, blk1 b7 (.cells (encV x).toArray 34), p, m] := Split.beside hs2' hs1
  clear hs2'
  obtain ⟨a2, c2, rfl⟩ := hv2.el.shape
  conv => whnf
  refine ⟨_, _, _, hs2.get (a := blk1 b7 (.cells (encV x).toArray 34)) (by simp) (blk1_same ..), ⟨by simp [encV], by simp⟩, ?_⟩
  obtain ⟨x', hx'⟩ : ∃ x' : Rv, x' = (x.1, x.2.1, (a2, e.2.2.length, c2)) := ⟨_, rfl⟩
  have hs3 := hs2.setAt (i := 1) rfl (blk1_same ..) (.cells (encV x').toArray 34)
  rw [blk1_set] at hs3
  have hs3 : Split (m2.set b7 (.cells (encV x').toArray 34)) [p2, blk1 b7 (.cells (encV x').toArray 34), p, m] := hs3
  have he3 : m2.set b7 (.cells ((encV x).toArray.setIfInBounds (0 + 5) (.slice a2 e.2.2.length c2)) 34) = m2.set b7 (.cells (encV x').toArray 34) := by rw [hx']; rfl
  have hxi : EvIs p2 x' e := by rw [hx']; exact ⟨hx.k, hx.d, hv2.ea⟩
  rw [he3]
  generalize m2.set b7 (.cells (encV x').toArray 34) = m3 at hs3 ⊢
  clear he3 hx' hs2 hv2 hr5 hb8 hs1 hsub hbk hx1 hp
  have hb3 : m3 b7 = some (.cells (encV x').toArray 34) := hs3.get (a := blk1 b7 (.cells (encV x').toArray 34)) (by simp) (blk1_same ..)
  have hp3 : Sub p m3 := hs3.sub (by simp)
  conv => whnf
  refine ⟨_, mcell_of (hp3 _ _ h.book) rfl, rfl, ?_⟩
  conv => whnf
  refine ⟨_, mcell_of (hp3 _ _ h.book) rfl, rfl, ?_⟩
  conv => whnf
  refine ⟨partsV x', ⟨rfl, rfl, rfl, rfl, rfl, rfl, trivial⟩, rfl, rangeV hb3, ?_⟩
  conv => whnf
  have hkn : ∀ {bb : Nat} (oo : Obj), m3 bb = none → Kept [b7, b, b] m3 (m3.set bb oo) := fun {bb} oo hbb z hz => Mem.set_ne _ _ fun e => by
    subst e
    simp only [List.mem_cons, List.not_mem_nil, or_false] at hz
    rcases hz with rfl | rfl | rfl
    · rw [hb3] at hbb; cases hbb
    · rw [hp3 _ _ h.book] at hbb; cases hbb
    · rw [hp3 _ _ h.book] at hbb; cases hbb
  refine ⟨?_, ?_⟩
  · conv => whnf
    refine .mk _ (lookupW (k := k) (hp3 _ _ h.map)) ?_
    rintro _ _ ⟨rfl, rfl⟩
    conv => whnf
    refine ⟨fun _ _ => rfl, ?_⟩
    conv => whnf
    refine .mk _ (buildW1 (e := (node, x'))) ?_
    rintro _ _ ⟨b8, hbn, rfl, rfl⟩
    conv => whnf
    refine ⟨hkn _ hbn, ?_⟩
    conv => whnf
    refine .mk _ (stepW hs3 h hxi hbn hok) ?_
    rintro _ m5 ⟨v', rfl, hv1, ho7, hbk, hbm, p', ro, D', clock', f1, f2, f3⟩
    conv => whnf
    have hkk : Kept [b7, b, b] (m3.set b8 (.cells (encW (node, x')).toArray 59)) m5 := fun z hz => by
      simp only [List.mem_cons, List.not_mem_nil, or_false] at hz
      rcases hz with rfl | rfl | rfl
      · rw [ho7 _ _ (blk1_same ..), Mem.sub_set _ hbn _ _ hb3]
      · rw [hbk, Mem.sub_set _ hbn _ _ (hp3 _ _ h.book)]
      · rw [hbk, Mem.sub_set _ hbn _ _ (hp3 _ _ h.book)]
    refine ⟨hkk, ?_⟩
    conv => whnf
    refine .mk _ (mapSet_spec (P := Tryz.prog) strKey (k := k) (v := .v v') Tryz.underlying55 Tryz.underlying9 hbm) ?_
    rintro _ m6 rfl
    conv => whnf
    exact ⟨p', ro, D', clock', rfl, f1, f2, f3⟩
  · conv => whnf
    refine .mk _ (buildW1 (e := (node, x'))) ?_
    rintro _ _ ⟨b8, hbn, rfl, rfl⟩
    conv => whnf
    refine ⟨hkn _ hbn, ?_⟩
    conv => whnf
    refine .mk _ (lookupW (k := k) ((Mem.sub_set _ hbn) _ _ (hp3 _ _ h.map))) ?_
    rintro _ _ ⟨rfl, rfl⟩
    conv => whnf
    refine ⟨fun _ _ => rfl, ?_⟩
    conv => whnf
    refine .mk _ (stepW hs3 h hxi hbn hok) ?_
    rintro _ m5 ⟨v', rfl, hv1, ho7, hbk, hbm, p', ro, D', clock', f1, f2, f3⟩
    conv => whnf
    have hkk : Kept [b7, b, b] (m3.set b8 (.cells (encW (node, x')).toArray 59)) m5 := fun z hz => by
      simp only [List.mem_cons, List.not_mem_nil, or_false] at hz
      rcases hz with rfl | rfl | rfl
      · rw [ho7 _ _ (blk1_same ..), Mem.sub_set _ hbn _ _ hb3]
      · rw [hbk, Mem.sub_set _ hbn _ _ (hp3 _ _ h.book)]
      · rw [hbk, Mem.sub_set _ hbn _ _ (hp3 _ _ h.book)]
    refine ⟨hkk, ?_⟩
    conv => whnf
    refine .mk _ (mapSet_spec (P := Tryz.prog) strKey (k := k) (v := .v v') Tryz.underlying55 Tryz.underlying9 hbm) ?_
    rintro _ m6 rfl
    conv => whnf
    exact ⟨p', ro, D', clock', rfl, f1, f2, f3⟩
end Go.E.YtheiididldemmaaGreat

/-
  A range over a map: whatever order it goes in.
-/
namespace Go.E
section
variable {P : Program} {α : Type} {enc : α → Value}
/-- an iterator over the map b, that has been at these entries -/
def iterO (b clock : Nat) (vis : List Nat) : Obj := .mapIter (some b) clock vis.toArray clock
def leftM (vis : List Nat) (es : List (Men α)) : List (Men α) := es.filter fun e => !vis.contains e.b
theorem rangeM_spec {mt kt et : TypeId} (hm : P.underlying mt = some (.map kt et)) {m : Mem} {b clock : Nat} {es : List (Men α)} (hb : m b = some (mapO enc es clock)) :
    PrimSpec P (.range mt) [.v (.map (some b))] m fun r m' => ∃ it, m it = none ∧ r = [.v (.pointer (some ⟨it, 0, none⟩))] ∧ m' = m.set it (iterO b clock []) := by
  intro _ ty W hW
  refine ⟨[.v (.pointer (some ⟨W.heap.size, 0, none⟩))], _, _, ?_, (by intro y hy; simp at hy; subst hy; rfl), ⟨W.heap.size, hW.none (Nat.le_refl _), rfl, rfl⟩, (After.refl hW).alloc (iterO b clock [])⟩
  simp [Prim.run, Prim.out, Prim.tup, resVal, CV.val, Instr.range, run_underlying hm, MapKept.run_getObj_map (hW _ _ hb), mapO, newObj, Sem.run, Result.andThen, iterO]
theorem rangeM_nil {mt kt et : TypeId} (hm : P.underlying mt = some (.map kt et)) {m : Mem} :
    PrimSpec P (.range mt) [.v (.map none)] m fun r m' => ∃ it, m it = none ∧ r = [.v (.pointer (some ⟨it, 0, none⟩))] ∧ m' = m.set it (.mapIter none 0 #[] 0) := by
  intro _ ty W hW
  refine ⟨[.v (.pointer (some ⟨W.heap.size, 0, none⟩))], _, _, ?_, (by intro y hy; simp at hy; subst hy; rfl), ⟨W.heap.size, hW.none (Nat.le_refl _), rfl, rfl⟩, (After.refl hW).alloc (.mapIter none 0 #[] 0)⟩
  simp [Prim.run, Prim.out, Prim.tup, resVal, CV.val, Instr.range, run_underlying hm, newObj, Sem.run, Result.andThen]
theorem nextM_nil {m : Mem} {it : Nat} (hit : m it = some (.mapIter none 0 #[] 0)) : PrimSpec P (.next false) [.v (.pointer (some ⟨it, 0, none⟩))] m fun r m' => r = [.v (.bool false)] ∧ m' = m := by
  intro _ ty W hW
  have hWi := hW _ _ hit
  refine ⟨[.v (.bool false)], m, W, ?_, (by intro y hy; simp at hy; subst hy; rfl), ⟨rfl, rfl⟩, After.refl hW⟩
  simp [Prim.run, Prim.out, Prim.tup, CV.val, Instr.next, getObj, Sem.run, hWi, Result.andThen]
theorem nextM_spec {m : Mem} {it b clock : Nat} {vis : List Nat} {es : List (Men α)} (hit : m it = some (iterO b clock vis)) (hb : m b = some (mapO enc es clock)) (hborn : ∀ e ∈ es, e.b < clock) (hok : ∀ e ∈ es, e.v.ok) (hone : ∀ a, (enc a).oneCell' = true) :
    PrimSpec P (.next false) [.v (.pointer (some ⟨it, 0, none⟩))] m fun r m' => (leftM vis es = [] ∧ r = [.v (.bool false)] ∧ m' = m) ∨ ∃ e, e ∈ leftM vis es ∧ r = [.v (.bool true), .v (enc e.k), e.v] ∧ m' = m.set it (iterO b clock (vis ++ [e.b])) := by
  intro _ ty W hW
  have hWi := hW _ _ hit
  have hWb := hW _ _ hb
  -- what is left
  have e1 : ((es.map (Men.entry enc)).toArray.filter fun e => !vis.toArray.contains e.born) = ((leftM vis es).map (Men.entry enc)).toArray := by
    simp only [List.filter_toArray, List.filter_map, leftM]
    congr 2
    exact List.filter_congr fun e _ => by simp [Men.entry]; exact decide_eq_decide.2 Iff.rfl
  have e2 : (((leftM vis es).map (Men.entry enc)).toArray.filter fun e => decide (e.born < clock)) = ((leftM vis es).map (Men.entry enc)).toArray := by
    simp only [List.filter_toArray]
    congr 1
    rw [List.filter_eq_self]
    intro x hx
    obtain ⟨e, he, rfl⟩ := List.mem_map.1 hx
    exact decide_eq_true (hborn e (List.mem_filter.1 he).1)
  have e3 : (((leftM vis es).map (Men.entry enc)).toArray.filter fun e => decide (e.born ≥ clock)) = #[] := by
    simp only [List.filter_toArray]
    have : ((leftM vis es).map (Men.entry enc)).filter (fun e => decide (e.born ≥ clock)) = [] := by
      rw [List.filter_eq_nil_iff]
      intro x hx
      obtain ⟨e, he, rfl⟩ := List.mem_map.1 hx
      have := hborn e (List.mem_filter.1 he).1
      intro h
      have h := of_decide_eq_true h
      simp only [Men.entry] at h; omega
    rw [this]
  have e4 : (!vis.toArray.isEmpty && !(es.map (Men.entry enc)).toArray.isEmpty && (es.map (Men.entry enc)).toArray.all fun e => decide (e.born ≥ clock)) = false := by
    cases es with
    | nil => simp
    | cons e es =>
      have h0 := hborn e (by simp)
      have : ((e :: es).map (Men.entry enc)).toArray.all (fun e => decide (e.born ≥ clock)) = false := by
        simp only [List.all_toArray, List.map_cons, List.all_cons, Men.entry]
        rw [decide_eq_false (show ¬ e.b ≥ clock by omega)]; rfl
      rw [this, Bool.and_false]
  have e5 : (Sem.run P (getObj it) W) = .ok (iterO b clock vis) W := by simp [getObj, Sem.run, hWi, iterO]
  cases hl : leftM vis es with
  | nil =>
    rw [hl] at e1 e2 e3
    refine ⟨[.v (.bool false)], m, W, ?_, (by intro y hy; simp at hy; subst hy; rfl), .inl ⟨rfl, rfl, rfl⟩, After.refl hW⟩
    simp only [Prim.run, List.map_cons, List.map_nil, CV.val, Instr.next, Sem.run_bind, e5, Result.andThen_ok, iterO, MapKept.run_getObj_map hWb, mapO, e4, Bool.false_eq_true, if_false, e1, List.map_nil]
    simp [Question.forced, Prim.out, Prim.tup, CV.val]
  | cons e0 es' =>
    have hpos : 0 < (leftM vis es).length := by rw [hl]; simp
    -- which one comes
    have key : ∀ (i : Nat) (W1 : World) (hi : i < (leftM vis es).length), W1.heap = W.heap → After m W m W1 →
        ∃ r m' W', (do
          setObj it (.mapIter (some b) clock (vis.toArray.push ((leftM vis es)[i]).b) clock)
          pure (.tuple #[.bool true, enc ((leftM vis es)[i]).k, ((leftM vis es)[i]).v.val] : Value) : Sem Value).run P W1 = .ok ((Prim.next false).out r) W' ∧ (∀ x ∈ r, x.ok) ∧
          ((leftM vis es = [] ∧ r = [.v (.bool false)] ∧ m' = m) ∨ ∃ e, e ∈ leftM vis es ∧ r = [.v (.bool true), .v (enc e.k), e.v] ∧ m' = m.set it (iterO b clock (vis ++ [e.b]))) ∧ After m W m' W' := by
      intro i W1 hi hheap haft
      have hW1 : Over m W1 := haft.over
      have hm1 := List.getElem_mem hi
      generalize (leftM vis es)[i] = e at hm1
      refine ⟨[.v (.bool true), .v (enc e.k), e.v], _, _, ?_, ?_, .inr ⟨e, hm1, rfl, rfl⟩, haft.trans (After.put hW1 hit _)⟩
      · simp [setObj, Sem.run, hheap, hWi, iterO, Result.andThen, Prim.out, Prim.tup, CV.val]
      · intro y hy
        simp only [List.mem_cons, List.not_mem_nil, or_false] at hy
        rcases hy with rfl | rfl | rfl
        · rfl
        · exact hone _
        · exact hok _ (List.mem_filter.1 hm1).1
    rw [← hl]
    have hne : ((leftM vis es).map (Men.entry enc)).toArray.isEmpty = false := by rw [hl]; simp
    have hsz : (((leftM vis es).map (Men.entry enc)).toArray.map some).size = (leftM vis es).length := by simp
    have hgo : (Instr.next (.pointer (some ⟨it, 0, none⟩)) false ty).run P W = ((choose (.mapNext (leftM vis es).length)).run P W).andThen fun i W1 => (match (((leftM vis es).map (Men.entry enc)).toArray.map some)[i]? with
        | some (some e) => (do setObj it (.mapIter (some b) clock (vis.toArray.push e.born) clock); pure (.tuple #[.bool true, e.key, e.val]) : Sem Value)
        | some none => pure (.tuple #[.bool false])
        | none => stuck "Next: no such candidate").run P W1 := by
      simp only [Instr.next, Sem.run_bind, e5, Result.andThen_ok, iterO, MapKept.run_getObj_map hWb, mapO, e4, Bool.false_eq_true, if_false, e1, e2, e3, hne, Array.append_empty, Array.empty_append, hsz]
      rfl
    have hpick : ∀ i (hi : i < (leftM vis es).length), (((leftM vis es).map (Men.entry enc)).toArray.map some)[i]? = some (some (Men.entry enc (leftM vis es)[i])) := fun i hi => by
      simp [hi]
    have hrun : ∀ a, (Prim.run (.next false) ty [a]) = Instr.next a false ty := fun a => rfl
    simp only [List.map_cons, List.map_nil, CV.val, hrun, hgo, run_choose]
    by_cases hf : (Question.mapNext (leftM vis es).length).forced = true
    · rw [if_pos hf]
      simp only [Result.andThen_ok, hpick 0 hpos]
      exact key 0 W hpos rfl (After.refl hW)
    · rw [if_neg hf]
      have hlt : (Question.mapNext (leftM vis es).length).cut (W.tape W.drawn (.mapNext (leftM vis es).length)) < (leftM vis es).length := Nat.mod_lt _ hpos
      simp only [Result.andThen_ok, hpick _ hlt]
      exact key _ _ hlt rfl (After.refl hW).drew
theorem entryM_spec {m : Mem} {it b clock : Nat} {vis : List Nat} {es : List (Men α)} {e : Men α} (hit : m it = some (iterO b clock (vis ++ [e.b]))) (hb : m b = some (mapO enc es clock)) (he : e ∈ es) (hd : es.Pairwise fun x y => x.b ≠ y.b) (hok : e.v.ok) (hone : (enc e.k).oneCell' = true) :
    PrimSpec P .entry [.v (.pointer (some ⟨it, 0, none⟩))] m fun r m' => r = [.v (enc e.k), e.v] ∧ m = m' := by
  intro _ ty W hW
  have hWi := hW _ _ hit
  have hWb := hW _ _ hb
  have e5 : (Sem.run P (getObj it) W) = .ok (iterO b clock (vis ++ [e.b])) W := by simp [getObj, Sem.run, hWi, iterO]
  have hfind : (es.map (Men.entry enc)).toArray.find? (fun x => x.born == e.b) = some (Men.entry enc e) := by
    rw [List.find?_toArray, List.find?_map]
    have : es.find? ((fun x : MapEntry => x.born == e.b) ∘ Men.entry enc) = some e := by
      clear hb hWb
      induction es with
      | nil => cases he
      | cons x es ih =>
        obtain ⟨h1, h2⟩ := List.pairwise_cons.1 hd
        rw [List.find?_cons]
        rcases List.mem_cons.1 he with rfl | he
        · simp [Men.entry]
        · have hne := h1 e he
          have : ((fun x : MapEntry => x.born == e.b) ∘ Men.entry enc) x = false := by simp [Men.entry, hne]
          rw [this]; exact ih he h2
    rw [this]; rfl
  refine ⟨[.v (enc e.k), e.v], m, W, ?_, ?_, ⟨rfl, rfl⟩, After.refl hW⟩
  · simp only [Prim.run, List.map_cons, List.map_nil, CV.val, Instr.entry, Sem.run_bind, e5, Result.andThen_ok, iterO, MapKept.run_getObj_map hWb, mapO]
    simp [hfind, Prim.out, Prim.tup, resVal, CV.val, Men.entry, MapKept.run_getObj_map hWb]
  · intro y hy
    simp at hy
    rcases hy with rfl | rfl
    · exact hone
    · exact hok
end
end Go.E

/-
  A range over a map, whatever its entries are: which were visited.
-/
namespace Go.E
section
variable {α : Type} {bn : α → Nat}
theorem subG : ∀ {vis F : List α}, (vis.Pairwise fun a b => bn a ≠ bn b) → (∀ f ∈ vis, f ∈ F) → ∃ R, (vis ++ R).Perm F
  | [], F, _, _ => ⟨F, List.Perm.refl _⟩
  | x :: vs, F, hv, hF => by
    obtain ⟨h1, h2⟩ := List.pairwise_cons.1 hv
    obtain ⟨A, B, rfl⟩ := List.append_of_mem (hF x (by simp))
    obtain ⟨R, hR⟩ := subG (vis := vs) (F := A ++ B) h2 fun f hf => by
      have := hF f (by simp [hf])
      rcases List.mem_append.1 this with h | h
      · exact List.mem_append_left _ h
      · rcases List.mem_cons.1 h with rfl | h
        · exact absurd rfl (h1 f hf)
        · exact List.mem_append_right _ h
    refine ⟨R, ?_⟩
    exact (List.Perm.cons x hR).trans List.perm_middle.symm
theorem allG {vis F : List α} (hv : vis.Pairwise fun a b => bn a ≠ bn b) (hF : ∀ f ∈ vis, f ∈ F) (hb : F.Pairwise fun a b => bn a ≠ bn b) (hall : ∀ f ∈ F, ∃ g ∈ vis, bn g = bn f) : vis.Perm F := by
  obtain ⟨R, hR⟩ := subG hv hF
  cases R with
  | nil => simpa using hR
  | cons r R =>
    exfalso
    have hp := (List.Perm.pairwise_iff (fun h => Ne.symm h) hR).2 hb
    have hr : r ∈ F := hR.subset (by simp)
    obtain ⟨g, hg, e⟩ := hall r hr
    exact (List.pairwise_append.1 hp).2.2 g hg r (by simp) e
theorem lenG {vis F : List α} (hv : vis.Pairwise fun a b => bn a ≠ bn b) (hF : ∀ f ∈ vis, f ∈ F) : vis.length ≤ F.length := by
  obtain ⟨R, hR⟩ := subG hv hF
  rw [← hR.length_eq, List.length_append]; omega
theorem sumG {w : α → Nat} {vis F : List α} (hv : vis.Pairwise fun a b => bn a ≠ bn b) (hF : ∀ f ∈ vis, f ∈ F) : (vis.map w).sum ≤ (F.map w).sum := by
  obtain ⟨R, hR⟩ := subG hv hF
  rw [← (hR.map w).sum_nat, List.map_append, List.sum_append]; omega
structure VisG (bn : α → Nat) (F vis : List α) : Prop where
  born : vis.Pairwise fun a b => bn a ≠ bn b
  sub : ∀ f ∈ vis, f ∈ F
theorem VisG.start (F : List α) : VisG bn F [] := ⟨by simp, by simp⟩
theorem VisG.step {F vis : List α} {f : α} (h : VisG bn F vis) (hf : f ∈ F) (hn : ∀ g ∈ vis, bn g ≠ bn f) : VisG bn F (vis ++ [f]) := by
  refine ⟨List.pairwise_append.2 ⟨h.born, by simp, fun a ha b hb => ?_⟩, fun g hg => ?_⟩
  · rw [List.mem_singleton.1 hb]; exact hn a ha
  · rcases List.mem_append.1 hg with hg | hg
    · exact h.sub g hg
    · rw [List.mem_singleton.1 hg]; exact hf
variable {κ : Type} {men : α → Men κ}
theorem leftG_of {F vis : List α} {e : Men κ} (he : e ∈ leftM (vis.map fun x => (men x).b) (F.map men)) : ∃ f ∈ F, e = men f ∧ ∀ g ∈ vis, (men g).b ≠ (men f).b := by
  obtain ⟨h1, h2⟩ := List.mem_filter.1 he
  obtain ⟨f, hf, rfl⟩ := List.mem_map.1 h1
  refine ⟨f, hf, rfl, fun g hg e => ?_⟩
  simp only [Bool.not_eq_true', List.contains_eq_mem, decide_eq_false_iff_not] at h2
  exact h2 (List.mem_map.2 ⟨g, hg, e⟩)
theorem leftG_nil {F vis : List α} (h : VisG (fun x => (men x).b) F vis) (hb : F.Pairwise fun a b => (men a).b ≠ (men b).b) (he : leftM (vis.map fun x => (men x).b) (F.map men) = []) : vis.Perm F := by
  refine allG h.born h.sub hb fun f hf => ?_
  have := List.filter_eq_nil_iff.1 he (men f) (List.mem_map.2 ⟨f, hf, rfl⟩)
  simp only [Bool.not_eq_true', List.contains_eq_mem, decide_eq_false_iff_not, Decidable.not_not] at this
  obtain ⟨g, hg, e⟩ := List.mem_map.1 this
  exact ⟨g, hg, e⟩
end
end Go.E

/-
  Files: what they are in memory.
-/
namespace Go.E.YtheiididldemmaaGreat
open Go.Proofs
set_option maxRecDepth 100000
/-- a file: its name, the block of its record, its bytes as they lie, how many, how many are safe; when it was born; the memory of its bytes -/
structure Fl where
  name : ByteArray
  bx : Nat
  v : Value
  l : List Nat
  safe : Nat
  born : Nat
  p : Mem
def Fl.men (f : Fl) : Men ByteArray := ⟨f.name, .v (.pointer (some ⟨f.bx, 0, none⟩)), f.born⟩
abbrev mapF (F : List Fl) (clock : Nat) : Obj := mapO Value.string (F.map Fl.men) clock
structure Fl.Ok (clock : Nat) (f : Fl) : Prop where
  bs : Bs f.p f.v (nc f.l)
  byt : ∀ x ∈ f.l, x < 256
  safe : f.safe ≤ f.l.length
  born : f.born < clock
section
variable {p : Mem} {bf bm : Nat} {q : Int} {nb ns clock : Nat} {F : List Fl}
/-- the file of a name -/
def fileOf (F : List Fl) (name : ByteArray) : Option Fl := F.find? fun f => decide (name = f.name)
theorem findM_files (name : ByteArray) : ∀ (F : List Fl), findM name (F.map Fl.men) = (fileOf F name).map fun f => .v (.pointer (some ⟨f.bx, 0, none⟩))
  | [] => rfl
  | f :: F => by
    have ih := findM_files name F
    unfold findM fileOf at *
    rw [List.map_cons, List.find?_cons, List.find?_cons]
    by_cases h : name = f.name
    · simp [h, Fl.men]
    · have e1 : decide (name = f.men.k) = false := decide_eq_false h
      rw [e1, decide_eq_false h]; exact ih
theorem fileOf_mem {name : ByteArray} {f : Fl} (h : fileOf F name = some f) : f ∈ F ∧ f.name = name := by
  refine ⟨List.mem_of_find?_eq_some h, ?_⟩
  have := List.find?_some h
  exact (of_decide_eq_true this).symm
theorem fileOf_split {name : ByteArray} {f : Fl} (h : fileOf F name = some f) : ∃ A B, F = A ++ f :: B ∧ (∀ x ∈ A, x.name ≠ name) ∧ f.name = name := by
  obtain ⟨h1, A, B, h2, h3⟩ := List.find?_eq_some_iff_append.1 h
  exact ⟨A, B, h2, fun x hx e => by have := h3 x hx; simp [e] at this, (of_decide_eq_true h1).symm⟩
end
abbrev ptrB (b : Nat) : CV := .v (.pointer (some ⟨b, 0, none⟩))
end Go.E.YtheiididldemmaaGreat

/-
  Files: what is asked of them.
-/
namespace Go.E.YtheiididldemmaaGreat
open Go.Proofs
set_option maxRecDepth 100000
def isFB (c : Nat) : Bool := (decide (97 ≤ c) && decide (c ≤ 122)) || ((decide (48 ≤ c) && decide (c ≤ 57)) || (decide (c = 45) || decide (c = 46)))
def nameOk (l : List Nat) : Bool := decide (0 < l.length) && decide (l.length ≤ 20) && l.all isFB
theorem chsAt (s : ByteArray) (i : Nat) : (s.data.toList.getD i 0).toNat = (chs s).getD i 0 := by
  simp only [chs, List.getD_eq_getElem?_getD, List.getElem?_map]
  cases s.data.toList[i]? <;> rfl
def safeOf (F : List Fl) (name : ByteArray) : Nat := ((fileOf F name).map (·.safe)).getD 0
/-! ### atomic numbers within a record -/
end Go.E.YtheiididldemmaaGreat

/-
  slices.Sort at texts: the library's contract (Derived/Shelf), laid at this program; and as a contract of memory that is owned.
-/
namespace Go.E.YtheiididldemmaaGreat
open Go.Proofs
set_option maxRecDepth 100000
def ren : Go.Shelf.Ren := ⟨fun n => if n = 125 then 44 else if n = 128 then 75 else if n = 129 then 76 else if n = 190 then 24 else if n = 258 then 43 else if n = 302 then 66 else if n = 303 then 67 else if n = 304 then 68 else if n = 305 then 69 else if n = 306 then 70 else if n = 307 then 71 else if n = 308 then 72 else if n = 309 then 73 else if n = 310 then 74 else if n = 329 then 97 else if n = 330 then 98 else if n = 333 then 96 else if n = 334 then 99 else if n = 335 then 100 else if n = 336 then 101 else if n = 344 then 110 else 0, fun n => if n = 0 then 0 else if n = 3 then 3 else if n = 4 then 4 else if n = 5 then 5 else if n = 9 then 9 else if n = 31 then 48 else if n = 46 then 88 else if n = 51 then 116 else if n = 53 then 29 else if n = 131 then 113 else if n = 182 then 107 else if n = 183 then 108 else if n = 218 then 138 else if n = 222 then 142 else if n = 228 then 150 else if n = 229 then 151 else 0, fun n => n⟩
theorem laysSort : Lays.n190 Tryz.prog ren where
  mixed := by kernel_rfl
  f125 := by kernel_rfl
  f128 := by kernel_rfl
  f129 := by kernel_rfl
  f190 := by kernel_rfl
  f258 := by kernel_rfl
  f302 := by kernel_rfl
  f303 := by kernel_rfl
  f304 := by kernel_rfl
  f305 := by kernel_rfl
  f306 := by kernel_rfl
  f307 := by kernel_rfl
  f308 := by kernel_rfl
  f309 := by kernel_rfl
  f310 := by kernel_rfl
  f329 := by kernel_rfl
  f330 := by kernel_rfl
  f333 := by kernel_rfl
  f334 := by kernel_rfl
  f335 := by kernel_rfl
  f336 := by kernel_rfl
  f344 := by kernel_rfl
  t0 := Tryz.underlying0
  a0 := Tryz.isAgg0
  z0 := Tryz.sizeOf0
  v0 := Tryz.zeroValue0
  t3 := Tryz.underlying3
  a3 := Tryz.isAgg3
  z3 := Tryz.sizeOf3
  v3 := Tryz.zeroValue3
  t4 := Tryz.underlying4
  a4 := Tryz.isAgg4
  z4 := Tryz.sizeOf4
  v4 := Tryz.zeroValue4
  t5 := Tryz.underlying5
  a5 := Tryz.isAgg5
  z5 := Tryz.sizeOf5
  v5 := Tryz.zeroValue5
  t9 := Tryz.underlying9
  a9 := Tryz.isAgg9
  z9 := Tryz.sizeOf9
  v9 := Tryz.zeroValue9
  t31 := Tryz.underlying48
  a31 := Tryz.isAgg48
  z31 := Tryz.sizeOf48
  v31 := Tryz.zeroValue48
  t46 := Tryz.underlying88
  a46 := Tryz.isAgg88
  z46 := Tryz.sizeOf88
  v46 := Tryz.zeroValue88
  t51 := Tryz.underlying116
  a51 := Tryz.isAgg116
  z51 := Tryz.sizeOf116
  v51 := Tryz.zeroValue116
  t53 := Tryz.underlying29
  a53 := Tryz.isAgg29
  z53 := Tryz.sizeOf29
  v53 := Tryz.zeroValue29
  t131 := Tryz.underlying113
  a131 := Tryz.isAgg113
  z131 := Tryz.sizeOf113
  v131 := Tryz.zeroValue113
  t182 := Tryz.underlying107
  a182 := Tryz.isAgg107
  z182 := Tryz.sizeOf107
  v182 := Tryz.zeroValue107
  t183 := Tryz.underlying108
  a183 := Tryz.isAgg108
  z183 := Tryz.sizeOf108
  v183 := Tryz.zeroValue108
  t218 := Tryz.underlying138
  a218 := Tryz.isAgg138
  z218 := Tryz.sizeOf138
  v218 := Tryz.zeroValue138
  t222 := Tryz.underlying142
  a222 := Tryz.isAgg142
  z222 := Tryz.sizeOf142
  v222 := Tryz.zeroValue142
  t228 := Tryz.underlying150
  a228 := Tryz.isAgg150
  z228 := Tryz.sizeOf150
  v228 := Tryz.zeroValue150
  t229 := Tryz.underlying151
  a229 := Tryz.isAgg151
  z229 := Tryz.sizeOf151
  v229 := Tryz.zeroValue151
end Go.E.YtheiididldemmaaGreat

/-
  slices.Sort at texts, of memory that is owned.
-/
namespace Go.E.YtheiididldemmaaGreat
open Go.Proofs
set_option maxRecDepth 100000
def encB (s : ByteArray) : List UInt8 := s.data.toList
def srtB (ss : List ByteArray) : List ByteArray := ((ss.map encB).mergeSort fun x y => decide (x ≤ y)).map fun l => ⟨l.toArray⟩
theorem encB_inj {a b : ByteArray} (h : encB a = encB b) : a = b := by
  cases a; cases b
  unfold encB at h
  congr 1
  exact Array.toList_inj.1 h
theorem srtB_len (ss : List ByteArray) : (srtB ss).length = ss.length := by simp [srtB, List.length_mergeSort]
theorem enters_sort : Enters Tryz.prog 24 := fun args w => by
  have h1 : Tryz.prog.funcs[24]? = some Tryz.f24 := Tryz.func24
  have h2 : (Tryz.f24.name == "runtime.NumGoroutine") = false := by kernel_rfl
  have h3 : ∃ c, Tryz.f24.body = some c := ⟨_, rfl⟩
  obtain ⟨c, h3⟩ := h3
  have hn' : ¬ Tryz.f24.name = "runtime.NumGoroutine" := by simpa using h2
  simp [callFunc, h1, h3, hn']
theorem after_sorted {m : Mem} {W : World} (hW : Over m W) {b o k : Nat} {arr : Array Value} {T : TypeId} {fr : Nat × Nat} (hb : m b = some (.cells arr T fr)) (d : Array (List UInt8)) (os : Array Obj) :
    After m W (m.set b (.cells (Sort.putCells encStr o d arr) T fr)) (Sort.grow (Sort.putRow encStr (Sort.ahead W k) b o d) os) := by
  have hWb := hW _ _ hb
  have hlt := hW.lt hb
  have hold : ∀ x, x < W.heap.size → (Sort.grow (Sort.putRow encStr (Sort.ahead W k) b o d) os).heap[x]? = if b = x then some (.cells (Sort.putCells encStr o d arr) T fr) else W.heap[x]? := fun x hx => by
    have e : (Sort.grow (Sort.putRow encStr (Sort.ahead W k) b o d) os).heap = W.heap.modify b (Sort.onCells (Sort.putCells encStr o d)) ++ os := rfl
    rw [e, Array.getElem?_append_left (by simpa using hx), Array.getElem?_modify]
    by_cases h : b = x
    · subst h; simp [hWb, Sort.onCells]
    · simp [h]
  refine ⟨fun x u hx => ?_, ?_, rfl, rfl, rfl, fun x hx hn => ?_, fun _ => Nat.le_add_right _ _⟩
  · by_cases h : x = b
    · subst h; rw [Mem.set_same] at hx; rw [hold _ hlt, if_pos rfl]; exact hx
    · rw [Mem.set_ne _ _ h] at hx
      rw [hold _ (hW.lt hx), if_neg (Ne.symm h)]; exact hW _ _ hx
  · show W.heap.size ≤ (W.heap.modify b (Sort.onCells (Sort.putCells encStr o d)) ++ os).size
    simp
  · have h : x ≠ b := fun e => by subst e; rw [hb] at hn; cases hn
    exact ⟨by rw [Mem.set_ne _ _ h]; exact hn, by rw [hold _ hx, if_neg (Ne.symm h)]⟩
theorem sort_spec {m : Mem} {v : Value} {ss : List ByteArray} (hv : Own m 9 1 v (ss.map Value.string)) (hl : ss.length ≤ 1000000) : Spec Tryz.prog 24 [.v v] m fun r m' => r = [] ∧ Own m' 9 1 v ((srtB ss).map Value.string) := by
  refine ⟨enters_sort, fun _ W hW => ?_⟩
  rcases hv with ⟨rfl, e⟩ | ⟨b, o, c, n, arr, rfl, h1, h2, h3, h4, h5, h6⟩
  · have hs : ss = [] := by cases ss with | nil => rfl | cons _ _ => cases e
    subst hs
    exact (Any.slices_Sort_string_none laysSort none 0 W).mono fun e W' ⟨h1, h2⟩ => ⟨[], m, h1, by simp, ⟨rfl, .inl ⟨rfl, by simp [srtB]⟩⟩, by subst h2; exact After.refl hW⟩
  · have hn : ss.length = n := by simpa using h2
    subst hn
    have hWb := hW _ _ h1
    have hlt : b < W.heap.size := hW.lt h1
    have hH : Sort.Holds encStr W b o (ss.map encB).toArray := fun j hj => by
      have hj' : j < ss.length := by simpa using hj
      refine ⟨?_, by simp [World.frozen?, hWb]⟩
      rw [cell_at hWb]
      have := h5 j (.string ss[j]) (by simp [hj'])
      rw [this]
      simp [hj', encB, encStr]
    have hc := calls_of_every_depth fun D => AnyS.slices_Sort_string_alone laysSort D b o c (ss.map encB) W hH hlt (by simp; omega)
    rw [List.length_map] at hc
    refine hc.mono fun e W' ⟨he, k, os, hw⟩ => ?_
    subst he
    subst hw
    refine ⟨[], _, rfl, by simp, ⟨rfl, .inr ⟨b, o, c, ss.length, _, rfl, Mem.set_same .., by rw [List.length_map, srtB_len, Nat.mul_one], h3, ?_, fun j u hu => ?_, ?_⟩⟩, after_sorted hW h1 _ _⟩
    · simp only [Sort.putCells, Array.size_mapIdx]; exact h4
    · have hjl : j < ss.length := by have := (List.getElem?_eq_some_iff.1 hu).1; rw [List.length_map, srtB_len] at this; exact this
      have hsz : ((ss.map encB).mergeSort fun x y => decide (x ≤ y)).toArray.size = ss.length := by simp [List.length_mergeSort]
      have hoj : o + j < arr.size := by omega
      rw [Sort.putCells, Array.getElem?_mapIdx, Array.getElem?_eq_getElem hoj, Option.map_some, if_pos ⟨by omega, by omega⟩, show o + j - o = j by omega, getElem!_pos _ j (by omega)]
      rw [srtB, List.map_map, List.getElem?_map] at hu
      rw [← hu]
      simp [List.getElem?_eq_getElem (show j < ((ss.map encB).mergeSort fun x y => decide (x ≤ y)).length by simpa [List.length_mergeSort] using hjl)]
    · intro u hu
      obtain ⟨x, _, rfl⟩ := List.mem_map.1 hu
      rfl
end Go.E.YtheiididldemmaaGreat

/-
  Files: what goes over all of them.
-/
namespace Go.E.YtheiididldemmaaGreat
open Go.Proofs
set_option maxRecDepth 100000
/-- some files, of other births each, are a part of all -/
theorem subR : ∀ {vis F : List Fl}, (vis.Pairwise fun a b => a.born ≠ b.born) → (∀ f ∈ vis, f ∈ F) → ∃ R, (vis ++ R).Perm F
  | [], F, _, _ => ⟨F, List.Perm.refl _⟩
  | x :: vs, F, hv, hF => by
    obtain ⟨h1, h2⟩ := List.pairwise_cons.1 hv
    obtain ⟨A, B, rfl⟩ := List.append_of_mem (hF x (by simp))
    obtain ⟨R, hR⟩ := subR (vis := vs) (F := A ++ B) h2 fun f hf => by
      have := hF f (by simp [hf])
      rcases List.mem_append.1 this with h | h
      · exact List.mem_append_left _ h
      · rcases List.mem_cons.1 h with rfl | h
        · exact absurd rfl (h1 f hf)
        · exact List.mem_append_right _ h
    refine ⟨R, ?_⟩
    exact (List.Perm.cons x hR).trans List.perm_middle.symm
theorem allR {vis F : List Fl} (hv : vis.Pairwise fun a b => a.born ≠ b.born) (hF : ∀ f ∈ vis, f ∈ F) (hb : F.Pairwise fun a b => a.born ≠ b.born) (hall : ∀ f ∈ F, ∃ g ∈ vis, g.born = f.born) : vis.Perm F := by
  obtain ⟨R, hR⟩ := subR hv hF
  cases R with
  | nil => simpa using hR
  | cons r R =>
    exfalso
    have hp := (List.Perm.pairwise_iff (fun h => Ne.symm h) hR).2 hb
    have hr : r ∈ F := hR.subset (by simp)
    obtain ⟨g, hg, e⟩ := hall r hr
    exact (List.pairwise_append.1 hp).2.2 g hg r (by simp) e
def total (F : List Fl) : Nat := (F.map fun f => f.l.length).sum
theorem total_perm {F G : List Fl} (h : F.Perm G) : total F = total G := (h.map _).sum_nat
theorem total_sub {vis F : List Fl} (hv : vis.Pairwise fun a b => a.born ≠ b.born) (hF : ∀ f ∈ vis, f ∈ F) : total vis ≤ total F := by
  obtain ⟨R, hR⟩ := subR hv hF
  rw [← total_perm hR]
  simp only [total, List.map_append, List.sum_append]; omega
theorem len_sub {vis F : List Fl} (hv : vis.Pairwise fun a b => a.born ≠ b.born) (hF : ∀ f ∈ vis, f ∈ F) : vis.length ≤ F.length := by
  obtain ⟨R, hR⟩ := subR hv hF
  rw [← hR.length_eq, List.length_append]; omega
/-- where a range is: at these files -/
structure Vis (F vis : List Fl) : Prop where
  born : vis.Pairwise fun a b => a.born ≠ b.born
  sub : ∀ f ∈ vis, f ∈ F
theorem Vis.start (F : List Fl) : Vis F [] := ⟨by simp, by simp⟩
theorem Vis.step {F vis : List Fl} {f : Fl} (h : Vis F vis) (hf : f ∈ F) (hn : ∀ g ∈ vis, g.born ≠ f.born) : Vis F (vis ++ [f]) := by
  refine ⟨List.pairwise_append.2 ⟨h.born, by simp, fun a ha b hb => ?_⟩, fun g hg => ?_⟩
  · rw [List.mem_singleton.1 hb]; exact hn a ha
  · rcases List.mem_append.1 hg with hg | hg
    · exact h.sub g hg
    · rw [List.mem_singleton.1 hg]; exact hf
theorem left_of {F vis : List Fl} {e : Men ByteArray} (he : e ∈ leftM (vis.map (·.born)) (F.map Fl.men)) : ∃ f ∈ F, e = f.men ∧ ∀ g ∈ vis, g.born ≠ f.born := by
  obtain ⟨h1, h2⟩ := List.mem_filter.1 he
  obtain ⟨f, hf, rfl⟩ := List.mem_map.1 h1
  refine ⟨f, hf, rfl, fun g hg e => ?_⟩
  simp only [Fl.men, Bool.not_eq_true', List.contains_eq_mem, decide_eq_false_iff_not] at h2
  exact h2 (List.mem_map.2 ⟨g, hg, e⟩)
theorem left_nil {F vis : List Fl} (h : Vis F vis) (hb : F.Pairwise fun a b => a.born ≠ b.born) (he : leftM (vis.map (·.born)) (F.map Fl.men) = []) : vis.Perm F := by
  refine allR h.born h.sub hb fun f hf => ?_
  have := List.filter_eq_nil_iff.1 he f.men (List.mem_map.2 ⟨f, hf, rfl⟩)
  simp only [Fl.men, Bool.not_eq_true', List.contains_eq_mem, decide_eq_false_iff_not, Decidable.not_not] at this
  obtain ⟨g, hg, e⟩ := List.mem_map.1 this
  exact ⟨g, hg, e⟩
/-! ### lists of texts -/
theorem hSs : ∃ ti, tt.get 48 = some ti ∧ ti.k = .slice 9 := ⟨_, rfl, rfl⟩
theorem hSt : ∃ ti, tt.get 9 = some ti ∧ ti.size = 1 ∧ ti.bytes = 16 ∧ (LB.cells ti.zero).length = 1 := ⟨_, rfl, rfl, rfl, rfl⟩
abbrev sc (ss : List ByteArray) : List Value := ss.map Value.string
def So (m : Mem) (v : Value) (ss : List ByteArray) : Prop := Own m 9 1 v (sc ss)
def Sl (m : Mem) (v : Value) (ss : List ByteArray) : Prop := Lies m 1 v (sc ss)
theorem So.sl {m : Mem} {v : Value} {ss : List ByteArray} (h : So m v ss) : Sl m v ss := Own.lies h
theorem So.sub {m m' : Mem} {v : Value} {ss : List ByteArray} (h : So m v ss) (hs : Sub m m') : So m' v ss := Own.sub h hs
theorem Sl.sub {m m' : Mem} {v : Value} {ss : List ByteArray} (h : Sl m v ss) (hs : Sub m m') : Sl m' v ss := Lies.sub h hs
theorem So.nil (m : Mem) : So m (.slice none 0 0) [] := .inl ⟨rfl, rfl⟩
theorem Sl.shape {m : Mem} {v : Value} {ss : List ByteArray} (h : Sl m v ss) : ∃ a c, v = .slice a ss.length c := by
  rcases h with ⟨c, rfl, e⟩ | ⟨b, o, c, n, arr, t, fr, rfl, _, e, _⟩
  · have : ss.length = 0 := by simpa using congrArg List.length e
    exact ⟨none, c, by rw [this]⟩
  · have : ss.length = n := by simpa using e
    exact ⟨_, c, by rw [this]⟩
theorem Sl.real {m : Mem} {v : Value} {ss : List ByteArray} (h : Sl m v ss) {i : Nat} (hi : i < ss.length) : ∃ b o c, v = .slice (some ⟨b, o, none⟩) ss.length c ∧ ∀ j (hj : j < ss.length), mcell m b (o + j) = some (.string ss[j]) := by
  rcases h with ⟨c, rfl, e⟩ | ⟨b, o, c, n, arr, t, fr, rfl, g1, e, _, g2, _⟩
  · have : ss.length = 0 := by simpa using congrArg List.length e
    omega
  · have : ss.length = n := by simpa using e
    exact ⟨b, o, c, by rw [this], fun j hj => mcell_of g1 (g2 j _ (by simp [hj]))⟩
theorem buildS1 {m : Mem} {x : ByteArray} : PrimSpec Tryz.prog (.buildSlice 48 1 [0]) [.v (.string x)] m fun r m' => ∃ b, m b = none ∧ r = [.v (.slice (some ⟨b, 0, none⟩) 1 1)] ∧ m' = m.set b (.cells #[.string x] 9) := by
  obtain ⟨ti, h1, h2⟩ := hSs
  obtain ⟨ei, g1, g2, g3, g4⟩ := hSt
  exact (buildSlice_spec (n := 1) tt_ok h1 h2 g1 rfl rfl (by simp [CV.cs, g2]) (by omega) (by omega)).mono fun r m' ⟨b, e1, e2, e3⟩ => ⟨b, e1, e2, e3⟩
/-- one text more -/
theorem pushS {m p : Mem} {ls : List Mem} {i b' : Nat} {x : ByteArray} {y : Value} {ss : List ByteArray} (hs : Split m ls) (hi : ls[i]? = some p) (hb : m b' = none) (hy : So p y ss) (hl : ss.length ≤ 10000000) :
    PrimSpec Tryz.prog (.builtin .append [48, 48]) [.v y, .v (.slice (some ⟨b', 0, none⟩) 1 1)] (m.set b' (.cells #[.string x] 9)) fun r m' => ∃ y' p', r = [.v y'] ∧ Split m' (ls.set i p') ∧ So p' y' (ss ++ [x]) := by
  obtain ⟨ti, h1, h2⟩ := hSs
  obtain ⟨ei, g1, g2, g3, g4⟩ := hSt
  have hs1 := hs.new hb (.cells #[.string x] 9)
  have e1 : lenV y = ss.length := by obtain ⟨a, c, rfl⟩ := hy.sl.shape; rfl
  have e2 : lenV (.slice (some ⟨b', 0, none⟩) 1 1) = 1 := rfl
  have g : Gives (m.set b' (.cells #[.string x] 9)) ei.size ti.k (.slice (some ⟨b', 0, none⟩) 1 1) (sc [x]) := by
    rw [h2, g2]
    exact .inl ⟨_, rfl, .inl (.inr ⟨b', 0, 1, 1, _, _, _, rfl, Mem.set_same .., rfl, Nat.le_refl _, fun j u hu => by rw [Nat.zero_add, List.getElem?_toArray]; exact hu, by simp [Value.oneCell']⟩)⟩
  have hy' : Own p 9 ei.size y (sc ss) := by rw [g2]; exact hy
  refine (append_at (news := sc [x]) tt_ok h1 h2 g1 h1 (by rw [g2, g4]) hs1 (i := i + 1) (by simpa using hi) hy' g (by rw [e1, e2, g3]; omega) (by rw [e1, e2]; omega)).mono fun r m' ⟨v', p', q1, q2, q3⟩ => ⟨v', p', q1, q2.erase 0, ?_⟩
  have := q3.own
  rw [g2] at this
  rw [So, sc, List.map_append]; exact this
theorem leU_trans (a b c : List UInt8) (h : decide (a ≤ b) = true) (k : decide (b ≤ c) = true) : decide (a ≤ c) = true := decide_eq_true (List.le_trans (of_decide_eq_true h) (of_decide_eq_true k))
theorem leU_total (a b : List UInt8) : (decide (a ≤ b) || decide (b ≤ a)) = true := by
  rcases List.le_total a b with h | h <;> simp [h]
theorem srtU_perm {l l' : List (List UInt8)} (h : l.Perm l') : (l.mergeSort fun x y => decide (x ≤ y)) = l'.mergeSort fun x y => decide (x ≤ y) :=
  List.Perm.eq_of_pairwise (le := fun a b => decide (a ≤ b) = true) (fun a b _ _ h1 h2 => List.le_antisymm (of_decide_eq_true h1) (of_decide_eq_true h2)) (List.pairwise_mergeSort leU_trans leU_total l) (List.pairwise_mergeSort leU_trans leU_total l')
    (((List.mergeSort_perm l _).trans h).trans (List.mergeSort_perm l' _).symm)
theorem srtB_perm {a b : List ByteArray} (h : a.Perm b) : srtB a = srtB b := by
  rw [srtB, srtB, srtU_perm (h.map encB)]
/-- the names, by their order -/
def namesF (F : List Fl) : List ByteArray := srtB (F.map (·.name))
theorem mapHyp {F : List Fl} {P : Fl → Prop} (h : ∀ f ∈ F, P f) {Q : Men ByteArray → Prop} (hq : ∀ f, P f → Q f.men) : ∀ e ∈ F.map Fl.men, Q e := fun e he => by
  obtain ⟨f, hf, rfl⟩ := List.mem_map.1 he; exact hq f (h f hf)
end Go.E.YtheiididldemmaaGreat

/-
  Contracts of watch: a new one, how many events, which keys.
-/
namespace Go.E.YtheiididldemmaaGreat
open Go.Proofs
set_option maxRecDepth 100000
theorem new_spec35 {m : Mem} : Spec Tryz.prog 6 [] m fun r m' => ∃ b bm p ro, r = [ptrV b] ∧ Split m' [p, m] ∧ WO p b bm ro [] 0 := by
  refine en6 rfl (goY ?_)
  conv => whnf
  refine .mk _ (makeMap_spec (enc := Value.string)) ?_
  rintro _ m1 ⟨bm, hbm, rfl, rfl⟩
  conv => whnf
  intro b hb
  conv => whnf
  have hs := (((Split.one m).new hbm (wmapO [] 0)).new hb (watchO bm)).perm (l' := [m, blk1 b (watchO bm), blk1 bm (wmapO [] 0)]) (by exact (List.Perm.cons _ (List.Perm.swap _ _ _)).trans (List.Perm.swap _ _ _))
  have hs2 := (hs.perm (l' := [blk1 b (watchO bm), blk1 bm (wmapO [] 0), m]) (by exact (List.Perm.swap _ _ _).trans (List.Perm.cons _ (List.Perm.swap _ _ _)))).addEmp.perm (l' := [m, blk1 b (watchO bm), blk1 bm (wmapO [] 0), emp]) (by classical exact List.perm_iff_count.2 fun x => by simp only [List.count_cons, List.count_nil]; omega)
  obtain ⟨g1, g2⟩ := hs2.restP
  exact ⟨b, bm, _, emp, rfl, g1, ⟨g2, by simp, by simp, by simp⟩⟩
def sizeA (A : List (ByteArray × List Ev)) : Nat := (A.map fun x => x.2.length).sum
theorem mapW {D : List WRow} {P : WRow → Prop} (h : ∀ f ∈ D, P f) {Q : Men ByteArray → Prop} (hq : ∀ f, P f → Q f.men) : ∀ e ∈ D.map WRow.men, Q e := fun e he => by
  obtain ⟨f, hf, rfl⟩ := List.mem_map.1 he; exact hq f (h f hf)
set_option maxHeartbeats 4000000 in
theorem len_spec35 {mm m p r : Mem} {b bm clock : Nat} {D : List WRow} (hs : Split mm [p, m]) (h : WO p b bm r D clock) (ht : sizeA (absW D) ≤ 1000000000) : Ret Tryz.prog 12 [ptrV b] mm [i64 (sizeA (absW D) : Nat)] := by
  refine Spec.ret (R := fun r m' => r = [i64 (sizeA (absW D) : Nat)] ∧ Sub mm m') ?_ fun _ _ h => h
  have hp : Sub p mm := hs.sub (by simp)
  have hsz : ∀ V : List WRow, sizeA (absW V) = (V.map fun d => d.es.length).sum := fun V => by unfold sizeA absW; rw [List.map_map]; rfl
  rw [hsz] at ht
  rw [hsz]
  refine en12 rfl (goY ?_)
  conv => whnf
  refine ⟨fun _ => ?_, fun h => absurd h (by first | decide | simp)⟩
  conv => whnf
  refine ⟨_, mcell_of (hp _ _ h.book) rfl, rfl, ?_⟩
  conv => whnf
  refine .mk _ (rangeM_spec (P := Tryz.prog) Tryz.underlying55 (hp _ _ h.map)) ?_
  rintro _ _ ⟨it, hit, rfl, rfl⟩
  conv => whnf
  refine .mk (ι := List WRow) (fun vis => D.length - vis.length) (fun vis m' => VisG (fun x => (WRow.men x).b) D vis ∧ m' = mm.set it (iterO bm clock (vis.map fun x => (WRow.men x).b))) (fun vis => [(3, .c (i64 ((vis.map fun d => d.es.length).sum : Nat))), (12, .c (ptrV it))]) (fun _ => []) [] ⟨VisG.start D, rfl⟩ ?_ ?_
  · conv => whnf
    repeat (refine And.intro (by first | with_reducible rfl | exact congrArg (Value.int _) (wi (by omega) (by omega)) | exact wi (by omega) (by omega) | rfl) ?_; conv => whnf)
    first | exact trivial | exact fun _ _ h => h
  rintro vis m' ⟨hv, rfl⟩
  have hbm : (mm.set it (iterO bm clock (vis.map fun x => (WRow.men x).b))) bm = some (wmapO D clock) := Mem.sub_set _ hit _ _ (hp _ _ h.map)
  conv => whnf
  refine .mk _ (nextM_spec (P := Tryz.prog) (Mem.set_same ..) hbm (mapW h.ok fun f hf => hf.born) (mapW h.ok fun f _ => rfl) (fun _ => rfl)) ?_
  rintro _ m' (⟨he, rfl, rfl⟩ | ⟨e, he, rfl, rfl⟩)
  · conv => whnf
    refine ⟨fun h => absurd h (by first | decide | simp), fun _ => ?_⟩
    conv => whnf
    have hq := leftG_nil hv h.births he
    exact ⟨by rw [(hq.map _).sum_nat], Mem.sub_set _ hit⟩
  · obtain ⟨f, hf, rfl, hn⟩ := leftG_of he
    have hv2 := hv.step hf hn
    have hlen := lenG hv2.born hv2.sub
    have htot := sumG (w := fun d => d.es.length) hv2.born hv2.sub
    have et : ((vis ++ [f]).map fun d => d.es.length).sum = (vis.map fun d => d.es.length).sum + f.es.length := by simp
    rw [List.length_append, List.length_singleton] at hlen
    rw [Mem.set_set]
    have hbm : (mm.set it (iterO bm clock ((vis.map fun x => (WRow.men x).b) ++ [f.men.b]))) bm = some (wmapO D clock) := Mem.sub_set _ hit _ _ (hp _ _ h.map)
    have hfl := (h.ok f hf).evs.len
    rw [List.length_map] at hfl
    conv => whnf
    refine ⟨fun _ => ?_, fun h => absurd h (by first | decide | simp)⟩
    conv => whnf
    refine .mk _ (entryM_spec (P := Tryz.prog) (Mem.set_same ..) hbm (List.mem_map.2 ⟨f, hf, rfl⟩) (List.pairwise_map.2 h.births) rfl rfl) ?_
    rintro _ _ ⟨rfl, rfl⟩
    conv => whnf
    have ew : IntKind.i64.wrap (((vis.map fun d => d.es.length).sum : Nat) + (f.rs.length : Int)) = ((((vis ++ [f]).map fun d => d.es.length).sum : Nat) : Int) := by rw [et, wi (by omega) (by omega)]; omega
    refine ⟨vis ++ [f], ⟨hv2, by rw [List.map_append]; rfl⟩, by simp; omega, ?_⟩
    conv => whnf
    repeat (refine And.intro (by first | with_reducible rfl | (first | exact congrArg (Value.int _) ew) | exact congrArg (Value.int _) (wi (by omega) (by omega)) | exact wi (by omega) (by omega) | rfl) ?_; conv => whnf)
    first | exact trivial | exact fun _ _ h => h
set_option maxHeartbeats 4000000 in
theorem keys_spec35 {mm m p r : Mem} {b bm clock : Nat} {D : List WRow} (hs : Split mm [p, m]) (h : WO p b bm r D clock) (hl : D.length ≤ 1000000) : Spec Tryz.prog 10 [ptrV b] mm fun r m' => ∃ v q, r = [.v v] ∧ Split m' [q, mm] ∧ So q v (srtB ((absW D).map (·.1))) := by
  have hp : Sub p mm := hs.sub (by simp)
  have hkk : (absW D).map (·.1) = D.map (·.k) := by unfold absW; rw [List.map_map]; rfl
  rw [hkk]
  refine en10 rfl (goY ?_)
  conv => whnf
  refine ⟨fun _ => ?_, fun h => absurd h (by first | decide | simp)⟩
  conv => whnf
  refine ⟨_, mcell_of (hp _ _ h.book) rfl, rfl, ?_⟩
  conv => whnf
  refine .mk _ (rangeM_spec (P := Tryz.prog) Tryz.underlying55 (hp _ _ h.map)) ?_
  rintro _ _ ⟨it, hit, rfl, rfl⟩
  conv => whnf
  refine .mk (ι := List WRow × Value) (fun i => D.length - i.1.length) (fun ⟨vis, v⟩ m' => VisG (fun x => (WRow.men x).b) D vis ∧ ∃ q, Split m' [q, blk1 it (iterO bm clock (vis.map fun x => (WRow.men x).b)), mm] ∧ So q v (vis.map (·.k))) (fun ⟨vis, v⟩ => [(3, .c (.v v)), (11, .c (ptrV it))]) (fun _ => []) ([], .slice none 0 0) ⟨VisG.start D, emp, ((Split.one mm).new hit _).addEmp, So.nil _⟩ ?_ ?_
  · conv => whnf
    repeat (refine And.intro (by first | with_reducible rfl | exact congrArg (Value.int _) (wi (by omega) (by omega)) | exact wi (by omega) (by omega) | rfl) ?_; conv => whnf)
    first | exact trivial | exact fun _ _ h => h
  rintro ⟨vis, v⟩ m' ⟨hv, q, hs2, hvs⟩
  have hbm : m' bm = some (wmapO D clock) := hs2.sub (a := mm) (by simp) _ _ (hp _ _ h.map)
  have hit' : m' it = some (iterO bm clock (vis.map fun x => (WRow.men x).b)) := hs2.sub (a := blk1 it (iterO bm clock (vis.map fun x => (WRow.men x).b))) (by simp) _ _ (blk1_same ..)
  conv => whnf
  refine .mk _ (nextM_spec (P := Tryz.prog) hit' hbm (mapW h.ok fun f hf => hf.born) (mapW h.ok fun f _ => rfl) (fun _ => rfl)) ?_
  rintro _ m'' (⟨he, rfl, rfl⟩ | ⟨e, he, rfl, rfl⟩)
  · conv => whnf
    refine ⟨fun h => absurd h (by first | decide | simp), fun _ => ?_⟩
    conv => whnf
    have hq := leftG_nil hv h.births he
    have hlen : vis.length = D.length := hq.length_eq
    refine xcall ((sort_spec (m := q) hvs (by rw [List.length_map]; omega)).frame hs2) ?_
    rintro _ m2 ⟨p2, ⟨rfl, hv2⟩, hs3⟩
    conv => whnf
    refine ⟨v, p2, rfl, hs3.erase 1, ?_⟩
    rw [← srtB_perm (hq.map _)]; exact hv2
  · obtain ⟨f, hf, rfl, hn⟩ := leftG_of he
    have hv2 := hv.step hf hn
    have hlen := lenG hv2.born hv2.sub
    rw [List.length_append, List.length_singleton] at hlen
    have hs1 := hs2.setAt (i := 1) rfl (blk1_same ..) (iterO bm clock ((vis.map fun x => (WRow.men x).b) ++ [f.men.b]))
    rw [blk1_set] at hs1
    have hs1 : Split _ [q, blk1 it (iterO bm clock ((vis.map fun x => (WRow.men x).b) ++ [f.men.b])), mm] := hs1
    have hbm : (m'.set it (iterO bm clock ((vis.map fun x => (WRow.men x).b) ++ [f.men.b]))) bm = some (wmapO D clock) := hs1.sub (a := mm) (by simp) _ _ (hp _ _ h.map)
    conv => whnf
    refine ⟨fun _ => ?_, fun h => absurd h (by first | decide | simp)⟩
    conv => whnf
    refine .mk _ (entryM_spec (P := Tryz.prog) (Mem.set_same ..) hbm (List.mem_map.2 ⟨f, hf, rfl⟩) (List.pairwise_map.2 h.births) rfl rfl) ?_
    rintro _ _ ⟨rfl, rfl⟩
    conv => whnf
    refine .mk _ (buildS1) ?_
    rintro _ _ ⟨b2, hb2, rfl, rfl⟩
    conv => whnf
    refine .mk _ (pushS (i := 0) hs1 rfl hb2 hvs (by rw [List.length_map]; omega)) ?_
    rintro _ m' ⟨v', p', rfl, hs', hv'⟩
    conv => whnf
    refine ⟨(vis ++ [f], v'), ⟨hv2, p', by rw [List.map_append]; exact hs', by rw [List.map_append]; exact hv'⟩, by simp; omega, ?_⟩
    conv => whnf
    repeat (refine And.intro (by first | with_reducible rfl | exact congrArg (Value.int _) (wi (by omega) (by omega)) | exact wi (by omega) (by omega) | rfl) ?_; conv => whnf)
    first | exact trivial | exact fun _ _ h => h
end Go.E.YtheiididldemmaaGreat

/-
  The law's fixed calls: what comes of them.
-/
namespace Go.E.YtheiididldemmaaGreat
open Go.Proofs
set_option maxRecDepth 100000
abbrev ka : ByteArray := ⟨#[97]⟩
abbrev kb : ByteArray := ⟨#[98]⟩
abbrev kA : ByteArray := ⟨#[65]⟩
abbrev ev1 : Ev := ((1, 5, 2), (1, 1), [])
abbrev ev2 : Ev := ((3, 0, 0), (0, 0), [(1, 1)])
abbrev ev3 : Ev := ((1, 5, 3), (1, 1), [])
abbrev one8 : List Int := [1, 0, 0, 0, 0, 0, 0, 0]
theorem wf1 : wroteF [] ka 1 ev1 = 0 := by decide +kernel
theorem wf2 : wroteF [ev1] ka 2 ev2 = 0 := by decide +kernel
theorem wf3 : wroteF [] kA 1 ev1 = 1 := by decide +kernel
theorem wf4 : wroteF [ev1, ev2] ka 1 ev3 = 10 := by decide +kernel
theorem un12 : unionE [ev1, ev2] [] = [ev1, ev2] := by decide +kernel
theorem setF_one : setF [((1, 1) : Dt)] = [(1, 1)] := by
  have h : ([((1, 1) : Dt)].filter rightD) = [(1, 1)] := by decide +kernel
  unfold setF
  rw [h]
  unfold sortD
  rw [List.mergeSort_singleton]
  rfl
theorem de12 : dotsE [ev1, ev2] = [(1, 1)] := by
  have h : dotsL [ev1, ev2] = [(1, 1)] := by decide +kernel
  unfold dotsE; rw [h, setF_one]
theorem de1 : dotsE [ev1] = [(1, 1)] := by
  have h : dotsL [ev1] = [(1, 1)] := by decide +kernel
  unfold dotsE; rw [h, setF_one]
theorem ce12 : cartE [ev1, ev2] = ((one8, []), 0) := by
  have h1 : wholeE [ev1, ev2] = true := by unfold wholeE; rw [de12]; decide +kernel
  have h2 : liveE [ev1, ev2] = [] := by decide +kernel
  unfold cartE
  rw [if_neg (by rw [h1]; decide), h2, if_neg (by decide), de12]
  have h3 : spanD [((1, 1) : Dt)] = one8 := by decide +kernel
  rw [h3]; simp [sortE]
theorem ce1 : cartE [ev1] = ((one8, [(5, 1, 1, 2)]), 0) := by
  have h1 : wholeE [ev1] = true := by unfold wholeE; rw [de1]; decide +kernel
  have h2 : liveE [ev1] = [(5, 1, 1, 2)] := by decide +kernel
  unfold cartE
  rw [if_neg (by rw [h1]; decide), h2, if_neg (by decide), de1]
  have h3 : spanD [((1, 1) : Dt)] = one8 := by decide +kernel
  rw [h3]; unfold sortE; rw [List.mergeSort_singleton]
theorem kn1 : ([ev1, ev2].filter (knowsE (one8, [(5, 1, 1, 2)]))) = [ev1] := by decide +kernel
theorem kn2 : ([ev1, ev2].filter (knowsE (one8, []))) = [ev1, ev2] := by decide +kernel
theorem OkW.of {D : List WRow} (h : ∀ x ∈ absW D, x.2.length ≤ 10000 ∧ ∀ e ∈ x.2, okEv e) : OkW D := fun d hd => h (d.k, d.es) (List.mem_map.2 ⟨d, hd, rfl⟩)
theorem ok_ev1 : okEv ev1 := ⟨⟨⟨by decide, by decide⟩, ⟨by decide, by decide⟩⟩, by simp, by decide⟩
theorem ok_ev2 : okEv ev2 := ⟨⟨⟨by decide, by decide⟩, ⟨by decide, by decide⟩⟩, by
  intro d hd
  rw [List.mem_singleton.1 hd]
  exact ⟨⟨by decide, by decide⟩, ⟨by decide, by decide⟩⟩, by decide⟩
section
variable {D : List WRow} (h : absW D = [(ka, [ev1, ev2])])
include h
theorem al_ev : evsW D ka = [ev1, ev2] := by rw [evsW_abs, h]; rfl
theorem al_evb : evsW D kb = [] := by rw [evsW_abs, h]; rfl
theorem al_ok : OkW D := OkW.of (by rw [h]; intro x hx; rw [List.mem_singleton.1 hx]; exact ⟨by decide, by
  intro e he
  simp only [List.mem_cons, List.not_mem_nil, or_false] at he
  rcases he with rfl | rfl
  · exact ok_ev1
  · exact ok_ev2⟩)
theorem al_r1 : rightW D ka (one8, [(5, 1, 1, 2)]) = true := by
  have e : knownW D ka (one8, [(5, 1, 1, 2)]) = [ev1] := by unfold knownW; rw [al_ev h, un12, kn1]
  unfold rightW; rw [e, ce1]; decide +kernel
theorem al_r2 : rightW D ka (one8, []) = true := by
  have e : knownW D ka (one8, []) = [ev1, ev2] := by unfold knownW; rw [al_ev h, un12, kn2]
  unfold rightW; rw [e, ce12]; decide +kernel
theorem al_r3 : rightW D kb (one8, []) = false := by
  have e : knownW D kb (one8, []) = [] := by unfold knownW; rw [al_evb h]; rfl
  unfold rightW; rw [e, cart_nil]; decide +kernel
theorem al_k : (knownW D ka (one8, [(5, 1, 1, 2)])).length = 1 := by
  have e : knownW D ka (one8, [(5, 1, 1, 2)]) = [ev1] := by unfold knownW; rw [al_ev h, un12, kn1]
  rw [e]; rfl
theorem al_keys : srtB ((absW D).map (·.1)) = [ka] := by
  rw [h]
  show srtB [ka] = [ka]
  unfold srtB
  rw [List.map_cons, List.map_nil, List.mergeSort_singleton]; rfl
end
abbrev rv1 : Rv := ((1, 5, 2), (1, 1), (none, 0, 0))
abbrev rv3 : Rv := ((1, 5, 3), (1, 1), (none, 0, 0))
set_option maxHeartbeats 8000000 in
theorem alive35_spec (hS : Strict) {m : Mem} : Ret Tryz.prog 5 [] m [boolV true] := by
  refine Spec.ret (R := fun r m' => r = [boolV true] ∧ Sub m m') ?_ fun _ _ h => h
  refine en5 rfl (goY ?_)
  conv => whnf
  refine xcall (new_spec35) ?_
  rintro _ m0 ⟨b, bm, p0, ro0, rfl, hs0, hW0⟩
  conv => whnf
  refine .mk _ (buildD1 (e := ((1, 1) : Dt))) ?_
  rintro _ _ ⟨bo, hbo, rfl, rfl⟩
  conv => whnf
  have hs1 := hs0.new hbo (.cells (encD (1, 1)).toArray 31)
  have hs2 : Split (m0.set bo (.cells (encD (1, 1)).toArray 31)) [p0, joinM (blk1 bo (.cells (encD (1, 1)).toArray 31)) m] :=
    (hs1.perm (l' := [blk1 bo (.cells (encD (1, 1)).toArray 31), m, p0]) (.cons _ (.swap _ _ _))).pair.perm (.swap _ _ _)
  have hdj : Dj (blk1 bo (.cells (encD (1, 1)).toArray 31)) m := (hs1.perm (l' := [blk1 bo (.cells (encD (1, 1)).toArray 31), m, p0]) (.cons _ (.swap _ _ _))).dj
  have hbo2 : (joinM (blk1 bo (.cells (encD (1, 1)).toArray 31)) m) bo = some (.cells (encD (1, 1)).toArray 31) := joinM_subL _ _ _ _ (blk1_same ..)
  have hmJ : Sub m (joinM (blk1 bo (.cells (encD (1, 1)).toArray 31)) m) := joinM_subR hdj
  generalize joinM (blk1 bo (.cells (encD (1, 1)).toArray 31)) m = J at hs2 hbo2 hmJ
  have hx1 : EvIs J rv1 ev1 := ⟨rfl, rfl, Da.nil _⟩
  have hx3 : EvIs J rv3 ev3 := ⟨rfl, rfl, Da.nil _⟩
  have hx2 : EvIs J ((3, 0, 0), (0, 0), (some ⟨bo, 0, none⟩, 1, 1)) ev2 := ⟨rfl, rfl, (Do.blk1 hbo2).ea⟩
  have w1 := wrote_spec (k := ka) (node := 1) (x := rv1) (e := ev1) hs2 hW0 (by decide) hx1 (by decide) (OkW.of (by intro x hx; cases hx))
  rw [show evsW [] ka = [] from rfl, wf1, if_pos rfl] at w1
  refine xcall (w1) ?_
  rintro _ m1 ⟨p1, ro1, D1, c1, rfl, hs3, hW1, ha1⟩
  conv => whnf
  have ha1 : absW D1 = [(ka, [ev1])] := ha1
  refine ⟨fun _ h => (by cases h), ?_⟩
  conv => whnf
  have w2 := wrote_spec (k := ka) (node := 2) (x := ((3, 0, 0), (0, 0), (some ⟨bo, 0, none⟩, 1, 1))) (e := ev2) hs3 hW1 (by decide) hx2 (by decide) (OkW.of (by rw [ha1]; intro x hx; rw [List.mem_singleton.1 hx]; exact ⟨by decide, fun e he => by rw [List.mem_singleton.1 he]; exact ok_ev1⟩))
  rw [show evsW D1 ka = [ev1] by rw [evsW_abs, ha1]; rfl, wf2, if_pos rfl, ha1] at w2
  refine xcall (w2) ?_
  rintro _ m2 ⟨p2, ro2, D2, c2, rfl, hs4, hW2, ha2⟩
  conv => whnf
  have ha2 : absW D2 = [(ka, [ev1, ev2])] := ha2
  refine ⟨fun _ h => (by cases h), ?_⟩
  conv => whnf
  have w3 := wrote_spec (k := kA) (node := 1) (x := rv1) (e := ev1) hs4 hW2 (by decide) hx1 (by decide) (al_ok ha2)
  rw [show evsW D2 kA = [] by rw [evsW_abs, ha2]; rfl, wf3, if_neg (by decide), ha2] at w3
  refine xcall (w3) ?_
  rintro _ m3 ⟨p3, ro3, D3, c3, rfl, hs5, hW3, ha3⟩
  conv => whnf
  refine .mk _ (buildN1 (e := ((5, 1, 1, 2) : En))) ?_
  rintro _ _ ⟨be, hbe, rfl, rfl⟩
  conv => whnf
  have hs6 := (hs5.new hbe (.cells (encE (5, 1, 1, 2)).toArray 47)).perm (l' := [blk1 be (.cells (encE (5, 1, 1, 2)).toArray 47), J, p3]) (.cons _ (.swap _ _ _))
  have hdj6 := hs6.dj
  have hs7 := hs6.pair.perm (.swap _ _ _)
  have hbe2 : (joinM (blk1 be (.cells (encE (5, 1, 1, 2)).toArray 47)) J) be = some (.cells (encE (5, 1, 1, 2)).toArray 47) := joinM_subL _ _ _ _ (blk1_same ..)
  have hJ6 : Sub J (joinM (blk1 be (.cells (encE (5, 1, 1, 2)).toArray 47)) J) := joinM_subR hdj6
  generalize joinM (blk1 be (.cells (encE (5, 1, 1, 2)).toArray 47)) J = J6 at hs7 hbe2 hJ6
  clear hs6 hdj6
  have hne : Na J6 (.slice (some ⟨be, 0, none⟩) 1 1) [(5, 1, 1, 2)] := (No.blk1 hbe2).ea
  have w4 := wholeW_spec hS (k := ka) hs7 hW3 (al_ok ha3)
  rw [al_ev ha3, un12, ce12] at w4
  refine xcall (w4) ?_
  rintro _ m4 ⟨a4, c4, q4, rfl, hs8', hv4⟩
  conv => whnf
  have hs8 := (Split.beside hs8' hs7).perm (l' := [q4, J6, p3]) (.cons _ (.swap _ _ _))
  have hdj8 := hs8.dj
  have hs9 := hs8.pair.perm (.swap _ _ _)
  have hq4 : Sub q4 (joinM q4 J6) := joinM_subL _ _
  have hJ8 : Sub J6 (joinM q4 J6) := joinM_subR hdj8
  generalize joinM q4 J6 = J8 at hs9 hq4 hJ8
  clear hs8 hdj8 hs8'
  have hD3 : D3.length = 1 := by have := congrArg List.length ha3; simpa [absW] using this
  have w5 := keys_spec35 hs9 hW3 (by omega)
  rw [al_keys ha3] at w5
  refine xcall (w5) ?_
  rintro _ m5 ⟨vk, qk, rfl, hs10', hvk⟩
  conv => whnf
  obtain ⟨bk, ok, ck, rfl, helk⟩ := hvk.sl.real (i := 0) (by decide)
  have hs10 := (Split.beside hs10' hs9).perm (l' := [qk, J8, p3]) (.cons _ (.swap _ _ _))
  have hdj10 := hs10.dj
  have hs11 := hs10.pair.perm (.swap _ _ _)
  have hqk : Sub qk (joinM qk J8) := joinM_subL _ _
  have hJ10 : Sub J8 (joinM qk J8) := joinM_subR hdj10
  generalize joinM qk J8 = J10 at hs11 hqk hJ10
  clear hs10 hdj10 hs10'
  have w6 := wrote_spec (k := ka) (node := 1) (x := rv3) (e := ev3) hs11 hW3 (by decide) (hx3.sub ((hJ6.trans hJ8).trans hJ10)) (by decide) (al_ok ha3)
  rw [al_ev ha3, wf4, if_neg (by decide), ha3] at w6
  refine xcall (w6) ?_
  rintro _ m6 ⟨p6, ro6, D6, c6, rfl, hs12, hW6, ha6⟩
  conv => whnf
  have hJm : Sub J10 m6 := hs12.sub (by simp)
  have hJ6m : Sub J6 m6 := (hJ8.trans hJ10).trans hJm
  have hmm : Sub m m6 := (hmJ.trans hJ6).trans hJ6m
  have helm : mcell m6 bk (ok + 0) = some (.string ka) := mcell_sub (helk 0 (by decide)) ((hqk.trans (by assumption : Sub J10 m6)))
  have r1 := rightW_spec hS (k := ka) (u := one8) (a := some ⟨be, 0, none⟩) (c := 1) (E := [(5, 1, 1, 2)]) hs12 hW6 (al_ok ha6) rfl (hne.sub hJ6m) (by decide)
  rw [al_r1 ha6] at r1
  have r2 := rightW_spec hS (k := ka) (u := one8) (a := none) (c := 0) (E := []) hs12 hW6 (al_ok ha6) rfl (Na.nil _) (by decide)
  rw [al_r2 ha6] at r2
  have r3 := rightW_spec hS (k := kb) (u := one8) (a := none) (c := 0) (E := []) hs12 hW6 (al_ok ha6) rfl (Na.nil _) (by decide)
  rw [al_r3 ha6] at r3
  have l1 := len_spec35 hs12 hW6 (by rw [ha6]; decide)
  rw [show sizeA (absW D6) = 2 by rw [ha6]; rfl] at l1
  have n1 := knowsW_spec (k := ka) (u := one8) (a := some ⟨be, 0, none⟩) (c := 1) (E := [(5, 1, 1, 2)]) hs12 hW6 (al_ok ha6) rfl (hne.sub hJ6m) (by decide)
  refine ⟨fun _ => ?_, fun h => absurd h (by first | decide | simp)⟩
  conv => whnf
  refine ⟨fun _ => ?_, fun h => absurd h (by first | decide | simp)⟩
  conv => whnf
  refine ⟨fun _ => ?_, fun h => absurd h (by first | decide | simp)⟩
  conv => whnf
  first | refine xretk (r1) ?_ | refine xret (r1) ?_
  conv => whnf
  refine ⟨fun _ => ?_, fun h => absurd h (by first | decide | simp)⟩
  conv => whnf
  first | refine xretk (r2) ?_ | refine xret (r2) ?_
  conv => whnf
  refine ⟨fun _ => ?_, fun h => absurd h (by first | decide | simp)⟩
  conv => whnf
  first | refine xretk (r3) ?_ | refine xret (r3) ?_
  conv => whnf
  refine ⟨fun _ => ?_, fun h => absurd h (by first | decide | simp)⟩
  conv => whnf
  refine ⟨fun _ => ?_, fun h => absurd h (by first | decide | simp)⟩
  conv => whnf
  first | refine xretk (sameC_spec (u := one8) (w := one8) (a := a4) (c := c4) (E := []) (a' := none) (c' := 0) (K := []) ((hv4.ea.sub hq4).sub (hJ10.trans hJm)) (Na.nil _) (by decide)) ?_ | refine xret (sameC_spec (u := one8) (w := one8) (a := a4) (c := c4) (E := []) (a' := none) (c' := 0) (K := []) ((hv4.ea.sub hq4).sub (hJ10.trans hJm)) (Na.nil _) (by decide)) ?_
  conv => whnf
  refine ⟨fun _ => ?_, fun h => absurd h (by first | decide | simp)⟩
  conv => whnf
  refine ⟨fun _ => ?_, fun h => absurd h (by first | decide | simp)⟩
  conv => whnf
  refine ⟨by simp, ?_⟩
  conv => whnf
  refine ⟨_, helm, rfl, ?_⟩
  conv => whnf
  refine ⟨fun _ => ?_, fun h => absurd h (by first | decide | simp)⟩
  conv => whnf
  first | refine xretk (l1) ?_ | refine xret (l1) ?_
  conv => whnf
  refine ⟨fun _ => ?_, fun h => absurd h (by first | decide | simp)⟩
  conv => whnf
  refine xcall (n1) ?_
  rintro _ m7 ⟨v7, q7, o7, R7, rfl, hs13, hv7, hR7⟩
  conv => whnf
  have hR7l : R7.length = 1 := by rw [hR7.len, al_k ha6]
  obtain ⟨a7, c7, rfl⟩ := hv7.el.shape
  rw [hR7l]
  conv => whnf
  refine ⟨fun _ => ?_, fun h => absurd h (by first | decide | simp)⟩
  conv => whnf
  refine ⟨fun _ => ?_, fun h => absurd h (by first | decide | simp)⟩
  conv => whnf
  have hs14 : Split m7 [p6, joinM q7 (joinM o7 J10)] := by
    have h1 := hs13.under (a := [q7, o7]) hs12
    have h2 := h1.perm (l' := [o7, J10, q7, p6]) (by classical exact List.perm_iff_count.2 fun x => by simp only [List.count_cons, List.count_nil, List.append_eq, List.cons_append, List.nil_append]; omega)
    have h3 := (h2.pair.perm (.swap _ _ _)).pair
    exact h3.perm (.swap _ _ _)
  refine xcall (events_spec (k := ka) hs14 hW6 (fun d hd => (al_ok ha6 d hd).1) (fun d hd e he => ((al_ok ha6 d hd).2 e he).2.2)) ?_
  rintro _ m8 ⟨v8, q8, o8, R8, rfl, hs15, hv8, hR8⟩
  conv => whnf
  have hR8l : R8.length = 2 := by rw [hR8.len, al_ev ha6, un12]; rfl
  obtain ⟨a8, c8, rfl⟩ := hv8.el.shape
  rw [hR8l]
  conv => whnf
  exact ⟨rfl, hmm.trans ((hs13.sub (by simp)).trans (hs15.sub (by simp)))⟩
end Go.E.YtheiididldemmaaGreat

/-
  What is told, as it lies.
-/
namespace Go.E.YtheiididldemmaaGreat
open Go.Proofs
set_option maxRecDepth 100000
abbrev Rt := ByteArray × Int × Rv
def encT (r : Rt) : List Value := [.string r.1, .int .i64 r.2.1, .int .i64 r.2.2.1.1, .int .i64 r.2.2.1.2.1, .int .i64 r.2.2.1.2.2, .int .i64 r.2.2.2.1.1, .int .u64 r.2.2.2.1.2, .slice r.2.2.2.2.1 r.2.2.2.2.2.1 r.2.2.2.2.2.2]
theorem encT_ok : EncOk encT 8 := ⟨fun _ => rfl, fun x u hu => by simp [encT] at hu; rcases hu with rfl | rfl | rfl | rfl | rfl | rfl | rfl | rfl <;> rfl, by decide⟩
end Go.E.YtheiididldemmaaGreat

/-
  Slices of maund/maundlaw35.Told: that lie somewhere, that are owned; append, slices.Clone.
-/
namespace Go.E.YtheiididldemmaaGreat
open Go.Proofs
set_option maxRecDepth 100000
abbrev Tv (x : Rt) : CV := .a [.one (.string x.1), .one (.int .i64 x.2.1), .one (.int .i64 x.2.2.1.1), .one (.int .i64 x.2.2.1.2.1), .one (.int .i64 x.2.2.1.2.2), .one (.int .i64 x.2.2.2.1.1), .one (.int .u64 x.2.2.2.1.2), .one (.slice x.2.2.2.2.1 x.2.2.2.2.2.1 x.2.2.2.2.2.2)]
theorem hTs : ∃ ti, tt.get 22 = some ti ∧ ti.k = .slice 36 := ⟨_, rfl, rfl⟩
theorem hTn : ∃ ti, tt.get 36 = some ti ∧ ti.size = 8 ∧ ti.bytes = 88 ∧ LB.cells ti.zero = encT (ByteArray.empty, 0, (0, 0, 0), (0, 0), (none, 0, 0)) := ⟨_, rfl, rfl, rfl, rfl⟩
def Tl (m : Mem) (v : Value) (E : List Rt) : Prop := Lies m 8 v (E.flatMap encT)
def To (m : Mem) (v : Value) (E : List Rt) : Prop := Own m 36 8 v (E.flatMap encT)
def Ta (m : Mem) (v : Value) (E : List Rt) : Prop := Tl m v E ∨ (E = [] ∧ ∃ a, v = .slice (some a) 0 0)
theorem Tl.sub {m m' : Mem} {v : Value} {E : List Rt} (h : Tl m v E) (hs : Sub m m') : Tl m' v E := Lies.sub h hs
theorem To.sub {m m' : Mem} {v : Value} {E : List Rt} (h : To m v E) (hs : Sub m m') : To m' v E := Own.sub h hs
theorem To.el {m : Mem} {v : Value} {E : List Rt} (h : To m v E) : Tl m v E := Own.lies h
theorem Tl.ea {m : Mem} {v : Value} {E : List Rt} (h : Tl m v E) : Ta m v E := .inl h
theorem To.ea {m : Mem} {v : Value} {E : List Rt} (h : To m v E) : Ta m v E := h.el.ea
theorem Ta.sub {m m' : Mem} {v : Value} {E : List Rt} (h : Ta m v E) (hs : Sub m m') : Ta m' v E := h.imp (·.sub hs) id
theorem To.nil (m : Mem) : To m (.slice none 0 0) [] := .inl ⟨rfl, rfl⟩
theorem Ta.nil (m : Mem) : Ta m (.slice none 0 0) [] := (To.nil m).ea
theorem Tl.shape {m : Mem} {v : Value} {E : List Rt} (h : Tl m v E) : ∃ a c, v = .slice a E.length c := encT_ok.shape h
theorem Ta.shape {m : Mem} {v : Value} {E : List Rt} (h : Ta m v E) : ∃ a c, v = .slice a E.length c := by
  rcases h with h | ⟨rfl, a, rfl⟩
  · exact h.shape
  · exact ⟨_, _, rfl⟩
theorem Ta.el {m : Mem} {v : Value} {E : List Rt} (h : Ta m v E) (hl : 0 < E.length) : Tl m v E := h.elim id fun h => by rw [h.1] at hl; simp at hl
theorem Ta.real {m : Mem} {v : Value} {E : List Rt} (h : Ta m v E) {i : Nat} (hi : i < E.length) : ∃ b o c, v = .slice (some ⟨b, o, none⟩) E.length c ∧ ∀ j (hj : j < E.length), MRange m b (o + j * 8) (encT E[j]) := by
  rcases h with h | ⟨rfl, _⟩
  · exact encT_ok.real h hi
  · simp at hi
theorem Ta.lenV {m : Mem} {v : Value} {E : List Rt} (h : Ta m v E) : lenV v = E.length := by obtain ⟨a, c, rfl⟩ := h.shape; rfl
theorem Ta.one {m : Mem} {v : Value} {E : List Rt} (h : Ta m v E) : v.oneCell' = true := by obtain ⟨a, c, rfl⟩ := h.shape; rfl
theorem Ta.gives {m : Mem} {v : Value} {E : List Rt} {e : TypeId} (h : Ta m v E) : Gives m 8 (.slice e) v (E.flatMap encT) := .inl ⟨e, rfl, h.imp id fun ⟨h1, h2⟩ => ⟨by rw [h1]; rfl, h2⟩⟩
theorem appendTat {m p : Mem} {ls : List Mem} {i : Nat} {v x : Value} {E news : List Rt} (hs : Split m ls) (hi : ls[i]? = some p) (hv : To p v E) (hg : Ta m x news) (hb : E.length + news.length ≤ 100000000) :
    PrimSpec Tryz.prog (.builtin .append [22, 22]) [.v v, .v x] m fun r m' => ∃ v' p', r = [.v v'] ∧ Split m' (ls.set i p') ∧ To p' v' (E ++ news) := by
  obtain ⟨ti, h1, h2⟩ := hTs
  obtain ⟨ei, g1, g2, g3, g4⟩ := hTn
  have e1 := hv.el.ea.lenV
  have e2 := hg.lenV
  have hv' : Own p 36 ei.size v (E.flatMap encT) := by rw [g2]; exact hv
  refine (append_at (news := news.flatMap encT) tt_ok h1 h2 g1 h1 (by rw [g4, g2]; rfl) hs hi hv' (by rw [h2, g2]; exact hg.gives) (by rw [e1, e2, g3]; omega) (by rw [e1, e2]; omega)).mono fun r m' ⟨v', p', q1, q2, q3⟩ => ⟨v', p', q1, q2, ?_⟩
  have := q3.own
  rw [g2, ← List.flatMap_append] at this
  exact this
theorem buildT0 {m : Mem} : PrimSpec Tryz.prog (.buildSlice 22 0 []) [] m fun r m' => ∃ b, m b = none ∧ r = [.v (.slice (some ⟨b, 0, none⟩) 0 0)] ∧ m' = m.set b (.cells #[] 36) := by
  obtain ⟨ti, h1, h2⟩ := hTs
  obtain ⟨ei, g1, g2, g3, g4⟩ := hTn
  exact buildSlice0_spec tt_ok h1 h2 g1
theorem buildT1 {m : Mem} {e : Rt} : PrimSpec Tryz.prog (.buildSlice 22 1 [0]) [Tv e] m fun r m' => ∃ b, m b = none ∧ r = [.v (.slice (some ⟨b, 0, none⟩) 1 1)] ∧ m' = m.set b (.cells (encT e).toArray 36) := by
  obtain ⟨ti, h1, h2⟩ := hTs
  obtain ⟨ei, g1, g2, g3, g4⟩ := hTn
  exact (buildSlice_spec (n := 1) tt_ok h1 h2 g1 rfl rfl (by simp [CV.cs, LB.cells, Seg.cells, g2]) (by omega) (by omega)).mono fun r m' ⟨b, e1, e2, e3⟩ => ⟨b, e1, e2, e3⟩
theorem To.blk1 {m : Mem} {b : Nat} {e : Rt} (h : m b = some (.cells (encT e).toArray 36)) : To m (.slice (some ⟨b, 0, none⟩) 1 1) [e] :=
  .inr ⟨b, 0, 1, 1, _, rfl, h, rfl, Nat.le_refl _, Nat.le_refl _, fun j u hu => by rw [Nat.zero_add, List.getElem?_toArray]; simpa using hu, encT_ok.fone⟩
theorem To.blk0 {m : Mem} {b : Nat} (h : m b = some (.cells #[] 36)) : To m (.slice (some ⟨b, 0, none⟩) 0 0) [] :=
  .inr ⟨b, 0, 0, 0, _, rfl, h, rfl, Nat.le_refl _, Nat.le_refl _, fun j u hu => by simp at hu, encT_ok.fone⟩
theorem pushT {m p : Mem} {ls : List Mem} {i b' : Nat} {x : Rt} {y : Value} {E : List Rt} (hs : Split m ls) (hi : ls[i]? = some p) (hb : m b' = none) (hy : To p y E) (hl : E.length ≤ 10000000) :
    PrimSpec Tryz.prog (.builtin .append [22, 22]) [.v y, .v (.slice (some ⟨b', 0, none⟩) 1 1)] (m.set b' (.cells (encT x).toArray 36)) fun r m' => ∃ y' p', r = [.v y'] ∧ Split m' (ls.set i p') ∧ To p' y' (E ++ [x]) := by
  have hs1 := hs.new hb (.cells (encT x).toArray 36)
  exact (appendTat (i := i + 1) hs1 (by simpa using hi) hy (To.blk1 (Mem.set_same ..)).el.ea (by simp; omega)).mono fun r m' ⟨v', p', h1, h2, h3⟩ => ⟨v', p', h1, h2.erase 0, h3⟩
end Go.E.YtheiididldemmaaGreat

/-
  The law: a cart of which nothing is known goes with each watch; the cart of all events does, if there is one.
-/
namespace Go.E.YtheiididldemmaaGreat
open Go.Proofs
set_option maxRecDepth 100000
def bigT (n : Nat) (t : Rt) : Bool := decide (40 < n) || (decide (100 < t.1.size) || decide (30 < t.2.2.2.2.2.1))
def greatT (R : List Rt) : Bool := R.any (bigT R.length)
theorem cellT {m : Mem} {b o i j : Nat} {R : List Rt} {u : Value} (hi : i < R.length) (hg : ∀ j (hj : j < R.length), MRange m b (o + j * 8) (encT R[j])) (hu : (encT R[i])[j]? = some u) : mcell m b (o + i * 8 + j) = some u := mcell_rng (hg i hi) hu
theorem great_at {R : List Rt} {i : Nat} (hi : i < R.length) (h : bigT R.length R[i] = true) : greatT R = true := List.any_eq_true.2 ⟨_, List.getElem_mem hi, h⟩
set_option maxHeartbeats 2000000 in
theorem great35_spec {m : Mem} {v : Value} {R : List Rt} (hv : Ta m v R) : Ret Tryz.prog 4 [.v v] m [boolV (greatT R)] := by
  obtain ⟨a, c, rfl⟩ := hv.shape
  refine en4 rfl (goY ?_)
  conv => whnf
  refine .mk (ι := Nat) (fun i => R.length - i) (fun i mm => i ≤ R.length ∧ (∀ t ∈ R.take i, bigT R.length t = false) ∧ mm = m) (fun i => [(0, .c (.v (.slice a R.length c))), (3, .c (i64 i))]) (fun _ => []) 0 ⟨by omega, by simp, rfl⟩ ?_ ?_
  · conv => whnf
    repeat (refine And.intro (by first | with_reducible rfl | exact congrArg (Value.int _) (wi (by omega) (by omega)) | exact wi (by omega) (by omega) | rfl) ?_; conv => whnf)
    first | exact trivial | exact fun _ _ h => h
  rintro i mm ⟨hi, hall, he⟩
  subst mm
  conv => whnf
  refine ⟨fun h => ?_, fun h => ?_⟩
  · have h' := of_decide_eq_true h
    have hlt : i < R.length := by omega
    obtain ⟨bl, ol, c', hh, hg⟩ := hv.real hlt
    injection hh with hh1 _ hh3
    subst hh1
    clear hh3 c' h
    have g0 := cellT (j := 0) hlt hg rfl
    have g7 := cellT (j := 7) hlt hg rfl
    have hga := great_at hlt
    have hst : R.take (i + 1) = R.take i ++ [R[i]] := List.take_succ_eq_append_getElem hlt
    generalize R[i] = t at g0 g7 hga hst
    conv => whnf
    refine ⟨fun h => ?_, fun h => ?_⟩
    · have h0 : (40 : Int) < (R.length : Int) := of_decide_eq_true h
      conv => whnf
      exact ⟨by rw [hga (by unfold bigT; rw [decide_eq_true (by omega)]; rfl)], rfl⟩
    have h0 : ¬ (40 : Int) < (R.length : Int) := of_decide_eq_false h
    clear h
    conv => whnf
    repeat (refine And.intro (by first | omega | (simp only [times]; omega)) ?_; conv => whnf)
    refine ⟨_, by simp only [times, Int.toNat_natCast]; exact g0, rfl, ?_⟩
    conv => whnf
    refine ⟨fun h => ?_, fun h => ?_⟩
    · have h1 : (100 : Int) < (t.1.size : Int) := of_decide_eq_true h
      conv => whnf
      exact ⟨by rw [hga (by unfold bigT; rw [decide_eq_true (by omega : 100 < t.1.size)]; simp)], rfl⟩
    have h1 : ¬ (100 : Int) < (t.1.size : Int) := of_decide_eq_false h
    clear h
    conv => whnf
    repeat (refine And.intro (by first | omega | (simp only [times]; omega)) ?_; conv => whnf)
    refine ⟨_, by simp only [times, Int.toNat_natCast]; exact g7, rfl, ?_⟩
    conv => whnf
    refine ⟨fun h => ?_, fun h => ?_⟩
    · have h2 : (30 : Int) < (t.2.2.2.2.2.1 : Int) := of_decide_eq_true h
      conv => whnf
      exact ⟨by rw [hga (by unfold bigT; rw [decide_eq_true (by omega : 30 < t.2.2.2.2.2.1)]; simp)], rfl⟩
    have h2 : ¬ (30 : Int) < (t.2.2.2.2.2.1 : Int) := of_decide_eq_false h
    clear h
    conv => whnf
    refine ⟨i + 1, ⟨by omega, fun x hx => ?_, rfl⟩, by omega, ?_⟩
    · rw [hst] at hx
      rcases List.mem_append.1 hx with hx | hx
      · exact hall x hx
      · rw [List.mem_singleton.1 hx]
        unfold bigT
        rw [decide_eq_false (by omega : ¬ 40 < R.length), decide_eq_false (by omega : ¬ 100 < t.1.size), decide_eq_false (by omega : ¬ 30 < t.2.2.2.2.2.1)]; rfl
    · conv => whnf
      repeat (refine And.intro (by first | with_reducible rfl | (first | exact congrArg (Value.int _) (iadd (by omega))) | exact congrArg (Value.int _) (wi (by omega) (by omega)) | exact wi (by omega) (by omega) | rfl) ?_; conv => whnf)
      first | exact trivial | exact fun _ _ h => h
  · have h' := of_decide_eq_false h
    obtain rfl : i = R.length := by omega
    rw [List.take_length] at hall
    conv => whnf
    refine ⟨?_, rfl⟩
    have : greatT R = false := List.any_eq_false.2 fun t ht => by rw [hall t ht]; simp
    rw [this]
def Small (n : Nat) (A : List (ByteArray × List Ev)) : Prop := ∀ x ∈ A, x.2.length ≤ n ∧ ∀ e ∈ x.2, okEv e
theorem Small.put {n : Nat} {k : ByteArray} {e : Ev} (he : okEv e) : ∀ {A : List (ByteArray × List Ev)}, Small n A → Small (n + 1) (putA k e A)
  | [], _ => fun x hx => by
    rw [List.mem_singleton.1 hx]
    exact ⟨by simp, fun y hy => by rw [List.mem_singleton.1 hy]; exact he⟩
  | a :: r, h => by
    have ha := h a (by simp)
    have hr : Small n r := fun x hx => h x (by simp [hx])
    unfold putA
    split
    · intro x hx
      rcases List.mem_cons.1 hx with rfl | hx
      · refine ⟨by simp; omega, fun y hy => ?_⟩
        rcases List.mem_append.1 hy with hy | hy
        · exact ha.2 y hy
        · rw [List.mem_singleton.1 hy]; exact he
      · have := hr x hx
        exact ⟨by omega, this.2⟩
    · intro x hx
      rcases List.mem_cons.1 hx with rfl | hx
      · exact ⟨by omega, ha.2⟩
      · exact Small.put he hr x hx
theorem Small.up {n k : Nat} {A : List (ByteArray × List Ev)} (h : Small n A) (hk : n ≤ k) : Small k A := fun x hx => ⟨by have := (h x hx).1; omega, (h x hx).2⟩
theorem Small.ok {n : Nat} {D : List WRow} (h : Small n (absW D)) (hn : n ≤ 10000) : OkW D := OkW.of fun x hx => ⟨by have := (h x hx).1; omega, (h x hx).2⟩
theorem right_none {D : List WRow} {k : ByteArray} : rightW D k (zeros, []) = true := by
  have e : knownW D k (zeros, []) = [] := by unfold knownW; exact filter_none _
  unfold rightW
  rw [e, cart_nil]
  decide +kernel
theorem right_whole {D : List WRow} {k : ByteArray} {c : Ct} (hok : OkW D) (h : cartE (unionE (evsW D k) []) = (c, 0)) (hl : (evsW D k).length ≤ 2000) : rightW D k c = true := by
  have h1 := unionE_len (evsW D k)
  have h2 := whole_stays (by omega) (unionE_nodup _ _) h
  unfold rightW knownW
  rw [h2]
  simp
end Go.E.YtheiididldemmaaGreat

/-
  The law, whole.
-/
namespace Go.E.YtheiididldemmaaGreat
open Go.Proofs
set_option maxRecDepth 100000
set_option maxHeartbeats 8000000 in
theorem watchNothing_spec (hS : Strict) {m : Mem} {v : Value} {R : List Rt} {E : List Ev} {k : ByteArray} (hv : Ta m v R) (hE : EvsIs m (R.map (·.2.2)) E) (hok : ∀ e ∈ E, okD e.2.1 ∧ ∀ d ∈ e.2.2, okD d) :
    Spec Tryz.prog 3 [.v v, .v (.string k)] m fun r m' => r = [boolV true] ∧ Sub m m' := by
  obtain ⟨a, c, rfl⟩ := hv.shape
  have hlen := hE.len
  rw [List.length_map] at hlen
  refine en3 rfl (goY ?_)
  conv => whnf
  first | refine xretk (great35_spec hv) ?_ | refine xret (great35_spec hv) ?_
  conv => whnf
  cases hgr : greatT R with
  | true =>
    refine ⟨fun _ => ?_, fun h => absurd h (by first | decide | simp)⟩
    conv => whnf
    first | refine xretk (alive35_spec hS) ?_ | refine xret (alive35_spec hS) ?_
    conv => whnf
    exact ⟨rfl, Sub.refl _⟩
  | false =>
  refine ⟨fun h => absurd h (by first | decide | simp), fun _ => ?_⟩
  conv => whnf
  refine ⟨fun h => ?_, fun h => ?_⟩
  · conv => whnf
    first | refine xretk (alive35_spec hS) ?_ | refine xret (alive35_spec hS) ?_
    conv => whnf
    exact ⟨rfl, Sub.refl _⟩
  clear h
  have hsm : ∀ t ∈ R, R.length ≤ 40 ∧ t.1.size ≤ 100 ∧ t.2.2.2.2.2.1 ≤ 30 := fun t ht => by
    have h1 := List.any_eq_false.1 hgr t ht
    unfold bigT at h1
    simp only [Bool.or_eq_true, decide_eq_true_eq, not_or] at h1
    omega
  have hl40 : R.length ≤ 40 := by
    cases R with
    | nil => simp
    | cons t r => exact (hsm t (by simp)).1
  conv => whnf
  refine xcall (new_spec35) ?_
  rintro _ m0 ⟨b, bm, p0, ro0, rfl, hs0, hW0⟩
  conv => whnf
  refine .mk (ι := Nat) (fun i => R.length - i) (fun i mm => i ≤ R.length ∧ ∃ p ro D clock, Split mm [p, m] ∧ WO p b bm ro D clock ∧ Small i (absW D)) (fun i => [(0, .c (.v (.slice a R.length c))), (1, .c (.v (.string k))), (5, .c (ptrV b)), (6, .c (i64 i))]) (fun _ => []) 0 ⟨by omega, p0, ro0, [], 0, hs0, hW0, by intro x hx; cases hx⟩ ?_ ?_
  · conv => whnf
    repeat (refine And.intro (by first | with_reducible rfl | exact congrArg (Value.int _) (wi (by omega) (by omega)) | exact wi (by omega) (by omega) | rfl) ?_; conv => whnf)
    first | exact trivial | exact fun _ _ h => h
  rintro i mm ⟨hi, p, ro, D, clock, hs, hW, hSm⟩
  conv => whnf
  refine ⟨fun h => ?_, fun h => ?_⟩
  · have h' := of_decide_eq_true h
    have hlt : i < R.length := by omega
    have hltE : i < E.length := by omega
    obtain ⟨bl, ol, c', hh, hg⟩ := hv.real hlt
    injection hh with hh1 _ hh3
    subst hh1
    clear hh3 c' h
    have hm : Sub m mm := hs.sub (by simp)
    have g0 := mcell_sub (cellT (j := 0) hlt hg rfl) hm
    have g1 := mcell_sub (cellT (j := 1) hlt hg rfl) hm
    have gx : MRange mm bl (ol + i * 8 + 2) (encV R[i].2.2) := (MRange.part (j := 2) (k := encV R[i].2.2) (hg i hlt) fun q u hu => by
      have hq : q = 0 ∨ q = 1 ∨ q = 2 ∨ q = 3 ∨ q = 4 ∨ q = 5 := by have := (List.getElem?_eq_some_iff.1 hu).1; simp [encV] at this; omega
      rcases hq with rfl | rfl | rfl | rfl | rfl | rfl <;> exact hu).sub hm
    have hx := hE.at (i := i) (by rw [List.length_map]; exact hlt) hltE
    rw [List.getElem_map] at hx
    have ht := hsm _ (List.getElem_mem hlt)
    have hke := hok _ (List.getElem_mem hltE)
    have hxl := hx.len
    generalize R[i] = t at g0 g1 gx hx ht hxl
    generalize E[i] = y at hx hke hxl
    have hoy : okEv y := ⟨hke.1, hke.2, by omega⟩
    conv => whnf
    repeat (refine And.intro (by first | omega | (simp only [times]; omega)) ?_; conv => whnf)
    refine ⟨_, by simp only [times, Int.toNat_natCast]; exact g0, rfl, ?_⟩
    conv => whnf
    repeat (refine And.intro (by first | omega | (simp only [times]; omega)) ?_; conv => whnf)
    refine ⟨_, by simp only [times, Int.toNat_natCast]; exact g1, rfl, ?_⟩
    conv => whnf
    repeat (refine And.intro (by first | omega | (simp only [times]; omega)) ?_; conv => whnf)
    refine ⟨partsV t.2.2, ⟨rfl, rfl, rfl, rfl, rfl, rfl, trivial⟩, rfl, by simp only [times, Int.toNat_natCast]; exact gx, ?_⟩
    conv => whnf
    refine xcall (wrote_spec (k := t.1) (node := t.2.1) (x := t.2.2) (e := y) hs hW (by omega) hx (by omega) (hSm.ok (by omega))) ?_
    rintro _ m1 ⟨p', ro', D', clock', rfl, hs', hW', hA'⟩
    conv => whnf
    first | refine ⟨fun _ h => (by cases h), ?_⟩ | skip
    conv => whnf
    refine ⟨i + 1, ⟨by omega, p', ro', D', clock', hs', hW', ?_⟩, by omega, ?_⟩
    · rw [hA']
      split
      · exact hSm.put hoy
      · exact hSm.up (by omega)
    · conv => whnf
      repeat (refine And.intro (by first | with_reducible rfl | (first | exact congrArg (Value.int _) (iadd (by omega))) | exact congrArg (Value.int _) (wi (by omega) (by omega)) | exact wi (by omega) (by omega) | rfl) ?_; conv => whnf)
      first | exact trivial | exact fun _ _ h => h
  have h' := of_decide_eq_false h
  clear h
  have hm : Sub m mm := hs.sub (by simp)
  have hokD := hSm.ok (by omega)
  have hevl : (evsW D k).length ≤ 2000 := by
    unfold evsW
    cases hf : findW k D with
    | none => simp
    | some d =>
      have := (hSm (d.k, d.es) (List.mem_map.2 ⟨d, findW_mem hf, rfl⟩)).1
      have h2 : d.es.length ≤ i := this
      show d.es.length ≤ 2000
      omega
  conv => whnf
  refine xcall (wholeW_spec hS (k := k) hs hW hokD) ?_
  rintro _ m4 ⟨a4, c4, q4, rfl, hs4', hv4⟩
  conv => whnf
  have hs4 := (Split.beside hs4' hs).perm (l' := [q4, m, p]) (.cons _ (.swap _ _ _))
  have hdj := hs4.dj
  have hs5 := hs4.pair.perm (.swap _ _ _)
  have hq4 : Sub q4 (joinM q4 m) := joinM_subL _ _
  generalize joinM q4 m = J at hs5 hq4
  have hm4 : Sub mm m4 := hs4'.sub (by simp)
  have hJm : Sub J m4 := hs5.sub (by simp)
  have hcl := cartE_len (unionE (evsW D k) [])
  have hcv := cartE_vec (unionE (evsW D k) [])
  have hrw : (cartE (unionE (evsW D k) [])).2 = 0 → rightW D k (cartE (unionE (evsW D k) [])).1 = true := fun h0 => right_whole hokD (by rw [← h0]) hevl
  have r1 := rightW_spec hS (k := k) (u := zeros) (a := none) (c := 0) (E := []) hs5 hW hokD rfl (Na.nil _) (by decide)
  rw [right_none] at r1
  generalize cartE (unionE (evsW D k) []) = X at hv4 hcl hcv hrw
  have r2 := rightW_spec hS (k := k) (u := X.1.1) (a := a4) (c := c4) (E := X.1.2) hs5 hW hokD hcv ((hv4.ea.sub hq4).sub hJm) (by omega)
  first | refine xretk (alive35_spec hS) ?_ | refine xret (alive35_spec hS) ?_
  conv => whnf
  refine ⟨fun _ => ?_, fun h => absurd h (by first | decide | simp)⟩
  conv => whnf
  first | refine xretk (r1) ?_ | refine xret (r1) ?_
  conv => whnf
  refine ⟨fun _ => ?_, fun h => absurd h (by first | decide | simp)⟩
  conv => whnf
  refine ⟨fun h => ?_, fun h => ?_⟩
  · conv => whnf
    exact ⟨rfl, hm.trans hm4⟩
  · have h0 : X.2 = 0 := by simpa using h
    rw [hrw h0] at r2
    conv => whnf
    first | refine xretk (r2) ?_ | refine xret (r2) ?_
    conv => whnf
    exact ⟨rfl, hm.trans hm4⟩
end Go.E.YtheiididldemmaaGreat

/-
  From a contract to a law's row: what arguments are that were read; that they read the same behind the call.
-/
namespace Go.E
open Go.ChangeShapes Go.WideShapes Go.RowKit

/-- a cell that was read: of the kind of z, and as such a cell may be -/
def KW : Value → Value → Prop
  | .int k _, .int k' n => k = k' ∧ (Lit.int k n).wf = true
  | .bool _, .bool _ => True
  | .string _, .string s => s.size ≤ maxLen
  | _, _ => False
def KWs : List Value → List Value → Prop
  | [], [] => True
  | z :: zs, x :: xs => KW z x ∧ KWs zs xs
  | _, _ => False
theorem KWs.length : ∀ {z x : List Value}, KWs z x → z.length = x.length
  | [], [], _ => rfl
  | _ :: _, _ :: _, h => by simp [KWs.length h.2]
  | [], _ :: _, h => h.elim
  | _ :: _, [], h => h.elim
theorem KWs.append : ∀ {z x z' x' : List Value}, KWs z x → KWs z' x' → KWs (z ++ z') (x ++ x')
  | [], [], _, _, _, h => h
  | _ :: _, _ :: _, _, _, h, h' => ⟨h.1, KWs.append h.2 h'⟩
  | [], _ :: _, _, _, h, _ => h.elim
  | _ :: _, [], _, _, h, _ => h.elim

section
variable {H : Type} {enc : TypeId × Value → H} {P : Program} {w : World} {base : Nat} {spare : Nat → Bool} {held : Bool}

theorem kws_items {D : Nat} {e : TypeId} {s : Nat} {z cs : List Value} (IH : ∀ i, goodB P D e ((z.drop (i * s)).take s) = true → KWs ((z.drop (i * s)).take s) ((cs.drop (i * s)).take s)) : ∀ (n k : Nat), (n + k) * s = z.length → cs.length = z.length →
    (∀ i, i < n + k → goodB P D e ((z.drop (i * s)).take s) = true) → KWs (z.drop (k * s)) (cs.drop (k * s))
  | 0, k, hl, hc, _ => by
    have h1 : z.drop (k * s) = [] := List.drop_eq_nil_of_le (by rw [← hl]; simp)
    have h2 : cs.drop (k * s) = [] := List.drop_eq_nil_of_le (by rw [hc, ← hl]; simp)
    rw [h1, h2]; trivial
  | n + 1, k, hl, hc, hg => by
    have ih := kws_items IH n (k + 1) (by rw [← hl]; congr 1; omega) hc (fun i hi => hg i (by omega))
    have := (IH k (hg k (by omega))).append ih
    have e1 : (k + 1) * s = k * s + s := by rw [Nat.add_mul, Nat.one_mul]
    rw [e1, ← List.drop_drop, ← List.drop_drop, List.take_append_drop, List.take_append_drop] at this
    exact this
theorem kws_fields {D : Nat} {z cs : List Value} (IH : ∀ (f : TypeId) (off : Nat), off + P.cellsOf f ≤ z.length → goodB P D f ((z.drop off).take (P.cellsOf f)) = true → (∃ fuel x, DataW.trod enc P w base spare held fuel f ((cs.drop off).take (P.cellsOf f)) = some x) → KWs ((z.drop off).take (P.cellsOf f)) ((cs.drop off).take (P.cellsOf f))) :
    ∀ (fs : List Field) (off : Nat), cs.length = z.length → goodF P (goodB P D) fs z off = true → (∀ f ∈ fs, ∃ fuel x, DataW.trod enc P w base spare held fuel f.type ((cs.drop f.offset).take (P.cellsOf f.type)) = some x) → KWs (z.drop off) (cs.drop off)
  | [], off, hc, hg, _ => by
    simp only [goodF, beq_iff_eq] at hg
    have h1 : z.drop off = [] := List.drop_eq_nil_of_le (by omega)
    have h2 : cs.drop off = [] := List.drop_eq_nil_of_le (by omega)
    rw [h1, h2]; trivial
  | f :: fs, off, hc, hg, ht => by
    simp only [goodF, Bool.and_eq_true, bne_iff_ne, ne_eq, beq_iff_eq] at hg
    obtain ⟨⟨⟨⟨_, ho⟩, hle⟩, hgf⟩, hr⟩ := hg
    have hle := of_decide_eq_true hle
    have h0 := ht f (by simp)
    rw [ho] at h0
    have := (IH f.type off hle hgf h0).append (kws_fields IH fs (off + P.cellsOf f.type) hc hr (fun f' hf => ht f' (by simp [hf])))
    rw [← List.drop_drop, ← List.drop_drop, List.take_append_drop, List.take_append_drop] at this
    exact this

theorem mapM_all {α β : Type} {f : α → Option β} : ∀ {l : List α} {r : List β}, l.mapM f = some r → ∀ x ∈ l, ∃ y, f x = some y
  | [], _, _, x, hx => by cases hx
  | a :: l, r, h, x, hx => by
    rw [List.mapM_cons] at h
    simp only [bind, Option.bind_eq_some_iff, pure, Option.some.injEq] at h
    obtain ⟨y, hy, ys, hys, _⟩ := h
    rcases List.mem_cons.1 hx with rfl | hx
    · exact ⟨y, hy⟩
    · exact mapM_all hys x hx

theorem trod_kw : ∀ (D : Nat) (t : TypeId) (z cs : List Value) (fuel : Nat) (x : DataW H × List MemPlace), goodB P D t z = true → z.length = P.cellsOf t → DataW.trod enc P w base spare held fuel t cs = some x → KWs z cs
  | 0, _, _, _, _, _, h, _, _ => by simp [goodB] at h
  | D + 1, t, z, cs, 0, x, h, hz, ht => by simp [DataW.trod] at ht
  | D + 1, t, z, cs, fuel + 1, x, h, hz, ht => by
    have IH := trod_kw D
    unfold goodB at h
    cases hu : P.underlying t with
    | none => simp [hu] at h
    | some kd =>
      rw [hu] at h
      cases kd with
      | bool =>
        simp only at h
        split at h
        · obtain ⟨b, rfl, _⟩ := DataW.trod_bool hu ht
          exact ⟨trivial, trivial⟩
        · cases h
      | int q =>
        simp only at h
        split at h
        · rename_i k' v
          have := kEq_eq h; subst this
          obtain ⟨n, rfl, _, hw⟩ := DataW.trod_int hu ht
          exact ⟨⟨rfl, hw⟩, trivial⟩
        · cases h
      | string =>
        simp only at h
        split at h
        · obtain ⟨s, rfl, _, hs⟩ := DataW.trod_string hu ht
          exact ⟨hs, trivial⟩
        · cases h
      | array n e =>
        simp only [Bool.and_eq_true, beq_iff_eq, List.all_eq_true, List.mem_range] at h
        obtain ⟨⟨hi, hlen⟩, hall⟩ := h
        obtain ⟨xs, k, hk, _, hl, hxl, hp⟩ := DataW.trod_array hu ht
        have := kws_items (P := P) (D := D) (e := e) (s := P.cellsOf e) (z := z) (cs := cs) (fun i hg => by
          by_cases hin : i < n
          · have hy := hp i hin
            rw [List.getElem?_eq_getElem (by omega)] at hy
            refine IH e _ _ k _ hg ?_ hy
            simp only [List.length_take, List.length_drop]
            have hle : i * P.cellsOf e + P.cellsOf e ≤ z.length := by
              rw [hlen, show i * P.cellsOf e + P.cellsOf e = (i + 1) * P.cellsOf e by rw [Nat.add_mul, Nat.one_mul]]
              exact Nat.mul_le_mul_right _ hin
            omega
          · have hge : z.length ≤ i * P.cellsOf e := by
              rw [hlen]; exact Nat.mul_le_mul_right _ (Nat.le_of_not_lt hin)
            rw [List.drop_eq_nil_of_le hge, List.drop_eq_nil_of_le (by omega)]
            simp [KWs]) n 0 (by simp; omega) (by omega) (fun i hi => hall i (by omega))
        simpa using this
      | struct fs =>
        simp only [Bool.and_eq_true, Bool.not_eq_true'] at h
        obtain ⟨_, hf⟩ := h
        obtain ⟨xs, k, hk, _, hl, hxl, hp⟩ := DataW.trod_struct hu ht
        have hfit : ∀ (f : TypeId) (off : Nat), off + P.cellsOf f ≤ z.length → goodB P D f ((z.drop off).take (P.cellsOf f)) = true → (∃ fuel x, DataW.trod enc P w base spare held fuel f ((cs.drop off).take (P.cellsOf f)) = some x) → KWs ((z.drop off).take (P.cellsOf f)) ((cs.drop off).take (P.cellsOf f)) := by
          intro f off hle hg ⟨fu, y, hy⟩
          exact IH f _ _ fu y hg (by simp only [List.length_take, List.length_drop]; omega) hy
        have := kws_fields hfit fs.toList 0 (by omega) hf (fun f hf' => by
          obtain ⟨i, hi, he⟩ := List.getElem_of_mem hf'
          have hy := hp i f (by rw [← Array.getElem?_toList, List.getElem?_eq_getElem hi, he])
          rw [List.getElem?_eq_getElem (by simp at hi; omega)] at hy
          exact ⟨k, _, hy⟩)
        simpa using this
      | _ => simp at h

def InLB : LB → LB → Prop
  | [], [] => True
  | .one z :: zs, .one x :: xs => KW z x ∧ InLB zs xs
  | .ints k n _ :: zs, .ints k' n' l :: xs => (k' = k ∧ n' = n ∧ l.length = n ∧ ∀ x ∈ l, (Lit.int k x).wf = true) ∧ InLB zs xs
  | _, _ => False
def plainLB : LB → Bool
  | [] => true
  | .one _ :: r => plainLB r
  | .ints _ _ _ :: r => plainLB r
  | .vals _ _ :: _ => false
theorem kws_ints {k : IntKind} : ∀ (l : List Int) (z' cs : List Value), KWs (l.map (Value.int k) ++ z') cs → ∃ (l' : List Int) (r : List Value), cs = l'.map (Value.int k) ++ r ∧ l'.length = l.length ∧ (∀ x ∈ l', (Lit.int k x).wf = true) ∧ KWs z' r
  | [], z', cs, h => ⟨[], cs, rfl, rfl, by simp, h⟩
  | a :: l, z', [], h => h.elim
  | a :: l, z', c :: cs, h => by
    obtain ⟨h1, h2⟩ := h
    obtain ⟨l', r, rfl, h3, h4, h5⟩ := kws_ints l z' cs h2
    cases c <;> simp only [KW] at h1
    obtain ⟨rfl, h1⟩ := h1
    rename_i n
    refine ⟨n :: l', r, rfl, by simp [h3], ?_, h5⟩
    intro x hx
    rcases List.mem_cons.1 hx with rfl | hx
    · exact h1
    · exact h4 x hx
theorem KW.one {z x : Value} (h : KW z x) : x.oneCell' = true := by
  cases z <;> cases x <;> simp only [KW] at h <;> rfl
theorem inLB_of : ∀ {z : LB} {cs : List Value}, plainLB z = true → LB.ok z → KWs (LB.cells z) cs → ∃ c, LB.cells c = cs ∧ LB.ok c ∧ InLB z c
  | [], [], _, _, _ => ⟨[], rfl, trivial, trivial⟩
  | [], _ :: _, _, _, h => h.elim
  | .one z :: zs, [], _, _, h => h.elim
  | .one z :: zs, x :: xs, hp, hz, h => by
    obtain ⟨h1, h2⟩ := h
    obtain ⟨c, rfl, hc, h3⟩ := inLB_of (z := zs) hp hz.2 h2
    exact ⟨.one x :: c, rfl, ⟨h1.one, hc⟩, h1, h3⟩
  | .ints k n l :: zs, cs, hp, hz, h => by
    obtain ⟨l', r, rfl, h1, h2, h3⟩ := kws_ints l (LB.cells zs) cs h
    obtain ⟨c, rfl, hc, h4⟩ := inLB_of (z := zs) hp hz.2 h3
    have hl : l.length = n := hz.1
    exact ⟨.ints k n l' :: c, rfl, ⟨(by show l'.length = n; omega), hc⟩, ⟨rfl, rfl, by omega, h2⟩, h4⟩
  | .vals _ _ :: _, _, hp, _, _ => by simp [plainLB] at hp

/-- an argument that is a struct or an array of plain cells -/
theorem open_flat {T : Tab} (hT : TabOk P T) {t : TypeId} {ti : TI} (ht : T t = some ti) (he : ti.eq = true) (hp : plainLB ti.zero = true) {r : Reach} {b0 : Nat} {v : Value} {d : DataW H} {ps : List MemPlace}
    (hval : Value.okWide P w r b0 t v) (hd : DataW.Trod enc P w base spare held t v d ps) : ∃ c, v = .agg (LB.cells c).toArray ∧ LB.ok c ∧ InLB ti.zero c := by
  have ho := hT t ti ht
  obtain ⟨ha, hg, _, hsz⟩ := ho.eqOk he
  obtain ⟨ds, hds, hk⟩ := ho.desc
  obtain ⟨j, hj, hjs, _, z, hz, hzc⟩ := ho.inf
  have hv : ∃ cs, v = .agg cs := by
    unfold Value.okWide at hval
    rw [← hk] at ha
    rw [hds] at hval
    cases ds <;> simp [TK.of, TK.agg] at ha <;> (obtain ⟨cs, h, _⟩ := hval; exact ⟨cs, h⟩)
  obtain ⟨cs, rfl⟩ := hv
  obtain ⟨fuel, hf⟩ := hd
  have hf' : DataW.trod enc P w base spare held fuel t cs.toList = some (d, ps) := hf
  have hlen : (LB.cells ti.zero).length = P.cellsOf t := by
    rw [hsz, ← hjs]; simp [Program.cellsOf, hj]
  obtain ⟨c, h1, h2, h3⟩ := inLB_of hp ho.zok (trod_kw 50 t _ _ fuel _ hg hlen hf')
  exact ⟨c, by rw [h1], h2, h3⟩

theorem trodAll_stays (hl : laidOutB P = true) {W W' : World} (hb : Below W.heap.size W W') {sp : Nat → Bool} : ∀ {ts : List TypeId} {vs : List Value} {ds : List (DataW H)} {ps : List MemPlace}, (∀ t ∈ ts, P.readableRec t = true ∧ t < P.types.size) →
    DataW.TrodAll enc P W 0 (fun _ => true) true ts vs ds ps → (∀ p ∈ ps, p.block < W.heap.size) → (∀ p ∈ ps, sp p.block = true) → DataW.TrodAll enc P W' 0 sp true ts vs ds ps
  | [], [], [], ps, _, h, _, _ => h
  | t :: ts, v :: vs, d :: ds, ps, hr, h, hlt, hs => by
    obtain ⟨p, q, h1, h2, rfl⟩ := h
    refine ⟨p, q, WideElems.Trod_stays hl (hr t (by simp)).1 (hr t (by simp)).2 h1 (fun x hx => hb.same (hlt x (by simp [hx]))) (fun x hx => hs x (by simp [hx])),
      trodAll_stays hl hb (fun t' ht' => hr t' (by simp [ht'])) h2 (fun x hx => hlt x (by simp [hx])) (fun x hx => hs x (by simp [hx])), rfl⟩
  | [], _ :: _, _, _, _, h, _, _ => h.elim
  | [], [], _ :: _, _, _, h, _, _ => h.elim
  | _ :: _, [], _, _, _, h, _, _ => h.elim
  | _ :: _, _ :: _, [], _, _, h, _, _ => h.elim

/-- THE LAW's ROW IS SHUT: it returned true, and below the heap's old size nothing has turned. -/
theorem lawPost (hl : laidOutB P = true) {f : Func} {s : ChangeSpec} {W W' : World} {args : Array Value} {ds gs : List (DataW H)} {before : List MemPlace} {tb : TypeId} (hvars : s.vars = [])
    (hfn : s.fn H (ds ++ gs) = { results := [.lit (.bool true)], args := ds }) (hres : f.resultTypes = #[tb]) (hbool : P.underlying tb = some .bool) (hread : f.params.toList.all (fun t => P.readableRec t && decide (t < P.types.size)) = true)
    (hW : DataW.Whole enc P f.params.toList s.vars false W args.toList ds gs before) (hb : Below W.heap.size W W') : s.post enc P f false true false false W args (.bool true) W' := by
  have hlt := hW.lt
  have hW' := hW
  obtain ⟨p, q, hA, hV, rfl, hfz, hnd⟩ := hW
  rw [hvars] at hV
  obtain ⟨rfl, rfl⟩ := trodVars_none hV
  have hread' : ∀ t ∈ f.params.toList, P.readableRec t = true ∧ t < P.types.size := fun t ht => by
    have := List.all_eq_true.1 hread t ht
    simpa using this
  have hA' : DataW.TrodAll enc P W' 0 (fun b => decide (b < W.heap.size)) true f.params.toList args.toList ds p :=
    trodAll_stays hl hb hread' hA (fun x hx => hlt x (by simp [hx])) (fun x hx => by simpa using hlt x (by simp [hx]))
  refine ⟨ds, [], p ++ [], [], p, [], hW', ?_, ?_, ?_, World.keptBut_mono (fun x hx => ⟨hx, .inr (.inl (by simpa using hx))⟩) (hb.frame _), fun h => by cases h⟩
  · rw [hfn, hres]
    exact trodAll_cons_mk (shut_bool hbool _) trodAll_mk0
  · rw [hfn]; exact hA'
  · rw [hfn, hvars]; rfl
end
end Go.E

/-
  What arguments that are slices of plain cells are.
-/
namespace Go.E
open Go.ChangeShapes Go.WideShapes Go.RowKit
section
variable {H : Type} {enc : TypeId × Value → H} {P : Program} {w : World} {base : Nat} {spare : Nat → Bool} {held : Bool}

theorem chunks_flat {α : Type} (l : List α) (s : Nat) : ∀ (n k : Nat), (k + n) * s ≤ l.length → ((List.range' k n).map (fun i => (l.drop (i * s)).take s)).flatten = (l.drop (k * s)).take (n * s)
  | 0, k, _ => by simp
  | n + 1, k, h => by
    have ih := chunks_flat l s n (k + 1) (by rw [show k + 1 + n = k + (n + 1) by omega]; exact h)
    simp only [List.range'_succ, List.map_cons, List.flatten_cons, ih]
    rw [show (n + 1) * s = s + n * s by rw [Nat.add_mul]; omega, show (k + 1) * s = k * s + s by rw [Nat.add_mul]; omega]
    rw [List.take_add, List.drop_drop]
/-- a slice whose elements are plain: each element's cells, as they were read -/
theorem open_slice {T : Tab} (hT : TabOk P T) {t e : TypeId} {ti ei : TI} (ht : T t = some ti) (hk : ti.k = .slice e) (he : T e = some ei) (hg : goodB P 50 e (LB.cells ei.zero) = true) (hsz : (LB.cells ei.zero).length = ei.size) (hpos : 0 < ei.size)
    (hall : ∀ z ∈ LB.cells ei.zero, ∀ x, KW z x → x.oneCell' = true) {r : Reach} {b0 : Nat} {v : Value} {d : DataW H} {ps : List MemPlace}
    (hval : Value.okWide P w r b0 t v) (hd : DataW.Trod enc P w base spare held t v d ps) :
    ∃ els : List (List Value), Lies (fun b => w.heap[b]?) ei.size v els.flatten ∧ lenV v = els.length ∧ (∀ c ∈ els, KWs (LB.cells ei.zero) c) ∧ els.length ≤ maxLen ∧ v.oneCell' = true := by
  have hsl := (hT t ti ht).slice hk
  obtain ⟨j, hj, hjs, _, z, hz, hzc⟩ := (hT e ei he).inf
  have hcell : P.cellsOf e = ei.size := by simp [Program.cellsOf, hj, hjs]
  obtain ⟨fuel, hf⟩ := hd
  have hvc : ∃ v', v = v' ∧ v.cells.toList = [v'] ∧ v.oneCell' = true := by
    unfold Value.okWide at hval
    rw [hsl] at hval
    simp only [Cell.okWide, hsl, Cell.ok] at hval
    cases v <;> simp at hval
    exact ⟨_, rfl, rfl, rfl⟩
  obtain ⟨v', rfl, hc1, hone⟩ := hvc
  have hf' : DataW.trod enc P w base spare held fuel t v.cells.toList = some (d, ps) := hf
  rw [hc1] at hf'
  rcases DataW.trod_slice hsl hf' with ⟨h0, _⟩ | ⟨a, len, cap, elems, rest, n, _, h0, _, hb, hl, hm, hlen, hel, _, _⟩
  · simp only [List.cons.injEq, and_true] at h0
    subst h0
    exact ⟨[], .inl ⟨0, rfl, rfl⟩, rfl, by simp, by simp, rfl⟩
  · simp only [List.cons.injEq, and_true] at h0
    subst h0
    have hw : w.has P r b0 a e cap := by
      unfold Value.okWide at hval
      rw [hsl] at hval
      simp only [Cell.okWide, hsl, Cell.ok] at hval
      exact hval.2.2
    obtain ⟨_, hspot, row, cells, hshape, _⟩ := hw
    obtain ⟨b, o, spot⟩ := a
    simp only at hspot
    subst hspot
    have hblk : ∃ arr t' fr, w.heap[b]? = some (.cells arr t' fr) := by
      unfold World.shape? at hshape
      simp only at hshape
      cases hx : w.heap[b]? with
      | none => simp [hx] at hshape
      | some ob => cases ob <;> simp [hx] at hshape <;> exact ⟨_, _, _, rfl⟩
    obtain ⟨arr, t', fr, harr⟩ := hblk
    rw [hcell] at hel
    have each : ∀ i, i < len → ∃ cs y, KWs (LB.cells ei.zero) cs ∧ cs = ((arr.toList.drop o).drop (i * ei.size)).take ei.size ∧ DataW.trod enc P w base spare held n e cs = some y ∧ o + i * ei.size + ei.size ≤ arr.size := by
      intro i hi
      have h1 := hel i hi
      have h2 : ∃ y, elems[i]? = some y := ⟨elems[i]'(by omega), by simp [show i < elems.length by omega]⟩
      obtain ⟨y, hy⟩ := h2
      rw [hy, Option.bind_eq_some_iff] at h1
      obtain ⟨cs, g1, g2⟩ := h1
      obtain ⟨_, g3, g4⟩ := World.cells?_some g1
      have g5 : ∀ k, k < ei.size → arr[o + i * ei.size + k]? = cs[k]? := by
        intro k hk'
        have := g4 k hk'
        rw [add_none, add_none, cell_at harr] at this
        exact this
      have hlast : o + i * ei.size + ei.size ≤ arr.size := by
        have := g5 (ei.size - 1) (by omega)
        rw [List.getElem?_eq_getElem (by omega)] at this
        have := (Array.getElem?_eq_some_iff.1 this).1
        omega
      refine ⟨cs, y, trod_kw 50 e _ _ n _ hg (by rw [hsz, hcell]) g2, ?_, g2, hlast⟩
      apply List.ext_getElem?
      intro k
      by_cases hk' : k < ei.size
      · rw [← g5 k hk', List.getElem?_take, if_pos hk', List.getElem?_drop, List.getElem?_drop, Array.getElem?_toList]
        congr 1; omega
      · rw [List.getElem?_eq_none (by omega), List.getElem?_eq_none (by simp; omega)]
    have hbound : len * ei.size ≤ (arr.toList.drop o).length ∨ len = 0 := by
      by_cases h0 : len = 0
      · exact .inr h0
      · obtain ⟨_, _, _, _, _, g⟩ := each (len - 1) (by omega)
        left
        have : len * ei.size = (len - 1) * ei.size + ei.size := by
          rw [← Nat.succ_mul]; congr 1; omega
        simp
        omega
    have hflat := chunks_flat (arr.toList.drop o) ei.size len 0 (by
      rw [Nat.zero_add]
      rcases hbound with h | h
      · exact h
      · rw [h]; simp)
    refine ⟨(List.range' 0 len).map (fun i => ((arr.toList.drop o).drop (i * ei.size)).take ei.size), .inr ⟨b, o, cap, len, arr, t', fr, rfl, harr, ?_, hl, ?_, ?_⟩, by simp [lenV], ?_, by simp; omega, rfl⟩
    · rw [hflat]
      simp only [Nat.zero_mul, List.drop_zero, List.length_take]
      rcases hbound with h | h
      · omega
      · rw [h]; simp
    · intro j' u hu
      rw [hflat] at hu
      simp only [Nat.zero_mul, List.drop_zero, List.getElem?_take] at hu
      split at hu
      · rw [List.getElem?_drop, Array.getElem?_toList] at hu; exact hu
      · simp at hu
    · intro u hu
      obtain ⟨c, hc, huc⟩ := List.mem_flatten.1 hu
      obtain ⟨i, hi, rfl⟩ := List.mem_map.1 hc
      simp at hi
      obtain ⟨cs, y, k1, k2, _⟩ := each i hi
      rw [← k2] at huc
      have : ∀ (zs cs : List Value), KWs zs cs → (∀ z ∈ zs, ∀ x, KW z x → x.oneCell' = true) → ∀ u ∈ cs, u.oneCell' = true := by
        intro zs
        induction zs with
        | nil => intro cs h _ u hu; cases cs with
          | nil => simp at hu
          | cons => exact h.elim
        | cons z zs ih => intro cs h h' u hu; cases cs with
          | nil => exact h.elim
          | cons c cs =>
            rcases List.mem_cons.1 hu with rfl | hu
            · exact h' z (by simp) _ h.1
            · exact ih cs h.2 (fun z hz => h' z (by simp [hz])) u hu
      exact this _ _ k1 hall u huc
    · intro c hc
      obtain ⟨i, hi, rfl⟩ := List.mem_map.1 hc
      simp at hi
      obtain ⟨cs, y, k1, k2, _⟩ := each i hi
      rw [← k2]; exact k1
/-- numbers -/
theorem kws_one {k : IntKind} {c : List Value} {z : Int} (h : KWs [.int k z] c) : ∃ n, c = [.int k n] ∧ (Lit.int k n).wf = true := by
  match c, h with
  | [.int k' n], h => obtain ⟨⟨rfl, h⟩, _⟩ := h; exact ⟨n, rfl, h⟩
theorem els_ints {k : IntKind} {z : Int} : ∀ {els : List (List Value)}, (∀ c ∈ els, KWs [.int k z] c) → ∃ l : List Int, els.flatten = l.map (Value.int k) ∧ l.length = els.length ∧ ∀ n ∈ l, (Lit.int k n).wf = true
  | [], _ => ⟨[], rfl, rfl, by simp⟩
  | c :: els, h => by
    obtain ⟨n, rfl, hn⟩ := kws_one (h c (by simp))
    obtain ⟨l, h1, h2, h3⟩ := els_ints (els := els) (fun c hc => h c (by simp [hc]))
    refine ⟨n :: l, by simp [h1], by simp [h2], ?_⟩
    intro x hx
    rcases List.mem_cons.1 hx with rfl | hx
    · exact hn
    · exact h3 x hx
theorem els_vecs {k : IntKind} {z : List Int} : ∀ {els : List (List Value)}, (∀ c ∈ els, KWs (z.map (Value.int k)) c) → ∃ ls : List (List Int), els = ls.map (fun l => l.map (Value.int k)) ∧ ∀ l ∈ ls, l.length = z.length ∧ ∀ n ∈ l, (Lit.int k n).wf = true
  | [], _ => ⟨[], rfl, by simp⟩
  | c :: els, h => by
    have hc := h c (by simp)
    obtain ⟨l', r, h1, h2, h3, h4⟩ := kws_ints z [] c (by simpa using hc)
    have hr : r = [] := by cases r with
      | nil => rfl
      | cons => exact h4.elim
    subst hr
    obtain ⟨ls, g1, g2⟩ := els_vecs (els := els) (fun c hc => h c (by simp [hc]))
    refine ⟨l' :: ls, by simp [h1, g1], ?_⟩
    intro x hx
    rcases List.mem_cons.1 hx with rfl | hx
    · exact ⟨h2, h3⟩
    · exact g2 x hx
end
end Go.E
