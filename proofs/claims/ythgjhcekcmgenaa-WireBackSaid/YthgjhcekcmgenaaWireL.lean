/-
  The laws of chapter 02: what is written.
-/
import Derived.Test.YthgjhcekcmgenaaWireA
import Derived.Test.YthgjhcekcmgenaaE24
namespace Go.E.Ythgjhcekcmgenaa
open Go.Proofs
set_option maxRecDepth 100000

abbrev partL (x : Part) (bv : Value) : LB := [.one (.int .i64 x.k), .one (.int .i64 x.i), .one (.int .i64 x.mo), .one (.int .u64 x.n), .one bv, .ints .u8 32 x.d, .ints .u64 8 x.v]
/-- parts that lie in m -/
structure Ps (m : Mem) (v : Value) (xs : List (Part × Value)) : Prop where
  ok : ∀ p ∈ xs, p.1.ok ∧ La m p.2 p.1.b
  shape : ∃ a c, v = .slice a xs.length c
  elem : ∀ (i : Nat) p, xs[i]? = some p → ∃ b o c, v = .slice (some ⟨b, o, none⟩) xs.length c ∧ ∀ (i : Nat) p, xs[i]? = some p → MRange m b (o + i * 45) (LB.cells (partL p.1 p.2))
theorem Ps.real {m : Mem} {v : Value} {xs : List (Part × Value)} (h : Ps m v xs) {i : Nat} (hi : i < xs.length) : ∃ b o c, v = .slice (some ⟨b, o, none⟩) xs.length c ∧ ∀ (i : Nat) p, xs[i]? = some p → MRange m b (o + i * 45) (LB.cells (partL p.1 p.2)) :=
  h.elem i xs[i] (List.getElem?_eq_getElem hi)
def outB (xs : List (Part × Value)) : List Int := (xs.map fun p => partB p.1).flatten
theorem outB_take {xs : List (Part × Value)} {i : Nat} (h : i < xs.length) : outB (xs.take i) ++ partB xs[i].1 = outB (xs.take (i + 1)) := by
  rw [List.take_succ_eq_append_getElem h, outB, outB, List.map_append, List.flatten_append]; simp
theorem partB_len {x : Part} (hx : x.ok) (hb : x.b.length ≤ 500) : (partB x).length ≤ 600 := by
  have h1 := numB_len x.n
  have h2 := numB_len (intU x.i)
  have h3 := numB_len (x.b.length : Int)
  have h4 := vecB_len x.v
  have h5 := hx.v.1
  have h6 := hx.d
  unfold partB
  split
  · omega
  split
  · omega
  split
  · simp only [textB, List.length_append]; omega
  split
  · omega
  split
  · omega
  · simp
theorem outB_len : ∀ {xs : List (Part × Value)}, (∀ p ∈ xs, p.1.ok ∧ p.1.b.length ≤ 500) → (outB xs).length ≤ 600 * xs.length
  | [], _ => by simp [outB]
  | p :: xs, h => by
    have h1 := partB_len (h p (by simp)).1 (h p (by simp)).2
    have h2 := outB_len (xs := xs) (fun q hq => h q (by simp [hq]))
    simp only [outB, List.map_cons, List.flatten_cons, List.length_append, List.length_cons] at h2 ⊢
    omega
theorem partL_ok {x : Part} {bv : Value} (hx : x.ok) (hb : bv.oneCell' = true) : LB.ok (partL x bv) := ⟨rfl, rfl, rfl, rfl, hb, hx.d, hx.v.1, trivial⟩
theorem kept_sub1 {m m' : Mem} {b : Nat} {o : Obj} (h : m b = some o) (hs : Sub m m') : Kept [b] m m' := fun x hx => by rw [List.mem_singleton.1 hx, h, hs _ _ h]
theorem kept_nil (m m' : Mem) : Kept [] m m' := fun x hx => by cases hx
set_option maxHeartbeats 4000000 in
theorem wireWrites_spec {m0 : Mem} {v : Value} {xs : List (Part × Value)} (h : Ps m0 v xs) :
    Spec Try.prog 3 [.v v] m0 fun r m' => r = [boolV true] ∧ Sub m0 m' := by
  obtain ⟨a, c, hshape⟩ := h.shape
  refine en3 rfl (goY ?_)
  conv => whnf
  intro bp hbp
  conv => whnf
  have hs0 := ((Split.one m0).new hbp (.cells (LB.cells [.one (.slice none 0 0)]).toArray 26)).addEmp
  refine .mk (ι := Nat × Value) (fun i => 40 - i.1) (fun ⟨i, x⟩ mm => i ≤ xs.length ∧ i ≤ 40 ∧ (∀ p ∈ xs.take i, p.1.b.length ≤ 500) ∧ ∃ pw pq, Split mm [pq, pw, m0] ∧ Wr pw bp (outB (xs.take i)) ∧ Bs pq x (outB (xs.take i)))
    (fun ⟨i, x⟩ => [(0, .c (.v v)), (3, .c (ptrV bp)), (4, .c nilP), (5, .c (.v x)), (6, .c (i64 i))]) (fun _ => []) (0, .slice none 0 0) ⟨by omega, by omega, by simp, _, _, hs0, ⟨_, blk1_same .., Bs.nil _, by simp [blkV]⟩, Bs.nil _⟩ ?_ ?_
  · conv => whnf
    repeat (refine And.intro (by first | with_reducible rfl | exact congrArg (Value.int _) (wi (by omega) (by omega)) | exact wi (by omega) (by omega) | rfl) ?_; conv => whnf)
    first | exact trivial | exact fun _ _ h => h
  rintro ⟨i, x⟩ mm ⟨hi, hi40, hsm, pw, pq, hs, hw, hx⟩
  subst hshape
  conv => whnf
  refine ⟨fun h1 => ?_, fun h1 => ?_⟩
  · have h1' := of_decide_eq_true h1
    have hlt : i < xs.length := by omega
    conv => whnf
    refine ⟨fun h2 => ?_, fun h2 => ?_⟩
    · have h2' := of_decide_eq_true h2
      obtain ⟨b, o, c', hv, hat⟩ := h.real hlt
      cases hv
      have hp := List.getElem?_eq_getElem hlt
      have hok := h.ok xs[i] (by simp)
      have hr := hat i _ hp
      conv => whnf
      repeat (refine And.intro (by first | omega | (simp only [times]; omega)) ?_; conv => whnf)
      refine ⟨partL xs[i].1 xs[i].2, partL_ok hok.1 hok.2.one, rfl, hr.sub (hs.at (i := 2) rfl), ?_⟩
      conv => whnf
      first | refine xretk (great_spec (hok.2.sub (hs.at (i := 2) rfl))) ?_ | refine xret (great_spec (hok.2.sub (hs.at (i := 2) rfl))) ?_
      conv => whnf
      refine ⟨fun h3 => ?_, fun h3 => ?_⟩
      · conv => whnf
        refine xcall (alive_in) ?_
        rintro _ m9 ⟨rfl, p9, hs9⟩
        conv => whnf
        exact ⟨rfl, (hs.at (i := 2) rfl).trans (hs9.at (i := 1) rfl)⟩
      · have h3' := of_decide_eq_false h3
        have hbl : (outB (xs.take i)).length ≤ 24000 := by
          have := outB_len (xs := xs.take i) (fun p hp => ⟨(h.ok p (List.mem_of_mem_take hp)).1, hsm p hp⟩)
          simp only [List.length_take] at this
          omega
        have hpl := partB_len hok.1 (by omega)
        conv => whnf
        repeat (refine And.intro (by first | omega | (simp only [times]; omega)) ?_; conv => whnf)
        refine ⟨partL xs[i].1 xs[i].2, partL_ok hok.1 hok.2.one, rfl, hr.sub (hs.at (i := 2) rfl), ?_⟩
        conv => whnf
        refine xcall (put_spec (i := 1) (j := 2) hs rfl rfl (by decide) hok.1 (.inr ⟨bp, rfl, hw⟩) hok.2 (by omega) (by omega)) ?_
        rintro _ m2 ⟨v2, q2, p2, rfl, hs2, hv2, hw2⟩
        conv => whnf
        refine .mk _ (appendBat (i := 1) hs2 rfl hx (hv2.sub (hs2.at (i := 0) rfl)).la (by omega)) ?_
        rintro _ m3 ⟨v3, p3, rfl, hs3, h3⟩
        conv => whnf
        repeat (refine And.intro (by first | omega | (simp only [times]; omega)) ?_; conv => whnf)
        refine ⟨partL xs[i].1 xs[i].2, partL_ok hok.1 hok.2.one, rfl, hr.sub (hs3.at (i := 3) rfl), ?_⟩
        conv => whnf
        refine xcall (put_spec (i := 0) (j := 4) (l := []) hs3.addEmp rfl rfl (by decide) hok.1 (.inl rfl) hok.2 (by simp) (by omega)) ?_
        rintro _ m4 ⟨v4, q4, p4, rfl, hs4, _, _⟩
        conv => whnf
        have hw2' : Wr p2 bp (outB (xs.take i) ++ partB xs[i].1) := by
          rcases hw2 with e | ⟨bp', e, hw2⟩
          · cases e
          · cases e; exact hw2
        have hx3 := h3.own
        rw [outB_take hlt] at hw2' hx3
        refine ⟨(i + 1, v3), ⟨by omega, by omega, ?_, p2, p3, ((hs4.erase 0).erase 0).erase 0, hw2', hx3⟩, ?_, ?_⟩
        · intro p hp
          rw [List.take_succ_eq_append_getElem hlt] at hp
          rcases List.mem_append.1 hp with hp | hp
          · exact hsm p hp
          · simp at hp; subst hp; omega
        · show 40 - (i + 1) < 40 - i
          omega
        · conv => whnf
          repeat (refine And.intro (by first | with_reducible rfl | (exact congrArg (Value.int _) (iadd (by omega))) | exact congrArg (Value.int _) (wi (by omega) (by omega)) | exact wi (by omega) (by omega) | rfl) ?_; conv => whnf)
          first | exact trivial | exact fun _ _ h => h
    · have h2' := of_decide_eq_false h2
      have hbl : (outB (xs.take i)).length ≤ 24000 := by
        have := outB_len (xs := xs.take i) (fun p hp => ⟨(h.ok p (List.mem_of_mem_take hp)).1, hsm p hp⟩)
        simp only [List.length_take] at this
        omega
      conv => whnf
      refine xcall (alive_in) ?_
      rintro _ m9 ⟨rfl, p9, hs9⟩
      conv => whnf
      have hs9 := hs9.under (a := [p9]) hs
      refine ⟨fun _ => ?_, fun h => absurd h (by decide)⟩
      conv => whnf
      rcases hx.lb.cases with ⟨cx, rfl, ex⟩ | ⟨bx, ox, cx, arrx, tx, frx, rfl, gx, _⟩
      · conv => whnf
        refine xcall (wbytes_spec (hw.mono (hs9.at (i := 2) rfl)) (by omega)) ?_
        rintro _ m10 ⟨v10, p10, rfl, hs10', hv10⟩
        have hs10 := hs10'.under (a := [p10]) hs9
        first | refine ⟨kept_nil _ _, ?_⟩ | skip
        rcases hv10.lb.cases with ⟨cv, rfl, ev⟩ | ⟨bv, ov, cv, arrv, tv, frv, rfl, gv, _⟩
        · conv => whnf
          refine ⟨fun _ => ?_, fun h => absurd h (by simp)⟩
          conv => whnf
          first | refine xretk (wbytes_nil) ?_ | refine xret (wbytes_nil) ?_
          conv => whnf
          exact ⟨rfl, hs10.at (i := 4) rfl⟩
        · conv => whnf
          refine ⟨outB (xs.take i), rfl, (hv10.lb.sub (hs10.at (i := 0) rfl)).range, ?_⟩
          conv => whnf
          refine ⟨fun _ => ?_, fun h => absurd h (by rw [ex, show strOf [] = ByteArray.empty from rfl]; simp)⟩
          conv => whnf
          first | refine xretk (wbytes_nil) ?_ | refine xret (wbytes_nil) ?_
          conv => whnf
          exact ⟨rfl, hs10.at (i := 4) rfl⟩
      · conv => whnf
        refine ⟨outB (xs.take i), rfl, (hx.lb.sub (hs9.at (i := 1) rfl)).range, ?_⟩
        conv => whnf
        refine xcall (wbytes_spec (hw.mono (hs9.at (i := 2) rfl)) (by omega)) ?_
        rintro _ m10 ⟨v10, p10, rfl, hs10', hv10⟩
        have hs10 := hs10'.under (a := [p10]) hs9
        refine ⟨kept_sub1 (hs9.at (i := 1) rfl _ _ gx) (hs10'.at (i := 1) rfl), ?_⟩
        rcases hv10.lb.cases with ⟨cv, rfl, ev⟩ | ⟨bv, ov, cv, arrv, tv, frv, rfl, gv, _⟩
        · conv => whnf
          refine ⟨fun _ => ?_, fun h => absurd h (by rw [ev, show strOf [] = ByteArray.empty from rfl]; simp)⟩
          conv => whnf
          first | refine xretk (wbytes_nil) ?_ | refine xret (wbytes_nil) ?_
          conv => whnf
          exact ⟨rfl, hs10.at (i := 4) rfl⟩
        · conv => whnf
          refine ⟨outB (xs.take i), rfl, (hv10.lb.sub (hs10.at (i := 0) rfl)).range, ?_⟩
          conv => whnf
          refine ⟨fun _ => ?_, fun h => absurd h (by simp)⟩
          conv => whnf
          first | refine xretk (wbytes_nil) ?_ | refine xret (wbytes_nil) ?_
          conv => whnf
          exact ⟨rfl, hs10.at (i := 4) rfl⟩
  · have h1' := of_decide_eq_false h1
    have hbl : (outB (xs.take i)).length ≤ 24000 := by
      have := outB_len (xs := xs.take i) (fun p hp => ⟨(h.ok p (List.mem_of_mem_take hp)).1, hsm p hp⟩)
      simp only [List.length_take] at this
      omega
    conv => whnf
    refine xcall (alive_in) ?_
    rintro _ m9 ⟨rfl, p9, hs9⟩
    conv => whnf
    have hs9 := hs9.under (a := [p9]) hs
    refine ⟨fun _ => ?_, fun h => absurd h (by decide)⟩
    conv => whnf
    rcases hx.lb.cases with ⟨cx, rfl, ex⟩ | ⟨bx, ox, cx, arrx, tx, frx, rfl, gx, _⟩
    · conv => whnf
      refine xcall (wbytes_spec (hw.mono (hs9.at (i := 2) rfl)) (by omega)) ?_
      rintro _ m10 ⟨v10, p10, rfl, hs10', hv10⟩
      have hs10 := hs10'.under (a := [p10]) hs9
      first | refine ⟨kept_nil _ _, ?_⟩ | skip
      rcases hv10.lb.cases with ⟨cv, rfl, ev⟩ | ⟨bv, ov, cv, arrv, tv, frv, rfl, gv, _⟩
      · conv => whnf
        refine ⟨fun _ => ?_, fun h => absurd h (by simp)⟩
        conv => whnf
        first | refine xretk (wbytes_nil) ?_ | refine xret (wbytes_nil) ?_
        conv => whnf
        exact ⟨rfl, hs10.at (i := 4) rfl⟩
      · conv => whnf
        refine ⟨outB (xs.take i), rfl, (hv10.lb.sub (hs10.at (i := 0) rfl)).range, ?_⟩
        conv => whnf
        refine ⟨fun _ => ?_, fun h => absurd h (by rw [ex, show strOf [] = ByteArray.empty from rfl]; simp)⟩
        conv => whnf
        first | refine xretk (wbytes_nil) ?_ | refine xret (wbytes_nil) ?_
        conv => whnf
        exact ⟨rfl, hs10.at (i := 4) rfl⟩
    · conv => whnf
      refine ⟨outB (xs.take i), rfl, (hx.lb.sub (hs9.at (i := 1) rfl)).range, ?_⟩
      conv => whnf
      refine xcall (wbytes_spec (hw.mono (hs9.at (i := 2) rfl)) (by omega)) ?_
      rintro _ m10 ⟨v10, p10, rfl, hs10', hv10⟩
      have hs10 := hs10'.under (a := [p10]) hs9
      refine ⟨kept_sub1 (hs9.at (i := 1) rfl _ _ gx) (hs10'.at (i := 1) rfl), ?_⟩
      rcases hv10.lb.cases with ⟨cv, rfl, ev⟩ | ⟨bv, ov, cv, arrv, tv, frv, rfl, gv, _⟩
      · conv => whnf
        refine ⟨fun _ => ?_, fun h => absurd h (by rw [ev, show strOf [] = ByteArray.empty from rfl]; simp)⟩
        conv => whnf
        first | refine xretk (wbytes_nil) ?_ | refine xret (wbytes_nil) ?_
        conv => whnf
        exact ⟨rfl, hs10.at (i := 4) rfl⟩
      · conv => whnf
        refine ⟨outB (xs.take i), rfl, (hv10.lb.sub (hs10.at (i := 0) rfl)).range, ?_⟩
        conv => whnf
        refine ⟨fun _ => ?_, fun h => absurd h (by simp)⟩
        conv => whnf
        first | refine xretk (wbytes_nil) ?_ | refine xret (wbytes_nil) ?_
        conv => whnf
        exact ⟨rfl, hs10.at (i := 4) rfl⟩
/-! ### the arguments -/
def shPart : Sh := .pair (.int .i64) (.pair (.int .i64) (.pair (.int .i64) (.pair (.int .u64) (.pair (.slice (.int .u8)) (.pair (.rep 32 (.int .u8)) (.pair (.rep 8 (.int .u64)) .unit))))))
theorem dat_la {m : Mem} {cs : List Value} (h : Dat m (.slice (.int .u8)) cs) : ∃ v l, cs = [v] ∧ La m v l ∧ Byt l ∧ l.length ≤ maxLen := by
  obtain ⟨v, l, rfl, h1, h2, h3, h4⟩ := dat_sints h
  exact ⟨v, l, rfl, h1, fun x hx => wf_u8 (h3 x hx), h4⟩
theorem part_of {m : Mem} {cs : List Value} (h : Dat m shPart cs) : ∃ (x : Part) (bv : Value), x.ok ∧ La m bv x.b ∧ cs = LB.cells (partL x bv) := by
  obtain ⟨_, _, rfl, ⟨k, rfl, hk⟩, _, _, rfl, ⟨i, rfl, hi⟩, _, _, rfl, ⟨mo, rfl, hmo⟩, _, _, rfl, ⟨n, rfl, hn⟩, _, _, rfl, hb, _, _, rfl, hd, _, _, rfl, hv, rfl⟩ := h
  obtain ⟨bv, b, rfl, hb1, hb2, hb3⟩ := dat_la hb
  obtain ⟨d, rfl, hd1, hd2⟩ := dat_ints hd
  obtain ⟨v, rfl, hv1, hv2⟩ := dat_ints hv
  refine ⟨⟨k, i, mo, n, b, d, v⟩, bv, ⟨wf_i64 hk, wf_i64 hi, wf_i64 hmo, wf_u64 hn, hb2, hd1, fun x hx => wf_u8 (hd2 x hx), hv1, fun x hx => wf_u64 (hv2 x hx)⟩, hb1, ?_⟩
  simp [LB.cells, Seg.cells]
theorem parts_of {m : Mem} : ∀ {els : List (List Value)}, (∀ c ∈ els, Dat m shPart c) → ∃ xs : List (Part × Value), els = xs.map (fun p => LB.cells (partL p.1 p.2)) ∧ ∀ p ∈ xs, p.1.ok ∧ La m p.2 p.1.b
  | [], _ => ⟨[], rfl, by simp⟩
  | c :: els, h => by
    obtain ⟨x, bv, h1, h2, rfl⟩ := part_of (h c (by simp))
    obtain ⟨xs, rfl, h3⟩ := parts_of (els := els) (fun c hc => h c (by simp [hc]))
    refine ⟨(x, bv) :: xs, rfl, fun p hp => ?_⟩
    rcases List.mem_cons.1 hp with rfl | hp
    · exact ⟨h1, h2⟩
    · exact h3 p hp
theorem ps_of {m : Mem} {cs : List Value} (h : Dat m (.slice shPart) cs) : ∃ v xs, cs = [v] ∧ Ps m v xs ∧ xs.length ≤ maxLen := by
  obtain ⟨v, els, rfl, h1, h2, h3, h4⟩ := h
  obtain ⟨xs, rfl, h5⟩ := parts_of h3
  rw [List.length_map] at h2 h4
  refine ⟨v, xs, rfl, ⟨h5, ?_, fun i p hp => ?_⟩, h4⟩
  · rcases h1 with (⟨c, rfl, _⟩ | ⟨b, o, c, n, arr, t, fr, rfl, _⟩) | ⟨_, a, rfl⟩
    · exact ⟨none, c, by rw [← h2]; rfl⟩
    · exact ⟨_, c, by rw [← h2]; rfl⟩
    · exact ⟨_, 0, by rw [← h2]; rfl⟩
  · have hi := (List.getElem?_eq_some_iff.1 hp).1
    rcases h1 with h1 | ⟨e, _⟩
    · obtain ⟨b, o, c, rfl, g⟩ := h1.elem (fun c hc => (h3 c hc).length) (by decide) (by simpa using h2) (i := i) (by simpa using hi)
      refine ⟨b, o, c, by simp, fun i p hp => ?_⟩
      exact g i _ (by simp [hp])
    · simp at e; subst e; simp at hi
end Go.E.Ythgjhcekcmgenaa
