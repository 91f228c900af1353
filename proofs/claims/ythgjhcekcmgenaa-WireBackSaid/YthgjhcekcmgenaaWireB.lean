/-
  The laws of chapter 02: what was written is read.
-/
import Derived.Test.YthgjhcekcmgenaaWireL
import Derived.Test.YthgjhcekcmgenaaWireQ2
namespace Go.E.Ythgjhcekcmgenaa
open Go.Proofs
set_option maxRecDepth 100000

/-- a part that may be written and read -/
structure Good (x : Part) : Prop where
  k0 : 0 ≤ x.k
  k4 : x.k ≤ 4
  b : x.b.length ≤ 500
  i : x.k = 1 → I62 x.i
  mo : x.k = 2 → (x.b.length : Int) ≤ x.mo
def rGot (x : Part) (s : RS) : RS := if x.k = 0 then (rNum s).2 else if x.k = 1 then (rInt s).2 else if x.k = 2 then (rText x.mo s).2 else if x.k = 3 then (rDigest s).2 else (rVec s).2
theorem rInt_I {s : RS} (h : Byt s.1) : I64 (rInt s).1 := by
  have hU := rNum_U h
  rcases hr : rNum s with ⟨n, s1⟩
  rw [hr] at hU
  have h0 : 0 ≤ n := hU.1
  have h1 : n < 18446744073709551616 := hU.2
  unfold rInt I64
  rw [hr]
  dsimp only
  split
  · omega
  · split <;> omega
theorem rVec_V {s : RS} (h : Byt s.1) : V8 (rVec s).1 := by
  have hn : ∀ k, Byt (rNums k s).2.1 ∧ ∀ x ∈ (rNums k s).1, U64 x := by
    intro k
    induction k with
    | zero => exact ⟨h, by simp [rNums]⟩
    | succ k ih =>
      have hb : Byt (rNum (rNums k s).2).2.1 := by
        unfold rNum
        rcases hr : rTake 1 (rNums k s).2 with ⟨hd, s1⟩
        have b1 := rTake_byt (n := 1) ih.1
        rw [hr] at b1
        dsimp only
        split
        · exact b1.2
        · exact rMust_byt (rTake_byt (rMust_byt b1.2)).2
      refine ⟨hb, ?_⟩
      intro x hx
      simp only [rNums, List.mem_append, List.mem_singleton] at hx
      rcases hx with hx | rfl
      · exact ih.2 x hx
      · exact rNum_U ih.1
  refine ⟨?_, ?_⟩
  · unfold rVec; simp only; split
    · simp
    · exact rNums_len 8 s
  · unfold rVec; simp only; split
    · intro x hx
      have := List.eq_of_mem_replicate hx
      subst this; exact ⟨by decide, by decide⟩
    · exact (hn 8).2
theorem bs_any {p : Mem} {v : Value} {l : List Int} (h : Bs p v l) : (∃ c, v = .slice none 0 c) ∨ ∃ b o c, v = .slice (some ⟨b, o, none⟩) l.length c := by
  rcases h.lb.cases with ⟨c, rfl, _⟩ | ⟨b, o, c, arr, t, fr, rfl, _⟩
  · exact .inl ⟨c, rfl⟩
  · exact .inr ⟨b, o, c, rfl⟩
set_option maxHeartbeats 4000000 in
theorem got_spec {m : Mem} {bp : Nat} {s : RS} {x : Part} {bv : Value} (h : Rd m bp s) (hx : x.ok) (hg : Good x) (hbv : bv.oneCell' = true) :
    Spec Try.prog 21 [ptrV bp, partV x bv] m fun r m' => ∃ t p, r = [.v (.string t)] ∧ Split m' [p] ∧ Rd p bp (rGot x s) := by
  have hk0 := hg.k0
  have hk4 := hg.k4
  refine en21 rfl (goY ?_)
  conv => whnf
  refine ⟨fun h1 => ?_, fun h1 => ?_⟩
  · have h0 : x.k = 0 := by simpa using h1
    have e : rGot x s = (rNum s).2 := by simp [rGot, h0]
    rw [e]
    conv => whnf
    refine xcall (num_spec h) ?_
    rintro _ m2 ⟨rfl, h2, _⟩
    conv => whnf
    refine xcall ((rnum_spec (rNum_U h.byt)).new (Split.one m2)) ?_
    rintro _ m3 ⟨q3, ⟨v3, rfl, hv3⟩, hs3⟩
    conv => whnf
    rcases bs_any hv3 with ⟨c, rfl⟩ | ⟨b, o, c, rfl⟩
    · conv => whnf
      exact ⟨_, m2, rfl, hs3.erase 0, h2⟩
    · conv => whnf
      refine ⟨_, rfl, (hv3.lb.sub (hs3.at (i := 0) rfl)).range, ?_⟩
      conv => whnf
      exact ⟨_, m2, rfl, hs3.erase 0, h2⟩
  have n0 : x.k ≠ 0 := by simpa using h1
  conv => whnf
  refine ⟨fun h1 => ?_, fun h1 => ?_⟩
  · have h0 : x.k = 1 := by simpa using h1
    have e : rGot x s = (rInt s).2 := by simp [rGot, h0]
    rw [e]
    conv => whnf
    refine xcall (int_spec h) ?_
    rintro _ m2 ⟨rfl, h2, _⟩
    conv => whnf
    refine xcall ((rint_spec (rInt_I h.byt)).new (Split.one m2)) ?_
    rintro _ m3 ⟨q3, ⟨v3, rfl, hv3⟩, hs3⟩
    conv => whnf
    rcases bs_any hv3 with ⟨c, rfl⟩ | ⟨b, o, c, rfl⟩
    · conv => whnf
      exact ⟨_, m2, rfl, hs3.erase 0, h2⟩
    · conv => whnf
      refine ⟨_, rfl, (hv3.lb.sub (hs3.at (i := 0) rfl)).range, ?_⟩
      conv => whnf
      exact ⟨_, m2, rfl, hs3.erase 0, h2⟩
  have n1 : x.k ≠ 1 := by simpa using h1
  conv => whnf
  refine ⟨fun h1 => ?_, fun h1 => ?_⟩
  · have h0 : x.k = 2 := by simpa using h1
    have e : rGot x s = (rText x.mo s).2 := by simp [rGot, h0]
    rw [e]
    conv => whnf
    refine xcall (text_spec h hx.mo) ?_
    rintro _ m3 ⟨v3, q3, p3, rfl, hs3, hv3, h2⟩
    conv => whnf
    rcases bs_any hv3 with ⟨c, rfl⟩ | ⟨b, o, c, rfl⟩
    · conv => whnf
      exact ⟨_, p3, rfl, hs3.erase 0, h2⟩
    · conv => whnf
      refine ⟨_, rfl, (hv3.lb.sub (hs3.at (i := 0) rfl)).range, ?_⟩
      conv => whnf
      exact ⟨_, p3, rfl, hs3.erase 0, h2⟩
  have n2 : x.k ≠ 2 := by simpa using h1
  conv => whnf
  refine ⟨fun h1 => ?_, fun h1 => ?_⟩
  · have h0 : x.k = 3 := by simpa using h1
    have e : rGot x s = (rDigest s).2 := by simp [rGot, h0]
    rw [e]
    have hdl : (rDigest s).1.length = 32 := by
      simp only [rDigest]
      rcases rTake_32 (s := s) with e | e
      · rw [e]; rfl
      · simp [e]
    conv => whnf
    refine xcall (digest_spec h) ?_
    rintro _ m2 ⟨rfl, h2⟩
    conv => whnf
    intro d hd1 hd2
    obtain rfl : d = 0 := hd1 (by decide)
    conv => whnf
    refine ⟨(rDigest s).1, hdl, fun j v hv => by simpa [LB.cells, Seg.cells] using hv, ?_⟩
    conv => whnf
    exact ⟨_, m2, rfl, Split.one m2, h2⟩
  have n3 : x.k ≠ 3 := by simpa using h1
  conv => whnf
  refine ⟨fun h1 => ?_, fun h1 => ?_⟩
  · have h0 : x.k = 4 := by simpa using h1
    have e : rGot x s = (rVec s).2 := by simp [rGot, h0]
    rw [e]
    conv => whnf
    refine xcall (vec_spec h) ?_
    rintro _ m2 ⟨rfl, h2, _⟩
    conv => whnf
    refine xcall ((rvec_spec (rVec_V h.byt)).new (Split.one m2)) ?_
    rintro _ m3 ⟨q3, ⟨v3, rfl, hv3⟩, hs3⟩
    conv => whnf
    rcases bs_any hv3 with ⟨c, rfl⟩ | ⟨b, o, c, rfl⟩
    · conv => whnf
      exact ⟨_, m2, rfl, hs3.erase 0, h2⟩
    · conv => whnf
      refine ⟨_, rfl, (hv3.lb.sub (hs3.at (i := 0) rfl)).range, ?_⟩
      conv => whnf
      exact ⟨_, m2, rfl, hs3.erase 0, h2⟩
  have n4 : x.k ≠ 4 := by simpa using h1
  omega
theorem rGot_pre {x : Part} (hx : x.ok) (hg : Good x) (t : List Int) : rGot x (partB x ++ t, 0) = (t, 0) := by
  have hk0 := hg.k0
  have hk4 := hg.k4
  have hb := hg.b
  unfold rGot partB
  by_cases h0 : x.k = 0
  · simp only [h0, if_true, true_or]; rw [rNum_back hx.n]
  have n5 : ¬ (x.k = 0 ∨ x.k = 5) := by omega
  rw [if_neg h0, if_neg n5]
  by_cases h1 : x.k = 1
  · simp only [h1, if_true]; rw [rInt_back (hg.i h1)]
  rw [if_neg h1, if_neg h1]
  by_cases h2 : x.k = 2
  · simp only [h2, if_true]; rw [rText_back (by omega) (hg.mo h2)]
  rw [if_neg h2, if_neg h2]
  by_cases h3 : x.k = 3
  · simp only [h3, if_true]; rw [rDigest_back hx.d]
  rw [if_neg h3, if_neg h3, if_pos (by omega), rVec_back hx.v.1 hx.v.2]
theorem rGot_cut {x : Part} (hx : x.ok) (hg : Good x) (k : Nat) (hk : k < (partB x).length) : (rGot x ((partB x).take k, 0)).2 = 8 := by
  have hk0 := hg.k0
  have hk4 := hg.k4
  have hb := hg.b
  unfold rGot
  unfold partB at hk ⊢
  have n5 : x.k ≠ 5 := by omega
  by_cases h0 : x.k = 0
  · simp only [h0, if_true, true_or] at hk ⊢
    obtain ⟨u, e⟩ := rNum_cut k hk rfl
    rw [e]
  have n05 : ¬ (x.k = 0 ∨ x.k = 5) := by omega
  rw [if_neg n05] at hk ⊢
  rw [if_neg h0]
  by_cases h1 : x.k = 1
  · simp only [h1, if_true] at hk ⊢; exact rInt_cut k hk rfl
  rw [if_neg h1] at hk ⊢
  rw [if_neg h1]
  by_cases h2 : x.k = 2
  · simp only [h2, if_true] at hk ⊢; exact rText_cut (by omega) (hg.mo h2) k hk
  rw [if_neg h2] at hk ⊢
  rw [if_neg h2]
  by_cases h3 : x.k = 3
  · simp only [h3, if_true] at hk ⊢; exact rDigest_cut hx.d k (by rw [hx.d] at hk; exact hk)
  rw [if_neg h3] at hk ⊢
  rw [if_neg h3]
  rw [if_pos (show x.k = 4 by omega)] at hk ⊢
  exact rVec_cut hx.v.1 hx.v.2 k hk
theorem rGot_e8 {x : Part} {s : RS} (h : s.2 = 8) : (rGot x s).2 = 8 := by
  have hne : s.2 ≠ 0 := by rw [h]; decide
  unfold rGot
  split
  · rw [rNum_err hne]; exact h
  split
  · rw [rInt_err hne]; exact h
  split
  · rw [rText_err hne]; exact h
  split
  · rw [rDigest_err hne]; exact h
  · rw [rVec_err hne]; exact h
theorem partB_byt {x : Part} (hx : x.ok) : Byt (partB x) := by
  unfold partB
  split
  · exact numB_byte _
  split
  · exact numB_byte _
  split
  · exact (fun y hy => (List.mem_append.1 hy).elim (numB_byte _ y) (hx.b y))
  split
  · exact hx.db
  split
  · intro y hy
    simp only [vecB, List.mem_flatten, List.mem_map] at hy
    obtain ⟨l, ⟨a, _, rfl⟩, hy⟩ := hy
    exact numB_byte _ y hy
  · exact Byt.nil
theorem outB_byt {xs : List (Part × Value)} (h : ∀ p ∈ xs, p.1.ok) : Byt (outB xs) := by
  intro y hy
  simp only [outB, List.mem_flatten, List.mem_map] at hy
  obtain ⟨l, ⟨p, hp, rfl⟩, hy⟩ := hy
  exact partB_byt (h p hp) y hy
theorem MRange.cell {m : Mem} {b o j : Nat} {l : List Value} {y : Value} (h : MRange m b o l) (hj : l[j]? = some y) : mcell m b (o + j) = some y := by
  obtain ⟨arr, t, fr, h1, h2⟩ := h
  exact mcell_of h1 (h2 j y hj)
def rGots (xs : List Part) (s : RS) : RS := xs.foldl (fun s x => rGot x s) s
theorem rGots_e8 : ∀ {xs : List Part} {s : RS}, s.2 = 8 → (rGots xs s).2 = 8
  | [], _, h => h
  | x :: xs, s, h => rGots_e8 (xs := xs) (s := rGot x s) (rGot_e8 h)
theorem rGots_cut : ∀ {xs : List (Part × Value)} (_ : ∀ p ∈ xs, p.1.ok ∧ Good p.1) {k : Nat}, k < (outB xs).length → (rGots (xs.map (·.1)) ((outB xs).take k, 0)).2 = 8
  | [], _, k, hk => by simp [outB] at hk
  | p :: xs, h, k, hk => by
    have e : outB (p :: xs) = partB p.1 ++ outB xs := by simp only [outB, List.map_cons, List.flatten_cons]
    rw [e] at hk ⊢
    have h1 := h p (by simp)
    simp only [List.map_cons, rGots, List.foldl_cons]
    by_cases hlt : k < (partB p.1).length
    · rw [List.take_append_of_le_length (by omega)]
      exact rGots_e8 (xs := xs.map (·.1)) (rGot_cut h1.1 h1.2 k hlt)
    · rw [List.take_append, List.take_of_length_le (by omega), rGot_pre h1.1 h1.2]
      exact rGots_cut (xs := xs) (fun p hp => h p (by simp [hp])) (by rw [List.length_append] at hk; omega)
theorem rGots_take {xs : List Part} {i : Nat} (h : i < xs.length) (s : RS) : rGot xs[i] (rGots (xs.take i) s) = rGots (xs.take (i + 1)) s := by
  rw [List.take_succ_eq_append_getElem h, rGots, rGots, List.foldl_append]; rfl
set_option maxHeartbeats 8000000 in
theorem wireBack_spec {m0 : Mem} {v : Value} {xs : List (Part × Value)} {cut : Int} (h : Ps m0 v xs) (hc : I64 cut) :
    Spec Try.prog 4 [.v v, i64 cut] m0 fun r m' => r = [boolV true] ∧ Sub m0 m' := by
  obtain ⟨a, c, hshape⟩ := h.shape
  refine en4 rfl (goY ?_)
  conv => whnf
  intro bp1 hbp1
  conv => whnf
  intro bp2 hbp2
  conv => whnf
  have hs0 := ((Split.one m0).new hbp1 (.cells (LB.cells [.one (.slice none 0 0)]).toArray 26)).new hbp2 (.cells (LB.cells [.one (.slice none 0 0)]).toArray 26)
  have hw0 : ∀ b, Wr (blk1 b (.cells (LB.cells [.one (.slice none 0 0)]).toArray 26)) b [] := fun b => ⟨_, blk1_same .., Bs.nil _, by simp [blkV]⟩
  refine .mk (ι := Nat) (fun i => xs.length - i) (fun i mm => i ≤ xs.length ∧ (0 < i → xs.length ≤ 40) ∧ (∀ p ∈ xs.take i, Good p.1) ∧ ∃ pw pa, Split mm [pa, pw, m0] ∧ Wr pw bp1 (outB (xs.take i)) ∧ Wr pa bp2 [])
    (fun i => [(0, .c (.v v)), (1, .c (i64 cut)), (5, .c (ptrV bp1)), (6, .c (ptrV bp2)), (7, .c (i64 i))]) (fun _ => []) 0 ⟨by omega, by omega, by simp, _, _, hs0, hw0 _, hw0 _⟩ ?_ ?_
  · conv => whnf
    repeat (refine And.intro (by first | with_reducible rfl | exact congrArg (Value.int _) (wi (by omega) (by omega)) | exact wi (by omega) (by omega) | rfl) ?_; conv => whnf)
    first | exact trivial | exact fun _ _ h => h
  rintro i mm ⟨hi, hi40, hgd, pw, pa, hs, hw, ha⟩
  subst hshape
  conv => whnf
  refine ⟨fun h1 => ?_, fun h1 => ?_⟩
  · have h1' := of_decide_eq_true h1
    have hlt : i < xs.length := by omega
    obtain ⟨b, o, c', hv, hat⟩ := h.real hlt
    cases hv
    have hp := List.getElem?_eq_getElem hlt
    have hok := h.ok xs[i] (by simp)
    have hr := (hat i _ hp).sub (hs.at (i := 2) rfl)
    conv => whnf
    refine ⟨fun h2 => ?_, fun h2 => ?_⟩
    · conv => whnf
      refine xcall (alive_in) ?_
      rintro _ m9 ⟨rfl, p9, hs9⟩
      conv => whnf
      exact ⟨rfl, (hs.at (i := 2) rfl).trans (hs9.at (i := 1) rfl)⟩
    have h2' := of_decide_eq_false h2
    /-MARK-/
    conv => whnf
    repeat (refine And.intro (by first | omega | (simp only [times]; omega)) ?_; conv => whnf)
    refine ⟨partL xs[i].1 xs[i].2, partL_ok hok.1 hok.2.one, rfl, hr, ?_⟩
    conv => whnf
    first | refine xretk (great_spec (hok.2.sub (hs.at (i := 2) rfl))) ?_ | refine xret (great_spec (hok.2.sub (hs.at (i := 2) rfl))) ?_
    conv => whnf
    refine ⟨fun hh => ?_, fun hh => ?_⟩
    · conv => whnf
      refine xcall (alive_in) ?_
      rintro _ m9 ⟨rfl, p9, hs9⟩
      conv => whnf
      exact ⟨rfl, (hs.at (i := 2) rfl).trans (hs9.at (i := 1) rfl)⟩
    have h3' := of_decide_eq_false hh
    conv => whnf
    repeat (refine And.intro (by first | omega | (simp only [times]; omega)) ?_; conv => whnf)
    refine ⟨_, MRange.cell (j := 0) hr rfl, rfl, ?_⟩
    conv => whnf
    refine ⟨fun hh => ?_, fun hh => ?_⟩
    · conv => whnf
      refine xcall (alive_in) ?_
      rintro _ m9 ⟨rfl, p9, hs9⟩
      conv => whnf
      exact ⟨rfl, (hs.at (i := 2) rfl).trans (hs9.at (i := 1) rfl)⟩
    have h4' := of_decide_eq_false hh
    conv => whnf
    repeat (refine And.intro (by first | omega | (simp only [times]; omega)) ?_; conv => whnf)
    refine ⟨_, MRange.cell (j := 0) hr rfl, rfl, ?_⟩
    conv => whnf
    refine ⟨fun hh => ?_, fun hh => ?_⟩
    · conv => whnf
      refine xcall (alive_in) ?_
      rintro _ m9 ⟨rfl, p9, hs9⟩
      conv => whnf
      exact ⟨rfl, (hs.at (i := 2) rfl).trans (hs9.at (i := 1) rfl)⟩
    have h5' := of_decide_eq_false hh
    conv => whnf
    repeat (refine And.intro (by first | omega | (simp only [times]; omega)) ?_; conv => whnf)
    refine ⟨_, MRange.cell (j := 0) hr rfl, rfl, ?_⟩
    conv => whnf
    refine ⟨fun hh => ?_, fun hh => ?_⟩
    · have h6 : xs[i].1.k = 1 := by simpa using hh
      conv => whnf
      repeat (refine And.intro (by first | omega | (simp only [times]; omega)) ?_; conv => whnf)
      refine ⟨_, MRange.cell (j := 1) hr rfl, rfl, ?_⟩
      conv => whnf
      refine ⟨fun hh => ?_, fun hh => ?_⟩
      · conv => whnf
        refine xcall (alive_in) ?_
        rintro _ m9 ⟨rfl, p9, hs9⟩
        conv => whnf
        exact ⟨rfl, (hs.at (i := 2) rfl).trans (hs9.at (i := 1) rfl)⟩
      have h61 := of_decide_eq_false hh
      conv => whnf
      repeat (refine And.intro (by first | omega | (simp only [times]; omega)) ?_; conv => whnf)
      refine ⟨_, MRange.cell (j := 1) hr rfl, rfl, ?_⟩
      conv => whnf
      refine ⟨fun hh => ?_, fun hh => ?_⟩
      · conv => whnf
        refine xcall (alive_in) ?_
        rintro _ m9 ⟨rfl, p9, hs9⟩
        conv => whnf
        exact ⟨rfl, (hs.at (i := 2) rfl).trans (hs9.at (i := 1) rfl)⟩
      have h62 := of_decide_eq_false hh
      conv => whnf
      repeat (refine And.intro (by first | omega | (simp only [times]; omega)) ?_; conv => whnf)
      refine ⟨_, MRange.cell (j := 0) hr rfl, rfl, ?_⟩
      conv => whnf
      refine ⟨fun hh => ?_, fun hh => ?_⟩
      · have h7 : xs[i].1.k = 2 := by simpa using hh
        conv => whnf
        repeat (refine And.intro (by first | omega | (simp only [times]; omega)) ?_; conv => whnf)
        refine ⟨_, MRange.cell (j := 2) hr rfl, rfl, ?_⟩
        obtain ⟨ab, cb, hbv⟩ := hok.2.shape
        conv => whnf
        repeat (refine And.intro (by first | omega | (simp only [times]; omega)) ?_; conv => whnf)
        refine ⟨.slice ab xs[i].1.b.length cb, MRange.cell (j := 4) hr (by rw [← hbv]; rfl), rfl, ?_⟩
        conv => whnf
        refine ⟨fun hh => ?_, fun hh => ?_⟩
        · conv => whnf
          refine xcall (alive_in) ?_
          rintro _ m9 ⟨rfl, p9, hs9⟩
          conv => whnf
          exact ⟨rfl, (hs.at (i := 2) rfl).trans (hs9.at (i := 1) rfl)⟩
        have h8 := of_decide_eq_false hh
        conv => whnf
        repeat (refine And.intro (by first | omega | (simp only [times]; omega)) ?_; conv => whnf)
        refine ⟨partL xs[i].1 xs[i].2, partL_ok hok.1 hok.2.one, rfl, hr, ?_⟩
        conv => whnf
        have hgx : Good xs[i].1 := ⟨by omega, by omega, by omega, fun _ => ⟨by omega, by omega⟩, fun _ => by omega⟩
        have hbl : (outB (xs.take i)).length ≤ 24000 := by
          have := outB_len (xs := xs.take i) (fun p hp => ⟨(h.ok p (List.mem_of_mem_take hp)).1, (hgd p hp).b⟩)
          simp only [List.length_take] at this
          omega
        refine xcall (put_spec (i := 1) (j := 2) hs rfl rfl (by decide) hok.1 (.inr ⟨bp1, rfl, hw⟩) hok.2 (by omega) (by omega)) ?_
        rintro _ m2 ⟨v2, q2, p2, rfl, hs2, hv2, hw2⟩
        conv => whnf
        have hw2' : Wr p2 bp1 (outB (xs.take i) ++ partB xs[i].1) := by
          rcases hw2 with e | ⟨bp', e, hw2⟩
          · cases e
          · cases e; exact hw2
        rw [outB_take hlt] at hw2'
        refine ⟨i + 1, ⟨by omega, by omega, ?_, p2, pa, hs2.erase 0, hw2', ha⟩, by omega, ?_⟩
        · intro p hp
          rw [List.take_succ_eq_append_getElem hlt] at hp
          rcases List.mem_append.1 hp with hp | hp
          · exact hgd p hp
          · simp at hp; subst hp; exact hgx
        · conv => whnf
          repeat (refine And.intro (by first | with_reducible rfl | (exact congrArg (Value.int _) (iadd (by omega))) | exact congrArg (Value.int _) (wi (by omega) (by omega)) | exact wi (by omega) (by omega) | rfl) ?_; conv => whnf)
          first | exact trivial | exact fun _ _ h => h
      · have h7 : xs[i].1.k ≠ 2 := by simpa using hh
        conv => whnf
        repeat (refine And.intro (by first | omega | (simp only [times]; omega)) ?_; conv => whnf)
        refine ⟨partL xs[i].1 xs[i].2, partL_ok hok.1 hok.2.one, rfl, hr, ?_⟩
        conv => whnf
        have hgx : Good xs[i].1 := ⟨by omega, by omega, by omega, fun _ => ⟨by omega, by omega⟩, fun e => absurd e h7⟩
        have hbl : (outB (xs.take i)).length ≤ 24000 := by
          have := outB_len (xs := xs.take i) (fun p hp => ⟨(h.ok p (List.mem_of_mem_take hp)).1, (hgd p hp).b⟩)
          simp only [List.length_take] at this
          omega
        refine xcall (put_spec (i := 1) (j := 2) hs rfl rfl (by decide) hok.1 (.inr ⟨bp1, rfl, hw⟩) hok.2 (by omega) (by omega)) ?_
        rintro _ m2 ⟨v2, q2, p2, rfl, hs2, hv2, hw2⟩
        conv => whnf
        have hw2' : Wr p2 bp1 (outB (xs.take i) ++ partB xs[i].1) := by
          rcases hw2 with e | ⟨bp', e, hw2⟩
          · cases e
          · cases e; exact hw2
        rw [outB_take hlt] at hw2'
        refine ⟨i + 1, ⟨by omega, by omega, ?_, p2, pa, hs2.erase 0, hw2', ha⟩, by omega, ?_⟩
        · intro p hp
          rw [List.take_succ_eq_append_getElem hlt] at hp
          rcases List.mem_append.1 hp with hp | hp
          · exact hgd p hp
          · simp at hp; subst hp; exact hgx
        · conv => whnf
          repeat (refine And.intro (by first | with_reducible rfl | (exact congrArg (Value.int _) (iadd (by omega))) | exact congrArg (Value.int _) (wi (by omega) (by omega)) | exact wi (by omega) (by omega) | rfl) ?_; conv => whnf)
          first | exact trivial | exact fun _ _ h => h
    · have h6 : xs[i].1.k ≠ 1 := by simpa using hh
      conv => whnf
      repeat (refine And.intro (by first | omega | (simp only [times]; omega)) ?_; conv => whnf)
      refine ⟨_, MRange.cell (j := 0) hr rfl, rfl, ?_⟩
      conv => whnf
      refine ⟨fun hh => ?_, fun hh => ?_⟩
      · have h7 : xs[i].1.k = 2 := by simpa using hh
        conv => whnf
        repeat (refine And.intro (by first | omega | (simp only [times]; omega)) ?_; conv => whnf)
        refine ⟨_, MRange.cell (j := 2) hr rfl, rfl, ?_⟩
        obtain ⟨ab, cb, hbv⟩ := hok.2.shape
        conv => whnf
        repeat (refine And.intro (by first | omega | (simp only [times]; omega)) ?_; conv => whnf)
        refine ⟨.slice ab xs[i].1.b.length cb, MRange.cell (j := 4) hr (by rw [← hbv]; rfl), rfl, ?_⟩
        conv => whnf
        refine ⟨fun hh => ?_, fun hh => ?_⟩
        · conv => whnf
          refine xcall (alive_in) ?_
          rintro _ m9 ⟨rfl, p9, hs9⟩
          conv => whnf
          exact ⟨rfl, (hs.at (i := 2) rfl).trans (hs9.at (i := 1) rfl)⟩
        have h8 := of_decide_eq_false hh
        conv => whnf
        repeat (refine And.intro (by first | omega | (simp only [times]; omega)) ?_; conv => whnf)
        refine ⟨partL xs[i].1 xs[i].2, partL_ok hok.1 hok.2.one, rfl, hr, ?_⟩
        conv => whnf
        have hgx : Good xs[i].1 := ⟨by omega, by omega, by omega, fun e => absurd e h6, fun _ => by omega⟩
        have hbl : (outB (xs.take i)).length ≤ 24000 := by
          have := outB_len (xs := xs.take i) (fun p hp => ⟨(h.ok p (List.mem_of_mem_take hp)).1, (hgd p hp).b⟩)
          simp only [List.length_take] at this
          omega
        refine xcall (put_spec (i := 1) (j := 2) hs rfl rfl (by decide) hok.1 (.inr ⟨bp1, rfl, hw⟩) hok.2 (by omega) (by omega)) ?_
        rintro _ m2 ⟨v2, q2, p2, rfl, hs2, hv2, hw2⟩
        conv => whnf
        have hw2' : Wr p2 bp1 (outB (xs.take i) ++ partB xs[i].1) := by
          rcases hw2 with e | ⟨bp', e, hw2⟩
          · cases e
          · cases e; exact hw2
        rw [outB_take hlt] at hw2'
        refine ⟨i + 1, ⟨by omega, by omega, ?_, p2, pa, hs2.erase 0, hw2', ha⟩, by omega, ?_⟩
        · intro p hp
          rw [List.take_succ_eq_append_getElem hlt] at hp
          rcases List.mem_append.1 hp with hp | hp
          · exact hgd p hp
          · simp at hp; subst hp; exact hgx
        · conv => whnf
          repeat (refine And.intro (by first | with_reducible rfl | (exact congrArg (Value.int _) (iadd (by omega))) | exact congrArg (Value.int _) (wi (by omega) (by omega)) | exact wi (by omega) (by omega) | rfl) ?_; conv => whnf)
          first | exact trivial | exact fun _ _ h => h
      · have h7 : xs[i].1.k ≠ 2 := by simpa using hh
        conv => whnf
        repeat (refine And.intro (by first | omega | (simp only [times]; omega)) ?_; conv => whnf)
        refine ⟨partL xs[i].1 xs[i].2, partL_ok hok.1 hok.2.one, rfl, hr, ?_⟩
        conv => whnf
        have hgx : Good xs[i].1 := ⟨by omega, by omega, by omega, fun e => absurd e h6, fun e => absurd e h7⟩
        have hbl : (outB (xs.take i)).length ≤ 24000 := by
          have := outB_len (xs := xs.take i) (fun p hp => ⟨(h.ok p (List.mem_of_mem_take hp)).1, (hgd p hp).b⟩)
          simp only [List.length_take] at this
          omega
        refine xcall (put_spec (i := 1) (j := 2) hs rfl rfl (by decide) hok.1 (.inr ⟨bp1, rfl, hw⟩) hok.2 (by omega) (by omega)) ?_
        rintro _ m2 ⟨v2, q2, p2, rfl, hs2, hv2, hw2⟩
        conv => whnf
        have hw2' : Wr p2 bp1 (outB (xs.take i) ++ partB xs[i].1) := by
          rcases hw2 with e | ⟨bp', e, hw2⟩
          · cases e
          · cases e; exact hw2
        rw [outB_take hlt] at hw2'
        refine ⟨i + 1, ⟨by omega, by omega, ?_, p2, pa, hs2.erase 0, hw2', ha⟩, by omega, ?_⟩
        · intro p hp
          rw [List.take_succ_eq_append_getElem hlt] at hp
          rcases List.mem_append.1 hp with hp | hp
          · exact hgd p hp
          · simp at hp; subst hp; exact hgx
        · conv => whnf
          repeat (refine And.intro (by first | with_reducible rfl | (exact congrArg (Value.int _) (iadd (by omega))) | exact congrArg (Value.int _) (wi (by omega) (by omega)) | exact wi (by omega) (by omega) | rfl) ?_; conv => whnf)
          first | exact trivial | exact fun _ _ h => h
  · /-MARK2-/
    have h1' := of_decide_eq_false h1
    obtain rfl : i = xs.length := by omega
    rw [List.take_length] at hw hgd
    have hbl : (outB xs).length ≤ 24000 := by
      have := outB_len (xs := xs) (fun p hp => ⟨(h.ok p hp).1, (hgd p hp).b⟩)
      rcases Nat.eq_zero_or_pos xs.length with h0 | h0
      · omega
      · have := hi40 h0; omega
    have hbyt : Byt (outB xs) := outB_byt fun p hp => (h.ok p hp).1
    have hdrop : ∀ (j : Nat) (hj : j < xs.length), outB (xs.drop j) = partB xs[j].1 ++ outB (xs.drop (j + 1)) := by
      intro j hj
      rw [List.drop_eq_getElem_cons hj]; simp only [outB, List.map_cons, List.flatten_cons]
    have hdl : ∀ j, (outB (xs.take j)).length ≤ 24000 := by
      intro j
      have := outB_len (xs := xs.take j) (fun p hp => ⟨(h.ok p (List.mem_of_mem_take hp)).1, (hgd p (List.mem_of_mem_take hp)).b⟩)
      simp only [List.length_take] at this
      rcases Nat.eq_zero_or_pos xs.length with h0 | h0
      · omega
      · have := hi40 h0; omega
    conv => whnf
    refine xcall (wbytes_spec (hw.mono (hs.at (i := 1) rfl)) (by omega)) ?_
    rintro _ mb ⟨vb, pb, rfl, hsb, hvb⟩
    conv => whnf
    obtain ⟨av, cvb, rfl⟩ := hvb.lb.la.shape
    have hsb := hsb.under (a := [pb]) hs
    refine xcall (from_spec (hvb.lb.sub (hsb.at (i := 0) rfl)).la hbyt (by omega)) ?_
    rintro _ mr ⟨br, pr, rfl, hsr, hrd⟩
    conv => whnf
    have hsr := hsr.under (a := [pr]) hsb
    have tail : ∀ m' pb, Split m' [pb, m0] → Bs pb (.slice av (outB xs).length cvb) (outB xs) → xwpY c4 (restAt 26 (bodyOf Try.f4)) (QRetY tt.get Try.f4.results.toList fun r m' => r = [boolV true] ∧ Sub m0 m')
        [(0, .c (.v (.slice a xs.length c))), (1, .c (i64 cut)), (8, .c (.v (.slice av (outB xs).length cvb)))] [] m' [] := by
      intro m' pb hs hb
      conv => whnf
      refine .at ?_
      conv => whnf
      refine ⟨fun h1 => ?_, fun h1 => ?_⟩
      · conv => whnf
        refine xcall (alive_in) ?_
        rintro _ m9 ⟨rfl, p9, hs9⟩
        conv => whnf
        exact ⟨rfl, (hs.at (i := 1) rfl).trans (hs9.at (i := 1) rfl)⟩
      have h1' := of_decide_eq_false h1
      conv => whnf
      refine ⟨fun h3 => ?_, fun h3 => ?_⟩
      · conv => whnf
        refine xcall (alive_in) ?_
        rintro _ m9 ⟨rfl, p9, hs9⟩
        conv => whnf
        exact ⟨rfl, (hs.at (i := 1) rfl).trans (hs9.at (i := 1) rfl)⟩
      have h3' := of_decide_eq_false h3
      rcases hb.lb.cases with ⟨_, e, e2⟩ | ⟨bv, ov, cv, arr, t, fr, e, g⟩
      · rw [e2] at h3'; simp at h3'; omega
      cases e
      conv => whnf
      repeat (refine And.intro (by first | omega | (simp only [times]; omega)) ?_; conv => whnf)
      intro o' ho1 ho2
      obtain rfl : o' = ov := by have := ho1 (by omega); omega
      conv => whnf
      have hss0 : Split m' [m'] := Split.one m'
      have hgb := hs.at (i := 0) rfl _ _ g.1
      refine xcall (from_spec (l := (outB xs).take cut.toNat) (Lb.mk hgb (by simp; omega) (by omega) fun j n hj => g.2.2 j n (by rw [List.getElem?_take] at hj; split at hj <;> simp_all)).la (fun y hy => hbyt y (List.mem_of_mem_take hy)) (by simp; omega)) ?_
      rintro _ ms ⟨bs, ps, rfl, hss, hrs⟩
      conv => whnf
      have hss := hss.under (a := [ps]) hs
      refine .mk (ι := Nat) (fun i => xs.length - i) (fun i mm => i ≤ xs.length ∧ ∃ ps, Split mm [ps, pb, m0] ∧ Rd ps bs (rGots ((xs.map (·.1)).take i) ((outB xs).take cut.toNat, 0)))
        (fun i => [(0, .c (.v (.slice a xs.length c))), (11, .c (ptrV bs)), (12, .c (i64 i))]) (fun _ => []) 0 ⟨by omega, ps, hss, hrs⟩ ?_ ?_
      · conv => whnf
        repeat (refine And.intro (by first | with_reducible rfl | exact congrArg (Value.int _) (wi (by omega) (by omega)) | exact wi (by omega) (by omega) | rfl) ?_; conv => whnf)
        first | exact trivial | exact fun _ _ h => h
      rintro i mi ⟨hi, ps, hss, hrs⟩
      conv => whnf
      refine ⟨fun h4 => ?_, fun h4 => ?_⟩
      · have h4' := of_decide_eq_true h4
        have hlt : i < xs.length := by omega
        obtain ⟨b, o, c', hv, hat⟩ := h.real hlt
        cases hv
        have hp := List.getElem?_eq_getElem hlt
        have hok := h.ok xs[i] (by simp)
        have hr := (hat i _ hp).sub (hss.at (i := 2) rfl)
        conv => whnf
        repeat (refine And.intro (by first | omega | (simp only [times]; omega)) ?_; conv => whnf)
        refine ⟨partL xs[i].1 xs[i].2, partL_ok hok.1 hok.2.one, rfl, hr, ?_⟩
        conv => whnf
        refine xcall ((got_spec hrs hok.1 (hgd xs[i] (by simp)) hok.2.one).at (i := 0) hss rfl) ?_
        rintro _ m2 ⟨p2, ⟨t2, p3, rfl, hs3, hr3⟩, hss2⟩
        conv => whnf
        have hss2 := hss2.flat (i := 0) rfl hs3
        have hli : i < (xs.map (·.1)).length := by simpa using hlt
        have hgi : (xs.map (·.1))[i] = xs[i].1 := by simp
        rw [← hgi, rGots_take hli] at hr3
        refine ⟨i + 1, ⟨by omega, p3, hss2, hr3⟩, by omega, ?_⟩
        conv => whnf
        repeat (refine And.intro (by first | with_reducible rfl | (exact congrArg (Value.int _) (iadd (by omega))) | exact congrArg (Value.int _) (wi (by omega) (by omega)) | exact wi (by omega) (by omega) | rfl) ?_; conv => whnf)
        first | exact trivial | exact fun _ _ h => h
      · have h4' := of_decide_eq_false h4
        obtain rfl : i = xs.length := by omega
        rw [List.take_of_length_le (by simp)] at hrs
        have h8 := rGots_cut (xs := xs) (fun p hp => ⟨(h.ok p hp).1, hgd p hp⟩) (k := cut.toNat) (by omega)
        conv => whnf
        refine xcall (alive_in) ?_
        rintro _ m9 ⟨rfl, p9, hs9⟩
        conv => whnf
        have hs10 := hs9.under (a := [p9]) hss
        refine ⟨fun _ => ?_, fun h => absurd h (by decide)⟩
        conv => whnf
        first | refine xretk (end_spec (hrs.mono (hs10.at (i := 1) rfl))) ?_ | refine xret (end_spec (hrs.mono (hs10.at (i := 1) rfl))) ?_
        conv => whnf
        refine ⟨?_, hs10.at (i := 3) rfl⟩
        rw [h8]
        rfl
    refine .mk (ι := Nat) (fun j => xs.length - j) (fun j mm => j ≤ xs.length ∧ ∃ pr pa, Split mm [pr, pb, pa, pw, m0] ∧ Rd pr br (outB (xs.drop j), 0) ∧ Wr pa bp2 (outB (xs.take j)))
      (fun j => [(0, .c (.v (.slice a xs.length c))), (1, .c (i64 cut)), (6, .c (ptrV bp2)), (8, .c (.v (.slice av (outB xs).length cvb))), (9, .c (ptrV br)), (10, .c (i64 j))]) (fun _ => []) 0 ⟨by omega, pr, pa, hsr, hrd, ha⟩ ?_ ?_
    · conv => whnf
      repeat (refine And.intro (by first | with_reducible rfl | exact congrArg (Value.int _) (wi (by omega) (by omega)) | exact wi (by omega) (by omega) | rfl) ?_; conv => whnf)
      first | exact trivial | exact fun _ _ h => h
    rintro j mj ⟨hj, pr, pa, hs, hrd, ha⟩
    conv => whnf
    refine ⟨fun h2 => ?_, fun h2 => ?_⟩
    · have h2' := of_decide_eq_true h2
      have hlt : j < xs.length := by omega
      obtain ⟨b, o, c', hv, hat⟩ := h.real hlt
      cases hv
      have hp := List.getElem?_eq_getElem hlt
      have hok := h.ok xs[j] (by simp)
      have hgx := hgd xs[j] (by simp)
      have hk0 := hgx.k0
      have hk4 := hgx.k4
      have hr := (hat j _ hp).sub (hs.at (i := 4) rfl)
      have hlj := hdl j
      rw [hdrop j hlt] at hrd
      have fin : ∀ {pr pa : Mem} {m : Mem}, Split m [pr, pb, pa, pw, m0] → Rd pr br (outB (xs.drop (j + 1)), 0) → Wr pa bp2 (outB (xs.take j) ++ partB xs[j].1) → j + 1 ≤ xs.length ∧ ∃ pr pa, Split m [pr, pb, pa, pw, m0] ∧ Rd pr br (outB (xs.drop (j + 1)), 0) ∧ Wr pa bp2 (outB (xs.take (j + 1))) := by
        intro pr pa m g1 g2 g3
        rw [outB_take hlt] at g3
        exact ⟨by omega, pr, pa, g1, g2, g3⟩
      conv => whnf
      repeat (refine And.intro (by first | omega | (simp only [times]; omega)) ?_; conv => whnf)
      refine ⟨_, MRange.cell (j := 0) hr rfl, rfl, ?_⟩
      conv => whnf
      refine ⟨fun hh => ?_, fun hh => ?_⟩
      · have hk : xs[j].1.k = 0 := by simpa using hh
        have hpb : partB xs[j].1 = numB xs[j].1.n := by simp [partB, hk]
        rw [hpb] at hrd
        have hb := rNum_back hok.1.n (outB (xs.drop (j + 1)))
        conv => whnf
        refine xcall ((num_spec hrd).at (i := 0) hs rfl) ?_
        rintro _ m1 ⟨pr1, ⟨rfl, hr1, _⟩, hs1⟩
        conv => whnf
        rw [hb] at hr1 ⊢
        refine xcall ((wnum_spec ha hok.1.n (by omega)).at (i := 2) hs1 rfl) ?_
        rintro _ m2 ⟨pa2, ⟨rfl, ha2⟩, hs2⟩
        conv => whnf
        refine ⟨j + 1, fin hs2 hr1 (by rw [hpb]; exact ha2), by omega, ?_⟩
        conv => whnf
        repeat (refine And.intro (by first | with_reducible rfl | (exact congrArg (Value.int _) (iadd (by omega))) | exact congrArg (Value.int _) (wi (by omega) (by omega)) | exact wi (by omega) (by omega) | rfl) ?_; conv => whnf)
        first | exact trivial | exact fun _ _ h => h
      have n0 : xs[j].1.k ≠ 0 := by simpa using hh
      conv => whnf
      refine ⟨fun hh => ?_, fun hh => ?_⟩
      · have hk : xs[j].1.k = 1 := by simpa using hh
        have hpb : partB xs[j].1 = numB (intU xs[j].1.i) := by simp [partB, hk]
        rw [hpb] at hrd
        have hb := rInt_back (hgx.i hk) (outB (xs.drop (j + 1)))
        conv => whnf
        refine xcall ((int_spec hrd).at (i := 0) hs rfl) ?_
        rintro _ m1 ⟨pr1, ⟨rfl, hr1, _⟩, hs1⟩
        conv => whnf
        rw [hb] at hr1 ⊢
        refine xcall ((wint_spec ha hok.1.i (by omega)).at (i := 2) hs1 rfl) ?_
        rintro _ m2 ⟨pa2, ⟨rfl, ha2⟩, hs2⟩
        conv => whnf
        refine ⟨j + 1, fin hs2 hr1 (by rw [hpb]; exact ha2), by omega, ?_⟩
        conv => whnf
        repeat (refine And.intro (by first | with_reducible rfl | (exact congrArg (Value.int _) (iadd (by omega))) | exact congrArg (Value.int _) (wi (by omega) (by omega)) | exact wi (by omega) (by omega) | rfl) ?_; conv => whnf)
        first | exact trivial | exact fun _ _ h => h
      have n1 : xs[j].1.k ≠ 1 := by simpa using hh
      conv => whnf
      refine ⟨fun hh => ?_, fun hh => ?_⟩
      · have hk : xs[j].1.k = 2 := by simpa using hh
        have hpb : partB xs[j].1 = textB xs[j].1.b := by simp [partB, hk]
        rw [hpb] at hrd
        have hb500 := hgx.b
        have hb := rText_back (by omega) (hgx.mo hk) (outB (xs.drop (j + 1)))
        conv => whnf
        repeat (refine And.intro (by first | omega | (simp only [times]; omega)) ?_; conv => whnf)
        refine ⟨_, MRange.cell (j := 2) hr rfl, rfl, ?_⟩
        conv => whnf
        refine xcall ((text_spec hrd hok.1.mo).at (i := 0) hs rfl) ?_
        rintro _ m1 ⟨pr1, ⟨v1, q1, r1, rfl, hs1', hv1, hr1⟩, hs1⟩
        conv => whnf
        rw [hb] at hr1 hv1
        have hs1 := hs1.flat (i := 0) rfl hs1'
        refine xcall (wtext_spec (i := 3) (j := 0) hs1 rfl rfl (by decide) ha hv1.lb.la (by omega) (by simp only; omega)) ?_
        rintro _ m2 ⟨rfl, pa2, hs2, ha2⟩
        conv => whnf
        refine ⟨j + 1, fin (hs2.erase 0) hr1 (by rw [hpb]; exact ha2), by omega, ?_⟩
        conv => whnf
        repeat (refine And.intro (by first | with_reducible rfl | (exact congrArg (Value.int _) (iadd (by omega))) | exact congrArg (Value.int _) (wi (by omega) (by omega)) | exact wi (by omega) (by omega) | rfl) ?_; conv => whnf)
        first | exact trivial | exact fun _ _ h => h
      have n2 : xs[j].1.k ≠ 2 := by simpa using hh
      conv => whnf
      refine ⟨fun hh => ?_, fun hh => ?_⟩
      · have hk : xs[j].1.k = 3 := by simpa using hh
        have hpb : partB xs[j].1 = xs[j].1.d := by simp [partB, hk]
        rw [hpb] at hrd
        have hb := rDigest_back hok.1.d (outB (xs.drop (j + 1)))
        conv => whnf
        refine xcall ((digest_spec hrd).at (i := 0) hs rfl) ?_
        rintro _ m1 ⟨pr1, ⟨rfl, hr1⟩, hs1⟩
        conv => whnf
        rw [hb] at hr1 ⊢
        refine xcall ((wdigest_spec ha hok.1.d (by omega)).at (i := 2) hs1 rfl) ?_
        rintro _ m2 ⟨pa2, ⟨rfl, ha2⟩, hs2⟩
        conv => whnf
        refine ⟨j + 1, fin hs2 hr1 (by rw [hpb]; exact ha2), by omega, ?_⟩
        conv => whnf
        repeat (refine And.intro (by first | with_reducible rfl | (exact congrArg (Value.int _) (iadd (by omega))) | exact congrArg (Value.int _) (wi (by omega) (by omega)) | exact wi (by omega) (by omega) | rfl) ?_; conv => whnf)
        first | exact trivial | exact fun _ _ h => h
      have n3 : xs[j].1.k ≠ 3 := by simpa using hh
      conv => whnf
      refine ⟨fun hh => ?_, fun hh => ?_⟩
      · have hk : xs[j].1.k = 4 := by simpa using hh
        have hpb : partB xs[j].1 = vecB xs[j].1.v := by simp [partB, hk]
        rw [hpb] at hrd
        have hb := rVec_back hok.1.v.1 hok.1.v.2 (outB (xs.drop (j + 1)))
        conv => whnf
        refine xcall ((vec_spec hrd).at (i := 0) hs rfl) ?_
        rintro _ m1 ⟨pr1, ⟨rfl, hr1, _⟩, hs1⟩
        conv => whnf
        rw [hb] at hr1 ⊢
        refine xcall ((wvec_spec ha hok.1.v (by omega)).at (i := 2) hs1 rfl) ?_
        rintro _ m2 ⟨pa2, ⟨rfl, ha2⟩, hs2⟩
        conv => whnf
        refine ⟨j + 1, fin hs2 hr1 (by rw [hpb]; exact ha2), by omega, ?_⟩
        conv => whnf
        repeat (refine And.intro (by first | with_reducible rfl | (exact congrArg (Value.int _) (iadd (by omega))) | exact congrArg (Value.int _) (wi (by omega) (by omega)) | exact wi (by omega) (by omega) | rfl) ?_; conv => whnf)
        first | exact trivial | exact fun _ _ h => h
      have n4 : xs[j].1.k ≠ 4 := by simpa using hh
      omega
    · /-MARK3-/
      have h2' := of_decide_eq_false h2
      obtain rfl : j = xs.length := by omega
      rw [List.drop_length] at hrd
      rw [List.take_length] at ha
      conv => whnf
      first | refine xretk (end_spec (hrd.mono (hs.at (i := 0) rfl))) ?_ | refine xret (end_spec (hrd.mono (hs.at (i := 0) rfl))) ?_
      conv => whnf
      refine ⟨fun h => absurd h (by (first | decide | simp [outB])), fun _ => ?_⟩
      conv => whnf
      have fin2 : ∀ {m' : Mem}, Split m' [pb, m0] → XAtY _ _ [] m' := fun {m'} hs => by
        have t := tail m' pb hs hvb
        conv at t => whnf
        exact t
      rcases bs_any hvb with ⟨cv, e⟩ | ⟨bv, ov, cv, e⟩
      · have e2 : outB xs = [] := by
          injection e with _ e2 _
          exact List.eq_nil_of_length_eq_zero e2
        injection e with e1 _ _
        subst e1
        conv => whnf
        refine xcall (wbytes_spec (ha.mono (hs.at (i := 2) rfl)) (by omega)) ?_
        rintro _ ma ⟨va, pq, rfl, hsa, hva⟩
        conv => whnf
        have hsa := hsa.under (a := [pq]) hs
        have hsf : Split ma [pb, m0] := (((hsa.erase 0).erase 0).erase 1).erase 1
        refine ⟨kept_nil _ _, ?_⟩
        rcases bs_any hva with ⟨cv, rfl⟩ | ⟨bv, ov, cv, rfl⟩
        · conv => whnf
          refine ⟨fun h => absurd h (by simp), fun _ => ?_⟩
          conv => whnf
          refine .via _ _ ?_ (fin2 hsf)
          conv => whnf
          repeat (refine And.intro (by first | with_reducible rfl | exact congrArg (Value.int _) (wi (by omega) (by omega)) | exact wi (by omega) (by omega) | rfl) ?_; conv => whnf)
          first | exact trivial | exact fun _ _ h => h
        · conv => whnf
          refine ⟨_, rfl, (hva.lb.sub (hsa.at (i := 0) rfl)).range, ?_⟩
          conv => whnf
          refine ⟨fun h => absurd h (by (rw [e2]; simp [strOf])), fun _ => ?_⟩
          conv => whnf
          refine .via _ _ ?_ (fin2 hsf)
          conv => whnf
          repeat (refine And.intro (by first | with_reducible rfl | exact congrArg (Value.int _) (wi (by omega) (by omega)) | exact wi (by omega) (by omega) | rfl) ?_; conv => whnf)
          first | exact trivial | exact fun _ _ h => h
      · injection e with e1 _ _
        subst e1
        have hbv := hvb.lb.range
        conv => whnf
        refine ⟨_, rfl, (hvb.lb.sub (hs.at (i := 1) rfl)).range, ?_⟩
        conv => whnf
        obtain ⟨_, e3, _⟩ | ⟨_, _, _, arr, t, fr, e3, gv, _⟩ := hvb.lb.cases
        · cases e3
        cases e3
        refine xcall (wbytes_spec (ha.mono (hs.at (i := 2) rfl)) (by omega)) ?_
        rintro _ ma ⟨va, pq, rfl, hsa, hva⟩
        conv => whnf
        have hsa := hsa.under (a := [pq]) hs
        have hsf : Split ma [pb, m0] := (((hsa.erase 0).erase 0).erase 1).erase 1
        refine ⟨kept_sub1 (hs.at (i := 1) rfl _ _ gv) ((Split.at (i := 1) ‹Split ma [pq, mj]› rfl)), ?_⟩
        rcases bs_any hva with ⟨cv, e4⟩ | ⟨bv, ov, cv, rfl⟩
        · obtain ⟨_, e5, e6⟩ | ⟨_, _, _, _, _, _, e5, _, _⟩ := hva.lb.cases
          · cases e4
            conv => whnf
            refine ⟨fun h => absurd h (by (rw [e6]; simp [strOf])), fun _ => ?_⟩
            conv => whnf
            refine .via _ _ ?_ (fin2 hsf)
            conv => whnf
            repeat (refine And.intro (by first | with_reducible rfl | exact congrArg (Value.int _) (wi (by omega) (by omega)) | exact wi (by omega) (by omega) | rfl) ?_; conv => whnf)
            first | exact trivial | exact fun _ _ h => h
          · rw [e4] at e5; cases e5
        · conv => whnf
          refine ⟨_, rfl, (hva.lb.sub (hsa.at (i := 0) rfl)).range, ?_⟩
          conv => whnf
          refine ⟨fun h => absurd h (by simp), fun _ => ?_⟩
          conv => whnf
          refine .via _ _ ?_ (fin2 hsf)
          conv => whnf
          repeat (refine And.intro (by first | with_reducible rfl | exact congrArg (Value.int _) (wi (by omega) (by omega)) | exact wi (by omega) (by omega) | rfl) ?_; conv => whnf)
          first | exact trivial | exact fun _ _ h => h
end Go.E.Ythgjhcekcmgenaa
