/-
  TmP, TmL, TmM, TmQ, TmD, E16, E18, E24, EntDat, TmAll
-/
import Derived.Test.YtidnbefbbdbpfaaTimerManyZ6
import Derived.ProofKit
import Derived.OpenShut
import Derived.ChangeArms
/-
  Timers, plainly.
-/
namespace Go.E.Ytidnbefbbdbpfaa
open Go.Proofs
set_option maxRecDepth 100000
def ltE (a b : Ent) : Prop := a.2 < b.2 ∨ (a.2 = b.2 ∧ a.1 < b.1)
theorem ltE.trans {a b c : Ent} (h : ltE a b) (k : ltE b c) : ltE a c := by unfold ltE at *; omega
theorem ord_lt {a b : Ent} : ordE a b < 0 ↔ ltE a b := by
  unfold ordE cmpI ltE
  (repeat' split) <;> omega
theorem ord_gt {a b : Ent} : 0 < ordE a b ↔ ltE b a := by
  unfold ordE cmpI ltE
  (repeat' split) <;> omega
theorem ord_eq {a b : Ent} (h : ordE a b = 0) : a.1 = b.1 := by
  unfold ordE cmpI at h
  (repeat' split at h) <;> omega
theorem ord_le {a b : Ent} (h : ordE a b ≤ 0) (hne : a.1 ≠ b.1) : ltE a b := by
  rw [← ord_lt]
  rcases Int.lt_or_eq_of_le h with h | h
  · exact h
  · exact absurd (ord_eq h) hne
theorem ord_ge {a b : Ent} (h : 0 ≤ ordE a b) (hne : a.1 ≠ b.1) : ltE b a := by
  rw [← ord_gt]
  rcases Int.lt_or_eq_of_le h with h | h
  · exact h
  · exact absurd (ord_eq h.symm) hne
structure RightP (E : List Ent) : Prop where
  all : ∀ x ∈ E, isE x = true
  srt : E.Pairwise ltE
  ids : E.Pairwise fun a b => a.1 ≠ b.1
  len : E.length ≤ 200
theorem rightE_of {E : List Ent} (h : rightE E = true) : RightP E := by
  rw [rightE, Bool.and_eq_true, List.all_eq_true] at h
  obtain ⟨h1, h2⟩ := h
  have hok : ∀ i, i < E.length → okAt E i = true := fun i hi => h1 i (List.mem_range.2 hi)
  have hid : ∀ i j (hi : i < E.length) (hj : j < E.length), i < j → E[i].1 ≠ E[j].1 := fun i j hi hj hij e => by
    have := hok j hj
    simp only [okAt, Bool.and_eq_true, Bool.not_eq_true', List.any_eq_false] at this
    have h3 := this.2.2 E[i] (List.mem_take_iff_getElem.2 ⟨i, by omega, rfl⟩)
    rw [← eAt_eq hj] at h3
    exact h3 (decide_eq_true e)
  refine ⟨fun x hx => ?_, ?_, List.pairwise_iff_getElem.2 hid, of_decide_eq_true h2⟩
  · obtain ⟨i, hi, rfl⟩ := List.getElem_of_mem hx
    have := hok i hi
    simp only [okAt, Bool.and_eq_true] at this
    rw [← eAt_eq hi] at this
    exact this.1
  · refine List.pairwise_iff_getElem.2 fun i j hi hj hij => ?_
    have step : ∀ d (h : i + d + 1 < E.length), ltE E[i] E[i + d + 1] := fun d => by
      induction d with
      | zero =>
        intro h
        have := hok (i + 0 + 1) h
        simp only [okAt, Bool.and_eq_true, Bool.or_eq_true, decide_eq_true_eq] at this
        rcases this.2.1 with h4 | h4
        · omega
        · rw [← eAt_eq h, ← eAt_eq (by omega)] at h4
          exact ord_le h4 (hid _ _ _ h (by omega))
      | succ d ih =>
        intro h
        refine (ih (by omega)).trans ?_
        have := hok (i + (d + 1) + 1) h
        simp only [okAt, Bool.and_eq_true, Bool.or_eq_true, decide_eq_true_eq] at this
        rcases this.2.1 with h4 | h4
        · omega
        · rw [← eAt_eq h, ← eAt_eq (by omega)] at h4
          exact ord_le h4 (hid _ _ _ h (by omega))
    have := step (j - i - 1) (by omega)
    simpa [show i + (j - i - 1) + 1 = j by omega] using this
theorem RightP.right {E : List Ent} (h : RightP E) : rightE E = true := by
  rw [rightE, Bool.and_eq_true, List.all_eq_true]
  refine ⟨fun i hi => ?_, decide_eq_true h.len⟩
  have hi := List.mem_range.1 hi
  simp only [okAt, Bool.and_eq_true, Bool.or_eq_true, decide_eq_true_eq, Bool.not_eq_true', List.any_eq_false]
  rw [← eAt_eq hi]
  refine ⟨h.all _ (List.getElem_mem hi), ?_, fun x hx e => ?_⟩
  · by_cases h0 : i = 0
    · exact .inl h0
    · refine .inr ?_
      rw [← eAt_eq (show i - 1 < E.length by omega)]
      have := List.pairwise_iff_getElem.1 h.srt (i - 1) i (by omega) hi (by omega)
      rw [← ord_lt] at this; omega
  · obtain ⟨j, hj, rfl⟩ := List.mem_take_iff_getElem.1 hx
    exact List.pairwise_iff_getElem.1 h.ids j i (by omega) hi (by omega) e
theorem RightP.sub {E F : List Ent} (h : RightP E) (hs : F.Sublist E) : RightP F :=
  ⟨fun x hx => h.all x (hs.subset hx), h.srt.sublist hs, h.ids.sublist hs, Nat.le_trans hs.length_le h.len⟩
theorem clr_ne {E : List Ent} {id : Int} : ∀ x ∈ clr E id, x.1 ≠ id := fun x hx => by
  have := (List.mem_filter.1 hx).2
  simpa using this
theorem eAt_mem {E : List Ent} {i : Nat} (h : i < E.length) : eAt E i ∈ E := by rw [← eAt_eq h]; exact List.getElem_mem h
/-- one that is put where it belongs -/
theorem ins_right {E : List Ent} {x : Ent} {k : Nat} (h : RightP E) (hx : isE x = true) (hne : ∀ y ∈ E, y.1 ≠ x.1) (hl : E.length < 200) (hk : Fit E x k) : RightP (insE E k x) := by
  have hlo : ∀ y ∈ E.take k, ltE y x := fun y hy => by
    obtain ⟨i, hi, rfl⟩ := List.mem_take_iff_getElem.1 hy
    have h1 := ord_lt.1 (hk.lo (by omega))
    have h2 := hk.le
    rw [← eAt_eq (show k - 1 < E.length by omega)] at h1
    by_cases e : i = k - 1
    · subst e; exact h1
    · exact (List.pairwise_iff_getElem.1 h.srt i (k - 1) (by omega) (by omega) (by omega)).trans h1
  have hhi : ∀ y ∈ E.drop k, ltE x y := fun y hy => by
    obtain ⟨i, hi, rfl⟩ := List.mem_drop_iff_getElem.1 hy
    have h1 := ord_ge (hk.hi (by omega)) (hne _ (eAt_mem (by omega)))
    rw [← eAt_eq (show k < E.length by omega)] at h1
    by_cases e : i = 0
    · subst e; simpa using h1
    · exact h1.trans (List.pairwise_iff_getElem.1 h.srt k (k + i) (by omega) (by omega) (by omega))
  have hpt := List.take_sublist k E
  have hpd := List.drop_sublist k E
  have hmid : ∀ a ∈ E.take k, ∀ b ∈ E.drop k, ltE a b ∧ a.1 ≠ b.1 := fun a ha b hb => by
    have h1 := h.srt
    have h2 := h.ids
    rw [← List.take_append_drop k E] at h1 h2
    exact ⟨(List.pairwise_append.1 h1).2.2 a ha b hb, (List.pairwise_append.1 h2).2.2 a ha b hb⟩
  refine ⟨fun y hy => ?_, ?_, ?_, ?_⟩
  · rcases List.mem_append.1 hy with hy | hy
    · exact h.all y (hpt.subset hy)
    · rcases List.mem_cons.1 hy with rfl | hy
      · exact hx
      · exact h.all y (hpd.subset hy)
  · refine List.pairwise_append.2 ⟨h.srt.sublist hpt, List.pairwise_cons.2 ⟨hhi, h.srt.sublist hpd⟩, fun a ha b hb => ?_⟩
    rcases List.mem_cons.1 hb with rfl | hb
    · exact hlo a ha
    · exact (hmid a ha b hb).1
  · refine List.pairwise_append.2 ⟨h.ids.sublist hpt, List.pairwise_cons.2 ⟨fun b hb e => hne b (hpd.subset hb) e.symm, h.ids.sublist hpd⟩, fun a ha b hb => ?_⟩
    rcases List.mem_cons.1 hb with rfl | hb
    · exact hne a (hpt.subset ha)
    · exact (hmid a ha b hb).2
  · simp only [insE, List.length_append, List.length_cons, List.length_take, List.length_drop]
    have := hk.le
    omega
/-- what is set -/
theorem setR_ok {E M : List Ent} {x : Ent} {e : Int} (h : SetR E x e M) (he : e = 0) : RightP E ∧ isE x = true ∧ (clr E x.1).length < 200 ∧ ∃ k, M = insE (clr E x.1) k x ∧ Fit (clr E x.1) x k := by
  unfold SetR at h
  split at h
  · obtain ⟨h, _⟩ := h; omega
  · rename_i h1
    split at h
    · obtain ⟨h, _⟩ := h; omega
    · rename_i h2
      split at h
      · obtain ⟨h, _⟩ := h; omega
      · rename_i h3
        exact ⟨rightE_of (by simpa using h1), by simpa using h2, by omega, h.2⟩
theorem setR_right {E M : List Ent} {x : Ent} {e : Int} (h : SetR E x e M) (he : e = 0) : RightP M := by
  obtain ⟨h1, h2, h3, k, rfl, h4⟩ := setR_ok h he
  exact ins_right (h1.sub List.filter_sublist) h2 clr_ne h3 h4
theorem atOf_ins {E : List Ent} {x : Ent} {k : Nat} {id : Int} (hne : id ≠ x.1) : atOf (insE E k x) id = atOf E id := by
  unfold atOf insE
  conv => rhs; rw [← List.take_append_drop k E]
  rw [List.find?_append, List.find?_append, List.find?_cons]
  rw [decide_eq_false (fun e => hne e.symm)]
theorem atOf_clr {E : List Ent} {x id : Int} (hne : id ≠ x) : atOf (clr E x) id = atOf E id := by
  unfold atOf clr
  rw [List.find?_filter]
  congr 2
  funext e
  by_cases h : e.1 = id
  · have : ¬ e.1 = x := fun e' => hne (h.symm.trans e')
    simp [h, this]
    exact fun e' => this (h.trans e')
  · simp [h]
theorem due_len (E : List Ent) (now : Int) : (dueI E now).length + (dueR E now).length = E.length := by
  induction E with
  | nil => rfl
  | cons e E ih =>
    by_cases h : e.2 ≤ now
    · have h' : ¬ now < e.2 := by omega
      simp only [dueI, dueR, List.filter_cons, decide_eq_true h, decide_eq_false h', if_true, List.map_cons, List.length_cons, List.length_map] at ih ⊢
      simp; omega
    · have h' : now < e.2 := by omega
      simp only [dueI, dueR, List.filter_cons, decide_eq_false h, decide_eq_true h', if_true, List.map_cons, List.length_cons, List.length_map] at ih ⊢
      simp; omega
theorem dueI_app (E F : List Ent) (now : Int) : dueI (E ++ F) now = dueI E now ++ dueI F now := by simp [dueI]
theorem dueI_none {E : List Ent} {id now : Int} (h : ∀ x ∈ E, x.1 ≠ id) : (dueI E now).count id = 0 := by
  rw [List.count_eq_zero]
  intro hm
  obtain ⟨x, hx, rfl⟩ := List.mem_map.1 hm
  exact h x (List.mem_filter.1 hx).1 rfl
theorem count_ins {E : List Ent} {x : Ent} {k : Nat} {now : Int} (h : ∀ y ∈ E, y.1 ≠ x.1) : (dueI (insE E k x) now).count x.1 = if x.2 ≤ now then 1 else 0 := by
  have h1 : ∀ y ∈ E.take k, y.1 ≠ x.1 := fun y hy => h y (List.mem_of_mem_take hy)
  have h2 : ∀ y ∈ E.drop k, y.1 ≠ x.1 := fun y hy => h y (List.mem_of_mem_drop hy)
  rw [insE, dueI_app, List.count_append, dueI_none h1]
  have e : dueI (x :: E.drop k) now = (if x.2 ≤ now then [x.1] else []) ++ dueI (E.drop k) now := by
    by_cases hx : x.2 ≤ now
    · simp [dueI, List.filter_cons, hx]
    · simp [dueI, List.filter_cons, hx]
  rw [e, List.count_append, dueI_none h2]
  split <;> simp
theorem rest_none {E : List Ent} {x : Ent} {k : Nat} (h : ∀ y ∈ E, y.1 ≠ x.1) : atOf (dueR (insE E k x) x.2) x.1 = none := by
  unfold atOf
  rw [Option.map_eq_none_iff, List.find?_eq_none]
  intro y hy e
  have e := of_decide_eq_true e
  obtain ⟨h1, h2⟩ := List.mem_filter.1 hy
  have h2 := of_decide_eq_true h2
  rcases List.mem_append.1 h1 with h1 | h1
  · exact h y (List.mem_of_mem_take h1) e
  · rcases List.mem_cons.1 h1 with rfl | h1
    · omega
    · exact h y (List.mem_of_mem_drop h1) e
end Go.E.Ytidnbefbbdbpfaa

/-
  Laws of chapter 24.
-/
namespace Go.E.Ytidnbefbbdbpfaa
open Go.Proofs
set_option maxRecDepth 100000
theorem set_el {m : Mem} {v : Value} {E : List Ent} {id at' : Int} (hv : Ea m v E) (hl : E.length ≤ 100000) : Spec Try.prog 6 [.v v, i64 id, i64 at'] m fun r m' => ∃ v' e M, r = [.v v', i64 e] ∧ Sub m m' ∧ El m' v' M ∧ SetR E (id, at') e M :=
  (set_spec hv hl).mono fun _ _ ⟨v', p, e, M, h1, h2, h3, h4⟩ => ⟨v', e, M, h1, h2.sub (by simp), h3.el.sub (h2.sub (by simp)), h4⟩
theorem due_el {m : Mem} {v : Value} {E : List Ent} {now : Int} (hv : Ea m v E) (hl : E.length ≤ 10000000) : Spec Try.prog 10 [.v v, i64 now] m fun r m' => ∃ v1 v2, r = [.v v1, .v v2] ∧ Sub m m' ∧ Il m' v1 (dueI E now) ∧ El m' v2 (dueR E now) :=
  (due_tspec hv hl).mono fun _ _ ⟨v1, v2, p1, p2, h1, h2, h3, h4⟩ => ⟨v1, v2, h1, h2.sub (by simp), h3.il.sub (h2.sub (by simp)), h4.el.sub (h2.sub (by simp))⟩
theorem clear_el {m : Mem} {v : Value} {E : List Ent} {id : Int} (hv : Ea m v E) (hl : E.length ≤ 10000000) : Spec Try.prog 12 [.v v, i64 id] m fun r m' => ∃ v', r = [.v v'] ∧ Sub m m' ∧ El m' v' (clr E id) :=
  (clear_tspec hv hl).mono fun _ _ ⟨v1, p1, h1, h2, h3⟩ => ⟨v1, h1, h2.sub (by simp), h3.el.sub (h2.sub (by simp))⟩
theorem fit0 {E : List Ent} {x : Ent} {k : Nat} (h : Fit E x k) (hx : ∀ y ∈ E, ltE x y) : k = 0 := by
  by_cases h0 : k = 0
  · exact h0
  · have h1 := ord_lt.1 (h.lo (by omega))
    have h2 := h.le
    have h3 := hx _ (eAt_mem (show k - 1 < E.length by omega))
    unfold ltE at h1 h3; omega
/-- set ahead of all others -/
theorem setR_front {E M : List Ent} {x : Ent} {e : Int} (h : SetR E x e M) (hr : rightE E = true) (hi : isE x = true) (hl : (clr E x.1).length < 200) (hx : ∀ y ∈ clr E x.1, ltE x y) : e = 0 ∧ M = x :: clr E x.1 := by
  unfold SetR at h
  rw [hr, hi, if_neg (by decide), if_neg (by decide), if_neg (by omega)] at h
  obtain ⟨h0, k, rfl, hk⟩ := h
  obtain rfl := fit0 hk hx
  exact ⟨h0, rfl⟩
theorem al1 {M : List Ent} {e : Int} (h : SetR [] (3, 5) e M) : e = 0 ∧ M = [(3, 5)] := setR_front h (by decide) (by decide) (by decide) (by intro y hy; simp [clr] at hy)
theorem al2 {M : List Ent} {e : Int} (h : SetR [(3, 5)] (4, 2) e M) : e = 0 ∧ M = [(4, 2), (3, 5)] := setR_front h (by decide) (by decide) (by decide) (by intro y hy; simp [clr] at hy; subst hy; exact .inl (by decide))
theorem al3 {M : List Ent} {e : Int} (h : SetR [(4, 2), (3, 5)] (3, 1) e M) : e = 0 ∧ M = [(3, 1), (4, 2)] := setR_front h (by decide) (by decide) (by decide) (by intro y hy; simp [clr] at hy; subst hy; exact .inl (by decide))
theorem al4 {M : List Ent} {e : Int} (h : SetR [(4, 2), (3, 5)] (0, 1) e M) : e = 1 := by
  unfold SetR at h
  rw [if_neg (by decide), if_pos (by decide)] at h
  exact h.1
set_option maxHeartbeats 2000000 in
theorem alive24_spec {m : Mem} : Spec Try.prog 7 [] m fun r m' => r = [boolV true] ∧ Sub m m' := by
  refine en7 rfl (goY ?_)
  conv => whnf
  refine xcall (set_el (E := []) (.inl (.inl ⟨0, rfl, rfl⟩)) (by simp)) ?_
  rintro _ m1 ⟨v1, e1, M1, rfl, hs1, hv1, g1⟩
  conv => whnf
  obtain ⟨rfl, rfl⟩ := al1 g1
  refine xcall (set_el hv1.ea (by simp)) ?_
  rintro _ m2 ⟨v2, e2, M2, rfl, hs2, hv2, g2⟩
  conv => whnf
  obtain ⟨rfl, rfl⟩ := al2 g2
  refine xcall (set_el hv2.ea (by simp)) ?_
  rintro _ m3 ⟨v3, e3, M3, rfl, hs3, hv3, g3⟩
  conv => whnf
  obtain ⟨rfl, rfl⟩ := al3 g3
  refine xcall (due_el (hv2.sub hs3).ea (by simp)) ?_
  rintro _ m4 ⟨v4, v5, rfl, hs4, hv4, hv5⟩
  conv => whnf
  refine xcall (first_spec ((hv2.sub hs3).sub hs4).ea (by simp)) ?_
  rintro _ m5 ⟨rfl, hs5⟩
  conv => whnf
  refine xcall (find_spec ((hv3.sub hs4).sub hs5).ea (by simp)) ?_
  rintro _ m6 ⟨rfl, hs6⟩
  conv => whnf
  have hv2' := ((((hv2.sub hs3).sub hs4).sub hs5).sub hs6)
  have hv3' := (((hv3.sub hs4).sub hs5).sub hs6)
  have hv4' := (hv4.sub hs5).sub hs6
  have hv5' := (hv5.sub hs5).sub hs6
  refine xcall (set_el hv2'.ea (by simp)) ?_
  rintro _ m7 ⟨v7, e7, M7, rfl, hs7, hv7, g7⟩
  conv => whnf
  obtain rfl := al4 g7
  have hv2' := hv2'.sub hs7
  have hv3' := hv3'.sub hs7
  have hv4' := hv4'.sub hs7
  have hv5' := hv5'.sub hs7
  have hm7 : Sub m m7 := (((((hs1.trans hs2).trans hs3).trans hs4).trans hs5).trans hs6).trans hs7
  clear hs1 hs2 hs3 hs4 hs5 hs6 hs7 hv1 hv2 hv3 hv4 hv5 g1 g2 g3 g7 hv7
  obtain ⟨b2, o2, c2, rfl, q2⟩ := hv2'.ea.real (i := 0) (by simp)
  obtain ⟨b3, o3, c3, rfl, q3⟩ := hv3'.ea.real (i := 0) (by simp)
  change Il m7 v4 [4] at hv4'
  change El m7 v5 [(3, 5)] at hv5'
  obtain ⟨b4, o4, c4, rfl, q4⟩ := hv4'.real (i := 0) (by simp)
  obtain ⟨a5, c5, rfl⟩ := hv5'.shape
  have z2 := mcell_range (j := 0) (q2 0 (by simp)) rfl
  have z3 := mcell_range (j := 0) (q3 0 (by simp)) rfl
  have z4 := q4 0 (by simp)
  refine ⟨fun _ => ?_, fun h => absurd h (by decide)⟩
  conv => whnf
  refine ⟨fun _ => ?_, fun h => absurd h (by decide)⟩
  conv => whnf
  refine ⟨fun _ => ?_, fun h => absurd h (by decide)⟩
  conv => whnf
  refine ⟨fun _ => ?_, fun h => absurd h (by decide)⟩
  conv => whnf
  refine ⟨by decide, ?_⟩
  conv => whnf
  refine ⟨_, z2, rfl, ?_⟩
  conv => whnf
  refine ⟨fun _ => ?_, fun h => absurd h (by decide)⟩
  conv => whnf
  refine ⟨by decide, ?_⟩
  conv => whnf
  refine ⟨_, z3, rfl, ?_⟩
  conv => whnf
  refine ⟨fun _ => ?_, fun h => absurd h (by decide)⟩
  conv => whnf
  refine ⟨fun _ => ?_, fun h => absurd h (by decide)⟩
  conv => whnf
  refine ⟨fun _ => ?_, fun h => absurd h (by decide)⟩
  conv => whnf
  refine ⟨by decide, ?_⟩
  conv => whnf
  refine ⟨_, z4, rfl, ?_⟩
  conv => whnf
  refine ⟨fun _ => ?_, fun h => absurd h (by decide)⟩
  conv => whnf
  refine ⟨fun _ => ?_, fun h => absurd h (by decide)⟩
  conv => whnf
  refine ⟨fun _ => ?_, fun h => absurd h (by decide)⟩
  conv => whnf
  refine ⟨fun _ => ?_, fun h => absurd h (by decide)⟩
  conv => whnf
  refine ⟨fun _ => ?_, fun h => absurd h (by decide)⟩
  conv => whnf
  refine ⟨fun _ => ?_, fun h => absurd h (by decide)⟩
  conv => whnf
  refine ⟨fun _ => ?_, fun h => absurd h (by decide)⟩
  conv => whnf
  refine xcall (clear_el hv3'.ea (by simp)) ?_
  rintro _ m8 ⟨v8, rfl, hs8, hv8⟩
  conv => whnf
  change El m8 v8 [(4, 2)] at hv8
  obtain ⟨a8, c8, rfl⟩ := hv8.shape
  conv => whnf
  refine ⟨fun _ => ?_, fun h => absurd h (by decide)⟩
  conv => whnf
  refine xcall (right_tspec (hv3'.sub hs8).ea (by simp)) ?_
  rintro _ m9 ⟨rfl, hs9⟩
  conv => whnf
  exact ⟨by rw [show rightE [(3, 1), (4, 2)] = true by decide], (hm7.trans hs8).trans hs9⟩
theorem count_take {l : List Int} {i : Nat} {id : Int} (hi : i < l.length) : (l.take (i + 1)).count id = (l.take i).count id + if l[i] = id then 1 else 0 := by
  rw [List.take_succ_eq_append_getElem hi, List.count_append, List.count_singleton]
  by_cases h : l[i] = id <;> simp [h]
set_option maxHeartbeats 4000000 in
theorem once_tail {m mm : Mem} {v1 : Value} {M : List Ent} {id at' : Int} (hm : Sub m mm) (hv1 : El mm v1 M) (hMl : M.length ≤ 200) (hrange : 0 ≤ at' ∧ at' ≤ 1099511627776) (q1 : (dueI M at').count id = 1) (q2 : (dueI M (at' - 1)).count id = 0) (q3 : atOf (dueR M at') id = none) (q4 : RightP (dueR M at')) (q5 : (dueI M at').length + (dueR M at').length = M.length) :
    xwpY c4 (restAt 10 (bodyOf Try.f4)) (QRetY tt.get Try.f4.results.toList fun r m' => r = [boolV true] ∧ Sub m m')
      [(1, .c (i64 id)), (2, .c (i64 at')), (9, .c (.v v1))] [] mm [] := by
  obtain ⟨a1, c1, rfl⟩ := hv1.shape
  have ew : IntKind.i64.wrap (at' - 1) = at' - 1 := wi (by omega) (by omega)
  conv => whnf
  refine .at ?_
  conv => whnf
  refine xcall (due_el hv1.ea (by omega)) ?_
  rintro _ m2 ⟨v2, v3, rfl, hs2, hv2, hv3⟩
  conv => whnf
  rw [ew]
  refine xcall (due_el (hv1.sub hs2).ea (by omega)) ?_
  rintro _ m4 ⟨v4, v5, rfl, hs4, hv4, hv5⟩
  conv => whnf
  have hv2 := hv2.sub hs4
  have hv3 := hv3.sub hs4
  have hm4 := (hm.trans hs2).trans hs4
  have q6 : (dueI M (at' - 1)).length ≤ 200 := by rw [dueI, List.length_map]; exact Nat.le_trans (List.length_filter_le _ _) hMl
  generalize dueI M at' = I1 at *
  generalize dueI M (at' - 1) = I2 at *
  generalize dueR M at' = R1 at *
  obtain ⟨a2, c2, rfl⟩ := hv2.shape
  obtain ⟨a3, c3, rfl⟩ := hv3.shape
  obtain ⟨a4, c4, rfl⟩ := hv4.shape
  refine .mk (ι := Nat) (fun i => I1.length - i) (fun i m' => i ≤ I1.length ∧ m' = m4) (fun i => [(1, .c (i64 id)), (9, .c (.v (.slice a1 M.length c1))), (15, .c (.v (.slice a2 I1.length c2))), (16, .c (.v (.slice a3 R1.length c3))), (17, .c (.v (.slice a4 I2.length c4))), (19, .c (i64 ((I1.take i).count id : Nat))), (20, .c (i64 0)), (21, .c (i64 i))]) (fun _ => []) 0 ⟨by omega, rfl⟩ ?_ ?_
  · conv => whnf
    repeat (refine And.intro (by first | with_reducible rfl | exact congrArg (Value.int _) (wi (by omega) (by omega)) | exact wi (by omega) (by omega) | rfl) ?_; conv => whnf)
    first | exact trivial | exact fun _ _ h => h
  rintro i m' ⟨hi, rfl⟩
  conv => whnf
  refine ⟨fun h => ?_, fun h => ?_⟩
  · have h' := of_decide_eq_true h
    have hlt : i < I1.length := by omega
    clear h
    have hst := count_take (id := id) hlt
    have hct : (I1.take i).count id ≤ i := Nat.le_trans List.count_le_length (by rw [List.length_take]; omega)
    obtain ⟨b, o, c', hh, hg⟩ := hv2.real hlt
    injection hh with hh1 _ hh3
    subst hh1
    clear hh3 c'
    have hg := hg i hlt
    generalize I1[i] = x at hg hst
    conv => whnf
    repeat (refine And.intro (by first | omega | (simp only [times]; omega)) ?_; conv => whnf)
    refine ⟨_, by simp only [times, Int.toNat_natCast, Nat.mul_one]; exact hg, rfl, ?_⟩
    conv => whnf
    refine ⟨fun h => ?_, fun h => ?_⟩
    · have hx : x = id := by simpa using h
      rw [if_pos hx] at hst
      conv => whnf
      refine ⟨i + 1, ⟨by omega, rfl⟩, by omega, ?_⟩
      rw [hst]
      conv => whnf
      repeat (refine And.intro (by first | with_reducible rfl | (first | exact congrArg (Value.int _) (iadd (by omega))) | exact congrArg (Value.int _) (wi (by omega) (by omega)) | exact wi (by omega) (by omega) | rfl) ?_; conv => whnf)
      first | exact trivial | exact fun _ _ h => h
    · have hx : ¬ x = id := by simpa using h
      rw [if_neg hx] at hst
      conv => whnf
      refine ⟨i + 1, ⟨by omega, rfl⟩, by omega, ?_⟩
      rw [hst]
      conv => whnf
      repeat (refine And.intro (by first | with_reducible rfl | (first | exact congrArg (Value.int _) (iadd (by omega))) | exact congrArg (Value.int _) (wi (by omega) (by omega)) | exact wi (by omega) (by omega) | rfl) ?_; conv => whnf)
      first | exact trivial | exact fun _ _ h => h
  have h' := of_decide_eq_false h
  obtain rfl : i = I1.length := by omega
  clear h
  rw [List.take_length, q1]
  have hm4 : Sub m m' := hm4
  conv => whnf
  refine .mk (ι := Nat) (fun i => I2.length - i) (fun i m9 => i ≤ I2.length ∧ m9 = m') (fun i => [(1, .c (i64 id)), (9, .c (.v (.slice a1 M.length c1))), (15, .c (.v (.slice a2 I1.length c2))), (16, .c (.v (.slice a3 R1.length c3))), (17, .c (.v (.slice a4 I2.length c4))), (19, .c (i64 1)), (20, .c (i64 ((I2.take i).count id : Nat))), (22, .c (i64 i))]) (fun _ => []) 0 ⟨by omega, rfl⟩ ?_ ?_
  · conv => whnf
    repeat (refine And.intro (by first | with_reducible rfl | exact congrArg (Value.int _) (wi (by omega) (by omega)) | exact wi (by omega) (by omega) | rfl) ?_; conv => whnf)
    first | exact trivial | exact fun _ _ h => h
  rintro i m9 ⟨hi, rfl⟩
  conv => whnf
  refine ⟨fun h => ?_, fun h => ?_⟩
  · have h' := of_decide_eq_true h
    have hlt : i < I2.length := by omega
    clear h
    have hst := count_take (id := id) hlt
    have hct : (I2.take i).count id ≤ i := Nat.le_trans List.count_le_length (by rw [List.length_take]; omega)
    obtain ⟨b, o, c', hh, hg⟩ := hv4.real hlt
    injection hh with hh1 _ hh3
    subst hh1
    clear hh3 c'
    have hg := hg i hlt
    generalize I2[i] = x at hg hst
    conv => whnf
    repeat (refine And.intro (by first | omega | (simp only [times]; omega)) ?_; conv => whnf)
    refine ⟨_, by simp only [times, Int.toNat_natCast, Nat.mul_one]; exact hg, rfl, ?_⟩
    conv => whnf
    refine ⟨fun h => ?_, fun h => ?_⟩
    · have hx : x = id := by simpa using h
      rw [if_pos hx] at hst
      conv => whnf
      refine ⟨i + 1, ⟨by omega, rfl⟩, by omega, ?_⟩
      rw [hst]
      conv => whnf
      repeat (refine And.intro (by first | with_reducible rfl | (first | exact congrArg (Value.int _) (iadd (by omega))) | exact congrArg (Value.int _) (wi (by omega) (by omega)) | exact wi (by omega) (by omega) | rfl) ?_; conv => whnf)
      first | exact trivial | exact fun _ _ h => h
    · have hx : ¬ x = id := by simpa using h
      rw [if_neg hx] at hst
      conv => whnf
      refine ⟨i + 1, ⟨by omega, rfl⟩, by omega, ?_⟩
      rw [hst]
      conv => whnf
      repeat (refine And.intro (by first | with_reducible rfl | (first | exact congrArg (Value.int _) (iadd (by omega))) | exact congrArg (Value.int _) (wi (by omega) (by omega)) | exact wi (by omega) (by omega) | rfl) ?_; conv => whnf)
      first | exact trivial | exact fun _ _ h => h
  have h' := of_decide_eq_false h
  obtain rfl : i = I2.length := by omega
  clear h
  rw [List.take_length, q2]
  conv => whnf
  refine xcall (find_spec hv3.ea (by omega)) ?_
  rintro _ m5 ⟨rfl, hs5⟩
  conv => whnf
  rw [q3]
  refine xcall (alive24_spec) ?_
  rintro _ m6 ⟨rfl, hs6⟩
  conv => whnf
  refine ⟨fun _ => ?_, fun h => absurd h (by decide)⟩
  conv => whnf
  refine ⟨fun _ => ?_, fun h => absurd h (by decide)⟩
  conv => whnf
  refine ⟨fun _ => ?_, fun h => absurd h (by decide)⟩
  conv => whnf
  refine ⟨fun _ => ?_, fun h => absurd h (by decide)⟩
  conv => whnf
  refine xcall (right_tspec ((hv3.sub hs5).sub hs6).ea (by omega)) ?_
  rintro _ m7 ⟨rfl, hs7⟩
  conv => whnf
  rw [q4.right]
  refine ⟨fun _ => ?_, fun h => absurd h (by decide)⟩
  conv => whnf
  have ew2 : IntKind.i64.wrap ((I1.length : Int) + (R1.length : Int)) = ((M.length : Nat) : Int) := by rw [wi (by omega) (by omega)]; omega
  rw [ew2]
  exact ⟨by simp, ((hm4.trans hs5).trans hs6).trans hs7⟩
set_option maxHeartbeats 4000000 in
theorem timerOnce_spec {m : Mem} {v : Value} {E : List Ent} {id at' other : Int} (hv : Ea m v E) : Spec Try.prog 4 [.v v, i64 id, i64 at', i64 other] m fun r m' => r = [boolV true] ∧ Sub m m' := by
  obtain ⟨a, c, rfl⟩ := hv.shape
  refine en4 rfl (goY ?_)
  conv => whnf
  refine ⟨fun h => ?_, fun h => ?_⟩
  · conv => whnf
    refine xcall (alive24_spec) ?_
    rintro _ m1 ⟨rfl, hs⟩
    conv => whnf
    exact ⟨rfl, hs⟩
  have h' := of_decide_eq_false h
  have hlen : E.length ≤ 60 := by omega
  clear h h'
  conv => whnf
  refine xcall (right_tspec hv (by omega)) ?_
  rintro _ m0 ⟨rfl, hs0⟩
  conv => whnf
  cases hr : rightE E with
  | false =>
    refine ⟨fun _ => ?_, fun h => absurd h (by decide)⟩
    conv => whnf
    refine xcall (alive24_spec) ?_
    rintro _ m1 ⟨rfl, hs⟩
    conv => whnf
    exact ⟨rfl, hs0.trans hs⟩
  | true =>
    refine ⟨fun h => absurd h (by decide), fun _ => ?_⟩
    conv => whnf
    refine xcall (set_el (hv.sub hs0) (by omega)) ?_
    rintro _ m1 ⟨v1, e1, M, rfl, hs1, hv1, g1⟩
    conv => whnf
    have hm1 := hs0.trans hs1
    refine ⟨fun h => ?_, fun h => ?_⟩
    · conv => whnf
      refine xcall (alive24_spec) ?_
      rintro _ m2 ⟨rfl, hs⟩
      conv => whnf
      exact ⟨rfl, hm1.trans hs⟩
    have he : e1 = 0 := by simpa using h
    subst he
    clear h
    obtain ⟨p1, p2, p3, k, p4, p5⟩ := setR_ok g1 rfl
    have hMr := setR_right g1 rfl
    have hMl := hMr.len
    have hcne : ∀ y ∈ clr E id, y.1 ≠ id := clr_ne
    simp only at p2 p3 p4 p5
    have hrange : 0 ≤ at' ∧ at' ≤ 1099511627776 := by
      simp only [isE, Bool.and_eq_true, decide_eq_true_eq] at p2; omega
    conv => whnf
    refine xcall (find_spec (hv.sub hm1) (by omega)) ?_
    rintro _ m2 ⟨rfl, hs2⟩
    conv => whnf
    refine xcall (find_spec (hv1.sub hs2).ea (by omega)) ?_
    rintro _ m3 ⟨rfl, hs3⟩
    conv => whnf
    have hv1 := (hv1.sub hs2).sub hs3
    have hm3 : Sub m m3 := (hm1.trans hs2).trans hs3
    have hat : other ≠ id → atOf M other = atOf E other := fun hne => by rw [p4, atOf_ins hne, atOf_clr hne]
    have q1 : (dueI M at').count id = 1 := by
      have := count_ins (E := clr E id) (x := (id, at')) (k := k) (now := at') hcne
      rw [p4]; simpa using this
    have q2 : (dueI M (at' - 1)).count id = 0 := by
      have := count_ins (E := clr E id) (x := (id, at')) (k := k) (now := at' - 1) hcne
      rw [p4]; simp only at this; rw [this, if_neg (by omega)]
    have q3 : atOf (dueR M at') id = none := by
      have := rest_none (E := clr E id) (x := (id, at')) (k := k) hcne
      rw [p4]; exact this
    have q4 : RightP (dueR M at') := hMr.sub List.filter_sublist
    have q5 := due_len M at'
    clear g1 p4 p5
    have tl := fun mm (h1 : Sub m mm) (h2 : El mm v1 M) => once_tail (m := m) h1 h2 hMl hrange q1 q2 q3 q4 q5
    refine ⟨fun h => ?_, fun h => ?_⟩
    · have hne : other ≠ id := by simpa using h
      clear h
      rw [hat hne]
      conv => whnf
      refine ⟨fun h => absurd h (by simp at h), fun _ => ?_⟩
      conv => whnf
      refine ⟨fun h => absurd h (by simp at h), fun _ => ?_⟩
      conv => whnf
      refine xcall (right_tspec hv1.ea (by omega)) ?_
      rintro _ m4 ⟨rfl, hs4⟩
      conv => whnf
      rw [hMr.right]
      refine ⟨fun h => absurd h (by decide), fun _ => ?_⟩
      conv => whnf
      have tl := tl m4 (hm3.trans hs4) (hv1.sub hs4)
      conv at tl => whnf
      refine .via _ _ ?_ tl
      conv => whnf
      repeat (refine And.intro (by first | with_reducible rfl | exact congrArg (Value.int _) (wi (by omega) (by omega)) | exact wi (by omega) (by omega) | rfl) ?_; conv => whnf)
      first | exact trivial | exact fun _ _ h => h
    · clear h
      conv => whnf
      refine xcall (right_tspec hv1.ea (by omega)) ?_
      rintro _ m4 ⟨rfl, hs4⟩
      conv => whnf
      rw [hMr.right]
      refine ⟨fun h => absurd h (by decide), fun _ => ?_⟩
      conv => whnf
      have tl := tl m4 (hm3.trans hs4) (hv1.sub hs4)
      conv at tl => whnf
      refine .via _ _ ?_ tl
      conv => whnf
      repeat (refine And.intro (by first | with_reducible rfl | exact congrArg (Value.int _) (wi (by omega) (by omega)) | exact wi (by omega) (by omega) | rfl) ?_; conv => whnf)
      first | exact trivial | exact fun _ _ h => h
end Go.E.Ytidnbefbbdbpfaa

/-
  Law TimerMany.
-/
namespace Go.E.Ytidnbefbbdbpfaa
open Go.Proofs
set_option maxRecDepth 100000
/-- i timers, each set ahead of the others -/
def mkE : Nat → List Ent
  | 0 => []
  | i + 1 => (((i + 1 : Nat) : Int), 255 - (i : Int)) :: mkE i
theorem mkE_len : ∀ i, (mkE i).length = i
  | 0 => rfl
  | i + 1 => by rw [mkE, List.length_cons, mkE_len i]
theorem mkE_in : ∀ {i : Nat} {x : Ent}, x ∈ mkE i → ∃ j : Nat, j < i ∧ x = (((j + 1 : Nat) : Int), 255 - (j : Int))
  | 0, x, h => by cases h
  | i + 1, x, h => by
    rcases List.mem_cons.1 h with rfl | h
    · exact ⟨i, by omega, rfl⟩
    · obtain ⟨j, hj, e⟩ := mkE_in h
      exact ⟨j, by omega, e⟩
theorem mkE_right : ∀ {i : Nat}, i ≤ 200 → RightP (mkE i)
  | 0, _ => ⟨by simp [mkE], by simp [mkE], by simp [mkE], by simp [mkE]⟩
  | i + 1, h => by
    have ih := mkE_right (i := i) (by omega)
    refine ⟨fun x hx => ?_, List.pairwise_cons.2 ⟨fun y hy => ?_, ih.srt⟩, List.pairwise_cons.2 ⟨fun y hy => ?_, ih.ids⟩, by rw [mkE_len]; exact h⟩
    · obtain ⟨j, hj, rfl⟩ := mkE_in hx
      simp only [isE, Bool.and_eq_true, decide_eq_true_eq]; omega
    · obtain ⟨j, hj, rfl⟩ := mkE_in hy
      exact .inl (by simp only; omega)
    · obtain ⟨j, hj, rfl⟩ := mkE_in hy
      simp only; omega
theorem clr_mk {i : Nat} {id : Int} (h : ¬ (1 ≤ id ∧ id ≤ i)) : clr (mkE i) id = mkE i := by
  refine List.filter_eq_self.2 fun x hx => ?_
  obtain ⟨j, hj, rfl⟩ := mkE_in hx
  simp only [Bool.not_eq_true', decide_eq_false_iff_not]; omega
theorem clr_mk_in {i : Nat} {id : Int} (h : 1 ≤ id ∧ id ≤ i) : (clr (mkE i) id).length < i := by
  have h1 : (clr (mkE i) id).length ≤ (mkE i).length := List.length_filter_le _ _
  rw [mkE_len] at h1
  rcases Nat.lt_or_eq_of_le h1 with h2 | h2
  · exact h2
  · exfalso
    have h3 : clr (mkE i) id = mkE i := List.filter_sublist.eq_of_length (by rw [mkE_len]; exact h2)
    have h4 : (((id.toNat - 1 + 1 : Nat) : Int), 255 - ((id.toNat - 1 : Nat) : Int)) ∈ mkE i := by
      have : ∀ {i j : Nat}, j < i → (((j + 1 : Nat) : Int), 255 - (j : Int)) ∈ mkE i := by
        intro i
        induction i with
        | zero => intro j hj; omega
        | succ i ih =>
          intro j hj
          by_cases e : j = i
          · subst e; exact List.mem_cons_self ..
          · exact List.mem_cons_of_mem _ (ih (by omega))
      exact this (by omega)
    rw [← h3] at h4
    have := clr_ne _ h4
    simp only at this; omega
theorem set_mk {i : Nat} {M : List Ent} {e : Int} (hi : i < 200) (h : SetR (mkE i) (((i + 1 : Nat) : Int), 255 - (i : Int)) e M) : e = 0 ∧ M = mkE (i + 1) := by
  have hc : clr (mkE i) ((i + 1 : Nat) : Int) = mkE i := clr_mk (by omega)
  have := setR_front h (mkE_right (by omega)).right (by simp only [isE, Bool.and_eq_true, decide_eq_true_eq]; omega) (by simp only [hc, mkE_len]; omega) (by
    simp only [hc]
    intro y hy
    obtain ⟨j, hj, rfl⟩ := mkE_in hy
    exact .inl (by simp only; omega))
  simp only [hc] at this
  exact this
theorem set_mk_full {i : Nat} {M : List Ent} {e : Int} (hi : 200 ≤ i) (hi2 : i ≤ 255) (h : SetR (mkE 200) (((i + 1 : Nat) : Int), 255 - (i : Int)) e M) : e = 5 ∧ M = [] := by
  have hc : clr (mkE 200) ((i + 1 : Nat) : Int) = mkE 200 := clr_mk (by omega)
  have h2 : isE (((i + 1 : Nat) : Int), 255 - (i : Int)) = true := by simp only [isE, Bool.and_eq_true, decide_eq_true_eq]; omega
  unfold SetR at h
  rw [(mkE_right (by omega)).right, h2, if_neg (by decide), if_neg (by decide), if_pos (by simp only [hc, mkE_len]; omega)] at h
  exact h
theorem set_mk_any {j : Nat} (hj : j ≤ 200) {id : Int} {M : List Ent} {e : Int} (h : SetR (mkE j) (id, 3) e M) : (¬ (1 ≤ id ∧ id ≤ 1099511627776) → e = 1) ∧ ((1 ≤ id ∧ id ≤ 1099511627776) → (e = 5 ↔ (200 ≤ j ∧ ¬ (1 ≤ id ∧ id ≤ j)))) := by
  unfold SetR at h
  rw [(mkE_right hj).right, if_neg (by decide)] at h
  by_cases hi : 1 ≤ id ∧ id ≤ 1099511627776
  · have h2 : isE (id, 3) = true := by simp only [isE, Bool.and_eq_true, decide_eq_true_eq]; omega
    rw [h2, if_neg (by decide)] at h
    refine ⟨fun h => absurd hi h, fun _ => ?_⟩
    simp only at h
    by_cases hin : 1 ≤ id ∧ id ≤ j
    · have := clr_mk_in hin
      rw [if_neg (by omega)] at h
      obtain ⟨rfl, _⟩ := h
      omega
    · rw [clr_mk hin, mkE_len] at h
      by_cases h3 : 200 ≤ j
      · rw [if_pos h3] at h
        obtain ⟨rfl, _⟩ := h
        exact ⟨fun _ => ⟨h3, hin⟩, fun _ => rfl⟩
      · rw [if_neg h3] at h
        obtain ⟨rfl, _⟩ := h
        omega
  · have h2 : isE (id, 3) = false := by
      cases hb : isE (id, 3) with
      | false => rfl
      | true => simp only [isE, Bool.and_eq_true, decide_eq_true_eq] at hb; exact absurd ⟨hb.1.1.1, hb.1.1.2⟩ hi
    rw [h2, if_pos rfl] at h
    exact ⟨fun _ => h.1, fun h => absurd h hi⟩
set_option maxHeartbeats 4000000 in
theorem many_tail {m mm : Mem} {a : Option Addr} {c j : Nat} {id : Int} {th : Bool} (hm : Sub m mm) (hv : El mm (.slice a j c) (mkE j)) (hj : j ≤ 200) (hth : th = (decide (1 ≤ id) && decide (id ≤ j))) :
    xwpY c3 (restAt 13 (bodyOf Try.f3)) (QRetY tt.get Try.f3.results.toList fun r m' => r = [boolV true] ∧ Sub m m')
      [(1, .c (i64 id)), (5, .c (.v (.slice a j c))), (9, .c (boolV th))] [] mm [] := by
  have hml := mkE_len j
  conv => whnf
  refine .at ?_
  conv => whnf
  refine xcall (set_el hv.ea (by omega)) ?_
  rintro _ m1 ⟨v1, e1, M, rfl, hs1, hv1, g1⟩
  conv => whnf
  obtain ⟨g2, g3⟩ := set_mk_any hj g1
  have hm1 := hm.trans hs1
  clear g1
  refine ⟨fun h => ?_, fun h => ?_⟩
  · have h' := of_decide_eq_true h
    have he : e1 = 1 := g2 (by omega)
    subst he
    conv => whnf
    refine xcall (alive24_spec) ?_
    rintro _ m2 ⟨rfl, hs2⟩
    conv => whnf
    refine ⟨fun _ => ?_, fun h => absurd h (by decide)⟩
    conv => whnf
    exact ⟨rfl, hm1.trans hs2⟩
  have h1 := of_decide_eq_false h
  clear h
  conv => whnf
  refine ⟨fun h => ?_, fun h => ?_⟩
  · have h' := of_decide_eq_true h
    have he : e1 = 1 := g2 (by omega)
    subst he
    conv => whnf
    refine xcall (alive24_spec) ?_
    rintro _ m2 ⟨rfl, hs2⟩
    conv => whnf
    refine ⟨fun _ => ?_, fun h => absurd h (by decide)⟩
    conv => whnf
    exact ⟨rfl, hm1.trans hs2⟩
  have h2 := of_decide_eq_false h
  clear h
  have g3 := g3 (by omega)
  conv => whnf
  refine xcall (alive24_spec) ?_
  rintro _ m2 ⟨rfl, hs2⟩
  conv => whnf
  refine ⟨fun _ => ?_, fun h => absurd h (by decide)⟩
  conv => whnf
  refine xcall (right_tspec ((hv.sub hs1).sub hs2).ea (by omega)) ?_
  rintro _ m3 ⟨rfl, hs3⟩
  conv => whnf
  rw [(mkE_right hj).right]
  refine ⟨fun _ => ?_, fun h => absurd h (by decide)⟩
  conv => whnf
  have hend : Sub m m3 := (hm1.trans hs2).trans hs3
  refine ⟨fun h => ?_, fun h => ?_⟩
  · have h3 := of_decide_eq_true h
    clear h
    conv => whnf
    refine ⟨?_, hend⟩
    have : ((e1 == 5) == !th) = true := by
      rw [beqD, hth]
      by_cases hin : id ≤ j
      · rw [decide_eq_false (fun e => (g3.1 e).2 ⟨by omega, hin⟩), decide_eq_true (show 1 ≤ id by omega), decide_eq_true hin]; rfl
      · rw [decide_eq_true (g3.2 ⟨by omega, fun e => hin e.2⟩), decide_eq_false hin]; simp
    rw [this]
  · have h3 := of_decide_eq_false h
    clear h
    conv => whnf
    refine ⟨?_, hend⟩
    rw [beqD, decide_eq_false (fun e => by have := (g3.1 e).1; omega)]
    rfl
set_option maxHeartbeats 4000000 in
theorem timerMany_spec {m : Mem} {n : Nat} {id : Int} (hn : n < 256) : Spec Try.prog 3 [.v (.int .u8 (n : Int)), i64 id] m fun r m' => r = [boolV true] ∧ Sub m m' := by
  have ewn : IntKind.i64.wrap (n : Int) = (n : Int) := wi (by omega) (by omega)
  refine en3 rfl (goY ?_)
  conv => whnf
  refine .mk (ι := Nat × Value) (fun i => n - i.1) (fun ⟨i, v⟩ mm => i ≤ n ∧ Sub m mm ∧ El mm v (mkE (min i 200))) (fun ⟨i, v⟩ => [(0, .c (.v (.int .u8 (n : Int)))), (1, .c (i64 id)), (5, .c (.v v)), (6, .c (i64 i))]) (fun _ => []) (0, .slice none 0 0) ⟨by omega, Sub.refl _, .inl ⟨0, rfl, rfl⟩⟩ ?_ ?_
  · conv => whnf
    repeat (refine And.intro (by first | with_reducible rfl | exact congrArg (Value.int _) (wi (by omega) (by omega)) | exact wi (by omega) (by omega) | rfl) ?_; conv => whnf)
    first | exact trivial | exact fun _ _ h => h
  rintro ⟨i, v⟩ mm ⟨hi, hs, hv⟩
  have hml := mkE_len (min i 200)
  conv => whnf
  rw [ewn]
  refine ⟨fun h => ?_, fun h => ?_⟩
  · have h' := of_decide_eq_true h
    have hlt : i < n := by omega
    clear h
    have ew1 : IntKind.i64.wrap ((i : Int) + 1) = ((i + 1 : Nat) : Int) := iadd (by omega)
    have ew2 : IntKind.i64.wrap (255 - (i : Int)) = 255 - (i : Int) := wi (by omega) (by omega)
    conv => whnf
    rw [ew1, ew2]
    refine xcall (set_el hv.ea (by omega)) ?_
    rintro _ m1 ⟨v1, e1, M, rfl, hs1, hv1, g1⟩
    conv => whnf
    refine ⟨fun h => ?_, fun h => ?_⟩
    · have hi2 : 200 ≤ i := by have := of_decide_eq_true h; omega
      clear h
      rw [Nat.min_eq_right hi2] at g1 hv
      obtain ⟨rfl, rfl⟩ := set_mk_full hi2 (by omega) g1
      conv => whnf
      refine ⟨fun h => absurd h (by decide), fun _ => ?_⟩
      conv => whnf
      refine ⟨(i + 1, v), ⟨by omega, hs.trans hs1, by rw [Nat.min_eq_right (by omega)]; exact hv.sub hs1⟩, by simp only; omega, ?_⟩
      conv => whnf
      repeat (refine And.intro (by first | with_reducible rfl | (first | exact congrArg (Value.int _) (iadd (by omega))) | exact congrArg (Value.int _) (wi (by omega) (by omega)) | exact wi (by omega) (by omega) | rfl) ?_; conv => whnf)
      first | exact trivial | exact fun _ _ h => h
    · have hi2 : i < 200 := by have := of_decide_eq_false h; omega
      clear h
      rw [Nat.min_eq_left (by omega)] at g1 hv
      obtain ⟨rfl, rfl⟩ := set_mk hi2 g1
      obtain ⟨a1, c1, rfl⟩ := hv1.shape
      have hl1 := mkE_len (i + 1)
      rw [hl1] at hv1 ⊢
      conv => whnf
      refine ⟨fun h => absurd h (by decide), fun _ => ?_⟩
      conv => whnf
      rw [ew1]
      refine ⟨fun h => absurd h (by simp at h), fun _ => ?_⟩
      conv => whnf
      refine ⟨(i + 1, _), ⟨by omega, hs.trans hs1, by rw [Nat.min_eq_left (by omega)]; exact hv1⟩, by simp only; omega, ?_⟩
      conv => whnf
      repeat (refine And.intro (by first | with_reducible rfl | (first | exact congrArg (Value.int _) (iadd (by omega))) | exact congrArg (Value.int _) (wi (by omega) (by omega)) | exact wi (by omega) (by omega) | rfl) ?_; conv => whnf)
      first | exact trivial | exact fun _ _ h => h
  · have h' := of_decide_eq_false h
    obtain rfl : i = n := by omega
    clear h
    generalize hj : min i 200 = j at hv hml
    have hj2 : j ≤ 200 := by omega
    obtain ⟨a, c, rfl⟩ := hv.shape
    rw [hml] at hv ⊢
    have tl := fun th e => many_tail (m := m) (j := j) (id := id) (th := th) hs hv hj2 e
    conv => whnf
    refine ⟨fun h => ?_, fun h => ?_⟩
    · have tl := tl (decide (id ≤ j)) (by rw [h, Bool.true_and])
      conv at tl => whnf
      conv => whnf
      refine .via _ _ ?_ tl
      conv => whnf
      repeat (refine And.intro (by first | with_reducible rfl | exact congrArg (Value.int _) (wi (by omega) (by omega)) | exact wi (by omega) (by omega) | rfl) ?_; conv => whnf)
      first | exact trivial | exact fun _ _ h => h
    · have tl := tl false (by rw [h, Bool.false_and])
      conv at tl => whnf
      conv => whnf
      refine .via _ _ ?_ tl
      conv => whnf
      repeat (refine And.intro (by first | with_reducible rfl | exact congrArg (Value.int _) (wi (by omega) (by omega)) | exact wi (by omega) (by omega) | rfl) ?_; conv => whnf)
      first | exact trivial | exact fun _ _ h => h
end Go.E.Ytidnbefbbdbpfaa

/-
  Timers that are taken when they are due, plainly.
-/
namespace Go.E.Ytidnbefbbdbpfaa
open Go.Proofs
set_option maxRecDepth 100000
theorem eAt_srt {R : List Ent} (h : R.Pairwise ltE) {i j : Nat} (hij : i < j) (hj : j < R.length) : ltE (eAt R i) (eAt R j) := by
  rw [← eAt_eq hj, ← eAt_eq (show i < R.length by omega)]
  exact List.pairwise_iff_getElem.1 h i j (by omega) hj hij
theorem min_first {R : List Ent} (h : R.Pairwise ltE) : ∀ {i : Nat}, i < R.length → minF R i = eAt R 0
  | 0, _ => rfl
  | i + 1, hi => by
    rw [minF, min_first h (i := i) (by omega), if_neg]
    rw [ord_lt]
    have := eAt_srt h (i := 0) (j := i + 1) (by omega) hi
    unfold ltE at *; omega
theorem first_srt {R : List Ent} (h : R.Pairwise ltE) (h0 : 0 < R.length) : firstE R = (eAt R 0).2 := by
  rw [firstE, if_neg (by omega), min_first h (by omega)]
theorem cut_srt {t : Int} : ∀ {R : List Ent}, R.Pairwise ltE → ∃ k, k ≤ R.length ∧ R.filter (fun e => decide (e.2 ≤ t)) = R.take k ∧ R.filter (fun e => decide (t < e.2)) = R.drop k ∧ (∀ j, j < k → (eAt R j).2 ≤ t) ∧ (0 < R.length → (eAt R 0).2 ≤ t → 0 < k)
  | [], _ => ⟨0, by simp, by simp, by simp, by omega, by simp⟩
  | e :: R, h => by
    obtain ⟨h1, h2⟩ := List.pairwise_cons.1 h
    by_cases he : e.2 ≤ t
    · obtain ⟨k, k1, k2, k3, k4, _⟩ := cut_srt (t := t) h2
      have hn : ¬ t < e.2 := by omega
      refine ⟨k + 1, by simp; omega, ?_, ?_, fun j hj => ?_, fun _ _ => by omega⟩
      · rw [List.filter_cons, if_pos (decide_eq_true he), List.take_succ_cons, k2]
      · rw [List.filter_cons, if_neg (by simpa using hn), List.drop_succ_cons, k3]
      · cases j with
        | zero => exact he
        | succ j => exact k4 j (by omega)
    · refine ⟨0, by omega, ?_, ?_, by omega, fun _ h => absurd h he⟩
      · rw [List.take_zero, List.filter_eq_nil_iff]
        intro x hx
        rcases List.mem_cons.1 hx with rfl | hx
        · simpa using he
        · have := h1 x hx
          unfold ltE at this
          simp; omega
      · rw [List.drop_zero, List.filter_eq_self]
        intro x hx
        rcases List.mem_cons.1 hx with rfl | hx
        · simp; omega
        · have := h1 x hx
          unfold ltE at this
          simp; omega
theorem drain {R : List Ent} (h : RightP R) (h0 : 0 < R.length) : ∃ k, 0 < k ∧ k ≤ R.length ∧ dueI R (firstE R) = (R.take k).map (·.1) ∧ dueR R (firstE R) = R.drop k ∧ ∀ j, j < k → (eAt R j).2 = firstE R := by
  have hf := first_srt h.srt h0
  obtain ⟨k, k1, k2, k3, k4, k5⟩ := cut_srt (t := firstE R) h.srt
  refine ⟨k, k5 h0 (by rw [hf]; omega), k1, by rw [dueI, k2], k3, fun j hj => ?_⟩
  have h1 := k4 j hj
  by_cases e : j = 0
  · subst e; exact hf.symm
  · have := eAt_srt h.srt (i := 0) (j := j) (by omega) (by omega)
    unfold ltE at this; omega
theorem atOf_at {R : List Ent} (h : RightP R) {j : Nat} (hj : j < R.length) : atOf R (eAt R j).1 = some (eAt R j).2 := by
  unfold atOf
  have : R.find? (fun e => decide (e.1 = (eAt R j).1)) = some (eAt R j) := by
    rw [← eAt_eq hj, List.find?_eq_some_iff_getElem]
    refine ⟨decide_eq_true rfl, j, hj, rfl, fun i hi => ?_⟩
    have := List.pairwise_iff_getElem.1 h.ids i j (by omega) hj hi
    simp [this]
  rw [this]; rfl
theorem ids_rise {R : List Ent} (h : RightP R) {j : Nat} (hj : j + 1 < R.length) (he : (eAt R j).2 = (eAt R (j + 1)).2) : (eAt R j).1 < (eAt R (j + 1)).1 := by
  have := eAt_srt h.srt (i := j) (j := j + 1) (by omega) hj
  unfold ltE at this; omega
end Go.E.Ytidnbefbbdbpfaa

/-
  Law TimerDrains.
-/
namespace Go.E.Ytidnbefbbdbpfaa
open Go.Proofs
set_option maxRecDepth 100000
theorem joinM_left {a b : Mem} : Sub a (joinM a b) := fun x o hx => by simp only [joinM, hx]
theorem joinM_right {a b : Mem} (h : Dj a b) : Sub b (joinM a b) := fun x o hx => by
  rcases h x with h | h
  · simp only [joinM, h, hx]
  · rw [hx] at h; cases h
set_option maxHeartbeats 4000000 in
theorem drains_tail {m mm p : Mem} {a3 a4 : Option Addr} {a : Option Addr} {c c3 c4 : Nat} {E : List Ent} (hm : Sub m mm) (hv : Ea m (.slice a E.length c) E) (hl : E.length ≤ 60) (hc : Io mm (.slice a4 E.length c4) (E.map (·.1))) :
    xwpY c5 (restAt 19 (bodyOf Try.f5)) (QRetY tt.get Try.f5.results.toList fun r m' => r = [boolV true] ∧ Sub m m')
      [(0, .c (.v (.slice a E.length c))), (3, .c (.v (.slice a3 0 c3))), (4, .c (.v (.slice a4 E.length c4)))] [] mm [] := by
  have hml : (E.map (·.1)).length = E.length := by simp
  conv => whnf
  refine .at ?_
  conv => whnf
  refine .mk (ι := Nat) (fun i => E.length - i) (fun i m' => i ≤ E.length ∧ m' = mm) (fun i => [(0, .c (.v (.slice a E.length c))), (3, .c (.v (.slice a3 0 c3))), (4, .c (.v (.slice a4 E.length c4))), (13, .c (i64 i))]) (fun _ => []) 0 ⟨by omega, rfl⟩ ?_ ?_
  · conv => whnf
    repeat (refine And.intro (by first | with_reducible rfl | exact congrArg (Value.int _) (wi (by omega) (by omega)) | exact wi (by omega) (by omega) | rfl) ?_; conv => whnf)
    first | exact trivial | exact fun _ _ h => h
  rintro i m' ⟨hi, rfl⟩
  conv => whnf
  refine ⟨fun h => ?_, fun h => ?_⟩
  · have h' := of_decide_eq_true h
    have hlt : i < E.length := by omega
    clear h
    obtain ⟨b, o, c', hh, hg⟩ := hv.real hlt
    injection hh with hh1 _ hh3
    subst hh1
    clear hh3 c'
    obtain ⟨b4, o4, c', hh, hg4⟩ := hc.il.real (i := i) (by omega)
    injection hh with hh1 _ hh3
    subst hh1
    clear hh3 c'
    have hg4 := hg4 i (by omega)
    rw [List.getElem_map] at hg4
    have hgi := mcell_range (j := 0) ((hg i hlt).sub hm) rfl
    generalize E[i] = x at hg4 hgi
    conv => whnf
    repeat (refine And.intro (by first | omega | (simp only [times]; omega)) ?_; conv => whnf)
    refine ⟨_, by simp only [times, Int.toNat_natCast, Nat.mul_one]; exact hg4, rfl, ?_⟩
    conv => whnf
    repeat (refine And.intro (by first | omega | (simp only [times]; omega)) ?_; conv => whnf)
    refine ⟨_, by simp only [times, Int.toNat_natCast]; exact hgi, rfl, ?_⟩
    conv => whnf
    refine ⟨fun h => absurd h (by simp at h), fun _ => ?_⟩
    conv => whnf
    refine ⟨i + 1, ⟨by omega, rfl⟩, by omega, ?_⟩
    conv => whnf
    repeat (refine And.intro (by first | with_reducible rfl | (first | exact congrArg (Value.int _) (iadd (by omega))) | exact congrArg (Value.int _) (wi (by omega) (by omega)) | exact wi (by omega) (by omega) | rfl) ?_; conv => whnf)
    first | exact trivial | exact fun _ _ h => h
  · have h' := of_decide_eq_false h
    clear h
    conv => whnf
    refine xcall (alive24_spec) ?_
    rintro _ m2 ⟨rfl, hs2⟩
    conv => whnf
    refine ⟨fun _ => ?_, fun h => absurd h (by decide)⟩
    conv => whnf
    refine ⟨fun _ => ?_, fun h => absurd h (by decide)⟩
    conv => whnf
    exact ⟨by simp, hm.trans hs2⟩
set_option maxHeartbeats 4000000 in
theorem timerDrains_spec {m : Mem} {v : Value} {E : List Ent} (hv : Ea m v E) : Spec Try.prog 5 [.v v] m fun r m' => r = [boolV true] ∧ Sub m m' := by
  obtain ⟨a, c, rfl⟩ := hv.shape
  refine en5 rfl (goY ?_)
  conv => whnf
  refine ⟨fun h => ?_, fun h => ?_⟩
  · conv => whnf
    refine xcall (alive24_spec) ?_
    rintro _ m1 ⟨rfl, hs⟩
    conv => whnf
    exact ⟨rfl, hs⟩
  have h' := of_decide_eq_false h
  have hlen : E.length ≤ 60 := by omega
  clear h h'
  conv => whnf
  refine xcall (right_tspec hv (by omega)) ?_
  rintro _ m0 ⟨rfl, hs0⟩
  conv => whnf
  cases hr : rightE E with
  | false =>
    refine ⟨fun _ => ?_, fun h => absurd h (by decide)⟩
    conv => whnf
    refine xcall (alive24_spec) ?_
    rintro _ m1 ⟨rfl, hs⟩
    conv => whnf
    exact ⟨rfl, hs0.trans hs⟩
  | true =>
    refine ⟨fun h => absurd h (by decide), fun _ => ?_⟩
    conv => whnf
    have hR := rightE_of hr
    refine .mk (ι := Nat × Nat × Value × Value) (fun i => 60 - i.1) (fun ⟨i, d, v3, v4⟩ mm => i ≤ 60 ∧ i ≤ d ∧ d ≤ E.length ∧ ∃ p q, Split mm [p, q] ∧ Sub m q ∧ Io p v4 ((E.take d).map (·.1)) ∧ Ea q v3 (E.drop d)) (fun ⟨i, d, v3, v4⟩ => [(0, .c (.v (.slice a E.length c))), (3, .c (.v v3)), (4, .c (.v v4)), (5, .c (i64 i))]) (fun _ => []) (0, 0, .slice a E.length c, .slice none 0 0)
      ⟨by omega, by omega, by omega, emp, m0, (Split.one m0).addEmp, hs0, Io.nil _, by simpa using hv.sub hs0⟩ ?_ ?_
    · conv => whnf
      repeat (refine And.intro (by first | with_reducible rfl | exact congrArg (Value.int _) (wi (by omega) (by omega)) | exact wi (by omega) (by omega) | rfl) ?_; conv => whnf)
      first | exact trivial | exact fun _ _ h => h
    rintro ⟨i, d, v3, v4⟩ mm ⟨hi, hid, hd, p, q, hs, hmq, h4, h3⟩
    obtain ⟨a3, c3, rfl⟩ := h3.shape
    obtain ⟨a4, c4, rfl⟩ := h4.il.shape
    have e3 : (E.drop d).length = E.length - d := List.length_drop ..
    have e4 : ((E.take d).map (·.1)).length = d := by rw [List.length_map, List.length_take]; omega
    rw [e3] at h3 ⊢
    rw [e4] at h4 ⊢
    have hmm : Sub m mm := hmq.trans (hs.sub (by simp))
    have fin : d = E.length → xwpY c5 (restAt 19 (bodyOf Try.f5)) (QRetY tt.get Try.f5.results.toList fun r m' => r = [boolV true] ∧ Sub m m')
      [(0, .c (.v (.slice a E.length c))), (3, .c (.v (.slice a3 0 c3))), (4, .c (.v (.slice a4 E.length c4)))] [] mm [] := fun e => by
      subst e
      rw [List.take_length] at h4
      exact drains_tail (p := p) hmm hv hlen (h4.sub (hs.sub (by simp)))
    conv => whnf
    refine ⟨fun h => ?_, fun h => ?_⟩
    rotate_left
    · have h' := of_decide_eq_false h
      obtain rfl : d = E.length := by omega
      have fin := fin rfl
      conv at fin => whnf
      conv => whnf
      refine .via _ _ ?_ fin
      conv => whnf
      rw [Nat.sub_self]
      repeat (refine And.intro (by first | with_reducible rfl | exact congrArg (Value.int _) (wi (by omega) (by omega)) | exact wi (by omega) (by omega) | rfl) ?_; conv => whnf)
      first | exact trivial | exact fun _ _ h => h
    have h' := of_decide_eq_true h
    clear h
    conv => whnf
    refine ⟨fun h => ?_, fun h => ?_⟩
    rotate_left
    · have h' := of_decide_eq_false h
      obtain rfl : d = E.length := by omega
      have fin := fin rfl
      conv at fin => whnf
      conv => whnf
      refine .via _ _ ?_ fin
      conv => whnf
      rw [Nat.sub_self]
      repeat (refine And.intro (by first | with_reducible rfl | exact congrArg (Value.int _) (wi (by omega) (by omega)) | exact wi (by omega) (by omega) | rfl) ?_; conv => whnf)
      first | exact trivial | exact fun _ _ h => h
    have h2 := of_decide_eq_true h
    clear h fin
    have hRr : RightP (E.drop d) := hR.sub (List.drop_sublist d E)
    obtain ⟨k, k1, k2, k3, k4, k5⟩ := drain hRr (by omega)
    conv => whnf
    refine xcall (first_spec (h3.sub (hs.sub (by simp))) (by omega)) ?_
    rintro _ m5 ⟨rfl, hs5⟩
    conv => whnf
    rw [e3]
    have hs := hs.grow hs5
    refine xcall (due_tspec (h3.sub (hs.sub (by simp))) (by omega)) ?_
    rintro _ m6 ⟨v6, v7, p6, p7, rfl, hs6, hv6, hv7⟩
    conv => whnf
    have hs6 : Split m6 [p6, p7, p, q] := hs6.under (a := [p6, p7]) hs
    rw [k3] at hv6
    rw [k4] at hv7
    obtain ⟨a6, c6, rfl⟩ := hv6.il.shape
    have e6 : (((E.drop d).take k).map (·.1)).length = k := by rw [List.length_map, List.length_take]; omega
    rw [e6] at hv6 ⊢
    rw [decide_eq_true (show 0 < E.length - d by omega)]
    refine ⟨fun h => absurd h (by decide), fun _ => ?_⟩
    conv => whnf
    refine ⟨fun h => absurd h (by simp at h; omega), fun _ => ?_⟩
    conv => whnf
    obtain ⟨a7, c7, rfl⟩ := hv7.el.shape
    have e7 : ((E.drop d).drop k).length = E.length - (d + k) := by rw [List.length_drop, e3]; omega
    rw [e7] at hv7 ⊢
    have hR3 : Ea m6 (.slice a3 (E.length - d) c3) (E.drop d) := h3.sub (hs6.sub (by simp))
    have hI6 : Il m6 (.slice a6 k c6) (((E.drop d).take k).map (·.1)) := hv6.il.sub (hs6.sub (by simp))
    refine .mk (ι := Nat) (fun j => k - j) (fun j m' => j ≤ k ∧ Sub m6 m') (fun j => [(0, .c (.v (.slice a E.length c))), (3, .c (.v (.slice a3 (E.length - d) c3))), (4, .c (.v (.slice a4 d c4))), (5, .c (i64 i)), (6, .c (i64 (firstE (E.drop d)))), (8, .c (.v (.slice a6 k c6))), (9, .c (.v (.slice a7 (E.length - (d + k)) c7))), (10, .c (i64 j))]) (fun _ => []) 0 ⟨by omega, Sub.refl _⟩ ?_ ?_
    · conv => whnf
      repeat (refine And.intro (by first | with_reducible rfl | exact congrArg (Value.int _) (wi (by omega) (by omega)) | exact wi (by omega) (by omega) | rfl) ?_; conv => whnf)
      first | exact trivial | exact fun _ _ h => h
    rintro j m7 ⟨hj, hs7⟩
    conv => whnf
    refine ⟨fun h => ?_, fun h => ?_⟩
    · have hlt : j < k := by have := of_decide_eq_true h; omega
      clear h
      obtain ⟨b6, o6, c', hh, hg6⟩ := (hI6.sub hs7).real (i := j) (by omega)
      rw [e6] at hh
      injection hh with hh1 _ hh3
      subst hh1
      clear hh3 c'
      have hgj : ∀ i, i < k → mcell m7 b6 (o6 + i) = some (.int .i64 (eAt (E.drop d) i).1) := fun i hi => by
        have := hg6 i (by omega)
        rw [List.getElem_map, List.getElem_take, eAt_eq (by omega)] at this
        exact this
      have hfd := atOf_at hRr (j := j) (by omega)
      have hat := k5 j hlt
      rw [hat] at hfd
      conv => whnf
      repeat (refine And.intro (by first | omega | (simp only [times]; omega)) ?_; conv => whnf)
      refine ⟨_, by simp only [times, Int.toNat_natCast, Nat.mul_one]; exact hgj j hlt, rfl, ?_⟩
      conv => whnf
      refine xcall (find_spec (hR3.sub hs7) (by omega)) ?_
      rintro _ m8 ⟨rfl, hs8⟩
      conv => whnf
      rw [hfd]
      refine ⟨fun h => absurd h (by simp), fun _ => ?_⟩
      conv => whnf
      refine ⟨fun h => absurd h (by simp at h), fun _ => ?_⟩
      conv => whnf
      refine ⟨fun h => ?_, fun h => ?_⟩
      · have hj0 : 0 < j := by have := of_decide_eq_true h; omega
        clear h
        have ew : IntKind.i64.wrap ((j : Int) - 1) = ((j - 1 : Nat) : Int) := by rw [wi (by omega) (by omega)]; omega
        have hrise := ids_rise hRr (j := j - 1) (by omega) (by rw [show j - 1 + 1 = j by omega, k5 _ (by omega), k5 _ hlt])
        rw [show j - 1 + 1 = j by omega] at hrise
        conv => whnf
        rw [ew]
        repeat (refine And.intro (by first | omega | (simp only [times]; omega)) ?_; conv => whnf)
        refine ⟨_, by simp only [times, Int.toNat_natCast, Nat.mul_one]; exact mcell_sub (hgj (j - 1) (by omega)) hs8, rfl, ?_⟩
        conv => whnf
        repeat (refine And.intro (by first | omega | (simp only [times]; omega)) ?_; conv => whnf)
        refine ⟨_, by simp only [times, Int.toNat_natCast, Nat.mul_one]; exact mcell_sub (hgj j hlt) hs8, rfl, ?_⟩
        conv => whnf
        refine ⟨fun h => absurd h (by (simp; omega)), fun _ => ?_⟩
        conv => whnf
        refine ⟨j + 1, ⟨by omega, hs7.trans hs8⟩, by omega, ?_⟩
        conv => whnf
        repeat (refine And.intro (by first | with_reducible rfl | (first | exact congrArg (Value.int _) (iadd (by omega))) | exact congrArg (Value.int _) (wi (by omega) (by omega)) | exact wi (by omega) (by omega) | rfl) ?_; conv => whnf)
        first | exact trivial | exact fun _ _ h => h
      · clear h
        conv => whnf
        refine ⟨j + 1, ⟨by omega, hs7.trans hs8⟩, by omega, ?_⟩
        conv => whnf
        repeat (refine And.intro (by first | with_reducible rfl | (first | exact congrArg (Value.int _) (iadd (by omega))) | exact congrArg (Value.int _) (wi (by omega) (by omega)) | exact wi (by omega) (by omega) | rfl) ?_; conv => whnf)
        first | exact trivial | exact fun _ _ h => h
    · have h3' := of_decide_eq_false h
      obtain rfl : j = k := by omega
      clear h
      have hs6 := hs6.grow hs7
      conv => whnf
      refine .mk _ (appendIat (i := 2) hs6 rfl h4 (hI6.sub hs7).ia (by rw [e4, e6]; omega)) ?_
      rintro _ m' ⟨v9, p9, rfl, hs9, hv9⟩
      conv => whnf
      have hs9 : Split m' [p6, p7, p9, q] := hs9
      have hst : (E.take (d + j)).map (·.1) = (E.take d).map (·.1) ++ ((E.drop d).take j).map (·.1) := by rw [List.take_add, List.map_append]
      refine ⟨(i + 1, d + j, .slice a7 (E.length - (d + j)) c7, v9), ⟨by omega, by omega, by omega, p9, joinM p7 q, ?_, ?_, by rw [hst]; exact hv9, ?_⟩, by simp only; omega, ?_⟩
      · have h1 := (hs9.erase 0).perm (l' := [p7, q, p9]) (List.Perm.cons _ (List.Perm.swap _ _ _))
        exact h1.pair.perm (List.Perm.swap _ _ _)
      · have hd1 := (hs9.erase 0).perm (l' := [p7, q, p9]) (List.Perm.cons _ (List.Perm.swap _ _ _))
        exact hmq.trans (joinM_right hd1.dj)
      · rw [← List.drop_drop]
        exact (hv7.el.sub joinM_left).ea
      · conv => whnf
        repeat (refine And.intro (by first | with_reducible rfl | (first | exact congrArg (Value.int _) (iadd (by omega))) | exact congrArg (Value.int _) (wi (by omega) (by omega)) | exact wi (by omega) (by omega) | rfl) ?_; conv => whnf)
        first | exact trivial | exact fun _ _ h => h
end Go.E.Ytidnbefbbdbpfaa

/-
  From a contract to a law's row: what arguments are that were read; that they read the same behind the call.
-/
namespace Go.E
open Go.ChangeShapes Go.WideShapes Go.RowKit

/-- a cell that was read: of the kind of z, and as such a cell may be -/
def KW : Value → Value → Prop
  | .int k _, .int k' n => k = k' ∧ (Lit.int k n).wf = true
  | .bool _, .bool _ => True
  | .string _, .string s => s.size ≤ maxLen
  | _, _ => False
def KWs : List Value → List Value → Prop
  | [], [] => True
  | z :: zs, x :: xs => KW z x ∧ KWs zs xs
  | _, _ => False
theorem KWs.length : ∀ {z x : List Value}, KWs z x → z.length = x.length
  | [], [], _ => rfl
  | _ :: _, _ :: _, h => by simp [KWs.length h.2]
  | [], _ :: _, h => h.elim
  | _ :: _, [], h => h.elim
theorem KWs.append : ∀ {z x z' x' : List Value}, KWs z x → KWs z' x' → KWs (z ++ z') (x ++ x')
  | [], [], _, _, _, h => h
  | _ :: _, _ :: _, _, _, h, h' => ⟨h.1, KWs.append h.2 h'⟩
  | [], _ :: _, _, _, h, _ => h.elim
  | _ :: _, [], _, _, h, _ => h.elim

section
variable {H : Type} {enc : TypeId × Value → H} {P : Program} {w : World} {base : Nat} {spare : Nat → Bool} {held : Bool}

theorem kws_items {D : Nat} {e : TypeId} {s : Nat} {z cs : List Value} (IH : ∀ i, goodB P D e ((z.drop (i * s)).take s) = true → KWs ((z.drop (i * s)).take s) ((cs.drop (i * s)).take s)) : ∀ (n k : Nat), (n + k) * s = z.length → cs.length = z.length →
    (∀ i, i < n + k → goodB P D e ((z.drop (i * s)).take s) = true) → KWs (z.drop (k * s)) (cs.drop (k * s))
  | 0, k, hl, hc, _ => by
    have h1 : z.drop (k * s) = [] := List.drop_eq_nil_of_le (by rw [← hl]; simp)
    have h2 : cs.drop (k * s) = [] := List.drop_eq_nil_of_le (by rw [hc, ← hl]; simp)
    rw [h1, h2]; trivial
  | n + 1, k, hl, hc, hg => by
    have ih := kws_items IH n (k + 1) (by rw [← hl]; congr 1; omega) hc (fun i hi => hg i (by omega))
    have := (IH k (hg k (by omega))).append ih
    have e1 : (k + 1) * s = k * s + s := by rw [Nat.add_mul, Nat.one_mul]
    rw [e1, ← List.drop_drop, ← List.drop_drop, List.take_append_drop, List.take_append_drop] at this
    exact this
theorem kws_fields {D : Nat} {z cs : List Value} (IH : ∀ (f : TypeId) (off : Nat), off + P.cellsOf f ≤ z.length → goodB P D f ((z.drop off).take (P.cellsOf f)) = true → (∃ fuel x, DataW.trod enc P w base spare held fuel f ((cs.drop off).take (P.cellsOf f)) = some x) → KWs ((z.drop off).take (P.cellsOf f)) ((cs.drop off).take (P.cellsOf f))) :
    ∀ (fs : List Field) (off : Nat), cs.length = z.length → goodF P (goodB P D) fs z off = true → (∀ f ∈ fs, ∃ fuel x, DataW.trod enc P w base spare held fuel f.type ((cs.drop f.offset).take (P.cellsOf f.type)) = some x) → KWs (z.drop off) (cs.drop off)
  | [], off, hc, hg, _ => by
    simp only [goodF, beq_iff_eq] at hg
    have h1 : z.drop off = [] := List.drop_eq_nil_of_le (by omega)
    have h2 : cs.drop off = [] := List.drop_eq_nil_of_le (by omega)
    rw [h1, h2]; trivial
  | f :: fs, off, hc, hg, ht => by
    simp only [goodF, Bool.and_eq_true, bne_iff_ne, ne_eq, beq_iff_eq] at hg
    obtain ⟨⟨⟨⟨_, ho⟩, hle⟩, hgf⟩, hr⟩ := hg
    have hle := of_decide_eq_true hle
    have h0 := ht f (by simp)
    rw [ho] at h0
    have := (IH f.type off hle hgf h0).append (kws_fields IH fs (off + P.cellsOf f.type) hc hr (fun f' hf => ht f' (by simp [hf])))
    rw [← List.drop_drop, ← List.drop_drop, List.take_append_drop, List.take_append_drop] at this
    exact this

theorem mapM_all {α β : Type} {f : α → Option β} : ∀ {l : List α} {r : List β}, l.mapM f = some r → ∀ x ∈ l, ∃ y, f x = some y
  | [], _, _, x, hx => by cases hx
  | a :: l, r, h, x, hx => by
    rw [List.mapM_cons] at h
    simp only [bind, Option.bind_eq_some_iff, pure, Option.some.injEq] at h
    obtain ⟨y, hy, ys, hys, _⟩ := h
    rcases List.mem_cons.1 hx with rfl | hx
    · exact ⟨y, hy⟩
    · exact mapM_all hys x hx

theorem trod_kw : ∀ (D : Nat) (t : TypeId) (z cs : List Value) (fuel : Nat) (x : DataW H × List MemPlace), goodB P D t z = true → z.length = P.cellsOf t → DataW.trod enc P w base spare held fuel t cs = some x → KWs z cs
  | 0, _, _, _, _, _, h, _, _ => by simp [goodB] at h
  | D + 1, t, z, cs, 0, x, h, hz, ht => by simp [DataW.trod] at ht
  | D + 1, t, z, cs, fuel + 1, x, h, hz, ht => by
    have IH := trod_kw D
    unfold goodB at h
    cases hu : P.underlying t with
    | none => simp [hu] at h
    | some kd =>
      rw [hu] at h
      cases kd with
      | bool =>
        simp only at h
        split at h
        · obtain ⟨b, rfl, _⟩ := DataW.trod_bool hu ht
          exact ⟨trivial, trivial⟩
        · cases h
      | int q =>
        simp only at h
        split at h
        · rename_i k' v
          have := kEq_eq h; subst this
          obtain ⟨n, rfl, _, hw⟩ := DataW.trod_int hu ht
          exact ⟨⟨rfl, hw⟩, trivial⟩
        · cases h
      | string =>
        simp only at h
        split at h
        · obtain ⟨s, rfl, _, hs⟩ := DataW.trod_string hu ht
          exact ⟨hs, trivial⟩
        · cases h
      | array n e =>
        simp only [Bool.and_eq_true, beq_iff_eq, List.all_eq_true, List.mem_range] at h
        obtain ⟨⟨hi, hlen⟩, hall⟩ := h
        obtain ⟨xs, k, hk, _, hl, hxl, hp⟩ := DataW.trod_array hu ht
        have := kws_items (P := P) (D := D) (e := e) (s := P.cellsOf e) (z := z) (cs := cs) (fun i hg => by
          by_cases hin : i < n
          · have hy := hp i hin
            rw [List.getElem?_eq_getElem (by omega)] at hy
            refine IH e _ _ k _ hg ?_ hy
            simp only [List.length_take, List.length_drop]
            have hle : i * P.cellsOf e + P.cellsOf e ≤ z.length := by
              rw [hlen, show i * P.cellsOf e + P.cellsOf e = (i + 1) * P.cellsOf e by rw [Nat.add_mul, Nat.one_mul]]
              exact Nat.mul_le_mul_right _ hin
            omega
          · have hge : z.length ≤ i * P.cellsOf e := by
              rw [hlen]; exact Nat.mul_le_mul_right _ (Nat.le_of_not_lt hin)
            rw [List.drop_eq_nil_of_le hge, List.drop_eq_nil_of_le (by omega)]
            simp [KWs]) n 0 (by simp; omega) (by omega) (fun i hi => hall i (by omega))
        simpa using this
      | struct fs =>
        simp only [Bool.and_eq_true, Bool.not_eq_true'] at h
        obtain ⟨_, hf⟩ := h
        obtain ⟨xs, k, hk, _, hl, hxl, hp⟩ := DataW.trod_struct hu ht
        have hfit : ∀ (f : TypeId) (off : Nat), off + P.cellsOf f ≤ z.length → goodB P D f ((z.drop off).take (P.cellsOf f)) = true → (∃ fuel x, DataW.trod enc P w base spare held fuel f ((cs.drop off).take (P.cellsOf f)) = some x) → KWs ((z.drop off).take (P.cellsOf f)) ((cs.drop off).take (P.cellsOf f)) := by
          intro f off hle hg ⟨fu, y, hy⟩
          exact IH f _ _ fu y hg (by simp only [List.length_take, List.length_drop]; omega) hy
        have := kws_fields hfit fs.toList 0 (by omega) hf (fun f hf' => by
          obtain ⟨i, hi, he⟩ := List.getElem_of_mem hf'
          have hy := hp i f (by rw [← Array.getElem?_toList, List.getElem?_eq_getElem hi, he])
          rw [List.getElem?_eq_getElem (by simp at hi; omega)] at hy
          exact ⟨k, _, hy⟩)
        simpa using this
      | _ => simp at h

def InLB : LB → LB → Prop
  | [], [] => True
  | .one z :: zs, .one x :: xs => KW z x ∧ InLB zs xs
  | .ints k n _ :: zs, .ints k' n' l :: xs => (k' = k ∧ n' = n ∧ l.length = n ∧ ∀ x ∈ l, (Lit.int k x).wf = true) ∧ InLB zs xs
  | _, _ => False
def plainLB : LB → Bool
  | [] => true
  | .one _ :: r => plainLB r
  | .ints _ _ _ :: r => plainLB r
  | .vals _ _ :: _ => false
theorem kws_ints {k : IntKind} : ∀ (l : List Int) (z' cs : List Value), KWs (l.map (Value.int k) ++ z') cs → ∃ (l' : List Int) (r : List Value), cs = l'.map (Value.int k) ++ r ∧ l'.length = l.length ∧ (∀ x ∈ l', (Lit.int k x).wf = true) ∧ KWs z' r
  | [], z', cs, h => ⟨[], cs, rfl, rfl, by simp, h⟩
  | a :: l, z', [], h => h.elim
  | a :: l, z', c :: cs, h => by
    obtain ⟨h1, h2⟩ := h
    obtain ⟨l', r, rfl, h3, h4, h5⟩ := kws_ints l z' cs h2
    cases c <;> simp only [KW] at h1
    obtain ⟨rfl, h1⟩ := h1
    rename_i n
    refine ⟨n :: l', r, rfl, by simp [h3], ?_, h5⟩
    intro x hx
    rcases List.mem_cons.1 hx with rfl | hx
    · exact h1
    · exact h4 x hx
theorem KW.one {z x : Value} (h : KW z x) : x.oneCell' = true := by
  cases z <;> cases x <;> simp only [KW] at h <;> rfl
theorem inLB_of : ∀ {z : LB} {cs : List Value}, plainLB z = true → LB.ok z → KWs (LB.cells z) cs → ∃ c, LB.cells c = cs ∧ LB.ok c ∧ InLB z c
  | [], [], _, _, _ => ⟨[], rfl, trivial, trivial⟩
  | [], _ :: _, _, _, h => h.elim
  | .one z :: zs, [], _, _, h => h.elim
  | .one z :: zs, x :: xs, hp, hz, h => by
    obtain ⟨h1, h2⟩ := h
    obtain ⟨c, rfl, hc, h3⟩ := inLB_of (z := zs) hp hz.2 h2
    exact ⟨.one x :: c, rfl, ⟨h1.one, hc⟩, h1, h3⟩
  | .ints k n l :: zs, cs, hp, hz, h => by
    obtain ⟨l', r, rfl, h1, h2, h3⟩ := kws_ints l (LB.cells zs) cs h
    obtain ⟨c, rfl, hc, h4⟩ := inLB_of (z := zs) hp hz.2 h3
    have hl : l.length = n := hz.1
    exact ⟨.ints k n l' :: c, rfl, ⟨(by show l'.length = n; omega), hc⟩, ⟨rfl, rfl, by omega, h2⟩, h4⟩
  | .vals _ _ :: _, _, hp, _, _ => by simp [plainLB] at hp

/-- an argument that is a struct or an array of plain cells -/
theorem open_flat {T : Tab} (hT : TabOk P T) {t : TypeId} {ti : TI} (ht : T t = some ti) (he : ti.eq = true) (hp : plainLB ti.zero = true) {r : Reach} {b0 : Nat} {v : Value} {d : DataW H} {ps : List MemPlace}
    (hval : Value.okWide P w r b0 t v) (hd : DataW.Trod enc P w base spare held t v d ps) : ∃ c, v = .agg (LB.cells c).toArray ∧ LB.ok c ∧ InLB ti.zero c := by
  have ho := hT t ti ht
  obtain ⟨ha, hg, _, hsz⟩ := ho.eqOk he
  obtain ⟨ds, hds, hk⟩ := ho.desc
  obtain ⟨j, hj, hjs, _, z, hz, hzc⟩ := ho.inf
  have hv : ∃ cs, v = .agg cs := by
    unfold Value.okWide at hval
    rw [← hk] at ha
    rw [hds] at hval
    cases ds <;> simp [TK.of, TK.agg] at ha <;> (obtain ⟨cs, h, _⟩ := hval; exact ⟨cs, h⟩)
  obtain ⟨cs, rfl⟩ := hv
  obtain ⟨fuel, hf⟩ := hd
  have hf' : DataW.trod enc P w base spare held fuel t cs.toList = some (d, ps) := hf
  have hlen : (LB.cells ti.zero).length = P.cellsOf t := by
    rw [hsz, ← hjs]; simp [Program.cellsOf, hj]
  obtain ⟨c, h1, h2, h3⟩ := inLB_of hp ho.zok (trod_kw 50 t _ _ fuel _ hg hlen hf')
  exact ⟨c, by rw [h1], h2, h3⟩

theorem trodAll_stays (hl : laidOutB P = true) {W W' : World} (hb : Below W.heap.size W W') {sp : Nat → Bool} : ∀ {ts : List TypeId} {vs : List Value} {ds : List (DataW H)} {ps : List MemPlace}, (∀ t ∈ ts, P.readableRec t = true ∧ t < P.types.size) →
    DataW.TrodAll enc P W 0 (fun _ => true) true ts vs ds ps → (∀ p ∈ ps, p.block < W.heap.size) → (∀ p ∈ ps, sp p.block = true) → DataW.TrodAll enc P W' 0 sp true ts vs ds ps
  | [], [], [], ps, _, h, _, _ => h
  | t :: ts, v :: vs, d :: ds, ps, hr, h, hlt, hs => by
    obtain ⟨p, q, h1, h2, rfl⟩ := h
    refine ⟨p, q, WideElems.Trod_stays hl (hr t (by simp)).1 (hr t (by simp)).2 h1 (fun x hx => hb.same (hlt x (by simp [hx]))) (fun x hx => hs x (by simp [hx])),
      trodAll_stays hl hb (fun t' ht' => hr t' (by simp [ht'])) h2 (fun x hx => hlt x (by simp [hx])) (fun x hx => hs x (by simp [hx])), rfl⟩
  | [], _ :: _, _, _, _, h, _, _ => h.elim
  | [], [], _ :: _, _, _, h, _, _ => h.elim
  | _ :: _, [], _, _, _, h, _, _ => h.elim
  | _ :: _, _ :: _, [], _, _, h, _, _ => h.elim

/-- THE LAW's ROW IS SHUT: it returned true, and below the heap's old size nothing has turned. -/
theorem lawPost (hl : laidOutB P = true) {f : Func} {s : ChangeSpec} {W W' : World} {args : Array Value} {ds gs : List (DataW H)} {before : List MemPlace} {tb : TypeId} (hvars : s.vars = [])
    (hfn : s.fn H (ds ++ gs) = { results := [.lit (.bool true)], args := ds }) (hres : f.resultTypes = #[tb]) (hbool : P.underlying tb = some .bool) (hread : f.params.toList.all (fun t => P.readableRec t && decide (t < P.types.size)) = true)
    (hW : DataW.Whole enc P f.params.toList s.vars false W args.toList ds gs before) (hb : Below W.heap.size W W') : s.post enc P f false true false false W args (.bool true) W' := by
  have hlt := hW.lt
  have hW' := hW
  obtain ⟨p, q, hA, hV, rfl, hfz, hnd⟩ := hW
  rw [hvars] at hV
  obtain ⟨rfl, rfl⟩ := trodVars_none hV
  have hread' : ∀ t ∈ f.params.toList, P.readableRec t = true ∧ t < P.types.size := fun t ht => by
    have := List.all_eq_true.1 hread t ht
    simpa using this
  have hA' : DataW.TrodAll enc P W' 0 (fun b => decide (b < W.heap.size)) true f.params.toList args.toList ds p :=
    trodAll_stays hl hb hread' hA (fun x hx => hlt x (by simp [hx])) (fun x hx => by simpa using hlt x (by simp [hx]))
  refine ⟨ds, [], p ++ [], [], p, [], hW', ?_, ?_, ?_, World.keptBut_mono (fun x hx => ⟨hx, .inr (.inl (by simpa using hx))⟩) (hb.frame _), fun h => by cases h⟩
  · rw [hfn, hres]
    exact trodAll_cons_mk (shut_bool hbool _) trodAll_mk0
  · rw [hfn]; exact hA'
  · rw [hfn, hvars]; rfl
end
end Go.E

/-
  What arguments that are slices of plain cells are.
-/
namespace Go.E
open Go.ChangeShapes Go.WideShapes Go.RowKit
section
variable {H : Type} {enc : TypeId × Value → H} {P : Program} {w : World} {base : Nat} {spare : Nat → Bool} {held : Bool}

theorem chunks_flat {α : Type} (l : List α) (s : Nat) : ∀ (n k : Nat), (k + n) * s ≤ l.length → ((List.range' k n).map (fun i => (l.drop (i * s)).take s)).flatten = (l.drop (k * s)).take (n * s)
  | 0, k, _ => by simp
  | n + 1, k, h => by
    have ih := chunks_flat l s n (k + 1) (by rw [show k + 1 + n = k + (n + 1) by omega]; exact h)
    simp only [List.range'_succ, List.map_cons, List.flatten_cons, ih]
    rw [show (n + 1) * s = s + n * s by rw [Nat.add_mul]; omega, show (k + 1) * s = k * s + s by rw [Nat.add_mul]; omega]
    rw [List.take_add, List.drop_drop]
/-- a slice whose elements are plain: each element's cells, as they were read -/
theorem open_slice {T : Tab} (hT : TabOk P T) {t e : TypeId} {ti ei : TI} (ht : T t = some ti) (hk : ti.k = .slice e) (he : T e = some ei) (hg : goodB P 50 e (LB.cells ei.zero) = true) (hsz : (LB.cells ei.zero).length = ei.size) (hpos : 0 < ei.size)
    (hall : ∀ z ∈ LB.cells ei.zero, ∀ x, KW z x → x.oneCell' = true) {r : Reach} {b0 : Nat} {v : Value} {d : DataW H} {ps : List MemPlace}
    (hval : Value.okWide P w r b0 t v) (hd : DataW.Trod enc P w base spare held t v d ps) :
    ∃ els : List (List Value), Lies (fun b => w.heap[b]?) ei.size v els.flatten ∧ lenV v = els.length ∧ (∀ c ∈ els, KWs (LB.cells ei.zero) c) ∧ els.length ≤ maxLen ∧ v.oneCell' = true := by
  have hsl := (hT t ti ht).slice hk
  obtain ⟨j, hj, hjs, _, z, hz, hzc⟩ := (hT e ei he).inf
  have hcell : P.cellsOf e = ei.size := by simp [Program.cellsOf, hj, hjs]
  obtain ⟨fuel, hf⟩ := hd
  have hvc : ∃ v', v = v' ∧ v.cells.toList = [v'] ∧ v.oneCell' = true := by
    unfold Value.okWide at hval
    rw [hsl] at hval
    simp only [Cell.okWide, hsl, Cell.ok] at hval
    cases v <;> simp at hval
    exact ⟨_, rfl, rfl, rfl⟩
  obtain ⟨v', rfl, hc1, hone⟩ := hvc
  have hf' : DataW.trod enc P w base spare held fuel t v.cells.toList = some (d, ps) := hf
  rw [hc1] at hf'
  rcases DataW.trod_slice hsl hf' with ⟨h0, _⟩ | ⟨a, len, cap, elems, rest, n, _, h0, _, hb, hl, hm, hlen, hel, _, _⟩
  · simp only [List.cons.injEq, and_true] at h0
    subst h0
    exact ⟨[], .inl ⟨0, rfl, rfl⟩, rfl, by simp, by simp, rfl⟩
  · simp only [List.cons.injEq, and_true] at h0
    subst h0
    have hw : w.has P r b0 a e cap := by
      unfold Value.okWide at hval
      rw [hsl] at hval
      simp only [Cell.okWide, hsl, Cell.ok] at hval
      exact hval.2.2
    obtain ⟨_, hspot, row, cells, hshape, _⟩ := hw
    obtain ⟨b, o, spot⟩ := a
    simp only at hspot
    subst hspot
    have hblk : ∃ arr t' fr, w.heap[b]? = some (.cells arr t' fr) := by
      unfold World.shape? at hshape
      simp only at hshape
      cases hx : w.heap[b]? with
      | none => simp [hx] at hshape
      | some ob => cases ob <;> simp [hx] at hshape <;> exact ⟨_, _, _, rfl⟩
    obtain ⟨arr, t', fr, harr⟩ := hblk
    rw [hcell] at hel
    have each : ∀ i, i < len → ∃ cs y, KWs (LB.cells ei.zero) cs ∧ cs = ((arr.toList.drop o).drop (i * ei.size)).take ei.size ∧ DataW.trod enc P w base spare held n e cs = some y ∧ o + i * ei.size + ei.size ≤ arr.size := by
      intro i hi
      have h1 := hel i hi
      have h2 : ∃ y, elems[i]? = some y := ⟨elems[i]'(by omega), by simp [show i < elems.length by omega]⟩
      obtain ⟨y, hy⟩ := h2
      rw [hy, Option.bind_eq_some_iff] at h1
      obtain ⟨cs, g1, g2⟩ := h1
      obtain ⟨_, g3, g4⟩ := World.cells?_some g1
      have g5 : ∀ k, k < ei.size → arr[o + i * ei.size + k]? = cs[k]? := by
        intro k hk'
        have := g4 k hk'
        rw [add_none, add_none, cell_at harr] at this
        exact this
      have hlast : o + i * ei.size + ei.size ≤ arr.size := by
        have := g5 (ei.size - 1) (by omega)
        rw [List.getElem?_eq_getElem (by omega)] at this
        have := (Array.getElem?_eq_some_iff.1 this).1
        omega
      refine ⟨cs, y, trod_kw 50 e _ _ n _ hg (by rw [hsz, hcell]) g2, ?_, g2, hlast⟩
      apply List.ext_getElem?
      intro k
      by_cases hk' : k < ei.size
      · rw [← g5 k hk', List.getElem?_take, if_pos hk', List.getElem?_drop, List.getElem?_drop, Array.getElem?_toList]
        congr 1; omega
      · rw [List.getElem?_eq_none (by omega), List.getElem?_eq_none (by simp; omega)]
    have hbound : len * ei.size ≤ (arr.toList.drop o).length ∨ len = 0 := by
      by_cases h0 : len = 0
      · exact .inr h0
      · obtain ⟨_, _, _, _, _, g⟩ := each (len - 1) (by omega)
        left
        have : len * ei.size = (len - 1) * ei.size + ei.size := by
          rw [← Nat.succ_mul]; congr 1; omega
        simp
        omega
    have hflat := chunks_flat (arr.toList.drop o) ei.size len 0 (by
      rw [Nat.zero_add]
      rcases hbound with h | h
      · exact h
      · rw [h]; simp)
    refine ⟨(List.range' 0 len).map (fun i => ((arr.toList.drop o).drop (i * ei.size)).take ei.size), .inr ⟨b, o, cap, len, arr, t', fr, rfl, harr, ?_, hl, ?_, ?_⟩, by simp [lenV], ?_, by simp; omega, rfl⟩
    · rw [hflat]
      simp only [Nat.zero_mul, List.drop_zero, List.length_take]
      rcases hbound with h | h
      · omega
      · rw [h]; simp
    · intro j' u hu
      rw [hflat] at hu
      simp only [Nat.zero_mul, List.drop_zero, List.getElem?_take] at hu
      split at hu
      · rw [List.getElem?_drop, Array.getElem?_toList] at hu; exact hu
      · simp at hu
    · intro u hu
      obtain ⟨c, hc, huc⟩ := List.mem_flatten.1 hu
      obtain ⟨i, hi, rfl⟩ := List.mem_map.1 hc
      simp at hi
      obtain ⟨cs, y, k1, k2, _⟩ := each i hi
      rw [← k2] at huc
      have : ∀ (zs cs : List Value), KWs zs cs → (∀ z ∈ zs, ∀ x, KW z x → x.oneCell' = true) → ∀ u ∈ cs, u.oneCell' = true := by
        intro zs
        induction zs with
        | nil => intro cs h _ u hu; cases cs with
          | nil => simp at hu
          | cons => exact h.elim
        | cons z zs ih => intro cs h h' u hu; cases cs with
          | nil => exact h.elim
          | cons c cs =>
            rcases List.mem_cons.1 hu with rfl | hu
            · exact h' z (by simp) _ h.1
            · exact ih cs h.2 (fun z hz => h' z (by simp [hz])) u hu
      exact this _ _ k1 hall u huc
    · intro c hc
      obtain ⟨i, hi, rfl⟩ := List.mem_map.1 hc
      simp at hi
      obtain ⟨cs, y, k1, k2, _⟩ := each i hi
      rw [← k2]; exact k1
/-- numbers -/
theorem kws_one {k : IntKind} {c : List Value} {z : Int} (h : KWs [.int k z] c) : ∃ n, c = [.int k n] ∧ (Lit.int k n).wf = true := by
  match c, h with
  | [.int k' n], h => obtain ⟨⟨rfl, h⟩, _⟩ := h; exact ⟨n, rfl, h⟩
theorem els_ints {k : IntKind} {z : Int} : ∀ {els : List (List Value)}, (∀ c ∈ els, KWs [.int k z] c) → ∃ l : List Int, els.flatten = l.map (Value.int k) ∧ l.length = els.length ∧ ∀ n ∈ l, (Lit.int k n).wf = true
  | [], _ => ⟨[], rfl, rfl, by simp⟩
  | c :: els, h => by
    obtain ⟨n, rfl, hn⟩ := kws_one (h c (by simp))
    obtain ⟨l, h1, h2, h3⟩ := els_ints (els := els) (fun c hc => h c (by simp [hc]))
    refine ⟨n :: l, by simp [h1], by simp [h2], ?_⟩
    intro x hx
    rcases List.mem_cons.1 hx with rfl | hx
    · exact hn
    · exact h3 x hx
theorem els_vecs {k : IntKind} {z : List Int} : ∀ {els : List (List Value)}, (∀ c ∈ els, KWs (z.map (Value.int k)) c) → ∃ ls : List (List Int), els = ls.map (fun l => l.map (Value.int k)) ∧ ∀ l ∈ ls, l.length = z.length ∧ ∀ n ∈ l, (Lit.int k n).wf = true
  | [], _ => ⟨[], rfl, by simp⟩
  | c :: els, h => by
    have hc := h c (by simp)
    obtain ⟨l', r, h1, h2, h3, h4⟩ := kws_ints z [] c (by simpa using hc)
    have hr : r = [] := by cases r with
      | nil => rfl
      | cons => exact h4.elim
    subst hr
    obtain ⟨ls, g1, g2⟩ := els_vecs (els := els) (fun c hc => h c (by simp [hc]))
    refine ⟨l' :: ls, by simp [h1, g1], ?_⟩
    intro x hx
    rcases List.mem_cons.1 hx with rfl | hx
    · exact ⟨h2, h3⟩
    · exact g2 x hx
end
end Go.E

/-
  What arguments are that were read, by their shapes: numbers, texts, structs, arrays, and slices of these, as deep as they go.
-/
namespace Go.E
open Go.ChangeShapes Go.WideShapes Go.RowKit

inductive Sh where
  | int (k : IntKind)
  | bool
  | str
  | slice (e : Sh)
  | unit
  | pair (a b : Sh)
  | rep (n : Nat) (e : Sh)
def Sh.size : Sh → Nat
  | .unit => 0
  | .pair a b => a.size + b.size
  | .rep n e => n * e.size
  | _ => 1
def Dat (m : Mem) : Sh → List Value → Prop
  | .int k, cs => ∃ n, cs = [.int k n] ∧ (Lit.int k n).wf = true
  | .bool, cs => ∃ b, cs = [.bool b]
  | .str, cs => ∃ s, cs = [.string s] ∧ s.size ≤ maxLen
  | .slice e, cs => ∃ (v : Value) (els : List (List Value)), cs = [v] ∧ (Lies m e.size v els.flatten ∨ (els = [] ∧ ∃ a, v = .slice (some a) 0 0)) ∧ lenV v = els.length ∧ (∀ c ∈ els, Dat m e c) ∧ els.length ≤ maxLen
  | .unit, cs => cs = []
  | .pair a b, cs => ∃ x y, cs = x ++ y ∧ Dat m a x ∧ Dat m b y
  | .rep n e, cs => ∃ els : List (List Value), cs = els.flatten ∧ els.length = n ∧ ∀ c ∈ els, Dat m e c
def intB : Option TypeDesc → IntKind → Bool
  | some (.int k), q => kEq k q
  | _, _ => false
/-- is it the type's shape? and: are these fields, from an offset on? -/
def chk (P : Program) : Sh → (TypeId → Bool) × (List Field → Nat → Bool)
  | .int k => (fun t => intB (P.underlying t) k, fun _ _ => false)
  | .bool => (fun t => match P.underlying t with | some .bool => true | _ => false, fun _ _ => false)
  | .str => (fun t => match P.underlying t with | some .string => true | _ => false, fun _ _ => false)
  | .slice e => (fun t => match P.underlying t with | some (.slice et) => (chk P e).1 et && (P.cellsOf et == e.size && Nat.blt 0 e.size) | _ => false, fun _ _ => false)
  | .unit => (fun _ => false, fun fs _ => fs.isEmpty)
  | .pair a b =>
    let F : List Field → Nat → Bool := fun fs off => match fs with
      | f :: fs => f.offset == off && ((chk P a).1 f.type && (P.cellsOf f.type == a.size && (chk P b).2 fs (off + a.size)))
      | [] => false
    (fun t => match P.underlying t with | some (.struct fs) => P.cellsOf t == a.size + b.size && F fs.toList 0 | _ => false, F)
  | .rep n e => (fun t => match P.underlying t with | some (.array k et) => Nat.beq k n && ((chk P e).1 et && (P.cellsOf et == e.size && P.cellsOf t == n * e.size)) | _ => false, fun _ _ => false)

section
variable {H : Type} {enc : TypeId × Value → H} {P : Program} {w : World} {base : Nat} {spare : Nat → Bool} {held : Bool}
theorem Dat.one {m : Mem} : ∀ {sh : Sh} {cs : List Value}, Dat m sh cs → ∀ u ∈ cs, u.oneCell' = true
  | .int k, cs, h, u, hu => by obtain ⟨n, rfl, _⟩ := h; simp at hu; subst hu; rfl
  | .bool, cs, h, u, hu => by obtain ⟨n, rfl⟩ := h; simp at hu; subst hu; rfl
  | .str, cs, h, u, hu => by obtain ⟨n, rfl, _⟩ := h; simp at hu; subst hu; rfl
  | .slice e, cs, h, u, hu => by
    obtain ⟨v, els, rfl, h1, _⟩ := h
    simp at hu; subst hu
    rcases h1 with h1 | ⟨_, a, rfl⟩
    · exact h1.one
    · rfl
  | .unit, cs, h, u, hu => by simp only [Dat] at h; subst h; cases hu
  | .pair a b, cs, h, u, hu => by
    obtain ⟨x, y, rfl, h1, h2⟩ := h
    rcases List.mem_append.1 hu with hu | hu
    · exact Dat.one h1 u hu
    · exact Dat.one h2 u hu
  | .rep n e, cs, h, u, hu => by
    obtain ⟨els, rfl, _, h1⟩ := h
    obtain ⟨c, hc, huc⟩ := List.mem_flatten.1 hu
    exact Dat.one (h1 c hc) u huc
theorem flat_len {els : List (List Value)} {s : Nat} (h : ∀ c ∈ els, c.length = s) : els.flatten.length = els.length * s := by
  induction els with
  | nil => simp
  | cons a els ih =>
    simp only [List.flatten_cons, List.length_append, List.length_cons]
    rw [ih (fun c hc => h c (by simp [hc])), h a (by simp), Nat.add_mul]; omega
theorem Dat.length {m : Mem} : ∀ {sh : Sh} {cs : List Value}, Dat m sh cs → cs.length = sh.size
  | .int k, cs, h => by obtain ⟨n, rfl, _⟩ := h; rfl
  | .bool, cs, h => by obtain ⟨n, rfl⟩ := h; rfl
  | .str, cs, h => by obtain ⟨n, rfl, _⟩ := h; rfl
  | .slice e, cs, h => by obtain ⟨v, els, rfl, _⟩ := h; rfl
  | .unit, cs, h => by simp only [Dat] at h; subst h; rfl
  | .pair a b, cs, h => by
    obtain ⟨x, y, rfl, h1, h2⟩ := h
    simp only [List.length_append, Sh.size, Dat.length h1, Dat.length h2]
  | .rep n e, cs, h => by
    obtain ⟨els, rfl, h2, h1⟩ := h
    rw [flat_len (fun c hc => Dat.length (h1 c hc)), h2]; rfl

theorem chunk_list {α : Type} (l : List α) (s n : Nat) (h : l.length = n * s) : ((List.range' 0 n).map (fun i => (l.drop (i * s)).take s)).flatten = l := by
  rw [chunks_flat l s n 0 (by rw [Nat.zero_add, h]; exact Nat.le_refl _)]
  simp [← h]
theorem cell_some {a : Addr} {v : Value} (h : w.cell? a = some v) : ∃ b o arr t fr, a = ⟨b, o, none⟩ ∧ w.heap[b]? = some (.cells arr t fr) ∧ arr[o]? = some v := by
  obtain ⟨b, o, sp⟩ := a
  unfold World.cell? at h
  simp only at h
  split at h
  · rename_i arr t fr hb
    cases sp with
    | some _ => simp at h
    | none => exact ⟨b, o, arr, t, fr, rfl, hb, by simpa using h⟩
  · cases h
theorem add_zero (a : Addr) : a.add 0 = a := by simp [Addr.add]
/-- THE OPENING -/
theorem trod_dat (hsp : ∀ b, spare b = true) : ∀ (sh : Sh), (∀ (t : TypeId) (cs : List Value) (fuel : Nat) (x : DataW H × List MemPlace), (chk P sh).1 t = true → DataW.trod enc P w base spare held fuel t cs = some x → Dat (fun b => w.heap[b]?) sh cs) ∧
    (∀ (fs : List Field) (off : Nat) (cs : List Value), (chk P sh).2 fs off = true → cs.length = off + sh.size → (∀ f ∈ fs, ∃ fuel x, DataW.trod enc P w base spare held fuel f.type ((cs.drop f.offset).take (P.cellsOf f.type)) = some x) → Dat (fun b => w.heap[b]?) sh (cs.drop off)) := by
  intro sh
  induction sh with
  | int k =>
    refine ⟨fun t cs fuel x h ht => ?_, fun fs off cs h => by simp [chk] at h⟩
    simp only [chk] at h
    cases hu : P.underlying t with
    | none => rw [hu] at h; cases h
    | some d =>
      rw [hu] at h
      cases d <;> simp only [intB] at h <;> try cases h
      rename_i q
      have := kEq_eq h; subst this
      obtain ⟨n, rfl, _, hw⟩ := DataW.trod_int hu ht
      exact ⟨n, rfl, hw⟩
  | bool =>
    refine ⟨fun t cs fuel x h ht => ?_, fun fs off cs h => by simp [chk] at h⟩
    simp only [chk] at h
    split at h
    · rename_i hu; obtain ⟨b, rfl, _⟩ := DataW.trod_bool hu ht; exact ⟨b, rfl⟩
    · cases h
  | str =>
    refine ⟨fun t cs fuel x h ht => ?_, fun fs off cs h => by simp [chk] at h⟩
    simp only [chk] at h
    split at h
    · rename_i hu; obtain ⟨s, rfl, _, hs⟩ := DataW.trod_string hu ht; exact ⟨s, rfl, hs⟩
    · cases h
  | unit =>
    refine ⟨fun t cs fuel x h ht => by simp [chk] at h, fun fs off cs h hl _ => ?_⟩
    simp only [Sh.size] at hl
    exact List.drop_eq_nil_of_le (by omega)
  | pair a b iha ihb =>
    have F : ∀ (fs : List Field) (off : Nat) (cs : List Value), (chk P (.pair a b)).2 fs off = true → cs.length = off + (Sh.pair a b).size → (∀ f ∈ fs, ∃ fuel x, DataW.trod enc P w base spare held fuel f.type ((cs.drop f.offset).take (P.cellsOf f.type)) = some x) → Dat (fun b => w.heap[b]?) (.pair a b) (cs.drop off) := by
      intro fs off cs h hl hf
      cases fs with
      | nil => simp [chk] at h
      | cons f fs =>
        simp only [chk, Bool.and_eq_true, beq_iff_eq] at h
        obtain ⟨ho, h1, h2, h3⟩ := h
        simp only [Sh.size] at hl
        obtain ⟨fu, x, hx⟩ := hf f (by simp)
        rw [ho, h2] at hx
        refine ⟨(cs.drop off).take a.size, cs.drop (off + a.size), ?_, iha.1 _ _ _ _ h1 hx, ihb.2 fs (off + a.size) cs h3 (by omega) (fun g hg => hf g (by simp [hg]))⟩
        rw [← List.drop_drop, List.take_append_drop]
    refine ⟨fun t cs fuel x h ht => ?_, F⟩
    have h' : (match P.underlying t with | some (.struct fs) => P.cellsOf t == a.size + b.size && (chk P (.pair a b)).2 fs.toList 0 | _ => false) = true := h
    split at h'
    · rename_i fs hu
      simp only [Bool.and_eq_true, beq_iff_eq] at h'
      obtain ⟨xs, k, hk, _, hl, hxl, hp⟩ := DataW.trod_struct hu ht
      have := F fs.toList 0 cs h'.2 (by simp only [Sh.size]; omega) (fun f hf => by
        obtain ⟨i, hi, he⟩ := List.getElem_of_mem hf
        have hy := hp i f (by rw [← Array.getElem?_toList, List.getElem?_eq_getElem hi, he])
        rw [List.getElem?_eq_getElem (by simp at hi; omega)] at hy
        exact ⟨k, _, hy⟩)
      simpa using this
    · cases h'
  | rep n e ih =>
    refine ⟨fun t cs fuel x h ht => ?_, fun fs off cs h => by simp [chk] at h⟩
    simp only [chk] at h
    split at h
    · rename_i k et hu
      simp only [Bool.and_eq_true, beq_iff_eq] at h
      obtain ⟨hkn, h1, h2, h3⟩ := h
      have hkn := Nat.eq_of_beq_eq_true hkn
      subst hkn
      obtain ⟨xs, fu, hfu, _, hl, hxl, hp⟩ := DataW.trod_array hu ht
      rw [h2] at hp
      refine ⟨(List.range' 0 k).map (fun i => (cs.drop (i * e.size)).take e.size), (chunk_list cs e.size k (by omega)).symm, by simp, ?_⟩
      intro c hc
      obtain ⟨i, hi, rfl⟩ := List.mem_map.1 hc
      simp at hi
      have hy := hp i hi
      rw [List.getElem?_eq_getElem (by omega)] at hy
      exact ih.1 _ _ _ _ h1 hy
    · cases h
  | slice e ih =>
    refine ⟨fun t cs fuel x h ht => ?_, fun fs off cs h => by simp [chk] at h⟩
    simp only [chk] at h
    split at h
    · rename_i et hu
      simp only [Bool.and_eq_true, beq_iff_eq] at h
      obtain ⟨h1, h2, h3⟩ := h
      have hpos : 0 < e.size := by rw [Nat.blt_eq] at h3; exact h3
      rcases DataW.trod_slice hu ht with ⟨rfl, _⟩ | ⟨a, len, cap, elems, rest, n, _, rfl, _, hb, hl, hm, hlen, hel, hrest, _⟩
      · exact ⟨_, [], rfl, .inl (.inl ⟨0, rfl, rfl⟩), rfl, by simp, by simp⟩
      · rw [h2] at hel hrest
        have first : ∀ i, (∃ cs y, (w.cells? base (a.add (i * e.size)) e.size).bind (DataW.trod enc P w base spare held n et) = some y ∧ cs = y) → ∃ cs y, w.cells? base (a.add (i * e.size)) e.size = some cs ∧ DataW.trod enc P w base spare held n et cs = some y := by
          rintro i ⟨_, y, hy, _⟩
          rw [Option.bind_eq_some_iff] at hy
          obtain ⟨cs, g1, g2⟩ := hy
          exact ⟨cs, y, g1, g2⟩
        have hel' : ∀ i, i < len → ∃ cs y, w.cells? base (a.add (i * e.size)) e.size = some cs ∧ DataW.trod enc P w base spare held n et cs = some y := by
          intro i hi
          have := hel i hi
          rw [List.getElem?_eq_getElem (by omega)] at this
          exact first i ⟨_, _, this, rfl⟩
        have hblk : cap = 0 ∨ ∃ b o arr t fr, a = ⟨b, o, none⟩ ∧ w.heap[b]? = some (.cells arr t fr) := by
          by_cases hc : cap = 0
          · exact .inl hc
          · right
            have : ∃ cs y, w.cells? base (a.add (0 * e.size)) e.size = some cs ∧ DataW.trod enc P w base spare held n et cs = some y := by
              by_cases hl0 : len = 0
              · obtain ⟨hr1, hr2⟩ := hrest (hsp _)
                have h0 := hr2 0 (by omega)
                obtain ⟨z, hz⟩ : ∃ z, rest[0]? = some z := ⟨_, List.getElem?_eq_getElem (by omega)⟩
                rw [hz, hl0] at h0
                exact first 0 ⟨_, _, h0, rfl⟩
              · exact hel' 0 (by omega)
            obtain ⟨cs, y, g1, _⟩ := this
            obtain ⟨_, g3, g4⟩ := World.cells?_some g1
            have := g4 0 hpos
            rw [Nat.zero_mul, add_zero, add_zero, List.getElem?_eq_getElem (by omega)] at this
            obtain ⟨b, o, arr, t, fr, e1, e2, _⟩ := cell_some this
            exact ⟨b, o, arr, t, fr, e1, e2⟩
        rcases hblk with rfl | ⟨b, o, arr, t', fr, rfl, harr⟩
        · obtain rfl : len = 0 := by omega
          exact ⟨_, [], rfl, .inr ⟨rfl, a, rfl⟩, rfl, by simp, by simp⟩
        · have each : ∀ i, i < len → ∃ cs y, cs = ((arr.toList.drop o).drop (i * e.size)).take e.size ∧ DataW.trod enc P w base spare held n et cs = some y ∧ o + i * e.size + e.size ≤ arr.size := by
            intro i hi
            obtain ⟨cs, y, g1, g2⟩ := hel' i hi
            obtain ⟨_, g3, g4⟩ := World.cells?_some g1
            have g5 : ∀ k, k < e.size → arr[o + i * e.size + k]? = cs[k]? := by
              intro k hk'
              have := g4 k hk'
              rw [add_none, add_none, cell_at harr] at this
              exact this
            have hlast : o + i * e.size + e.size ≤ arr.size := by
              have := g5 (e.size - 1) (by omega)
              rw [List.getElem?_eq_getElem (by omega)] at this
              have := (Array.getElem?_eq_some_iff.1 this).1
              omega
            refine ⟨cs, y, ?_, g2, hlast⟩
            apply List.ext_getElem?
            intro k
            by_cases hk' : k < e.size
            · rw [← g5 k hk', List.getElem?_take, if_pos hk', List.getElem?_drop, List.getElem?_drop, Array.getElem?_toList]
              congr 1; omega
            · rw [List.getElem?_eq_none (by omega), List.getElem?_eq_none (by simp; omega)]
          have hbound : len * e.size ≤ (arr.toList.drop o).length ∨ len = 0 := by
            by_cases h0 : len = 0
            · exact .inr h0
            · obtain ⟨_, _, _, _, g⟩ := each (len - 1) (by omega)
              left
              have : len * e.size = (len - 1) * e.size + e.size := by
                rw [← Nat.succ_mul]; congr 1; omega
              simp
              omega
          have hflat := chunks_flat (arr.toList.drop o) e.size len 0 (by
            rw [Nat.zero_add]
            rcases hbound with h | h
            · exact h
            · rw [h]; simp)
          have hdat : ∀ c ∈ (List.range' 0 len).map (fun i => ((arr.toList.drop o).drop (i * e.size)).take e.size), Dat (fun b => w.heap[b]?) e c := by
            intro c hc
            obtain ⟨i, hi, rfl⟩ := List.mem_map.1 hc
            simp at hi
            obtain ⟨cs, y, k1, k2, _⟩ := each i hi
            rw [← k1]
            exact ih.1 _ _ _ _ h1 k2
          refine ⟨_, (List.range' 0 len).map (fun i => ((arr.toList.drop o).drop (i * e.size)).take e.size), rfl, .inl (.inr ⟨b, o, cap, len, arr, t', fr, rfl, harr, ?_, hl, ?_, ?_⟩), by simp [lenV], hdat, by simp; omega⟩
          · rw [flat_len (fun c hc => (hdat c hc).length)]; simp
          · intro j' u hu
            rw [hflat] at hu
            simp only [Nat.zero_mul, List.drop_zero, List.getElem?_take] at hu
            split at hu
            · rw [List.getElem?_drop, Array.getElem?_toList] at hu; exact hu
            · simp at hu
          · intro u hu
            obtain ⟨c, hc, huc⟩ := List.mem_flatten.1 hu
            exact (hdat c hc).one u huc
    · cases h
theorem flat_at : ∀ {els : List (List Value)} {s i j : Nat} {c : List Value} {u : Value}, (∀ c ∈ els, c.length = s) → els[i]? = some c → c[j]? = some u → els.flatten[i * s + j]? = some u
  | [], _, _, _, _, _, _, hi, _ => by simp at hi
  | a :: els, s, 0, j, c, u, hl, hi, hj => by
    simp at hi; subst hi
    have := (List.getElem?_eq_some_iff.1 hj).1
    rw [Nat.zero_mul, Nat.zero_add, List.flatten_cons, List.getElem?_append_left this]; exact hj
  | a :: els, s, i + 1, j, c, u, hl, hi, hj => by
    have ha := hl a (by simp)
    have ih := flat_at (els := els) (s := s) (fun c hc => hl c (by simp [hc])) (by simpa using hi) hj
    rw [List.flatten_cons, List.getElem?_append_right (by rw [ha, Nat.add_mul]; omega), ha, show (i + 1) * s + j - s = i * s + j by rw [Nat.add_mul]; omega]
    exact ih
/-- an element of a slice of equal parts -/
theorem Lies.elem {m : Mem} {s : Nat} {v : Value} {els : List (List Value)} (h : Lies m s v els.flatten) (hl : ∀ c ∈ els, c.length = s) (hp : 0 < s) (hv : lenV v = els.length) {i : Nat} (hi : i < els.length) :
    ∃ b o c, v = .slice (some ⟨b, o, none⟩) els.length c ∧ ∀ i c, els[i]? = some c → MRange m b (o + i * s) c := by
  rcases h with ⟨c, rfl, h⟩ | ⟨b, o, c, n, arr, t, fr, rfl, h1, h2, h3, h4, h5⟩
  · simp [lenV] at hv; omega
  · simp only [lenV] at hv; subst hv
    refine ⟨b, o, c, rfl, fun i c hc => ⟨arr, t, fr, h1, fun j u hu => ?_⟩⟩
    have := h4 _ u (flat_at hl hc hu)
    rw [show o + i * s + j = o + (i * s + j) by omega]; exact this
theorem dat_ints {m : Mem} {k : IntKind} {n : Nat} {cs : List Value} (h : Dat m (.rep n (.int k)) cs) : ∃ l : List Int, cs = l.map (Value.int k) ∧ l.length = n ∧ ∀ x ∈ l, (Lit.int k x).wf = true := by
  obtain ⟨els, rfl, rfl, h⟩ := h
  have := @els_ints k 0 els (fun c hc => by obtain ⟨n, rfl, hw⟩ := h c hc; exact ⟨⟨rfl, hw⟩, trivial⟩)
  obtain ⟨l, h1, h2, h3⟩ := this
  exact ⟨l, h1, h2, h3⟩
/-- a slice of numbers -/
theorem dat_sints {m : Mem} {k : IntKind} {cs : List Value} (h : Dat m (.slice (.int k)) cs) : ∃ (v : Value) (l : List Int), cs = [v] ∧ (Lies m 1 v (l.map (Value.int k)) ∨ (l = [] ∧ ∃ a, v = .slice (some a) 0 0)) ∧ lenV v = l.length ∧ (∀ x ∈ l, (Lit.int k x).wf = true) ∧ l.length ≤ maxLen := by
  obtain ⟨v, els, rfl, h1, h2, h3, h4⟩ := h
  obtain ⟨l, g1, g2, g3⟩ := @els_ints k 0 els (fun c hc => by obtain ⟨n, rfl, hw⟩ := h3 c hc; exact ⟨⟨rfl, hw⟩, trivial⟩)
  refine ⟨v, l, rfl, ?_, by omega, g3, by omega⟩
  rcases h1 with h1 | ⟨rfl, a, rfl⟩
  · rw [g1] at h1; exact .inl h1
  · exact .inr ⟨by apply List.eq_nil_of_length_eq_zero; simpa using g2, a, rfl⟩
theorem open_dat (hsp : ∀ b, spare b = true) {sh : Sh} {t : TypeId} {v : Value} {d : DataW H} {ps : List MemPlace} (hc : (chk P sh).1 t = true) (hd : DataW.Trod enc P w base spare held t v d ps) : Dat (fun b => w.heap[b]?) sh v.cells.toList := by
  obtain ⟨fuel, hf⟩ := hd
  exact (trod_dat hsp sh).1 _ _ _ _ hc hf
theorem val_slice {r : Reach} {b0 : Nat} {t e : TypeId} {v : Value} (hu : P.underlying t = some (.slice e)) (h : Value.okWide P w r b0 t v) : v.cells.toList = [v] ∧ v.oneCell' = true := by
  unfold Value.okWide at h
  rw [hu] at h
  simp only [Cell.okWide, hu, Cell.ok] at h
  cases v <;> simp at h
  exact ⟨rfl, rfl⟩
theorem val_string {r : Reach} {b0 : Nat} {t : TypeId} {v : Value} (hu : P.underlying t = some .string) (h : Value.okWide P w r b0 t v) : v.cells.toList = [v] ∧ v.oneCell' = true := by
  unfold Value.okWide at h
  rw [hu] at h
  simp only [Cell.okWide, hu, Cell.ok] at h
  cases v <;> simp at h
  exact ⟨rfl, rfl⟩
theorem val_int {k : IntKind} {r : Reach} {b0 : Nat} {t : TypeId} {v : Value} (hu : P.underlying t = some (.int k)) (h : Value.okWide P w r b0 t v) : v.cells.toList = [v] ∧ v.oneCell' = true := by
  unfold Value.okWide at h
  rw [hu] at h
  simp only [Cell.okWide, hu, Cell.ok] at h
  cases v <;> simp at h
  exact ⟨rfl, rfl⟩
theorem wf_i64 {n : Int} (h : (Lit.int .i64 n).wf = true) : -9223372036854775808 ≤ n ∧ n ≤ 9223372036854775807 := by
  simpa [Lit.wf, IntKind.min, IntKind.max, IntKind.signed, IntKind.bits] using h
theorem wf_u64 {n : Int} (h : (Lit.int .u64 n).wf = true) : 0 ≤ n ∧ n < 18446744073709551616 := by
  have : 0 ≤ n ∧ n ≤ 18446744073709551615 := by simpa [Lit.wf, IntKind.min, IntKind.max, IntKind.signed, IntKind.bits] using h
  omega
theorem wf_u8 {n : Int} (h : (Lit.int .u8 n).wf = true) : 0 ≤ n ∧ n < 256 := by
  have : 0 ≤ n ∧ n ≤ 255 := by simpa [Lit.wf, IntKind.min, IntKind.max, IntKind.signed, IntKind.bits] using h
  omega
theorem wf_u32 {n : Int} (h : (Lit.int .u32 n).wf = true) : 0 ≤ n ∧ n < 4294967296 := by
  have : 0 ≤ n ∧ n ≤ 4294967295 := by simpa [Lit.wf, IntKind.min, IntKind.max, IntKind.signed, IntKind.bits] using h
  omega
end
end Go.E

/-
  Lists of entries that came in.
-/
namespace Go.E.Ytidnbefbbdbpfaa
open Go.Proofs
set_option maxRecDepth 100000
theorem dat_ent {m : Mem} {cs : List Value} (h : Dat m (.pair (.int .i64) (.pair (.int .i64) .unit)) cs) : ∃ e : Ent, cs = eC e := by
  obtain ⟨x, y, rfl, ⟨n, rfl, _⟩, u, w, rfl, ⟨k, rfl, _⟩, h3⟩ := h
  simp only [Dat] at h3
  subst h3
  exact ⟨(n, k), rfl⟩
theorem dat_ent_rows {m : Mem} : ∀ {els : List (List Value)}, (∀ c ∈ els, Dat m (.pair (.int .i64) (.pair (.int .i64) .unit)) c) → ∃ E : List Ent, els.flatten = E.flatMap eC ∧ E.length = els.length
  | [], _ => ⟨[], rfl, rfl⟩
  | c :: els, h => by
    obtain ⟨e, rfl⟩ := dat_ent (h c (by simp))
    obtain ⟨E, h1, h2⟩ := dat_ent_rows (els := els) fun c hc => h c (by simp [hc])
    exact ⟨e :: E, by rw [List.flatten_cons, List.flatMap_cons, h1], by simp [h2]⟩
theorem dat_ents {m : Mem} {cs : List Value} (h : Dat m (.slice (.pair (.int .i64) (.pair (.int .i64) .unit))) cs) : ∃ v E, cs = [v] ∧ Ea m v E := by
  obtain ⟨v, els, rfl, h1, h2, h3, h4⟩ := h
  obtain ⟨E, e1, e2⟩ := dat_ent_rows h3
  refine ⟨v, E, rfl, ?_⟩
  rcases h1 with h1 | ⟨rfl, a, rfl⟩
  · rw [e1] at h1; exact .inl h1
  · exact .inr ⟨List.eq_nil_of_length_eq_zero (by simpa using e2), a, rfl⟩
end Go.E.Ytidnbefbbdbpfaa

/-
  Laws TimerMany and TimerDrains, and what came in.
-/
