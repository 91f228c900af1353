/-
  Memory in parts: what is known, cut into parts that have no block in common; a call that knows one part leaves the others alone.
-/
import Derived.Test.YtkapdbbjgpofnaaE17
import Derived.Test.YtkapdbbjgpofnaaE19
namespace Go.E

def joinM (a b : Mem) : Mem := fun x => match a x with
  | some o => some o
  | none => b x
def emp : Mem := fun _ => none
def allM : List Mem → Mem
  | [] => emp
  | a :: r => joinM a (allM r)
/-- no block in common -/
def Dj (a b : Mem) : Prop := ∀ x, a x = none ∨ b x = none
theorem Dj.symm {a b : Mem} (h : Dj a b) : Dj b a := fun x => (h x).symm
/-- m holds these parts, no block of which is of two -/
def Split (m : Mem) (l : List Mem) : Prop := Sub (allM l) m ∧ l.Pairwise Dj

theorem allM_some : ∀ {l : List Mem} {x : Nat} {o : Obj}, allM l x = some o → ∃ a ∈ l, a x = some o
  | [], _, _, h => by cases h
  | a :: r, x, o, h => by
    simp only [allM, joinM] at h
    split at h
    · rename_i u hu; cases h; exact ⟨a, by simp, hu⟩
    · obtain ⟨b, hb, hx⟩ := allM_some h
      exact ⟨b, by simp [hb], hx⟩
theorem allM_of : ∀ {l : List Mem}, l.Pairwise Dj → ∀ {a : Mem}, a ∈ l → ∀ {x : Nat} {o : Obj}, a x = some o → allM l x = some o
  | [], _, a, ha, _, _, _ => by cases ha
  | b :: r, hp, a, ha, x, o, hx => by
    rw [List.pairwise_cons] at hp
    simp only [allM, joinM]
    rcases List.mem_cons.1 ha with rfl | ha
    · rw [hx]
    · have : b x = none := by
        rcases hp.1 a ha x with h | h
        · exact h
        · rw [hx] at h; cases h
      rw [this]
      exact allM_of hp.2 ha hx
theorem allM_none : ∀ {l : List Mem} {x : Nat}, allM l x = none ↔ ∀ a ∈ l, a x = none
  | [], x => by simp [allM, emp]
  | a :: r, x => by
    simp only [allM, joinM, List.mem_cons, forall_eq_or_imp]
    cases h : a x with
    | none => simp [allM_none (l := r)]
    | some o => simp
theorem allM_perm {l l' : List Mem} (hp : l.Pairwise Dj) (h : l.Perm l') : allM l = allM l' := by
  have hp' : l'.Pairwise Dj := h.pairwise hp (fun h => h.symm)
  funext x
  cases hx : allM l x with
  | none =>
    symm
    rw [allM_none] at hx ⊢
    exact fun a ha => hx a (h.mem_iff.2 ha)
  | some o =>
    obtain ⟨a, ha, hax⟩ := allM_some hx
    exact (allM_of hp' (h.mem_iff.1 ha) hax).symm
theorem Split.perm {m : Mem} {l l' : List Mem} (h : Split m l) (hp : l.Perm l') : Split m l' :=
  ⟨by rw [← allM_perm h.2 hp]; exact h.1, hp.pairwise h.2 (fun h => h.symm)⟩
theorem Split.one (m : Mem) : Split m [m] := ⟨fun x o h => by obtain ⟨a, ha, hx⟩ := allM_some h; rw [List.mem_singleton.1 ha] at hx; exact hx, by simp⟩
theorem Split.sub {m : Mem} {l : List Mem} (h : Split m l) {a : Mem} (ha : a ∈ l) : Sub a m := fun _ _ hx => h.1 _ _ (allM_of h.2 ha hx)
theorem Split.get {m : Mem} {l : List Mem} (h : Split m l) {a : Mem} (ha : a ∈ l) {x : Nat} {o : Obj} (hx : a x = some o) : m x = some o := h.sub ha _ _ hx
theorem Split.none {m : Mem} {l : List Mem} (h : Split m l) {x : Nat} (hx : m x = .none) : ∀ a ∈ l, a x = .none := fun a ha => by
  cases hax : a x with
  | none => rfl
  | some o => have := h.get ha hax; rw [hx] at this; cases this
theorem Split.drop {m a : Mem} {l : List Mem} (h : Split m (a :: l)) : Split m l := by
  have hp := List.pairwise_cons.1 h.2
  refine ⟨fun x o hx => ?_, hp.2⟩
  obtain ⟨b, hb, hbx⟩ := allM_some hx
  exact h.get (by simp [hb]) hbx
/-- a part that is nothing -/
theorem Split.addEmp {m : Mem} {l : List Mem} (h : Split m l) : Split m (emp :: l) := ⟨h.1, by rw [List.pairwise_cons]; exact ⟨fun _ _ _ => .inl rfl, h.2⟩⟩
/-- two parts, taken as one; one, taken as two -/
theorem joinM_emp (a : Mem) : joinM a emp = a := by funext x; simp only [joinM, emp]; cases a x <;> rfl
theorem joinM_assoc (a b c : Mem) : joinM (joinM a b) c = joinM a (joinM b c) := by funext x; simp only [joinM]; cases a x <;> simp
theorem joinM_none {a b : Mem} {x : Nat} : joinM a b x = none ↔ a x = none ∧ b x = none := by simp only [joinM]; cases a x <;> simp
theorem Split.pair {m a b : Mem} {l : List Mem} (h : Split m (a :: b :: l)) : Split m (joinM a b :: l) := by
  obtain ⟨h1, h2⟩ := h
  simp only [List.pairwise_cons, List.mem_cons, forall_eq_or_imp] at h2
  refine ⟨by simp only [allM] at h1 ⊢; rw [joinM_assoc]; exact h1, ?_⟩
  rw [List.pairwise_cons]
  refine ⟨fun c hc x => ?_, h2.2.2⟩
  rw [joinM_none]
  rcases h2.1.2 c hc x with h' | h'
  · rcases h2.2.1 c hc x with h'' | h''
    · exact .inl ⟨h', h''⟩
    · exact .inr h''
  · exact .inr h'
theorem Split.unpair {m a b : Mem} {l : List Mem} (h : Split m (joinM a b :: l)) (hd : Dj a b) : Split m (a :: b :: l) := by
  obtain ⟨h1, h2⟩ := h
  rw [List.pairwise_cons] at h2
  refine ⟨by simp only [allM] at h1 ⊢; rw [← joinM_assoc]; exact h1, ?_⟩
  simp only [List.pairwise_cons, List.mem_cons, forall_eq_or_imp]
  refine ⟨⟨hd, fun c hc x => ?_⟩, fun c hc x => ?_, h2.2⟩
  · rcases h2.1 c hc x with h' | h'
    · exact .inl (joinM_none.1 h').1
    · exact .inr h'
  · rcases h2.1 c hc x with h' | h'
    · exact .inl (joinM_none.1 h').2
    · exact .inr h'
theorem Split.dj {m a b : Mem} {l : List Mem} (h : Split m (a :: b :: l)) : Dj a b := by
  have := h.2; simp only [List.pairwise_cons, List.mem_cons, forall_eq_or_imp] at this; exact this.1.1

/-- THE FRAME: who knows one part leaves the others alone -/
theorem After.frame_rule {m1 m1' m : Mem} {rest : List Mem} {W W' : World} (hs : Split m (m1 :: rest)) (hW : Over m W) (h : After m1 W m1' W') : ∃ m', Split m' (m1' :: rest) ∧ After m W m' W' := by
  have hin : ∀ a ∈ rest, ∀ x o, a x = some o → m x = some o ∧ m1 x = none ∧ x < W.heap.size := by
    intro a ha x o hx
    have h1 := hs.get (List.mem_cons_of_mem _ ha) hx
    refine ⟨h1, ?_, hW.lt h1⟩
    rcases (List.pairwise_cons.1 hs.2).1 a ha x with h' | h'
    · exact h'
    · rw [hx] at h'; cases h'
  have hp : (m1' :: rest).Pairwise Dj := by
    rw [List.pairwise_cons]
    refine ⟨fun a ha x => ?_, (List.pairwise_cons.1 hs.2).2⟩
    cases hx : a x with
    | none => exact .inr rfl
    | some o =>
      obtain ⟨_, h2, h3⟩ := hin a ha x o hx
      exact .inl (h.frame x h3 h2).1
  refine ⟨allM (m1' :: rest), ⟨Sub.refl _, hp⟩, ⟨?_, h.size, h.tape, h.os, h.output, ?_⟩⟩
  · intro x o hx
    obtain ⟨a, ha, hax⟩ := allM_some hx
    rcases List.mem_cons.1 ha with rfl | ha
    · exact h.over x o hax
    · obtain ⟨h1, h2, h3⟩ := hin a ha x o hax
      rw [(h.frame x h3 h2).2]
      exact hW x o h1
  · intro x hx hm
    have hm := hs.none hm
    have h1 := hm m1 (by simp)
    obtain ⟨k1, k2⟩ := h.frame x hx h1
    refine ⟨?_, k2⟩
    rw [allM_none]
    intro a ha
    rcases List.mem_cons.1 ha with rfl | ha
    · exact k1
    · exact hm a (by simp [ha])
theorem Over.part {m m1 : Mem} {rest : List Mem} {W : World} (hs : Split m (m1 :: rest)) (hW : Over m W) : Over m1 W := hW.sub (hs.sub (by simp))
theorem Spec.frame {P : Program} {f : FuncId} {args : List CV} {m1 m : Mem} {rest : List Mem} {R : List CV → Mem → Prop} (hs : Split m (m1 :: rest)) (h : Spec P f args m1 R) :
    Spec P f args m fun r m' => ∃ m1', R r m1' ∧ Split m' (m1' :: rest) := by
  refine ⟨h.1, fun ha W hW => (h.2 ha W (hW.part hs)).mono fun e W' ⟨r, m1', h1, h2, h3, h4⟩ => ?_⟩
  obtain ⟨m', h5, h6⟩ := h4.frame_rule hs hW
  exact ⟨r, m', h1, h2, ⟨m1', h3, h5⟩, h6⟩
theorem PrimSpec.frame {P : Program} {p : Prim} {args : List CV} {m1 m : Mem} {rest : List Mem} {R : List CV → Mem → Prop} (hs : Split m (m1 :: rest)) (h : PrimSpec P p args m1 R) :
    PrimSpec P p args m fun r m' => ∃ m1', R r m1' ∧ Split m' (m1' :: rest) := by
  intro ha ty W hW
  obtain ⟨r, m1', W', h1, h2, h3, h4⟩ := h ha ty W (hW.part hs)
  obtain ⟨m', h5, h6⟩ := h4.frame_rule hs hW
  exact ⟨r, m', W', h1, h2, ⟨m1', h3, h5⟩, h6⟩

/-! ### one block -/
def blk1 (b : Nat) (o : Obj) : Mem := fun x => if x = b then some o else none
theorem blk1_same (b : Nat) (o : Obj) : blk1 b o b = some o := by simp [blk1]
theorem blk1_some {b x : Nat} {o u : Obj} (h : blk1 b o x = some u) : x = b ∧ o = u := by
  unfold blk1 at h; split at h
  · cases h; exact ⟨by assumption, rfl⟩
  · cases h
theorem blk1_none {b x : Nat} {o : Obj} : blk1 b o x = none ↔ x ≠ b := by unfold blk1; split <;> simp_all
theorem joinM_blk1 {m : Mem} {b : Nat} {o : Obj} : joinM (blk1 b o) m = m.set b o := by
  funext x; simp only [joinM, blk1, Mem.set]; split <;> simp_all
/-- a new block is a part of its own -/
theorem Split.new {m : Mem} {l : List Mem} (h : Split m l) {b : Nat} (hb : m b = .none) (o : Obj) : Split (m.set b o) (blk1 b o :: l) := by
  refine ⟨fun x u hx => ?_, ?_⟩
  · obtain ⟨a, ha, hax⟩ := allM_some hx
    rcases List.mem_cons.1 ha with rfl | ha
    · obtain ⟨rfl, rfl⟩ := blk1_some hax; exact Mem.set_same ..
    · exact Mem.sub_set _ hb _ _ (h.get ha hax)
  rw [List.pairwise_cons]
  refine ⟨fun a ha x => ?_, h.2⟩
  by_cases e : x = b
  · subst e; exact .inr (h.none hb a ha)
  · exact .inl (blk1_none.2 e)
/-- a block of a part is written -/
theorem Split.set {m a : Mem} {l : List Mem} (h : Split m (a :: l)) {b : Nat} {o : Obj} (hb : a b = some o) (o' : Obj) : Split (m.set b o') (a.set b o' :: l) := by
  have h2 := List.pairwise_cons.1 h.2
  refine ⟨fun x u hx => ?_, ?_⟩
  · obtain ⟨c, hc, hcx⟩ := allM_some hx
    by_cases e : x = b
    · subst e
      rcases List.mem_cons.1 hc with rfl | hc
      · rw [Mem.set_same] at hcx ⊢; exact hcx
      · rcases h2.1 c hc x with h' | h'
        · rw [hb] at h'; cases h'
        · rw [hcx] at h'; cases h'
    · rw [Mem.set_ne _ _ e]
      rcases List.mem_cons.1 hc with rfl | hc
      · rw [Mem.set_ne _ _ e] at hcx; exact h.get (by simp) hcx
      · exact h.get (by simp [hc]) hcx
  · rw [List.pairwise_cons]
    refine ⟨fun c hc x => ?_, h2.2⟩
    by_cases e : x = b
    · subst e
      rcases h2.1 c hc x with h' | h'
      · rw [hb] at h'; cases h'
      · exact .inr h'
    · rw [Mem.set_ne _ _ e]; exact h2.1 c hc x
theorem blk1_set (b : Nat) (o o' : Obj) : (blk1 b o).set b o' = blk1 b o' := by funext x; simp only [blk1, Mem.set]; split <;> simp_all

/-! ### a slice that is a part of its own -/
/-- the slice's own block, all of it, and no more; nothing for a slice that is nil -/
def OwnP (p : Mem) (e : TypeId) (size : Nat) (v : Value) (l : List Value) : Prop := Own p e size v l ∧ ∀ x o, p x = some o → blkV v = some x
theorem OwnP.nil (e : TypeId) (size : Nat) : OwnP emp e size (.slice none 0 0) [] := ⟨.inl ⟨rfl, rfl⟩, fun _ _ h => by cases h⟩
section
variable {P : Program} {T : Tab}
theorem buildSlice0_spec (hT : TabOk P T) {t e : TypeId} {ti ei : TI} (ht : T t = some ti) (hk : ti.k = .slice e) (he : T e = some ei) {m : Mem} :
    PrimSpec P (.buildSlice t 0 []) [] m fun r m' => ∃ b, m b = none ∧ r = [.v (.slice (some ⟨b, 0, none⟩) 0 0)] ∧ m' = m.set b (.cells #[] e) := by
  intro hok ty W hW
  obtain ⟨j, hj, hjs, _, z, hz, hzc⟩ := (hT e ei he).inf
  have hu := (hT t ti ht).slice hk
  refine ⟨[.v (.slice (some ⟨W.heap.size, 0, none⟩) 0 0)], m.set W.heap.size (.cells #[] e), W.alloc (.cells #[] e), ?_, ?_, ⟨W.heap.size, hW.none (Nat.le_refl _), rfl, rfl⟩, (After.refl hW).alloc _⟩
  · simp [Prim.run, resVal, CV.val, Instr.buildSlice, run_underlying hu, sizeOf, typeInfo, hj, newRow, Instr.fill]
    have e0 : Array.map (fun _ : Nat => (default : Value)) (Array.range 0) = #[] := by apply Array.ext' ; simp
    exact congrArg (fun c => W.alloc (Obj.cells c e)) e0
  · intro x hx
    simp at hx; subst hx; rfl
/-- append onto a slice that is a part of its own, of what lies in another -/
theorem append_part (hT : TabOk P T) {t e tx : TypeId} {ti ei xi : TI} (ht : T t = some ti) (hk : ti.k = .slice e) (he : T e = some ei) (hx : T tx = some xi) (hz : (LB.cells ei.zero).length = ei.size) {v x : Value} {l news : List Value} {m p : Mem} {rest : List Mem}
    (hs : Split m (p :: rest)) (hv : OwnP p e ei.size v l) (hg : Gives m ei.size xi.k x news) (hbig : (2 * (lenV v + lenV x) + 768) * ei.bytes ≤ 281474976710656) (hb1 : lenV v + lenV x ≤ 9223372036854775807) :
    PrimSpec P (.builtin .append [t, tx]) [.v v, .v x] m fun r m' => ∃ v' p', r = [.v v'] ∧ Split m' (p' :: rest) ∧ OwnP p' e ei.size v' (l ++ news) ∧ lenV v' = lenV v + lenV x := by
  have hown : Own m e ei.size v l := hv.1.sub (hs.sub (by simp))
  intro ha ty W hW
  obtain ⟨r, m', W', h1, h2, ⟨v', rfl, hap⟩, h4⟩ := append_spec hT ht hk he hx hz hown hg hbig hb1 ha ty W hW
  -- the part behind it: the block of v'
  have hp := List.pairwise_cons.1 hs.2
  obtain ⟨p', hp1, hp2, hp3⟩ : ∃ p' : Mem, Own p' e ei.size v' (l ++ news) ∧ (∀ x o, p' x = some o → blkV v' = some x ∧ m' x = some o) ∧ True := by
    refine ⟨fun x => if blkV v' = some x then m' x else none, ?_, fun x o hx => ?_, trivial⟩
    · exact hap.own.keep fun b hb => by simp [hb]
    · simp only at hx
      by_cases e' : blkV v' = some x
      · rw [if_pos e'] at hx; exact ⟨e', hx⟩
      · rw [if_neg e'] at hx; cases hx
  have hdj : (p' :: rest).Pairwise Dj := by
    rw [List.pairwise_cons]
    refine ⟨fun a haa x => ?_, hp.2⟩
    cases hx : p' x with
    | none => exact .inl rfl
    | some o =>
      refine .inr ?_
      obtain ⟨q1, q2⟩ := hp2 x o hx
      rcases hap.new x q1 with h' | h'
      · -- the old block: of p
        rcases hv.1 with ⟨rfl, _⟩ | ⟨b, o', c, n, arr, rfl, hb, _⟩
        · simp [blkV] at h'
        · simp only [blkV, Option.some.injEq] at h'
          subst h'
          rcases hp.1 a haa b with h'' | h''
          · rw [hb] at h''; cases h''
          · exact h''
      · exact hs.none h' a (by simp [haa])
  refine ⟨[.v v'], allM (p' :: rest), W', h1, h2, ⟨v', p', rfl, ⟨Sub.refl _, hdj⟩, ⟨hp1, fun x o hx => (hp2 x o hx).1⟩, hap.len⟩, ?_⟩
  refine h4.forget fun x o hx => ?_
  obtain ⟨a, haa, hax⟩ := allM_some hx
  rcases List.mem_cons.1 haa with rfl | haa
  · exact (hp2 x o hax).2
  · refine hap.keep x o (hs.get (by simp [haa]) hax) fun hb => ?_
    rcases hv.1 with ⟨rfl, _⟩ | ⟨b, o', c, n, arr, rfl, hb', _⟩
    · simp [blkV] at hb
    · simp only [blkV, Option.some.injEq] at hb
      subst hb
      rcases hp.1 a haa b with h'' | h''
      · rw [hb'] at h''; cases h''
      · rw [hax] at h''; cases h''
end
end Go.E
