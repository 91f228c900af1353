/-
  Memory in parts, by their places in a list: what one part's call or operation leaves of the others.
-/
import Derived.Test.YtkapdbbjgpofnaaE21
namespace Go.E

theorem erase_perm {α : Type} : ∀ (l : List α) (i : Nat) (a : α), l[i]? = some a → (a :: l.eraseIdx i).Perm l
  | [], _, _, h => by simp at h
  | x :: l, 0, a, h => by simp at h; subst h; exact .refl _
  | x :: l, i + 1, a, h => by
    simp only [List.eraseIdx_cons_succ]
    exact (List.Perm.swap x a _).trans ((erase_perm l i a (by simpa using h)).cons x)
theorem set_perm {α : Type} : ∀ (l : List α) (i : Nat) (a : α), i < l.length → (l.set i a).Perm (a :: l.eraseIdx i)
  | [], _, _, h => by simp at h
  | x :: l, 0, a, h => .refl _
  | x :: l, i + 1, a, h => by
    simp only [List.eraseIdx_cons_succ, List.set_cons_succ]
    exact ((set_perm l i a (by simpa using h)).cons x).trans (List.Perm.swap a x _)
theorem Split.pick {m : Mem} {l : List Mem} (h : Split m l) {i : Nat} {a : Mem} (hi : l[i]? = some a) : Split m (a :: l.eraseIdx i) := by
  exact h.perm (erase_perm l i a hi).symm
theorem Split.unpick {m : Mem} {l : List Mem} {i : Nat} {a p : Mem} (hi : l[i]? = some p) (h : Split m (a :: l.eraseIdx i)) : Split m (l.set i a) :=
  h.perm (set_perm l i a (List.getElem?_eq_some_iff.1 hi).1).symm
theorem Split.at {m : Mem} {l : List Mem} (h : Split m l) {i : Nat} {p : Mem} (hi : l[i]? = some p) : Sub p m := h.sub (List.mem_of_getElem? hi)
theorem setGet {α : Type} {l : List α} {i : Nat} {p : α} (h : l[i]? = some p) (q : α) : (l.set i q)[i]? = some q := List.getElem?_set_self (List.getElem?_eq_some_iff.1 h).1
theorem setOther {α : Type} {l : List α} {i j : Nat} {p : α} (h : l[j]? = some p) (hij : i ≠ j) (q : α) : (l.set i q)[j]? = some p := by rw [List.getElem?_set_ne hij]; exact h
theorem setSame {α : Type} : ∀ {l : List α} {i : Nat} {p : α}, l[i]? = some p → l.set i p = l
  | [], _, _, h => by simp at h
  | x :: l, 0, p, h => by simp at h; subst h; rfl
  | x :: l, i + 1, p, h => by rw [List.set_cons_succ, setSame (by simpa using h)]
theorem Split.setAt {m : Mem} {l : List Mem} (h : Split m l) {i : Nat} {p : Mem} (hi : l[i]? = some p) {b : Nat} {o : Obj} (hb : p b = some o) (o' : Obj) : Split (m.set b o') (l.set i (p.set b o')) :=
  Split.unpick hi ((h.pick hi).set hb o')
theorem Spec.at {P : Program} {f : FuncId} {args : List CV} {m p : Mem} {l : List Mem} {i : Nat} {R : List CV → Mem → Prop} (hs : Split m l) (hi : l[i]? = some p) (h : Spec P f args p R) :
    Spec P f args m fun r m' => ∃ p', R r p' ∧ Split m' (l.set i p') :=
  (h.frame (hs.pick hi)).mono fun _ _ ⟨p', h1, h2⟩ => ⟨p', h1, Split.unpick hi h2⟩
theorem Spec.new {P : Program} {f : FuncId} {args : List CV} {m : Mem} {l : List Mem} {R : List CV → Mem → Prop} (hs : Split m l) (h : Spec P f args emp R) :
    Spec P f args m fun r m' => ∃ p, R r p ∧ Split m' (p :: l) := h.frame hs.addEmp
theorem PrimSpec.at {P : Program} {p : Prim} {args : List CV} {m q : Mem} {l : List Mem} {i : Nat} {R : List CV → Mem → Prop} (hs : Split m l) (hi : l[i]? = some q) (h : PrimSpec P p args q R) :
    PrimSpec P p args m fun r m' => ∃ q', R r q' ∧ Split m' (l.set i q') := fun ha ty W hW =>
  let ⟨r, m', W', h1, h2, ⟨q', h3, h4⟩, h5⟩ := h.frame (hs.pick hi) ha ty W hW
  ⟨r, m', W', h1, h2, ⟨q', h3, Split.unpick hi h4⟩, h5⟩
theorem PrimSpec.mono {P : Program} {p : Prim} {args : List CV} {m : Mem} {R R' : List CV → Mem → Prop} (h : PrimSpec P p args m R) (k : ∀ r m', R r m' → R' r m') : PrimSpec P p args m R' := fun ha ty W hW =>
  let ⟨r, m', W', h1, h2, h3, h4⟩ := h ha ty W hW
  ⟨r, m', W', h1, h2, k _ _ h3, h4⟩
/-- what is behind it knows more parts -/
theorem Split.under {m m' : Mem} {a l : List Mem} (h : Split m' (a ++ [m])) (hs : Split m l) : Split m' (a ++ l) := by
  obtain ⟨h1, h2⟩ := h
  rw [List.pairwise_append] at h2
  refine ⟨fun x o hx => ?_, ?_⟩
  · obtain ⟨c, hc, hcx⟩ := allM_some hx
    rcases List.mem_append.1 hc with hc | hc
    · exact h1 _ _ (allM_of (List.pairwise_append.2 h2) (by simp [hc]) hcx)
    · exact h1 _ _ (allM_of (List.pairwise_append.2 h2) (a := m) (by simp) (hs.get hc hcx))
  · rw [List.pairwise_append]
    refine ⟨h2.1, hs.2, fun x hx y hy z => ?_⟩
    rcases h2.2.2 x hx m (by simp) z with h' | h'
    · exact .inl h'
    · exact .inr (hs.none h' y hy)
/-- a part may be left out; a part is read -/
theorem Split.take {m : Mem} {l : List Mem} (h : Split m l) {i : Nat} {p : Mem} (hi : l[i]? = some p) : Split m [p] :=
  ⟨fun x o hx => by
    obtain ⟨a, ha, hax⟩ := allM_some hx
    rw [List.mem_singleton.1 ha] at hax
    exact h.at hi _ _ hax, by simp⟩
theorem Split.flat {m q : Mem} {l ls : List Mem} {i : Nat} (hs : Split m l) (hi : l[i]? = some q) (h : Split q ls) : Split m (ls ++ l.eraseIdx i) := by
  have hp := hs.pick hi
  have hd := List.pairwise_cons.1 hp.2
  refine ⟨fun x o hx => ?_, ?_⟩
  · obtain ⟨c, hc, hcx⟩ := allM_some hx
    rcases List.mem_append.1 hc with hc | hc
    · exact hs.at hi _ _ (h.get hc hcx)
    · exact hp.get (by simp [hc]) hcx
  · rw [List.pairwise_append]
    refine ⟨h.2, hd.2, fun a ha b hb x => ?_⟩
    rcases hd.1 b hb x with h' | h'
    · exact .inl (h.none h' a ha)
    · exact .inr h'
theorem Split.erase {m : Mem} {l : List Mem} (h : Split m l) (i : Nat) : Split m (l.eraseIdx i) := by
  by_cases hi : i < l.length
  · exact (h.pick (i := i) (List.getElem?_eq_getElem hi)).drop
  · rw [List.eraseIdx_of_length_le (by omega)]; exact h
section
variable {P : Program} {T : Tab}
/-- append onto a slice of the part i -/
theorem append_at (hT : TabOk P T) {t e tx : TypeId} {ti ei xi : TI} (ht : T t = some ti) (hk : ti.k = .slice e) (he : T e = some ei) (hx : T tx = some xi) (hz : (LB.cells ei.zero).length = ei.size) {v x : Value} {c news : List Value} {m p : Mem} {l : List Mem} {i : Nat}
    (hs : Split m l) (hi : l[i]? = some p) (hv : Own p e ei.size v c) (hg : Gives m ei.size xi.k x news) (hbig : (2 * (lenV v + lenV x) + 768) * ei.bytes ≤ 281474976710656) (hb1 : lenV v + lenV x ≤ 9223372036854775807) :
    PrimSpec P (.builtin .append [t, tx]) [.v v, .v x] m fun r m' => ∃ v' p', r = [.v v'] ∧ Split m' (l.set i p') ∧ Apd p e ei.size v (c ++ news) (lenV x) v' p' := by
  have hown : Own m e ei.size v c := hv.sub (hs.at hi)
  intro ha ty W hW
  obtain ⟨r, m', W', h1, h2, ⟨v', rfl, hap⟩, h4⟩ := append_spec hT ht hk he hx hz hown hg hbig hb1 ha ty W hW
  have hs' := hs.pick hi
  have hp := List.pairwise_cons.1 hs'.2
  have hvb : ∀ b, blkV v = some b → ∃ o, p b = some o := by
    intro b hb
    rcases hv with ⟨rfl, _⟩ | ⟨b', o', c, n, arr, rfl, hb', _⟩
    · simp [blkV] at hb
    · simp only [blkV, Option.some.injEq] at hb; subst hb; exact ⟨_, hb'⟩
  let p' : Mem := fun x => if blkV v' = some x then m' x else if blkV v = some x then none else p x
  have hp' : ∀ x o, p' x = some o → m' x = some o ∧ (blkV v' = some x ∨ p x = some o) := by
    intro x o hx
    simp only [p'] at hx
    by_cases e1 : blkV v' = some x
    · rw [if_pos e1] at hx; exact ⟨hx, .inl e1⟩
    · rw [if_neg e1] at hx
      by_cases e2 : blkV v = some x
      · rw [if_pos e2] at hx; cases hx
      · rw [if_neg e2] at hx
        exact ⟨hap.keep x o (hs.at hi _ _ hx) e2, .inr hx⟩
  have hdj : (p' :: l.eraseIdx i).Pairwise Dj := by
    rw [List.pairwise_cons]
    refine ⟨fun a haa x => ?_, hp.2⟩
    cases hx : p' x with
    | none => exact .inl rfl
    | some o =>
      refine .inr ?_
      obtain ⟨_, q | q⟩ := hp' x o hx
      · rcases hap.new x q with h' | h'
        · obtain ⟨u, hu⟩ := hvb x h'
          rcases hp.1 a haa x with h'' | h''
          · rw [hu] at h''; cases h''
          · exact h''
        · exact hs'.none h' a (by simp [haa])
      · rcases hp.1 a haa x with h'' | h''
        · rw [q] at h''; cases h''
        · exact h''
  refine ⟨[.v v'], allM (p' :: l.eraseIdx i), W', h1, h2, ⟨v', p', rfl, Split.unpick hi ⟨Sub.refl _, hdj⟩, ?_, ?_, ?_, hap.len⟩, ?_⟩
  · exact hap.own.keep fun b hb => by simp [p', hb]
  · intro b o hb hne
    simp only [p']
    by_cases e1 : blkV v' = some b
    · rw [if_pos e1]; exact hap.keep b o (hs.at hi _ _ hb) hne
    · rw [if_neg e1, if_neg hne]; exact hb
  · intro b hb
    rcases hap.new b hb with h' | h'
    · exact .inl h'
    · exact .inr (hs'.none h' p (by simp))
  · refine h4.forget fun x o hx => ?_
    obtain ⟨a, haa, hax⟩ := allM_some hx
    rcases List.mem_cons.1 haa with rfl | haa
    · exact (hp' x o hax).1
    · refine hap.keep x o (hs'.get (by simp [haa]) hax) fun hb => ?_
      obtain ⟨u, hu⟩ := hvb x hb
      rcases hp.1 a haa x with h'' | h''
      · rw [hu] at h''; cases h''
      · rw [hax] at h''; cases h''
end
/-! ### bytes -/
def bc (l : List Int) : List Value := l.map (Value.int .u8)
theorem bc_append (a b : List Int) : bc (a ++ b) = bc a ++ bc b := by simp [bc]
theorem bc_length (a : List Int) : (bc a).length = a.length := by simp [bc]
theorem bc_inj {a b : List Int} (h : bc a = bc b) : a = b := by
  have := congrArg (List.map (fun v => match v with | Value.int _ n => n | _ => 0)) h
  simpa [bc, Function.comp_def] using this
theorem bc_one {a : List Int} : ∀ u ∈ bc a, u.oneCell' = true := by
  intro u hu; simp only [bc, List.mem_map] at hu; obtain ⟨a, _, rfl⟩ := hu; rfl
theorem bc_at {a : List Int} {j : Nat} {u : Value} (h : (bc a)[j]? = some u) : ∃ n, a[j]? = some n ∧ u = .int .u8 n := by
  simp only [bc, List.getElem?_map, Option.map_eq_some_iff] at h
  obtain ⟨n, h1, rfl⟩ := h; exact ⟨n, h1, rfl⟩
/-- bytes that lie somewhere -/
def Lb (m : Mem) (v : Value) (l : List Int) : Prop := Lies m 1 v (bc l)
theorem Lb.len {m : Mem} {v : Value} {l : List Int} (h : Lb m v l) : lenV v = l.length := by have := Lies.len h; rw [bc_length] at this; omega
theorem Lb.sub {m m' : Mem} {v : Value} {l : List Int} (h : Lb m v l) (hs : Sub m m') : Lb m' v l := Lies.sub h hs
theorem Lb.nil (m : Mem) (c : Nat) : Lb m (.slice none 0 c) [] := .inl ⟨c, rfl, rfl⟩
theorem Lb.one {m : Mem} {v : Value} {l : List Int} (h : Lb m v l) : v.oneCell' = true := Lies.one h
theorem Lb.cases {m : Mem} {v : Value} {l : List Int} (h : Lb m v l) : (∃ c, v = .slice none 0 c ∧ l = []) ∨ ∃ b o c arr t fr, v = .slice (some ⟨b, o, none⟩) l.length c ∧ m b = some (.cells arr t fr) ∧ l.length ≤ c ∧ (∀ j n, l[j]? = some n → arr[o + j]? = some (.int .u8 n)) := by
  rcases h with ⟨c, rfl, h⟩ | ⟨b, o, c, n, arr, t, fr, rfl, h1, h2, h3, h4, h5⟩
  · exact .inl ⟨c, rfl, by simpa [bc] using h⟩
  · rw [bc_length, Nat.mul_one] at h2
    subst h2
    exact .inr ⟨b, o, c, arr, t, fr, rfl, h1, h3, fun j n hj => h4 j _ (by simp [bc, hj])⟩
theorem Lb.shape {m : Mem} {v : Value} {l : List Int} (h : Lb m v l) : ∃ a c, v = .slice a l.length c := by
  rcases h.cases with ⟨c, rfl, rfl⟩ | ⟨b, o, c, arr, t, fr, rfl, _⟩ <;> exact ⟨_, _, rfl⟩
theorem Lb.real {m : Mem} {v : Value} {l : List Int} (h : Lb m v l) (hl : l ≠ []) : ∃ b o c, v = .slice (some ⟨b, o, none⟩) l.length c := by
  rcases h.cases with ⟨c, rfl, rfl⟩ | ⟨b, o, c, arr, t, fr, rfl, _⟩
  · exact absurd rfl hl
  · exact ⟨_, _, _, rfl⟩
theorem Lb.mk {m : Mem} {l : List Int} {b o c n : Nat} {arr : Array Value} {t : TypeId} {fr : Nat × Nat} (h1 : m b = some (.cells arr t fr)) (hn : l.length = n) (h2 : n ≤ c) (h3 : ∀ j n, l[j]? = some n → arr[o + j]? = some (.int .u8 n)) : Lb m (.slice (some ⟨b, o, none⟩) n c) l :=
  .inr ⟨b, o, c, n, arr, t, fr, rfl, h1, by rw [bc_length, hn, Nat.mul_one], h2, fun j u hu => by obtain ⟨n, h4, rfl⟩ := bc_at hu; exact h3 j n h4, bc_one⟩
/-- the text that they make -/
theorem Lb.range {m : Mem} {b o c n : Nat} {l : List Int} (h : Lb m (.slice (some ⟨b, o, none⟩) n c) l) : MRange m b o (l.map (Value.int .u8)) := by
  rcases h with ⟨c', h, _⟩ | ⟨b', o', c', n', arr, t, fr, h, h1, h2, h3, h4, h5⟩
  · cases h
  · cases h; exact ⟨arr, t, fr, h1, h4⟩
theorem mcell_of {m : Mem} {b off : Nat} {arr : Array Value} {t : TypeId} {fr : Nat × Nat} {v : Value} (h : m b = some (.cells arr t fr)) (hv : arr[off]? = some v) : mcell m b off = some v := by simp only [mcell, h]; exact hv
theorem mid_at {A c B : List Value} {off j : Nat} {u : Value} (hA : A.length = off) (hu : c[j]? = some u) : (A ++ (c ++ B)).toArray[off + j]? = some u := by
  have := (List.getElem?_eq_some_iff.1 hu).1
  rw [List.getElem?_toArray, ← hA, List.getElem?_append_right (by omega), Nat.add_sub_cancel_left, List.getElem?_append_left this]
  exact hu
theorem MRange.sub {m m' : Mem} {b o : Nat} {l : List Value} (h : MRange m b o l) (hs : Sub m m') : MRange m' b o l := by
  obtain ⟨arr, t, fr, h1, h2⟩ := h
  exact ⟨arr, t, fr, hs _ _ h1, h2⟩
theorem MRange.mid (A B : LB) {c : LB} {m : Mem} {b off : Nat} {t : TypeId} {fr : Nat × Nat} (h : m b = some (.cells (LB.cells (A ++ (c ++ B))).toArray t fr)) (hA : (LB.cells A).length = off) : MRange m b off (LB.cells c) :=
  ⟨_, _, _, h, fun j u hu => by rw [LB.cells_append, LB.cells_append]; exact mid_at hA hu⟩
theorem Lb.blkf {m : Mem} {b n : Nat} {l : List Int} {t : TypeId} {fr : Nat × Nat} (h : m b = some (.cells (bc l).toArray t fr)) (hn : l.length = n) : Lb m (.slice (some ⟨b, 0, none⟩) n n) l :=
  Lb.mk h hn (Nat.le_refl _) fun j n hj => by simp [bc, hj]
theorem Lb.text {m : Mem} {b o n c : Nat} {l : List Int} {K : SV → List Nat → Prop} (h : Lb m (.slice (some ⟨b, o, none⟩) n c) l) (k : K (.c (.v (.string (strOf l)))) [b]) : ∃ ns : List Int, ns.length = n ∧ MRange m b o (ns.map (Value.int .u8)) ∧ K (.c (.v (.string (strOf ns)))) [b] :=
  ⟨l, h.len.symm, h.range, k⟩
theorem Lb.ofRange {m : Mem} {b o n c k : Nat} {l : List Int} (h : MRange m b o (LB.cells [.ints .u8 k l])) (hn : l.length = n) (hc : n ≤ c) : Lb m (.slice (some ⟨b, o, none⟩) n c) l := by
  obtain ⟨arr, t, fr, h1, h2⟩ := h
  exact Lb.mk h1 hn hc fun j u hu => h2 j _ (by simp [LB.cells, Seg.cells, hu])
/-- bytes that lie somewhere; or none, wherever -/
def La (m : Mem) (v : Value) (l : List Int) : Prop := Lb m v l ∨ (l = [] ∧ ∃ a, v = .slice (some a) 0 0)
theorem Lb.la {m : Mem} {v : Value} {l : List Int} (h : Lb m v l) : La m v l := .inl h
theorem La.sub {m m' : Mem} {v : Value} {l : List Int} (h : La m v l) (hs : Sub m m') : La m' v l := h.imp (·.sub hs) id
theorem La.shape {m : Mem} {v : Value} {l : List Int} (h : La m v l) : ∃ a c, v = .slice a l.length c := by
  rcases h with h | ⟨rfl, a, rfl⟩
  · exact h.shape
  · exact ⟨_, _, rfl⟩
theorem La.len {m : Mem} {v : Value} {l : List Int} (h : La m v l) : lenV v = l.length := by obtain ⟨a, c, rfl⟩ := h.shape; rfl
theorem La.one {m : Mem} {v : Value} {l : List Int} (h : La m v l) : v.oneCell' = true := by obtain ⟨a, c, rfl⟩ := h.shape; rfl
theorem La.gives {m : Mem} {v : Value} {l : List Int} {e : TypeId} (h : La m v l) : Gives m 1 (.slice e) v (bc l) := .inl ⟨e, rfl, h.imp id fun ⟨h1, h2⟩ => ⟨by rw [h1]; rfl, h2⟩⟩
theorem La.lb {m : Mem} {v : Value} {l : List Int} (h : La m v l) (hl : l ≠ []) : Lb m v l := h.elim id fun h => absurd h.1 hl
/-! ### texts -/
def by8 (l : List Int) : List UInt8 := l.map fun n => UInt8.ofNat n.toNat
theorem strOf_acc : ∀ (l : List Int) (r : ByteArray), (l.foldl (fun r n => r.push (UInt8.ofNat n.toNat)) r).data.toList = r.data.toList ++ by8 l
  | [], r => by simp [by8]
  | x :: l, r => by
    simp only [List.foldl_cons]
    rw [strOf_acc l]
    simp [by8, ByteArray.push]
theorem strOf_data (l : List Int) : (strOf l).data.toList = by8 l := by
  rw [strOf, strOf_acc]; rfl
theorem strOf_list (l : List Int) : (strOf l).toList = by8 l := by rw [ByteArray.toList_eq, strOf_data]
theorem by8_inj : ∀ {a b : List Int}, (∀ x ∈ a, 0 ≤ x ∧ x < 256) → (∀ x ∈ b, 0 ≤ x ∧ x < 256) → by8 a = by8 b → a = b
  | [], [], _, _, _ => rfl
  | [], _ :: _, _, _, h => by simp [by8] at h
  | _ :: _, [], _, _, h => by simp [by8] at h
  | x :: a, y :: b, ha, hb, h => by
    simp only [by8, List.map_cons, List.cons.injEq] at h
    have hx := ha x (by simp)
    have hy := hb y (by simp)
    have e := congrArg UInt8.toNat h.1
    rw [UInt8.toNat_ofNat', UInt8.toNat_ofNat'] at e
    have := by8_inj (fun z hz => ha z (by simp [hz])) (fun z hz => hb z (by simp [hz])) h.2
    rw [this, show x = y by omega]
theorem lit_list (l : List UInt8) : (⟨l.toArray⟩ : ByteArray).toList = l := by rw [ByteArray.toList_eq]
abbrev ptrV (b : Nat) : CV := .v (.pointer (some ⟨b, 0, none⟩))
abbrev nilP : CV := .v (.pointer none)
end Go.E
