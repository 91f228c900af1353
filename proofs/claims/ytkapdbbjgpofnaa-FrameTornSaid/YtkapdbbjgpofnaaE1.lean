/-
  The ground of a small program logic over the model: memory that is owned, values that are written out, the state of a symbolic run, and how it stands to a frame and a world.
-/
import Derived.WalkKit
namespace Go.E

/-- Memory that is known: block numbers to objects. -/
abbrev Mem := Nat → Option Obj

def Over (m : Mem) (W : World) : Prop := ∀ b o, m b = some o → W.heap[b]? = some o

/-- What a run that began in W, knowing m, and that ends in W', knowing m', has left alone: all that m did not know. -/
structure After (m : Mem) (W : World) (m' : Mem) (W' : World) : Prop where
  over : Over m' W'
  size : W.heap.size ≤ W'.heap.size
  tape : W'.tape = W.tape
  os : W'.os = W.os
  output : W'.output = W.output
  frame : ∀ b, b < W.heap.size → m b = none → m' b = none ∧ W'.heap[b]? = W.heap[b]?

theorem After.refl {m : Mem} {W : World} (h : Over m W) : After m W m W := ⟨h, Nat.le_refl _, rfl, rfl, rfl, fun _ _ hb => ⟨hb, rfl⟩⟩

theorem After.trans {m m' m'' : Mem} {W W' W'' : World} (h : After m W m' W') (k : After m' W' m'' W'') : After m W m'' W'' :=
  ⟨k.over, Nat.le_trans h.size k.size, k.tape.trans h.tape, k.os.trans h.os, k.output.trans h.output, fun b hb hm =>
    let ⟨h1, h2⟩ := h.frame b hb hm
    let ⟨k1, k2⟩ := k.frame b (Nat.lt_of_lt_of_le hb h.size) h1
    ⟨k1, k2.trans h2⟩⟩

def Sub (m m' : Mem) : Prop := ∀ b o, m b = some o → m' b = some o

theorem Sub.refl (m : Mem) : Sub m m := fun _ _ h => h
theorem Sub.trans {a b c : Mem} (h : Sub a b) (k : Sub b c) : Sub a c := fun x o hx => k x o (h x o hx)
theorem Over.sub {m m' : Mem} {W : World} (h : Over m W) (hs : Sub m' m) : Over m' W := fun b o hb => h b o (hs b o hb)

theorem After.forget {m m' m'' : Mem} {W W' : World} (h : After m W m' W') (hs : Sub m'' m') : After m W m'' W' :=
  ⟨h.over.sub hs, h.size, h.tape, h.os, h.output, fun b hb hm => by
    obtain ⟨h1, h2⟩ := h.frame b hb hm
    refine ⟨?_, h2⟩
    cases hx : m'' b with
    | none => rfl
    | some o => have := hs b o hx; rw [h1] at this; cases this⟩

/-- m with a block. -/
def Mem.set (m : Mem) (b : Nat) (o : Obj) : Mem := fun x => if x = b then some o else m x
theorem Mem.set_same (m : Mem) (b : Nat) (o : Obj) : m.set b o b = some o := by simp [Mem.set]
theorem Mem.set_ne (m : Mem) {b x : Nat} (o : Obj) (h : x ≠ b) : m.set b o x = m x := by simp [Mem.set, h]
theorem Mem.sub_set {m : Mem} {b : Nat} (o : Obj) (h : m b = none) : Sub m (m.set b o) := fun x u hx => by
  by_cases e : x = b
  · subst e; rw [h] at hx; cases hx
  · rw [Mem.set_ne _ _ e]; exact hx
theorem Mem.set_set (m : Mem) (b : Nat) (o o' : Obj) : (m.set b o).set b o' = m.set b o' := by
  funext x; by_cases e : x = b <;> simp [Mem.set, e]

theorem Over.lt {m : Mem} {W : World} (h : Over m W) {b : Nat} {o : Obj} (hb : m b = some o) : b < W.heap.size := by
  have := h b o hb
  exact (Array.getElem?_eq_some_iff.1 this).1
theorem Over.none {m : Mem} {W : World} (h : Over m W) {b : Nat} (hb : W.heap.size ≤ b) : m b = none := by
  cases hx : m b with
  | none => rfl
  | some o => have := h.lt hx; omega

/-- A new block: of the known memory, if one likes. -/
theorem After.alloc {m0 m : Mem} {W0 W : World} (h : After m0 W0 m W) (o : Obj) : After m0 W0 (m.set W.heap.size o) (W.alloc o) := by
  refine h.trans ⟨?_, by simp, rfl, rfl, rfl, ?_⟩
  · intro b u hb
    by_cases e : b = W.heap.size
    · subst e; rw [Mem.set_same] at hb; cases hb; exact heap_alloc_new W o
    · rw [Mem.set_ne _ _ e] at hb
      rw [heap_alloc_old W o (h.over.lt hb)]
      exact h.over b u hb
  · intro b hb hm
    exact ⟨by rw [Mem.set_ne _ _ (by omega)]; exact hm, heap_alloc_old W o hb⟩
theorem After.allocOut {m0 m : Mem} {W0 W : World} (h : After m0 W0 m W) (o : Obj) : After m0 W0 m (W.alloc o) :=
  (h.alloc o).forget (Mem.sub_set _ (h.over.none (Nat.le_refl _)))
theorem After.drew {m0 m : Mem} {W0 W : World} (h : After m0 W0 m W) : After m0 W0 m { W with drawn := W.drawn + 1 } :=
  h.trans ⟨h.over, Nat.le_refl _, rfl, rfl, rfl, fun _ _ hb => ⟨hb, rfl⟩⟩

theorem setRow_at (w : World) (g : Nat) (cs : Array Value) (old : Array Value) (t : TypeId) (fr : Nat × Nat) (hg : w.heap[g]? = some (.cells old t fr)) :
    (w.setRow g cs).heap[g]? = some (.cells cs t fr) := setRow_heap w g old cs t fr hg

/-- A store into a block that is known, or into one that nobody knows. -/
theorem After.setRow {m0 m : Mem} {W0 W : World} (h : After m0 W0 m W) {b : Nat} {old : Array Value} {t : TypeId} {fr : Nat × Nat} (hm : m b = some (.cells old t fr)) (cs : Array Value) :
    After m0 W0 (m.set b (.cells cs t fr)) (W.setRow b cs) := by
  have hW := h.over _ _ hm
  refine h.trans ⟨?_, by simp [World.setRow], rfl, rfl, rfl, ?_⟩
  · intro x u hx
    by_cases e : x = b
    · subst e; rw [Mem.set_same] at hx; cases hx; exact setRow_at W x cs old t fr hW
    · rw [Mem.set_ne _ _ e] at hx
      rw [setRow_other W b x cs e]; exact h.over x u hx
  · intro x hx hn
    have e : x ≠ b := fun e => by subst e; rw [hm] at hn; cases hn
    exact ⟨by rw [Mem.set_ne _ _ e]; exact hn, setRow_other W b x cs e⟩
theorem After.setRowOut {m0 m : Mem} {W0 W : World} (h : After m0 W0 m W) {b : Nat} (hm : m b = none) (hb : W0.heap.size ≤ b) (cs : Array Value) : After m0 W0 m (W.setRow b cs) := by
  refine ⟨?_, by simp [World.setRow]; exact h.size, h.tape, h.os, h.output, ?_⟩
  · intro x u hx
    have e : x ≠ b := fun e => by subst e; rw [hm] at hx; cases hx
    rw [setRow_other W b x cs e]; exact h.over x u hx
  · intro x hx hn
    have e : x ≠ b := by omega
    rw [setRow_other W b x cs e]; exact h.frame x hx hn

/-! ### values that are written out -/
inductive Seg where
  | one (x : Value)
  | ints (k : IntKind) (n : Nat) (l : List Int)
  | vals (n : Nat) (l : List Value)
abbrev LB := List Seg
def Seg.cells : Seg → List Value
  | .one x => [x]
  | .ints k _ l => l.map (Value.int k)
  | .vals _ l => l
def Seg.size : Seg → Nat
  | .one _ => 1
  | .ints _ n _ => n
  | .vals n _ => n
def Seg.ok : Seg → Prop
  | .one x => x.oneCell' = true
  | .ints _ n l => l.length = n
  | .vals n l => l.length = n ∧ ∀ v ∈ l, v.oneCell' = true
def LB.cells : LB → List Value
  | [] => []
  | s :: r => s.cells ++ LB.cells r
def LB.size : LB → Nat
  | [] => 0
  | s :: r => s.size + LB.size r
def LB.ok : LB → Prop
  | [] => True
  | s :: r => s.ok ∧ LB.ok r
theorem Seg.cells_length {s : Seg} (h : s.ok) : s.cells.length = s.size := by
  cases s <;> simp [Seg.ok, Seg.cells, Seg.size] at * <;> first | exact h | exact h.1
theorem LB.cells_length : ∀ {c : LB}, LB.ok c → (LB.cells c).length = LB.size c
  | [], _ => rfl
  | s :: r, h => by simp only [LB.cells, LB.size, List.length_append]; rw [Seg.cells_length h.1, LB.cells_length h.2]
theorem Seg.cells_one {s : Seg} (h : s.ok) : ∀ v ∈ s.cells, v.oneCell' = true := by
  cases s with
  | one x => intro v hv; simp [Seg.cells] at hv; subst hv; exact h
  | ints k n l => intro v hv; simp [Seg.cells] at hv; obtain ⟨a, _, rfl⟩ := hv; rfl
  | vals n l => exact h.2
theorem LB.cells_one : ∀ {c : LB}, LB.ok c → ∀ v ∈ LB.cells c, v.oneCell' = true
  | [], _ => fun v hv => by simp [LB.cells] at hv
  | s :: r, h => fun v hv => by
    simp only [LB.cells, List.mem_append] at hv
    exact hv.elim (Seg.cells_one h.1 v) (LB.cells_one h.2 v)
theorem LB.cells_append : ∀ (c d : LB), LB.cells (c ++ d) = LB.cells c ++ LB.cells d
  | [], _ => rfl
  | s :: r, d => by simp only [List.cons_append, LB.cells, LB.cells_append r d, List.append_assoc]
theorem LB.ok_append : ∀ {c d : LB}, LB.ok c → LB.ok d → LB.ok (c ++ d)
  | [], _, _, h => h
  | _ :: _, _, h, k => ⟨h.1, LB.ok_append h.2 k⟩

/-- A closed value. -/
inductive CV where
  | v (x : Value)
  | a (c : LB)
def CV.val : CV → Value
  | .v x => x
  | .a c => .agg (LB.cells c).toArray
def CV.ok : CV → Prop
  | .v x => x.oneCell' = true
  | .a c => LB.ok c
def CV.cells : CV → LB
  | .v x => [.one x]
  | .a c => c
def resVal : List CV → Value
  | [x] => x.val
  | l => .tuple (l.map CV.val).toArray

/-- What a slot holds. -/
inductive SV where
  | c (x : CV)
  | t (l : List CV)
  | p (h off : Nat)
  | q (h off d : Nat)
  | sl (h off d len cap : Nat)
  | tt
  | ff
  | un
  | any

def conc (ρ : List Nat) : SV → Value
  | .c x => x.val
  | .t l => .tuple (l.map CV.val).toArray
  | .p h off => .pointer (some ⟨ρ.getD h 0, off, none⟩)
  | .q h off d => .pointer (some ⟨ρ.getD h 0, off + d, none⟩)
  | .sl h off d len cap => .slice (some ⟨ρ.getD h 0, off + d, none⟩) len cap
  | .tt => .bool true
  | .ff => .bool false
  | .un => undef
  | .any => undef
def SV.ok : SV → Prop
  | .c x => x.ok
  | .t l => ∀ x ∈ l, x.ok
  | _ => True
/-- The handles that are named lie below n. -/
def SV.under (n : Nat) : SV → Prop
  | .p h _ => h < n
  | .q h _ _ => h < n
  | .sl h _ _ _ _ => h < n
  | _ => True
theorem SV.under_mono {n k : Nat} {x : SV} (h : x.under n) (hk : n ≤ k) : x.under k := by
  cases x <;> simp only [SV.under] at * <;> omega

structure St where
  fr : Nat → SV
  L : List (TypeId × LB)
  m : Mem
  x : List Nat

def putF (fr : Nat → SV) (d : Option Nat) (y : SV) : Nat → SV :=
  match d with
  | none => fr
  | some d => fun j => bif Nat.beq j d then y else fr j
def ev (s : St) : Operand → SV
  | .tmp t => s.fr t
  | .const (.bool true) => .tt
  | .const (.bool false) => .ff
  | .const (.agg _) => .any
  | .const (.tuple _) => .any
  | .const x => .c (.v x)
  | .func f => .c (.v (.func (.func f) #[] #[]))
  | .global g => .c (.v (.pointer (some ⟨g, 0, none⟩)))
def St.put (s : St) (d : Option Nat) (y : SV) : St := ⟨putF s.fr d y, s.L, s.m, s.x⟩
def nth {α : Type} : List α → Nat → Option α
  | [], _ => none
  | x :: _, 0 => some x
  | _ :: r, n + 1 => nth r n
theorem nth_eq {α : Type} : ∀ (l : List α) (n : Nat), nth l n = l[n]?
  | [], _ => rfl
  | _ :: _, 0 => rfl
  | _ :: r, n + 1 => by simp [nth, nth_eq r n]

/-- How a symbolic state stands to a frame and a world. -/
structure Rel (nt : Nat) (D : List Deferred) (m0 : Mem) (W0 : World) (ρ : List Nat) (s : St) (a : Act) (W : World) : Prop where
  defers : a.defers = D
  size : a.tmps.size = nt
  slots : ∀ i, s.fr i = .any ∨ (a.tmps[i]? = some (conc ρ (s.fr i)) ∧ (s.fr i).ok ∧ (s.fr i).under ρ.length)
  len : ρ.length = s.L.length
  locs : ∀ h t c, s.L[h]? = some (t, c) → W.heap[ρ.getD h 0]? = some (.cells (LB.cells c).toArray t (0, 0)) ∧ LB.ok c ∧ s.m (ρ.getD h 0) = none ∧ W0.heap.size ≤ ρ.getD h 0
  nodup : ρ.Nodup
  after : After m0 W0 s.m W
  seen : ∀ b ∈ s.x, ∃ o, s.m b = some o

theorem conc_append {ρ : List Nat} {x : SV} (h : x.under ρ.length) (e : List Nat) : conc (ρ ++ e) x = conc ρ x := by
  have hg : ∀ i, i < ρ.length → (ρ ++ e).getD i 0 = ρ.getD i 0 := fun i hi => by
    simp only [List.getD_eq_getElem?_getD]; rw [List.getElem?_append_left hi]
  cases x <;> simp only [SV.under] at h <;> simp only [conc] <;> try rw [hg _ h]

section
variable {nt : Nat} {D : List Deferred} {m0 : Mem} {W0 : World} {ρ : List Nat} {s : St} {a : Act} {W : World}

theorem Rel.eval (h : Rel nt D m0 W0 ρ s a W) (o : Operand) (hne : ev s o ≠ .any) : a.eval o = conc ρ (ev s o) := by
  cases o with
  | tmp t =>
    rcases h.slots t with h1 | ⟨h1, _⟩
    · exact absurd h1 hne
    · simp only [Act.eval, ev, Array.getD_eq_getD_getElem?, h1, Option.getD_some]
  | const x => cases x <;> first | rfl | exact absurd rfl hne | (rename_i b; cases b <;> rfl)
  | global g => rfl
  | func f => rfl
theorem Rel.evalOk (h : Rel nt D m0 W0 ρ s a W) (o : Operand) (hne : ev s o ≠ .any) : (ev s o).ok ∧ (ev s o).under ρ.length := by
  cases o with
  | tmp t =>
    rcases h.slots t with h1 | ⟨_, h2⟩
    · exact absurd h1 hne
    · exact h2
  | const x =>
    cases x <;> first | exact ⟨rfl, trivial⟩ | exact absurd rfl hne | (rename_i b; cases b <;> exact ⟨trivial, trivial⟩)
  | global g => exact ⟨rfl, trivial⟩
  | func f => exact ⟨rfl, trivial⟩

/-- The slot d, if there is one, lies in the frame. -/
def dstIn (d : Option Nat) (n : Nat) : Prop := ∀ i, d = some i → i < n

theorem putF_at (fr : Nat → SV) (d : Option Nat) (y : SV) (i : Nat) : putF fr d y i = if d = some i then y else fr i := by
  cases d with
  | none => simp [putF]
  | some k =>
    simp only [putF, Option.some.injEq]
    by_cases e : k = i
    · subst e; simp [Nat.beq_refl]
    · have : Nat.beq i k = false := by
        cases hb : Nat.beq i k with
        | false => rfl
        | true => exact absurd (Nat.eq_of_beq_eq_true hb).symm e
      simp [this, e]

theorem Rel.putSlots (h : Rel nt D m0 W0 ρ s a W) {d : Option Nat} (hd : dstIn d a.tmps.size) {y : SV} {e : List Nat} (hy : y = .any ∨ (y.ok ∧ y.under (ρ ++ e).length)) (v : Value) (hv : y = .any ∨ v = conc (ρ ++ e) y) :
    ∀ i, putF s.fr d y i = .any ∨ ((a.put d v).tmps[i]? = some (conc (ρ ++ e) (putF s.fr d y i)) ∧ (putF s.fr d y i).ok ∧ (putF s.fr d y i).under (ρ ++ e).length) := by
  intro i
  rw [putF_at]
  by_cases hi : d = some i
  · rw [if_pos hi]
    subst hi
    rcases hy with hy | hy
    · exact .inl hy
    · rcases hv with hv | hv
      · exact .inl hv
      · refine .inr ⟨?_, hy⟩
        simp only [Act.put]
        rw [Array.getElem?_setIfInBounds_self_of_lt (hd i rfl), hv]
  · rw [if_neg hi]
    rcases h.slots i with h1 | ⟨h1, h2, h3⟩
    · exact .inl h1
    · refine .inr ⟨?_, h2, SV.under_mono h3 (by simp)⟩
      rw [conc_append h3]
      cases d with
      | none => exact h1
      | some k =>
        simp only [Act.put]
        rw [Array.getElem?_setIfInBounds_ne (fun e => hi (by rw [e]))]
        exact h1

theorem Act.put_size (a : Act) (d : Option Nat) (v : Value) : (a.put d v).tmps.size = a.tmps.size := by
  cases d <;> simp [Act.put]
theorem Act.put_defers_eq (a : Act) (d : Option Nat) (v : Value) : (a.put d v).defers = a.defers := by
  cases d <;> rfl

/-- A slot is written; the world is as it was. -/
theorem Rel.put (h : Rel nt D m0 W0 ρ s a W) {d : Option Nat} (hd : dstIn d a.tmps.size) {y : SV} (hy : y = .any ∨ (y.ok ∧ y.under ρ.length)) (v : Value) (hv : y = .any ∨ v = conc ρ y) (x : List Nat) (hx : ∀ b ∈ x, ∃ o, s.m b = some o) :
    Rel nt D m0 W0 ρ ⟨putF s.fr d y, s.L, s.m, x⟩ (a.put d v) W :=
  ⟨by rw [Act.put_defers_eq]; exact h.defers, by rw [Act.put_size]; exact h.size,
   by have := h.putSlots hd (e := []) (by simpa using hy) v (by simpa using hv); simpa using this,
   h.len, h.locs, h.nodup, h.after, hx⟩
theorem Rel.clear (hr : Rel nt D m0 W0 ρ s a W) : Rel nt D m0 W0 ρ ⟨s.fr, s.L, s.m, []⟩ a W :=
  ⟨hr.defers, hr.size, hr.slots, hr.len, hr.locs, hr.nodup, hr.after, by simp⟩
end

end Go.E
