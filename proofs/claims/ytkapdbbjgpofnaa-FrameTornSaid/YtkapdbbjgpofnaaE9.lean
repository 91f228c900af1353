/-
  What a call is asked for; operations that make or change memory.
-/
import Derived.Test.YtkapdbbjgpofnaaE8
namespace Go.E

/-- The function f has a body, which a call enters. -/
def Enters (P : Program) (f : FuncId) : Prop := ∀ (args : Array Value) (w : World), (callFunc f args).run P w = .ok (.enter f args) w

/-- Called with these values, knowing m, it returns; of what it returns, and of what is known then, R holds; all else is as it was. -/
def Spec (P : Program) (f : FuncId) (args : List CV) (m : Mem) (R : List CV → Mem → Prop) : Prop :=
  Enters P f ∧ ((∀ x ∈ args, x.ok) → ∀ W, Over m W → Calls P f (args.map CV.val).toArray W fun e W' => ∃ r m', e = .returned (resVal r) ∧ (∀ x ∈ r, x.ok) ∧ R r m' ∧ After m W m' W')

theorem Spec.mono {P : Program} {f : FuncId} {args : List CV} {m : Mem} {R R' : List CV → Mem → Prop} (h : Spec P f args m R) (hr : ∀ r m', R r m' → R' r m') : Spec P f args m R' :=
  ⟨h.1, fun ha W hW => (h.2 ha W hW).mono fun _ _ ⟨r, m', h1, h2, h3, h4⟩ => ⟨r, m', h1, h2, hr _ _ h3, h4⟩⟩

/-- The memory is as it was, and this is returned. -/
abbrev Ret (P : Program) (f : FuncId) (args : List CV) (m : Mem) (r : List CV) : Prop := Spec P f args m fun r' m' => r' = r ∧ m' = m

def resSV : List CV → SV
  | [x] => .c x
  | l => .t l
theorem conc_resSV (ρ : List Nat) (r : List CV) : conc ρ (resSV r) = resVal r := by
  match r with
  | [x] => rfl
  | [] => rfl
  | _ :: _ :: _ => rfl
theorem resSV_ok {r : List CV} (h : ∀ x ∈ r, x.ok) : (resSV r).ok := by
  unfold resSV
  split
  · rename_i x; exact h x (by simp)
  · exact h
theorem resSV_under (r : List CV) (n : Nat) : (resSV r).under n := by
  unfold resSV; split <;> trivial

def closed : List SV → Option (List CV)
  | [] => some []
  | .c x :: r => match closed r with
    | some l => some (x :: l)
    | none => none
  | .tt :: r => match closed r with
    | some l => some (.v (.bool true) :: l)
    | none => none
  | .ff :: r => match closed r with
    | some l => some (.v (.bool false) :: l)
    | none => none
  | _ => none

inductive XCall (P : Program) (f : FuncId) (args : List CV) (m : Mem) (K : List CV → Mem → Prop) : Prop
  | mk (R : List CV → Mem → Prop) (h : Spec P f args m R) (k : ∀ r m', R r m' → K r m')

theorem xcall {P : Program} {f : FuncId} {args : List CV} {m : Mem} {R K : List CV → Mem → Prop} (h : Spec P f args m R) (k : ∀ r m', R r m' → K r m') : XCall P f args m K := ⟨R, h, k⟩
theorem xret {P : Program} {f : FuncId} {args : List CV} {m : Mem} {r : List CV} {K : List CV → Mem → Prop} (h : Ret P f args m r) (k : K r m) : XCall P f args m K := ⟨_, h, by rintro _ _ ⟨rfl, rfl⟩; exact k⟩

abbrev Loc := List (TypeId × LB)

/-- what an operation of a region that draws must leave alone: all that was read; nothing; all but the call's own block h -/
inductive Kp where
  | all
  | none
  | but (h : Nat)
  | new (n : Nat)

/-- kept: the blocks that this region has read -/
def Kept (x : List Nat) (m m' : Mem) : Prop := ∀ b ∈ x, m' b = m b

def nStore (T : Tab) (s : St) (t : TypeId) (x y : SV) (K : Loc → Mem → Prop) : Prop :=
  match T t with
  | none => False
  | some i => match x with
    | .p h off => match nth s.L h with
      | none => False
      | some (t', c) => match y with
        | .c (.v z) => bif Nat.beq i.size 1 then (match LB.set c off z with | some d => K (s.L.set h (t', d)) s.m | none => False) else False
        | .tt => bif Nat.beq i.size 1 then (match LB.set c off (.bool true) with | some d => K (s.L.set h (t', d)) s.m | none => False) else False
        | .ff => bif Nat.beq i.size 1 then (match LB.set c off (.bool false) with | some d => K (s.L.set h (t', d)) s.m | none => False) else False
        | .c (.a v) => bif Nat.beq i.size (LB.size v) then (match LB.putW c off v with | some d => K (s.L.set h (t', d)) s.m | none => False) else False
        | _ => False
    | .q h off e => match nth s.L h with
      | none => False
      | some (t', c) => match y with
        | .c (.v z) => bif Nat.beq i.size 1 then LB.dset c off e z (fun d => K (s.L.set h (t', d)) s.m) else False
        | .tt => bif Nat.beq i.size 1 then LB.dset c off e (.bool true) (fun d => K (s.L.set h (t', d)) s.m) else False
        | .ff => bif Nat.beq i.size 1 then LB.dset c off e (.bool false) (fun d => K (s.L.set h (t', d)) s.m) else False
        | .c (.a v) => bif Nat.beq i.size (LB.size v) then LB.dput c off e v (fun d => K (s.L.set h (t', d)) s.m) else False
        | _ => False
    | .c (.v (.pointer (some ⟨b, off, none⟩))) => match y with
      | .c (.v z) => bif Nat.beq i.size 1 then (∃ arr t' fr, s.m b = some (.cells arr t' fr) ∧ (off < arr.size ∧ ¬ (fr.1 ≤ off ∧ off < fr.2)) ∧ K s.L (s.m.set b (.cells (arr.setIfInBounds off z) t' fr))) else False
      | .tt => bif Nat.beq i.size 1 then (∃ arr t' fr, s.m b = some (.cells arr t' fr) ∧ (off < arr.size ∧ ¬ (fr.1 ≤ off ∧ off < fr.2)) ∧ K s.L (s.m.set b (.cells (arr.setIfInBounds off (.bool true)) t' fr))) else False
      | .ff => bif Nat.beq i.size 1 then (∃ arr t' fr, s.m b = some (.cells arr t' fr) ∧ (off < arr.size ∧ ¬ (fr.1 ≤ off ∧ off < fr.2)) ∧ K s.L (s.m.set b (.cells (arr.setIfInBounds off (.bool false)) t' fr))) else False
      | .c (.a v) => bif Nat.beq i.size (LB.size v) then (∃ arr t' fr, s.m b = some (.cells arr t' fr) ∧ (off + LB.size v ≤ arr.size ∧ ∀ j, j < LB.size v → ¬ (fr.1 ≤ off + j ∧ off + j < fr.2)) ∧ K s.L (s.m.set b (.cells (arr.toList.take off ++ (LB.cells v ++ arr.toList.drop (off + LB.size v))).toArray t' fr))) else False
      | _ => False
    | _ => False

/-- does an address lie in the call's own block h? -/
def atHandle (h : Nat) : SV → Bool
  | .p h' _ => Nat.beq h' h
  | .q h' _ _ => Nat.beq h' h
  | _ => false

/-- does an address lie in a block of the call's own, no elder than n? -/
def newHandle (n : Nat) : SV → Bool
  | .p h' _ => Nat.ble n h'
  | .q h' _ _ => Nat.ble n h'
  | _ => false
/-- a new block: of the call's own, or one that is known (ext) -/
def nNew (s : St) (t : TypeId) (c : LB) (ext : Bool) (K : SV → Loc → Mem → List Nat → Prop) : Prop :=
  match ext with
  | false => K (.p s.L.length 0) (s.L ++ [(t, c)]) s.m s.x
  | true => ∀ b, s.m b = none → K (.c (.v (.pointer (some ⟨b, 0, none⟩)))) s.L (s.m.set b (.cells (LB.cells c).toArray t)) s.x

/-! ### operations of which contracts are shown apart -/
inductive Prim where
  | buildSlice (t : TypeId) (len : Nat) (ix : List Nat)
  | makeSlice (t : TypeId)
  | builtin (b : Builtin) (ats : List TypeId)
  | conv (src dst : TypeId)
  | makeMap (t : TypeId)
  | lookup (t : TypeId) (ok : Bool)
  | makeInterface (t : TypeId)
  | makeFunc (fn : Fn) (n : Nat)
  | mapUpdate (t : TypeId)
def Prim.unit : Prim → Bool
  | .mapUpdate _ => true
  | _ => false
def Prim.run : Prim → TypeId → List Value → Sem Value
  | .buildSlice t len ix, _, vs => Instr.buildSlice t len (ix.zip vs).toArray
  | .makeSlice t, _, [l, c] => Instr.makeSlice t l c
  | .builtin b ats, ty, vs => match b with
    | .append => Builtin.append_ ats.toArray ty vs.toArray
    | .copy => Builtin.copy_ ats.toArray ty vs.toArray
    | .cap => Builtin.cap_ ats.toArray ty vs.toArray
    | .clear => Builtin.clear_ ats.toArray ty vs.toArray
    | .delete => Builtin.delete_ ats.toArray ty vs.toArray
    | _ => stuck ""
  | .conv s d, _, [x] => convert s d x
  | .makeMap t, _, [] => Instr.makeMap t none
  | .makeMap t, _, [x] => Instr.makeMap t (some x)
  | .lookup t ok, _, [m, k] => Instr.lookup t m k ok
  | .makeInterface t, _, [x] => Instr.makeInterface t x
  | .makeFunc fn n, _, vs => Instr.makeFunc fn (vs.take n).toArray (vs.drop n).toArray
  | .mapUpdate t, _, [m, k, x] => do Instr.mapUpdate t m k x; pure undef
  | _, _, _ => stuck ""
def primOf : Op → Option (Prim × List Operand)
  | .buildSlice t len parts => some (.buildSlice t len (parts.toList.map (·.1)), parts.toList.map (·.2))
  | .makeSlice t l c => some (.makeSlice t, [l, c])
  | .call ⟨.builtin b, args, ats⟩ => match b with
    | .append => some (.builtin .append ats.toList, args.toList)
    | .copy => some (.builtin .copy ats.toList, args.toList)
    | .cap => some (.builtin .cap ats.toList, args.toList)
    | .clear => some (.builtin .clear ats.toList, args.toList)
    | .delete => some (.builtin .delete ats.toList, args.toList)
    | _ => none
  | .convert s d x => some (.conv s d, [x])
  | .makeMap t r => some (.makeMap t, r.toList)
  | .lookup t x k ok => some (.lookup t ok, [x, k])
  | .makeInterface t x => some (.makeInterface t, [x])
  | .makeFunc fn first captured => some (.makeFunc fn first.size, first.toList ++ captured.toList)
  | .mapUpdate t m k x => some (.mapUpdate t, [m, k, x])
  | .insert t m k x => some (.mapUpdate t, [m, k, x])
  | _ => none
/-- what a value that comes of such an operation is -/
def PrimSpec (P : Program) (p : Prim) (args : List CV) (m : Mem) (R : List CV → Mem → Prop) : Prop :=
  (∀ x ∈ args, x.ok) → ∀ ty W, Over m W → ∃ r m' W', (p.run ty (args.map CV.val)).run P W = .ok (resVal r) W' ∧ (∀ x ∈ r, x.ok) ∧ R r m' ∧ After m W m' W'
inductive XPrim (P : Program) (p : Prim) (args : List CV) (m : Mem) (K : List CV → Mem → Prop) : Prop
  | mk (R : List CV → Mem → Prop) (h : PrimSpec P p args m R) (k : ∀ r m', R r m' → K r m')
def primSV (p : Prim) (r : List CV) : SV := bif p.unit then .un else resSV r

def allOne : List Value → Bool
  | [] => true
  | x :: r => x.oneCell' && allOne r
theorem allOne_spec : ∀ {l : List Value}, allOne l = true → ∀ x ∈ l, x.oneCell' = true
  | [], _, x, hx => by cases hx
  | y :: l, h, x, hx => by
    simp only [allOne, Bool.and_eq_true] at h
    rcases List.mem_cons.1 hx with rfl | hx
    · exact h.1
    · exact allOne_spec h.2 x hx
def nval (P : Program) (T : Tab) (s : St) (op : Op) (ext : Bool) (keep : Kp) (K : SV → Loc → Mem → List Nat → Prop) : Prop :=
  match op with
  | .alloc t => match T t with
    | some i => nNew s t i.zero ext K
    | none => False
  | .box t y => match ev s y with
    | .c (.a c) => nNew s t c ext K
    | .c (.v z) => nNew s t [.one z] ext K
    | .tt => nNew s t [.one (.bool true)] ext K
    | .ff => nNew s t [.one (.bool false)] ext K
    | _ => False
  | .store t x y => match keep with
    | .all => False
    | .none => nStore T s t (ev s x) (ev s y) fun L m => K .un L m []
    | .but h => bif atHandle h (ev s x) then nStore T s t (ev s x) (ev s y) (fun L m => K .un L m s.x) else False
    | .new n => bif newHandle n (ev s x) then nStore T s t (ev s x) (ev s y) (fun L m => K .un L m s.x) else False
  | .call ⟨.value (.func f), args, _⟩ => match closed (args.toList.map (ev s)) with
    | Option.none => False
    | some cs => match keep with
      | .all => XCall P f cs s.m fun r m' => Kept s.x s.m m' ∧ K (resSV r) s.L m' s.x
      | .none => XCall P f cs s.m fun r m' => K (resSV r) s.L m' []
      | .but _ => False
      | .new _ => False
  | .call ⟨.value (.tmp t), args, _⟩ => match s.fr t with
    | .c (.v (.func (.func f) first captured)) => bif allOne first.toList && allOne captured.toList then (match closed (args.toList.map (ev s)) with
      | Option.none => False
      | some cs => match keep with
        | .all => XCall P f (first.toList.map CV.v ++ cs ++ captured.toList.map CV.v) s.m fun r m' => Kept s.x s.m m' ∧ K (resSV r) s.L m' s.x
        | .none => XCall P f (first.toList.map CV.v ++ cs ++ captured.toList.map CV.v) s.m fun r m' => K (resSV r) s.L m' []
        | .but _ => False
        | .new _ => False) else False
    | _ => False
  | op => match primOf op with
    | Option.none => False
    | some (p, xs) => match closed (xs.map (ev s)) with
      | Option.none => False
      | some cs => match keep with
        | .all => XPrim P p cs s.m fun r m' => Kept s.x s.m m' ∧ K (primSV p r) s.L m' s.x
        | .none => XPrim P p cs s.m fun r m' => K (primSV p r) s.L m' []
        | .but _ => False
        | .new _ => False

/-- what an operation leaves alone -/
def Pres (ρ : List Nat) (x : List Nat) (W W' : World) (x' : List Nat) : Kp → Prop
  | .all => (∀ b, b ∈ ρ ∨ b ∈ x → W'.heap[b]? = W.heap[b]?) ∧ ∀ b ∈ x, b ∈ x'
  | .none => True
  | .but h => (∀ b, b < W.heap.size → b ≠ ρ.getD h 0 → W'.heap[b]? = W.heap[b]?) ∧ ∀ b ∈ x, b ∈ x'
  | .new n => (∀ b, b ∈ ρ.take n → W'.heap[b]? = W.heap[b]?) ∧ ∀ b ∈ x, b ∈ x'
theorem Pres.same {ρ x : List Nat} {W W' : World} (h : ∀ b : Nat, W'.heap[b]? = W.heap[b]?) {x' : List Nat} (hx : ∀ b ∈ x, b ∈ x') : ∀ keep, Pres ρ x W W' x' keep
  | .all => ⟨fun b _ => h b, hx⟩
  | .none => trivial
  | .but _ => ⟨fun b _ _ => h b, hx⟩
  | .new _ => ⟨fun b _ => h b, hx⟩

section
variable {P : Program} {T : Tab} {nt : Nat} {D : List Deferred} {m0 : Mem} {W0 : World} {ρ : List Nat} {s : St} {a : Act} {W : World}

/-- blocks that nobody knows stay as they were -/
def Outs (m : Mem) (ρ : List Nat) (W : World) (m' : Mem) (e : List Nat) (W' : World) : Prop := ∀ b : Nat, b < W.heap.size → m b = none → b ∉ ρ → W'.heap[b]? = W.heap[b]? ∧ m' b = none ∧ b ∉ e
/-- what is to be shown of an operation that makes or changes memory -/
def NPost (nt : Nat) (D : List Deferred) (m0 : Mem) (W0 : World) (ρ : List Nat) (s : St) (a : Act) (W : World) (d : Option Nat) (keep : Kp) (K : SV → Loc → Mem → List Nat → Prop) : Act → World → Prop := fun a' W' =>
  ∃ sv L' m' x' e, K sv L' m' x' ∧ Rel nt D m0 W0 (ρ ++ e) ⟨putF s.fr d sv, L', m', x'⟩ a' W' ∧ Pres ρ s.x W W' x' keep ∧ Outs s.m ρ W m' e W' ∧ ∃ v, a' = a.put d v

theorem Rel.out (hr : Rel nt D m0 W0 ρ s a W) {h : Nat} (hh : h < ρ.length) : s.m (ρ.getD h 0) = none ∧ W0.heap.size ≤ ρ.getD h 0 ∧ ρ.getD h 0 < W.heap.size := by
  have hl : h < s.L.length := by rw [← hr.len]; exact hh
  have := hr.locs h s.L[h].1 s.L[h].2 (by rw [List.getElem?_eq_getElem hl])
  exact ⟨this.2.2.1, this.2.2.2, (Array.getElem?_eq_some_iff.1 this.1).1⟩
theorem mem_getD {b : Nat} (h : b ∈ ρ) : ∃ i, i < ρ.length ∧ ρ.getD i 0 = b := by
  obtain ⟨i, hi, he⟩ := List.getElem_of_mem h
  exact ⟨i, hi, by simp [List.getD_eq_getElem?_getD, List.getElem?_eq_getElem hi, he]⟩
theorem Rel.seen_lt (hr : Rel nt D m0 W0 ρ s a W) {b : Nat} (h : b ∈ ρ ∨ b ∈ s.x) : b < W.heap.size := by
  rcases h with h | h
  · obtain ⟨i, hi, rfl⟩ := mem_getD h; exact (hr.out hi).2.2
  · obtain ⟨o, ho⟩ := hr.seen b h; exact hr.after.over.lt ho

/-- a new block of the call's own, that nobody else knows -/
theorem Rel.newLocal (hr : Rel nt D m0 W0 ρ s a W) {d : Option Nat} (hd : dstIn d a.tmps.size) (t : TypeId) {c : LB} (hc : LB.ok c) :
    Rel nt D m0 W0 (ρ ++ [W.heap.size]) ⟨putF s.fr d (.p s.L.length 0), s.L ++ [(t, c)], s.m, s.x⟩ (a.put d (.pointer (some ⟨W.heap.size, 0, none⟩))) (W.alloc (.cells (LB.cells c).toArray t)) := by
  have hlen := hr.len
  refine ⟨by rw [Act.put_defers_eq]; exact hr.defers, by rw [Act.put_size]; exact hr.size, ?_, by simp [hlen], ?_, ?_, hr.after.allocOut _, hr.seen⟩
  · refine hr.putSlots hd (y := .p s.L.length 0) (.inr ⟨trivial, by simp [SV.under, hlen]⟩) _ (.inr ?_)
    simp [conc, ← hlen, List.getD_eq_getElem?_getD]
  · intro h t' c' hh
    by_cases hlt : h < s.L.length
    · rw [List.getElem?_append_left hlt] at hh
      have hg : (ρ ++ [W.heap.size]).getD h 0 = ρ.getD h 0 := by
        simp only [List.getD_eq_getElem?_getD]; rw [List.getElem?_append_left (by omega)]
      rw [hg]
      obtain ⟨h1, h2, h3, h4⟩ := hr.locs h t' c' hh
      refine ⟨?_, h2, h3, h4⟩
      rw [heap_alloc_old W _ (Array.getElem?_eq_some_iff.1 h1).1]; exact h1
    · have he : h = s.L.length := by
        have := (List.getElem?_eq_some_iff.1 hh).1
        simp at this; omega
      subst he
      simp at hh
      obtain ⟨rfl, rfl⟩ := hh
      have hg : (ρ ++ [W.heap.size]).getD s.L.length 0 = W.heap.size := by simp [← hlen, List.getD_eq_getElem?_getD]
      rw [hg]
      exact ⟨heap_alloc_new W _, hc, hr.after.over.none (Nat.le_refl _), hr.after.size⟩
  · rw [List.nodup_append]
    refine ⟨hr.nodup, by simp, ?_⟩
    intro b hb b' hb'
    simp at hb'
    subst hb'
    obtain ⟨i, hi, rfl⟩ := mem_getD hb
    have := (hr.out hi).2.2
    omega

theorem keep_alloc (hr : Rel nt D m0 W0 ρ s a W) (o : Obj) : ∀ b, b ∈ ρ ∨ b ∈ s.x → (W.alloc o).heap[b]? = W.heap[b]? :=
  fun _ hb => heap_alloc_old W o (hr.seen_lt hb)

theorem nodup_inj : ∀ {l : List Nat}, l.Nodup → ∀ {i j : Nat} (hi : i < l.length) (hj : j < l.length), l[i] = l[j] → i = j
  | [], _, _, _, hi, _, _ => by simp at hi
  | x :: l, hn, 0, 0, _, _, _ => rfl
  | x :: l, hn, 0, j + 1, _, hj, h => by
    have := (List.nodup_cons.1 hn).1
    simp at h
    exact absurd (h ▸ List.getElem_mem _) this
  | x :: l, hn, i + 1, 0, hi, _, h => by
    have := (List.nodup_cons.1 hn).1
    simp at h
    exact absurd (h ▸ List.getElem_mem _) this
  | x :: l, hn, i + 1, j + 1, hi, hj, h => by
    simp at h
    exact congrArg (· + 1) (nodup_inj (List.nodup_cons.1 hn).2 (by simpa using hi) (by simpa using hj) h)

theorem outs_alloc (o : Obj) (m : Mem) (e : List Nat) (he : ∀ b ∈ e, b = W.heap.size) : Outs m ρ W m e (W.alloc o) := fun b hb hm _ =>
  ⟨heap_alloc_old W o hb, hm, fun h => by have := he b h; omega⟩
theorem outs_known (o : Obj) (m : Mem) : Outs m ρ W (m.set W.heap.size o) [] (W.alloc o) := fun b hb hm _ =>
  ⟨heap_alloc_old W o hb, by rw [Mem.set_ne _ _ (by omega)]; exact hm, by simp⟩
theorem keep_pres (hr : Rel nt D m0 W0 ρ s a W) (o : Obj) : ∀ keep, Pres ρ s.x W (W.alloc o) s.x keep
  | .all => ⟨keep_alloc hr o, fun _ hb => hb⟩
  | .none => trivial
  | .but _ => ⟨fun _ hb _ => heap_alloc_old W o hb, fun _ hb => hb⟩
  | .new _ => ⟨fun _ hb => keep_alloc hr o _ (.inl (List.mem_of_mem_take hb)), fun _ hb => hb⟩

/-- a block of the call's own is written -/
theorem Rel.setLocal (hr : Rel nt D m0 W0 ρ s a W) {d : Option Nat} (hd : dstIn d a.tmps.size) {h : Nat} {t : TypeId} {c c' : LB} (hh : s.L[h]? = some (t, c)) (hc' : LB.ok c') :
    Rel nt D m0 W0 ρ ⟨putF s.fr d .un, s.L.set h (t, c'), s.m, s.x⟩ (a.put d undef) (W.setRow (ρ.getD h 0) (LB.cells c').toArray) := by
  have hlen := hr.len
  have hl : h < s.L.length := (List.getElem?_eq_some_iff.1 hh).1
  have hlρ : h < ρ.length := by omega
  obtain ⟨g1, g2, g3, g4⟩ := hr.locs h t c hh
  refine ⟨by rw [Act.put_defers_eq]; exact hr.defers, by rw [Act.put_size]; exact hr.size, ?_, by simp [hlen], ?_, hr.nodup, hr.after.setRowOut g3 g4 _, hr.seen⟩
  · have := hr.putSlots hd (e := []) (y := .un) (.inr ⟨trivial, trivial⟩) undef (.inr rfl)
    simpa using this
  · intro i t' c'' hi
    by_cases e : i = h
    · subst e
      simp [hl] at hi
      obtain ⟨rfl, rfl⟩ := hi
      exact ⟨setRow_at W _ _ _ _ _ g1, hc', g3, g4⟩
    · simp only at hi
      rw [List.getElem?_set_ne (fun e' => e e'.symm)] at hi
      have hli : i < s.L.length := (List.getElem?_eq_some_iff.1 hi).1
      obtain ⟨k1, k2, k3, k4⟩ := hr.locs i t' c'' hi
      refine ⟨?_, k2, k3, k4⟩
      rw [setRow_other W _ _ _ ?_]; exact k1
      intro he
      have : ρ[i]'(by omega) = ρ[h]'hlρ := by
        simp only [List.getD_eq_getElem?_getD, List.getElem?_eq_getElem (show i < ρ.length by omega), List.getElem?_eq_getElem hlρ, Option.getD_some] at he
        exact he
      exact e (nodup_inj hr.nodup _ _ this)

/-- a block that is known is written -/
theorem Rel.setKnown (hr : Rel nt D m0 W0 ρ s a W) {d : Option Nat} (hd : dstIn d a.tmps.size) {b : Nat} {arr : Array Value} {t : TypeId} {fr : Nat × Nat} (hb : s.m b = some (.cells arr t fr)) (cs : Array Value) :
    Rel nt D m0 W0 ρ ⟨putF s.fr d .un, s.L, s.m.set b (.cells cs t fr), []⟩ (a.put d undef) (W.setRow b cs) := by
  refine ⟨by rw [Act.put_defers_eq]; exact hr.defers, by rw [Act.put_size]; exact hr.size, ?_, hr.len, ?_, hr.nodup, hr.after.setRow hb cs, by simp⟩
  · have := hr.putSlots hd (e := []) (y := .un) (.inr ⟨trivial, trivial⟩) undef (.inr rfl)
    simpa using this
  · intro i t' c'' hi
    obtain ⟨k1, k2, k3, k4⟩ := hr.locs i t' c'' hi
    have hne : ρ.getD i 0 ≠ b := fun e => by rw [e, hb] at k3; cases k3
    exact ⟨by rw [setRow_other W _ _ _ hne]; exact k1, k2, by show Mem.set _ _ _ _ = _; rw [Mem.set_ne _ _ hne]; exact k3, k4⟩

/-- a new block that is known -/
theorem Rel.newKnown (hr : Rel nt D m0 W0 ρ s a W) {d : Option Nat} (hd : dstIn d a.tmps.size) (o : Obj) {v : Value} (hv : v.oneCell' = true) :
    Rel nt D m0 W0 ρ ⟨putF s.fr d (.c (.v v)), s.L, s.m.set W.heap.size o, s.x⟩ (a.put d v) (W.alloc o) := by
  refine ⟨by rw [Act.put_defers_eq]; exact hr.defers, by rw [Act.put_size]; exact hr.size, ?_, hr.len, ?_, hr.nodup, hr.after.alloc o, ?_⟩
  · have := hr.putSlots hd (e := []) (y := .c (.v v)) (.inr ⟨hv, trivial⟩) v (.inr rfl)
    simpa using this
  · intro i t' c'' hi
    obtain ⟨k1, k2, k3, k4⟩ := hr.locs i t' c'' hi
    have hlt := (Array.getElem?_eq_some_iff.1 k1).1
    exact ⟨by rw [heap_alloc_old W _ hlt]; exact k1, k2, by show Mem.set _ _ _ _ = _; rw [Mem.set_ne _ _ (by omega)]; exact k3, k4⟩
  · intro b hb
    obtain ⟨ob, hob⟩ := hr.seen b hb
    exact ⟨ob, Mem.sub_set _ (hr.after.over.none (Nat.le_refl _)) b ob hob⟩
end
end Go.E
