/-
  Regions that draw their order: one order, in which what only reckons and reads comes as soon as it may, serves for all.
-/
import Derived.Test.YtkapdbbjgpofnaaE11
namespace Go.E

abbrev Fact := Nat × Option Obj
def Holds (Φ : List Fact) (w : World) : Prop := ∀ f ∈ Φ, w.heap[f.1]? = f.2

/-! ### for which operations one waits, through others, too -/
def maskOf (ops : Array Oper) (ms : List Nat) (j : Nat) : Nat :=
  match ops[j]? with
  | some o => o.after.toList.foldl (fun s e => if Region.binds .any e then (s ||| 2 ^ e.on) ||| (if e.on < j then ms.getD e.on 0 else 0) else s) 0
  | none => 0
def masksOk (ops : Array Oper) (ms : List Nat) : Bool := (List.range ops.size).all fun j => (ms.getD j 0 ||| maskOf ops ms j) == maskOf ops ms j
def tw (ms : List Nat) (j i : Nat) : Bool := (ms.getD j 0).testBit i
def Cl (ops : Array Oper) (listed : Array Bool) : Prop := ∀ k o, ops[k]? = some o → listed.getD k false = true → ∀ e ∈ o.after, Region.binds .any e = true → listed.getD e.on false = true

theorem fold_bits (ms : List Nat) (j i : Nat) : ∀ (l : List Edge) (s : Nat), (l.foldl (fun s e => if Region.binds .any e then (s ||| 2 ^ e.on) ||| (if e.on < j then ms.getD e.on 0 else 0) else s) s).testBit i = true →
    s.testBit i = true ∨ ∃ e ∈ l, Region.binds .any e = true ∧ (e.on = i ∨ (e.on < j ∧ tw ms e.on i = true))
  | [], s, h => .inl h
  | e :: l, s, h => by
    simp only [List.foldl_cons] at h
    rcases fold_bits ms j i l _ h with h1 | ⟨e', he', h1⟩
    · by_cases hb : Region.binds .any e = true
      · rw [if_pos hb] at h1
        simp only [Nat.testBit_or, Bool.or_eq_true, Nat.testBit_two_pow, decide_eq_true_eq] at h1
        rcases h1 with (h1 | h1) | h1
        · exact .inl h1
        · exact .inr ⟨e, List.mem_cons_self .., hb, .inl h1⟩
        · by_cases hlt : e.on < j
          · rw [if_pos hlt] at h1
            exact .inr ⟨e, List.mem_cons_self .., hb, .inr ⟨hlt, h1⟩⟩
          · rw [if_neg hlt] at h1; simp at h1
      · rw [if_neg hb] at h1; exact .inl h1
    · exact .inr ⟨e', List.mem_cons_of_mem _ he', h1⟩

theorem tw_listed {ops : Array Oper} {ms : List Nat} (hm : masksOk ops ms = true) {listed : Array Bool} (hc : Cl ops listed) (i : Nat) : ∀ (j : Nat) (o : Oper), ops[j]? = some o → (∀ e ∈ o.after, Region.binds .any e = true → listed.getD e.on false = true) → tw ms j i = true → listed.getD i false = true := by
  intro j
  induction j using Nat.strongRecOn with
  | _ j ih =>
    intro o ho hdeps ht
    have hj : j < ops.size := (Array.getElem?_eq_some_iff.1 ho).1
    have hmj := List.all_eq_true.1 hm j (List.mem_range.2 hj)
    simp only [beq_iff_eq] at hmj
    have hb : (maskOf ops ms j).testBit i = true := by
      rw [← hmj, Nat.testBit_or]
      have : (ms.getD j 0).testBit i = true := ht
      rw [this]; rfl
    simp only [maskOf, ho] at hb
    rcases fold_bits ms j i _ _ hb with h1 | ⟨e, he, hbe, h1⟩
    · simp at h1
    · have hl := hdeps e (by simpa using he) hbe
      rcases h1 with h1 | ⟨hlt, h1⟩
      · rw [← h1]; exact hl
      · have hlt' : e.on < ops.size := by omega
        exact ih e.on hlt ops[e.on] (by simp [hlt']) (hc e.on _ (by simp [hlt']) hl) h1

theorem listed_of {listed : Array Bool} {i : Nat} (h : listed.getD i true = false) : ¬ listed.getD i false = true := by
  rcases Nat.lt_or_ge i listed.size with h' | h'
  · simp [h'] at h ⊢; exact h
  · simp [Array.getElem?_eq_none h'] at h
theorem unlisted_lt {listed : Array Bool} {i : Nat} (h : listed.getD i true = false) : i < listed.size := by
  rcases Nat.lt_or_ge i listed.size with h' | h'
  · exact h'
  · simp [Array.getElem?_eq_none h'] at h
theorem getD_set_same {listed : Array Bool} {i : Nat} (h : i < listed.size) (d : Bool) : (listed.setIfInBounds i true).getD i d = true := by simp [h]

theorem Cl.set {ops : Array Oper} {listed : Array Bool} (hc : Cl ops listed) {i : Nat} (hi : i ∈ Region.ready .any ops listed) : Cl ops (listed.setIfInBounds i true) := by
  obtain ⟨hun, oi, hoi, hall⟩ := mem_ready.1 hi
  have hlt := unlisted_lt hun
  intro k o ho hk e he hb
  have old : listed.getD e.on false = true → (listed.setIfInBounds i true).getD e.on false = true := by
    intro h
    by_cases hie : i = e.on
    · rw [← hie]; exact getD_set_same hlt _
    · rw [getD_set_ne false hie]; exact h
  by_cases hik : i = k
  · subst hik
    rw [hoi] at ho; cases ho
    exact old (hall e he hb)
  · rw [getD_set_ne false hik] at hk
    exact old (hc k o ho hk e he hb)

section
variable {P : Program} {ops : Array Oper} {Q : Exit → Act → World → Prop} {F : Nat → Fact → Prop}

/-- Whatever order is picked from here on; facts Φ hold; behind operation i those stay of which F i says so. -/
def wpAnyF (P : Program) (ops : Array Oper) (Q : Exit → Act → World → Prop) (F : Nat → Fact → Prop) : Nat → List Fact → Array Bool → Act → World → Prop
  | 0, _, listed, a, w => Region.ready .any ops listed = [] ∧ Q .normal a w
  | fuel + 1, Φ, listed, a, w =>
    (Region.ready .any ops listed = [] → Q .normal a w) ∧
    ∀ i ∈ Region.ready .any ops listed, wpOp P ops Q i (fun a' w' => ∃ Φ', Holds Φ' w' ∧ (∀ f ∈ Φ, F i f → f ∈ Φ') ∧ wpAnyF P ops Q F fuel Φ' (listed.setIfInBounds i true) a' w') a w

theorem wpAny_of_F : ∀ (fuel : Nat) (Φ : List Fact) (listed : Array Bool) (a : Act) (w : World), wpAnyF P ops Q F fuel Φ listed a w → wpAny P .any ops Q fuel listed a w
  | 0, _, _, _, _, h => h
  | fuel + 1, _, _, _, _, h => ⟨h.1, fun i hi => wpOp_mono (fun a' w' ⟨Φ', _, _, h'⟩ => wpAny_of_F fuel Φ' _ a' w' h') (h.2 i hi)⟩

theorem wpAnyF_first {i : Nat} {oi : Oper} {v : Value} {Ψ : List Fact} {ms : List Nat} (hm : masksOk ops ms = true) (hi : ops[i]? = some oi) (hsel : ∀ (j : Nat) (o : Oper) cs b, ops[j]? = some o → o.op ≠ .select cs b)
    (hQ : ∀ c a w, Q (.panic c) (a.put oi.dst v) w → Q (.panic c) a w) :
    ∀ (fuel : Nat) (Φ : List Fact) (listed : Array Bool) (a : Act) (w : World), Cl ops listed →
      (∀ j oj, ops[j]? = some oj → j ≠ i → listed.getD j true = false → tw ms j i = false → oi.apart ops oj = true ∧ ∀ f ∈ Ψ, F j f) →
      i ∈ Region.ready .any ops listed → YieldsIf P ops (Holds Ψ) oi v a → Holds Φ w → (∀ f ∈ Ψ, f ∈ Φ) →
      wpAnyF P ops Q F fuel Φ (listed.setIfInBounds i true) (a.put oi.dst v) w → wpAnyF P ops Q F (fuel + 1) Φ listed a w := by
  intro fuel
  induction fuel with
  | zero =>
    intro Φ listed a w _ _ hr hy hS hsub H
    refine ⟨fun h => (by rw [h] at hr; cases hr), fun j hj => ?_⟩
    by_cases hji : j = i
    · subst hji; exact hy.wpOp hi (fun f hf => hS f (hsub f hf)) ⟨Φ, hS, fun f hf _ => hf, H⟩
    · have := ready_mono hj hji
      rw [H.1] at this
      cases this
  | succ fuel ih =>
    intro Φ listed a w hcl hfree hr hy hS hsub H
    refine ⟨fun h => (by rw [h] at hr; cases hr), fun j hj => ?_⟩
    by_cases hji : j = i
    · subst hji; exact hy.wpOp hi (fun f hf => hS f (hsub f hf)) ⟨Φ, hS, fun f hf _ => hf, H⟩
    · have h1 := H.2 j (ready_mono hj hji)
      obtain ⟨hjun, oj, hoj, hall⟩ := mem_ready.1 hj
      have hnot : tw ms j i = false := by
        cases ht : tw ms j i with
        | false => rfl
        | true => exact absurd (tw_listed hm hcl i j oj hoj hall ht) (listed_of (mem_ready.1 hr).1)
      obtain ⟨hap, hF⟩ := hfree j oj hoj hji hjun hnot
      have h2 := wpOp_putIf hoj hap (fun cs b => hsel i oi cs b hi) (fun cs b => hsel j oj cs b hoj) hQ hy h1
      have hfree' : ∀ k ok, ops[k]? = some ok → k ≠ i → (listed.setIfInBounds j true).getD k true = false → tw ms k i = false → oi.apart ops ok = true ∧ ∀ f ∈ Ψ, F k f := fun k ok hk hki hun hno => by
        refine hfree k ok hk hki ?_ hno
        by_cases hjk : j = k
        · subst hjk; exact hjun
        · rw [getD_set_ne true hjk] at hun; exact hun
      refine wpOp_mono (fun a' w' h3 => ?_) h2
      obtain ⟨hy', Φ', hH', hF', H'⟩ := h3
      refine ⟨Φ', hH', hF', ih Φ' (listed.setIfInBounds j true) a' w' (hcl.set hj) hfree' (ready_mono hr (Ne.symm hji)) hy' hH' (fun f hf => hF' f (hsub f hf) (hF f hf)) ?_⟩
      rw [Array.setIfInBounds_comm _ _ hji]
      exact H'
end

/-! ### the order, and whether it serves -/
def floatAt (T : Tab) (ops : Array Oper) (j : Nat) : Bool :=
  match ops[j]? with
  | some oj => floaty T oj.op
  | none => true
/-- a new variable: it may be made at any time -/
def allocAt (T : Tab) (ops : Array Oper) (j : Nat) : Bool :=
  match ops[j]? with
  | some o => match o.op with
    | .alloc t => o.guard.isNone && o.dst.isSome && (T t).isSome
    | _ => false
  | none => false
def apartAt (ops : Array Oper) (i j : Nat) : Bool :=
  match ops[i]?, ops[j]? with
  | some oi, some oj => oi.apart ops oj
  | _, _ => true
def isAll : Ks → Bool
  | .all => true
  | _ => false
def isNone : Ks → Bool
  | .none => true
  | _ => false

def OT.els : OT → List (Nat × Ks)
  | .nil => []
  | .op i k r => (i, k) :: r.els
  | .or a _ => a.els
def OT.heads : OT → List Nat
  | .nil => []
  | .op i _ _ => [i]
  | .or a b => a.heads ++ b.heads
def ksB : Ks → Ks → Bool
  | .all, .all => true
  | .none, .none => true
  | .but r, .but r' => Nat.beq r r'
  | .new, .new => true
  | _, _ => false
def rmB (x : Nat × Ks) : List (Nat × Ks) → Option (List (Nat × Ks))
  | [] => none
  | y :: l => bif Nat.beq x.1 y.1 && ksB x.2 y.2 then some l else (match rmB x l with | some l' => some (y :: l') | none => none)
def permB : List (Nat × Ks) → List (Nat × Ks) → Bool
  | [], [] => true
  | x :: a, b => match rmB x b with
    | some b' => permB a b'
    | none => false
  | _, _ => false
def stepB (T : Tab) (ops : Array Oper) (ms : List Nat) (H : List Nat) (i : Nat) (k : Ks) (r : List (Nat × Ks)) : Bool :=
  match ops[i]? with
  | none => false
  | some o =>
    o.after.all (fun e => !Region.binds .any e || (Nat.blt e.on ops.size && !(((i, k) :: r).any fun x => x.1 == e.on))) &&
    !(r.any fun x => x.1 == i) &&
    (if floaty T o.op then isAll k && H == [i] && r.all (fun x => (tw ms x.1 i && !allocAt T ops x.1) || (apartAt ops i x.1 && (!isLoad T o.op || !isNone x.2)))
      else (!allocAt T ops i || (isAll k && H == [i])) && r.all (fun x => (H.any (fun h => tw ms x.1 h) && !allocAt T ops x.1) || (apartAt ops i x.1 && allocAt T ops x.1) || (H.contains x.1 && !allocAt T ops x.1)))
def ordSt (T : Tab) (ops : Array Oper) (ms : List Nat) : List Nat → OT → Bool
  | _, .nil => true
  | H, .op i k r => stepB T ops ms H i k r.els && ordSt T ops ms r.heads r
  | H, .or a b => permB a.els b.els && ordSt T ops ms H a && ordSt T ops ms H b
def ordOk (T : Tab) (ops : Array Oper) (od : Ord) : Bool :=
  Region.noSelect ops && masksOk ops od.ms && (List.range ops.size).all (fun j => od.od.els.any fun x => x.1 == j) && od.od.els.length == ops.size && ordSt T ops od.ms od.od.heads od.od

/-- an address that lies in another block than the one to which r leads -/
def diffH (x r : SV) : Bool :=
  match r with
  | .p h _ => match x with
    | .p h' _ => !Nat.beq h' h
    | .q h' _ _ => !Nat.beq h' h
    | .sl h' _ _ _ _ => !Nat.beq h' h
    | .c _ => true
    | _ => false
  | _ => false
/-- an address that lies in a block of the call's own that is elder than n -/
def oldH (n : Nat) : SV → Bool
  | .p h _ => Nat.blt h n
  | .q h _ _ => Nat.blt h n
  | .sl h _ _ _ _ => Nat.blt h n
  | _ => false
def ldOk (s0 : St) (ms : List Nat) (i : Nat) (x : SV) : List (Nat × Ks) → Bool
  | [] => true
  | (j, .but r) :: l => (bif tw ms j i then true else diffH x (s0.fr r)) && ldOk s0 ms i x l
  | (j, .new) :: l => (bif tw ms j i then true else oldH s0.L.length x) && ldOk s0 ms i x l
  | _ :: l => ldOk s0 ms i x l
def loadOk (T : Tab) (s0 : St) (ms : List Nat) (i : Nat) (o : Oper) (s : St) (r : List (Nat × Ks)) : Bool :=
  match ldArg T o.op with
  | some x => ldOk s0 ms i (ev s x) r
  | none => true
def kpOf (s0 : St) : Ks → Kp
  | .all => .all
  | .none => .none
  | .but r => match s0.fr r with
    | .p h _ => .but h
    | _ => .all
  | .new => .new s0.L.length

def xord (c : Cfg) (ops : List Oper) (ms : List Nat) (s0 : St) : OT → (St → Prop) → St → Prop
  | .nil, K, s => K s
  | .op i k r, K, s => match nth ops i with
    | some o => bif loadOk c.T s0 ms i o s r.els then xop c ops o (kpOf s0 k) s (xord c ops ms s0 r K) else False
    | none => False
  | .or a b, K, s => xord c ops ms s0 a K s ∧ xord c ops ms s0 b K s
/-- the slots of new variables hold nothing yet -/
def fresh (s : St) : List Oper → Bool
  | [] => true
  | o :: r => match o.op with
    | .alloc _ => match o.dst with
      | some d => match s.fr d with
        | .any => fresh s r
        | _ => false
      | none => fresh s r
    | _ => fresh s r

abbrev RE := List (Nat × Ks × Option Nat)
def strip (r : RE) : List (Nat × Ks) := r.map fun x => (x.1, x.2.1)
def cnt : RE → Nat
  | [] => 0
  | (_, _, none) :: r => cnt r + 1
  | (_, _, some _) :: r => cnt r
theorem cnt_append : ∀ (p q : RE), cnt (p ++ q) = cnt p + cnt q
  | [], q => by simp [cnt]
  | (_, _, none) :: p, q => by simp only [List.cons_append, cnt, cnt_append p q]; omega
  | (_, _, some _) :: p, q => by simp only [List.cons_append, cnt, cnt_append p q]

def factsOf (ρ : List Nat) (x : List Nat) (W : World) : List Fact := (ρ ++ x).map fun b => (b, W.heap[b]?)
theorem factsOf_holds (ρ x : List Nat) (W : World) : Holds (factsOf ρ x W) W := by
  intro f hf
  simp only [factsOf, List.mem_map] at hf
  obtain ⟨b, _, rfl⟩ := hf
  rfl
theorem factsOf_mono {ρ x : List Nat} {W : World} {ρ' x' : List Nat} {W' : World} (h1 : ∀ b ∈ ρ, b ∈ ρ') (h2 : ∀ b ∈ x, b ∈ x') (h3 : ∀ b, b ∈ ρ ∨ b ∈ x → W'.heap[b]? = W.heap[b]?) : ∀ f ∈ factsOf ρ x W, f ∈ factsOf ρ' x' W' := by
  intro f hf
  simp only [factsOf, List.mem_map, List.mem_append] at hf ⊢
  obtain ⟨b, hb, rfl⟩ := hf
  exact ⟨b, hb.imp (h1 b) (h2 b), by rw [h3 b hb]⟩

/-- does k keep the fact f? (ρ: the blocks at the region's beginning) -/
def KeepF (s0 : St) (ρ0 : List Nat) (f : Fact) : Ks → Prop
  | .all => True
  | .none => False
  | .but r => ∀ h off, s0.fr r = .p h off → f.1 ≠ ρ0.getD h 0
  | .new => f.1 ∈ ρ0

section
variable {c : Cfg} {nt : Nat} {D : List Deferred} {m0 : Mem} {W0 : World}

/-- a new variable that was made ahead of its turn -/
structure Early (c : Cfg) (W0 : World) (ops : Array Oper) (s : St) (ρ : List Nat) (a : Act) (W : World) (j b : Nat) : Prop where
  lies : ∃ o t ti d, ops[j]? = some o ∧ o.op = .alloc t ∧ o.guard = none ∧ o.dst = some d ∧ c.T t = some ti ∧ W.heap[b]? = some (.cells (LB.cells ti.zero).toArray t (0, 0)) ∧ a.tmps[d]? = some (.pointer (some ⟨b, 0, none⟩))
  out : s.m b = none
  new : W0.heap.size ≤ b
  own : b ∉ ρ

structure RInv (c : Cfg) (nt : Nat) (D : List Deferred) (m0 : Mem) (W0 : World) (ops : Array Oper) (od : List (Nat × Ks)) (ρ0 : List Nat) (r : RE) (La : Array Bool) (s : St) (ρ : List Nat) (a : Act) (W : World) : Prop where
  rel : Rel nt D m0 W0 ρ s a W
  cl : Cl ops La
  lsz : La.size = ops.size
  hun : ∀ j, j < ops.size → La.getD j true = false → ∃ k, (j, k, none) ∈ r
  hli : ∀ j k, (j, k, none) ∈ r → La.getD j true = false
  odr : ∀ x ∈ od, (∃ b, (x.1, x.2, b) ∈ r) ∨ La.getD x.1 false = true
  rod : ∀ j k b, (j, k, b) ∈ r → (j, k) ∈ od
  early : ∀ j k b, (j, k, some b) ∈ r → La.getD j false = true ∧ Early c W0 ops s ρ a W j b
  dist : ∀ j k j' k' b, (j, k, some b) ∈ r → (j', k', some b) ∈ r → j = j'
  anys : ∀ j k b o d, (j, k, b) ∈ r → allocAt c.T ops j = true → ops[j]? = some o → o.dst = some d → s.fr d = .any
  ext : ∃ e, ρ = ρ0 ++ e

/-- a block that was made ahead becomes one of the call's own -/
theorem Rel.adopt {ρ : List Nat} {s : St} {a : Act} {W : World} (hr : Rel nt D m0 W0 ρ s a W) {d b : Nat} (hs : a.tmps[d]? = some (.pointer (some ⟨b, 0, none⟩))) {t : TypeId} {cc : LB} (hc : LB.ok cc)
    (hW : W.heap[b]? = some (.cells (LB.cells cc).toArray t (0, 0))) (hm : s.m b = none) (hn : W0.heap.size ≤ b) (ho : b ∉ ρ) :
    Rel nt D m0 W0 (ρ ++ [b]) ⟨putF s.fr (some d) (.p s.L.length 0), s.L ++ [(t, cc)], s.m, s.x⟩ a W := by
  have hlen := hr.len
  refine ⟨hr.defers, hr.size, fun i => ?_, by simp [hlen], ?_, ?_, hr.after, hr.seen⟩
  · show putF s.fr (some d) _ i = .any ∨ _
    simp only [putF_at, Option.some.injEq]
    by_cases e : d = i
    · subst e
      rw [if_pos rfl]
      refine .inr ⟨?_, trivial, by simp [SV.under, hlen]⟩
      rw [hs]
      simp [conc, ← hlen, List.getD_eq_getElem?_getD]
    · rw [if_neg e]
      rcases hr.slots i with h1 | ⟨h1, h2, h3⟩
      · exact .inl h1
      · exact .inr ⟨by rw [conc_append h3]; exact h1, h2, SV.under_mono h3 (by simp)⟩
  · intro h t' c' hh
    by_cases hlt : h < s.L.length
    · rw [List.getElem?_append_left hlt] at hh
      have hg : (ρ ++ [b]).getD h 0 = ρ.getD h 0 := by
        simp only [List.getD_eq_getElem?_getD]; rw [List.getElem?_append_left (by omega)]
      rw [hg]
      exact hr.locs h t' c' hh
    · have he : h = s.L.length := by
        have := (List.getElem?_eq_some_iff.1 hh).1
        simp at this; omega
      subst he
      simp at hh
      obtain ⟨rfl, rfl⟩ := hh
      have hg : (ρ ++ [b]).getD s.L.length 0 = b := by simp [← hlen, List.getD_eq_getElem?_getD]
      rw [hg]
      exact ⟨hW, hc, hm, hn⟩
  · rw [List.nodup_append]
    refine ⟨hr.nodup, by simp, ?_⟩
    intro x hx y hy
    simp at hy
    subst hy
    intro e; exact ho (e ▸ hx)
theorem Rel.adoptKnown {ρ : List Nat} {s : St} {a : Act} {W : World} (hr : Rel nt D m0 W0 ρ s a W) {d b : Nat} (hs : a.tmps[d]? = some (.pointer (some ⟨b, 0, none⟩))) {o : Obj}
    (hW : W.heap[b]? = some o) (hm : s.m b = none) (hn : W0.heap.size ≤ b) (ho : b ∉ ρ) :
    Rel nt D m0 W0 ρ ⟨putF s.fr (some d) (.c (.v (.pointer (some ⟨b, 0, none⟩)))), s.L, s.m.set b o, s.x⟩ a W := by
  refine ⟨hr.defers, hr.size, fun i => ?_, hr.len, ?_, hr.nodup, ?_, ?_⟩
  · show putF s.fr (some d) _ i = .any ∨ _
    simp only [putF_at, Option.some.injEq]
    by_cases e : d = i
    · subst e
      rw [if_pos rfl]
      exact .inr ⟨hs, rfl, trivial⟩
    · rw [if_neg e]; exact hr.slots i
  · intro i t' c'' hi
    obtain ⟨k1, k2, k3, k4⟩ := hr.locs i t' c'' hi
    have hlt : i < ρ.length := by rw [hr.len]; exact (List.getElem?_eq_some_iff.1 hi).1
    have hne : ρ.getD i 0 ≠ b := fun e => ho (e ▸ getD_mem hlt)
    exact ⟨k1, k2, by show Mem.set _ _ _ _ = _; rw [Mem.set_ne _ _ hne]; exact k3, k4⟩
  · have ha := hr.after
    show After m0 W0 (s.m.set b o) W
    refine ⟨fun x u hx => ?_, ha.size, ha.tape, ha.os, ha.output, fun x hx hn' => ?_⟩
    · by_cases e : x = b
      · subst e; rw [Mem.set_same] at hx; cases hx; exact hW
      · rw [Mem.set_ne _ _ e] at hx; exact ha.over x u hx
    · obtain ⟨q1, q2⟩ := ha.frame x hx hn'
      exact ⟨by rw [Mem.set_ne _ _ (by omega)]; exact q1, q2⟩
  · intro x hx
    obtain ⟨u, hu⟩ := hr.seen x hx
    exact ⟨u, Mem.sub_set _ hm x u hu⟩
/-- a slot of which nothing is known is written; a block that nobody knows is made -/
theorem Rel.ahead {ρ : List Nat} {s : St} {a : Act} {W : World} (hr : Rel nt D m0 W0 ρ s a W) {d : Nat} (hs : s.fr d = .any) (v : Value) (o : Obj) : Rel nt D m0 W0 ρ s (a.put (some d) v) (W.alloc o) := by
  refine ⟨by rw [Act.put_defers_eq]; exact hr.defers, by rw [Act.put_size]; exact hr.size, fun i => ?_, hr.len, ?_, hr.nodup, hr.after.allocOut o, hr.seen⟩
  · by_cases e : d = i
    · subst e; exact .inl hs
    · rcases hr.slots i with h1 | ⟨h1, h2⟩
      · exact .inl h1
      · refine .inr ⟨?_, h2⟩
        simp only [Act.put]
        rw [Array.getElem?_setIfInBounds_ne e]; exact h1
  · intro i t' c'' hi
    obtain ⟨k1, k2⟩ := hr.locs i t' c'' hi
    exact ⟨by rw [heap_alloc_old W _ (Array.getElem?_eq_some_iff.1 k1).1]; exact k1, k2⟩
end
end Go.E
