/-
  E12, E12b
-/
import Derived.Test.YtcionccfgcnhoaaGreatDoorStoreRefusesZ2
namespace Go.E
abbrev Fact := Nat × Option Obj
def Holds (Φ : List Fact) (w : World) : Prop := ∀ f ∈ Φ, w.heap[f.1]? = f.2
def maskOf (ops : Array Oper) (ms : List Nat) (j : Nat) : Nat :=
  match ops[j]? with
  | some o => o.after.toList.foldl (fun s e => if Region.binds .any e then (s ||| 2 ^ e.on) ||| (if e.on < j then ms.getD e.on 0 else 0) else s) 0
  | none => 0
def masksOk (ops : Array Oper) (ms : List Nat) : Bool := (List.range ops.size).all fun j => (ms.getD j 0 ||| maskOf ops ms j) == maskOf ops ms j
def tw (ms : List Nat) (j i : Nat) : Bool := (ms.getD j 0).testBit i
def Cl (ops : Array Oper) (listed : Array Bool) : Prop := ∀ k o, ops[k]? = some o → listed.getD k false = true → ∀ e ∈ o.after, Region.binds .any e = true → listed.getD e.on false = true
theorem fold_bits (ms : List Nat) (j i : Nat) : ∀ (l : List Edge) (s : Nat), (l.foldl (fun s e => if Region.binds .any e then (s ||| 2 ^ e.on) ||| (if e.on < j then ms.getD e.on 0 else 0) else s) s).testBit i = true →
    s.testBit i = true ∨ ∃ e ∈ l, Region.binds .any e = true ∧ (e.on = i ∨ (e.on < j ∧ tw ms e.on i = true))
  | [], s, h => .inl h
  | e :: l, s, h => by
    simp only [List.foldl_cons] at h
    rcases fold_bits ms j i l _ h with h1 | ⟨e', he', h1⟩
    · by_cases hb : Region.binds .any e = true
      · rw [if_pos hb] at h1
        simp only [Nat.testBit_or, Bool.or_eq_true, Nat.testBit_two_pow, decide_eq_true_eq] at h1
        rcases h1 with (h1 | h1) | h1
        · exact .inl h1
        · exact .inr ⟨e, List.mem_cons_self .., hb, .inl h1⟩
        · by_cases hlt : e.on < j
          · rw [if_pos hlt] at h1
            exact .inr ⟨e, List.mem_cons_self .., hb, .inr ⟨hlt, h1⟩⟩
          · rw [if_neg hlt] at h1; simp at h1
      · rw [if_neg hb] at h1; exact .inl h1
    · exact .inr ⟨e', List.mem_cons_of_mem _ he', h1⟩
theorem tw_listed {ops : Array Oper} {ms : List Nat} (hm : masksOk ops ms = true) {listed : Array Bool} (hc : Cl ops listed) (i : Nat) : ∀ (j : Nat) (o : Oper), ops[j]? = some o → (∀ e ∈ o.after, Region.binds .any e = true → listed.getD e.on false = true) → tw ms j i = true → listed.getD i false = true := by
  intro j
  induction j using Nat.strongRecOn with
  | _ j ih =>
    intro o ho hdeps ht
    have hj : j < ops.size := (Array.getElem?_eq_some_iff.1 ho).1
    have hmj := List.all_eq_true.1 hm j (List.mem_range.2 hj)
    simp only [beq_iff_eq] at hmj
    have hb : (maskOf ops ms j).testBit i = true := by
      rw [← hmj, Nat.testBit_or]
      have : (ms.getD j 0).testBit i = true := ht
      rw [this]; rfl
    simp only [maskOf, ho] at hb
    rcases fold_bits ms j i _ _ hb with h1 | ⟨e, he, hbe, h1⟩
    · simp at h1
    · have hl := hdeps e (by simpa using he) hbe
      rcases h1 with h1 | ⟨hlt, h1⟩
      · rw [← h1]; exact hl
      · have hlt' : e.on < ops.size := by omega
        exact ih e.on hlt ops[e.on] (by simp [hlt']) (hc e.on _ (by simp [hlt']) hl) h1
theorem listed_of {listed : Array Bool} {i : Nat} (h : listed.getD i true = false) : ¬ listed.getD i false = true := by
  rcases Nat.lt_or_ge i listed.size with h' | h'
  · simp [h'] at h ⊢; exact h
  · simp [Array.getElem?_eq_none h'] at h
theorem unlisted_lt {listed : Array Bool} {i : Nat} (h : listed.getD i true = false) : i < listed.size := by
  rcases Nat.lt_or_ge i listed.size with h' | h'
  · exact h'
  · simp [Array.getElem?_eq_none h'] at h
theorem getD_set_same {listed : Array Bool} {i : Nat} (h : i < listed.size) (d : Bool) : (listed.setIfInBounds i true).getD i d = true := by simp [h]
theorem Cl.set {ops : Array Oper} {listed : Array Bool} (hc : Cl ops listed) {i : Nat} (hi : i ∈ Region.ready .any ops listed) : Cl ops (listed.setIfInBounds i true) := by
  obtain ⟨hun, oi, hoi, hall⟩ := mem_ready.1 hi
  have hlt := unlisted_lt hun
  intro k o ho hk e he hb
  have old : listed.getD e.on false = true → (listed.setIfInBounds i true).getD e.on false = true := by
    intro h
    by_cases hie : i = e.on
    · rw [← hie]; exact getD_set_same hlt _
    · rw [getD_set_ne false hie]; exact h
  by_cases hik : i = k
  · subst hik
    rw [hoi] at ho; cases ho
    exact old (hall e he hb)
  · rw [getD_set_ne false hik] at hk
    exact old (hc k o ho hk e he hb)
section
variable {P : Program} {ops : Array Oper} {Q : Exit → Act → World → Prop} {F : Nat → Fact → Prop}
def wpAnyF (P : Program) (ops : Array Oper) (Q : Exit → Act → World → Prop) (F : Nat → Fact → Prop) : Nat → List Fact → Array Bool → Act → World → Prop
  | 0, _, listed, a, w => Region.ready .any ops listed = [] ∧ Q .normal a w
  | fuel + 1, Φ, listed, a, w =>
    (Region.ready .any ops listed = [] → Q .normal a w) ∧
    ∀ i ∈ Region.ready .any ops listed, wpOp P ops Q i (fun a' w' => ∃ Φ', Holds Φ' w' ∧ (∀ f ∈ Φ, F i f → f ∈ Φ') ∧ wpAnyF P ops Q F fuel Φ' (listed.setIfInBounds i true) a' w') a w
theorem wpAny_of_F : ∀ (fuel : Nat) (Φ : List Fact) (listed : Array Bool) (a : Act) (w : World), wpAnyF P ops Q F fuel Φ listed a w → wpAny P .any ops Q fuel listed a w
  | 0, _, _, _, _, h => h
  | fuel + 1, _, _, _, _, h => ⟨h.1, fun i hi => wpOp_mono (fun a' w' ⟨Φ', _, _, h'⟩ => wpAny_of_F fuel Φ' _ a' w' h') (h.2 i hi)⟩
theorem wpAnyF_first {i : Nat} {oi : Oper} {v : Value} {Ψ : List Fact} {ms : List Nat} (hm : masksOk ops ms = true) (hi : ops[i]? = some oi) (hsel : ∀ (j : Nat) (o : Oper) cs b, ops[j]? = some o → o.op ≠ .select cs b)
    (hQ : ∀ c a w, Q (.panic c) (a.put oi.dst v) w → Q (.panic c) a w) :
    ∀ (fuel : Nat) (Φ : List Fact) (listed : Array Bool) (a : Act) (w : World), Cl ops listed →
      (∀ j oj, ops[j]? = some oj → j ≠ i → listed.getD j true = false → tw ms j i = false → oi.apart ops oj = true ∧ ∀ f ∈ Ψ, F j f) →
      i ∈ Region.ready .any ops listed → YieldsIf P ops (Holds Ψ) oi v a → Holds Φ w → (∀ f ∈ Ψ, f ∈ Φ) →
      wpAnyF P ops Q F fuel Φ (listed.setIfInBounds i true) (a.put oi.dst v) w → wpAnyF P ops Q F (fuel + 1) Φ listed a w := by
  intro fuel
  induction fuel with
  | zero =>
    intro Φ listed a w _ _ hr hy hS hsub H
    refine ⟨fun h => (by rw [h] at hr; cases hr), fun j hj => ?_⟩
    by_cases hji : j = i
    · subst hji; exact hy.wpOp hi (fun f hf => hS f (hsub f hf)) ⟨Φ, hS, fun f hf _ => hf, H⟩
    · have := ready_mono hj hji
      rw [H.1] at this
      cases this
  | succ fuel ih =>
    intro Φ listed a w hcl hfree hr hy hS hsub H
    refine ⟨fun h => (by rw [h] at hr; cases hr), fun j hj => ?_⟩
    by_cases hji : j = i
    · subst hji; exact hy.wpOp hi (fun f hf => hS f (hsub f hf)) ⟨Φ, hS, fun f hf _ => hf, H⟩
    · have h1 := H.2 j (ready_mono hj hji)
      obtain ⟨hjun, oj, hoj, hall⟩ := mem_ready.1 hj
      have hnot : tw ms j i = false := by
        cases ht : tw ms j i with
        | false => rfl
        | true => exact absurd (tw_listed hm hcl i j oj hoj hall ht) (listed_of (mem_ready.1 hr).1)
      obtain ⟨hap, hF⟩ := hfree j oj hoj hji hjun hnot
      have h2 := wpOp_putIf hoj hap (fun cs b => hsel i oi cs b hi) (fun cs b => hsel j oj cs b hoj) hQ hy h1
      have hfree' : ∀ k ok, ops[k]? = some ok → k ≠ i → (listed.setIfInBounds j true).getD k true = false → tw ms k i = false → oi.apart ops ok = true ∧ ∀ f ∈ Ψ, F k f := fun k ok hk hki hun hno => by
        refine hfree k ok hk hki ?_ hno
        by_cases hjk : j = k
        · subst hjk; exact hjun
        · rw [getD_set_ne true hjk] at hun; exact hun
      refine wpOp_mono (fun a' w' h3 => ?_) h2
      obtain ⟨hy', Φ', hH', hF', H'⟩ := h3
      refine ⟨Φ', hH', hF', ih Φ' (listed.setIfInBounds j true) a' w' (hcl.set hj) hfree' (ready_mono hr (Ne.symm hji)) hy' hH' (fun f hf => hF' f (hsub f hf) (hF f hf)) ?_⟩
      rw [Array.setIfInBounds_comm _ _ hji]
      exact H'
end
def allocAt (T : Tab) (ops : Array Oper) (j : Nat) : Bool :=
  match ops[j]? with
  | some o => match o.op with
    | .alloc t => o.guard.isNone && o.dst.isSome && (T t).isSome
    | _ => false
  | none => false
def apartAt (ops : Array Oper) (i j : Nat) : Bool :=
  match ops[i]?, ops[j]? with
  | some oi, some oj => oi.apart ops oj
  | _, _ => true
def isAll : Ks → Bool
  | .all => true
  | _ => false
def isNone : Ks → Bool
  | .none => true
  | _ => false
def OT.els : OT → List (Nat × Ks)
  | .nil => []
  | .op i k r => (i, k) :: r.els
  | .or a _ => a.els
def OT.heads : OT → List Nat
  | .nil => []
  | .op i _ _ => [i]
  | .or a b => a.heads ++ b.heads
def ksB : Ks → Ks → Bool
  | .all, .all => true
  | .none, .none => true
  | .but r, .but r' => Nat.beq r r'
  | .new, .new => true
  | _, _ => false
def rmB (x : Nat × Ks) : List (Nat × Ks) → Option (List (Nat × Ks))
  | [] => none
  | y :: l => bif Nat.beq x.1 y.1 && ksB x.2 y.2 then some l else (match rmB x l with | some l' => some (y :: l') | none => none)
def permB : List (Nat × Ks) → List (Nat × Ks) → Bool
  | [], [] => true
  | x :: a, b => match rmB x b with
    | some b' => permB a b'
    | none => false
  | _, _ => false
def stepB (T : Tab) (ops : Array Oper) (ms : List Nat) (H : List Nat) (i : Nat) (k : Ks) (r : List (Nat × Ks)) : Bool :=
  match ops[i]? with
  | none => false
  | some o =>
    o.after.all (fun e => !Region.binds .any e || (Nat.blt e.on ops.size && !(((i, k) :: r).any fun x => x.1 == e.on))) &&
    !(r.any fun x => x.1 == i) &&
    (if floaty T o.op then isAll k && H == [i] && r.all (fun x => (tw ms x.1 i && !allocAt T ops x.1) || (apartAt ops i x.1 && (!isLoad T o.op || !isNone x.2)))
      else (!allocAt T ops i || (isAll k && H == [i])) && r.all (fun x => (H.any (fun h => tw ms x.1 h) && !allocAt T ops x.1) || (apartAt ops i x.1 && allocAt T ops x.1) || (H.contains x.1 && !allocAt T ops x.1)))
def ordSt (T : Tab) (ops : Array Oper) (ms : List Nat) : List Nat → OT → Bool
  | _, .nil => true
  | H, .op i k r => stepB T ops ms H i k r.els && ordSt T ops ms r.heads r
  | H, .or a b => permB a.els b.els && ordSt T ops ms H a && ordSt T ops ms H b
def ordOk (T : Tab) (ops : Array Oper) (od : Ord) : Bool :=
  Region.noSelect ops && masksOk ops od.ms && (List.range ops.size).all (fun j => od.od.els.any fun x => x.1 == j) && od.od.els.length == ops.size && ordSt T ops od.ms od.od.heads od.od
def diffH (x r : SV) : Bool :=
  match r with
  | .p h _ => match x with
    | .p h' _ => !Nat.beq h' h
    | .q h' _ _ => !Nat.beq h' h
    | .sl h' _ _ _ _ => !Nat.beq h' h
    | .c _ => true
    | _ => false
  | _ => false
def oldH (n : Nat) : SV → Bool
  | .p h _ => Nat.blt h n
  | .q h _ _ => Nat.blt h n
  | .sl h _ _ _ _ => Nat.blt h n
  | _ => false
def ldOk (s0 : St) (ms : List Nat) (i : Nat) (x : SV) : List (Nat × Ks) → Bool
  | [] => true
  | (j, .but r) :: l => (bif tw ms j i then true else diffH x (s0.fr r)) && ldOk s0 ms i x l
  | (j, .new) :: l => (bif tw ms j i then true else oldH s0.L.length x) && ldOk s0 ms i x l
  | _ :: l => ldOk s0 ms i x l
def loadOk (T : Tab) (s0 : St) (ms : List Nat) (i : Nat) (o : Oper) (s : St) (r : List (Nat × Ks)) : Bool :=
  match ldArg T o.op with
  | some x => ldOk s0 ms i (ev s x) r
  | none => true
def kpOf (s0 : St) : Ks → Kp
  | .all => .all
  | .none => .none
  | .but r => match s0.fr r with
    | .p h _ => .but h
    | _ => .all
  | .new => .new s0.L.length
def xord (c : Cfg) (ops : List Oper) (ms : List Nat) (s0 : St) : OT → (St → Prop) → St → Prop
  | .nil, K, s => K s
  | .op i k r, K, s => match nth ops i with
    | some o => bif loadOk c.T s0 ms i o s r.els then xop c ops o (kpOf s0 k) s (xord c ops ms s0 r K) else False
    | none => False
  | .or a b, K, s => xord c ops ms s0 a K s ∧ xord c ops ms s0 b K s
def fresh (s : St) : List Oper → Bool
  | [] => true
  | o :: r => match o.op with
    | .alloc _ => match o.dst with
      | some d => match s.fr d with
        | .any => fresh s r
        | _ => false
      | none => fresh s r
    | _ => fresh s r
abbrev RE := List (Nat × Ks × Option Nat)
def cnt : RE → Nat
  | [] => 0
  | (_, _, none) :: r => cnt r + 1
  | (_, _, some _) :: r => cnt r
def factsOf (ρ : List Nat) (x : List Nat) (W : World) : List Fact := (ρ ++ x).map fun b => (b, W.heap[b]?)
theorem factsOf_holds (ρ x : List Nat) (W : World) : Holds (factsOf ρ x W) W := by
  intro f hf
  simp only [factsOf, List.mem_map] at hf
  obtain ⟨b, _, rfl⟩ := hf
  rfl
theorem factsOf_mono {ρ x : List Nat} {W : World} {ρ' x' : List Nat} {W' : World} (h1 : ∀ b ∈ ρ, b ∈ ρ') (h2 : ∀ b ∈ x, b ∈ x') (h3 : ∀ b, b ∈ ρ ∨ b ∈ x → W'.heap[b]? = W.heap[b]?) : ∀ f ∈ factsOf ρ x W, f ∈ factsOf ρ' x' W' := by
  intro f hf
  simp only [factsOf, List.mem_map, List.mem_append] at hf ⊢
  obtain ⟨b, hb, rfl⟩ := hf
  exact ⟨b, hb.imp (h1 b) (h2 b), by rw [h3 b hb]⟩
def KeepF (s0 : St) (ρ0 : List Nat) (f : Fact) : Ks → Prop
  | .all => True
  | .none => False
  | .but r => ∀ h off, s0.fr r = .p h off → f.1 ≠ ρ0.getD h 0
  | .new => f.1 ∈ ρ0
section
variable {c : Cfg} {nt : Nat} {D : List Deferred} {m0 : Mem} {W0 : World}
structure Early (c : Cfg) (W0 : World) (ops : Array Oper) (s : St) (ρ : List Nat) (a : Act) (W : World) (j b : Nat) : Prop where
  lies : ∃ o t ti d, ops[j]? = some o ∧ o.op = .alloc t ∧ o.guard = none ∧ o.dst = some d ∧ c.T t = some ti ∧ W.heap[b]? = some (.cells (LB.cells ti.zero).toArray t (0, 0)) ∧ a.tmps[d]? = some (.pointer (some ⟨b, 0, none⟩))
  out : s.m b = none
  new : W0.heap.size ≤ b
  own : b ∉ ρ
structure RInv (c : Cfg) (nt : Nat) (D : List Deferred) (m0 : Mem) (W0 : World) (ops : Array Oper) (od : List (Nat × Ks)) (ρ0 : List Nat) (r : RE) (La : Array Bool) (s : St) (ρ : List Nat) (a : Act) (W : World) : Prop where
  rel : Rel nt D m0 W0 ρ s a W
  cl : Cl ops La
  lsz : La.size = ops.size
  hun : ∀ j, j < ops.size → La.getD j true = false → ∃ k, (j, k, none) ∈ r
  hli : ∀ j k, (j, k, none) ∈ r → La.getD j true = false
  odr : ∀ x ∈ od, (∃ b, (x.1, x.2, b) ∈ r) ∨ La.getD x.1 false = true
  rod : ∀ j k b, (j, k, b) ∈ r → (j, k) ∈ od
  early : ∀ j k b, (j, k, some b) ∈ r → La.getD j false = true ∧ Early c W0 ops s ρ a W j b
  dist : ∀ j k j' k' b, (j, k, some b) ∈ r → (j', k', some b) ∈ r → j = j'
  anys : ∀ j k b o d, (j, k, b) ∈ r → allocAt c.T ops j = true → ops[j]? = some o → o.dst = some d → s.fr d = .any
  ext : ∃ e, ρ = ρ0 ++ e
theorem Rel.adopt {ρ : List Nat} {s : St} {a : Act} {W : World} (hr : Rel nt D m0 W0 ρ s a W) {d b : Nat} (hs : a.tmps[d]? = some (.pointer (some ⟨b, 0, none⟩))) {t : TypeId} {cc : LB} (hc : LB.ok cc)
    (hW : W.heap[b]? = some (.cells (LB.cells cc).toArray t (0, 0))) (hm : s.m b = none) (hn : W0.heap.size ≤ b) (ho : b ∉ ρ) :
    Rel nt D m0 W0 (ρ ++ [b]) ⟨putF s.fr (some d) (.p s.L.length 0), s.L ++ [(t, cc)], s.m, s.x⟩ a W := by
  have hlen := hr.len
  refine ⟨hr.defers, hr.size, fun i => ?_, by simp [hlen], ?_, ?_, hr.after, hr.seen⟩
  · show putF s.fr (some d) _ i = .any ∨ _
    simp only [putF_at, Option.some.injEq]
    by_cases e : d = i
    · subst e
      rw [if_pos rfl]
      refine .inr ⟨?_, trivial, by simp [SV.under, hlen]⟩
      rw [hs]
      simp [conc, ← hlen, List.getD_eq_getElem?_getD]
    · rw [if_neg e]
      rcases hr.slots i with h1 | ⟨h1, h2, h3⟩
      · exact .inl h1
      · exact .inr ⟨by rw [conc_append h3]; exact h1, h2, SV.under_mono h3 (by simp)⟩
  · intro h t' c' hh
    by_cases hlt : h < s.L.length
    · rw [List.getElem?_append_left hlt] at hh
      have hg : (ρ ++ [b]).getD h 0 = ρ.getD h 0 := by
        simp only [List.getD_eq_getElem?_getD]; rw [List.getElem?_append_left (by omega)]
      rw [hg]
      exact hr.locs h t' c' hh
    · have he : h = s.L.length := by
        have := (List.getElem?_eq_some_iff.1 hh).1
        simp at this; omega
      subst he
      simp at hh
      obtain ⟨rfl, rfl⟩ := hh
      have hg : (ρ ++ [b]).getD s.L.length 0 = b := by simp [← hlen, List.getD_eq_getElem?_getD]
      rw [hg]
      exact ⟨hW, hc, hm, hn⟩
  · rw [List.nodup_append]
    refine ⟨hr.nodup, by simp, ?_⟩
    intro x hx y hy
    simp at hy
    subst hy
    intro e; exact ho (e ▸ hx)
theorem Rel.adoptKnown {ρ : List Nat} {s : St} {a : Act} {W : World} (hr : Rel nt D m0 W0 ρ s a W) {d b : Nat} (hs : a.tmps[d]? = some (.pointer (some ⟨b, 0, none⟩))) {o : Obj}
    (hW : W.heap[b]? = some o) (hm : s.m b = none) (hn : W0.heap.size ≤ b) (ho : b ∉ ρ) :
    Rel nt D m0 W0 ρ ⟨putF s.fr (some d) (.c (.v (.pointer (some ⟨b, 0, none⟩)))), s.L, s.m.set b o, s.x⟩ a W := by
  refine ⟨hr.defers, hr.size, fun i => ?_, hr.len, ?_, hr.nodup, ?_, ?_⟩
  · show putF s.fr (some d) _ i = .any ∨ _
    simp only [putF_at, Option.some.injEq]
    by_cases e : d = i
    · subst e
      rw [if_pos rfl]
      exact .inr ⟨hs, rfl, trivial⟩
    · rw [if_neg e]; exact hr.slots i
  · intro i t' c'' hi
    obtain ⟨k1, k2, k3, k4⟩ := hr.locs i t' c'' hi
    have hlt : i < ρ.length := by rw [hr.len]; exact (List.getElem?_eq_some_iff.1 hi).1
    have hne : ρ.getD i 0 ≠ b := fun e => ho (e ▸ getD_mem hlt)
    exact ⟨k1, k2, by show Mem.set _ _ _ _ = _; rw [Mem.set_ne _ _ hne]; exact k3, k4⟩
  · have ha := hr.after
    show After m0 W0 (s.m.set b o) W
    refine ⟨fun x u hx => ?_, ha.size, ha.tape, ha.os, ha.output, fun x hx hn' => ?_, ha.drawn⟩
    · by_cases e : x = b
      · subst e; rw [Mem.set_same] at hx; cases hx; exact hW
      · rw [Mem.set_ne _ _ e] at hx; exact ha.over x u hx
    · obtain ⟨q1, q2⟩ := ha.frame x hx hn'
      exact ⟨by rw [Mem.set_ne _ _ (by omega)]; exact q1, q2⟩
  · intro x hx
    obtain ⟨u, hu⟩ := hr.seen x hx
    exact ⟨u, Mem.sub_set _ hm x u hu⟩
theorem Rel.ahead {ρ : List Nat} {s : St} {a : Act} {W : World} (hr : Rel nt D m0 W0 ρ s a W) {d : Nat} (hs : s.fr d = .any) (v : Value) (o : Obj) : Rel nt D m0 W0 ρ s (a.put (some d) v) (W.alloc o) := by
  refine ⟨by rw [Act.put_defers_eq]; exact hr.defers, by rw [Act.put_size]; exact hr.size, fun i => ?_, hr.len, ?_, hr.nodup, hr.after.allocOut o, hr.seen⟩
  · by_cases e : d = i
    · subst e; exact .inl hs
    · rcases hr.slots i with h1 | ⟨h1, h2⟩
      · exact .inl h1
      · refine .inr ⟨?_, h2⟩
        simp only [Act.put]
        rw [Array.getElem?_setIfInBounds_ne e]; exact h1
  · intro i t' c'' hi
    obtain ⟨k1, k2⟩ := hr.locs i t' c'' hi
    exact ⟨by rw [heap_alloc_old W _ (Array.getElem?_eq_some_iff.1 k1).1]; exact k1, k2⟩
end
end Go.E
namespace Go.E
section
variable {c : Cfg} {nt : Nat} {D : List Deferred} {m0 : Mem} {W0 : World} {Q : Exit → Act → World → Prop} {ops : Array Oper}
theorem allocAt_spec {T : Tab} {j : Nat} (h : allocAt T ops j = true) : ∃ o t ti d, ops[j]? = some o ∧ o.op = .alloc t ∧ o.guard = none ∧ o.dst = some d ∧ T t = some ti := by
  unfold allocAt at h
  split at h
  · rename_i o ho
    split at h
    · rename_i t ht
      simp only [Bool.and_eq_true] at h
      obtain ⟨⟨h1, h2⟩, h3⟩ := h
      obtain ⟨d, hd⟩ := Option.isSome_iff_exists.1 h2
      obtain ⟨ti, hti⟩ := Option.isSome_iff_exists.1 h3
      exact ⟨o, t, ti, d, ho, ht, by simpa using h1, hd, hti⟩
    · simp at h
  · simp at h
theorem not_in {r : List (Nat × Ks)} {i : Nat} (h : (!(r.any fun x => x.1 == i)) = true) (k : Ks) : (i, k) ∉ r := by
  intro hm
  have : (r.any fun x => x.1 == i) = true := List.any_eq_true.2 ⟨(i, k), hm, by simp⟩
  rw [this] at h; cases h
def mkR (M : Nat → Option Nat) (l : List (Nat × Ks)) : RE := l.map fun x => (x.1, x.2, M x.1)
theorem mkR_mem {M : Nat → Option Nat} {l : List (Nat × Ks)} {j : Nat} {k : Ks} {b : Option Nat} : (j, k, b) ∈ mkR M l ↔ (j, k) ∈ l ∧ M j = b := by
  simp only [mkR, List.mem_map, Prod.mk.injEq]
  constructor
  · rintro ⟨⟨j', k'⟩, hx, rfl, rfl, rfl⟩; exact ⟨hx, rfl⟩
  · rintro ⟨hx, rfl⟩; exact ⟨(j, k), hx, rfl, rfl, rfl⟩
theorem cnt_perm {r r' : RE} (h : r.Perm r') : cnt r = cnt r' := by
  induction h with
  | nil => rfl
  | cons x _ ih => obtain ⟨j, k, b⟩ := x; cases b <;> simp only [cnt, ih]
  | swap x y l => obtain ⟨j, k, b⟩ := x; obtain ⟨j', k', b'⟩ := y; cases b <;> cases b' <;> simp only [cnt]
  | trans _ _ ih1 ih2 => exact ih1.trans ih2
theorem cnt_mark {M : Nat → Option Nat} {j b : Nat} (hM : M j = none) : ∀ {l : List (Nat × Ks)} {k : Ks}, (l.map Prod.fst).Nodup → (j, k) ∈ l → cnt (mkR (fun x => if x = j then some b else M x) l) + 1 = cnt (mkR M l)
  | [], _, _, h => by cases h
  | (i, k') :: l, k, hn, h => by
    rw [List.map_cons, List.nodup_cons] at hn
    by_cases e : i = j
    · subst e
      have same : mkR (fun x => if x = i then some b else M x) l = mkR M l := by
        unfold mkR
        refine List.map_congr_left fun x hx => ?_
        have hne : x.1 ≠ i := fun e => hn.1 (List.mem_map.2 ⟨x, hx, e⟩)
        simp [hne]
      show cnt ((i, k', (if i = i then some b else M i)) :: mkR (fun x => if x = i then some b else M x) l) + 1 = cnt ((i, k', M i) :: mkR M l)
      rw [if_pos rfl, hM, same]; rfl
    · rcases List.mem_cons.1 h with e' | h
      · simp only [Prod.mk.injEq] at e'; exact absurd e'.1.symm e
      · have ih := cnt_mark (b := b) hM hn.2 h
        show cnt ((i, k', (if i = j then some b else M i)) :: mkR (fun x => if x = j then some b else M x) l) + 1 = cnt ((i, k', M i) :: mkR M l)
        rw [if_neg e]
        cases M i <;> simp only [cnt] <;> omega
theorem ksB_eq {a b : Ks} (h : ksB a b = true) : a = b := by
  cases a <;> cases b <;> simp [ksB] at h <;> first | rfl | (subst h; rfl)
theorem rmB_spec {x : Nat × Ks} : ∀ {l l' : List (Nat × Ks)}, rmB x l = some l' → l.Perm (x :: l')
  | [], _, h => by simp [rmB] at h
  | y :: l, l', h => by
    simp only [rmB] at h
    cases hb : (Nat.beq x.1 y.1 && ksB x.2 y.2) with
    | true =>
      simp only [hb, cond_true, Option.some.injEq] at h
      subst h
      simp only [Bool.and_eq_true] at hb
      have e1 := Nat.eq_of_beq_eq_true hb.1
      have e2 := ksB_eq hb.2
      obtain ⟨a, b⟩ := x; obtain ⟨a', b'⟩ := y
      simp only at e1 e2; subst e1; subst e2; exact .refl _
    | false =>
      simp only [hb, cond_false] at h
      cases hr : rmB x l with
      | none => simp [hr] at h
      | some l2 =>
        simp only [hr, Option.some.injEq] at h
        subst h
        exact ((rmB_spec hr).cons y).trans (List.Perm.swap x y l2)
theorem permB_spec : ∀ {a b : List (Nat × Ks)}, permB a b = true → a.Perm b
  | [], [], _ => .refl _
  | [], _ :: _, h => by simp [permB] at h
  | x :: a, b, h => by
    simp only [permB] at h
    cases hr : rmB x b with
    | none => simp [hr] at h
    | some b' =>
      simp only [hr] at h
      exact ((permB_spec h).cons x).trans (rmB_spec hr).symm
theorem mkR_perm {M : Nat → Option Nat} {a b : List (Nat × Ks)} (h : a.Perm b) : (mkR M a).Perm (mkR M b) := h.map _
inductive Alt : OT → Nat → Ks → OT → Prop
  | op {i : Nat} {k : Ks} {r : OT} : Alt (.op i k r) i k r
  | left {a b : OT} {i : Nat} {k : Ks} {r : OT} (h : Alt a i k r) : Alt (.or a b) i k r
  | right {a b : OT} {i : Nat} {k : Ks} {r : OT} (h : Alt b i k r) : Alt (.or a b) i k r
theorem head_alt : ∀ {t : OT} {i : Nat}, i ∈ t.heads → ∃ k r, Alt t i k r
  | .nil, _, h => by simp [OT.heads] at h
  | .op i k r, j, h => by simp [OT.heads] at h; subst h; exact ⟨k, r, .op⟩
  | .or a b, j, h => by
    simp only [OT.heads, List.mem_append] at h
    rcases h with h | h
    · obtain ⟨k, r, h⟩ := head_alt h; exact ⟨k, r, .left h⟩
    · obtain ⟨k, r, h⟩ := head_alt h; exact ⟨k, r, .right h⟩
theorem Alt.ok {T : Tab} {ms : List Nat} {H : List Nat} {t : OT} {i : Nat} {k : Ks} {r : OT} (h : Alt t i k r) : ordSt T ops ms H t = true → t.els.Perm ((i, k) :: r.els) ∧ stepB T ops ms H i k r.els = true ∧ ordSt T ops ms r.heads r = true := by
  induction h with
  | op => intro hs; simp only [ordSt, Bool.and_eq_true] at hs; exact ⟨.refl _, hs.1, hs.2⟩
  | left _ ih => intro hs; simp only [ordSt, Bool.and_eq_true] at hs; exact ih hs.1.2
  | right _ ih =>
    intro hs; simp only [ordSt, Bool.and_eq_true] at hs
    obtain ⟨h1, h2⟩ := ih hs.2
    exact ⟨(permB_spec hs.1.1).trans h1, h2⟩
theorem Alt.run {ms : List Nat} {s0 : St} {K : St → Prop} {s : St} {t : OT} {i : Nat} {k : Ks} {r : OT} (h : Alt t i k r) : xord c ops.toList ms s0 t K s → ∃ o, ops[i]? = some o ∧ loadOk c.T s0 ms i o s r.els = true ∧ xop c ops.toList o (kpOf s0 k) s (xord c ops.toList ms s0 r K) := by
  induction h with
  | @op i k r =>
    intro h
    simp only [xord, nth_eq, Array.getElem?_toList] at h
    cases ho : ops[i]? with
    | none => simp [ho] at h
    | some o =>
      simp only [ho] at h
      cases hl : loadOk c.T s0 ms i o s r.els with
      | false => simp [hl] at h
      | true => simp only [hl, cond_true] at h; exact ⟨o, rfl, hl, h⟩
  | left _ ih => intro h; exact ih h.1
  | right _ ih => intro h; exact ih h.2
theorem ordSt_nodup {T : Tab} {ms : List Nat} : ∀ {t : OT} {H : List Nat}, ordSt T ops ms H t = true → (t.els.map Prod.fst).Nodup
  | .nil, _, _ => List.nodup_nil
  | .or a b, H, h => by simp only [ordSt, Bool.and_eq_true] at h; exact ordSt_nodup (t := a) h.1.2
  | .op i k r, H, h => by
    simp only [ordSt, Bool.and_eq_true] at h
    obtain ⟨h0, h1⟩ := h
    show ((i, k) :: r.els).map Prod.fst |>.Nodup
    rw [List.map_cons, List.nodup_cons]
    refine ⟨?_, ordSt_nodup h1⟩
    cases ho : ops[i]? with
    | none => simp [stepB, ho] at h0
    | some o =>
      simp only [stepB, ho, Bool.and_eq_true] at h0
      intro hm
      obtain ⟨⟨i', k'⟩, hm', e⟩ := List.mem_map.1 hm
      simp only at e
      subst e
      exact not_in h0.1.2 k' hm'
theorem ordSt_apart {T : Tab} {ms : List Nat} : ∀ {t : OT} {H : List Nat}, ordSt T ops ms H t = true → ∀ x ∈ t.els, ∀ y ∈ t.els, x.1 ≠ y.1 → allocAt T ops x.1 = true → allocAt T ops y.1 = true → apartAt ops x.1 y.1 = true ∨ apartAt ops y.1 x.1 = true
  | .nil, _, _, x, hx, _, _, _, _, _ => by cases hx
  | .or a b, H, h, x, hx, y, hy, hne, hax, hay => by simp only [ordSt, Bool.and_eq_true] at h; exact ordSt_apart (t := a) h.1.2 x hx y hy hne hax hay
  | .op i k r, H, h, x, hx, y, hy, hne, hax, hay => by
    simp only [ordSt, Bool.and_eq_true] at h
    obtain ⟨h0, h1⟩ := h
    have one : allocAt T ops i = true → ∀ z ∈ r.els, allocAt T ops z.1 = true → apartAt ops i z.1 = true := by
      intro hi z hz haz
      obtain ⟨o, t, ti, d, ho, hop, _⟩ := allocAt_spec hi
      simp only [stepB, ho, Bool.and_eq_true] at h0
      have h3 := h0.2
      rw [hop, if_neg (by simp [floaty])] at h3
      simp only [Bool.and_eq_true] at h3
      have := List.all_eq_true.1 h3.2 z hz
      simp only [Bool.or_eq_true, Bool.and_eq_true, haz, Bool.not_true, Bool.false_eq_true, and_false, false_or, or_false] at this
      exact this.1
    rcases List.mem_cons.1 (show x ∈ (i, k) :: r.els from hx) with rfl | hx' <;> rcases List.mem_cons.1 (show y ∈ (i, k) :: r.els from hy) with rfl | hy'
    · exact absurd rfl hne
    · exact .inl (one hax y hy' hay)
    · exact .inr (one hay x hx' hax)
    · exact ordSt_apart h1 x hx' y hy' hne hax hay
theorem els_nil {ms : List Nat} {s0 : St} {K : St → Prop} {s : St} : ∀ {t : OT}, t.els = [] → xord c ops.toList ms s0 t K s → K s
  | .nil, _, h => h
  | .op _ _ _, e, _ => by simp [OT.els] at e
  | .or a b, e, h => els_nil (t := a) e h.1
theorem heads_ne {T : Tab} {ms : List Nat} : ∀ {t : OT} {H : List Nat}, ordSt T ops ms H t = true → t.els ≠ [] → t.heads ≠ []
  | .nil, _, _, h => absurd rfl h
  | .op _ _ _, _, _, _ => by simp [OT.heads]
  | .or a b, H, hs, h => by
    simp only [ordSt, Bool.and_eq_true] at hs
    have := heads_ne (t := a) hs.1.2 h
    simp only [OT.heads]
    intro e
    exact this (List.append_eq_nil_iff.1 e).1
theorem heads_two {T : Tab} {ms : List Nat} {a b : OT} {H : List Nat} (hs : ordSt T ops ms H (.or a b) = true) (h : (OT.or a b).els ≠ []) : 2 ≤ (OT.or a b).heads.length := by
  simp only [ordSt, Bool.and_eq_true] at hs
  have h1 := heads_ne (t := a) hs.1.2 h
  have h2 := heads_ne (t := b) hs.2 (fun e => h (by have := permB_spec hs.1.1; rw [e] at this; exact List.perm_nil.1 this))
  have p1 := List.length_pos_iff.2 h1
  have p2 := List.length_pos_iff.2 h2
  simp only [OT.heads, List.length_append]; omega
theorem RInv.perm {od : List (Nat × Ks)} {ρ0 : List Nat} {r r' : RE} {La : Array Bool} {s : St} {ρ : List Nat} {a : Act} {W : World} (h : RInv c nt D m0 W0 ops od ρ0 r La s ρ a W) (hp : r.Perm r') : RInv c nt D m0 W0 ops od ρ0 r' La s ρ a W :=
  ⟨h.rel, h.cl, h.lsz, fun j hj hu => (h.hun j hj hu).imp fun k hk => hp.mem_iff.1 hk, fun j k hm => h.hli j k (hp.mem_iff.2 hm), fun x hx => (h.odr x hx).imp (fun ⟨b, hb⟩ => ⟨b, hp.mem_iff.1 hb⟩) id, fun j k b hm => h.rod j k b (hp.mem_iff.2 hm),
    fun j k b hm => h.early j k b (hp.mem_iff.2 hm), fun j k j' k' b h1 h2 => h.dist j k j' k' b (hp.mem_iff.2 h1) (hp.mem_iff.2 h2), fun j k b o d hm => h.anys j k b o d (hp.mem_iff.2 hm), h.ext⟩
theorem ldOk_spec {s0 : St} {ms : List Nat} {i : Nat} {x : SV} : ∀ {l : List (Nat × Ks)}, ldOk s0 ms i x l = true → ∀ j r, (j, Ks.but r) ∈ l → tw ms j i = false → diffH x (s0.fr r) = true
  | [], _, _, _, h, _ => by cases h
  | (j', k') :: l, h, j, r, hm, ht => by
    have tail : ldOk s0 ms i x l = true := by
      cases k' <;> simp only [ldOk, Bool.and_eq_true] at h <;> first | exact h | exact h.2
    rcases List.mem_cons.1 hm with e | hm
    · simp only [Prod.mk.injEq] at e
      obtain ⟨rfl, rfl⟩ := e
      simp only [ldOk, Bool.and_eq_true, ht, cond_false] at h
      exact h.1
    · exact ldOk_spec tail j r hm ht
theorem ldOk_new {s0 : St} {ms : List Nat} {i : Nat} {x : SV} : ∀ {l : List (Nat × Ks)}, ldOk s0 ms i x l = true → ∀ j, (j, Ks.new) ∈ l → tw ms j i = false → oldH s0.L.length x = true
  | [], _, _, h, _ => by cases h
  | (j', k') :: l, h, j, hm, ht => by
    have tail : ldOk s0 ms i x l = true := by
      cases k' <;> simp only [ldOk, Bool.and_eq_true] at h <;> first | exact h | exact h.2
    rcases List.mem_cons.1 hm with e | hm
    · simp only [Prod.mk.injEq] at e
      obtain ⟨rfl, rfl⟩ := e
      simp only [ldOk, Bool.and_eq_true, ht, cond_false] at h
      exact h.1
    · exact ldOk_new tail j hm ht
theorem oldH_spec {ρ ρ0 e : List Nat} {x : SV} {b n : Nat} (he : ρ = ρ0 ++ e) (hn : n = ρ0.length) (hb : blkOf ρ x = some b) (ho : oldH n x = true) : b ∈ ρ0 := by
  have key : ∀ h, Nat.blt h n = true → ρ.getD h 0 ∈ ρ0 := by
    intro h hh
    have := blt_lt.1 hh
    rw [he]
    simp only [List.getD_eq_getElem?_getD]
    rw [List.getElem?_append_left (by omega), List.getElem?_eq_getElem (by omega)]
    exact List.getElem_mem _
  cases x <;> simp only [oldH, blkOf, Option.some.injEq] at ho hb <;> first | (cases ho; done) | (subst hb; exact key _ ho)
theorem diffH_spec {ρ ρ0 : List Nat} {s s0 : St} {a : Act} {W : World} (hr : Rel nt D m0 W0 ρ s a W) {e : List Nat} (he : ρ = ρ0 ++ e) {xo : Operand} {b : Nat} (hb : blkOf ρ (ev s xo) = some b) (hin : ∀ y, ev s xo = .c y → ∃ o, s.m b = some o)
    {r h off : Nat} (hr0 : s0.fr r = .p h off) (hh : h < ρ0.length) (hd : diffH (ev s xo) (s0.fr r) = true) : b ≠ ρ0.getD h 0 := by
  have hg : ρ0.getD h 0 = ρ.getD h 0 := by
    rw [he]; simp only [List.getD_eq_getElem?_getD]; rw [List.getElem?_append_left hh]
  have hhρ : h < ρ.length := by rw [he]; simp; omega
  rw [hg]
  rw [hr0] at hd
  have loc : ∀ h', h' < ρ.length → h' ≠ h → ρ.getD h' 0 ≠ ρ.getD h 0 := by
    intro h' hl hne e'
    simp only [List.getD_eq_getElem?_getD, List.getElem?_eq_getElem hl, List.getElem?_eq_getElem hhρ, Option.getD_some] at e'
    exact hne (nodup_inj hr.nodup hl hhρ e')
  have hne : ev s xo ≠ .any := by intro e'; rw [e'] at hb; simp [blkOf] at hb
  have hu := (hr.evalOk xo hne).2
  cases hx : ev s xo with
  | p h' o' =>
    rw [hx] at hd hb hu
    simp only [diffH, Bool.not_eq_true'] at hd
    simp only [blkOf, Option.some.injEq] at hb
    subst hb
    exact loc h' hu (fun e' => by subst e'; rw [Nat.beq_refl] at hd; cases hd)
  | q h' o' d' =>
    rw [hx] at hd hb hu
    simp only [diffH, Bool.not_eq_true'] at hd
    simp only [blkOf, Option.some.injEq] at hb
    subst hb
    exact loc h' hu (fun e' => by subst e'; rw [Nat.beq_refl] at hd; cases hd)
  | sl h' o' d' n' c' =>
    rw [hx] at hd hb hu
    simp only [diffH, Bool.not_eq_true'] at hd
    simp only [blkOf, Option.some.injEq] at hb
    subst hb
    exact loc h' hu (fun e' => by subst e'; rw [Nat.beq_refl] at hd; cases hd)
  | c x =>
    intro e'
    have hn := (hr.out hhρ).1
    obtain ⟨o, ho⟩ := hin x hx
    rw [e', hn] at ho; cases ho
  | _ => rw [hx] at hd; simp [diffH] at hd
theorem xord_spec (hT : TabOk c.P c.T) (hd : ∀ o ∈ ops.toList, dstIn o.dst nt) (hsel : Region.noSelect ops = true) {ms : List Nat} (hms : masksOk ops ms = true) {K : St → Prop} (hQ : ∀ s ρ a W, K s → Rel nt D m0 W0 ρ s a W → Q .normal a W)
    (hP : ∀ ch a d v w, Q (.panic ch) (a.put d v) w → Q (.panic ch) a w) (od : List (Nat × Ks)) (s0 : St) (ρ0 : List Nat) (hs0 : ∀ i h off, s0.fr i = .p h off → h < ρ0.length) (hL0 : s0.L.length = ρ0.length) :
    ∀ (n : Nat) (t : OT) (M : Nat → Option Nat) (La : Array Bool) (s : St) (ρ : List Nat) (a : Act) (W : World), t.els.length + cnt (mkR M t.els) = n → RInv c nt D m0 W0 ops od ρ0 (mkR M t.els) La s ρ a W → ordSt c.T ops ms t.heads t = true →
      xord c ops.toList ms s0 t K s → ∃ Φ, Holds Φ W ∧ (∀ f ∈ factsOf ρ s.x W, f ∈ Φ) ∧ wpAnyF c.P ops Q (fun j f => ∀ k, (j, k) ∈ od → KeepF s0 ρ0 f k) (cnt (mkR M t.els)) Φ La a W := by
  intro n
  induction n using Nat.strongRecOn with
  | _ n ih =>
  intro t M La s ρ a W hn hI hst h
  have hr := hI.rel
  by_cases hnil : t.els = []
  · -- nothing is left
    have hk := els_nil hnil h
    rw [hnil] at hI ⊢
    refine ⟨factsOf ρ s.x W, factsOf_holds _ _ _, fun f hf => hf, ?_, hQ s ρ a W hk hr⟩
    refine List.eq_nil_iff_forall_not_mem.2 fun j hj => ?_
    obtain ⟨hju, oj, hoj, _⟩ := mem_ready.1 hj
    obtain ⟨k, hk⟩ := hI.hun j (Array.getElem?_eq_some_iff.1 hoj).1 hju
    cases hk
  have common : ∀ (i : Nat) (k : Ks) (t' : OT), Alt t i k t' → M i = none → ∃ o, ops[i]? = some o ∧ loadOk c.T s0 ms i o s t'.els = true ∧ xop c ops.toList o (kpOf s0 k) s (xord c ops.toList ms s0 t' K) ∧
      RInv c nt D m0 W0 ops od ρ0 ((i, k, none) :: mkR M t'.els) La s ρ a W ∧ i ∈ Region.ready .any ops La ∧ (∀ k', (i, k') ∉ t'.els) ∧
      (∀ j k' b', (j, k', b') ∈ mkR M t'.els → (tw ms j i = true ∧ allocAt c.T ops j = false) ∨ apartAt ops i j = true ∨ allocAt c.T ops j = false) ∧
      t'.els.length + cnt (mkR M t'.els) < n ∧ cnt (mkR M t.els) = cnt (mkR M t'.els) + 1 := by
    intro i k t' hA hMi
    obtain ⟨hp, hstep, hst'⟩ := hA.ok hst
    obtain ⟨o, ho, hlo, hxo⟩ := hA.run h
    have hpr : (mkR M t.els).Perm ((i, k, none) :: mkR M t'.els) := by
      have := mkR_perm (M := M) hp
      rw [show mkR M ((i, k) :: t'.els) = (i, k, M i) :: mkR M t'.els from rfl, hMi] at this
      exact this
    have hI' := hI.perm hpr
    have hiun := hI'.hli i k (List.mem_cons_self ..)
    simp only [stepB, ho, Bool.and_eq_true] at hstep
    obtain ⟨⟨hst1, hst2⟩, hst3⟩ := hstep
    have hnin : ∀ k', (i, k') ∉ t'.els := fun k' => not_in hst2 k'
    have hcnt : cnt (mkR M t.els) = cnt (mkR M t'.els) + 1 := by rw [cnt_perm hpr]; rfl
    have hlen : t.els.length = t'.els.length + 1 := by rw [hp.length_eq]; rfl
    refine ⟨o, ho, hlo, hxo, hI', mem_ready.2 ⟨hiun, o, ho, fun e he hb => ?_⟩, hnin, fun j k' b' hm' => ?_, by omega, hcnt⟩
    · have := (Array.all_eq_true_iff_forall_mem.1 hst1) e he
      simp only [Bool.or_eq_true, Bool.and_eq_true, hb, Bool.not_true, Bool.false_eq_true, false_or] at this
      have hlt : e.on < ops.size := blt_lt.1 this.1
      have hlt' : e.on < La.size := by rw [hI.lsz]; exact hlt
      cases hl : La.getD e.on true with
      | false =>
        obtain ⟨k', hk'⟩ := hI'.hun e.on hlt hl
        refine absurd ?_ (not_in this.2 k')
        rcases List.mem_cons.1 hk' with e' | e'
        · simp only [Prod.mk.injEq] at e'; rw [e'.1, e'.2.1]; exact List.mem_cons_self ..
        · exact List.mem_cons_of_mem _ (mkR_mem.1 e').1
      | true => simp [hlt'] at hl ⊢; exact hl
    · have hin := (mkR_mem.1 hm').1
      by_cases hf : floaty c.T o.op = true
      · rw [if_pos hf] at hst3
        simp only [Bool.and_eq_true] at hst3
        have := List.all_eq_true.1 hst3.2 (j, k') hin
        simp only [Bool.or_eq_true, Bool.and_eq_true] at this
        rcases this with h' | h'
        · exact .inl ⟨h'.1, by simpa using h'.2⟩
        · exact .inr (.inl h'.1)
      · rw [if_neg hf] at hst3
        simp only [Bool.and_eq_true] at hst3
        have := List.all_eq_true.1 hst3.2 (j, k') hin
        simp only [Bool.or_eq_true, Bool.and_eq_true] at this
        rcases this with (h' | h') | h'
        · exact .inr (.inr (by simpa using h'.2))
        · exact .inr (.inl h'.1)
        · exact .inr (.inr (by simpa using h'.2))
  have step : ∀ (i : Nat) (k : Ks) (o : Oper) (r' : RE), ops[i]? = some o → RInv c nt D m0 W0 ops od ρ0 ((i, k, none) :: r') La s ρ a W → i ∈ Region.ready .any ops La → (∀ k' b', (i, k', b') ∉ r') →
      (∀ j k' b', (j, k', b') ∈ r' → (tw ms j i = true ∧ allocAt c.T ops j = false) ∨ apartAt ops i j = true ∨ allocAt c.T ops j = false) → ∀ (s' : St) (ρ' : List Nat) (v : Value) (W' : World), Rel nt D m0 W0 ρ' s' (a.put o.dst v) W' → (∃ e, ρ' = ρ ++ e) → (∀ y, o.dst ≠ some y → (s'.fr y = s.fr y ∨ s.fr y ≠ .any)) →
        (∀ b, b < W.heap.size → s.m b = none → b ∉ ρ → W'.heap[b]? = W.heap[b]? ∧ s'.m b = none ∧ b ∉ ρ') →
        RInv c nt D m0 W0 ops od ρ0 r' (La.setIfInBounds i true) s' ρ' (a.put o.dst v) W' := by
    intro i k o r' ho hI hready hnin later s' ρ' v W' hr' ⟨e, he⟩ hfr hout
    have hiun := hI.hli i k (List.mem_cons_self ..)
    have hilt := unlisted_lt hiun
    have hset : ∀ dd, (La.setIfInBounds i true).getD i dd = true := getD_set_same hilt
    refine ⟨hr', hI.cl.set hready, by simp [hI.lsz], fun j hj hju => ?_, fun j k' hm' => ?_, fun x hx' => ?_, fun j k' b' hm' => hI.rod j k' b' (List.mem_cons_of_mem _ hm'), fun j k' b' hm' => ?_,
      fun j k' j' k'' b' h1 h2 => hI.dist j k' j' k'' b' (List.mem_cons_of_mem _ h1) (List.mem_cons_of_mem _ h2), fun j k' b' o' d' hm' hal' ho' hd' => ?_, ?_⟩
    · have hji : i ≠ j := fun e' => by subst e'; rw [hset] at hju; cases hju
      rw [getD_set_ne true hji] at hju
      obtain ⟨k', hk'⟩ := hI.hun j hj hju
      rcases List.mem_cons.1 hk' with e' | e'
      · exact absurd (congrArg Prod.fst e').symm hji
      · exact ⟨k', e'⟩
    · have hji : i ≠ j := fun e' => by subst e'; exact hnin k' _ hm'
      rw [getD_set_ne true hji]
      exact hI.hli j k' (List.mem_cons_of_mem _ hm')
    · by_cases hxi : i = x.1
      · rw [← hxi]; exact .inr (hset _)
      · rcases hI.odr x hx' with ⟨b', hb'⟩ | h'
        · rcases List.mem_cons.1 hb' with e' | e'
          · exact absurd (congrArg Prod.fst e').symm hxi
          · exact .inl ⟨b', e'⟩
        · rw [getD_set_ne false hxi]; exact .inr h'
    · obtain ⟨g1, g2⟩ := hI.early j k' b' (List.mem_cons_of_mem _ hm')
      obtain ⟨o', t', ti', d', p1, p2, p3, p4, p5, p6, p7⟩ := g2.lies
      have hji : i ≠ j := fun e' => by subst e'; exact hnin k' _ hm'
      have hblt : b' < W.heap.size := (Array.getElem?_eq_some_iff.1 p6).1
      obtain ⟨q1, q2, q3⟩ := hout b' hblt g2.out g2.own
      have hdd : o.dst ≠ some d' := by
        have hal' : allocAt c.T ops j = true := by simp [allocAt, p1, p2, p3, p4, p5]
        rcases later j k' (some b') hm' with h' | h' | h'
        · rw [hal'] at h'; cases h'.2
        rotate_left
        · rw [hal'] at h'; cases h'
        · simp only [apartAt, ho, p1] at h'
          exact fun e' => (Oper.apart_spec h').2.1 d' e' p4
      refine ⟨by rw [getD_set_ne false hji]; exact g1, ⟨⟨o', t', ti', d', p1, p2, p3, p4, p5, by rw [q1]; exact p6, ?_⟩, q2, g2.new, q3⟩⟩
      cases hod : o.dst with
      | none => exact p7
      | some y =>
        simp only [Act.put]
        rw [Array.getElem?_setIfInBounds_ne (fun e' => hdd (by rw [hod, e']))]; exact p7
    · have hdd : o.dst ≠ some d' := by
        rcases later j k' b' hm' with h' | h' | h'
        · rw [hal'] at h'; cases h'.2
        rotate_left
        · rw [hal'] at h'; cases h'
        · simp only [apartAt, ho, ho'] at h'
          exact fun e' => (Oper.apart_spec h').2.1 d' e' hd'
      have hany := hI.anys j k' b' o' d' (List.mem_cons_of_mem _ hm') hal' ho' hd'
      rcases hfr d' hdd with h' | h'
      · rw [h']; exact hany
      · exact absurd hany h'
    · obtain ⟨e0, he0⟩ := hI.ext
      exact ⟨e0 ++ e, by rw [he, he0, List.append_assoc]⟩
  obtain ⟨e0, he0⟩ := hI.ext
  have node : (∀ i k t' o, Alt t i k t' → ops[i]? = some o → floaty c.T o.op = false) → (∀ i ∈ t.heads, M i = none) →
      ∃ Φ, Holds Φ W ∧ (∀ f ∈ factsOf ρ s.x W, f ∈ Φ) ∧ wpAnyF c.P ops Q (fun j f => ∀ k, (j, k) ∈ od → KeepF s0 ρ0 f k) (cnt (mkR M t.els)) Φ La a W := by
    intro hfl hMn
    obtain ⟨i0, hi0⟩ := List.exists_mem_of_ne_nil _ (heads_ne hst hnil)
    obtain ⟨k0, t0, hA0⟩ := head_alt hi0
    obtain ⟨o0, ho0, hlo0, hx0, hI0, hready0, hnin0, later0, hlt0, hcnt0⟩ := common i0 k0 t0 hA0 (hMn i0 hi0)
    refine ⟨factsOf ρ s.x W, factsOf_holds _ _ _, fun f hf => hf, ?_⟩
    rw [hcnt0]
    refine ⟨fun h0 => (by rw [h0] at hready0; cases hready0), fun j hj => ?_⟩
    by_cases hjh : j ∈ t.heads
    · obtain ⟨k, t', hA⟩ := head_alt hjh
      obtain ⟨o, ho, hlo, hx, hI', hready, hnin, later, hlt, hcnt⟩ := common j k t' hA (hMn j hjh)
      have hmem : (j, k) ∈ od := hI'.rod j k none (List.mem_cons_self ..)
      have hdi : dstIn o.dst nt := hd o (by rw [← Array.getElem?_toList] at ho; exact List.mem_of_getElem? ho)
      have hsp := xop_spec (Q := Q) hT hr ho hdi hx
      refine wpOp_mono (fun a' W' hp => ?_) hsp
      obtain ⟨s', e, h1, h2, h3, h4, ⟨v, rfl⟩, h6⟩ := hp
      have hIn := step j k o _ ho hI' hready (fun k' b' hm => hnin k' (mkR_mem.1 hm).1) later s' (ρ ++ e) v W' h2 ⟨e, rfl⟩ h6 (fun b hb hm hρ => by
        obtain ⟨q1, q2, q3⟩ := h4 b hb hm hρ
        exact ⟨q1, q2, fun hin => (List.mem_append.1 hin).elim hρ q3⟩)
      obtain ⟨Φ', g1, g2, g3⟩ := ih _ hlt t' M (La.setIfInBounds j true) s' (ρ ++ e) _ W' rfl hIn (hA.ok hst).2.2 h1
      have hc' : cnt (mkR M t'.els) = cnt (mkR M t0.els) := by omega
      rw [hc'] at g3
      refine ⟨Φ', g1, fun f hf hF => ?_, g3⟩
      have hk := hF k hmem
      have keep : (∀ b, b ∈ ρ ∨ b ∈ s.x → (b, W.heap[b]?) = f → W'.heap[b]? = W.heap[b]?) → (∀ b ∈ s.x, b ∈ s'.x) → f ∈ Φ' := by
        intro hb1 hb2
        refine g2 f ?_
        simp only [factsOf, List.mem_map, List.mem_append] at hf ⊢
        obtain ⟨b, hb, rfl⟩ := hf
        exact ⟨b, hb.imp .inl (hb2 b), by rw [hb1 b hb rfl]⟩
      cases k with
      | all => exact keep (fun b hb _ => h3.1 b hb) h3.2
      | none => exact hk.elim
      | but rr =>
        simp only [kpOf] at h3
        cases hs0r : s0.fr rr with
        | p hh off =>
          rw [hs0r] at h3
          have hhl := hs0 _ _ _ hs0r
          have hne := hk hh off hs0r
          refine keep (fun b hb e' => ?_) h3.2
          subst e'
          refine h3.1 b (hr.seen_lt hb) (fun e' => hne ?_)
          have hg : ρ0.getD hh 0 = ρ.getD hh 0 := by
            rw [he0]; simp only [List.getD_eq_getElem?_getD]; rw [List.getElem?_append_left hhl]
          rw [hg]; exact e'
        | _ => rw [hs0r] at h3; exact keep (fun b hb _ => h3.1 b hb) h3.2
      | new =>
        simp only [kpOf] at h3
        refine keep (fun b hb e' => ?_) h3.2
        subst e'
        have hin : b ∈ ρ0 := hk
        refine h3.1 b ?_
        rw [he0, hL0, List.take_append_of_le_length (Nat.le_refl _), List.take_of_length_le (Nat.le_refl _)]
        exact hin
    · -- a new variable, made ahead of its turn
      obtain ⟨hjun, oj, hoj, hall⟩ := mem_ready.1 hj
      obtain ⟨kj, hkj⟩ := hI.hun j (Array.getElem?_eq_some_iff.1 hoj).1 hjun
      have hMj : M j = none := (mkR_mem.1 hkj).2
      have hkje : (j, kj) ∈ t.els := (mkR_mem.1 hkj).1
      have hkj0 : (j, kj) ∈ t0.els := by
        rcases List.mem_cons.1 ((hA0.ok hst).1.mem_iff.1 hkje) with e' | e'
        · simp only [Prod.mk.injEq] at e'; exact absurd (e'.1 ▸ hi0) hjh
        · exact e'
      have hst0 := (hA0.ok hst).2.1
      simp only [stepB, ho0, Bool.and_eq_true] at hst0
      have hst3 := hst0.2
      rw [hfl i0 k0 t0 o0 hA0 ho0, if_neg Bool.false_ne_true] at hst3
      simp only [Bool.and_eq_true] at hst3
      have hal : allocAt c.T ops j = true := by
        have := List.all_eq_true.1 hst3.2 (j, kj) hkj0
        simp only [Bool.or_eq_true, Bool.and_eq_true] at this
        rcases this with (h' | h') | h'
        · obtain ⟨h1, h2, h3⟩ := List.any_eq_true.1 h'.1
          obtain ⟨k1, t1, hA1⟩ := head_alt h2
          have hI1 := (common h1 k1 t1 hA1 (hMn h1 h2)).choose_spec.2.2.2.1
          exact absurd (tw_listed hms hI.cl h1 j oj hoj hall h3) (listed_of (hI1.hli h1 k1 (List.mem_cons_self ..)))
        · exact h'.2
        · exact absurd (by simpa using h'.1) hjh
      obtain ⟨o', ty, ti, d, p1, p2, p3, p4, p5⟩ := allocAt_spec hal
      rw [hoj] at p1; cases p1
      obtain ⟨z, hz1, hz2⟩ := (hT ty ti p5).run_zero
      have hrun : (execOp a.eval oj).run c.P W = .ok (.value (.pointer (some ⟨W.heap.size, 0, none⟩))) (W.alloc (.cells (LB.cells ti.zero).toArray ty)) := by
        simp [execOp, p2, Instr.alloc, hz2, newVar, newRow, newObj, hz1, Sem.run]
      unfold wpOp
      simp only [hoj]
      rw [if_pos (by simp [Region.wanted, p3])]
      refine .inl ?_
      unfold Oper.wp
      rw [hrun]
      have hany := hI.anys j kj none oj d hkj hal hoj p4
      let M' : Nat → Option Nat := fun x => if x = j then some W.heap.size else M x
      have hM's : M' j = some W.heap.size := by simp [M']
      have hM'n : ∀ x, x ≠ j → M' x = M x := fun x hx => by simp [M', hx]
      have hnd : (t.els.map Prod.fst).Nodup := ordSt_nodup hst
      have hcnt2 : cnt (mkR M' t.els) + 1 = cnt (mkR M t.els) := cnt_mark hMj hnd hkje
      have hr2 : ∀ j' k' b', (j', k', b') ∈ mkR M' t.els → (j' = j ∧ (j', k') ∈ t.els ∧ b' = some W.heap.size) ∨ (j' ≠ j ∧ (j', k', b') ∈ mkR M t.els) := by
        intro j' k' b' hm
        obtain ⟨q1, q2⟩ := mkR_mem.1 hm
        by_cases e' : j' = j
        · subst e'; rw [hM's] at q2; exact .inl ⟨rfl, q1, q2.symm⟩
        · rw [hM'n _ e'] at q2; exact .inr ⟨e', mkR_mem.2 ⟨q1, q2⟩⟩
      have hr2' : ∀ j' k' b', (j', k', b') ∈ mkR M t.els → j' ≠ j → (j', k', b') ∈ mkR M' t.els := by
        intro j' k' b' hm e'
        obtain ⟨q1, q2⟩ := mkR_mem.1 hm
        exact mkR_mem.2 ⟨q1, by rw [hM'n _ e']; exact q2⟩
      have hjk : ∀ k', (j, k') ∈ t.els → (j, k', none) ∈ mkR M t.els := fun k' hk' => mkR_mem.2 ⟨hk', hMj⟩
      have hjlt := unlisted_lt hjun
      have hszρ : W.heap.size ∉ ρ := fun hin => Nat.lt_irrefl _ (hr.seen_lt (.inl hin))
      have hI2 : RInv c nt D m0 W0 ops od ρ0 (mkR M' t.els) (La.setIfInBounds j true) s ρ (a.put oj.dst (.pointer (some ⟨W.heap.size, 0, none⟩))) (W.alloc (.cells (LB.cells ti.zero).toArray ty)) := by
        refine ⟨by rw [p4]; exact hr.ahead hany _ _, hI.cl.set hj, by simp [hI.lsz], fun j' hj' hju' => ?_, fun j' k' hm' => ?_, fun x hx' => ?_, fun j' k' b' hm' => ?_, fun j' k' b' hm' => ?_, fun j1 k1 j2 k2 b' m1 m2 => ?_, fun j' k' b' o' d' hm' hal' ho' hd' => ?_, hI.ext⟩
        · have hne : j ≠ j' := fun e' => by subst e'; rw [getD_set_same hjlt] at hju'; cases hju'
          rw [getD_set_ne true hne] at hju'
          obtain ⟨k', hk'⟩ := hI.hun j' hj' hju'
          exact ⟨k', hr2' _ _ _ hk' (Ne.symm hne)⟩
        · rcases hr2 _ _ _ hm' with ⟨_, _, h'⟩ | ⟨hne, h'⟩
          · cases h'
          · rw [getD_set_ne true (Ne.symm hne)]
            exact hI.hli j' k' h'
        · by_cases hxj : j = x.1
          · rw [← hxj]; exact .inr (getD_set_same hjlt _)
          · rcases hI.odr x hx' with ⟨b', hb'⟩ | h'
            · exact .inl ⟨b', hr2' _ _ _ hb' (Ne.symm hxj)⟩
            · rw [getD_set_ne false hxj]; exact .inr h'
        · rcases hr2 _ _ _ hm' with ⟨rfl, h', _⟩ | ⟨_, h'⟩
          · exact hI.rod _ _ _ (hjk _ h')
          · exact hI.rod _ _ _ h'
        · rcases hr2 _ _ _ hm' with ⟨rfl, h', hb'⟩ | ⟨hne, h'⟩
          · cases hb'
            refine ⟨getD_set_same hjlt _, ⟨⟨oj, ty, ti, d, hoj, p2, p3, p4, p5, heap_alloc_new W _, ?_⟩, hr.after.over.none (Nat.le_refl _), hr.after.size, hszρ⟩⟩
            rw [p4]
            have hdi' : dstIn oj.dst nt := hd oj (by rw [← Array.getElem?_toList] at hoj; exact List.mem_of_getElem? hoj)
            rw [p4] at hdi'
            have hdl : d < a.tmps.size := by rw [hr.size]; exact hdi' d rfl
            simp [Act.put, hdl]
          · obtain ⟨g1, g2⟩ := hI.early j' k' b' h'
            obtain ⟨o1, t1, ti1, d1, q1, q2, q3, q4, q5, q6, q7⟩ := g2.lies
            have hblt : b' < W.heap.size := (Array.getElem?_eq_some_iff.1 q6).1
            refine ⟨by rw [getD_set_ne false (Ne.symm hne)]; exact g1, ⟨⟨o1, t1, ti1, d1, q1, q2, q3, q4, q5, by rw [heap_alloc_old W _ hblt]; exact q6, ?_⟩, g2.out, g2.new, g2.own⟩⟩
            have hdd : d ≠ d1 := by
              intro e'; subst e'
              have hin' : (j', k') ∈ t.els := (mkR_mem.1 h').1
              have hal' : allocAt c.T ops j' = true := by simp [allocAt, q1, q2, q3, q4, q5]
              rcases ordSt_apart hst (j, kj) hkje (j', k') hin' (Ne.symm hne) hal hal' with h' | h'
              · simp only [apartAt, hoj, q1] at h'
                exact (Oper.apart_spec h').2.1 d p4 q4
              · simp only [apartAt, hoj, q1] at h'
                exact (Oper.apart_spec h').2.1 d q4 p4
            rw [p4]
            simp only [Act.put]
            rw [Array.getElem?_setIfInBounds_ne hdd]; exact q7
        · rcases hr2 _ _ _ m1 with ⟨e1, _, b1⟩ | ⟨_, h1⟩ <;> rcases hr2 _ _ _ m2 with ⟨e2, _, b2⟩ | ⟨_, h2⟩
          · exact e1.trans e2.symm
          · cases b1
            obtain ⟨_, _, _, _, _, _, _, _, _, q6, _⟩ := (hI.early _ _ _ h2).2.lies
            have := (Array.getElem?_eq_some_iff.1 q6).1
            omega
          · cases b2
            obtain ⟨_, _, _, _, _, _, _, _, _, q6, _⟩ := (hI.early _ _ _ h1).2.lies
            have := (Array.getElem?_eq_some_iff.1 q6).1
            omega
          · exact hI.dist _ _ _ _ _ h1 h2
        · rcases hr2 _ _ _ hm' with ⟨rfl, h', _⟩ | ⟨_, h'⟩
          · exact hI.anys _ _ _ _ _ (hjk _ h') hal' ho' hd'
          · exact hI.anys _ _ _ _ _ h' hal' ho' hd'
      obtain ⟨Φ', g1, g2, g3⟩ := ih (t.els.length + cnt (mkR M' t.els)) (by omega) t M' (La.setIfInBounds j true) s ρ _ _ rfl hI2 hst h
      rw [show cnt (mkR M' t.els) = cnt (mkR M t0.els) by omega] at g3
      refine ⟨Φ', g1, fun f hf' _ => g2 f (factsOf_mono (fun _ h => h) (fun _ h => h) (fun b hb => heap_alloc_old W _ (hr.seen_lt hb)) f hf'), g3⟩
  cases t with
  | nil => exact absurd rfl hnil
  | or x y =>
    have h2 := heads_two hst hnil
    refine node (fun i k t' o hA ho => ?_) (fun i hi => ?_)
    · have hs := (hA.ok hst).2.1
      cases hf : floaty c.T o.op with
      | false => rfl
      | true =>
        simp only [stepB, ho, hf, if_true, Bool.and_eq_true, beq_iff_eq] at hs
        rw [hs.2.1.2] at h2; simp at h2
    · obtain ⟨k, t', hA⟩ := head_alt hi
      cases hM : M i with
      | none => rfl
      | some b =>
        have hin : (i, k, some b) ∈ mkR M (OT.or x y).els := mkR_mem.2 ⟨(hA.ok hst).1.mem_iff.2 (List.mem_cons_self ..), hM⟩
        obtain ⟨o, t, ti, d, ho, hop, hgd, hdst, hti, _⟩ := (hI.early i k b hin).2.lies
        have hal : allocAt c.T ops i = true := by simp [allocAt, ho, hop, hgd, hdst, hti]
        have hs := (hA.ok hst).2.1
        have hnf : floaty c.T o.op = false := by rw [hop]; rfl
        simp only [stepB, ho, hnf, hal, Bool.false_eq_true, if_false, Bool.not_true, Bool.false_or, Bool.and_eq_true, beq_iff_eq] at hs
        rw [hs.2.1.2] at h2; simp at h2
  | op i k t' =>
  cases hM : M i with
  | some b =>
    have hels : (OT.op i k t').els = (i, k) :: t'.els := rfl
    have hmk : mkR M (OT.op i k t').els = (i, k, some b) :: mkR M t'.els := by rw [hels, ← hM]; rfl
    rw [hmk] at hI hn ⊢
    obtain ⟨hiL, hE⟩ := hI.early i k b (List.mem_cons_self ..)
    obtain ⟨o, ty, ti, d, ho, hop, hgd, hdst, hti, hW, hslot⟩ := hE.lies
    have hal : allocAt c.T ops i = true := by simp [allocAt, ho, hop, hgd, hdst, hti]
    simp only [ordSt, stepB, ho, Bool.and_eq_true] at hst
    obtain ⟨⟨⟨hst1, hst2⟩, hst3⟩, hst4⟩ := hst
    have hnf : floaty c.T o.op = false := by rw [hop]; rfl
    rw [hnf, if_neg Bool.false_ne_true] at hst3
    simp only [Bool.and_eq_true] at hst3
    have hka : k = .all := by
      rw [hal] at hst3
      cases k <;> first | rfl | (simp [isAll] at hst3)
    simp only [xord, nth_eq, Array.getElem?_toList, ho] at h
    have hlo : loadOk c.T s0 ms i o s t'.els = true := by simp [loadOk, ldArg, hop]
    simp only [hlo, cond_true, xop, hgd, xact, hnf] at h
    simp only [nval, hop, hti] at h
    have tail : ∀ (s' : St) (ρ' : List Nat), Rel nt D m0 W0 ρ' s' a W → (∃ e, ρ' = ρ ++ e ∧ ∀ x ∈ e, x = b) → s'.x = s.x → (∀ x, x ≠ b → s'.m x = s.m x) → (∀ y, y ≠ d → s'.fr y = s.fr y) → xord c ops.toList ms s0 t' K s' →
        ∃ Φ, Holds Φ W ∧ (∀ f ∈ factsOf ρ s.x W, f ∈ Φ) ∧ wpAnyF c.P ops Q (fun j f => ∀ k, (j, k) ∈ od → KeepF s0 ρ0 f k) (cnt (mkR M t'.els)) Φ La a W := by
      intro s' ρ' hr' ⟨e, he, hee⟩ hx hm hfr hk
      have hIn : RInv c nt D m0 W0 ops od ρ0 (mkR M t'.els) La s' ρ' a W := by
        refine ⟨hr', hI.cl, hI.lsz, fun j hj hju => ?_, fun j k' hm' => hI.hli j k' (List.mem_cons_of_mem _ hm'), fun x hx' => ?_, fun j k' b' hm' => hI.rod j k' b' (List.mem_cons_of_mem _ hm'), fun j k' b' hm' => ?_,
          fun j k' j' k'' b' h1 h2 => hI.dist j k' j' k'' b' (List.mem_cons_of_mem _ h1) (List.mem_cons_of_mem _ h2), fun j k' b' o' d' hm' hal' ho' hd' => ?_, ?_⟩
        · obtain ⟨k', hk'⟩ := hI.hun j hj hju
          rcases List.mem_cons.1 hk' with e' | e'
          · simp at e'
          · exact ⟨k', e'⟩
        · rcases hI.odr x hx' with ⟨b', hb'⟩ | h'
          · rcases List.mem_cons.1 hb' with e' | e'
            · have : x.1 = i := congrArg Prod.fst e'
              rw [this]; exact .inr hiL
            · exact .inl ⟨b', e'⟩
          · exact .inr h'
        · obtain ⟨g1, g2⟩ := hI.early j k' b' (List.mem_cons_of_mem _ hm')
          have hbb : b' ≠ b := by
            intro e'
            have := hI.dist j k' i k b (by rw [← e']; exact List.mem_cons_of_mem _ hm') (List.mem_cons_self ..)
            subst this
            exact not_in hst2 k' (mkR_mem.1 hm').1
          refine ⟨g1, ⟨g2.lies, by rw [hm b' hbb]; exact g2.out, g2.new, fun hin => ?_⟩⟩
          rw [he] at hin
          rcases List.mem_append.1 hin with h' | h'
          · exact g2.own h'
          · exact hbb (hee b' h')
        · have hne : d' ≠ d := by
            intro e'
            subst e'
            have hji : j ≠ i := by
              intro e''; subst e''
              exact not_in hst2 k' (mkR_mem.1 hm').1
            have hx3 := List.all_eq_true.1 hst3.2 (j, k') (mkR_mem.1 hm').1
            simp only [Bool.or_eq_true, Bool.and_eq_true] at hx3
            rcases hx3 with (h' | h') | h'
            · rw [hal'] at h'; simp at h'
            rotate_left
            · rw [hal'] at h'; simp at h'
            · have hap := h'.1
              simp only [apartAt, ho, ho'] at hap
              have := (Oper.apart_spec hap).2.1 d' hdst
              exact this hd'
          rw [hfr d' hne]
          exact hI.anys j k' b' o' d' (List.mem_cons_of_mem _ hm') hal' ho' hd'
        · obtain ⟨e0, he0⟩ := hI.ext
          exact ⟨e0 ++ e, by rw [he, he0, List.append_assoc]⟩
      obtain ⟨Φ, q1, q2, q3⟩ := ih (t'.els.length + cnt (mkR M t'.els)) (by rw [← hn, hels]; simp only [List.length_cons, cnt]; omega) t' M La s' ρ' a W rfl hIn hst4 hk
      refine ⟨Φ, q1, fun f hf => q2 f (factsOf_mono (fun x hx' => by rw [he]; exact List.mem_append_left _ hx') (fun x hx' => by rw [hx]; exact hx') (fun _ _ => rfl) f hf), q3⟩
    cases hesc : escOf c o.dst with
    | false =>
      rw [hesc] at h
      simp only [nNew, hdst] at h
      exact tail _ _ (hr.adopt hslot (hT ty ti hti).zok hW hE.out hE.new hE.own) ⟨[b], rfl, by simp⟩ rfl (fun _ _ => rfl) (fun y hy => by show putF s.fr (some d) _ y = s.fr y; rw [putF_at, if_neg (by simpa using fun e => hy e.symm)]) h
    | true =>
      rw [hesc] at h
      simp only [nNew, hdst] at h
      exact tail _ _ (hr.adoptKnown hslot hW hE.out hE.new hE.own) ⟨[], by simp, by simp⟩ rfl (fun x hx => Mem.set_ne _ _ hx) (fun y hy => by show putF s.fr (some d) _ y = s.fr y; rw [putF_at, if_neg (by simpa using fun e => hy e.symm)]) (h b hE.out)
  | none =>
    obtain ⟨o, ho, hlo, h, hI', hready, hnin, later, hlt0, hcnt⟩ := common i k t' .op hM
    cases hf : floaty c.T o.op with
    | false =>
      refine node (fun i' k2 t2 o' hA ho' => ?_) (fun i' hi' => ?_)
      · cases hA; rw [ho] at ho'; cases ho'; exact hf
      · simp only [OT.heads, List.mem_singleton] at hi'; rw [hi']; exact hM
    | true =>
      rw [hcnt]
      have hst4 : ordSt c.T ops ms t'.heads t' = true := ((Alt.op (i := i) (k := k) (r := t')).ok hst).2.2
      have hst3 := ((Alt.op (i := i) (k := k) (r := t')).ok hst).2.1
      simp only [stepB, ho, hf, if_true, Bool.and_eq_true] at hst3
      have hst3 := hst3.2
      have hdi : dstIn o.dst nt := hd o (by rw [← Array.getElem?_toList] at ho; exact List.mem_of_getElem? ho)
      have take : ∀ (s' : St) (v : Value) (Ψ : List Fact), YieldsIf c.P ops (Holds Ψ) o v a → (Ψ ≠ [] → isLoad c.T o.op = true) → (∀ f ∈ Ψ, f ∈ factsOf ρ s'.x W) → (∀ f ∈ Ψ, ∀ j r, (j, Ks.but r) ∈ t'.els → tw ms j i = false → KeepF s0 ρ0 f (.but r)) → (∀ f ∈ Ψ, ∀ j, (j, Ks.new) ∈ t'.els → tw ms j i = false → KeepF s0 ρ0 f .new) → (∀ b ∈ s.x, b ∈ s'.x) → s'.m = s.m →
          (∀ y, o.dst ≠ some y → (s'.fr y = s.fr y ∨ s.fr y ≠ .any)) → xord c ops.toList ms s0 t' K s' → Rel nt D m0 W0 ρ s' (a.put o.dst v) W →
          ∃ Φ, Holds Φ W ∧ (∀ f ∈ factsOf ρ s.x W, f ∈ Φ) ∧ wpAnyF c.P ops Q (fun j f => ∀ k, (j, k) ∈ od → KeepF s0 ρ0 f k) (cnt (mkR M t'.els) + 1) Φ La a W := by
        intro s' v Ψ hy hΨ hΨs hΨk hΨn hxs hms' hfr hk' hr'
        have hIn := step i k o _ ho hI' hready (fun k' b' hm => hnin k' (mkR_mem.1 hm).1) later s' ρ v W hr' ⟨[], by simp⟩ hfr (fun b hb hm hρ => ⟨rfl, by rw [hms']; exact hm, hρ⟩)
        obtain ⟨Φ, h1, h2, h3⟩ := ih _ hlt0 t' M (La.setIfInBounds i true) s' ρ _ W rfl hIn hst4 hk'
        refine ⟨Φ, h1, fun f hf' => h2 f (factsOf_mono (fun _ hb => hb) hxs (fun _ _ => rfl) f hf'), ?_⟩
        refine wpAnyF_first hms ho (Region.noSelect_spec hsel) (fun ch a w => hP ch a _ _ w) (cnt (mkR M t'.els)) Φ La a W hI.cl ?_ hready hy h1 (fun f hf' => h2 f (hΨs f hf')) h3
        intro j oj hj hji hjun hno
        have hjlt : j < ops.size := (Array.getElem?_eq_some_iff.1 hj).1
        obtain ⟨kj, hkj⟩ := hI'.hun j hjlt hjun
        have hkj' : (j, kj, none) ∈ mkR M t'.els := by
          rcases List.mem_cons.1 hkj with e' | e'
          · exact absurd (congrArg Prod.fst e') hji
          · exact e'
        constructor
        · have := List.all_eq_true.1 hst3.2 (j, kj) (mkR_mem.1 hkj').1
          simp only [Bool.or_eq_true, Bool.and_eq_true, hno, Bool.false_eq_true, false_and, false_or] at this
          simpa [apartAt, ho, hj] using this.1
        · intro f hf' k' hk''
          have hl := hΨ (by intro e'; rw [e'] at hf'; cases hf')
          have hin : (j, k') ∈ t'.els := by
            rcases hI'.odr (j, k') hk'' with ⟨b', hb'⟩ | h'
            · rcases List.mem_cons.1 hb' with e' | e'
              · exact absurd (congrArg Prod.fst e') hji
              · exact (mkR_mem.1 e').1
            · exact absurd h' (listed_of hjun)
          have := List.all_eq_true.1 hst3.2 (j, k') hin
          simp only [Bool.or_eq_true, Bool.and_eq_true, hno, hl, Bool.not_true, Bool.false_eq_true, false_and, false_or] at this
          cases k' with
          | all => trivial
          | none => simp [isNone] at this
          | but rr => exact hΨk f hf' j rr hin hno
          | new => exact hΨn f hf' j hin hno
      have yes : ∀ s', Rel nt D m0 W0 ρ s' a W → s'.x = s.x → s'.m = s.m → (∀ y, s'.fr y = s.fr y ∨ s.fr y ≠ .any) → (∀ x b, blkOf ρ (ev s' x) = some b → ev s' x = ev s x) → Region.wanted o (yielded ops a.tmps) = true → xact c o (kpOf s0 k) s' (xord c ops.toList ms s0 t' K) →
          ∃ Φ, Holds Φ W ∧ (∀ f ∈ factsOf ρ s.x W, f ∈ Φ) ∧ wpAnyF c.P ops Q (fun j f => ∀ k, (j, k) ∈ od → KeepF s0 ρ0 f k) (cnt (mkR M t'.els) + 1) Φ La a W := by
        intro s' hr' hx hmm hfr hev hw hh
        unfold xact at hh
        rw [hf] at hh
        obtain ⟨sv, bs, v, B, h1, h2, h3, h4, h4', h5⟩ := fval_spec hT hr' hh
        refine take ⟨putF s'.fr o.dst sv, s'.L, s'.m, bs ++ s'.x⟩ v (B.map fun b => (b, W.heap[b]?)) (.inl ⟨hw, fun w hS => h5 o rfl w fun b hb => hS (b, W.heap[b]?) (List.mem_map.2 ⟨b, hb, rfl⟩)⟩) ?_ ?_ ?_ ?_ ?_ hmm ?_ h1 ?_
        · intro hne
          cases hl : isLoad c.T o.op with
          | true => rfl
          | false => rw [h4 hl] at hne; simp at hne
        · intro f hf'
          simp only [List.mem_map] at hf'
          obtain ⟨b, hb, rfl⟩ := hf'
          simp only [factsOf, List.mem_map, List.mem_append]
          refine ⟨b, ?_, rfl⟩
          rcases (h4' b hb).1 with h' | h'
          · exact .inl h'
          · exact .inr (.inl h')
        · intro f hf' j rr hjr hno hh' off hs0'
          simp only [List.mem_map] at hf'
          obtain ⟨b, hb, rfl⟩ := hf'
          obtain ⟨_, x', hop', hbk, hc'⟩ := h4' b hb
          have hlo' := hlo
          simp only [loadOk, hop'] at hlo'
          have hev' := hev x' b hbk
          exact diffH_spec hr' he0 hbk hc' hs0' (hs0 _ _ _ hs0') (by rw [hev']; exact ldOk_spec hlo' j rr hjr hno)
        · intro f hf' j hjr hno
          simp only [List.mem_map] at hf'
          obtain ⟨b, hb, rfl⟩ := hf'
          obtain ⟨_, x', hop', hbk, hc'⟩ := h4' b hb
          have hlo' := hlo
          simp only [loadOk, hop'] at hlo'
          have hev' := hev x' b hbk
          exact oldH_spec he0 hL0 hbk (by rw [hev']; exact ldOk_new hlo' j hjr hno)
        · intro b hb
          rw [← hx] at hb
          exact List.mem_append_right _ hb
        · intro y hy
          show putF s'.fr o.dst sv y = s.fr y ∨ _
          rw [putF_at, if_neg hy]
          exact hfr y
        · refine hr'.put (by rw [hr'.size]; exact hdi) ?_ v ?_ _ ?_
          · rcases h2 with h2 | h2
            · exact .inl h2
            · exact .inr ⟨h2.1, h2.2.1⟩
          · rcases h2 with h2 | h2
            · exact .inl h2
            · exact .inr h2.2.2
          · intro b hb
            rcases List.mem_append.1 hb with hb | hb
            · exact h3 b hb
            · exact hr'.seen b hb
      have no : ∀ s', Rel nt D m0 W0 ρ s' a W → s'.x = s.x → s'.m = s.m → (∀ y, s'.fr y = s.fr y ∨ s.fr y ≠ .any) → Region.wanted o (yielded ops a.tmps) = false → xord c ops.toList ms s0 t' K ⟨putF s'.fr o.dst .un, s'.L, s'.m, s'.x⟩ →
          ∃ Φ, Holds Φ W ∧ (∀ f ∈ factsOf ρ s.x W, f ∈ Φ) ∧ wpAnyF c.P ops Q (fun j f => ∀ k, (j, k) ∈ od → KeepF s0 ρ0 f k) (cnt (mkR M t'.els) + 1) Φ La a W := by
        intro s' hr' hx hmm hfr hw hh
        refine take ⟨putF s'.fr o.dst .un, s'.L, s'.m, s'.x⟩ undef [] (.inr ⟨hw, rfl⟩) (by simp) (by simp) (by simp) (by simp) (fun b hb => by rw [← hx] at hb; exact hb) hmm ?_ hh (hr'.skip hdi)
        intro y hy
        show putF s'.fr o.dst .un y = s.fr y ∨ _
        rw [putF_at, if_neg hy]
        exact hfr y
      have dec : ∀ (d : Nat) (b : Bool), s.fr d = .c (.v (.bool b)) → ∀ z : SV, (∀ y, putF s.fr (some d) z y = s.fr y ∨ s.fr y ≠ .any) := by
        intro d b e z y
        rw [putF_at]
        by_cases e' : some d = some y
        · simp only [Option.some.injEq] at e'; subst e'; exact .inr (by rw [e]; simp)
        · rw [if_neg e']; exact .inl rfl
      have dev : ∀ (d : Nat) (z : SV), (z = .tt ∨ z = .ff) → ∀ x b, blkOf ρ (ev ⟨putF s.fr (some d) z, s.L, s.m, s.x⟩ x) = some b → ev ⟨putF s.fr (some d) z, s.L, s.m, s.x⟩ x = ev s x := by
        intro d z hz x b hb
        cases x with
        | tmp t =>
          simp only [ev] at hb ⊢
          rw [putF_at] at hb ⊢
          by_cases e' : some d = some t
          · rw [if_pos e'] at hb
            rcases hz with rfl | rfl <;> simp [blkOf] at hb
          · rw [if_neg e']
        | const v => cases v <;> first | rfl | (rename_i b'; cases b' <;> rfl)
        | global g => rfl
        | func f => rfl
      unfold xop at h
      split at h
      · rename_i hg
        exact yes s hr rfl rfl (fun _ => .inl rfl) (fun _ _ _ => rfl) (by simp [Region.wanted, hg]) h
      · rename_i j w hg
        split at h
        · exact h.elim
        rename_i d hgd
        have want : ∀ b, a.tmps[d]? = some (.bool b) → Region.wanted o (yielded ops a.tmps) = (b == w) := by
          intro b hb
          simp only [Region.wanted, hg, yielded_at hgd hb]
          cases b <;> cases w <;> rfl
        have hs := hr.slots d
        split at h
        · rename_i e
          rw [e] at hs
          rcases hs with hs | ⟨hs, _⟩
          · simp at hs
          have := want true hs
          cases w
          · exact no s hr rfl rfl (fun _ => .inl rfl) (by rw [this]; rfl) h
          · exact yes s hr rfl rfl (fun _ => .inl rfl) (fun _ _ _ => rfl) (by rw [this]; rfl) h
        · rename_i e
          rw [e] at hs
          rcases hs with hs | ⟨hs, _⟩
          · simp at hs
          have := want false hs
          cases w
          · exact yes s hr rfl rfl (fun _ => .inl rfl) (fun _ _ _ => rfl) (by rw [this]; rfl) h
          · exact no s hr rfl rfl (fun _ => .inl rfl) (by rw [this]; rfl) h
        · rename_i e
          rw [e] at hs
          rcases hs with hs | ⟨hs, _⟩
          · simp at hs
          refine no s hr rfl rfl (fun _ => .inl rfl) ?_ h
          simp only [Region.wanted, hg, yielded_at hgd hs]
          rfl
        · rename_i b e
          rw [e] at hs
          rcases hs with hs | ⟨hs, _⟩
          · simp at hs
          have hw := want b hs
          have hdec := hr.decide e
          cases b
          · have h' := h.2 rfl
            cases w
            · exact yes _ hdec rfl rfl (dec d _ e _) (dev d _ (.inr rfl)) (by rw [hw]; rfl) h'
            · exact no _ hdec rfl rfl (dec d _ e _) (by rw [hw]; rfl) h'
          · have h' := h.1 rfl
            cases w
            · exact no _ hdec rfl rfl (dec d _ e _) (by rw [hw]; rfl) h'
            · exact yes _ hdec rfl rfl (dec d _ e _) (dev d _ (.inl rfl)) (by rw [hw]; rfl) h'
        · exact h.elim
theorem fresh_spec {s : St} : ∀ {l : List Oper}, fresh s l = true → ∀ o ∈ l, ∀ t d, o.op = .alloc t → o.dst = some d → s.fr d = .any
  | [], _, o, ho, _, _, _, _ => by cases ho
  | o' :: l, h, o, ho, t, d, hop, hd => by
    have tail : fresh s l = true ∧ (o = o' → s.fr d = .any) := by
      simp only [fresh] at h
      split at h
      · rename_i t' ht'
        split at h
        · rename_i d' hd'
          split at h
          · rename_i e
            refine ⟨h, fun e' => ?_⟩
            subst e'
            rw [hd] at hd'; cases hd'
            exact e
          · cases h
        · rename_i hd'
          exact ⟨h, fun e' => by subst e'; rw [hd] at hd'; cases hd'⟩
      · rename_i hn
        exact ⟨h, fun e' => by subst e'; exact absurd hop (hn t)⟩
    rcases List.mem_cons.1 ho with e | ho'
    · exact tail.2 e
    · exact fresh_spec tail.1 o ho' t d hop hd
theorem wpAny_in {F : Fence} (hF : FOk F) {P : Program} {ops : Array Oper} {Q : Exit → Act → World → Prop} (hnd : ∀ o ∈ ops.toList, notDefer o.op = true) (hQ : ¬ LetsOut Q) : ∀ (fuel : Nat) (listed : Array Bool) (a : Act) (w : World), wpAny P .any ops Q fuel listed a w → wpAnyIn F 0 P .any ops Q fuel listed a w
  | 0, _, _, _, h => h
  | fuel + 1, listed, a, w, h => ⟨h.1, fun i hi => wpOpIn_mono (fun a' w' h' => wpAny_in hF hnd hQ fuel _ a' w' h') (wpOp_in hF (fun o ho => hnd o (by rw [← Array.getElem?_toList] at ho; exact List.mem_of_getElem? ho)) hQ (h.2 i hi))⟩
theorem region_drawn {F : Fence} (hF : FOk F) {ρ : List Nat} {s : St} {a : Act} {W : World} (hT : TabOk c.P c.T) (hm : c.P.follows .mixedOrders = true) {id : Nat} (hd : ∀ o ∈ ops.toList, dstIn o.dst nt) (hnd : ∀ o ∈ ops.toList, notDefer o.op = true) {K : St → Prop}
    (od : Ord) (hod : ordOk c.T ops od = true) (hfr : fresh s ops.toList = true)
    (hr : Rel nt D m0 W0 ρ s a W) (h : xord c ops.toList od.ms s od.od K s) : (Code.region id ops true).wpIn F 0 c.P (QN nt D m0 W0 K) a W := by
  simp only [ordOk, Bool.and_eq_true, beq_iff_eq] at hod
  obtain ⟨⟨⟨⟨h1, h2⟩, h3⟩, h4⟩, h5⟩ := hod
  have hr' : Rel nt D m0 W0 ρ s a { W with drawn := W.drawn + 1 } := ⟨hr.defers, hr.size, hr.slots, hr.len, hr.locs, hr.nodup, hr.after.drew, hr.seen⟩
  let M : Nat → Option Nat := fun _ => none
  have hcnt : cnt (mkR M od.od.els) = od.od.els.length := by
    have : ∀ l : List (Nat × Ks), cnt (mkR M l) = l.length := by
      intro l
      induction l with
      | nil => rfl
      | cons x l ih => show cnt (mkR M l) + 1 = l.length + 1; rw [ih]
    exact this od.od.els
  have hmr : ∀ j k b, (j, k, b) ∈ mkR M od.od.els ↔ (j, k) ∈ od.od.els ∧ b = none := by
    intro j k b
    rw [mkR_mem]
    exact ⟨fun h => ⟨h.1, h.2.symm⟩, fun h => ⟨h.1, h.2.symm⟩⟩
  have hlt : ∀ j k, (j, k) ∈ od.od.els → j < ops.size := by
    intro j k hjk
    have : ∀ (t : OT) (H : List Nat), ordSt c.T ops od.ms H t = true → (j, k) ∈ t.els → j < ops.size := by
      intro t
      induction t with
      | nil => intro _ _ hx; cases hx
      | or x y ihx _ =>
        intro H hs hx
        simp only [ordSt, Bool.and_eq_true] at hs
        exact ihx H hs.1.2 hx
      | op i k' r ih =>
        intro H hs hx
        simp only [ordSt, Bool.and_eq_true] at hs
        rcases List.mem_cons.1 (show (j, k) ∈ (i, k') :: r.els from hx) with e | hx
        · simp only [Prod.mk.injEq] at e
          obtain ⟨rfl, rfl⟩ := e
          cases ho : ops[j]? with
          | none => simp [stepB, ho] at hs
          | some o => exact (Array.getElem?_eq_some_iff.1 ho).1
        · exact ih _ hs.2 hx
    exact this _ _ h5 hjk
  have hI : RInv c nt D m0 W0 ops od.od.els ρ (mkR M od.od.els) (Array.replicate ops.size false) s ρ a { W with drawn := W.drawn + 1 } := by
    refine ⟨hr', ?_, by simp, fun j hj _ => ?_, fun j k hx => ?_, fun x hx => .inl ⟨none, (hmr _ _ _).2 ⟨hx, rfl⟩⟩, fun j k b hx => ((hmr _ _ _).1 hx).1, fun j k b hx => (by have := ((hmr _ _ _).1 hx).2; cases this), fun j k j' k' b hx => (by have := ((hmr _ _ _).1 hx).2; cases this), fun j k b o d hx hal ho hdst => ?_, ⟨[], by simp⟩⟩
    · intro k o ho hk
      have hlk : k < ops.size := (Array.getElem?_eq_some_iff.1 ho).1
      simp [hlk] at hk
    · simp only [List.all_eq_true, List.mem_range] at h3
      obtain ⟨x, hx, hxj⟩ := List.any_eq_true.1 (h3 j hj)
      have : x.1 = j := by simpa using hxj
      subst this
      exact ⟨x.2, (hmr _ _ _).2 ⟨hx, rfl⟩⟩
    · have := hlt j k ((hmr _ _ _).1 hx).1
      simp [this]
    · obtain ⟨o', t, ti, d', p1, p2, p3, p4, p5⟩ := allocAt_spec hal
      rw [ho] at p1; cases p1
      exact fresh_spec hfr o (by rw [← Array.getElem?_toList] at ho; exact List.mem_of_getElem? ho) t d p2 hdst
  have hs0 : ∀ i h off, s.fr i = .p h off → h < ρ.length := by
    intro i h off e
    rcases hr.slots i with g | ⟨_, _, g⟩
    · rw [e] at g; cases g
    · rw [e] at g; exact g
  obtain ⟨Φ, _, _, hw⟩ := xord_spec (D := D) (m0 := m0) (W0 := W0) (Q := QN nt D m0 W0 K) hT hd h1 h2 (fun s ρ a W hk hr => ⟨s, ρ, hk, hr⟩) (fun _ _ _ _ _ h => h) od.od.els s ρ hs0 hr.len.symm _ od.od M _ s ρ a _ rfl hI h5 h
  rw [hcnt, h4] at hw
  exact wpIn_region_any hm (wpAny_in hF hnd QN.out _ _ _ _ (wpAny_of_F _ _ _ _ _ hw))
end
end Go.E
