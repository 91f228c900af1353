/-
  Regions: one operation behind the other; and regions that draw their order.
-/
import Derived.Test.YtkapdbbjgpofnaaE10
import Derived.OrdersIn
import Derived.TacticsIn
import Derived.RangeFuncRecord
import Derived.OrdersHeld
namespace Go.E

/-- does an operation only reckon and read? -/
def floaty (T : Tab) : Op → Bool
  | .move _ => true
  | .pick _ _ _ => true
  | .assign _ => true
  | .load _ _ => true
  | .nilCheck _ => true
  | .binOp _ _ _ _ _ => true
  | .unOp _ _ _ => true
  | .convert a b _ => match T a, T b with
    | some i, some j => match i.k, j.k with
      | .int _, .int _ => true
      | .str, .str => true
      | .slice _, .str => strConv T a b
      | _, _ => false
    | _, _ => false
  | .field _ _ _ => true
  | .fieldAddr _ _ _ => true
  | .indexAddr _ _ _ => true
  | .index _ _ _ => true
  | .extract _ _ => true
  | .build _ _ => true
  | .slice _ _ _ _ _ => true
  | .call ⟨.builtin b, _, _⟩ => match b with
    | .min => true
    | .max => true
    | .len => true
    | _ => false
  | _ => false

/-- what an operation of a region that draws keeps: all; nothing; all but the block to which slot r leads; the blocks that there were at the region's beginning -/
inductive Ks where
  | all
  | none
  | but (r : Nat)
  | new
/-- a tree of orders: at a fork, several operations may come up, each with what is behind it -/
inductive OT where
  | nil
  | op (i : Nat) (k : Ks) (r : OT)
  | or (a b : OT)
/-- an order in which the operations of a region are gone through, what each keeps, and, of each, for which it waits (as bits) -/
structure Ord where
  od : OT
  ms : List Nat
/-- what a run goes by: the program, its types, the slots whose new blocks are known to others, the orders of regions that draw, the regions ahead of which the run halts -/
structure Cfg where
  P : Program
  T : Tab
  esc : Nat → Bool
  ord : Nat → Ord
  cut : Nat → Bool
def escOf (c : Cfg) : Option Nat → Bool
  | some d => c.esc d
  | none => false

def xact (c : Cfg) (o : Oper) (keep : Kp) (s : St) (K : St → Prop) : Prop :=
  match floaty c.T o.op with
  | true => fval c.T s o.op fun sv bs => K ⟨putF s.fr o.dst sv, s.L, s.m, bs ++ s.x⟩
  | false => nval c.P c.T s o.op (escOf c o.dst) keep fun sv L m x => K ⟨putF s.fr o.dst sv, L, m, x⟩

/-- the slot that decides whether an operation is wanted -/
def gslot (ops : List Oper) (j : Nat) : Option Nat :=
  match nth ops j with
  | some oj => oj.dst
  | none => none

def xop (c : Cfg) (ops : List Oper) (o : Oper) (keep : Kp) (s : St) (K : St → Prop) : Prop :=
  match o.guard with
  | none => xact c o keep s K
  | some (j, w) => match gslot ops j with
    | none => False
    | some d => match s.fr d with
      | .tt => bif w then xact c o keep s K else K ⟨putF s.fr o.dst .un, s.L, s.m, s.x⟩
      | .ff => bif w then K ⟨putF s.fr o.dst .un, s.L, s.m, s.x⟩ else xact c o keep s K
      | .un => K ⟨putF s.fr o.dst .un, s.L, s.m, s.x⟩
      | .c (.v (.bool b)) =>
        (b = true → bif w then xact c o keep ⟨putF s.fr (some d) .tt, s.L, s.m, s.x⟩ K else K ⟨putF (putF s.fr (some d) .tt) o.dst .un, s.L, s.m, s.x⟩) ∧
        (b = false → bif w then K ⟨putF (putF s.fr (some d) .ff) o.dst .un, s.L, s.m, s.x⟩ else xact c o keep ⟨putF s.fr (some d) .ff, s.L, s.m, s.x⟩ K)
      | _ => False

section
variable {c : Cfg} {nt : Nat} {D : List Deferred} {m0 : Mem} {W0 : World} {ρ : List Nat} {s : St} {a : Act} {W : World} {Q : Exit → Act → World → Prop}

/-- a slot that holds a bool holds the one that it is -/
theorem Rel.decide (hr : Rel nt D m0 W0 ρ s a W) {d : Nat} {b : Bool} (h : s.fr d = .c (.v (.bool b))) : Rel nt D m0 W0 ρ ⟨putF s.fr (some d) (if b then .tt else .ff), s.L, s.m, s.x⟩ a W := by
  refine ⟨hr.defers, hr.size, fun i => ?_, hr.len, hr.locs, hr.nodup, hr.after, hr.seen⟩
  show putF s.fr (some d) _ i = .any ∨ _
  simp only [putF_at, Option.some.injEq]
  by_cases e : d = i
  · subst e
    rcases hr.slots d with h1 | ⟨h1, h2, h3⟩
    · rw [h] at h1; simp at h1
    · refine .inr ?_
      rw [if_pos rfl, h1, h]
      cases b <;> exact ⟨rfl, trivial, trivial⟩
  · rw [if_neg e]; exact hr.slots i
theorem Rel.skip (hr : Rel nt D m0 W0 ρ s a W) {d : Option Nat} (hd : dstIn d nt) : Rel nt D m0 W0 ρ ⟨putF s.fr d .un, s.L, s.m, s.x⟩ (a.put d undef) W :=
  hr.put (y := .un) (by rw [hr.size]; exact hd) (.inr ⟨trivial, trivial⟩) _ (.inr rfl) _ hr.seen

theorem yielded_at {ops : Array Oper} {tmps : Array Value} {j d : Nat} (hg : gslot ops.toList j = some d) {v : Value} (hv : tmps[d]? = some v) : yielded ops tmps j = (match v with | .bool b => some b | _ => none) := by
  unfold gslot at hg
  rw [nth_eq] at hg
  unfold yielded
  cases ho : ops[j]? with
  | none => simp [ho] at hg
  | some oj =>
    simp only [Array.getElem?_toList, ho] at hg
    simp only [Option.bind_some, hg, hv]
    cases v <;> rfl

/-- what is to be shown behind an operation -/
def OPost (nt : Nat) (D : List Deferred) (m0 : Mem) (W0 : World) (ρ : List Nat) (s : St) (a : Act) (W : World) (d : Option Nat) (keep : Kp) (K : St → Prop) : Act → World → Prop := fun a' W' =>
  ∃ s' e, K s' ∧ Rel nt D m0 W0 (ρ ++ e) s' a' W' ∧ Pres ρ s.x W W' s'.x keep ∧ Outs s.m ρ W s'.m e W' ∧ (∃ v, a' = a.put d v) ∧ ∀ y, d ≠ some y → s'.fr y = s.fr y ∨ s.fr y ≠ .any

theorem putF_keep {fr : Nat → SV} {d : Option Nat} {z : SV} {y : Nat} (h : d ≠ some y) : putF fr d z y = fr y := by rw [putF_at, if_neg h]

theorem xact_spec (hT : TabOk c.P c.T) (hr : Rel nt D m0 W0 ρ s a W) {o : Oper} (hd : dstIn o.dst nt) {keep : Kp} {K : St → Prop} (h : xact c o keep s K) : o.wp c.P a W (OPost nt D m0 W0 ρ s a W o.dst keep K) Q := by
  unfold xact at h
  split at h
  · obtain ⟨sv, bs, v, B, h1, h2, h3, _, _, h5⟩ := fval_spec hT hr h
    unfold Oper.wp
    rw [h5 o rfl W (fun _ _ => rfl)]
    refine ⟨_, [], h1, ?_, Pres.same (fun _ => rfl) (fun b hb => List.mem_append_right _ hb) keep, fun b _ hb _ => ⟨rfl, hb, by simp⟩, ⟨v, rfl⟩, fun y hy => .inl (putF_keep hy)⟩
    rw [List.append_nil]
    refine hr.put (by rw [hr.size]; exact hd) ?_ v ?_ _ ?_
    · rcases h2 with h2 | h2
      · exact .inl h2
      · exact .inr ⟨h2.1, h2.2.1⟩
    · rcases h2 with h2 | h2
      · exact .inl h2
      · exact .inr h2.2.2
    · intro b hb
      rcases List.mem_append.1 hb with hb | hb
      · exact h3 b hb
      · exact hr.seen b hb
  · exact Oper.wp_mono (fun a' W' ⟨sv, L', m', x', e, h1, h2, h3, h4, h5⟩ => ⟨_, e, h1, h2, h3, h4, h5, fun y hy => .inl (putF_keep hy)⟩) (nval_spec hT hr (by rw [hr.size]; exact hd) h)

theorem xop_spec (hT : TabOk c.P c.T) (hr : Rel nt D m0 W0 ρ s a W) {ops : Array Oper} {i : Nat} {o : Oper} (ho : ops[i]? = some o) (hd : dstIn o.dst nt) {keep : Kp} {K : St → Prop} (h : xop c ops.toList o keep s K) :
    wpOp c.P ops Q i (OPost nt D m0 W0 ρ s a W o.dst keep K) a W := by
  unfold wpOp
  simp only [ho]
  have yes : ∀ s', Rel nt D m0 W0 ρ s' a W → s'.x = s.x → s'.m = s.m → (∀ y, s'.fr y = s.fr y ∨ s.fr y ≠ .any) → Region.wanted o (yielded ops a.tmps) = true → xact c o keep s' K → (if Region.wanted o (yielded ops a.tmps) = true then o.wp c.P a W (OPost nt D m0 W0 ρ s a W o.dst keep K) Q ∨ (o.asks c.P a W ∧ LetsOut Q) else OPost nt D m0 W0 ρ s a W o.dst keep K (a.put o.dst undef) W) := by
    intro s' hr' hx hmm hfr hw hh
    rw [if_pos hw]
    refine .inl ?_
    have := xact_spec (Q := Q) hT hr' hd hh
    refine Oper.wp_mono (fun a' W' hp => ?_) this
    obtain ⟨s2, e, g1, g2, g3, g4, g5, g6⟩ := hp
    rw [hx] at g3
    rw [hmm] at g4
    refine ⟨s2, e, g1, g2, g3, g4, g5, fun y hy => ?_⟩
    rcases hfr y with h' | h'
    · rcases g6 y hy with h'' | h''
      · exact .inl (h''.trans h')
      · exact .inr (by rw [← h']; exact h'')
    · exact .inr h'
  have no : ∀ s', Rel nt D m0 W0 ρ s' a W → s'.x = s.x → s'.m = s.m → (∀ y, s'.fr y = s.fr y ∨ s.fr y ≠ .any) → Region.wanted o (yielded ops a.tmps) = false → K ⟨putF s'.fr o.dst .un, s'.L, s'.m, s'.x⟩ → (if Region.wanted o (yielded ops a.tmps) = true then o.wp c.P a W (OPost nt D m0 W0 ρ s a W o.dst keep K) Q ∨ (o.asks c.P a W ∧ LetsOut Q) else OPost nt D m0 W0 ρ s a W o.dst keep K (a.put o.dst undef) W) := by
    intro s' hr' hx hmm hfr hw hh
    rw [if_neg (by rw [hw]; exact Bool.false_ne_true)]
    refine ⟨_, [], hh, ?_, Pres.same (fun _ => rfl) (fun b hb => by rw [← hx] at hb; exact hb) keep, fun b _ hb _ => ⟨rfl, by rw [hmm]; exact hb, by simp⟩, ⟨undef, rfl⟩, fun y hy => by show putF _ _ _ y = _ ∨ _; rw [putF_keep hy]; exact hfr y⟩
    rw [List.append_nil]
    exact hr'.skip hd
  have dec : ∀ (d : Nat) (b : Bool), s.fr d = .c (.v (.bool b)) → ∀ z : SV, (∀ y, putF s.fr (some d) z y = s.fr y ∨ s.fr y ≠ .any) := by
    intro d b e z y
    rw [putF_at]
    by_cases e' : some d = some y
    · simp only [Option.some.injEq] at e'; subst e'; exact .inr (by rw [e]; simp)
    · rw [if_neg e']; exact .inl rfl
  unfold xop at h
  split at h
  · rename_i hg
    exact yes s hr rfl rfl (fun _ => .inl rfl) (by simp [Region.wanted, hg]) h
  · rename_i j w hg
    split at h
    · exact h.elim
    rename_i d hgd
    have want : ∀ b, a.tmps[d]? = some (.bool b) → Region.wanted o (yielded ops a.tmps) = (b == w) := by
      intro b hb
      simp only [Region.wanted, hg, yielded_at hgd hb]
      cases b <;> cases w <;> rfl
    have hs := hr.slots d
    split at h
    · rename_i e
      rw [e] at hs
      rcases hs with hs | ⟨hs, _⟩
      · simp at hs
      have := want true hs
      cases w
      · exact no s hr rfl rfl (fun _ => .inl rfl) (by rw [this]; rfl) h
      · exact yes s hr rfl rfl (fun _ => .inl rfl) (by rw [this]; rfl) h
    · rename_i e
      rw [e] at hs
      rcases hs with hs | ⟨hs, _⟩
      · simp at hs
      have := want false hs
      cases w
      · exact yes s hr rfl rfl (fun _ => .inl rfl) (by rw [this]; rfl) h
      · exact no s hr rfl rfl (fun _ => .inl rfl) (by rw [this]; rfl) h
    · rename_i e
      rw [e] at hs
      rcases hs with hs | ⟨hs, _⟩
      · simp at hs
      refine no s hr rfl rfl (fun _ => .inl rfl) ?_ h
      simp only [Region.wanted, hg, yielded_at hgd hs]
      rfl
    · rename_i b e
      rw [e] at hs
      rcases hs with hs | ⟨hs, _⟩
      · simp at hs
      have hw := want b hs
      have hdec := hr.decide e
      cases b
      · have h' := h.2 rfl
        cases w
        · exact yes _ hdec rfl rfl (dec d _ e _) (by rw [hw]; rfl) h'
        · exact no _ hdec rfl rfl (dec d _ e _) (by rw [hw]; rfl) h'
      · have h' := h.1 rfl
        cases w
        · exact no _ hdec rfl rfl (dec d _ e _) (by rw [hw]; rfl) h'
        · exact yes _ hdec rfl rfl (dec d _ e _) (by rw [hw]; rfl) h'
    · exact h.elim

/-! ### within a fence of everything, or in a round of a loop over a function -/
def FOk (F : Fence) : Prop := F = Fence.wide ∨ ∃ l, F = Fence.wide.inRound l
theorem FOk.fn {F : Fence} (h : FOk F) (f : FuncId) : F.fn f := by
  rcases h with rfl | ⟨l, rfl⟩ <;> trivial
theorem FOk.depth {F : Fence} (h : FOk F) : F.depth = none := by
  rcases h with rfl | ⟨l, rfl⟩ <;> rfl
theorem FOk.calls {F : Fence} (h : FOk F) {n : Nat} {P : Program} {f : FuncId} {args : Array Value} {w : World} {R : Ending → World → Prop} (k : Calls P f args w R) : CallsIn F n P f args w R := by
  rcases h with rfl | ⟨l, rfl⟩
  · exact callsIn_wide.2 k
  · exact (callsIn_wide (n := n)).2 k
theorem FOk.rows {F : Fence} (h : FOk F) {n : Nat} {P : Program} {row : String} {args : Array Value} {w : World} {R : Value → World → Prop} (k : Rows P row args w R) : RowsIn F n P row args w R := by
  have key : RowsIn Fence.wide n P row args w R := fun c cs _ => let ⟨v, w', r, s⟩ := k c cs; ⟨v, w', r, stepsIn_wide.2 s⟩
  rcases h with rfl | ⟨l, rfl⟩
  · exact key
  · exact key
theorem FOk.round {F : Fence} (h : FOk F) {n l : Nat} {P : Program} {f : FuncId} {tmps : Array Value} {asg body : Code} {w : World} {R : Ending → World → Prop} (k : RoundIn Fence.wide n P l f tmps asg body w R) : RoundIn F n P l f tmps asg body w R := by
  rcases h with rfl | ⟨l, rfl⟩
  · exact k
  · exact k
def notDefer : Op → Bool
  | .defer _ => false
  | _ => true
theorem semAt_eq {F : Fence} {o : Oper} (hd : notDefer o.op = true) (ρ : Operand → Value) : o.semAt F.round ρ = execOp ρ o := by
  cases hr : F.round with
  | none => rfl
  | some l =>
    refine Oper.semAt_some l ρ o fun c e => ?_
    rw [e] at hd; cases hd
theorem wp_in {F : Fence} (hF : FOk F) {P : Program} {o : Oper} {a : Act} {w : World} {K : Act → World → Prop} {Q : Exit → Act → World → Prop} (hd : notDefer o.op = true) (h : o.wp P a w K Q) : o.wpIn F 0 P a w K Q := by
  refine ⟨fun _ _ => hF.fn _, ?_⟩
  rw [semAt_eq hd]
  unfold Oper.wp at h
  have hdep : ∀ {p : Prop}, p → (F.depth.isSome = true → 1 ≤ 0) ∧ p := fun k => ⟨fun e => (by rw [hF.depth] at e; cases e), k⟩
  generalize (execOp a.eval o).run P w = r at *
  cases r with
  | ok x w' => cases x <;> simp only [Oper.upon, Oper.uponIn] at h ⊢ <;> first | exact h | exact hdep (hF.calls h) | exact hdep (hF.rows h) | exact h.elim
  | halt x w' => cases x <;> simp only [Oper.upon, Oper.uponIn] at h ⊢ <;> exact h
theorem wpOp_in {F : Fence} (hF : FOk F) {P : Program} {ops : Array Oper} {i : Nat} {a : Act} {w : World} {K : Act → World → Prop} {Q : Exit → Act → World → Prop} (hd : ∀ o, ops[i]? = some o → notDefer o.op = true) (hQ : ¬ LetsOut Q) (h : wpOp P ops Q i K a w) : wpOpIn F 0 P ops Q i K a w := by
  unfold wpOp at h
  unfold wpOpIn
  cases ho : ops[i]? with
  | none => simp only [ho] at h ⊢; exact h
  | some o =>
    simp only [ho] at h ⊢
    split
    · rename_i hw
      rw [if_pos hw] at h
      rcases h with h | h
      · exact wp_in hF (hd o ho) h
      · exact absurd h.2 hQ
    · rename_i hw
      rw [if_neg hw] at h
      exact ⟨fun _ _ => hF.fn _, h⟩
/-- what is known behind something that keeps to what it knows -/
theorem Rel.passed {nt : Nat} {D : List Deferred} {m0 : Mem} {W0 : World} {ρ : List Nat} {s : St} {a : Act} {W : World} (hr : Rel nt D m0 W0 ρ s a W) {d : Option Nat} (hd : dstIn d a.tmps.size) {m' : Mem} {W' : World} (haft : After s.m W m' W') {sv : SV} (hok : sv.ok) (hu : sv.under ρ.length) :
    Rel nt D m0 W0 ρ ⟨putF s.fr d sv, s.L, m', []⟩ (a.put d (conc ρ sv)) W' := by
  have hlocs : ∀ b, b ∈ ρ → m' b = none ∧ W'.heap[b]? = W.heap[b]? := by
    intro b hb
    obtain ⟨i, hi, rfl⟩ := mem_getD hb
    obtain ⟨g1, g2, g3⟩ := hr.out hi
    exact haft.frame _ g3 g1
  refine ⟨?_, ?_, ?_, ?_, ?_, ?_, ?_, ?_⟩
  · rw [Act.put_defers_eq]; exact hr.defers
  · rw [Act.put_size]; exact hr.size
  · have := hr.putSlots hd (e := []) (.inr ⟨hok, by simpa using hu⟩) _ (.inr (by rw [List.append_nil]))
    simpa using this
  · exact hr.len
  · intro h' t c hh
    have hlt : h' < ρ.length := by rw [hr.len]; exact (List.getElem?_eq_some_iff.1 hh).1
    obtain ⟨k1, k2, k3, k4⟩ := hr.locs h' t c hh
    obtain ⟨g1, g2⟩ := hlocs _ (getD_mem hlt)
    exact ⟨g2.trans k1, k2, g1, k4⟩
  · exact hr.nodup
  · exact hr.after.trans haft
  · intro b hb; cases hb
theorem conc_resSV' (r : List CV) (ρ : List Nat) : resVal r = conc ρ (resSV r) := (conc_resSV ρ r).symm
/-- where code ends normally, and in no other way -/
def QN (nt : Nat) (D : List Deferred) (m0 : Mem) (W0 : World) (K : St → Prop) : Exit → Act → World → Prop
  | .normal, a, W => ∃ s ρ, K s ∧ Rel nt D m0 W0 ρ s a W
  | _, _, _ => False
theorem QN.out {nt : Nat} {D : List Deferred} {m0 : Mem} {W0 : World} {K : St → Prop} : ¬ LetsOut (QN nt D m0 W0 K) := fun ⟨_, _, h⟩ => h

/-! ### a call of a round -/
def YSpec (P : Program) (l : Nat) (args : List CV) (m : Mem) (R : List CV → Mem → Prop) : Prop :=
  (∀ x ∈ args, x.ok) → ∀ W, Over m W → ∃ fn tmps asg body, (Instr.yield l (args.map CV.val).toArray).run P W = .ok (.round l fn tmps asg body) W ∧
    RoundIn Fence.wide 0 P l fn tmps asg body W fun e W' => ∃ r m', e = .returned (resVal r) ∧ (∀ x ∈ r, x.ok) ∧ R r m' ∧ After m W m' W'
inductive XYield (P : Program) (l : Nat) (args : List CV) (m : Mem) (K : List CV → Mem → Prop) : Prop
  | mk (R : List CV → Mem → Prop) (h : YSpec P l args m R) (k : ∀ r m', R r m' → K r m')
def yieldOf (fr : Nat → SV) (o : Oper) : Option (Nat × List Operand) :=
  match o.op with
  | .call ⟨.value (.tmp t), args, _⟩ => match o.guard with
    | none => match fr t with
      | .c (.v (.func (.yield l) ⟨[]⟩ ⟨[]⟩)) => some (l, args.toList)
      | _ => none
    | some _ => none
  | _ => none
theorem yieldOf_spec {fr : Nat → SV} {o : Oper} {l : Nat} {args : List Operand} (h : yieldOf fr o = some (l, args)) : ∃ t ar ats, o.op = .call ⟨.value (.tmp t), ar, ats⟩ ∧ ar.toList = args ∧ o.guard = none ∧ fr t = .c (.v (.func (.yield l) #[] #[])) := by
  unfold yieldOf at h
  (repeat' split at h) <;> first | (cases h; done) | skip
  rename_i t ar ats hop _ hg _ l' hfr
  simp only [Option.some.injEq, Prod.mk.injEq] at h
  obtain ⟨rfl, rfl⟩ := h
  exact ⟨t, ar, ats, hop, rfl, hg, hfr⟩

def xops (c : Cfg) (ops : List Oper) : List Oper → (St → Prop) → St → Prop
  | [], K, s => K s
  | o :: r, K, s => match yieldOf s.fr o with
    | some (l, args) => match closed (args.map (ev s)) with
      | none => False
      | some cs => XYield c.P l cs s.m fun r' m' => xops c ops r K ⟨putF s.fr o.dst (resSV r'), s.L, m', []⟩
    | none => xop c ops o .none s (xops c ops r K)

theorem xops_spec (hT : TabOk c.P c.T) {F : Fence} (hF : FOk F) {ops : Array Oper} (hd : ∀ o ∈ ops.toList, dstIn o.dst nt) (hnd : ∀ o ∈ ops.toList, notDefer o.op = true) {K : St → Prop} :
    ∀ (r : List Oper) (k : Nat) (s : St) (ρ : List Nat) (a : Act) (W : World), (∀ j, r[j]? = ops[k + j]?) → xops c ops.toList r K s → Rel nt D m0 W0 ρ s a W → wpOpsIn F 0 c.P ops (QN nt D m0 W0 K) (List.range' k r.length) a W
  | [], k, s, ρ, a, W, _, h, hr => ⟨s, ρ, h, hr⟩
  | o :: r, k, s, ρ, a, W, hl, h, hr => by
    have h0 : ops[k]? = some o := by simpa using (hl 0).symm
    simp only [List.length_cons, List.range'_succ]
    rw [wpOpsIn_cons]
    have hm : o ∈ ops.toList := by
      rw [← Array.getElem?_toList] at h0; exact List.mem_of_getElem? h0
    have hl' : ∀ j, r[j]? = ops[k + 1 + j]? := fun j => by have := hl (j + 1); simpa [Nat.add_assoc, Nat.add_comm 1 j] using this
    simp only [xops] at h
    cases hy : yieldOf s.fr o with
    | none =>
      simp only [hy] at h
      refine wpOp_in hF (fun o' ho' => by rw [h0] at ho'; cases ho'; exact hnd o hm) QN.out ?_
      refine wpOp_mono (fun a' W' ⟨s', e, h1, h2, _, _⟩ => ?_) (xop_spec hT hr h0 (hd o hm) h)
      exact xops_spec hT hF hd hnd r (k + 1) s' _ a' W' hl' h1 h2
    | some q =>
      obtain ⟨l, args⟩ := q
      simp only [hy] at h
      obtain ⟨t, ar, ats, hop, rfl, hg, hfr⟩ := yieldOf_spec hy
      cases hcs : closed (ar.toList.map (ev s)) with
      | none => simp [hcs] at h
      | some cs =>
        simp only [hcs] at h
        obtain ⟨R, hspec, hk⟩ := h
        obtain ⟨c1, c2⟩ := closed_spec hr hcs
        obtain ⟨fn, tmps, asg, body, hyl, hround⟩ := hspec c2 W hr.after.over
        have hargs : ar.map a.eval = (cs.map CV.val).toArray := by
          apply Array.ext'; simp [c1]
        have hf := hr.fits (.tmp t)
        simp only [ev, hfr] at hf
        have hfv := hf.eq (by simp)
        simp only [conc, CV.val] at hfv
        have hrun : (execOp a.eval o).run c.P W = .ok (.round l fn tmps asg body) W := by
          simp only [execOp, hop, resolve, hfv, Deferred.ofValue, invoke, Sem.run_bind, Sem.run_pure, Result.andThen_ok]
          simp [hargs, hyl]
        unfold wpOpIn
        simp only [h0]
        rw [if_pos (by simp [Region.wanted, hg])]
        refine ⟨fun _ _ => hF.fn _, ?_⟩
        rw [semAt_eq (hnd o hm), hrun]
        refine ⟨fun e => (by rw [hF.depth] at e; cases e), hF.round (hround.mono ?_)⟩
        rintro e W' ⟨r', m', rfl, hrok, hR, haft⟩
        rw [conc_resSV' r' ρ]
        exact xops_spec hT hF hd hnd r (k + 1) _ ρ _ W' hl' (hk r' m' hR) (hr.passed (by rw [hr.size]; exact hd o hm) haft (resSV_ok hrok) (resSV_under _ _))

theorem region_plain (hT : TabOk c.P c.T) {F : Fence} (hF : FOk F) {id : Nat} {ops : Array Oper} (hd : ∀ o ∈ ops.toList, dstIn o.dst nt) (hnd : ∀ o ∈ ops.toList, notDefer o.op = true) {K : St → Prop}
    (hr : Rel nt D m0 W0 ρ s a W) (h : xops c ops.toList ops.toList K s) : (Code.region id ops false).wpIn F 0 c.P (QN nt D m0 W0 K) a W := by
  refine wpIn_region ?_
  have := xops_spec hT hF hd hnd ops.toList 0 s ρ a W (by simp) h hr
  rwa [Array.length_toList, ← List.range_eq_range'] at this
#print axioms region_plain
end
end Go.E
