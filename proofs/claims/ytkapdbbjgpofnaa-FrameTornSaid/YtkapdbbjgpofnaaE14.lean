/-
  For whoever proves: loops by what they carry, calls, numbers that fit, and the way from a contract to a law's row.
-/
import Derived.Test.YtkapdbbjgpofnaaE13
namespace Go.E

/-! ### the table of types, as a tree -/
inductive TTree where
  | leaf (t : TypeId) (i : TI)
  | node (k : Nat) (l r : TTree)
def TTree.get : TTree → TypeId → Option TI
  | .leaf t i, q => bif Nat.beq q t then some i else none
  | .node k l r, q => bif Nat.blt q k then l.get q else r.get q
def TTree.leaves : TTree → List (TypeId × TI)
  | .leaf t i => [(t, i)]
  | .node _ l r => l.leaves ++ r.leaves
def Seg.okB : Seg → Bool
  | .one x => x.oneCell'
  | .ints _ n l => l.length == n
  | .vals n l => l.length == n && l.all (·.oneCell')
def LB.okB : LB → Bool
  | [] => true
  | s :: r => s.okB && LB.okB r
theorem LB.okB_spec : ∀ {c : LB}, LB.okB c = true → LB.ok c
  | [], _ => trivial
  | s :: r, h => by
    simp only [LB.okB, Bool.and_eq_true] at h
    refine ⟨?_, LB.okB_spec h.2⟩
    cases s with
    | one x => exact h.1
    | ints k n l => simpa [Seg.okB, Seg.ok] using h.1
    | vals n l =>
      have := h.1
      simp only [Seg.okB, Bool.and_eq_true, beq_iff_eq, List.all_eq_true] at this
      exact this
def infoOf (P : Program) (t : TypeId) : Option TK × Option (Nat × Nat × Option (Array Value)) :=
  ((P.underlying t).map TK.of, (P.info? t).map fun j => (j.size, j.bytes, j.zero.map Value.cells))
def infoSaid (i : TI) : Option TK × Option (Nat × Nat × Option (Array Value)) := (some i.k, some (i.size, i.bytes, some (LB.cells i.zero).toArray))
theorem get_mem : ∀ {T : TTree} {t : TypeId} {i : TI}, T.get t = some i → (t, i) ∈ T.leaves
  | .leaf t' i', t, i, h => by
    simp only [TTree.get] at h
    cases hb : Nat.beq t t' with
    | true =>
      have := Nat.eq_of_beq_eq_true hb; subst this
      simp only [hb, cond_true, Option.some.injEq] at h; subst h
      simp [TTree.leaves]
    | false => simp [hb] at h
  | .node k l r, t, i, h => by
    simp only [TTree.get] at h
    simp only [TTree.leaves, List.mem_append]
    cases hb : Nat.blt t k with
    | true => simp only [hb, cond_true] at h; exact .inl (get_mem h)
    | false => simp only [hb, cond_false] at h; exact .inr (get_mem h)
theorem map_eq_at {α β : Type} {f g : α → β} : ∀ {l : List α}, l.map f = l.map g → ∀ x ∈ l, f x = g x
  | [], _, x, hx => by cases hx
  | y :: l, h, x, hx => by
    simp only [List.map_cons, List.cons.injEq] at h
    rcases List.mem_cons.1 hx with rfl | hx
    · exact h.1
    · exact map_eq_at h.2 x hx
theorem tabOk {P : Program} {T : TTree} (h1 : T.leaves.map (fun x => infoOf P x.1) = T.leaves.map (fun x => infoSaid x.2)) (h2 : T.leaves.all (fun x => LB.okB x.2.zero) = true)
    (h3 : T.leaves.all (fun x => !x.2.eq || (x.2.k.agg && goodB P 50 x.1 (LB.cells x.2.zero) && !P.eqGuardType P.depth x.1 && (LB.cells x.2.zero).length == x.2.size)) = true) : TabOk P T.get := by
  intro t i h
  have hm := get_mem h
  have e := map_eq_at h1 _ hm
  simp only [infoOf, infoSaid, Prod.mk.injEq] at e
  refine ⟨e.1, e.2, LB.okB_spec (List.all_eq_true.1 h2 _ hm), fun he => ?_⟩
  have := List.all_eq_true.1 h3 _ hm
  simp only [he, Bool.not_true, Bool.false_or, Bool.and_eq_true, Bool.not_eq_true', beq_iff_eq] at this
  exact ⟨this.1.1.1, this.1.1.2, this.1.2, this.2⟩

/-- the slots of a list -/
def inL : List Nat → Nat → Bool
  | [], _ => false
  | x :: r, d => bif Nat.beq d x then true else inL r d
/-- the orders of the regions that draw, by their numbers -/
def atL : List (Nat × Ord) → Nat → Ord
  | [], _ => ⟨.nil, []⟩
  | (j, x) :: r, i => bif Nat.beq i j then x else atL r i
def bodyOf (fn : Func) : Code := fn.body.getD .skip

/-! ### a law -/
theorem Spec.law {P : Program} {f : FuncId} {args : List CV} (W : World) (hok : ∀ x ∈ args, x.ok) (h : Spec P f args (fun b => W.heap[b]?) fun r m' => r = [.v (.bool true)] ∧ Sub (fun b => W.heap[b]?) m') :
    Calls P f (args.map CV.val).toArray W fun e W' => e = .returned (.bool true) ∧ RowKit.Below W.heap.size W W' := by
  refine (h.2 hok W (fun b o hb => hb)).mono fun e W' he => ?_
  obtain ⟨r, m', rfl, _, ⟨rfl, hs⟩, ha⟩ := he
  refine ⟨rfl, ha.os, ha.tape, ha.output, ha.size, fun k hk => ?_⟩
  have : W.heap[k]? = some W.heap[k] := by simp [hk]
  rw [this]
  exact ha.over k _ (hs k _ this)
end Go.E
