/-
  The table of types, and the model's loads and stores over blocks that are known.
-/
import Derived.Test.YtkapdbbjgpofnaaE3b
namespace Go.E

inductive TK where
  | int (k : IntKind)
  | bool
  | str
  | ptr (e : TypeId)
  | slice (e : TypeId)
  | map (k e : TypeId)
  | struct (fs : List (Nat × TypeId))
  | array (n : Nat) (e : TypeId)
  | func
  | iface
  | other
def TK.of : TypeDesc → TK
  | .int k => .int k
  | .bool => .bool
  | .string => .str
  | .pointer e => .ptr e
  | .slice e => .slice e
  | .map k e => .map k e
  | .struct fs => .struct (fs.toList.map fun f => (f.offset, f.type))
  | .array n e => .array n e
  | .func _ _ _ => .func
  | .interface _ => .iface
  | _ => .other
def TK.agg : TK → Bool
  | .struct _ => true
  | .array _ _ => true
  | _ => false
structure TI where
  k : TK
  size : Nat
  bytes : Nat
  zero : LB
  eq : Bool
structure TOk (P : Program) (t : TypeId) (i : TI) : Prop where
  und : (P.underlying t).map TK.of = some i.k
  info : (P.info? t).map (fun j => (j.size, j.bytes, j.zero.map Value.cells)) = some (i.size, i.bytes, some (LB.cells i.zero).toArray)
  zok : LB.ok i.zero
  eqOk : i.eq = true → i.k.agg = true ∧ goodB P 50 t (LB.cells i.zero) = true ∧ P.eqGuardType P.depth t = false ∧ (LB.cells i.zero).length = i.size
abbrev Tab := TypeId → Option TI
def TabOk (P : Program) (T : Tab) : Prop := ∀ t i, T t = some i → TOk P t i

section
variable {P : Program} {t : TypeId} {i : TI}

theorem TOk.desc (h : TOk P t i) : ∃ d, P.underlying t = some d ∧ TK.of d = i.k := by
  have := h.und
  cases hd : P.underlying t with
  | none => simp [hd] at this
  | some d => exact ⟨d, rfl, by simpa [hd] using this⟩
theorem TOk.run_und (h : TOk P t i) : ∃ d, TK.of d = i.k ∧ ∀ w, (underlying t).run P w = .ok d w := by
  obtain ⟨d, h1, h2⟩ := h.desc
  exact ⟨d, h2, fun w => run_underlying h1 w⟩
theorem TOk.inf (h : TOk P t i) : ∃ j, P.info? t = some j ∧ j.size = i.size ∧ j.bytes = i.bytes ∧ ∃ z, j.zero = some z ∧ z.cells = (LB.cells i.zero).toArray := by
  have := h.info
  cases hd : P.info? t with
  | none => simp [hd] at this
  | some j =>
    simp only [hd, Option.map_some, Option.some.injEq, Prod.mk.injEq] at this
    obtain ⟨h1, h2, h3⟩ := this
    cases hz : j.zero with
    | none => simp [hz] at h3
    | some z => exact ⟨j, rfl, h1, h2, z, hz, by simpa [hz] using h3⟩
theorem TOk.run_sizeOf (h : TOk P t i) (w : World) : (sizeOf t).run P w = .ok i.size w := by
  obtain ⟨j, h1, h2, _⟩ := h.inf
  simp [sizeOf, typeInfo, h1, h2]
theorem TOk.run_zero (h : TOk P t i) : ∃ z, z.cells = (LB.cells i.zero).toArray ∧ ∀ w, (zeroValue t).run P w = .ok z w := by
  obtain ⟨j, h1, h2, h2', z, h3, h4⟩ := h.inf
  exact ⟨z, h4, fun w => by simp [zeroValue, typeInfo, h1, h3]⟩
theorem TOk.run_isAgg (h : TOk P t i) (w : World) : (isAgg t).run P w = .ok i.k.agg w := by
  obtain ⟨d, h1, h2⟩ := h.run_und
  unfold isAgg
  rw [Sem.run_bind, h2 w, ← h1]
  cases d <;> simp [TK.of, TK.agg]

theorem cell_at {W : World} {b : Nat} {arr : Array Value} {t' : TypeId} {fr : Nat × Nat} (hb : W.heap[b]? = some (.cells arr t' fr)) (off : Nat) : W.cell? ⟨b, off, none⟩ = arr[off]? := by
  simp [World.cell?, hb]
theorem add_none (b off j : Nat) : (⟨b, off, none⟩ : Addr).add j = ⟨b, off + j, none⟩ := by
  unfold Addr.add; split <;> simp_all

theorem run_load_one (h : TOk P t i) (ha : i.k.agg = false) {W : World} {b : Nat} {arr : Array Value} {t' : TypeId} {fr : Nat × Nat} (hb : W.heap[b]? = some (.cells arr t' fr)) {off : Nat} {x : Value} (hx : arr[off]? = some x) :
    (loadVar t ⟨b, off, none⟩).run P W = .ok x W := by
  unfold loadVar
  rw [Sem.run_bind, h.run_isAgg, ha]
  simp [load, Sem.run, cell_at hb, hx]
theorem run_load_many (h : TOk P t i) (ha : i.k.agg = true) {W : World} {b : Nat} {arr : Array Value} {t' : TypeId} {fr : Nat × Nat} (hb : W.heap[b]? = some (.cells arr t' fr)) {off : Nat} {l : List Value} (hl : l.length = i.size)
    (hx : ∀ j v, l[j]? = some v → arr[off + j]? = some v) : (loadVar t ⟨b, off, none⟩).run P W = .ok (.agg l.toArray) W := by
  have h1 := run_loadCells_list (P := P) W ⟨b, off, none⟩ l (fun j v hv => by rw [add_none, cell_at hb]; exact hx j v hv)
  unfold loadVar
  rw [Sem.run_bind, h.run_isAgg, ha]
  rw [hl] at h1
  simp [Sem.run_bind, h.run_sizeOf, h1]

theorem run_storeCells_gen (b o : Nat) (t' : TypeId) (fr : Nat × Nat) : ∀ (vs : List Value) (i : Nat) (cur : Array Value) (W : World), W.heap[b]? = some (.cells cur t' fr) → o + i + vs.length ≤ cur.size → (∀ v ∈ vs, v.oneCell' = true) →
    (∀ j, j < vs.length → ¬ (fr.1 ≤ o + i + j ∧ o + i + j < fr.2)) →
    (storeCells ⟨b, o, none⟩ vs i).run P W = .ok () (W.setRow b (cur.toList.take (o + i) ++ (vs ++ cur.toList.drop (o + i + vs.length))).toArray)
  | [], i, cur, W, hg, _, _, _ => by
    simp only [storeCells, List.nil_append, List.length_nil, Nat.add_zero, List.take_append_drop, Array.toArray_toList]
    rw [setRow_self W b cur t' fr hg]
    rfl
  | v :: r, i, cur, W, hg, hlen, h1, hf => by
    have hv := h1 v (List.mem_cons_self ..)
    have hlt : o + i < cur.size := by simp at hlen; omega
    have hfz : W.frozen? ⟨b, o + i, none⟩ = false := by
      have := hf 0 (by simp)
      simp only [World.frozen?, hg, Nat.add_zero] at this ⊢
      cases hd : (decide (fr.1 ≤ o + i) && decide (o + i < fr.2)) with
      | false => rfl
      | true => simp at hd; exact absurd hd this
    have hset : W.setCell ⟨b, o + i, none⟩ v = W.setRow b (cur.setIfInBounds (o + i) v) := setCell_eq_setRow W b (o + i) cur t' fr v hg
    have hstep : (store (⟨b, o + i, none⟩ : Addr) v).run P W = .ok () (W.setRow b (cur.setIfInBounds (o + i) v)) := by
      have hc : W.cell? ⟨b, o + i, none⟩ = some cur[o + i] := by rw [cell_at hg]; simp [hlt]
      cases v <;> first | (simp [Value.oneCell'] at hv; done) | (simp [store, Sem.run, hc, hfz, hset])
    have hg' : (W.setRow b (cur.setIfInBounds (o + i) v)).heap[b]? = some (.cells (cur.setIfInBounds (o + i) v) t' fr) := setRow_at W b _ cur t' fr hg
    have ih := run_storeCells_gen b o t' fr r (i + 1) _ _ hg' (by simp at hlen ⊢; omega) (fun x hx => h1 x (List.mem_cons_of_mem _ hx))
      (fun j hj => by have := hf (j + 1) (by simp; omega); simpa [Nat.add_assoc, Nat.add_comm 1 j] using this)
    unfold storeCells
    rw [Sem.run_bind, add_none, hstep]
    simp only [Result.andThen_ok]
    rw [ih, setRow_setRow]
    congr 2
    apply congrArg
    have hlt' : o + i < cur.toList.length := by simpa using hlt
    have e1 : (cur.setIfInBounds (o + i) v).toList = cur.toList.set (o + i) v := by simp
    rw [e1, List.take_set, List.drop_set_of_lt (by omega)]
    have e2 : o + (i + 1) = o + i + 1 := by omega
    have e3 : o + (i + 1) + r.length = o + i + (v :: r).length := by simp; omega
    rw [e3, e2, List.take_succ_eq_append_getElem hlt', List.set_append_right _ _ (by simp; omega)]
    simp only [List.length_take, Nat.min_eq_left (Nat.le_of_lt hlt'), Nat.sub_self, List.set_cons_zero, List.append_assoc, List.singleton_append, List.cons_append, List.nil_append]

theorem run_store_many (h : TOk P t i) {W : World} {b : Nat} {arr : Array Value} {t' : TypeId} {fr : Nat × Nat} (hb : W.heap[b]? = some (.cells arr t' fr)) {off : Nat} {v : Value} {l : List Value} (hv : v.cells = l.toArray) (hl : l.length = i.size)
    (h1 : ∀ x ∈ l, x.oneCell' = true) (hle : off + l.length ≤ arr.size) (hf : ∀ j, j < l.length → ¬ (fr.1 ≤ off + j ∧ off + j < fr.2)) :
    (storeVar t ⟨b, off, none⟩ v).run P W = .ok () (W.setRow b (arr.toList.take off ++ (l ++ arr.toList.drop (off + l.length))).toArray) := by
  have hs := run_storeCells_gen (P := P) b off t' fr l 0 arr W hb (by simpa using hle) h1 (by simpa using hf)
  unfold storeVar
  rw [Sem.run_bind, h.run_sizeOf]
  simp only [Result.andThen_ok, hv, List.size_toArray, hl, ne_eq, not_true_eq_false, if_false]
  simpa [hl] using hs
end
#print axioms run_store_many
end Go.E
