/-
  E30, MapS, Shelf, Tab, Cfg, H, Nc, SnL, ByB, Cat, E31, Fi1, Fi2, SortLay, SortS, Fi3, Spl
-/
import Derived.Test.YtconjimbfhpfgaaDoorAuditCutsZ5
import Derived.MapKept
import Derived.Laws.StructEq
import Derived.Shelf.Utf8.RuneCount
import Derived.Shelf.Strconv.Atoi
import Derived.Shelf.Strconv.Itoa0
import Derived.Shelf.Strconv.Itoa1
import Derived.Shelf.LaysM
import Derived.Shelf.Strconv.Itoa2
import Derived.Shelf.Strconv.Itoa3
import Derived.Shelf.Strconv.AtoiErrFast
import Derived.Shelf.Strconv.ParseIntEmpty
import Derived.Shelf.Strconv.AtoiFail
import Derived.Shelf.Strconv.Clone
import Derived.Shelf.Strconv.SyntaxError
import Derived.Shelf.LaysC
import Derived.Shelf.Strconv.ToError
import Derived.Shelf.Strconv.Lower
import Derived.Shelf.Strconv.ParseUint10
import Derived.Shelf.Strconv.ParseUint10Empty
import Derived.Shelf.Strconv.ParseUint10Any
import Derived.Shelf.Strconv.ParseInt10
import Derived.Shelf.Strconv.AtoiLong
import Derived.Shelf.Strconv.AtoiInnerAll
import Derived.Shelf.Strconv.RangeError
import Derived.Shelf.Strconv.ToErrorRange
import Derived.Shelf.Strconv.AtoiAll
import Derived.Shelf.Strconv.ErrVarAll
import Derived.Shelf.Strings.Search1
import Derived.Shelf.Strings.Search2
import Derived.Shelf.Strings.Search3
import Derived.Shelf.Strings.Count
import Derived.Shelf.Strings.Shaped
import Derived.Shelf.Strings.Split
import Derived.Shelf.Unicode.DecodeSlow
import Derived.Shelf.Unicode.DecodeAny
import Derived.Test.YtconjimbfhpfgaaDoorProg
import Derived.Laws.NewFold
import Derived.Shelf.Slices.In.SortAlone
import Derived.Shelf.Slices.In.SortNone
import Derived.Lib.SplitLaws
/-
  Maps: made, looked up, set, deleted from, ranged over.
-/
namespace Go.E
/-- an entry of a map: a key, what it leads to, when it was born -/
structure Men (α : Type) where
  k : α
  v : CV
  b : Nat
def Men.entry {α : Type} (enc : α → Value) (e : Men α) : MapEntry := ⟨enc e.k, e.v.val, e.b⟩
def mapO {α : Type} (enc : α → Value) (es : List (Men α)) (clock : Nat) : Obj := .map (es.map (Men.entry enc)).toArray clock
/-- keys that are compared at once -/
structure KeyOk {α : Type} [DecidableEq α] (enc : α → Value) (d : TypeDesc) : Prop where
  same : ∀ a b, Instr.sameNow d (enc a) (enc b) = some (decide (a = b))
  isK : ∀ a, MapKept.IsKey d (enc a)
  bits : ∀ a, Instr.sameBits 10000 (enc a) (enc a) = true
  one : ∀ a, (enc a).oneCell' = true
theorem bytesBeq (a b : ByteArray) : (a == b) = decide (a = b) := by
  rcases a with ⟨a⟩; rcases b with ⟨b⟩
  have h : ((⟨a⟩ : ByteArray) == ⟨b⟩) = (a == b) := rfl
  rw [h]
  by_cases e : a = b
  · subst e; simp
  · have : ¬ (⟨a⟩ : ByteArray) = ⟨b⟩ := fun h => e (by injection h)
    rw [decide_eq_false this]; exact beq_false_of_ne e
theorem strKey : KeyOk Value.string .string :=
  ⟨fun a b => by simp [Instr.sameNow, bytesBeq], fun _ => trivial, fun a => by simp [Instr.sameBits, bytesBeq], fun _ => rfl⟩
theorem intKey (k : IntKind) : KeyOk (Value.int k) (.int k) :=
  ⟨fun a b => by by_cases h : a = b <;> simp [Instr.sameNow, h], fun _ => rfl, fun a => by simp [Instr.sameBits], fun _ => rfl⟩
section
variable {α : Type} [DecidableEq α]
def findM (k : α) (es : List (Men α)) : Option CV := (es.find? fun e => decide (k = e.k)).map (·.v)
def setM (k : α) (v : CV) (clock : Nat) : List (Men α) → List (Men α)
  | [] => [⟨k, v, clock⟩]
  | e :: es => if k = e.k then ⟨k, v, e.b⟩ :: es else e :: setM k v clock es
def clockM (k : α) (clock : Nat) (es : List (Men α)) : Nat := if (findM k es).isSome then clock else clock + 1
def delM (k : α) : List (Men α) → List (Men α)
  | [] => []
  | e :: es => if k = e.k then es else e :: delM k es
theorem findNow_eq {enc : α → Value} {d : TypeDesc} (hk : KeyOk enc d) (k : α) : ∀ (es : List (Men α)) (i : Nat),
    Instr.findNow d (enc k) (es.map (Men.entry enc)) i = some (match es.findIdx? fun e => decide (k = e.k) with
      | some j => some (i + j, ((es[j]?).map fun e => e.v.val).getD undef)
      | none => none)
  | [], i => rfl
  | e :: es, i => by
    simp only [List.map_cons, Instr.findNow, Men.entry, hk.same, List.findIdx?_cons]
    by_cases h : k = e.k
    · simp [h]
    · have ih := findNow_eq hk k es (i + 1)
      simp only [h, decide_false, if_false, Bool.false_eq_true]
      rw [ih]
      cases es.findIdx? fun e => decide (k = e.k) with
      | none => rfl
      | some j => simp only [List.getElem?_cons_succ]; congr 2; rw [Prod.mk.injEq]; exact ⟨by simp only; omega, rfl⟩
theorem find_idx (k : α) : ∀ (es : List (Men α)), (match es.findIdx? fun e => decide (k = e.k) with
    | some j => ∃ e, es[j]? = some e ∧ findM k es = some e.v ∧ e.k = k
    | none => findM k es = none)
  | [] => rfl
  | e :: es => by
    rw [List.findIdx?_cons]
    by_cases h : k = e.k
    · simp only [h, decide_true, cond_true, if_true]
      exact ⟨e, rfl, by simp [findM], rfl⟩
    · have ih := find_idx k es
      simp only [h, decide_false, if_false, Bool.false_eq_true]
      have hf : findM k (e :: es) = findM k es := by simp [findM, h]
      rw [hf]
      cases hx : es.findIdx? fun e => decide (k = e.k) with
      | none => rw [hx] at ih; exact ih
      | some j => rw [hx] at ih; exact ih
theorem set_modify (enc : α → Value) (k : α) (v : CV) (clock : Nat) : ∀ (es : List (Men α)), (match es.findIdx? fun e => decide (k = e.k) with
    | some j => (es.map (Men.entry enc)).modify j (fun e => { e with key := enc k, val := v.val }) = (setM k v clock es).map (Men.entry enc)
    | none => es.map (Men.entry enc) ++ [⟨enc k, v.val, clock⟩] = (setM k v clock es).map (Men.entry enc))
  | [] => rfl
  | e :: es => by
    rw [List.findIdx?_cons]
    by_cases h : k = e.k
    · subst h
      simp [setM, Men.entry]
    · have ih := set_modify enc k v clock es
      simp only [h, decide_false, if_false, Bool.false_eq_true]
      cases hx : es.findIdx? fun e => decide (k = e.k) with
      | none => rw [hx] at ih; simp only [Option.map_none, List.map_cons, setM, h, if_false, List.cons_append] at ih ⊢; rw [ih]
      | some j => rw [hx] at ih; simp only [Option.map_some, List.map_cons, setM, h, if_false, List.modify_succ_cons] at ih ⊢; rw [ih]
theorem del_erase (enc : α → Value) (k : α) : ∀ (es : List (Men α)), (match es.findIdx? fun e => decide (k = e.k) with
    | some j => (es.map (Men.entry enc)).eraseIdx j = (delM k es).map (Men.entry enc)
    | none => es.map (Men.entry enc) = (delM k es).map (Men.entry enc))
  | [] => rfl
  | e :: es => by
    rw [List.findIdx?_cons]
    by_cases h : k = e.k
    · subst h
      simp [delM]
    · have ih := del_erase enc k es
      simp only [h, decide_false, if_false, Bool.false_eq_true]
      cases hx : es.findIdx? fun e => decide (k = e.k) with
      | none => rw [hx] at ih; simp only [Option.map_none, List.map_cons, delM, h, if_false] at ih ⊢; rw [ih]
      | some j => rw [hx] at ih; simp only [Option.map_some, List.map_cons, delM, h, if_false, List.eraseIdx_cons_succ] at ih ⊢; rw [ih]
end
section
variable {P : Program} {T : Tab} {α : Type} [DecidableEq α] {enc : α → Value}
theorem run_checkKey' {w : World} {kt : TypeId} {d : TypeDesc} {k : Value} (hd : P.underlying kt = some d) (hk : MapKept.IsKey d k) (e : Bool) : (Instr.checkKey e 10000 kt k).run P w = .ok () w := MapKept.run_checkKey hd hk e 9999
omit [DecidableEq α] in
theorem makeMap_spec {t : TypeId} {m : Mem} : PrimSpec P (.makeMap t) [] m fun r m' => ∃ b, m b = none ∧ r = [.v (.map (some b))] ∧ m' = m.set b (mapO enc [] 0) := by
  intro _ ty W hW
  refine ⟨[.v (.map (some W.heap.size))], _, _, ?_, (by intro y hy; simp at hy; subst hy; rfl), ⟨W.heap.size, hW.none (Nat.le_refl _), rfl, rfl⟩, (After.refl hW).alloc (mapO enc [] 0)⟩
  simp [Prim.run, Prim.out, Prim.tup, resVal, CV.val, Instr.makeMap, mapO, newObj, Sem.run, Result.andThen]
theorem run_find {d : TypeDesc} {kt : TypeId} (hk : KeyOk enc d) (hd : P.underlying kt = some d) (w : World) (k : α) (es : List (Men α)) :
    (Instr.findKey kt (enc k) (es.map (Men.entry enc))).run P w = .ok (match es.findIdx? fun e => decide (k = e.k) with
      | some j => some (j, ((es[j]?).map fun e => e.v.val).getD undef)
      | none => none) w := by
  have := findNow_eq hk k es 0
  simp only [Nat.zero_add] at this
  exact MapKept.run_findKey hd this
theorem lookup_spec {mt kt et : TypeId} {d : TypeDesc} (hk : KeyOk enc d) (hm : P.underlying mt = some (.map kt et)) (hd : P.underlying kt = some d) {z : CV} (hz : (P.info? et).bind (·.zero) = some z.val) (hzok : z.ok) {m : Mem} {b clock : Nat} {es : List (Men α)} {k : α}
    (hb : m b = some (mapO enc es clock)) (hes : ∀ e ∈ es, e.v.ok) (ok : Bool) :
    PrimSpec P (.lookup mt ok) [.v (.map (some b)), .v (enc k)] m fun r m' => r = (if ok then [(findM k es).getD z, .v (.bool (findM k es).isSome)] else [(findM k es).getD z]) ∧ m = m' := by
  intro _ ty W hW
  have hWb := hW _ _ hb
  have hzv : (zeroValue et).run P W = .ok z.val W := by
    cases hi : P.info? et with
    | none => simp [hi] at hz
    | some i => simp [hi] at hz; simp [zeroValue, typeInfo, hi, hz]
  have hf := run_find hk hd W k es
  have hx := find_idx k es
  have hck : ∀ e, (Instr.checkKey e 10000 kt (enc k)).run P W = .ok () W := fun e => run_checkKey' hd (hk.isK k) e
  have hvok : ((findM k es).getD z).ok := by
    unfold findM
    cases hq : es.find? (fun e => decide (k = e.k)) with
    | none => exact hzok
    | some e => exact hes e (List.mem_of_find?_eq_some hq)
  refine ⟨_, m, W, ?_, ?_, ⟨rfl, rfl⟩, After.refl hW⟩
  · cases hi : es.findIdx? fun e => decide (k = e.k) with
    | none =>
      rw [hi] at hx hf
      simp only at hx hf
      rw [hx]
      cases ok <;> simp [Prim.run, Prim.out, Prim.tup, CV.val, resVal, Instr.lookup, run_underlying hm, MapKept.run_getObj_map hWb, hck, hf, hzv, mapO] <;> rfl
    | some j =>
      rw [hi] at hx hf
      obtain ⟨e, h1, h2, _⟩ := hx
      simp only [h1, Option.map_some, Option.getD_some] at hf
      rw [h2]
      cases ok <;> simp [Prim.run, Prim.out, Prim.tup, CV.val, resVal, Instr.lookup, run_underlying hm, MapKept.run_getObj_map hWb, hck, hf, mapO] <;> rfl
  · intro y hy
    cases ok
    · simp at hy; subst hy; exact hvok
    · simp at hy
      rcases hy with rfl | rfl
      · exact hvok
      · rfl
theorem After.put {m : Mem} {W : World} (hW : Over m W) {b : Nat} {o : Obj} (hb : m b = some o) (o' : Obj) : After m W (m.set b o') { W with heap := W.heap.setIfInBounds b o' } := by
  obtain ⟨h1, h2⟩ := MapKept.heap_set (o' := o') (hW _ _ hb)
  exact After.setObj hW hb (by simp) h1 h2
theorem mapSet_spec {mt kt et : TypeId} {d : TypeDesc} (hk : KeyOk enc d) (hm : P.underlying mt = some (.map kt et)) (hd : P.underlying kt = some d) {m : Mem} {b clock : Nat} {es : List (Men α)} {k : α} {v : CV} (hb : m b = some (mapO enc es clock)) :
    PrimSpec P (.mapUpdate mt) [.v (.map (some b)), .v (enc k), v] m fun r m' => m' = m.set b (mapO enc (setM k v clock es) (clockM k clock es)) := by
  intro _ ty W hW
  have hWb := hW _ _ hb
  have hf := run_find hk hd W k es
  have hx := find_idx k es
  have hset := set_modify enc k v clock es
  have hck : (Instr.checkKey false 10000 kt (enc k)).run P W = .ok () W := run_checkKey' hd (hk.isK k) false
  have ha : List.map CV.val [.v (.map (some b)), .v (enc k), v] = [.map (some b), enc k, v.val] := rfl
  rw [ha]
  cases hi : es.findIdx? fun e => decide (k = e.k) with
  | none =>
    rw [hi] at hx hf hset
    simp only at hx hf hset
    refine ⟨[], _, _, ?_, (by intro y hy; cases hy), rfl, After.put hW hb _⟩
    have hc : clockM k clock es = clock + 1 := by simp [clockM, hx]
    have he : (es.map (Men.entry enc)).toArray.push ⟨enc k, v.val, clock⟩ = ((setM k v clock es).map (Men.entry enc)).toArray := by
      rw [← hset]; simp
    have hr : (Instr.mapUpdate mt (.map (some b)) (enc k) v.val).run P W = .ok () { W with heap := W.heap.setIfInBounds b (mapO enc (setM k v clock es) (clockM k clock es)) } := by
      simp only [Instr.mapUpdate, Sem.run_bind, run_underlying hm, MapKept.run_getObj_map hWb, hck, hf, Result.andThen_ok, List.toList_toArray, he, hc, MapKept.run_setObj_map _ hWb, mapO]
    simp only [Prim.run, Sem.run_bind, hr, Result.andThen_ok, Sem.run_pure]
    rfl
  | some j =>
    rw [hi] at hx hf hset
    obtain ⟨e, h1, h2, h3⟩ := hx
    simp only [h1, Option.map_some, Option.getD_some] at hf hset
    refine ⟨[], _, _, ?_, (by intro y hy; cases hy), rfl, After.put hW hb _⟩
    have hc : clockM k clock es = clock := by simp [clockM, h2]
    have hkey : ((((es.map (Men.entry enc)).toArray[j]?).map (·.key)).getD (enc k)) = enc k := by
      simp [h1, Men.entry, h3]
    have hsb := hk.bits k
    have he : (es.map (Men.entry enc)).toArray.modify j (fun e => { e with key := enc k, val := v.val }) = ((setM k v clock es).map (Men.entry enc)).toArray := by
      rw [← hset]; simp
    have hr : (Instr.mapUpdate mt (.map (some b)) (enc k) v.val).run P W = .ok () { W with heap := W.heap.setIfInBounds b (mapO enc (setM k v clock es) (clockM k clock es)) } := by
      simp only [Instr.mapUpdate, Sem.run_bind, run_underlying hm, MapKept.run_getObj_map hWb, hck, hf, Result.andThen_ok, List.toList_toArray, hkey, Instr.keyThatStays, hsb, if_true, Sem.run_pure, he, hc, MapKept.run_setObj_map _ hWb, mapO]
    simp only [Prim.run, Sem.run_bind, hr, Result.andThen_ok, Sem.run_pure]
    rfl
theorem mapDel_spec {mt kt et : TypeId} {d : TypeDesc} {ats : List TypeId} (hk : KeyOk enc d) (hm : P.underlying mt = some (.map kt et)) (hd : P.underlying kt = some d) {m : Mem} {b clock : Nat} {es : List (Men α)} {k : α} (hb : m b = some (mapO enc es clock)) :
    PrimSpec P (.builtin .delete (mt :: ats)) [.v (.map (some b)), .v (enc k)] m fun r m' => r = [] ∧ m' = m.set b (mapO enc (delM k es) clock) := by
  intro _ ty W hW
  have hWb := hW _ _ hb
  have hf := run_find hk hd W k es
  have hset := del_erase enc k es
  have hck : ∀ e, (Instr.checkKey e 10000 kt (enc k)).run P W = .ok () W := fun e => run_checkKey' hd (hk.isK k) e
  refine ⟨[], _, _, ?_, (by intro y hy; cases hy), ⟨rfl, rfl⟩, After.put hW hb _⟩
  cases hi : es.findIdx? fun e => decide (k = e.k) with
  | none =>
    rw [hi] at hf hset
    simp only at hf hset
    simp [Prim.run, Prim.out, Prim.tup, CV.val, resVal, Builtin.delete_, run_underlying hm, MapKept.run_getObj_map hWb, hck, hf, mapO, MapKept.run_setObj_map _ hWb, ← hset]
  | some j =>
    rw [hi] at hf hset
    simp only at hf hset
    have he : (es.map (Men.entry enc)).toArray.eraseIdxIfInBounds j = ((delM k es).map (Men.entry enc)).toArray := by
      rw [← hset]; simp
    simp [Prim.run, Prim.out, Prim.tup, CV.val, resVal, Builtin.delete_, run_underlying hm, MapKept.run_getObj_map hWb, hck, hf, mapO, MapKept.run_setObj_map _ hWb, ← hset]
end
end Go.E

/-
  Maps whose keys are structs: looked up, set.
-/
namespace Go.E.YtconjimbfhpfgaaDoor
set_option maxRecDepth 100000
/-- keys that are compared by asking -/
structure KeyS (P : Program) {α : Type} [DecidableEq α] (enc : α → Value) (kt : TypeId) (d : TypeDesc) : Prop where
  nonow : ∀ a b, Instr.sameNow d (enc a) (enc b) = none
  eq : ∀ w a b, (Op.equal kt (enc a) (enc b)).run P w = .ok (decide (a = b)) w
  chk : ∀ w a e, (Instr.checkKey e 10000 kt (enc a)).run P w = .ok () w
  bits : ∀ a, Instr.sameBits 10000 (enc a) (enc a) = true
section
variable {P : Program} {α : Type} [DecidableEq α] {enc : α → Value} {kt : TypeId} {d : TypeDesc}
theorem run_asking (hk : KeyS P enc kt d) (w : World) (k : α) : ∀ (es : List (Men α)) (i : Nat),
    (Instr.findAsking kt (enc k) (es.map (Men.entry enc)) i).run P w = .ok (match es.findIdx? fun e => decide (k = e.k) with
      | some j => some (i + j, ((es[j]?).map fun e => e.v.val).getD undef)
      | none => none) w
  | [], i => by simp [Instr.findAsking, Sem.run]
  | e :: es, i => by
    simp only [List.map_cons, Instr.findAsking, Sem.run_bind, Men.entry, hk.eq, Result.andThen_ok, List.findIdx?_cons]
    by_cases h : k = e.k
    · simp [h]
    · have ih := run_asking hk w k es (i + 1)
      simp only [h, decide_false, if_false, Bool.false_eq_true]
      rw [ih]
      cases es.findIdx? fun e => decide (k = e.k) with
      | none => rfl
      | some j => simp only [List.getElem?_cons_succ, Option.map_some]; congr 3; omega
theorem run_findS (hk : KeyS P enc kt d) (hd : P.underlying kt = some d) (w : World) (k : α) (es : List (Men α)) :
    (Instr.findKey kt (enc k) (es.map (Men.entry enc))).run P w = .ok (match es.findIdx? fun e => decide (k = e.k) with
      | some j => some (j, ((es[j]?).map fun e => e.v.val).getD undef)
      | none => none) w := by
  cases es with
  | nil => simp [Instr.findKey, Sem.run_bind, run_underlying hd, Instr.findNow]
  | cons e es =>
    have hn : Instr.findNow d (enc k) ((e :: es).map (Men.entry enc)) 0 = none := by
      simp only [List.map_cons, Instr.findNow, Men.entry, hk.nonow]
    have := run_asking hk w k (e :: es) 0
    simp only [Nat.zero_add] at this
    simp only [Instr.findKey, Sem.run_bind, run_underlying hd, Result.andThen_ok, hn]
    exact this
theorem lookupS_spec {mt et : TypeId} (hk : KeyS P enc kt d) (hm : P.underlying mt = some (.map kt et)) (hd : P.underlying kt = some d) {z : CV} (hz : (P.info? et).bind (·.zero) = some z.val) (hzok : z.ok) {m : Mem} {b clock : Nat} {es : List (Men α)} {k : α} {kc : CV} (hkc : kc.val = enc k)
    (hb : m b = some (mapO enc es clock)) (hes : ∀ e ∈ es, e.v.ok) :
    PrimSpec P (.lookup mt false) [.v (.map (some b)), kc] m fun r m' => r = [(findM k es).getD z] ∧ m = m' := by
  intro _ ty W hW
  have hWb := hW _ _ hb
  have hzv : (zeroValue et).run P W = .ok z.val W := by
    cases hi : P.info? et with
    | none => simp [hi] at hz
    | some i => simp [hi] at hz; simp [zeroValue, typeInfo, hi, hz]
  have hf := run_findS hk hd W k es
  have hx := find_idx k es
  have hck : ∀ e, (Instr.checkKey e 10000 kt (enc k)).run P W = .ok () W := fun e => hk.chk W k e
  have hvok : ((findM k es).getD z).ok := by
    unfold findM
    cases hq : es.find? (fun e => decide (k = e.k)) with
    | none => exact hzok
    | some e => exact hes e (List.mem_of_find?_eq_some hq)
  have ha : List.map CV.val [.v (.map (some b)), kc] = [.map (some b), enc k] := by rw [List.map_cons, List.map_cons, hkc]; rfl
  rw [ha]
  refine ⟨_, m, W, ?_, ?_, ⟨rfl, rfl⟩, After.refl hW⟩
  · cases hi : es.findIdx? fun e => decide (k = e.k) with
    | none =>
      rw [hi] at hx hf
      simp only at hx hf
      rw [hx]
      simp [Prim.run, Prim.out, Prim.tup, resVal, Instr.lookup, run_underlying hm, MapKept.run_getObj_map hWb, hck, hf, hzv, mapO] <;> rfl
    | some j =>
      rw [hi] at hx hf
      obtain ⟨e, h1, h2, _⟩ := hx
      simp only [h1, Option.map_some, Option.getD_some] at hf
      rw [h2]
      simp [Prim.run, Prim.out, Prim.tup, resVal, Instr.lookup, run_underlying hm, MapKept.run_getObj_map hWb, hck, hf, mapO] <;> rfl
  · intro y hy
    simp at hy; subst hy; exact hvok
theorem mapSetS_spec {mt et : TypeId} (hk : KeyS P enc kt d) (hm : P.underlying mt = some (.map kt et)) (hd : P.underlying kt = some d) {m : Mem} {b clock : Nat} {es : List (Men α)} {k : α} {kc v : CV} (hkc : kc.val = enc k) (hb : m b = some (mapO enc es clock)) :
    PrimSpec P (.mapUpdate mt) [.v (.map (some b)), kc, v] m fun r m' => m' = m.set b (mapO enc (setM k v clock es) (clockM k clock es)) := by
  intro _ ty W hW
  have hWb := hW _ _ hb
  have hf := run_findS hk hd W k es
  have hx := find_idx k es
  have hset := set_modify enc k v clock es
  have hck : (Instr.checkKey false 10000 kt (enc k)).run P W = .ok () W := hk.chk W k false
  have ha : List.map CV.val [.v (.map (some b)), kc, v] = [.map (some b), enc k, v.val] := by rw [List.map_cons, List.map_cons, hkc]; rfl
  rw [ha]
  cases hi : es.findIdx? fun e => decide (k = e.k) with
  | none =>
    rw [hi] at hx hf hset
    simp only at hx hf hset
    refine ⟨[], _, _, ?_, (by intro y hy; cases hy), rfl, After.put hW hb _⟩
    have hc : clockM k clock es = clock + 1 := by simp [clockM, hx]
    have he : (es.map (Men.entry enc)).toArray.push ⟨enc k, v.val, clock⟩ = ((setM k v clock es).map (Men.entry enc)).toArray := by
      rw [← hset]; simp
    have hr : (Instr.mapUpdate mt (.map (some b)) (enc k) v.val).run P W = .ok () { W with heap := W.heap.setIfInBounds b (mapO enc (setM k v clock es) (clockM k clock es)) } := by
      simp only [Instr.mapUpdate, Sem.run_bind, run_underlying hm, MapKept.run_getObj_map hWb, hck, hf, Result.andThen_ok, List.toList_toArray, he, hc, MapKept.run_setObj_map _ hWb, mapO]
    simp only [Prim.run, Sem.run_bind, hr, Result.andThen_ok, Sem.run_pure]
    rfl
  | some j =>
    rw [hi] at hx hf hset
    obtain ⟨e, h1, h2, h3⟩ := hx
    simp only [h1, Option.map_some, Option.getD_some] at hf hset
    refine ⟨[], _, _, ?_, (by intro y hy; cases hy), rfl, After.put hW hb _⟩
    have hc : clockM k clock es = clock := by simp [clockM, h2]
    have hkey : ((((es.map (Men.entry enc)).toArray[j]?).map (·.key)).getD (enc k)) = enc k := by
      simp [h1, Men.entry, h3]
    have hsb := hk.bits k
    have he : (es.map (Men.entry enc)).toArray.modify j (fun e => { e with key := enc k, val := v.val }) = ((setM k v clock es).map (Men.entry enc)).toArray := by
      rw [← hset]; simp
    have hr : (Instr.mapUpdate mt (.map (some b)) (enc k) v.val).run P W = .ok () { W with heap := W.heap.setIfInBounds b (mapO enc (setM k v clock es) (clockM k clock es)) } := by
      simp only [Instr.mapUpdate, Sem.run_bind, run_underlying hm, MapKept.run_getObj_map hWb, hck, hf, Result.andThen_ok, List.toList_toArray, hkey, Instr.keyThatStays, hsb, if_true, Sem.run_pure, he, hc, MapKept.run_setObj_map _ hWb, mapO]
    simp only [Prim.run, Sem.run_bind, hr, Result.andThen_ok, Sem.run_pure]
    rfl
end
end Go.E.YtconjimbfhpfgaaDoor

/-
  DERIVED: THE SHELF's CONTRACTS AT THIS DUMP, IN PLAIN WORDS (tools/lay-plain.mjs out of 'YtconjimbfhpfgaaDoorShelfA.lean', which tools/lay-shelf.mjs wrote): THE SAME DECLARATIONS UNDER THE SAME NAMES: 'import', 'namespace', 'open', 'def', 'theorem' AND NOTHING ELSE: no command of the shelf's: FOR A HAND-IN. Each laying: the table of numbers ('.._ren') and one theorem, a field a fact of the dump's own or the kernel's comparison; each contract: ONE APPLICATION.
-/
namespace Go.Proofs
open Go.Shelf
def Tryd.laysM171_ren : Go.Shelf.Ren := ⟨fun | 171 => 34 | 243 => 43 | 246 => 54 | 283 => 60 | 284 => 61 | 285 => 62 | 286 => 63 | 129 => 67 | 317 => 66 | 318 => 68 | 319 => 69 | 320 => 70 | 337 => 71 | 338 => 72 | n => n, fun | 3 => 3 | 9 => 9 | 2 => 2 | 4 => 4 | 171 => 101 | 0 => 0 | 53 => 94 | 37 => 80 | 5 => 5 | 173 => 104 | 212 => 112 | 51 => 91 | 20 => 20 | 213 => 113 | 46 => 78 | 232 => 116 | 233 => 117 | n => n, fun | 17 => 5 | 18 => 6 | 19 => 7 | n => n⟩
theorem Tryd.laysM171 : Go.Proofs.LaysM.n171 Tryd.prog Tryd.laysM171_ren := {
  mixed := by kernel_rfl
  f129 := Tryd.func67.trans (congrArg some (by kernel_rfl))
  f171 := Tryd.func34.trans (congrArg some (by kernel_rfl))
  f243 := Tryd.func43.trans (congrArg some (by kernel_rfl))
  f246 := Tryd.func54.trans (congrArg some (by kernel_rfl))
  f283 := Tryd.func60.trans (congrArg some (by kernel_rfl))
  f284 := Tryd.func61.trans (congrArg some (by kernel_rfl))
  f285 := Tryd.func62.trans (congrArg some (by kernel_rfl))
  f286 := Tryd.func63.trans (congrArg some (by kernel_rfl))
  f317 := Tryd.func66.trans (congrArg some (by kernel_rfl))
  f318 := Tryd.func68.trans (congrArg some (by kernel_rfl))
  f319 := Tryd.func69.trans (congrArg some (by kernel_rfl))
  f320 := Tryd.func70.trans (congrArg some (by kernel_rfl))
  f337 := Tryd.func71.trans (congrArg some (by kernel_rfl))
  f338 := Tryd.func72.trans (congrArg some (by kernel_rfl))
  t0 := Tryd.underlying0
  a0 := Tryd.isAgg0
  z0 := Tryd.sizeOf0
  v0 := Tryd.zeroValue0
  t2 := Tryd.underlying2
  a2 := Tryd.isAgg2
  z2 := Tryd.sizeOf2
  v2 := Tryd.zeroValue2
  t3 := Tryd.underlying3
  a3 := Tryd.isAgg3
  z3 := Tryd.sizeOf3
  v3 := Tryd.zeroValue3
  t4 := Tryd.underlying4
  a4 := Tryd.isAgg4
  z4 := Tryd.sizeOf4
  v4 := Tryd.zeroValue4
  t5 := Tryd.underlying5
  a5 := Tryd.isAgg5
  z5 := Tryd.sizeOf5
  v5 := Tryd.zeroValue5
  t9 := Tryd.underlying9
  a9 := Tryd.isAgg9
  z9 := Tryd.sizeOf9
  v9 := Tryd.zeroValue9
  t20 := Tryd.underlying20
  a20 := Tryd.isAgg20
  z20 := Tryd.sizeOf20
  v20 := Tryd.zeroValue20
  t37 := Tryd.underlying80
  a37 := Tryd.isAgg80
  z37 := Tryd.sizeOf80
  v37 := Tryd.zeroValue80
  t46 := Tryd.underlying78
  a46 := Tryd.isAgg78
  z46 := Tryd.sizeOf78
  v46 := Tryd.zeroValue78
  t51 := Tryd.underlying91
  a51 := Tryd.isAgg91
  z51 := Tryd.sizeOf91
  v51 := Tryd.zeroValue91
  t53 := Tryd.underlying94
  a53 := Tryd.isAgg94
  z53 := Tryd.sizeOf94
  v53 := Tryd.zeroValue94
  t171 := Tryd.underlying101
  a171 := Tryd.isAgg101
  z171 := Tryd.sizeOf101
  v171 := Tryd.zeroValue101
  t173 := Tryd.underlying104
  a173 := Tryd.isAgg104
  z173 := Tryd.sizeOf104
  v173 := Tryd.zeroValue104
  t212 := Tryd.underlying112
  a212 := Tryd.isAgg112
  z212 := Tryd.sizeOf112
  v212 := Tryd.zeroValue112
  t213 := Tryd.underlying113
  a213 := Tryd.isAgg113
  z213 := Tryd.sizeOf113
  t232 := Tryd.underlying116
  a232 := Tryd.isAgg116
  z232 := Tryd.sizeOf116
  v232 := Tryd.zeroValue116
  t233 := Tryd.underlying117
  a233 := Tryd.isAgg117
  z233 := Tryd.sizeOf117
  v233 := Tryd.zeroValue117
  g17 := by kernel_rfl
  g18 := by kernel_rfl
  g19 := by kernel_rfl
  i0 := by kernel_rfl
  i2 := by kernel_rfl
  i3 := by kernel_rfl
  i4 := by kernel_rfl
  i5 := by kernel_rfl
  i9 := by kernel_rfl
  i20 := by kernel_rfl
  i37 := by kernel_rfl
  i46 := by kernel_rfl
  i51 := by kernel_rfl
  i53 := by kernel_rfl
  i171 := by kernel_rfl
  i173 := by kernel_rfl
  i212 := by kernel_rfl
  i232 := by kernel_rfl
  i233 := by kernel_rfl
  m17 := by kernel_rfl
  m18 := by kernel_rfl
  m19 := by kernel_rfl }
open Go.RowKit Go.Sort Go.Lib in
theorem Tryd.strconv_Itoa (n : Int) (h0 : -9223372036854775808 ≤ n) (h1 : n ≤ 9223372036854775807) (w : World) (htab : Lib.TabIs Tryd.prog w "internal/strconv.uint64pow10" .u64 Lib.pow10Tab) :
    Calls Tryd.prog 34 #[.int .i64 n] w fun e w' => e = .returned (.string ⟨(Lib.itoa n).toArray⟩) ∧ ∃ k os, w' = grow (w.drewN k) os := Any.strconv_Itoa Tryd.laysM171 n h0 h1 w htab
def Tryd.laysC172_ren : Go.Shelf.Ren := ⟨fun | 172 => 33 | 244 => 41 | 245 => 42 | 247 => 49 | 279 => 50 | 280 => 51 | 281 => 52 | 282 => 53 | 287 => 57 | 316 => 58 | 171 => 34 | 205 => 59 | 321 => 64 | 322 => 65 | 243 => 43 | 246 => 54 | 283 => 60 | 284 => 61 | 285 => 62 | 286 => 63 | 129 => 67 | 317 => 66 | 318 => 68 | 319 => 69 | 320 => 70 | 337 => 71 | 338 => 72 | n => n, fun | 9 => 9 | 3 => 3 | 75 => 65 | 76 => 66 | 4 => 4 | 5 => 5 | 167 => 79 | 37 => 80 | 0 => 0 | 85 => 81 | 2 => 2 | 168 => 83 | 53 => 94 | 175 => 95 | 46 => 78 | 210 => 99 | 127 => 107 | 145 => 110 | 143 => 108 | 21 => 21 | 171 => 101 | 173 => 104 | 212 => 112 | 51 => 91 | 20 => 20 | 213 => 113 | 232 => 116 | 233 => 117 | 80 => 118 | n => n, fun | 15 => 3 | 16 => 4 | 17 => 5 | 18 => 6 | 19 => 7 | n => n⟩
theorem Tryd.laysC172 : Go.Proofs.LaysC.n172 Tryd.prog Tryd.laysC172_ren := {
  mixed := by kernel_rfl
  f129 := Tryd.func67.trans (congrArg some (by kernel_rfl))
  f171 := Tryd.func34.trans (congrArg some (by kernel_rfl))
  f172 := Tryd.func33.trans (congrArg some (by kernel_rfl))
  f205 := Tryd.func59.trans (congrArg some (by kernel_rfl))
  f243 := Tryd.func43.trans (congrArg some (by kernel_rfl))
  f244 := Tryd.func41.trans (congrArg some (by kernel_rfl))
  f245 := Tryd.func42.trans (congrArg some (by kernel_rfl))
  f246 := Tryd.func54.trans (congrArg some (by kernel_rfl))
  f247 := Tryd.func49.trans (congrArg some (by kernel_rfl))
  f279 := Tryd.func50.trans (congrArg some (by kernel_rfl))
  f280 := Tryd.func51.trans (congrArg some (by kernel_rfl))
  f281 := Tryd.func52.trans (congrArg some (by kernel_rfl))
  f282 := Tryd.func53.trans (congrArg some (by kernel_rfl))
  f283 := Tryd.func60.trans (congrArg some (by kernel_rfl))
  f284 := Tryd.func61.trans (congrArg some (by kernel_rfl))
  f285 := Tryd.func62.trans (congrArg some (by kernel_rfl))
  f286 := Tryd.func63.trans (congrArg some (by kernel_rfl))
  f287 := Tryd.func57.trans (congrArg some (by kernel_rfl))
  f316 := Tryd.func58.trans (congrArg some (by kernel_rfl))
  f317 := Tryd.func66.trans (congrArg some (by kernel_rfl))
  f318 := Tryd.func68.trans (congrArg some (by kernel_rfl))
  f319 := Tryd.func69.trans (congrArg some (by kernel_rfl))
  f320 := Tryd.func70.trans (congrArg some (by kernel_rfl))
  f321 := Tryd.func64.trans (congrArg some (by kernel_rfl))
  f322 := Tryd.func65.trans (congrArg some (by kernel_rfl))
  f337 := Tryd.func71.trans (congrArg some (by kernel_rfl))
  f338 := Tryd.func72.trans (congrArg some (by kernel_rfl))
  t0 := Tryd.underlying0
  a0 := Tryd.isAgg0
  z0 := Tryd.sizeOf0
  v0 := Tryd.zeroValue0
  t2 := Tryd.underlying2
  a2 := Tryd.isAgg2
  z2 := Tryd.sizeOf2
  v2 := Tryd.zeroValue2
  t3 := Tryd.underlying3
  a3 := Tryd.isAgg3
  z3 := Tryd.sizeOf3
  v3 := Tryd.zeroValue3
  t4 := Tryd.underlying4
  a4 := Tryd.isAgg4
  z4 := Tryd.sizeOf4
  v4 := Tryd.zeroValue4
  t5 := Tryd.underlying5
  a5 := Tryd.isAgg5
  z5 := Tryd.sizeOf5
  v5 := Tryd.zeroValue5
  t9 := Tryd.underlying9
  a9 := Tryd.isAgg9
  z9 := Tryd.sizeOf9
  v9 := Tryd.zeroValue9
  t20 := Tryd.underlying20
  a20 := Tryd.isAgg20
  z20 := Tryd.sizeOf20
  v20 := Tryd.zeroValue20
  t21 := Tryd.underlying21
  a21 := Tryd.isAgg21
  z21 := Tryd.sizeOf21
  v21 := Tryd.zeroValue21
  t37 := Tryd.underlying80
  a37 := Tryd.isAgg80
  z37 := Tryd.sizeOf80
  v37 := Tryd.zeroValue80
  t46 := Tryd.underlying78
  a46 := Tryd.isAgg78
  z46 := Tryd.sizeOf78
  v46 := Tryd.zeroValue78
  t51 := Tryd.underlying91
  a51 := Tryd.isAgg91
  z51 := Tryd.sizeOf91
  v51 := Tryd.zeroValue91
  t53 := Tryd.underlying94
  a53 := Tryd.isAgg94
  z53 := Tryd.sizeOf94
  v53 := Tryd.zeroValue94
  t75 := Tryd.underlying65
  a75 := Tryd.isAgg65
  z75 := Tryd.sizeOf65
  v75 := Tryd.zeroValue65
  t76 := Tryd.underlying66
  a76 := Tryd.isAgg66
  z76 := Tryd.sizeOf66
  v76 := Tryd.zeroValue66
  t85 := Tryd.underlying81
  a85 := Tryd.isAgg81
  z85 := Tryd.sizeOf81
  v85 := Tryd.zeroValue81
  t127 := Tryd.underlying107
  a127 := Tryd.isAgg107
  z127 := Tryd.sizeOf107
  v127 := Tryd.zeroValue107
  t143 := Tryd.underlying108
  a143 := Tryd.isAgg108
  z143 := Tryd.sizeOf108
  v143 := Tryd.zeroValue108
  t145 := Tryd.underlying110
  a145 := Tryd.isAgg110
  z145 := Tryd.sizeOf110
  v145 := Tryd.zeroValue110
  t167 := Tryd.underlying79
  a167 := Tryd.isAgg79
  z167 := Tryd.sizeOf79
  v167 := Tryd.zeroValue79
  t168 := Tryd.underlying83
  a168 := Tryd.isAgg83
  z168 := Tryd.sizeOf83
  v168 := Tryd.zeroValue83
  t171 := Tryd.underlying101
  a171 := Tryd.isAgg101
  z171 := Tryd.sizeOf101
  v171 := Tryd.zeroValue101
  t173 := Tryd.underlying104
  a173 := Tryd.isAgg104
  z173 := Tryd.sizeOf104
  v173 := Tryd.zeroValue104
  t175 := Tryd.underlying95
  a175 := Tryd.isAgg95
  z175 := Tryd.sizeOf95
  v175 := Tryd.zeroValue95
  t210 := Tryd.underlying99
  a210 := Tryd.isAgg99
  z210 := Tryd.sizeOf99
  v210 := Tryd.zeroValue99
  t212 := Tryd.underlying112
  a212 := Tryd.isAgg112
  z212 := Tryd.sizeOf112
  v212 := Tryd.zeroValue112
  t213 := Tryd.underlying113
  a213 := Tryd.isAgg113
  z213 := Tryd.sizeOf113
  t232 := Tryd.underlying116
  a232 := Tryd.isAgg116
  z232 := Tryd.sizeOf116
  v232 := Tryd.zeroValue116
  t233 := Tryd.underlying117
  a233 := Tryd.isAgg117
  z233 := Tryd.sizeOf117
  v233 := Tryd.zeroValue117
  g15 := by kernel_rfl
  g16 := by kernel_rfl
  g17 := by kernel_rfl
  g18 := by kernel_rfl
  g19 := by kernel_rfl
  t80 := Tryd.underlying118
  a80 := Tryd.isAgg118
  z80 := Tryd.sizeOf118
  v80 := Tryd.zeroValue118
  i0 := by kernel_rfl
  i2 := by kernel_rfl
  i3 := by kernel_rfl
  i4 := by kernel_rfl
  i5 := by kernel_rfl
  i9 := by kernel_rfl
  i20 := by kernel_rfl
  i21 := by kernel_rfl
  i37 := by kernel_rfl
  i46 := by kernel_rfl
  i51 := by kernel_rfl
  i53 := by kernel_rfl
  i75 := by kernel_rfl
  i76 := by kernel_rfl
  i80 := by kernel_rfl
  i85 := by kernel_rfl
  i127 := by kernel_rfl
  i143 := by kernel_rfl
  i145 := by kernel_rfl
  i167 := by kernel_rfl
  i168 := by kernel_rfl
  i171 := by kernel_rfl
  i173 := by kernel_rfl
  i175 := by kernel_rfl
  i210 := by kernel_rfl
  i212 := by kernel_rfl
  i232 := by kernel_rfl
  i233 := by kernel_rfl
  m15 := by kernel_rfl
  m16 := by kernel_rfl
  m17 := by kernel_rfl
  m18 := by kernel_rfl
  m19 := by kernel_rfl
  c0 := by kernel_rfl
  c2 := by kernel_rfl
  c3 := by kernel_rfl
  c4 := by kernel_rfl
  c5 := by kernel_rfl
  c9 := by kernel_rfl
  c20 := by kernel_rfl
  c21 := by kernel_rfl
  c37 := by kernel_rfl
  c46 := by kernel_rfl
  c51 := by kernel_rfl
  c53 := by kernel_rfl
  c75 := by kernel_rfl
  c76 := by kernel_rfl
  c80 := by kernel_rfl
  c85 := by kernel_rfl
  c127 := by kernel_rfl
  c143 := by kernel_rfl
  c145 := by kernel_rfl
  c167 := by kernel_rfl
  c168 := by kernel_rfl
  c171 := by kernel_rfl
  c173 := by kernel_rfl
  c175 := by kernel_rfl
  c210 := by kernel_rfl
  c212 := by kernel_rfl
  c213 := by kernel_rfl
  c232 := by kernel_rfl
  c233 := by kernel_rfl }
open Go.RowKit in
theorem Tryd.strconv_Atoi_ok (s : ByteArray) (hmax : s.size ≤ 9223372036854775806) (v : Int) (h : Lib.atoiAll s.data.toList = .ok v) (w : World) :
    Calls Tryd.prog 33 #[.string s] w fun e w' => e = .returned (.tuple #[.int .i64 v, .nilIface]) ∧ (w' = w ∨ ∃ t, w' = Lib.bytesWorld w 5 t) := Any.strconv_Atoi_ok Tryd.laysC172 s hmax v h w
open Go.RowKit in
theorem Tryd.strconv_Atoi_syntax_var (s : ByteArray) (hlim : s.size ≤ 281474976710656) (h : Lib.atoiAll s.data.toList = Lib.atoiAll []) (tp : TypeId) (p : Value) (w : World) (hvar : w.var? Tryd.prog "strconv.ErrSyntax" = some #[.iface tp p]) :
    Calls Tryd.prog 33 #[.string s] w fun e w' => ∃ N, e = .returned (.tuple #[.int .i64 0, .iface 83 (.pointer (some ⟨N, 0, none⟩))]) ∧ w.heap.size ≤ N ∧ w'.heap[N]? = some (.cells #[.string ⟨#[65, 116, 111, 105]⟩, .string s, .iface tp p] 99 (0, 0)) ∧ Below w.heap.size w w' := Any.strconv_Atoi_syntax_var Tryd.laysC172 s hlim h tp p w hvar
open Go.RowKit in
theorem Tryd.strconv_Atoi_range_var (s : ByteArray) (hlim : s.size ≤ 281474976710656) (h : Lib.atoiAll s.data.toList = .range) (tp : TypeId) (p : Value) (w : World) (hvar : w.var? Tryd.prog "strconv.ErrRange" = some #[.iface tp p]) :
    Calls Tryd.prog 33 #[.string s] w fun e w' => ∃ N, e = .returned (.tuple #[.int .i64 (Lib.atoiSat s.data.toList), .iface 83 (.pointer (some ⟨N, 0, none⟩))]) ∧ w.heap.size ≤ N ∧ w'.heap[N]? = some (.cells #[.string ⟨#[65, 116, 111, 105]⟩, .string s, .iface tp p] 99 (0, 0)) ∧ Below w.heap.size w w' := Any.strconv_Atoi_range_var Tryd.laysC172 s hlim h tp p w hvar
def Tryd.lays146_ren : Go.Shelf.Ren := ⟨fun | 146 => 15 | 221 => 21 | 268 => 30 | 138 => 31 | 143 => 32 | 195 => 37 | 197 => 38 | 218 => 39 | 219 => 40 | 260 => 44 | 217 => 45 | 225 => 46 | 224 => 47 | 267 => 48 | 266 => 55 | 314 => 56 | n => n, fun | 9 => 9 | 31 => 41 | 3 => 3 | 4 => 4 | 0 => 0 | 105 => 73 | 21 => 21 | 5 => 5 | 46 => 78 | 119 => 87 | 139 => 90 | 138 => 89 | 146 => 92 | 51 => 91 | n => n, fun | 1 => 0 | 3 => 1 | 4 => 2 | n => n⟩
theorem Tryd.lays146 : Go.Proofs.Lays.n146 Tryd.prog Tryd.lays146_ren := {
  mixed := by kernel_rfl
  f138 := Tryd.func31.trans (congrArg some (by kernel_rfl))
  f143 := Tryd.func32.trans (congrArg some (by kernel_rfl))
  f146 := Tryd.func15.trans (congrArg some (by kernel_rfl))
  f195 := Tryd.func37.trans (congrArg some (by kernel_rfl))
  f197 := Tryd.func38.trans (congrArg some (by kernel_rfl))
  f217 := Tryd.func45.trans (congrArg some (by kernel_rfl))
  f218 := Tryd.func39.trans (congrArg some (by kernel_rfl))
  f219 := Tryd.func40.trans (congrArg some (by kernel_rfl))
  f221 := Tryd.func21.trans (congrArg some (by kernel_rfl))
  f224 := Tryd.func47.trans (congrArg some (by kernel_rfl))
  f225 := Tryd.func46.trans (congrArg some (by kernel_rfl))
  f260 := Tryd.func44.trans (congrArg some (by kernel_rfl))
  f266 := Tryd.func55.trans (congrArg some (by kernel_rfl))
  f267 := Tryd.func48.trans (congrArg some (by kernel_rfl))
  f268 := Tryd.func30.trans (congrArg some (by kernel_rfl))
  f314 := Tryd.func56.trans (congrArg some (by kernel_rfl))
  t0 := Tryd.underlying0
  a0 := Tryd.isAgg0
  z0 := Tryd.sizeOf0
  v0 := Tryd.zeroValue0
  t3 := Tryd.underlying3
  a3 := Tryd.isAgg3
  z3 := Tryd.sizeOf3
  v3 := Tryd.zeroValue3
  t4 := Tryd.underlying4
  a4 := Tryd.isAgg4
  z4 := Tryd.sizeOf4
  v4 := Tryd.zeroValue4
  t5 := Tryd.underlying5
  a5 := Tryd.isAgg5
  z5 := Tryd.sizeOf5
  v5 := Tryd.zeroValue5
  t9 := Tryd.underlying9
  a9 := Tryd.isAgg9
  z9 := Tryd.sizeOf9
  v9 := Tryd.zeroValue9
  t21 := Tryd.underlying21
  a21 := Tryd.isAgg21
  z21 := Tryd.sizeOf21
  v21 := Tryd.zeroValue21
  t31 := Tryd.underlying41
  a31 := Tryd.isAgg41
  z31 := Tryd.sizeOf41
  v31 := Tryd.zeroValue41
  t46 := Tryd.underlying78
  a46 := Tryd.isAgg78
  z46 := Tryd.sizeOf78
  v46 := Tryd.zeroValue78
  t51 := Tryd.underlying91
  a51 := Tryd.isAgg91
  z51 := Tryd.sizeOf91
  v51 := Tryd.zeroValue91
  t105 := Tryd.underlying73
  a105 := Tryd.isAgg73
  z105 := Tryd.sizeOf73
  v105 := Tryd.zeroValue73
  t119 := Tryd.underlying87
  a119 := Tryd.isAgg87
  z119 := Tryd.sizeOf87
  t138 := Tryd.underlying89
  a138 := Tryd.isAgg89
  z138 := Tryd.sizeOf89
  v138 := Tryd.zeroValue89
  t139 := Tryd.underlying90
  a139 := Tryd.isAgg90
  z139 := Tryd.sizeOf90
  v139 := Tryd.zeroValue90
  t146 := Tryd.underlying92
  a146 := Tryd.isAgg92
  z146 := Tryd.sizeOf92
  v146 := Tryd.zeroValue92
  g1 := by kernel_rfl
  g3 := by kernel_rfl
  g4 := by kernel_rfl }
open Go.RowKit Go.Lib in
theorem Tryd.strings_Split (s sep : ByteArray) (m : Int) (w : World) (hs : s.size < 4294967281) (hm : w.cell? ⟨0, 0, none⟩ = some (.int .i64 m)) (h1 : 1 ≤ sep.size) :
    Calls Tryd.prog 15 #[.string s, .string sep] w fun e w' =>
      e = .returned (.slice (some ⟨w.heap.size, 0, none⟩) (Lib.countB s sep + 1) (Lib.countB s sep + 1)) ∧ w' = w.alloc (.cells ((Lib.splitB sep 0 (Lib.countB s sep) s).map Value.string).toArray 9) := Any.strings_Split Tryd.lays146 (by kernel_rfl) s sep m w hs hm h1
end Go.Proofs

/-
  The table of the types of this seat's program, made by a program, and that it is right.
-/
namespace Go.E.YtconjimbfhpfgaaDoor
open Go.Proofs
set_option maxRecDepth 100000
noncomputable def tt : TTree := (.node 65 (.node 31 (.node 15 (.node 8 (.node 4 (.node 2 (.leaf 1 ⟨.func, 1, 8, [.one .nilFunc], false⟩)
 (.node 3 (.leaf 2 ⟨.int .i64, 1, 8, [.one (.int .i64 0)], false⟩)
 (.leaf 3 ⟨.int .i64, 1, 8, [.one (.int .i64 0)], false⟩)))
 (.node 6 (.node 5 (.leaf 4 ⟨.bool, 1, 1, [.one (.bool false)], false⟩)
 (.leaf 5 ⟨.int .u8, 1, 1, [.one (.int .u8 0)], false⟩))
 (.node 7 (.leaf 6 ⟨.int .u8, 1, 1, [.one (.int .u8 0)], false⟩)
 (.leaf 7 ⟨.struct [(0, 2), (1, 3), (2, 4), (3, 6)], 4, 24, [.one (.int .i64 0), .one (.int .i64 0), .one (.bool false), .one (.int .u8 0)], false⟩))))
 (.node 11 (.node 9 (.leaf 8 ⟨.struct [(0, 2), (1, 3), (2, 4), (3, 6)], 4, 24, [.one (.int .i64 0), .one (.int .i64 0), .one (.bool false), .one (.int .u8 0)], false⟩)
 (.node 10 (.leaf 9 ⟨.str, 1, 16, [.one (.string ByteArray.empty)], false⟩)
 (.leaf 10 ⟨.str, 1, 16, [.one (.string ByteArray.empty)], false⟩)))
 (.node 13 (.node 12 (.leaf 11 ⟨.str, 1, 16, [.one (.string ByteArray.empty)], false⟩)
 (.leaf 12 ⟨.int .u64, 1, 8, [.one (.int .u64 0)], false⟩))
 (.node 14 (.leaf 13 ⟨.struct [(0, 9), (1, 12)], 2, 24, [.one (.string ByteArray.empty), .one (.int .u64 0)], false⟩)
 (.leaf 14 ⟨.struct [(0, 9), (1, 12)], 2, 24, [.one (.string ByteArray.empty), .one (.int .u64 0)], false⟩)))))
 (.node 22 (.node 18 (.node 16 (.leaf 15 ⟨.ptr 120, 1, 8, [.one (.pointer none)], false⟩)
 (.node 17 (.leaf 16 ⟨.ptr 123, 1, 8, [.one (.pointer none)], false⟩)
 (.leaf 17 ⟨.ptr 130, 1, 8, [.one (.pointer none)], false⟩)))
 (.node 20 (.node 19 (.leaf 18 ⟨.struct [(0, 17)], 1, 8, [.one (.pointer none)], false⟩)
 (.leaf 19 ⟨.struct [(0, 17)], 1, 8, [.one (.pointer none)], false⟩))
 (.node 21 (.leaf 20 ⟨.iface, 1, 16, [.one .nilIface], false⟩)
 (.leaf 21 ⟨.int .i32, 1, 4, [.one (.int .i32 0)], false⟩))))
 (.node 26 (.node 24 (.node 23 (.leaf 22 ⟨.slice 32, 1, 24, [.one (.slice none 0 0)], false⟩)
 (.leaf 23 ⟨.func, 1, 8, [.one .nilFunc], false⟩))
 (.node 25 (.leaf 24 ⟨.func, 1, 8, [.one .nilFunc], false⟩)
 (.leaf 25 ⟨.func, 1, 8, [.one .nilFunc], false⟩)))
 (.node 28 (.node 27 (.leaf 26 ⟨.ptr 36, 1, 8, [.one (.pointer none)], false⟩)
 (.leaf 27 ⟨.func, 1, 8, [.one .nilFunc], false⟩))
 (.node 30 (.leaf 28 ⟨.int .i64, 1, 8, [.one (.int .i64 0)], false⟩)
 (.leaf 30 ⟨.func, 1, 8, [.one .nilFunc], false⟩))))))
 (.node 47 (.node 38 (.node 34 (.node 32 (.leaf 31 ⟨.struct [(0, 9), (1, 9)], 2, 32, [.one (.string ByteArray.empty), .one (.string ByteArray.empty)], true⟩)
 (.node 33 (.leaf 32 ⟨.struct [(0, 9), (1, 9)], 2, 32, [.one (.string ByteArray.empty), .one (.string ByteArray.empty)], true⟩)
 (.leaf 33 ⟨.func, 1, 8, [.one .nilFunc], false⟩)))
 (.node 36 (.node 35 (.leaf 34 ⟨.map 71 3, 1, 8, [.one (.map none)], false⟩)
 (.leaf 35 ⟨.struct [(0, 4), (1, 4), (2, 3), (3, 3), (4, 34)], 5, 32, [.one (.bool false), .one (.bool false), .one (.int .i64 0), .one (.int .i64 0), .one (.map none)], false⟩))
 (.node 37 (.leaf 36 ⟨.struct [(0, 4), (1, 4), (2, 3), (3, 3), (4, 34)], 5, 32, [.one (.bool false), .one (.bool false), .one (.int .i64 0), .one (.int .i64 0), .one (.map none)], false⟩)
 (.leaf 37 ⟨.func, 1, 8, [.one .nilFunc], false⟩))))
 (.node 42 (.node 40 (.node 39 (.leaf 38 ⟨.func, 1, 8, [.one .nilFunc], false⟩)
 (.leaf 39 ⟨.func, 1, 8, [.one .nilFunc], false⟩))
 (.node 41 (.leaf 40 ⟨.func, 1, 8, [.one .nilFunc], false⟩)
 (.leaf 41 ⟨.slice 9, 1, 24, [.one (.slice none 0 0)], false⟩)))
 (.node 44 (.node 43 (.leaf 42 ⟨.func, 1, 8, [.one .nilFunc], false⟩)
 (.leaf 43 ⟨.func, 1, 8, [.one .nilFunc], false⟩))
 (.node 46 (.leaf 44 ⟨.slice 3, 1, 24, [.one (.slice none 0 0)], false⟩)
 (.leaf 46 ⟨.func, 1, 8, [.one .nilFunc], false⟩)))))
 (.node 55 (.node 51 (.node 48 (.leaf 47 ⟨.func, 1, 8, [.one .nilFunc], false⟩)
 (.node 49 (.leaf 48 ⟨.struct [(0, 9), (1, 9), (2, 44)], 3, 56, [.one (.string ByteArray.empty), .one (.string ByteArray.empty), .one (.slice none 0 0)], false⟩)
 (.leaf 49 ⟨.struct [(0, 9), (1, 9), (2, 44)], 3, 56, [.one (.string ByteArray.empty), .one (.string ByteArray.empty), .one (.slice none 0 0)], false⟩)))
 (.node 53 (.node 52 (.leaf 51 ⟨.func, 1, 8, [.one .nilFunc], false⟩)
 (.leaf 52 ⟨.func, 1, 8, [.one .nilFunc], false⟩))
 (.node 54 (.leaf 53 ⟨.func, 1, 8, [.one .nilFunc], false⟩)
 (.leaf 54 ⟨.func, 1, 8, [.one .nilFunc], false⟩))))
 (.node 61 (.node 57 (.node 56 (.leaf 55 ⟨.func, 1, 8, [.one .nilFunc], false⟩)
 (.leaf 56 ⟨.func, 1, 8, [.one .nilFunc], false⟩))
 (.node 59 (.leaf 57 ⟨.func, 1, 8, [.one .nilFunc], false⟩)
 (.leaf 59 ⟨.func, 1, 8, [.one .nilFunc], false⟩)))
 (.node 63 (.node 62 (.leaf 61 ⟨.func, 1, 8, [.one .nilFunc], false⟩)
 (.leaf 62 ⟨.func, 1, 8, [.one .nilFunc], false⟩))
 (.node 64 (.leaf 63 ⟨.func, 1, 8, [.one .nilFunc], false⟩)
 (.leaf 64 ⟨.iface, 1, 16, [.one .nilIface], false⟩)))))))
 (.node 100 (.node 83 (.node 74 (.node 69 (.node 67 (.leaf 65 ⟨.iface, 1, 16, [.one .nilIface], false⟩)
 (.node 68 (.leaf 67 ⟨.func, 1, 8, [.one .nilFunc], false⟩)
 (.leaf 68 ⟨.func, 1, 8, [.one .nilFunc], false⟩)))
 (.node 71 (.node 70 (.leaf 69 ⟨.func, 1, 8, [.one .nilFunc], false⟩)
 (.leaf 70 ⟨.struct [(0, 9), (1, 3)], 2, 24, [.one (.string ByteArray.empty), .one (.int .i64 0)], true⟩))
 (.node 72 (.leaf 71 ⟨.struct [(0, 9), (1, 3)], 2, 24, [.one (.string ByteArray.empty), .one (.int .i64 0)], true⟩)
 (.leaf 72 ⟨.func, 1, 8, [.one .nilFunc], false⟩))))
 (.node 78 (.node 76 (.node 75 (.leaf 74 ⟨.func, 1, 8, [.one .nilFunc], false⟩)
 (.leaf 75 ⟨.func, 1, 8, [.one .nilFunc], false⟩))
 (.node 77 (.leaf 76 ⟨.func, 1, 8, [.one .nilFunc], false⟩)
 (.leaf 77 ⟨.func, 1, 8, [.one .nilFunc], false⟩)))
 (.node 80 (.node 79 (.leaf 78 ⟨.int .u64, 1, 8, [.one (.int .u64 0)], false⟩)
 (.leaf 79 ⟨.int .i64, 1, 8, [.one (.int .i64 0)], false⟩))
 (.node 82 (.leaf 80 ⟨.slice 5, 1, 24, [.one (.slice none 0 0)], false⟩)
 (.leaf 82 ⟨.func, 1, 8, [.one .nilFunc], false⟩)))))
 (.node 90 (.node 86 (.node 84 (.leaf 83 ⟨.ptr 99, 1, 8, [.one (.pointer none)], false⟩)
 (.node 85 (.leaf 84 ⟨.func, 1, 8, [.one .nilFunc], false⟩)
 (.leaf 85 ⟨.func, 1, 8, [.one .nilFunc], false⟩)))
 (.node 88 (.node 87 (.leaf 86 ⟨.func, 1, 8, [.one .nilFunc], false⟩)
 (.leaf 87 ⟨.array 256 5, 256, 256, [.ints .u8 256 (List.replicate 256 0)], true⟩))
 (.node 89 (.leaf 88 ⟨.struct [(0, 5), (1, 5)], 2, 2, [.one (.int .u8 0), .one (.int .u8 0)], true⟩)
 (.leaf 89 ⟨.struct [(0, 5), (1, 5)], 2, 2, [.one (.int .u8 0), .one (.int .u8 0)], true⟩))))
 (.node 96 (.node 93 (.node 91 (.leaf 90 ⟨.array 16 89, 32, 32, [.vals 32 [(.int .u8 0), (.int .u8 0), (.int .u8 0), (.int .u8 0), (.int .u8 0), (.int .u8 0), (.int .u8 0), (.int .u8 0), (.int .u8 0), (.int .u8 0), (.int .u8 0), (.int .u8 0), (.int .u8 0), (.int .u8 0), (.int .u8 0), (.int .u8 0), (.int .u8 0), (.int .u8 0), (.int .u8 0), (.int .u8 0), (.int .u8 0), (.int .u8 0), (.int .u8 0), (.int .u8 0), (.int .u8 0), (.int .u8 0), (.int .u8 0), (.int .u8 0), (.int .u8 0), (.int .u8 0), (.int .u8 0), (.int .u8 0)]], true⟩)
 (.leaf 91 ⟨.int .u32, 1, 4, [.one (.int .u32 0)], false⟩))
 (.node 94 (.leaf 93 ⟨.func, 1, 8, [.one .nilFunc], false⟩)
 (.leaf 94 ⟨.int .u64, 1, 8, [.one (.int .u64 0)], false⟩)))
 (.node 98 (.node 97 (.leaf 96 ⟨.func, 1, 8, [.one .nilFunc], false⟩)
 (.leaf 97 ⟨.func, 1, 8, [.one .nilFunc], false⟩))
 (.node 99 (.leaf 98 ⟨.struct [(0, 9), (1, 9), (2, 65)], 3, 48, [.one (.string ByteArray.empty), .one (.string ByteArray.empty), .one .nilIface], false⟩)
 (.leaf 99 ⟨.struct [(0, 9), (1, 9), (2, 65)], 3, 48, [.one (.string ByteArray.empty), .one (.string ByteArray.empty), .one .nilIface], false⟩))))))
 (.node 116 (.node 108 (.node 103 (.node 101 (.leaf 100 ⟨.func, 1, 8, [.one .nilFunc], false⟩)
 (.node 102 (.leaf 101 ⟨.array 24 5, 24, 24, [.ints .u8 24 (List.replicate 24 0)], true⟩)
 (.leaf 102 ⟨.func, 1, 8, [.one .nilFunc], false⟩)))
 (.node 106 (.node 105 (.leaf 103 ⟨.func, 1, 8, [.one .nilFunc], false⟩)
 (.leaf 105 ⟨.func, 1, 8, [.one .nilFunc], false⟩))
 (.node 107 (.leaf 106 ⟨.func, 1, 8, [.one .nilFunc], false⟩)
 (.leaf 107 ⟨.ptr 5, 1, 8, [.one (.pointer none)], false⟩))))
 (.node 112 (.node 110 (.node 109 (.leaf 108 ⟨.ptr 110, 1, 8, [.one (.pointer none)], false⟩)
 (.leaf 109 ⟨.struct [(0, 9)], 1, 16, [.one (.string ByteArray.empty)], true⟩))
 (.node 111 (.leaf 110 ⟨.struct [(0, 9)], 1, 16, [.one (.string ByteArray.empty)], true⟩)
 (.leaf 111 ⟨.func, 1, 8, [.one .nilFunc], false⟩)))
 (.node 114 (.node 113 (.leaf 112 ⟨.array 20 94, 20, 160, [.ints .u64 20 (List.replicate 20 0)], true⟩)
 (.leaf 113 ⟨.array 65 5, 65, 65, [.ints .u8 65 (List.replicate 65 0)], true⟩))
 (.node 115 (.leaf 114 ⟨.func, 1, 8, [.one .nilFunc], false⟩)
 (.leaf 115 ⟨.func, 1, 8, [.one .nilFunc], false⟩)))))
 (.node 123 (.node 119 (.node 117 (.leaf 116 ⟨.array 32 5, 32, 32, [.ints .u8 32 (List.replicate 32 0)], true⟩)
 (.node 118 (.leaf 117 ⟨.array 64 5, 64, 64, [.ints .u8 64 (List.replicate 64 0)], true⟩)
 (.leaf 118 ⟨.func, 1, 8, [.one .nilFunc], false⟩)))
 (.node 121 (.node 120 (.leaf 119 ⟨.struct [(0, 17), (1, 17), (2, 17), (3, 9)], 4, 40, [.one (.pointer none), .one (.pointer none), .one (.pointer none), .one (.string ByteArray.empty)], false⟩)
 (.leaf 120 ⟨.struct [(0, 17), (1, 17), (2, 17), (3, 9)], 4, 40, [.one (.pointer none), .one (.pointer none), .one (.pointer none), .one (.string ByteArray.empty)], false⟩))
 (.node 122 (.leaf 121 ⟨.array 0 16, 0, 0, [.vals 0 []], false⟩)
 (.leaf 122 ⟨.struct [(0, 121)], 0, 0, [.vals 0 []], false⟩))))
 (.node 127 (.node 125 (.node 124 (.leaf 123 ⟨.struct [(0, 121)], 0, 0, [.vals 0 []], false⟩)
 (.leaf 124 ⟨.int .u8, 1, 1, [.one (.int .u8 0)], false⟩))
 (.node 126 (.leaf 125 ⟨.int .u8, 1, 1, [.one (.int .u8 0)], false⟩)
 (.leaf 126 ⟨.func, 1, 8, [.one .nilFunc], false⟩)))
 (.node 129 (.node 128 (.leaf 127 ⟨.int .i32, 1, 4, [.one (.int .i32 0)], false⟩)
 (.leaf 128 ⟨.int .i32, 1, 4, [.one (.int .i32 0)], false⟩))
 (.node 130 (.leaf 129 ⟨.struct [(0, 12), (1, 12), (2, 91), (3, 124), (4, 5), (5, 5), (6, 125), (7, 126), (8, 107), (9, 127), (10, 128)], 11, 48, [.one (.int .u64 0), .one (.int .u64 0), .one (.int .u32 0), .one (.int .u8 0), .one (.int .u8 0), .one (.int .u8 0), .one (.int .u8 0), .one .nilFunc, .one (.pointer none), .one (.int .i32 0), .one (.int .i32 0)], false⟩)
 (.leaf 130 ⟨.struct [(0, 12), (1, 12), (2, 91), (3, 124), (4, 5), (5, 5), (6, 125), (7, 126), (8, 107), (9, 127), (10, 128)], 11, 48, [.one (.int .u64 0), .one (.int .u64 0), .one (.int .u32 0), .one (.int .u8 0), .one (.int .u8 0), .one (.int .u8 0), .one (.int .u8 0), .one .nilFunc, .one (.pointer none), .one (.int .i32 0), .one (.int .i32 0)], false⟩))))))))
set_option maxHeartbeats 4000000 in
theorem tt_ok : TabOk Tryd.prog tt.get := tabOk (by kernel_rfl) (by kernel_rfl) (by kernel_rfl)
theorem wide : Tryd.prog.follows .mixedOrders = true := by kernel_rfl
end Go.E.YtconjimbfhpfgaaDoor

/-
  : how the functions named here are run: made by a program.
-/
namespace Go.E.YtconjimbfhpfgaaDoor
open Go.Proofs
set_option maxRecDepth 100000
/- maund maundlaw38.AuditCuts -/
noncomputable def c3 : Cfg := ⟨Tryd.prog, tt.get, inL [], atL [(3, ⟨.op 0 .all (.op 2 .all (.op 3 .all (.op 4 .all (.op 1 .none (.op 5 .none (.op 6 .all (.op 7 .all (.nil)))))))), [0, 1, 0, 0, 12, 31, 63, 127]⟩)], inL []⟩
theorem en3 {args : List CV} {m : Mem} {R : List CV → Mem → Prop} (hlen : Nat.ble args.length Tryd.f3.ntmps = true) (h : xwp c3 (bodyOf Tryd.f3) (QRet tt.get Tryd.f3.results.toList R) ⟨initF args, [], m, []⟩) : Spec Tryd.prog 3 args m R :=
  Spec.of_body (c := c3) Tryd.func3 (by kernel_rfl) (by kernel_rfl) tt_ok wide (by kernel_rfl) hlen h
/- maund maundlaw38.AuditNobody -/
noncomputable def c4 : Cfg := ⟨Tryd.prog, tt.get, inL [4], atL [], inL []⟩
theorem en4 {args : List CV} {m : Mem} {R : List CV → Mem → Prop} (hlen : Nat.ble args.length Tryd.f4.ntmps = true) (h : xwp c4 (bodyOf Tryd.f4) (QRet tt.get Tryd.f4.results.toList R) ⟨initF args, [], m, []⟩) : Spec Tryd.prog 4 args m R :=
  Spec.of_body (c := c4) Tryd.func4 (by kernel_rfl) (by kernel_rfl) tt_ok wide (by kernel_rfl) hlen h
/- maund maundlaw38.Great -/
noncomputable def c5 : Cfg := ⟨Tryd.prog, tt.get, inL [], atL [], inL []⟩
theorem en5 {args : List CV} {m : Mem} {R : List CV → Mem → Prop} (hlen : Nat.ble args.length Tryd.f5.ntmps = true) (h : xwp c5 (bodyOf Tryd.f5) (QRet tt.get Tryd.f5.results.toList R) ⟨initF args, [], m, []⟩) : Spec Tryd.prog 5 args m R :=
  Spec.of_body (c := c5) Tryd.func5 (by kernel_rfl) (by kernel_rfl) tt_ok wide (by kernel_rfl) hlen h
/- maund maundlaw38.alive -/
noncomputable def c6 : Cfg := ⟨Tryd.prog, tt.get, inL [], atL [], inL []⟩
theorem en6 {args : List CV} {m : Mem} {R : List CV → Mem → Prop} (hlen : Nat.ble args.length Tryd.f6.ntmps = true) (h : xwp c6 (bodyOf Tryd.f6) (QRet tt.get Tryd.f6.results.toList R) ⟨initF args, [], m, []⟩) : Spec Tryd.prog 6 args m R :=
  Spec.of_body (c := c6) Tryd.func6 (by kernel_rfl) (by kernel_rfl) tt_ok wide (by kernel_rfl) hlen h
/- maund audit.Judge -/
noncomputable def c7 : Cfg := ⟨Tryd.prog, tt.get, inL [3], atL [], inL []⟩
theorem en7 {args : List CV} {m : Mem} {R : List CV → Mem → Prop} (hlen : Nat.ble args.length Tryd.f7.ntmps = true) (h : xwp c7 (bodyOf Tryd.f7) (QRet tt.get Tryd.f7.results.toList R) ⟨initF args, [], m, []⟩) : Spec Tryd.prog 7 args m R :=
  Spec.of_body (c := c7) Tryd.func7 (by kernel_rfl) (by kernel_rfl) tt_ok wide (by kernel_rfl) hlen h
/- maund audit.New -/
noncomputable def c8 : Cfg := ⟨Tryd.prog, tt.get, inL [3], atL [], inL []⟩
theorem en8 {args : List CV} {m : Mem} {R : List CV → Mem → Prop} (hlen : Nat.ble args.length Tryd.f8.ntmps = true) (h : xwp c8 (bodyOf Tryd.f8) (QRet tt.get Tryd.f8.results.toList R) ⟨initF args, [], m, []⟩) : Spec Tryd.prog 8 args m R :=
  Spec.of_body (c := c8) Tryd.func8 (by kernel_rfl) (by kernel_rfl) tt_ok wide (by kernel_rfl) hlen h
/- (*maund audit.Book).Hear -/
noncomputable def c9 : Cfg := ⟨Tryd.prog, tt.get, inL [], atL [], inL []⟩
theorem en9 {args : List CV} {m : Mem} {R : List CV → Mem → Prop} (hlen : Nat.ble args.length Tryd.f9.ntmps = true) (h : xwp c9 (bodyOf Tryd.f9) (QRet tt.get Tryd.f9.results.toList R) ⟨initF args, [], m, []⟩) : Spec Tryd.prog 9 args m R :=
  Spec.of_body (c := c9) Tryd.func9 (by kernel_rfl) (by kernel_rfl) tt_ok wide (by kernel_rfl) hlen h
/- (*maund audit.Book).Heard -/
noncomputable def c10 : Cfg := ⟨Tryd.prog, tt.get, inL [], atL [], inL []⟩
theorem en10 {args : List CV} {m : Mem} {R : List CV → Mem → Prop} (hlen : Nat.ble args.length Tryd.f10.ntmps = true) (h : xwp c10 (bodyOf Tryd.f10) (QRet tt.get Tryd.f10.results.toList R) ⟨initF args, [], m, []⟩) : Spec Tryd.prog 10 args m R :=
  Spec.of_body (c := c10) Tryd.func10 (by kernel_rfl) (by kernel_rfl) tt_ok wide (by kernel_rfl) hlen h
/- maund audit.Judge$1 -/
noncomputable def c11 : Cfg := ⟨Tryd.prog, tt.get, inL [], atL [], inL []⟩
theorem en11 {args : List CV} {m : Mem} {R : List CV → Mem → Prop} (hlen : Nat.ble args.length Tryd.f11.ntmps = true) (h : xwp c11 (bodyOf Tryd.f11) (QRet tt.get Tryd.f11.results.toList R) ⟨initF args, [], m, []⟩) : Spec Tryd.prog 11 args m R :=
  Spec.of_body (c := c11) Tryd.func11 (by kernel_rfl) (by kernel_rfl) tt_ok wide (by kernel_rfl) hlen h
/- slices.IndexFunc[[]maund audit.Entry,maund audit.Entry] -/
noncomputable def c12 : Cfg := ⟨Tryd.prog, tt.get, inL [], atL [], inL []⟩
theorem en12 {args : List CV} {m : Mem} {R : List CV → Mem → Prop} (hlen : Nat.ble args.length Tryd.f12.ntmps = true) (h : xwp c12 (bodyOf Tryd.f12) (QRet tt.get Tryd.f12.results.toList R) ⟨initF args, [], m, []⟩) : Spec Tryd.prog 12 args m R :=
  Spec.of_body (c := c12) Tryd.func12 (by kernel_rfl) (by kernel_rfl) tt_ok wide (by kernel_rfl) hlen h
/- (*maund audit.Book).fits -/
noncomputable def c13 : Cfg := ⟨Tryd.prog, tt.get, inL [], atL [], inL []⟩
theorem en13 {args : List CV} {m : Mem} {R : List CV → Mem → Prop} (hlen : Nat.ble args.length Tryd.f13.ntmps = true) (h : xwp c13 (bodyOf Tryd.f13) (QRet tt.get Tryd.f13.results.toList R) ⟨initF args, [], m, []⟩) : Spec Tryd.prog 13 args m R :=
  Spec.of_body (c := c13) Tryd.func13 (by kernel_rfl) (by kernel_rfl) tt_ok wide (by kernel_rfl) hlen h
/- maund desk.Is -/
noncomputable def c14 : Cfg := ⟨Tryd.prog, tt.get, inL [], atL [], inL []⟩
theorem en14 {args : List CV} {m : Mem} {R : List CV → Mem → Prop} (hlen : Nat.ble args.length Tryd.f14.ntmps = true) (h : xwp c14 (bodyOf Tryd.f14) (QRet tt.get Tryd.f14.results.toList R) ⟨initF args, [], m, []⟩) : Spec Tryd.prog 14 args m R :=
  Spec.of_body (c := c14) Tryd.func14 (by kernel_rfl) (by kernel_rfl) tt_ok wide (by kernel_rfl) hlen h
/- strings.Split -/
noncomputable def c15 : Cfg := ⟨Tryd.prog, tt.get, inL [], atL [], inL []⟩
theorem en15 {args : List CV} {m : Mem} {R : List CV → Mem → Prop} (hlen : Nat.ble args.length Tryd.f15.ntmps = true) (h : xwp c15 (bodyOf Tryd.f15) (QRet tt.get Tryd.f15.results.toList R) ⟨initF args, [], m, []⟩) : Spec Tryd.prog 15 args m R :=
  Spec.of_body (c := c15) Tryd.func15 (by kernel_rfl) (by kernel_rfl) tt_ok wide (by kernel_rfl) hlen h
/- maund audit.sure -/
noncomputable def c16 : Cfg := ⟨Tryd.prog, tt.get, inL [], atL [], inL []⟩
theorem en16 {args : List CV} {m : Mem} {R : List CV → Mem → Prop} (hlen : Nat.ble args.length Tryd.f16.ntmps = true) (h : xwp c16 (bodyOf Tryd.f16) (QRet tt.get Tryd.f16.results.toList R) ⟨initF args, [], m, []⟩) : Spec Tryd.prog 16 args m R :=
  Spec.of_body (c := c16) Tryd.func16 (by kernel_rfl) (by kernel_rfl) tt_ok wide (by kernel_rfl) hlen h
/- maund audit.isErr -/
noncomputable def c17 : Cfg := ⟨Tryd.prog, tt.get, inL [], atL [], inL []⟩
theorem en17 {args : List CV} {m : Mem} {R : List CV → Mem → Prop} (hlen : Nat.ble args.length Tryd.f17.ntmps = true) (h : xwp c17 (bodyOf Tryd.f17) (QRet tt.get Tryd.f17.results.toList R) ⟨initF args, [], m, []⟩) : Spec Tryd.prog 17 args m R :=
  Spec.of_body (c := c17) Tryd.func17 (by kernel_rfl) (by kernel_rfl) tt_ok wide (by kernel_rfl) hlen h
/- maund audit.numbers -/
noncomputable def c18 : Cfg := ⟨Tryd.prog, tt.get, inL [], atL [], inL []⟩
theorem en18 {args : List CV} {m : Mem} {R : List CV → Mem → Prop} (hlen : Nat.ble args.length Tryd.f18.ntmps = true) (h : xwp c18 (bodyOf Tryd.f18) (QRet tt.get Tryd.f18.results.toList R) ⟨initF args, [], m, []⟩) : Spec Tryd.prog 18 args m R :=
  Spec.of_body (c := c18) Tryd.func18 (by kernel_rfl) (by kernel_rfl) tt_ok wide (by kernel_rfl) hlen h
/- (*maund audit.Book).ok -/
noncomputable def c19 : Cfg := ⟨Tryd.prog, tt.get, inL [], atL [(20, ⟨.op 0 .all (.op 1 .all (.op 2 .all (.op 3 .all (.op 4 .all (.op 5 .all (.op 6 .all (.op 7 .all (.op 8 .all (.op 9 .all (.op 10 .all (.op 11 .all (.op 12 .all (.op 13 .all (.op 14 .all (.op 15 .all (.op 16 .all (.op 17 .all (.op 18 .all (.op 19 .all (.nil)))))))))))))))))))), [0, 1, 3, 7, 15, 31, 63, 15, 143, 399, 911, 2047, 4095, 8191, 16383, 32767, 65535, 131071, 262143, 524287]⟩)], inL []⟩
theorem en19 {args : List CV} {m : Mem} {R : List CV → Mem → Prop} (hlen : Nat.ble args.length Tryd.f19.ntmps = true) (h : xwp c19 (bodyOf Tryd.f19) (QRet tt.get Tryd.f19.results.toList R) ⟨initF args, [], m, []⟩) : Spec Tryd.prog 19 args m R :=
  Spec.of_body (c := c19) Tryd.func19 (by kernel_rfl) (by kernel_rfl) tt_ok wide (by kernel_rfl) hlen h
/- maund desk.read -/
noncomputable def c20 : Cfg := ⟨Tryd.prog, tt.get, inL [], atL [], inL []⟩
theorem en20 {args : List CV} {m : Mem} {R : List CV → Mem → Prop} (hlen : Nat.ble args.length Tryd.f20.ntmps = true) (h : xwp c20 (bodyOf Tryd.f20) (QRet tt.get Tryd.f20.results.toList R) ⟨initF args, [], m, []⟩) : Spec Tryd.prog 20 args m R :=
  Spec.of_body (c := c20) Tryd.func20 (by kernel_rfl) (by kernel_rfl) tt_ok wide (by kernel_rfl) hlen h
/- strings.genSplit -/
noncomputable def c21 : Cfg := ⟨Tryd.prog, tt.get, inL [], atL [], inL []⟩
theorem en21 {args : List CV} {m : Mem} {R : List CV → Mem → Prop} (hlen : Nat.ble args.length Tryd.f21.ntmps = true) (h : xwp c21 (bodyOf Tryd.f21) (QRet tt.get Tryd.f21.results.toList R) ⟨initF args, [], m, []⟩) : Spec Tryd.prog 21 args m R :=
  Spec.of_body (c := c21) Tryd.func21 (by kernel_rfl) (by kernel_rfl) tt_ok wide (by kernel_rfl) hlen h
/- maund audit.number -/
noncomputable def c22 : Cfg := ⟨Tryd.prog, tt.get, inL [], atL [], inL []⟩
theorem en22 {args : List CV} {m : Mem} {R : List CV → Mem → Prop} (hlen : Nat.ble args.length Tryd.f22.ntmps = true) (h : xwp c22 (bodyOf Tryd.f22) (QRet tt.get Tryd.f22.results.toList R) ⟨initF args, [], m, []⟩) : Spec Tryd.prog 22 args m R :=
  Spec.of_body (c := c22) Tryd.func22 (by kernel_rfl) (by kernel_rfl) tt_ok wide (by kernel_rfl) hlen h
/- slices.Contains[[]int,int] -/
noncomputable def c23 : Cfg := ⟨Tryd.prog, tt.get, inL [], atL [], inL []⟩
theorem en23 {args : List CV} {m : Mem} {R : List CV → Mem → Prop} (hlen : Nat.ble args.length Tryd.f23.ntmps = true) (h : xwp c23 (bodyOf Tryd.f23) (QRet tt.get Tryd.f23.results.toList R) ⟨initF args, [], m, []⟩) : Spec Tryd.prog 23 args m R :=
  Spec.of_body (c := c23) Tryd.func23 (by kernel_rfl) (by kernel_rfl) tt_ok wide (by kernel_rfl) hlen h
/- (*maund audit.Book).order -/
noncomputable def c24 : Cfg := ⟨Tryd.prog, tt.get, inL [], atL [(6, ⟨.op 0 .all (.op 1 .all (.op 2 .all (.op 3 .all (.op 4 .all (.op 5 .all (.op 6 .all (.op 7 .all (.op 8 .none (.nil))))))))), [0, 1, 3, 0, 8, 24, 63, 0, 255]⟩),
  (7, ⟨.op 0 .all (.op 1 .all (.op 2 .all (.op 3 .all (.op 4 .all (.op 5 .none (.op 6 .all (.nil))))))), [0, 1, 3, 7, 0, 31, 63]⟩),
  (8, ⟨.op 0 .all (.op 1 .all (.op 2 .all (.op 3 .all (.op 4 .all (.op 5 .all (.op 6 .all (.op 7 .all (.op 8 .none (.nil))))))))), [0, 1, 3, 7, 0, 0, 32, 96, 255]⟩)], inL []⟩
theorem en24 {args : List CV} {m : Mem} {R : List CV → Mem → Prop} (hlen : Nat.ble args.length Tryd.f24.ntmps = true) (h : xwp c24 (bodyOf Tryd.f24) (QRet tt.get Tryd.f24.results.toList R) ⟨initF args, [], m, []⟩) : Spec Tryd.prog 24 args m R :=
  Spec.of_body (c := c24) Tryd.func24 (by kernel_rfl) (by kernel_rfl) tt_ok wide (by kernel_rfl) hlen h
/- maund audit.isNode -/
noncomputable def c25 : Cfg := ⟨Tryd.prog, tt.get, inL [], atL [], inL []⟩
theorem en25 {args : List CV} {m : Mem} {R : List CV → Mem → Prop} (hlen : Nat.ble args.length Tryd.f25.ntmps = true) (h : xwp c25 (bodyOf Tryd.f25) (QRet tt.get Tryd.f25.results.toList R) ⟨initF args, [], m, []⟩) : Spec Tryd.prog 25 args m R :=
  Spec.of_body (c := c25) Tryd.func25 (by kernel_rfl) (by kernel_rfl) tt_ok wide (by kernel_rfl) hlen h
/- maund audit.rows -/
noncomputable def c26 : Cfg := ⟨Tryd.prog, tt.get, inL [], atL [], inL []⟩
theorem en26 {args : List CV} {m : Mem} {R : List CV → Mem → Prop} (hlen : Nat.ble args.length Tryd.f26.ntmps = true) (h : xwp c26 (bodyOf Tryd.f26) (QRet tt.get Tryd.f26.results.toList R) ⟨initF args, [], m, []⟩) : Spec Tryd.prog 26 args m R :=
  Spec.of_body (c := c26) Tryd.func26 (by kernel_rfl) (by kernel_rfl) tt_ok wide (by kernel_rfl) hlen h
/- maund desk.kinds -/
noncomputable def c27 : Cfg := ⟨Tryd.prog, tt.get, inL [], atL [], inL []⟩
theorem en27 {args : List CV} {m : Mem} {R : List CV → Mem → Prop} (hlen : Nat.ble args.length Tryd.f27.ntmps = true) (h : xwp c27 (bodyOf Tryd.f27) (QRet tt.get Tryd.f27.results.toList R) ⟨initF args, [], m, []⟩) : Spec Tryd.prog 27 args m R :=
  Spec.of_body (c := c27) Tryd.func27 (by kernel_rfl) (by kernel_rfl) tt_ok wide (by kernel_rfl) hlen h
/- maund key.Right -/
noncomputable def c28 : Cfg := ⟨Tryd.prog, tt.get, inL [], atL [], inL []⟩
theorem en28 {args : List CV} {m : Mem} {R : List CV → Mem → Prop} (hlen : Nat.ble args.length Tryd.f28.ntmps = true) (h : xwp c28 (bodyOf Tryd.f28) (QRet tt.get Tryd.f28.results.toList R) ⟨initF args, [], m, []⟩) : Spec Tryd.prog 28 args m R :=
  Spec.of_body (c := c28) Tryd.func28 (by kernel_rfl) (by kernel_rfl) tt_ok wide (by kernel_rfl) hlen h
/- maund desk.number -/
noncomputable def c29 : Cfg := ⟨Tryd.prog, tt.get, inL [], atL [], inL []⟩
theorem en29 {args : List CV} {m : Mem} {R : List CV → Mem → Prop} (hlen : Nat.ble args.length Tryd.f29.ntmps = true) (h : xwp c29 (bodyOf Tryd.f29) (QRet tt.get Tryd.f29.results.toList R) ⟨initF args, [], m, []⟩) : Spec Tryd.prog 29 args m R :=
  Spec.of_body (c := c29) Tryd.func29 (by kernel_rfl) (by kernel_rfl) tt_ok wide (by kernel_rfl) hlen h
/- strings.explode -/
noncomputable def c30 : Cfg := ⟨Tryd.prog, tt.get, inL [], atL [], inL []⟩
theorem en30 {args : List CV} {m : Mem} {R : List CV → Mem → Prop} (hlen : Nat.ble args.length Tryd.f30.ntmps = true) (h : xwp c30 (bodyOf Tryd.f30) (QRet tt.get Tryd.f30.results.toList R) ⟨initF args, [], m, []⟩) : Spec Tryd.prog 30 args m R :=
  Spec.of_body (c := c30) Tryd.func30 (by kernel_rfl) (by kernel_rfl) tt_ok wide (by kernel_rfl) hlen h
/- strings.Count -/
noncomputable def c31 : Cfg := ⟨Tryd.prog, tt.get, inL [], atL [], inL []⟩
theorem en31 {args : List CV} {m : Mem} {R : List CV → Mem → Prop} (hlen : Nat.ble args.length Tryd.f31.ntmps = true) (h : xwp c31 (bodyOf Tryd.f31) (QRet tt.get Tryd.f31.results.toList R) ⟨initF args, [], m, []⟩) : Spec Tryd.prog 31 args m R :=
  Spec.of_body (c := c31) Tryd.func31 (by kernel_rfl) (by kernel_rfl) tt_ok wide (by kernel_rfl) hlen h
/- strings.Index -/
noncomputable def c32 : Cfg := ⟨Tryd.prog, tt.get, inL [], atL [], inL []⟩
theorem en32 {args : List CV} {m : Mem} {R : List CV → Mem → Prop} (hlen : Nat.ble args.length Tryd.f32.ntmps = true) (h : xwp c32 (bodyOf Tryd.f32) (QRet tt.get Tryd.f32.results.toList R) ⟨initF args, [], m, []⟩) : Spec Tryd.prog 32 args m R :=
  Spec.of_body (c := c32) Tryd.func32 (by kernel_rfl) (by kernel_rfl) tt_ok wide (by kernel_rfl) hlen h
/- strconv.Atoi -/
noncomputable def c33 : Cfg := ⟨Tryd.prog, tt.get, inL [], atL [], inL []⟩
theorem en33 {args : List CV} {m : Mem} {R : List CV → Mem → Prop} (hlen : Nat.ble args.length Tryd.f33.ntmps = true) (h : xwp c33 (bodyOf Tryd.f33) (QRet tt.get Tryd.f33.results.toList R) ⟨initF args, [], m, []⟩) : Spec Tryd.prog 33 args m R :=
  Spec.of_body (c := c33) Tryd.func33 (by kernel_rfl) (by kernel_rfl) tt_ok wide (by kernel_rfl) hlen h
/- strconv.Itoa -/
noncomputable def c34 : Cfg := ⟨Tryd.prog, tt.get, inL [], atL [], inL []⟩
theorem en34 {args : List CV} {m : Mem} {R : List CV → Mem → Prop} (hlen : Nat.ble args.length Tryd.f34.ntmps = true) (h : xwp c34 (bodyOf Tryd.f34) (QRet tt.get Tryd.f34.results.toList R) ⟨initF args, [], m, []⟩) : Spec Tryd.prog 34 args m R :=
  Spec.of_body (c := c34) Tryd.func34 (by kernel_rfl) (by kernel_rfl) tt_ok wide (by kernel_rfl) hlen h
/- slices.Index[[]int,int] -/
noncomputable def c35 : Cfg := ⟨Tryd.prog, tt.get, inL [], atL [], inL []⟩
theorem en35 {args : List CV} {m : Mem} {R : List CV → Mem → Prop} (hlen : Nat.ble args.length Tryd.f35.ntmps = true) (h : xwp c35 (bodyOf Tryd.f35) (QRet tt.get Tryd.f35.results.toList R) ⟨initF args, [], m, []⟩) : Spec Tryd.prog 35 args m R :=
  Spec.of_body (c := c35) Tryd.func35 (by kernel_rfl) (by kernel_rfl) tt_ok wide (by kernel_rfl) hlen h
/- maund key.isByte -/
noncomputable def c36 : Cfg := ⟨Tryd.prog, tt.get, inL [], atL [], inL []⟩
theorem en36 {args : List CV} {m : Mem} {R : List CV → Mem → Prop} (hlen : Nat.ble args.length Tryd.f36.ntmps = true) (h : xwp c36 (bodyOf Tryd.f36) (QRet tt.get Tryd.f36.results.toList R) ⟨initF args, [], m, []⟩) : Spec Tryd.prog 36 args m R :=
  Spec.of_body (c := c36) Tryd.func36 (by kernel_rfl) (by kernel_rfl) tt_ok wide (by kernel_rfl) hlen h
/- unicode utf8.RuneCountInString -/
noncomputable def c37 : Cfg := ⟨Tryd.prog, tt.get, inL [], atL [], inL []⟩
theorem en37 {args : List CV} {m : Mem} {R : List CV → Mem → Prop} (hlen : Nat.ble args.length Tryd.f37.ntmps = true) (h : xwp c37 (bodyOf Tryd.f37) (QRet tt.get Tryd.f37.results.toList R) ⟨initF args, [], m, []⟩) : Spec Tryd.prog 37 args m R :=
  Spec.of_body (c := c37) Tryd.func37 (by kernel_rfl) (by kernel_rfl) tt_ok wide (by kernel_rfl) hlen h
/- unicode utf8.DecodeRuneInString -/
noncomputable def c38 : Cfg := ⟨Tryd.prog, tt.get, inL [], atL [], inL []⟩
theorem en38 {args : List CV} {m : Mem} {R : List CV → Mem → Prop} (hlen : Nat.ble args.length Tryd.f38.ntmps = true) (h : xwp c38 (bodyOf Tryd.f38) (QRet tt.get Tryd.f38.results.toList R) ⟨initF args, [], m, []⟩) : Spec Tryd.prog 38 args m R :=
  Spec.of_body (c := c38) Tryd.func38 (by kernel_rfl) (by kernel_rfl) tt_ok wide (by kernel_rfl) hlen h
/- strconv.toError -/
noncomputable def c42 : Cfg := ⟨Tryd.prog, tt.get, inL [], atL [], inL []⟩
theorem en42 {args : List CV} {m : Mem} {R : List CV → Mem → Prop} (hlen : Nat.ble args.length Tryd.f42.ntmps = true) (h : xwp c42 (bodyOf Tryd.f42) (QRet tt.get Tryd.f42.results.toList R) ⟨initF args, [], m, []⟩) : Spec Tryd.prog 42 args m R :=
  Spec.of_body (c := c42) Tryd.func42 (by kernel_rfl) (by kernel_rfl) tt_ok wide (by kernel_rfl) hlen h
/- unicode utf8.decodeRuneInStringSlow -/
noncomputable def c44 : Cfg := ⟨Tryd.prog, tt.get, inL [], atL [], inL []⟩
theorem en44 {args : List CV} {m : Mem} {R : List CV → Mem → Prop} (hlen : Nat.ble args.length Tryd.f44.ntmps = true) (h : xwp c44 (bodyOf Tryd.f44) (QRet tt.get Tryd.f44.results.toList R) ⟨initF args, [], m, []⟩) : Spec Tryd.prog 44 args m R :=
  Spec.of_body (c := c44) Tryd.func44 (by kernel_rfl) (by kernel_rfl) tt_ok wide (by kernel_rfl) hlen h
/- strconv.syntaxError -/
noncomputable def c50 : Cfg := ⟨Tryd.prog, tt.get, inL [], atL [(1, ⟨.op 0 .all (.op 1 .all (.op 3 .all (.op 2 .all (.op 4 .all (.op 5 .none (.op 6 .all (.nil))))))), [0, 0, 2, 0, 15, 31, 63]⟩)], inL []⟩
theorem en50 {args : List CV} {m : Mem} {R : List CV → Mem → Prop} (hlen : Nat.ble args.length Tryd.f50.ntmps = true) (h : xwp c50 (bodyOf Tryd.f50) (QRet tt.get Tryd.f50.results.toList R) ⟨initF args, [], m, []⟩) : Spec Tryd.prog 50 args m R :=
  Spec.of_body (c := c50) Tryd.func50 (by kernel_rfl) (by kernel_rfl) tt_ok wide (by kernel_rfl) hlen h
/- strconv.rangeError -/
noncomputable def c51 : Cfg := ⟨Tryd.prog, tt.get, inL [], atL [(1, ⟨.op 0 .all (.op 1 .all (.op 3 .all (.op 2 .all (.op 4 .all (.op 5 .none (.op 6 .all (.nil))))))), [0, 0, 2, 0, 15, 31, 63]⟩)], inL []⟩
theorem en51 {args : List CV} {m : Mem} {R : List CV → Mem → Prop} (hlen : Nat.ble args.length Tryd.f51.ntmps = true) (h : xwp c51 (bodyOf Tryd.f51) (QRet tt.get Tryd.f51.results.toList R) ⟨initF args, [], m, []⟩) : Spec Tryd.prog 51 args m R :=
  Spec.of_body (c := c51) Tryd.func51 (by kernel_rfl) (by kernel_rfl) tt_ok wide (by kernel_rfl) hlen h
/- strconv.baseError -/
noncomputable def c52 : Cfg := ⟨Tryd.prog, tt.get, inL [], atL [], inL []⟩
theorem en52 {args : List CV} {m : Mem} {R : List CV → Mem → Prop} (hlen : Nat.ble args.length Tryd.f52.ntmps = true) (h : xwp c52 (bodyOf Tryd.f52) (QRet tt.get Tryd.f52.results.toList R) ⟨initF args, [], m, []⟩) : Spec Tryd.prog 52 args m R :=
  Spec.of_body (c := c52) Tryd.func52 (by kernel_rfl) (by kernel_rfl) tt_ok wide (by kernel_rfl) hlen h
/- strconv.bitSizeError -/
noncomputable def c53 : Cfg := ⟨Tryd.prog, tt.get, inL [], atL [], inL []⟩
theorem en53 {args : List CV} {m : Mem} {R : List CV → Mem → Prop} (hlen : Nat.ble args.length Tryd.f53.ntmps = true) (h : xwp c53 (bodyOf Tryd.f53) (QRet tt.get Tryd.f53.results.toList R) ⟨initF args, [], m, []⟩) : Spec Tryd.prog 53 args m R :=
  Spec.of_body (c := c53) Tryd.func53 (by kernel_rfl) (by kernel_rfl) tt_ok wide (by kernel_rfl) hlen h
/- errors.New -/
noncomputable def c59 : Cfg := ⟨Tryd.prog, tt.get, inL [], atL [], inL []⟩
theorem en59 {args : List CV} {m : Mem} {R : List CV → Mem → Prop} (hlen : Nat.ble args.length Tryd.f59.ntmps = true) (h : xwp c59 (bodyOf Tryd.f59) (QRet tt.get Tryd.f59.results.toList R) ⟨initF args, [], m, []⟩) : Spec Tryd.prog 59 args m R :=
  Spec.of_body (c := c59) Tryd.func59 (by kernel_rfl) (by kernel_rfl) tt_ok wide (by kernel_rfl) hlen h
/- math bits.Len64 -/
noncomputable def c67 : Cfg := ⟨Tryd.prog, tt.get, inL [], atL [], inL []⟩
theorem en67 {args : List CV} {m : Mem} {R : List CV → Mem → Prop} (hlen : Nat.ble args.length Tryd.f67.ntmps = true) (h : xwp c67 (bodyOf Tryd.f67) (QRet tt.get Tryd.f67.results.toList R) ⟨initF args, [], m, []⟩) : Spec Tryd.prog 67 args m R :=
  Spec.of_body (c := c67) Tryd.func67 (by kernel_rfl) (by kernel_rfl) tt_ok wide (by kernel_rfl) hlen h
/- math bits.TrailingZeros -/
noncomputable def c70 : Cfg := ⟨Tryd.prog, tt.get, inL [], atL [], inL []⟩
theorem en70 {args : List CV} {m : Mem} {R : List CV → Mem → Prop} (hlen : Nat.ble args.length Tryd.f70.ntmps = true) (h : xwp c70 (bodyOf Tryd.f70) (QRet tt.get Tryd.f70.results.toList R) ⟨initF args, [], m, []⟩) : Spec Tryd.prog 70 args m R :=
  Spec.of_body (c := c70) Tryd.func70 (by kernel_rfl) (by kernel_rfl) tt_ok wide (by kernel_rfl) hlen h
/- math bits.TrailingZeros32 -/
noncomputable def c71 : Cfg := ⟨Tryd.prog, tt.get, inL [], atL [], inL []⟩
theorem en71 {args : List CV} {m : Mem} {R : List CV → Mem → Prop} (hlen : Nat.ble args.length Tryd.f71.ntmps = true) (h : xwp c71 (bodyOf Tryd.f71) (QRet tt.get Tryd.f71.results.toList R) ⟨initF args, [], m, []⟩) : Spec Tryd.prog 71 args m R :=
  Spec.of_body (c := c71) Tryd.func71 (by kernel_rfl) (by kernel_rfl) tt_ok wide (by kernel_rfl) hlen h
/- math bits.TrailingZeros64 -/
noncomputable def c72 : Cfg := ⟨Tryd.prog, tt.get, inL [], atL [], inL []⟩
theorem en72 {args : List CV} {m : Mem} {R : List CV → Mem → Prop} (hlen : Nat.ble args.length Tryd.f72.ntmps = true) (h : xwp c72 (bodyOf Tryd.f72) (QRet tt.get Tryd.f72.results.toList R) ⟨initF args, [], m, []⟩) : Spec Tryd.prog 72 args m R :=
  Spec.of_body (c := c72) Tryd.func72 (by kernel_rfl) (by kernel_rfl) tt_ok wide (by kernel_rfl) hlen h
end Go.E.YtconjimbfhpfgaaDoor

/-
  Small things for the contracts.
-/
namespace Go.E
abbrev u64 (n : Int) : CV := .v (.int .u64 n)
abbrev i64 (n : Int) : CV := .v (.int .i64 n)
abbrev boolV (b : Bool) : CV := .v (.bool b)
theorem xretk {P : Program} {f : FuncId} {args : List CV} {m : Mem} {r : List CV} {x : List Nat} {K : List CV → Mem → Prop} (h : Ret P f args m r) (k : K r m) : XCall P f args m fun r' m' => Kept x m m' ∧ K r' m' :=
  xret h ⟨fun _ _ => rfl, k⟩
theorem wu {n : Int} (h0 : 0 ≤ n) (h1 : n < 18446744073709551616) : IntKind.u64.wrap n = n := by rw [IntKind.wrap_u64, Int.emod_eq_of_lt h0 h1]
theorem wi {n : Int} (h0 : -9223372036854775808 ≤ n) (h1 : n < 9223372036854775808) : IntKind.i64.wrap n = n := by rw [IntKind.wrap_i64]; omega
theorem iadd {i : Nat} (h : i < 1000000000000) : IntKind.i64.wrap ((i : Int) + 1) = ((i + 1 : Nat) : Int) := by rw [wi (by omega) (by omega)]; omega
end Go.E

/-
  Bytes as numbers.
-/
namespace Go.E.YtconjimbfhpfgaaDoor
abbrev nc (l : List Nat) : List Int := l.map fun (n : Nat) => (n : Int)
theorem nc_len (l : List Nat) : (nc l).length = l.length := by simp
theorem strEq (a b : ByteArray) : (a.toList == b.toList) = decide (a = b) := by
  by_cases h : a = b
  · subst h; simp
  · rw [decide_eq_false h]
    refine beq_eq_false_iff_ne.2 fun e => h ?_
    rw [ByteArray.toList_eq, ByteArray.toList_eq] at e
    cases a; cases b
    congr 1
    exact Array.toList_inj.1 e
end Go.E.YtconjimbfhpfgaaDoor

/-
  The library's contracts for numbers and texts, of memory that is owned: strconv.Itoa, strconv.Atoi, strings.Repeat, strings.CutPrefix.
-/
namespace Go.E.YtconjimbfhpfgaaDoor
open Go.Proofs Go.RowKit
set_option maxRecDepth 100000
theorem after_below {m : Mem} {W W' : World} (hW : Over m W) (h : Below W.heap.size W W') (hd : Strict → W.drawn ≤ W'.drawn) : After m W m W' := by
  refine ⟨fun b o hb => ?_, h.size, h.tape, h.os, h.output, fun b hb hm => ⟨hm, h.block b hb⟩, hd⟩
  rw [h.block b (hW.lt hb)]; exact hW b o hb
theorem after_grow {m : Mem} {W : World} (hW : Over m W) (k : Nat) (os : Array Obj) : After m W m (Sort.grow (W.drewN k) os) := by
  have e : ∀ b, b < W.heap.size → (Sort.grow (W.drewN k) os).heap[b]? = W.heap[b]? := fun b hb => by
    show (W.heap ++ os)[b]? = _
    rw [Array.getElem?_append_left hb]
  refine ⟨fun b o hb => ?_, ?_, rfl, rfl, rfl, fun b hb hm => ⟨hm, e b hb⟩, fun _ => Nat.le_add_right _ _⟩
  · rw [e b (hW.lt hb)]; exact hW b o hb
  · show W.heap.size ≤ (W.heap ++ os).size
    rw [Array.size_append]; omega
theorem after_same {m : Mem} {W W' : World} (hW : Over m W) (h : W' = W) : After m W m W' := by subst h; exact After.refl hW
theorem enters_fn {f : FuncId} {fn : Func} (h1 : Tryd.prog.funcs[f]? = some fn) (h2 : (fn.name == "runtime.NumGoroutine") = false) (h3 : fn.body.isSome = true) : Enters Tryd.prog f := fun args w => by
  obtain ⟨c, h3⟩ := Option.isSome_iff_exists.1 h3
  have hn' : ¬ fn.name = "runtime.NumGoroutine" := by simpa using h2
  simp [callFunc, h1, h3, hn']
/-- the package variables that the library reads -/
structure Glob (m : Mem) : Prop where
  syn : ∃ tp p T fr, m 3 = some (.cells #[.iface tp p] T fr)
  rng : ∃ tp p T fr, m 4 = some (.cells #[.iface tp p] T fr)
  tab : ∃ T fr, m 5 = some (.cells (Lib.pow10Tab.map fun z => Value.int .u64 z).toArray T fr)
theorem Glob.sub {m m' : Mem} (h : Glob m) (hs : Sub m m') : Glob m' := by
  obtain ⟨⟨a, b, c, d, h1⟩, ⟨a', b', c', d', h2⟩, ⟨e, f, h3⟩⟩ := h
  exact ⟨⟨a, b, c, d, hs _ _ h1⟩, ⟨a', b', c', d', hs _ _ h2⟩, ⟨e, f, hs _ _ h3⟩⟩
theorem gSyn : Tryd.prog.globalNamed "strconv.ErrSyntax" = some 3 := by kernel_rfl
theorem gRng : Tryd.prog.globalNamed "strconv.ErrRange" = some 4 := by kernel_rfl
theorem gTab : Tryd.prog.globalNamed "internal/strconv.uint64pow10" = some 5 := by kernel_rfl
theorem varOf {m : Mem} {W : World} (hW : Over m W) {name : String} {g : Nat} {cs : Array Value} {T : TypeId} {fr : Nat × Nat} (hg : Tryd.prog.globalNamed name = some g) (h : m g = some (.cells cs T fr)) : W.var? Tryd.prog name = some cs := by
  unfold World.var?
  rw [hg]
  simp only [Option.bind_some, hW _ _ h]
theorem itoa_spec {m : Mem} (hg : Glob m) {n : Int} (h0 : -9223372036854775808 ≤ n) (h1 : n ≤ 9223372036854775807) : Ret Tryd.prog 34 [.v (.int .i64 n)] m [.v (.string ⟨(Lib.itoa n).toArray⟩)] := by
  obtain ⟨T, fr, ht⟩ := hg.tab
  refine ⟨enters_fn Tryd.func34 (by kernel_rfl) (by kernel_rfl), fun _ W hW => ?_⟩
  exact (Tryd.strconv_Itoa n h0 h1 W (varOf hW gTab ht)).mono fun e W' ⟨h2, k, os, h3⟩ => ⟨[.v (.string ⟨(Lib.itoa n).toArray⟩)], m, h2, by intro x hx; simp at hx; subst hx; rfl, ⟨rfl, rfl⟩, by subst h3; exact after_grow hW k os⟩
/-- how Atoi ends -/
def AtoiR (s : ByteArray) (r : List CV) : Prop := match Lib.atoiAll s.data.toList with
  | .ok v => r = [.v (.int .i64 v), .v .nilIface]
  | _ => ∃ n te pe, r = [.v (.int .i64 n), .v (.iface te pe)]
theorem atoi_spec {m : Mem} (hg : Glob m) {s : ByteArray} (hs : s.size ≤ 1000000) : Spec Tryd.prog 33 [.v (.string s)] m fun r m' => AtoiR s r ∧ m' = m := by
  obtain ⟨tp, p, T, fr, h1⟩ := hg.syn
  obtain ⟨tp', p', T', fr', h2⟩ := hg.rng
  refine ⟨enters_fn Tryd.func33 (by kernel_rfl) (by kernel_rfl), fun _ W hW => ?_⟩
  unfold AtoiR
  cases h : Lib.atoiAll s.data.toList with
  | ok v =>
    refine (Tryd.strconv_Atoi_ok s (by omega) v h W).mono fun e W' ⟨e1, e2⟩ => ⟨[.v (.int .i64 v), .v .nilIface], m, e1, by intro x hx; simp at hx; rcases hx with rfl | rfl <;> rfl, ⟨rfl, rfl⟩, ?_⟩
    rcases e2 with rfl | ⟨t, rfl⟩
    · exact After.refl hW
    · exact after_below hW (Lib.bytesWorld_below _ _ _) (fun _ => Nat.le_succ _)
  | range =>
    refine (Tryd.strconv_Atoi_range_var s (by omega) h tp' p' W (varOf hW gRng h2)).mono fun e W' ⟨N, e1, _, _, e2⟩ => ⟨[.v (.int .i64 _), .v (.iface _ (.pointer (some ⟨N, 0, none⟩)))], m, e1, by intro x hx; simp at hx; rcases hx with rfl | rfl <;> rfl, ⟨⟨_, _, _, rfl⟩, rfl⟩, after_below hW e2 (fun s => s.elim)⟩
  | _ =>
    refine (Tryd.strconv_Atoi_syntax_var s (by omega) h tp p W (varOf hW gSyn h1)).mono fun e W' ⟨N, e1, _, _, e2⟩ => ⟨[.v (.int .i64 0), .v (.iface _ (.pointer (some ⟨N, 0, none⟩)))], m, e1, by intro x hx; simp at hx; rcases hx with rfl | rfl <;> rfl, ⟨⟨_, _, _, rfl⟩, rfl⟩, after_below hW e2 (fun s => s.elim)⟩
end Go.E.YtconjimbfhpfgaaDoor

/-
  Bytes: what is owned, appended.
-/
namespace Go.E.YtconjimbfhpfgaaDoor
open Go.Proofs
set_option maxRecDepth 100000

theorem Own.store {p : Mem} {e : TypeId} {b o n c k : Nat} {l : List Value} {x : Value} (h : Own p e 1 (.slice (some ⟨b, o, none⟩) n c) l) (hk : k < l.length) (hx : x.oneCell' = true) :
    ∃ arr, p b = some (.cells arr e (0, 0)) ∧ o + k < arr.size ∧ Own (p.set b (.cells (arr.setIfInBounds (o + k) x) e (0, 0))) e 1 (.slice (some ⟨b, o, none⟩) n c) (l.set k x) := by
  rcases h with ⟨h, _⟩ | ⟨b', o', c', n', arr, h, h1, h2, h3, h4, h5, h6⟩
  · cases h
  · cases h
    rw [Nat.mul_one] at h2 h4
    refine ⟨arr, h1, by omega, .inr ⟨b, o, c, n, _, rfl, Mem.set_same .., by simp; omega, h3, by simp; omega, fun j u hu => ?_, fun u hu => ?_⟩⟩
    · rw [List.getElem?_set] at hu
      rw [Array.getElem?_setIfInBounds]
      by_cases e : k = j
      · subst e
        rw [if_pos rfl, if_pos hk] at hu
        cases hu
        rw [if_pos rfl, if_pos (by omega)]
      · rw [if_neg e] at hu
        rw [if_neg (by omega)]
        exact h5 j u hu
    · rcases List.mem_or_eq_of_mem_set hu with hu | rfl
      · exact h6 u hu
      · exact hx
/-- bytes that are owned -/
def Bs (m : Mem) (v : Value) (l : List Int) : Prop := Own m 5 1 v (bc l)
theorem Bs.lb {p : Mem} {v : Value} {l : List Int} (h : Bs p v l) : Lb p v l := Own.lies h
theorem Bs.len {p : Mem} {v : Value} {l : List Int} (h : Bs p v l) : lenV v = l.length := h.lb.len
theorem Bs.sub {m m' : Mem} {v : Value} {l : List Int} (h : Bs m v l) (hs : Sub m m') : Bs m' v l := Own.sub h hs
theorem Bs.keep {m m' : Mem} {v : Value} {l : List Int} (h : Bs m v l) (hs : ∀ b, blkV v = some b → m' b = m b) : Bs m' v l := Own.keep h hs
theorem Bs.store {p : Mem} {b o n c k : Nat} {l : List Int} {x : Int} (h : Bs p (.slice (some ⟨b, o, none⟩) n c) l) (hk : k < l.length) :
    ∃ arr, p b = some (.cells arr 5 (0, 0)) ∧ o + k < arr.size ∧ Bs (p.set b (.cells (arr.setIfInBounds (o + k) (.int .u8 x)) 5 (0, 0))) (.slice (some ⟨b, o, none⟩) n c) (l.set k x) := by
  obtain ⟨arr, h1, h2, h3⟩ := Own.store (k := k) (x := .int .u8 x) h (by simpa [bc] using hk) rfl
  refine ⟨arr, h1, h2, ?_⟩
  rw [show (bc l).set k (.int .u8 x) = bc (l.set k x) by simp [bc, List.map_set]] at h3
  exact h3
theorem Bs.nil (m : Mem) : Bs m (.slice none 0 0) [] := .inl ⟨rfl, rfl⟩
theorem Bs.blk {m : Mem} {b : Nat} {l : List Int} {n : Nat} (hb : m b = some (.cells (bc l).toArray 5)) (hn : l.length = n) : Bs m (.slice (some ⟨b, 0, none⟩) n n) l := by
  subst hn
  refine .inr ⟨b, 0, l.length, l.length, _, rfl, hb, by simp [bc], Nat.le_refl _, by simp [bc], ?_, bc_one⟩
  intro j u hu; rw [Nat.zero_add, List.getElem?_toArray]; exact hu
theorem hU8 : tt.get 5 = some ⟨.int .u8, 1, 1, [.one (.int .u8 0)], false⟩ := by rfl
theorem hBs : tt.get 80 = some ⟨.slice 5, 1, 24, [.one (.slice none 0 0)], false⟩ := by rfl
/-- what an append of bytes leaves -/
structure BApd (m : Mem) (v : Value) (l : List Int) (v' : Value) (m' : Mem) : Prop where
  own : Bs m' v' l
  keep : ∀ b o, m b = some o → blkV v ≠ some b → m' b = some o
  new : ∀ b, blkV v' = some b → blkV v = some b ∨ m b = none
theorem appendB {m : Mem} {v x : Value} {l news : List Int} (hv : Bs m v l) (hg : La m x news) (hb : l.length + news.length ≤ 1000000000) :
    PrimSpec Tryd.prog (.builtin .append [80, 80]) [.v v, .v x] m fun r m' => ∃ v', r = [.v v'] ∧ BApd m v (l ++ news) v' m' := by
  have e1 := hv.len
  have e2 := hg.len
  refine (append_spec tt_ok hBs rfl hU8 hBs rfl hv hg.gives (by rw [e1, e2]; simp only; omega) (by rw [e1, e2]; omega)).mono fun r m' ⟨v', h1, h2⟩ => ⟨v', h1, ?_⟩
  rw [← bc_append] at h2
  exact ⟨h2.own, h2.keep, h2.new⟩
theorem appendBat {m p : Mem} {ls : List Mem} {i : Nat} {v x : Value} {l news : List Int} (hs : Split m ls) (hi : ls[i]? = some p) (hv : Bs p v l) (hg : La m x news) (hb : l.length + news.length ≤ 1000000000) :
    PrimSpec Tryd.prog (.builtin .append [80, 80]) [.v v, .v x] m fun r m' => ∃ v' p', r = [.v v'] ∧ Split m' (ls.set i p') ∧ BApd p v (l ++ news) v' p' := by
  have e1 := hv.len
  have e2 := hg.len
  refine (append_at tt_ok hBs rfl hU8 hBs rfl hs hi hv hg.gives (by rw [e1, e2]; simp only; omega) (by rw [e1, e2]; omega)).mono fun r m' ⟨v', p', h1, h2, h3⟩ => ⟨v', p', h1, h2, ?_⟩
  rw [← bc_append] at h3
  exact ⟨h3.own, h3.keep, h3.new⟩
theorem build1 {m : Mem} {x : Int} : PrimSpec Tryd.prog (.buildSlice 80 1 [0]) [.v (.int .u8 x)] m fun r m' => ∃ b, m b = none ∧ r = [.v (.slice (some ⟨b, 0, none⟩) 1 1)] ∧ m' = m.set b (.cells (bc [x]).toArray 5) :=
  buildSlice_spec (n := 1) tt_ok hBs rfl hU8 rfl rfl (by simp [CV.cs]) (by simp) (by simp)
theorem build2 {m : Mem} {x y : Int} : PrimSpec Tryd.prog (.buildSlice 80 2 [0, 1]) [.v (.int .u8 x), .v (.int .u8 y)] m fun r m' => ∃ b, m b = none ∧ r = [.v (.slice (some ⟨b, 0, none⟩) 2 2)] ∧ m' = m.set b (.cells (bc [x, y]).toArray 5) :=
  buildSlice_spec (n := 2) tt_ok hBs rfl hU8 rfl rfl (by simp [CV.cs]) (by simp) (by simp)
theorem build3 {m : Mem} {x y z : Int} : PrimSpec Tryd.prog (.buildSlice 80 3 [0, 1, 2]) [.v (.int .u8 x), .v (.int .u8 y), .v (.int .u8 z)] m fun r m' => ∃ b, m b = none ∧ r = [.v (.slice (some ⟨b, 0, none⟩) 3 3)] ∧ m' = m.set b (.cells (bc [x, y, z]).toArray 5) :=
  buildSlice_spec (n := 3) tt_ok hBs rfl hU8 rfl rfl (by simp [CV.cs]) (by simp) (by simp)
theorem conv_spec {m : Mem} {b n c : Nat} {l : List Int} (hb : m b = some (.cells (bc l).toArray 5)) : PrimSpec Tryd.prog (.conv 80 80) [.v (.slice (some ⟨b, 0, none⟩) n c)] m fun r m' => r = [.v (.slice (some ⟨b, 0, none⟩) n c)] ∧ m' = m.set b (.cells (bc l).toArray 5 ((bc l).toArray.size, (bc l).toArray.size + 1)) :=
  convConst_spec tt_ok hBs rfl hU8 rfl hb
theorem Bs.none0 {m : Mem} {b : Nat} (hb : m b = some (.cells #[] 5)) : Bs m (.slice (some ⟨b, 0, none⟩) 0 0) [] := Bs.blk (l := []) (by simpa [bc] using hb) rfl
theorem buildB0 {m : Mem} : PrimSpec Tryd.prog (.buildSlice 80 0 []) [] m fun r m' => ∃ b, m b = none ∧ r = [.v (.slice (some ⟨b, 0, none⟩) 0 0)] ∧ m' = m.set b (.cells #[] 5) :=
  buildSlice0_spec tt_ok hBs rfl hU8
theorem Lb.blk {m : Mem} {b : Nat} {l : List Int} {n : Nat} (hb : m b = some (.cells (bc l).toArray 5)) (hn : l.length = n) : Lb m (.slice (some ⟨b, 0, none⟩) n n) l := (Bs.blk hb hn).lb
/-- one byte more -/
theorem Bs.one {m : Mem} {ls : List Mem} {p : Mem} {b' : Nat} {y : Int} (hs : Split m (p :: ls)) (hb : m b' = none) {x : Value} {l : List Int} (hx : Bs p x l) (hl : l.length ≤ 100000000) :
    PrimSpec Tryd.prog (.builtin .append [80, 80]) [.v x, .v (.slice (some ⟨b', 0, none⟩) 1 1)] (m.set b' (.cells (bc [y]).toArray 5)) fun r m' => ∃ v' p', r = [.v v'] ∧ Split m' (p' :: ls) ∧ Bs p' v' (l ++ [y]) := by
  have hs1 := hs.new hb (.cells (bc [y]).toArray 5)
  refine (appendBat (i := 1) hs1 rfl hx (Lb.blk (l := [y]) (Mem.set_same ..) rfl).la (by simp; omega)).mono fun r m' ⟨v', p', h1, h2, h3⟩ => ⟨v', p', h1, h2.erase 0, h3.own⟩
/-- one byte, onto a slice: both operations' memory -/
theorem push_mem {m m' : Mem} {b' : Nat} {o : Obj} {v v' : Value} {l : List Int} (hb : m b' = none) (h : BApd (m.set b' o) v l v' m') : BApd m v l v' m' :=
  ⟨h.own, fun b u hm hn => h.keep b u (Mem.sub_set _ hb _ _ hm) hn, fun b hv => (h.new b hv).imp id fun hx => by
    by_cases e : b = b'
    · subst e; exact hb
    · rw [Mem.set_ne _ _ e] at hx; exact hx⟩
theorem Lb.own {m : Mem} {v : Value} {l : List Int} (h : Lb m v l) : (∃ c, v = .slice none 0 c) ∨ ∃ a c, v = .slice (some a) l.length c := by
  rcases h.cases with ⟨c, rfl, _⟩ | ⟨b, o, c, arr, t, fr, rfl, _⟩
  · exact .inl ⟨c, rfl⟩
  · exact .inr ⟨_, c, rfl⟩
end Go.E.YtconjimbfhpfgaaDoor

/-
  Bytes: room made; lists of bytes, one behind the other.
-/
namespace Go.E.YtconjimbfhpfgaaDoor
open Go.Proofs
set_option maxRecDepth 100000
theorem hI : tt.get 3 = some ⟨.int .i64, 1, 8, [.one (.int .i64 0)], false⟩ := by rfl
/-- a list of bytes -/
structure Lists (m : Mem) (v : Value) (ps : List (Value × List Int)) : Prop where
  lies : Lies m 1 v (ps.map (·.1))
  la : ∀ p ∈ ps, La m p.1 p.2
theorem Lists.sub {m m' : Mem} {v : Value} {ps : List (Value × List Int)} (h : Lists m v ps) (hs : Sub m m') : Lists m' v ps := ⟨h.lies.sub hs, fun p hp => (h.la p hp).sub hs⟩
theorem Lists.shape {m : Mem} {v : Value} {ps : List (Value × List Int)} (h : Lists m v ps) : ∃ a c, v = .slice a ps.length c := by
  rcases h.lies with ⟨c, rfl, e⟩ | ⟨b, o, c, n, arr, t, fr, rfl, _, e, _⟩
  · have : ps.length = 0 := by simpa using congrArg List.length e
    exact ⟨none, c, by rw [this]⟩
  · have : ps.length = n := by simpa using e
    exact ⟨_, c, by rw [this]⟩
theorem Lists.real {m : Mem} {v : Value} {ps : List (Value × List Int)} (h : Lists m v ps) {i : Nat} (hi : i < ps.length) : ∃ b o c, v = .slice (some ⟨b, o, none⟩) ps.length c ∧ ∀ (i : Nat) (hi : i < ps.length), mcell m b (o + i) = some ps[i].1 := by
  rcases h.lies with ⟨c, rfl, e⟩ | ⟨b, o, c, n, arr, t, fr, rfl, g1, e, _, g2, _⟩
  · have : ps.length = 0 := by simpa using congrArg List.length e
    omega
  · have : ps.length = n := by simpa using e
    exact ⟨b, o, c, by rw [this], fun j hj => mcell_of g1 (g2 j _ (by simp [hj]))⟩
def catB (ps : List (Value × List Int)) : List Int := (ps.map (·.2)).flatten
theorem catB_take {ps : List (Value × List Int)} {i : Nat} (h : i < ps.length) : catB (ps.take i) ++ ps[i].2 = catB (ps.take (i + 1)) := by
  rw [List.take_succ_eq_append_getElem h, catB, catB, List.map_append, List.flatten_append]; simp
theorem catB_le {ps : List (Value × List Int)} (i : Nat) : (catB (ps.take i)).length ≤ (catB ps).length := by
  have e : catB ps = catB (ps.take i) ++ catB (ps.drop i) := by
    rw [catB, catB, catB, ← List.flatten_append, ← List.map_append, List.take_append_drop]
  rw [e, List.length_append]; omega
theorem iadd' {i : Nat} (h : i < 1000000000000) : IntKind.i64.wrap ((i : Int) + 1) = ((i + 1 : Nat) : Int) := by rw [wi (by omega) (by omega)]; omega
theorem Lists.blk {m : Mem} {b n : Nat} {ps : List (Value × List Int)} {t : TypeId} {fr : Nat × Nat} (h : m b = some (.cells (ps.map (·.1)).toArray t fr)) (hn : ps.length = n) (hl : ∀ p ∈ ps, La m p.1 p.2) : Lists m (.slice (some ⟨b, 0, none⟩) n n) ps := by
  refine ⟨.inr ⟨b, 0, n, n, _, _, _, rfl, h, by simp [hn], Nat.le_refl _, fun j u hu => by simpa using hu, fun u hu => ?_⟩, fun p hp => hl p hp⟩
  obtain ⟨p, hp, rfl⟩ := List.mem_map.1 hu
  exact (hl p hp).one
theorem Lists.one {m : Mem} {b : Nat} {v : Value} {l : List Int} {t : TypeId} {fr : Nat × Nat} (h : m b = some (.cells #[v] t fr)) (hl : La m v l) : Lists m (.slice (some ⟨b, 0, none⟩) 1 1) [(v, l)] :=
  Lists.blk (ps := [(v, l)]) h rfl (by simpa using hl)
theorem Lists.two {m : Mem} {b : Nat} {v w : Value} {l k : List Int} {t : TypeId} {fr : Nat × Nat} (h : m b = some (.cells #[v, w] t fr)) (hl : La m v l) (hk : La m w k) : Lists m (.slice (some ⟨b, 0, none⟩) 2 2) [(v, l), (w, k)] :=
  Lists.blk (ps := [(v, l), (w, k)]) h rfl (by simpa using ⟨hl, hk⟩)
theorem Lists.three {m : Mem} {b : Nat} {v w u : Value} {l k j : List Int} {t : TypeId} {fr : Nat × Nat} (h : m b = some (.cells #[v, w, u] t fr)) (hl : La m v l) (hk : La m w k) (hj : La m u j) : Lists m (.slice (some ⟨b, 0, none⟩) 3 3) [(v, l), (w, k), (u, j)] :=
  Lists.blk (ps := [(v, l), (w, k), (u, j)]) h rfl (by simpa using ⟨hl, hk, hj⟩)
theorem Lists.own {m p : Mem} {y : Value} {ps : List (Value × List Int)} (hy : Own p 80 1 y (ps.map (·.1))) (hs : Sub p m) (hl : ∀ q ∈ ps, La m q.1 q.2) : Lists m y ps :=
  ⟨hy.lies.sub hs, fun q hq => hl q hq⟩
end Go.E.YtconjimbfhpfgaaDoor

/-
  A range over a map: whatever order it goes in.
-/
namespace Go.E
section
variable {P : Program} {α : Type} {enc : α → Value}
/-- an iterator over the map b, that has been at these entries -/
def iterO (b clock : Nat) (vis : List Nat) : Obj := .mapIter (some b) clock vis.toArray clock
def leftM (vis : List Nat) (es : List (Men α)) : List (Men α) := es.filter fun e => !vis.contains e.b
theorem rangeM_spec {mt kt et : TypeId} (hm : P.underlying mt = some (.map kt et)) {m : Mem} {b clock : Nat} {es : List (Men α)} (hb : m b = some (mapO enc es clock)) :
    PrimSpec P (.range mt) [.v (.map (some b))] m fun r m' => ∃ it, m it = none ∧ r = [.v (.pointer (some ⟨it, 0, none⟩))] ∧ m' = m.set it (iterO b clock []) := by
  intro _ ty W hW
  refine ⟨[.v (.pointer (some ⟨W.heap.size, 0, none⟩))], _, _, ?_, (by intro y hy; simp at hy; subst hy; rfl), ⟨W.heap.size, hW.none (Nat.le_refl _), rfl, rfl⟩, (After.refl hW).alloc (iterO b clock [])⟩
  simp [Prim.run, Prim.out, Prim.tup, resVal, CV.val, Instr.range, run_underlying hm, MapKept.run_getObj_map (hW _ _ hb), mapO, newObj, Sem.run, Result.andThen, iterO]
theorem rangeM_nil {mt kt et : TypeId} (hm : P.underlying mt = some (.map kt et)) {m : Mem} :
    PrimSpec P (.range mt) [.v (.map none)] m fun r m' => ∃ it, m it = none ∧ r = [.v (.pointer (some ⟨it, 0, none⟩))] ∧ m' = m.set it (.mapIter none 0 #[] 0) := by
  intro _ ty W hW
  refine ⟨[.v (.pointer (some ⟨W.heap.size, 0, none⟩))], _, _, ?_, (by intro y hy; simp at hy; subst hy; rfl), ⟨W.heap.size, hW.none (Nat.le_refl _), rfl, rfl⟩, (After.refl hW).alloc (.mapIter none 0 #[] 0)⟩
  simp [Prim.run, Prim.out, Prim.tup, resVal, CV.val, Instr.range, run_underlying hm, newObj, Sem.run, Result.andThen]
theorem nextM_nil {m : Mem} {it : Nat} (hit : m it = some (.mapIter none 0 #[] 0)) : PrimSpec P (.next false) [.v (.pointer (some ⟨it, 0, none⟩))] m fun r m' => r = [.v (.bool false)] ∧ m' = m := by
  intro _ ty W hW
  have hWi := hW _ _ hit
  refine ⟨[.v (.bool false)], m, W, ?_, (by intro y hy; simp at hy; subst hy; rfl), ⟨rfl, rfl⟩, After.refl hW⟩
  simp [Prim.run, Prim.out, Prim.tup, CV.val, Instr.next, getObj, Sem.run, hWi, Result.andThen]
theorem nextM_spec {m : Mem} {it b clock : Nat} {vis : List Nat} {es : List (Men α)} (hit : m it = some (iterO b clock vis)) (hb : m b = some (mapO enc es clock)) (hborn : ∀ e ∈ es, e.b < clock) (hok : ∀ e ∈ es, e.v.ok) (hone : ∀ a, (enc a).oneCell' = true) :
    PrimSpec P (.next false) [.v (.pointer (some ⟨it, 0, none⟩))] m fun r m' => (leftM vis es = [] ∧ r = [.v (.bool false)] ∧ m' = m) ∨ ∃ e, e ∈ leftM vis es ∧ r = [.v (.bool true), .v (enc e.k), e.v] ∧ m' = m.set it (iterO b clock (vis ++ [e.b])) := by
  intro _ ty W hW
  have hWi := hW _ _ hit
  have hWb := hW _ _ hb
  -- what is left
  have e1 : ((es.map (Men.entry enc)).toArray.filter fun e => !vis.toArray.contains e.born) = ((leftM vis es).map (Men.entry enc)).toArray := by
    simp only [List.filter_toArray, List.filter_map, leftM]
    congr 2
    exact List.filter_congr fun e _ => by simp [Men.entry]; exact decide_eq_decide.2 Iff.rfl
  have e2 : (((leftM vis es).map (Men.entry enc)).toArray.filter fun e => decide (e.born < clock)) = ((leftM vis es).map (Men.entry enc)).toArray := by
    simp only [List.filter_toArray]
    congr 1
    rw [List.filter_eq_self]
    intro x hx
    obtain ⟨e, he, rfl⟩ := List.mem_map.1 hx
    exact decide_eq_true (hborn e (List.mem_filter.1 he).1)
  have e3 : (((leftM vis es).map (Men.entry enc)).toArray.filter fun e => decide (e.born ≥ clock)) = #[] := by
    simp only [List.filter_toArray]
    have : ((leftM vis es).map (Men.entry enc)).filter (fun e => decide (e.born ≥ clock)) = [] := by
      rw [List.filter_eq_nil_iff]
      intro x hx
      obtain ⟨e, he, rfl⟩ := List.mem_map.1 hx
      have := hborn e (List.mem_filter.1 he).1
      intro h
      have h := of_decide_eq_true h
      simp only [Men.entry] at h; omega
    rw [this]
  have e4 : (!vis.toArray.isEmpty && !(es.map (Men.entry enc)).toArray.isEmpty && (es.map (Men.entry enc)).toArray.all fun e => decide (e.born ≥ clock)) = false := by
    cases es with
    | nil => simp
    | cons e es =>
      have h0 := hborn e (by simp)
      have : ((e :: es).map (Men.entry enc)).toArray.all (fun e => decide (e.born ≥ clock)) = false := by
        simp only [List.all_toArray, List.map_cons, List.all_cons, Men.entry]
        rw [decide_eq_false (show ¬ e.b ≥ clock by omega)]; rfl
      rw [this, Bool.and_false]
  have e5 : (Sem.run P (getObj it) W) = .ok (iterO b clock vis) W := by simp [getObj, Sem.run, hWi, iterO]
  cases hl : leftM vis es with
  | nil =>
    rw [hl] at e1 e2 e3
    refine ⟨[.v (.bool false)], m, W, ?_, (by intro y hy; simp at hy; subst hy; rfl), .inl ⟨rfl, rfl, rfl⟩, After.refl hW⟩
    simp only [Prim.run, List.map_cons, List.map_nil, CV.val, Instr.next, Sem.run_bind, e5, Result.andThen_ok, iterO, MapKept.run_getObj_map hWb, mapO, e4, Bool.false_eq_true, if_false, e1, List.map_nil]
    simp [Question.forced, Prim.out, Prim.tup, CV.val]
  | cons e0 es' =>
    have hpos : 0 < (leftM vis es).length := by rw [hl]; simp
    -- which one comes
    have key : ∀ (i : Nat) (W1 : World) (hi : i < (leftM vis es).length), W1.heap = W.heap → After m W m W1 →
        ∃ r m' W', (do
          setObj it (.mapIter (some b) clock (vis.toArray.push ((leftM vis es)[i]).b) clock)
          pure (.tuple #[.bool true, enc ((leftM vis es)[i]).k, ((leftM vis es)[i]).v.val] : Value) : Sem Value).run P W1 = .ok ((Prim.next false).out r) W' ∧ (∀ x ∈ r, x.ok) ∧
          ((leftM vis es = [] ∧ r = [.v (.bool false)] ∧ m' = m) ∨ ∃ e, e ∈ leftM vis es ∧ r = [.v (.bool true), .v (enc e.k), e.v] ∧ m' = m.set it (iterO b clock (vis ++ [e.b]))) ∧ After m W m' W' := by
      intro i W1 hi hheap haft
      have hW1 : Over m W1 := haft.over
      have hm1 := List.getElem_mem hi
      generalize (leftM vis es)[i] = e at hm1
      refine ⟨[.v (.bool true), .v (enc e.k), e.v], _, _, ?_, ?_, .inr ⟨e, hm1, rfl, rfl⟩, haft.trans (After.put hW1 hit _)⟩
      · simp [setObj, Sem.run, hheap, hWi, iterO, Result.andThen, Prim.out, Prim.tup, CV.val]
      · intro y hy
        simp only [List.mem_cons, List.not_mem_nil, or_false] at hy
        rcases hy with rfl | rfl | rfl
        · rfl
        · exact hone _
        · exact hok _ (List.mem_filter.1 hm1).1
    rw [← hl]
    have hne : ((leftM vis es).map (Men.entry enc)).toArray.isEmpty = false := by rw [hl]; simp
    have hsz : (((leftM vis es).map (Men.entry enc)).toArray.map some).size = (leftM vis es).length := by simp
    have hgo : (Instr.next (.pointer (some ⟨it, 0, none⟩)) false ty).run P W = ((choose (.mapNext (leftM vis es).length)).run P W).andThen fun i W1 => (match (((leftM vis es).map (Men.entry enc)).toArray.map some)[i]? with
        | some (some e) => (do setObj it (.mapIter (some b) clock (vis.toArray.push e.born) clock); pure (.tuple #[.bool true, e.key, e.val]) : Sem Value)
        | some none => pure (.tuple #[.bool false])
        | none => stuck "Next: no such candidate").run P W1 := by
      simp only [Instr.next, Sem.run_bind, e5, Result.andThen_ok, iterO, MapKept.run_getObj_map hWb, mapO, e4, Bool.false_eq_true, if_false, e1, e2, e3, hne, Array.append_empty, Array.empty_append, hsz]
      rfl
    have hpick : ∀ i (hi : i < (leftM vis es).length), (((leftM vis es).map (Men.entry enc)).toArray.map some)[i]? = some (some (Men.entry enc (leftM vis es)[i])) := fun i hi => by
      simp [hi]
    have hrun : ∀ a, (Prim.run (.next false) ty [a]) = Instr.next a false ty := fun a => rfl
    simp only [List.map_cons, List.map_nil, CV.val, hrun, hgo, run_choose]
    by_cases hf : (Question.mapNext (leftM vis es).length).forced = true
    · rw [if_pos hf]
      simp only [Result.andThen_ok, hpick 0 hpos]
      exact key 0 W hpos rfl (After.refl hW)
    · rw [if_neg hf]
      have hlt : (Question.mapNext (leftM vis es).length).cut (W.tape W.drawn (.mapNext (leftM vis es).length)) < (leftM vis es).length := Nat.mod_lt _ hpos
      simp only [Result.andThen_ok, hpick _ hlt]
      exact key _ _ hlt rfl (After.refl hW).drew
theorem entryM_spec {m : Mem} {it b clock : Nat} {vis : List Nat} {es : List (Men α)} {e : Men α} (hit : m it = some (iterO b clock (vis ++ [e.b]))) (hb : m b = some (mapO enc es clock)) (he : e ∈ es) (hd : es.Pairwise fun x y => x.b ≠ y.b) (hok : e.v.ok) (hone : (enc e.k).oneCell' = true) :
    PrimSpec P .entry [.v (.pointer (some ⟨it, 0, none⟩))] m fun r m' => r = [.v (enc e.k), e.v] ∧ m = m' := by
  intro _ ty W hW
  have hWi := hW _ _ hit
  have hWb := hW _ _ hb
  have e5 : (Sem.run P (getObj it) W) = .ok (iterO b clock (vis ++ [e.b])) W := by simp [getObj, Sem.run, hWi, iterO]
  have hfind : (es.map (Men.entry enc)).toArray.find? (fun x => x.born == e.b) = some (Men.entry enc e) := by
    rw [List.find?_toArray, List.find?_map]
    have : es.find? ((fun x : MapEntry => x.born == e.b) ∘ Men.entry enc) = some e := by
      clear hb hWb
      induction es with
      | nil => cases he
      | cons x es ih =>
        obtain ⟨h1, h2⟩ := List.pairwise_cons.1 hd
        rw [List.find?_cons]
        rcases List.mem_cons.1 he with rfl | he
        · simp [Men.entry]
        · have hne := h1 e he
          have : ((fun x : MapEntry => x.born == e.b) ∘ Men.entry enc) x = false := by simp [Men.entry, hne]
          rw [this]; exact ih he h2
    rw [this]; rfl
  refine ⟨[.v (enc e.k), e.v], m, W, ?_, ?_, ⟨rfl, rfl⟩, After.refl hW⟩
  · simp only [Prim.run, List.map_cons, List.map_nil, CV.val, Instr.entry, Sem.run_bind, e5, Result.andThen_ok, iterO, MapKept.run_getObj_map hWb, mapO]
    simp [hfind, Prim.out, Prim.tup, resVal, CV.val, Men.entry, MapKept.run_getObj_map hWb]
  · intro y hy
    simp at hy
    rcases hy with rfl | rfl
    · exact hone
    · exact hok
end
end Go.E

/-
  Files: what they are in memory.
-/
namespace Go.E.YtconjimbfhpfgaaDoor
open Go.Proofs
set_option maxRecDepth 100000
/-- a file: its name, the block of its record, its bytes as they lie, how many, how many are safe; when it was born; the memory of its bytes -/
structure Fl where
  name : ByteArray
  bx : Nat
  v : Value
  l : List Nat
  safe : Nat
  born : Nat
  p : Mem
def Fl.men (f : Fl) : Men ByteArray := ⟨f.name, .v (.pointer (some ⟨f.bx, 0, none⟩)), f.born⟩
abbrev mapF (F : List Fl) (clock : Nat) : Obj := mapO Value.string (F.map Fl.men) clock
structure Fl.Ok (clock : Nat) (f : Fl) : Prop where
  bs : Bs f.p f.v (nc f.l)
  byt : ∀ x ∈ f.l, x < 256
  safe : f.safe ≤ f.l.length
  born : f.born < clock
section
variable {p : Mem} {bf bm : Nat} {q : Int} {nb ns clock : Nat} {F : List Fl}
/-- the file of a name -/
def fileOf (F : List Fl) (name : ByteArray) : Option Fl := F.find? fun f => decide (name = f.name)
theorem findM_files (name : ByteArray) : ∀ (F : List Fl), findM name (F.map Fl.men) = (fileOf F name).map fun f => .v (.pointer (some ⟨f.bx, 0, none⟩))
  | [] => rfl
  | f :: F => by
    have ih := findM_files name F
    unfold findM fileOf at *
    rw [List.map_cons, List.find?_cons, List.find?_cons]
    by_cases h : name = f.name
    · simp [h, Fl.men]
    · have e1 : decide (name = f.men.k) = false := decide_eq_false h
      rw [e1, decide_eq_false h]; exact ih
theorem fileOf_mem {name : ByteArray} {f : Fl} (h : fileOf F name = some f) : f ∈ F ∧ f.name = name := by
  refine ⟨List.mem_of_find?_eq_some h, ?_⟩
  have := List.find?_some h
  exact (of_decide_eq_true this).symm
theorem fileOf_split {name : ByteArray} {f : Fl} (h : fileOf F name = some f) : ∃ A B, F = A ++ f :: B ∧ (∀ x ∈ A, x.name ≠ name) ∧ f.name = name := by
  obtain ⟨h1, A, B, h2, h3⟩ := List.find?_eq_some_iff_append.1 h
  exact ⟨A, B, h2, fun x hx e => by have := h3 x hx; simp [e] at this, (of_decide_eq_true h1).symm⟩
end
abbrev ptrB (b : Nat) : CV := .v (.pointer (some ⟨b, 0, none⟩))
end Go.E.YtconjimbfhpfgaaDoor

/-
  Files: what is asked of them.
-/
namespace Go.E.YtconjimbfhpfgaaDoor
open Go.Proofs
set_option maxRecDepth 100000
def isFB (c : Nat) : Bool := (decide (97 ≤ c) && decide (c ≤ 122)) || ((decide (48 ≤ c) && decide (c ≤ 57)) || (decide (c = 45) || decide (c = 46)))
def nameOk (l : List Nat) : Bool := decide (0 < l.length) && decide (l.length ≤ 20) && l.all isFB
theorem chsAt (s : ByteArray) (i : Nat) : (s.data.toList.getD i 0).toNat = (chs s).getD i 0 := by
  simp only [chs, List.getD_eq_getElem?_getD, List.getElem?_map]
  cases s.data.toList[i]? <;> rfl
def safeOf (F : List Fl) (name : ByteArray) : Nat := ((fileOf F name).map (·.safe)).getD 0
/-! ### atomic numbers within a record -/
end Go.E.YtconjimbfhpfgaaDoor

/-
  slices.Sort at texts: the library's contract (Derived/Shelf), laid at this program; and as a contract of memory that is owned.
-/
namespace Go.E.YtconjimbfhpfgaaDoor
open Go.Proofs
set_option maxRecDepth 100000
end Go.E.YtconjimbfhpfgaaDoor

/-
  slices.Sort at texts, of memory that is owned.
-/
namespace Go.E.YtconjimbfhpfgaaDoor
open Go.Proofs
set_option maxRecDepth 100000
def encB (s : ByteArray) : List UInt8 := s.data.toList
def srtB (ss : List ByteArray) : List ByteArray := ((ss.map encB).mergeSort fun x y => decide (x ≤ y)).map fun l => ⟨l.toArray⟩
theorem encB_inj {a b : ByteArray} (h : encB a = encB b) : a = b := by
  cases a; cases b
  unfold encB at h
  congr 1
  exact Array.toList_inj.1 h
theorem srtB_len (ss : List ByteArray) : (srtB ss).length = ss.length := by simp [srtB, List.length_mergeSort]
theorem after_sorted {m : Mem} {W : World} (hW : Over m W) {b o k : Nat} {arr : Array Value} {T : TypeId} {fr : Nat × Nat} (hb : m b = some (.cells arr T fr)) (d : Array (List UInt8)) (os : Array Obj) :
    After m W (m.set b (.cells (Sort.putCells encStr o d arr) T fr)) (Sort.grow (Sort.putRow encStr (Sort.ahead W k) b o d) os) := by
  have hWb := hW _ _ hb
  have hlt := hW.lt hb
  have hold : ∀ x, x < W.heap.size → (Sort.grow (Sort.putRow encStr (Sort.ahead W k) b o d) os).heap[x]? = if b = x then some (.cells (Sort.putCells encStr o d arr) T fr) else W.heap[x]? := fun x hx => by
    have e : (Sort.grow (Sort.putRow encStr (Sort.ahead W k) b o d) os).heap = W.heap.modify b (Sort.onCells (Sort.putCells encStr o d)) ++ os := rfl
    rw [e, Array.getElem?_append_left (by simpa using hx), Array.getElem?_modify]
    by_cases h : b = x
    · subst h; simp [hWb, Sort.onCells]
    · simp [h]
  refine ⟨fun x u hx => ?_, ?_, rfl, rfl, rfl, fun x hx hn => ?_, fun _ => Nat.le_add_right _ _⟩
  · by_cases h : x = b
    · subst h; rw [Mem.set_same] at hx; rw [hold _ hlt, if_pos rfl]; exact hx
    · rw [Mem.set_ne _ _ h] at hx
      rw [hold _ (hW.lt hx), if_neg (Ne.symm h)]; exact hW _ _ hx
  · show W.heap.size ≤ (W.heap.modify b (Sort.onCells (Sort.putCells encStr o d)) ++ os).size
    simp
  · have h : x ≠ b := fun e => by subst e; rw [hb] at hn; cases hn
    exact ⟨by rw [Mem.set_ne _ _ h]; exact hn, by rw [hold _ hx, if_neg (Ne.symm h)]⟩
end Go.E.YtconjimbfhpfgaaDoor

/-
  Files: what goes over all of them.
-/
namespace Go.E.YtconjimbfhpfgaaDoor
open Go.Proofs
set_option maxRecDepth 100000
/-- some files, of other births each, are a part of all -/
theorem subR : ∀ {vis F : List Fl}, (vis.Pairwise fun a b => a.born ≠ b.born) → (∀ f ∈ vis, f ∈ F) → ∃ R, (vis ++ R).Perm F
  | [], F, _, _ => ⟨F, List.Perm.refl _⟩
  | x :: vs, F, hv, hF => by
    obtain ⟨h1, h2⟩ := List.pairwise_cons.1 hv
    obtain ⟨A, B, rfl⟩ := List.append_of_mem (hF x (by simp))
    obtain ⟨R, hR⟩ := subR (vis := vs) (F := A ++ B) h2 fun f hf => by
      have := hF f (by simp [hf])
      rcases List.mem_append.1 this with h | h
      · exact List.mem_append_left _ h
      · rcases List.mem_cons.1 h with rfl | h
        · exact absurd rfl (h1 f hf)
        · exact List.mem_append_right _ h
    refine ⟨R, ?_⟩
    exact (List.Perm.cons x hR).trans List.perm_middle.symm
theorem allR {vis F : List Fl} (hv : vis.Pairwise fun a b => a.born ≠ b.born) (hF : ∀ f ∈ vis, f ∈ F) (hb : F.Pairwise fun a b => a.born ≠ b.born) (hall : ∀ f ∈ F, ∃ g ∈ vis, g.born = f.born) : vis.Perm F := by
  obtain ⟨R, hR⟩ := subR hv hF
  cases R with
  | nil => simpa using hR
  | cons r R =>
    exfalso
    have hp := (List.Perm.pairwise_iff (fun h => Ne.symm h) hR).2 hb
    have hr : r ∈ F := hR.subset (by simp)
    obtain ⟨g, hg, e⟩ := hall r hr
    exact (List.pairwise_append.1 hp).2.2 g hg r (by simp) e
def total (F : List Fl) : Nat := (F.map fun f => f.l.length).sum
theorem total_perm {F G : List Fl} (h : F.Perm G) : total F = total G := (h.map _).sum_nat
theorem total_sub {vis F : List Fl} (hv : vis.Pairwise fun a b => a.born ≠ b.born) (hF : ∀ f ∈ vis, f ∈ F) : total vis ≤ total F := by
  obtain ⟨R, hR⟩ := subR hv hF
  rw [← total_perm hR]
  simp only [total, List.map_append, List.sum_append]; omega
theorem len_sub {vis F : List Fl} (hv : vis.Pairwise fun a b => a.born ≠ b.born) (hF : ∀ f ∈ vis, f ∈ F) : vis.length ≤ F.length := by
  obtain ⟨R, hR⟩ := subR hv hF
  rw [← hR.length_eq, List.length_append]; omega
/-- where a range is: at these files -/
structure Vis (F vis : List Fl) : Prop where
  born : vis.Pairwise fun a b => a.born ≠ b.born
  sub : ∀ f ∈ vis, f ∈ F
theorem Vis.start (F : List Fl) : Vis F [] := ⟨by simp, by simp⟩
theorem Vis.step {F vis : List Fl} {f : Fl} (h : Vis F vis) (hf : f ∈ F) (hn : ∀ g ∈ vis, g.born ≠ f.born) : Vis F (vis ++ [f]) := by
  refine ⟨List.pairwise_append.2 ⟨h.born, by simp, fun a ha b hb => ?_⟩, fun g hg => ?_⟩
  · rw [List.mem_singleton.1 hb]; exact hn a ha
  · rcases List.mem_append.1 hg with hg | hg
    · exact h.sub g hg
    · rw [List.mem_singleton.1 hg]; exact hf
theorem left_of {F vis : List Fl} {e : Men ByteArray} (he : e ∈ leftM (vis.map (·.born)) (F.map Fl.men)) : ∃ f ∈ F, e = f.men ∧ ∀ g ∈ vis, g.born ≠ f.born := by
  obtain ⟨h1, h2⟩ := List.mem_filter.1 he
  obtain ⟨f, hf, rfl⟩ := List.mem_map.1 h1
  refine ⟨f, hf, rfl, fun g hg e => ?_⟩
  simp only [Fl.men, Bool.not_eq_true', List.contains_eq_mem, decide_eq_false_iff_not] at h2
  exact h2 (List.mem_map.2 ⟨g, hg, e⟩)
theorem left_nil {F vis : List Fl} (h : Vis F vis) (hb : F.Pairwise fun a b => a.born ≠ b.born) (he : leftM (vis.map (·.born)) (F.map Fl.men) = []) : vis.Perm F := by
  refine allR h.born h.sub hb fun f hf => ?_
  have := List.filter_eq_nil_iff.1 he f.men (List.mem_map.2 ⟨f, hf, rfl⟩)
  simp only [Fl.men, Bool.not_eq_true', List.contains_eq_mem, decide_eq_false_iff_not, Decidable.not_not] at this
  obtain ⟨g, hg, e⟩ := List.mem_map.1 this
  exact ⟨g, hg, e⟩
/-! ### lists of texts -/
theorem hSs : ∃ ti, tt.get 41 = some ti ∧ ti.k = .slice 9 := ⟨_, rfl, rfl⟩
theorem hSt : ∃ ti, tt.get 9 = some ti ∧ ti.size = 1 ∧ ti.bytes = 16 ∧ (LB.cells ti.zero).length = 1 := ⟨_, rfl, rfl, rfl, rfl⟩
abbrev sc (ss : List ByteArray) : List Value := ss.map Value.string
def So (m : Mem) (v : Value) (ss : List ByteArray) : Prop := Own m 9 1 v (sc ss)
def Sl (m : Mem) (v : Value) (ss : List ByteArray) : Prop := Lies m 1 v (sc ss)
theorem So.sl {m : Mem} {v : Value} {ss : List ByteArray} (h : So m v ss) : Sl m v ss := Own.lies h
theorem So.sub {m m' : Mem} {v : Value} {ss : List ByteArray} (h : So m v ss) (hs : Sub m m') : So m' v ss := Own.sub h hs
theorem Sl.sub {m m' : Mem} {v : Value} {ss : List ByteArray} (h : Sl m v ss) (hs : Sub m m') : Sl m' v ss := Lies.sub h hs
theorem So.nil (m : Mem) : So m (.slice none 0 0) [] := .inl ⟨rfl, rfl⟩
theorem Sl.shape {m : Mem} {v : Value} {ss : List ByteArray} (h : Sl m v ss) : ∃ a c, v = .slice a ss.length c := by
  rcases h with ⟨c, rfl, e⟩ | ⟨b, o, c, n, arr, t, fr, rfl, _, e, _⟩
  · have : ss.length = 0 := by simpa using congrArg List.length e
    exact ⟨none, c, by rw [this]⟩
  · have : ss.length = n := by simpa using e
    exact ⟨_, c, by rw [this]⟩
theorem Sl.real {m : Mem} {v : Value} {ss : List ByteArray} (h : Sl m v ss) {i : Nat} (hi : i < ss.length) : ∃ b o c, v = .slice (some ⟨b, o, none⟩) ss.length c ∧ ∀ j (hj : j < ss.length), mcell m b (o + j) = some (.string ss[j]) := by
  rcases h with ⟨c, rfl, e⟩ | ⟨b, o, c, n, arr, t, fr, rfl, g1, e, _, g2, _⟩
  · have : ss.length = 0 := by simpa using congrArg List.length e
    omega
  · have : ss.length = n := by simpa using e
    exact ⟨b, o, c, by rw [this], fun j hj => mcell_of g1 (g2 j _ (by simp [hj]))⟩
theorem buildS1 {m : Mem} {x : ByteArray} : PrimSpec Tryd.prog (.buildSlice 41 1 [0]) [.v (.string x)] m fun r m' => ∃ b, m b = none ∧ r = [.v (.slice (some ⟨b, 0, none⟩) 1 1)] ∧ m' = m.set b (.cells #[.string x] 9) := by
  obtain ⟨ti, h1, h2⟩ := hSs
  obtain ⟨ei, g1, g2, g3, g4⟩ := hSt
  exact (buildSlice_spec (n := 1) tt_ok h1 h2 g1 rfl rfl (by simp [CV.cs, g2]) (by omega) (by omega)).mono fun r m' ⟨b, e1, e2, e3⟩ => ⟨b, e1, e2, e3⟩
/-- one text more -/
theorem pushS {m p : Mem} {ls : List Mem} {i b' : Nat} {x : ByteArray} {y : Value} {ss : List ByteArray} (hs : Split m ls) (hi : ls[i]? = some p) (hb : m b' = none) (hy : So p y ss) (hl : ss.length ≤ 10000000) :
    PrimSpec Tryd.prog (.builtin .append [41, 41]) [.v y, .v (.slice (some ⟨b', 0, none⟩) 1 1)] (m.set b' (.cells #[.string x] 9)) fun r m' => ∃ y' p', r = [.v y'] ∧ Split m' (ls.set i p') ∧ So p' y' (ss ++ [x]) := by
  obtain ⟨ti, h1, h2⟩ := hSs
  obtain ⟨ei, g1, g2, g3, g4⟩ := hSt
  have hs1 := hs.new hb (.cells #[.string x] 9)
  have e1 : lenV y = ss.length := by obtain ⟨a, c, rfl⟩ := hy.sl.shape; rfl
  have e2 : lenV (.slice (some ⟨b', 0, none⟩) 1 1) = 1 := rfl
  have g : Gives (m.set b' (.cells #[.string x] 9)) ei.size ti.k (.slice (some ⟨b', 0, none⟩) 1 1) (sc [x]) := by
    rw [h2, g2]
    exact .inl ⟨_, rfl, .inl (.inr ⟨b', 0, 1, 1, _, _, _, rfl, Mem.set_same .., rfl, Nat.le_refl _, fun j u hu => by rw [Nat.zero_add, List.getElem?_toArray]; exact hu, by simp [Value.oneCell']⟩)⟩
  have hy' : Own p 9 ei.size y (sc ss) := by rw [g2]; exact hy
  refine (append_at (news := sc [x]) tt_ok h1 h2 g1 h1 (by rw [g2, g4]) hs1 (i := i + 1) (by simpa using hi) hy' g (by rw [e1, e2, g3]; omega) (by rw [e1, e2]; omega)).mono fun r m' ⟨v', p', q1, q2, q3⟩ => ⟨v', p', q1, q2.erase 0, ?_⟩
  have := q3.own
  rw [g2] at this
  rw [So, sc, List.map_append]; exact this
theorem leU_trans (a b c : List UInt8) (h : decide (a ≤ b) = true) (k : decide (b ≤ c) = true) : decide (a ≤ c) = true := decide_eq_true (List.le_trans (of_decide_eq_true h) (of_decide_eq_true k))
theorem leU_total (a b : List UInt8) : (decide (a ≤ b) || decide (b ≤ a)) = true := by
  rcases List.le_total a b with h | h <;> simp [h]
theorem srtU_perm {l l' : List (List UInt8)} (h : l.Perm l') : (l.mergeSort fun x y => decide (x ≤ y)) = l'.mergeSort fun x y => decide (x ≤ y) :=
  List.Perm.eq_of_pairwise (le := fun a b => decide (a ≤ b) = true) (fun a b _ _ h1 h2 => List.le_antisymm (of_decide_eq_true h1) (of_decide_eq_true h2)) (List.pairwise_mergeSort leU_trans leU_total l) (List.pairwise_mergeSort leU_trans leU_total l')
    (((List.mergeSort_perm l _).trans h).trans (List.mergeSort_perm l' _).symm)
theorem srtB_perm {a b : List ByteArray} (h : a.Perm b) : srtB a = srtB b := by
  rw [srtB, srtB, srtU_perm (h.map encB)]
/-- the names, by their order -/
def namesF (F : List Fl) : List ByteArray := srtB (F.map (·.name))
theorem mapHyp {F : List Fl} {P : Fl → Prop} (h : ∀ f ∈ F, P f) {Q : Men ByteArray → Prop} (hq : ∀ f, P f → Q f.men) : ∀ e ∈ F.map Fl.men, Q e := fun e he => by
  obtain ⟨f, hf, rfl⟩ := List.mem_map.1 he; exact hq f (h f hf)
end Go.E.YtconjimbfhpfgaaDoor

/-
  A text, cut at each place of another one: strings.Split.
-/
namespace Go.E.YtconjimbfhpfgaaDoor
open Go.Proofs Go.RowKit
set_option maxRecDepth 100000
/-- what strings.Index reads of the library's own holds some number -/
structure MaxL (m : Mem) : Prop where
  at' : ∃ z T fr, m 0 = some (.cells #[.int .i64 z] T fr)
theorem MaxL.sub {m m' : Mem} (h : MaxL m) (hs : Sub m m') : MaxL m' := by
  obtain ⟨z, T, fr, h⟩ := h
  exact ⟨z, T, fr, hs _ _ h⟩
/-- the words of a text -/
noncomputable def words (p s : ByteArray) : List ByteArray := Lib.splitB p 0 (Lib.countB s p) s
theorem split_spec {m : Mem} (hx : MaxL m) {s p : ByteArray} (hs : s.size ≤ 1000000) (hp : 1 ≤ p.size) : Spec Tryd.prog 15 [.v (.string s), .v (.string p)] m fun r m' => ∃ v q, r = [.v v] ∧ Split m' [q, m] ∧ So q v (words p s) := by
  obtain ⟨z, T, fr, hz⟩ := hx
  refine ⟨enters_fn Tryd.func15 (by kernel_rfl) (by kernel_rfl), fun _ W hW => ?_⟩
  have hc : W.cell? ⟨0, 0, none⟩ = some (.int .i64 z) := by
    simp [World.cell?, hW _ _ hz]
  refine (Tryd.strings_Split s p z W (by omega) hc hp).mono fun e W' ⟨h2, h3⟩ => ?_
  subst h3
  have hl : (words p s).length = Lib.countB s p + 1 := Lib.splitB_all p hp 0 _ s rfl
  refine ⟨[.v (.slice (some ⟨W.heap.size, 0, none⟩) (Lib.countB s p + 1) (Lib.countB s p + 1))], m.set W.heap.size (.cells ((words p s).map Value.string).toArray 9), h2, by intro x hx; simp at hx; subst hx; rfl, ⟨_, blk1 W.heap.size (.cells ((words p s).map Value.string).toArray 9), rfl, (Split.one m).new (hW.none (Nat.le_refl _)) _, ?_⟩, (After.refl hW).alloc _⟩
  refine .inr ⟨_, 0, _, _, _, rfl, blk1_same .., ?_, Nat.le_refl _, ?_, fun j u hu => ?_, ?_⟩
  · rw [List.length_map, hl, Nat.mul_one]
  · simp [hl]
  · rw [Nat.zero_add, List.getElem?_toArray]; exact hu
  · intro u hu
    obtain ⟨x, _, rfl⟩ := List.mem_map.1 hu
    rfl
theorem extract_le (s : ByteArray) (a b : Nat) : (s.extract a b).size ≤ s.size := by
  rw [ByteArray.size_extract]; omega
theorem words_size (p : ByteArray) : ∀ (k : Nat) (s : ByteArray), ∀ w ∈ Lib.splitB p 0 k s, w.size ≤ s.size
  | 0, s, w, h => by
    rw [Lib.splitB_zero] at h
    rw [List.mem_singleton.1 h]; exact Nat.le_refl _
  | k + 1, s, w, h => by
    unfold Lib.splitB at h
    split at h
    · rw [List.mem_singleton.1 h]; exact Nat.le_refl _
    · rcases List.mem_cons.1 h with rfl | h
      · exact extract_le _ _ _
      · exact Nat.le_trans (words_size p k _ w h) (extract_le _ _ _)
theorem words_len {p : ByteArray} (hp : 1 ≤ p.size) (s : ByteArray) : 0 < (words p s).length ∧ (words p s).length ≤ s.size + 1 := by
  have h1 := Lib.splitB_all p hp 0 _ s rfl
  have h2 := Lib.countB_le p hp s.size s (Nat.le_refl _)
  show 0 < (Lib.splitB p 0 (Lib.countB s p) s).length ∧ (Lib.splitB p 0 (Lib.countB s p) s).length ≤ s.size + 1
  omega
end Go.E.YtconjimbfhpfgaaDoor
