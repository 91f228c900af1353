/-
  E30, E31, Nc, Fi1, Fi2, SortLay, SortS, Fi3, Fi4, Fi5, Fi6, Fi7, Fi8
-/
import Derived.Test.YtcjmmhamnglmkaaLogBeginsZ7
import Derived.MapKept
import Derived.Laws.NewFold
import Derived.Shelf.Slices.In.SortAlone
import Derived.Shelf.Slices.In.SortNone
/-
  Maps: made, looked up, set, deleted from, ranged over.
-/
namespace Go.E
/-- an entry of a map: a key, what it leads to, when it was born -/
structure Men (α : Type) where
  k : α
  v : CV
  b : Nat
def Men.entry {α : Type} (enc : α → Value) (e : Men α) : MapEntry := ⟨enc e.k, e.v.val, e.b⟩
def mapO {α : Type} (enc : α → Value) (es : List (Men α)) (clock : Nat) : Obj := .map (es.map (Men.entry enc)).toArray clock
/-- keys that are compared at once -/
structure KeyOk {α : Type} [DecidableEq α] (enc : α → Value) (d : TypeDesc) : Prop where
  same : ∀ a b, Instr.sameNow d (enc a) (enc b) = some (decide (a = b))
  isK : ∀ a, MapKept.IsKey d (enc a)
  bits : ∀ a, Instr.sameBits 10000 (enc a) (enc a) = true
  one : ∀ a, (enc a).oneCell' = true
theorem bytesBeq (a b : ByteArray) : (a == b) = decide (a = b) := by
  rcases a with ⟨a⟩; rcases b with ⟨b⟩
  have h : ((⟨a⟩ : ByteArray) == ⟨b⟩) = (a == b) := rfl
  rw [h]
  by_cases e : a = b
  · subst e; simp
  · have : ¬ (⟨a⟩ : ByteArray) = ⟨b⟩ := fun h => e (by injection h)
    rw [decide_eq_false this]; exact beq_false_of_ne e
theorem strKey : KeyOk Value.string .string :=
  ⟨fun a b => by simp [Instr.sameNow, bytesBeq], fun _ => trivial, fun a => by simp [Instr.sameBits, bytesBeq], fun _ => rfl⟩
theorem intKey (k : IntKind) : KeyOk (Value.int k) (.int k) :=
  ⟨fun a b => by by_cases h : a = b <;> simp [Instr.sameNow, h], fun _ => rfl, fun a => by simp [Instr.sameBits], fun _ => rfl⟩
section
variable {α : Type} [DecidableEq α]
def findM (k : α) (es : List (Men α)) : Option CV := (es.find? fun e => decide (k = e.k)).map (·.v)
def setM (k : α) (v : CV) (clock : Nat) : List (Men α) → List (Men α)
  | [] => [⟨k, v, clock⟩]
  | e :: es => if k = e.k then ⟨k, v, e.b⟩ :: es else e :: setM k v clock es
def clockM (k : α) (clock : Nat) (es : List (Men α)) : Nat := if (findM k es).isSome then clock else clock + 1
def delM (k : α) : List (Men α) → List (Men α)
  | [] => []
  | e :: es => if k = e.k then es else e :: delM k es
theorem findNow_eq {enc : α → Value} {d : TypeDesc} (hk : KeyOk enc d) (k : α) : ∀ (es : List (Men α)) (i : Nat),
    Instr.findNow d (enc k) (es.map (Men.entry enc)) i = some (match es.findIdx? fun e => decide (k = e.k) with
      | some j => some (i + j, ((es[j]?).map fun e => e.v.val).getD undef)
      | none => none)
  | [], i => rfl
  | e :: es, i => by
    simp only [List.map_cons, Instr.findNow, Men.entry, hk.same, List.findIdx?_cons]
    by_cases h : k = e.k
    · simp [h]
    · have ih := findNow_eq hk k es (i + 1)
      simp only [h, decide_false, if_false, Bool.false_eq_true]
      rw [ih]
      cases es.findIdx? fun e => decide (k = e.k) with
      | none => rfl
      | some j => simp only [List.getElem?_cons_succ]; congr 2; rw [Prod.mk.injEq]; exact ⟨by simp only; omega, rfl⟩
theorem find_idx (k : α) : ∀ (es : List (Men α)), (match es.findIdx? fun e => decide (k = e.k) with
    | some j => ∃ e, es[j]? = some e ∧ findM k es = some e.v ∧ e.k = k
    | none => findM k es = none)
  | [] => rfl
  | e :: es => by
    rw [List.findIdx?_cons]
    by_cases h : k = e.k
    · simp only [h, decide_true, cond_true, if_true]
      exact ⟨e, rfl, by simp [findM], rfl⟩
    · have ih := find_idx k es
      simp only [h, decide_false, if_false, Bool.false_eq_true]
      have hf : findM k (e :: es) = findM k es := by simp [findM, h]
      rw [hf]
      cases hx : es.findIdx? fun e => decide (k = e.k) with
      | none => rw [hx] at ih; exact ih
      | some j => rw [hx] at ih; exact ih
theorem set_modify (enc : α → Value) (k : α) (v : CV) (clock : Nat) : ∀ (es : List (Men α)), (match es.findIdx? fun e => decide (k = e.k) with
    | some j => (es.map (Men.entry enc)).modify j (fun e => { e with key := enc k, val := v.val }) = (setM k v clock es).map (Men.entry enc)
    | none => es.map (Men.entry enc) ++ [⟨enc k, v.val, clock⟩] = (setM k v clock es).map (Men.entry enc))
  | [] => rfl
  | e :: es => by
    rw [List.findIdx?_cons]
    by_cases h : k = e.k
    · subst h
      simp [setM, Men.entry]
    · have ih := set_modify enc k v clock es
      simp only [h, decide_false, if_false, Bool.false_eq_true]
      cases hx : es.findIdx? fun e => decide (k = e.k) with
      | none => rw [hx] at ih; simp only [Option.map_none, List.map_cons, setM, h, if_false, List.cons_append] at ih ⊢; rw [ih]
      | some j => rw [hx] at ih; simp only [Option.map_some, List.map_cons, setM, h, if_false, List.modify_succ_cons] at ih ⊢; rw [ih]
theorem del_erase (enc : α → Value) (k : α) : ∀ (es : List (Men α)), (match es.findIdx? fun e => decide (k = e.k) with
    | some j => (es.map (Men.entry enc)).eraseIdx j = (delM k es).map (Men.entry enc)
    | none => es.map (Men.entry enc) = (delM k es).map (Men.entry enc))
  | [] => rfl
  | e :: es => by
    rw [List.findIdx?_cons]
    by_cases h : k = e.k
    · subst h
      simp [delM]
    · have ih := del_erase enc k es
      simp only [h, decide_false, if_false, Bool.false_eq_true]
      cases hx : es.findIdx? fun e => decide (k = e.k) with
      | none => rw [hx] at ih; simp only [Option.map_none, List.map_cons, delM, h, if_false] at ih ⊢; rw [ih]
      | some j => rw [hx] at ih; simp only [Option.map_some, List.map_cons, delM, h, if_false, List.eraseIdx_cons_succ] at ih ⊢; rw [ih]
end
section
variable {P : Program} {T : Tab} {α : Type} [DecidableEq α] {enc : α → Value}
theorem run_checkKey' {w : World} {kt : TypeId} {d : TypeDesc} {k : Value} (hd : P.underlying kt = some d) (hk : MapKept.IsKey d k) (e : Bool) : (Instr.checkKey e 10000 kt k).run P w = .ok () w := MapKept.run_checkKey hd hk e 9999
omit [DecidableEq α] in
theorem makeMap_spec {t : TypeId} {m : Mem} : PrimSpec P (.makeMap t) [] m fun r m' => ∃ b, m b = none ∧ r = [.v (.map (some b))] ∧ m' = m.set b (mapO enc [] 0) := by
  intro _ ty W hW
  refine ⟨[.v (.map (some W.heap.size))], _, _, ?_, (by intro y hy; simp at hy; subst hy; rfl), ⟨W.heap.size, hW.none (Nat.le_refl _), rfl, rfl⟩, (After.refl hW).alloc (mapO enc [] 0)⟩
  simp [Prim.run, Prim.out, Prim.tup, resVal, CV.val, Instr.makeMap, mapO, newObj, Sem.run, Result.andThen]
theorem run_find {d : TypeDesc} {kt : TypeId} (hk : KeyOk enc d) (hd : P.underlying kt = some d) (w : World) (k : α) (es : List (Men α)) :
    (Instr.findKey kt (enc k) (es.map (Men.entry enc))).run P w = .ok (match es.findIdx? fun e => decide (k = e.k) with
      | some j => some (j, ((es[j]?).map fun e => e.v.val).getD undef)
      | none => none) w := by
  have := findNow_eq hk k es 0
  simp only [Nat.zero_add] at this
  exact MapKept.run_findKey hd this
theorem lookup_spec {mt kt et : TypeId} {d : TypeDesc} (hk : KeyOk enc d) (hm : P.underlying mt = some (.map kt et)) (hd : P.underlying kt = some d) {z : CV} (hz : (P.info? et).bind (·.zero) = some z.val) (hzok : z.ok) {m : Mem} {b clock : Nat} {es : List (Men α)} {k : α}
    (hb : m b = some (mapO enc es clock)) (hes : ∀ e ∈ es, e.v.ok) (ok : Bool) :
    PrimSpec P (.lookup mt ok) [.v (.map (some b)), .v (enc k)] m fun r m' => r = (if ok then [(findM k es).getD z, .v (.bool (findM k es).isSome)] else [(findM k es).getD z]) ∧ m = m' := by
  intro _ ty W hW
  have hWb := hW _ _ hb
  have hzv : (zeroValue et).run P W = .ok z.val W := by
    cases hi : P.info? et with
    | none => simp [hi] at hz
    | some i => simp [hi] at hz; simp [zeroValue, typeInfo, hi, hz]
  have hf := run_find hk hd W k es
  have hx := find_idx k es
  have hck : ∀ e, (Instr.checkKey e 10000 kt (enc k)).run P W = .ok () W := fun e => run_checkKey' hd (hk.isK k) e
  have hvok : ((findM k es).getD z).ok := by
    unfold findM
    cases hq : es.find? (fun e => decide (k = e.k)) with
    | none => exact hzok
    | some e => exact hes e (List.mem_of_find?_eq_some hq)
  refine ⟨_, m, W, ?_, ?_, ⟨rfl, rfl⟩, After.refl hW⟩
  · cases hi : es.findIdx? fun e => decide (k = e.k) with
    | none =>
      rw [hi] at hx hf
      simp only at hx hf
      rw [hx]
      cases ok <;> simp [Prim.run, Prim.out, Prim.tup, CV.val, resVal, Instr.lookup, run_underlying hm, MapKept.run_getObj_map hWb, hck, hf, hzv, mapO] <;> rfl
    | some j =>
      rw [hi] at hx hf
      obtain ⟨e, h1, h2, _⟩ := hx
      simp only [h1, Option.map_some, Option.getD_some] at hf
      rw [h2]
      cases ok <;> simp [Prim.run, Prim.out, Prim.tup, CV.val, resVal, Instr.lookup, run_underlying hm, MapKept.run_getObj_map hWb, hck, hf, mapO] <;> rfl
  · intro y hy
    cases ok
    · simp at hy; subst hy; exact hvok
    · simp at hy
      rcases hy with rfl | rfl
      · exact hvok
      · rfl
theorem After.put {m : Mem} {W : World} (hW : Over m W) {b : Nat} {o : Obj} (hb : m b = some o) (o' : Obj) : After m W (m.set b o') { W with heap := W.heap.setIfInBounds b o' } := by
  obtain ⟨h1, h2⟩ := MapKept.heap_set (o' := o') (hW _ _ hb)
  exact After.setObj hW hb (by simp) h1 h2
theorem mapSet_spec {mt kt et : TypeId} {d : TypeDesc} (hk : KeyOk enc d) (hm : P.underlying mt = some (.map kt et)) (hd : P.underlying kt = some d) {m : Mem} {b clock : Nat} {es : List (Men α)} {k : α} {v : CV} (hb : m b = some (mapO enc es clock)) :
    PrimSpec P (.mapUpdate mt) [.v (.map (some b)), .v (enc k), v] m fun r m' => m' = m.set b (mapO enc (setM k v clock es) (clockM k clock es)) := by
  intro _ ty W hW
  have hWb := hW _ _ hb
  have hf := run_find hk hd W k es
  have hx := find_idx k es
  have hset := set_modify enc k v clock es
  have hck : (Instr.checkKey false 10000 kt (enc k)).run P W = .ok () W := run_checkKey' hd (hk.isK k) false
  have ha : List.map CV.val [.v (.map (some b)), .v (enc k), v] = [.map (some b), enc k, v.val] := rfl
  rw [ha]
  cases hi : es.findIdx? fun e => decide (k = e.k) with
  | none =>
    rw [hi] at hx hf hset
    simp only at hx hf hset
    refine ⟨[], _, _, ?_, (by intro y hy; cases hy), rfl, After.put hW hb _⟩
    have hc : clockM k clock es = clock + 1 := by simp [clockM, hx]
    have he : (es.map (Men.entry enc)).toArray.push ⟨enc k, v.val, clock⟩ = ((setM k v clock es).map (Men.entry enc)).toArray := by
      rw [← hset]; simp
    have hr : (Instr.mapUpdate mt (.map (some b)) (enc k) v.val).run P W = .ok () { W with heap := W.heap.setIfInBounds b (mapO enc (setM k v clock es) (clockM k clock es)) } := by
      simp only [Instr.mapUpdate, Sem.run_bind, run_underlying hm, MapKept.run_getObj_map hWb, hck, hf, Result.andThen_ok, List.toList_toArray, he, hc, MapKept.run_setObj_map _ hWb, mapO]
    simp only [Prim.run, Sem.run_bind, hr, Result.andThen_ok, Sem.run_pure]
    rfl
  | some j =>
    rw [hi] at hx hf hset
    obtain ⟨e, h1, h2, h3⟩ := hx
    simp only [h1, Option.map_some, Option.getD_some] at hf hset
    refine ⟨[], _, _, ?_, (by intro y hy; cases hy), rfl, After.put hW hb _⟩
    have hc : clockM k clock es = clock := by simp [clockM, h2]
    have hkey : ((((es.map (Men.entry enc)).toArray[j]?).map (·.key)).getD (enc k)) = enc k := by
      simp [h1, Men.entry, h3]
    have hsb := hk.bits k
    have he : (es.map (Men.entry enc)).toArray.modify j (fun e => { e with key := enc k, val := v.val }) = ((setM k v clock es).map (Men.entry enc)).toArray := by
      rw [← hset]; simp
    have hr : (Instr.mapUpdate mt (.map (some b)) (enc k) v.val).run P W = .ok () { W with heap := W.heap.setIfInBounds b (mapO enc (setM k v clock es) (clockM k clock es)) } := by
      simp only [Instr.mapUpdate, Sem.run_bind, run_underlying hm, MapKept.run_getObj_map hWb, hck, hf, Result.andThen_ok, List.toList_toArray, hkey, Instr.keyThatStays, hsb, if_true, Sem.run_pure, he, hc, MapKept.run_setObj_map _ hWb, mapO]
    simp only [Prim.run, Sem.run_bind, hr, Result.andThen_ok, Sem.run_pure]
    rfl
theorem mapDel_spec {mt kt et : TypeId} {d : TypeDesc} {ats : List TypeId} (hk : KeyOk enc d) (hm : P.underlying mt = some (.map kt et)) (hd : P.underlying kt = some d) {m : Mem} {b clock : Nat} {es : List (Men α)} {k : α} (hb : m b = some (mapO enc es clock)) :
    PrimSpec P (.builtin .delete (mt :: ats)) [.v (.map (some b)), .v (enc k)] m fun r m' => r = [] ∧ m' = m.set b (mapO enc (delM k es) clock) := by
  intro _ ty W hW
  have hWb := hW _ _ hb
  have hf := run_find hk hd W k es
  have hset := del_erase enc k es
  have hck : ∀ e, (Instr.checkKey e 10000 kt (enc k)).run P W = .ok () W := fun e => run_checkKey' hd (hk.isK k) e
  refine ⟨[], _, _, ?_, (by intro y hy; cases hy), ⟨rfl, rfl⟩, After.put hW hb _⟩
  cases hi : es.findIdx? fun e => decide (k = e.k) with
  | none =>
    rw [hi] at hf hset
    simp only at hf hset
    simp [Prim.run, Prim.out, Prim.tup, CV.val, resVal, Builtin.delete_, run_underlying hm, MapKept.run_getObj_map hWb, hck, hf, mapO, MapKept.run_setObj_map _ hWb, ← hset]
  | some j =>
    rw [hi] at hf hset
    simp only at hf hset
    have he : (es.map (Men.entry enc)).toArray.eraseIdxIfInBounds j = ((delM k es).map (Men.entry enc)).toArray := by
      rw [← hset]; simp
    simp [Prim.run, Prim.out, Prim.tup, CV.val, resVal, Builtin.delete_, run_underlying hm, MapKept.run_getObj_map hWb, hck, hf, mapO, MapKept.run_setObj_map _ hWb, ← hset]
end
end Go.E

/-
  A range over a map: whatever order it goes in.
-/
namespace Go.E
section
variable {P : Program} {α : Type} {enc : α → Value}
/-- an iterator over the map b, that has been at these entries -/
def iterO (b clock : Nat) (vis : List Nat) : Obj := .mapIter (some b) clock vis.toArray clock
def leftM (vis : List Nat) (es : List (Men α)) : List (Men α) := es.filter fun e => !vis.contains e.b
theorem rangeM_spec {mt kt et : TypeId} (hm : P.underlying mt = some (.map kt et)) {m : Mem} {b clock : Nat} {es : List (Men α)} (hb : m b = some (mapO enc es clock)) :
    PrimSpec P (.range mt) [.v (.map (some b))] m fun r m' => ∃ it, m it = none ∧ r = [.v (.pointer (some ⟨it, 0, none⟩))] ∧ m' = m.set it (iterO b clock []) := by
  intro _ ty W hW
  refine ⟨[.v (.pointer (some ⟨W.heap.size, 0, none⟩))], _, _, ?_, (by intro y hy; simp at hy; subst hy; rfl), ⟨W.heap.size, hW.none (Nat.le_refl _), rfl, rfl⟩, (After.refl hW).alloc (iterO b clock [])⟩
  simp [Prim.run, Prim.out, Prim.tup, resVal, CV.val, Instr.range, run_underlying hm, MapKept.run_getObj_map (hW _ _ hb), mapO, newObj, Sem.run, Result.andThen, iterO]
theorem rangeM_nil {mt kt et : TypeId} (hm : P.underlying mt = some (.map kt et)) {m : Mem} :
    PrimSpec P (.range mt) [.v (.map none)] m fun r m' => ∃ it, m it = none ∧ r = [.v (.pointer (some ⟨it, 0, none⟩))] ∧ m' = m.set it (.mapIter none 0 #[] 0) := by
  intro _ ty W hW
  refine ⟨[.v (.pointer (some ⟨W.heap.size, 0, none⟩))], _, _, ?_, (by intro y hy; simp at hy; subst hy; rfl), ⟨W.heap.size, hW.none (Nat.le_refl _), rfl, rfl⟩, (After.refl hW).alloc (.mapIter none 0 #[] 0)⟩
  simp [Prim.run, Prim.out, Prim.tup, resVal, CV.val, Instr.range, run_underlying hm, newObj, Sem.run, Result.andThen]
theorem nextM_nil {m : Mem} {it : Nat} (hit : m it = some (.mapIter none 0 #[] 0)) : PrimSpec P (.next false) [.v (.pointer (some ⟨it, 0, none⟩))] m fun r m' => r = [.v (.bool false)] ∧ m' = m := by
  intro _ ty W hW
  have hWi := hW _ _ hit
  refine ⟨[.v (.bool false)], m, W, ?_, (by intro y hy; simp at hy; subst hy; rfl), ⟨rfl, rfl⟩, After.refl hW⟩
  simp [Prim.run, Prim.out, Prim.tup, CV.val, Instr.next, getObj, Sem.run, hWi, Result.andThen]
theorem nextM_spec {m : Mem} {it b clock : Nat} {vis : List Nat} {es : List (Men α)} (hit : m it = some (iterO b clock vis)) (hb : m b = some (mapO enc es clock)) (hborn : ∀ e ∈ es, e.b < clock) (hok : ∀ e ∈ es, e.v.ok) (hone : ∀ a, (enc a).oneCell' = true) :
    PrimSpec P (.next false) [.v (.pointer (some ⟨it, 0, none⟩))] m fun r m' => (leftM vis es = [] ∧ r = [.v (.bool false)] ∧ m' = m) ∨ ∃ e, e ∈ leftM vis es ∧ r = [.v (.bool true), .v (enc e.k), e.v] ∧ m' = m.set it (iterO b clock (vis ++ [e.b])) := by
  intro _ ty W hW
  have hWi := hW _ _ hit
  have hWb := hW _ _ hb
  -- what is left
  have e1 : ((es.map (Men.entry enc)).toArray.filter fun e => !vis.toArray.contains e.born) = ((leftM vis es).map (Men.entry enc)).toArray := by
    simp only [List.filter_toArray, List.filter_map, leftM]
    congr 2
    exact List.filter_congr fun e _ => by simp [Men.entry]; exact decide_eq_decide.2 Iff.rfl
  have e2 : (((leftM vis es).map (Men.entry enc)).toArray.filter fun e => decide (e.born < clock)) = ((leftM vis es).map (Men.entry enc)).toArray := by
    simp only [List.filter_toArray]
    congr 1
    rw [List.filter_eq_self]
    intro x hx
    obtain ⟨e, he, rfl⟩ := List.mem_map.1 hx
    exact decide_eq_true (hborn e (List.mem_filter.1 he).1)
  have e3 : (((leftM vis es).map (Men.entry enc)).toArray.filter fun e => decide (e.born ≥ clock)) = #[] := by
    simp only [List.filter_toArray]
    have : ((leftM vis es).map (Men.entry enc)).filter (fun e => decide (e.born ≥ clock)) = [] := by
      rw [List.filter_eq_nil_iff]
      intro x hx
      obtain ⟨e, he, rfl⟩ := List.mem_map.1 hx
      have := hborn e (List.mem_filter.1 he).1
      intro h
      have h := of_decide_eq_true h
      simp only [Men.entry] at h; omega
    rw [this]
  have e4 : (!vis.toArray.isEmpty && !(es.map (Men.entry enc)).toArray.isEmpty && (es.map (Men.entry enc)).toArray.all fun e => decide (e.born ≥ clock)) = false := by
    cases es with
    | nil => simp
    | cons e es =>
      have h0 := hborn e (by simp)
      have : ((e :: es).map (Men.entry enc)).toArray.all (fun e => decide (e.born ≥ clock)) = false := by
        simp only [List.all_toArray, List.map_cons, List.all_cons, Men.entry]
        rw [decide_eq_false (show ¬ e.b ≥ clock by omega)]; rfl
      rw [this, Bool.and_false]
  have e5 : (Sem.run P (getObj it) W) = .ok (iterO b clock vis) W := by simp [getObj, Sem.run, hWi, iterO]
  cases hl : leftM vis es with
  | nil =>
    rw [hl] at e1 e2 e3
    refine ⟨[.v (.bool false)], m, W, ?_, (by intro y hy; simp at hy; subst hy; rfl), .inl ⟨rfl, rfl, rfl⟩, After.refl hW⟩
    simp only [Prim.run, List.map_cons, List.map_nil, CV.val, Instr.next, Sem.run_bind, e5, Result.andThen_ok, iterO, MapKept.run_getObj_map hWb, mapO, e4, Bool.false_eq_true, if_false, e1, List.map_nil]
    simp [Question.forced, Prim.out, Prim.tup, CV.val]
  | cons e0 es' =>
    have hpos : 0 < (leftM vis es).length := by rw [hl]; simp
    -- which one comes
    have key : ∀ (i : Nat) (W1 : World) (hi : i < (leftM vis es).length), W1.heap = W.heap → After m W m W1 →
        ∃ r m' W', (do
          setObj it (.mapIter (some b) clock (vis.toArray.push ((leftM vis es)[i]).b) clock)
          pure (.tuple #[.bool true, enc ((leftM vis es)[i]).k, ((leftM vis es)[i]).v.val] : Value) : Sem Value).run P W1 = .ok ((Prim.next false).out r) W' ∧ (∀ x ∈ r, x.ok) ∧
          ((leftM vis es = [] ∧ r = [.v (.bool false)] ∧ m' = m) ∨ ∃ e, e ∈ leftM vis es ∧ r = [.v (.bool true), .v (enc e.k), e.v] ∧ m' = m.set it (iterO b clock (vis ++ [e.b]))) ∧ After m W m' W' := by
      intro i W1 hi hheap haft
      have hW1 : Over m W1 := haft.over
      have hm1 := List.getElem_mem hi
      generalize (leftM vis es)[i] = e at hm1
      refine ⟨[.v (.bool true), .v (enc e.k), e.v], _, _, ?_, ?_, .inr ⟨e, hm1, rfl, rfl⟩, haft.trans (After.put hW1 hit _)⟩
      · simp [setObj, Sem.run, hheap, hWi, iterO, Result.andThen, Prim.out, Prim.tup, CV.val]
      · intro y hy
        simp only [List.mem_cons, List.not_mem_nil, or_false] at hy
        rcases hy with rfl | rfl | rfl
        · rfl
        · exact hone _
        · exact hok _ (List.mem_filter.1 hm1).1
    rw [← hl]
    have hne : ((leftM vis es).map (Men.entry enc)).toArray.isEmpty = false := by rw [hl]; simp
    have hsz : (((leftM vis es).map (Men.entry enc)).toArray.map some).size = (leftM vis es).length := by simp
    have hgo : (Instr.next (.pointer (some ⟨it, 0, none⟩)) false ty).run P W = ((choose (.mapNext (leftM vis es).length)).run P W).andThen fun i W1 => (match (((leftM vis es).map (Men.entry enc)).toArray.map some)[i]? with
        | some (some e) => (do setObj it (.mapIter (some b) clock (vis.toArray.push e.born) clock); pure (.tuple #[.bool true, e.key, e.val]) : Sem Value)
        | some none => pure (.tuple #[.bool false])
        | none => stuck "Next: no such candidate").run P W1 := by
      simp only [Instr.next, Sem.run_bind, e5, Result.andThen_ok, iterO, MapKept.run_getObj_map hWb, mapO, e4, Bool.false_eq_true, if_false, e1, e2, e3, hne, Array.append_empty, Array.empty_append, hsz]
      rfl
    have hpick : ∀ i (hi : i < (leftM vis es).length), (((leftM vis es).map (Men.entry enc)).toArray.map some)[i]? = some (some (Men.entry enc (leftM vis es)[i])) := fun i hi => by
      simp [hi]
    have hrun : ∀ a, (Prim.run (.next false) ty [a]) = Instr.next a false ty := fun a => rfl
    simp only [List.map_cons, List.map_nil, CV.val, hrun, hgo, run_choose]
    by_cases hf : (Question.mapNext (leftM vis es).length).forced = true
    · rw [if_pos hf]
      simp only [Result.andThen_ok, hpick 0 hpos]
      exact key 0 W hpos rfl (After.refl hW)
    · rw [if_neg hf]
      have hlt : (Question.mapNext (leftM vis es).length).cut (W.tape W.drawn (.mapNext (leftM vis es).length)) < (leftM vis es).length := Nat.mod_lt _ hpos
      simp only [Result.andThen_ok, hpick _ hlt]
      exact key _ _ hlt rfl (After.refl hW).drew
theorem entryM_spec {m : Mem} {it b clock : Nat} {vis : List Nat} {es : List (Men α)} {e : Men α} (hit : m it = some (iterO b clock (vis ++ [e.b]))) (hb : m b = some (mapO enc es clock)) (he : e ∈ es) (hd : es.Pairwise fun x y => x.b ≠ y.b) (hok : e.v.ok) (hone : (enc e.k).oneCell' = true) :
    PrimSpec P .entry [.v (.pointer (some ⟨it, 0, none⟩))] m fun r m' => r = [.v (enc e.k), e.v] ∧ m = m' := by
  intro _ ty W hW
  have hWi := hW _ _ hit
  have hWb := hW _ _ hb
  have e5 : (Sem.run P (getObj it) W) = .ok (iterO b clock (vis ++ [e.b])) W := by simp [getObj, Sem.run, hWi, iterO]
  have hfind : (es.map (Men.entry enc)).toArray.find? (fun x => x.born == e.b) = some (Men.entry enc e) := by
    rw [List.find?_toArray, List.find?_map]
    have : es.find? ((fun x : MapEntry => x.born == e.b) ∘ Men.entry enc) = some e := by
      clear hb hWb
      induction es with
      | nil => cases he
      | cons x es ih =>
        obtain ⟨h1, h2⟩ := List.pairwise_cons.1 hd
        rw [List.find?_cons]
        rcases List.mem_cons.1 he with rfl | he
        · simp [Men.entry]
        · have hne := h1 e he
          have : ((fun x : MapEntry => x.born == e.b) ∘ Men.entry enc) x = false := by simp [Men.entry, hne]
          rw [this]; exact ih he h2
    rw [this]; rfl
  refine ⟨[.v (enc e.k), e.v], m, W, ?_, ?_, ⟨rfl, rfl⟩, After.refl hW⟩
  · simp only [Prim.run, List.map_cons, List.map_nil, CV.val, Instr.entry, Sem.run_bind, e5, Result.andThen_ok, iterO, MapKept.run_getObj_map hWb, mapO]
    simp [hfind, Prim.out, Prim.tup, resVal, CV.val, Men.entry, MapKept.run_getObj_map hWb]
  · intro y hy
    simp at hy
    rcases hy with rfl | rfl
    · exact hone
    · exact hok
end
end Go.E

/-
  Bytes as numbers.
-/
namespace Go.E.Ytcjmmhamnglmkaa
abbrev nc (l : List Nat) : List Int := l.map fun (n : Nat) => (n : Int)
theorem nc_len (l : List Nat) : (nc l).length = l.length := by simp
end Go.E.Ytcjmmhamnglmkaa

/-
  Files: what they are in memory.
-/
namespace Go.E.Ytcjmmhamnglmkaa
open Go.Proofs
set_option maxRecDepth 100000
/-- a file: its name, the block of its record, its bytes as they lie, how many, how many are safe; when it was born; the memory of its bytes -/
structure Fl where
  name : ByteArray
  bx : Nat
  v : Value
  l : List Nat
  safe : Nat
  born : Nat
  p : Mem
abbrev fileO (v : Value) (safe : Nat) : Obj := .cells #[v, .int .i64 (safe : Int)] 70
abbrev filesO (q : Int) (bm nb ns : Nat) : Obj := .cells #[.int .i64 q, .map (some bm), .int .u64 (nb : Int), .int .u64 (ns : Int)] 52
def Fl.men (f : Fl) : Men ByteArray := ⟨f.name, .v (.pointer (some ⟨f.bx, 0, none⟩)), f.born⟩
def Fl.parts (f : Fl) : List Mem := [blk1 f.bx (fileO f.v f.safe), f.p]
abbrev mapF (F : List Fl) (clock : Nat) : Obj := mapO Value.string (F.map Fl.men) clock
structure Fl.Ok (clock : Nat) (f : Fl) : Prop where
  bs : Bs f.p f.v (nc f.l)
  byt : ∀ x ∈ f.l, x < 256
  safe : f.safe ≤ f.l.length
  born : f.born < clock
/-- files, in a memory of their own -/
structure FS (p : Mem) (bf bm : Nat) (q : Int) (nb ns clock : Nat) (F : List Fl) : Prop where
  sp : Split p (blk1 bf (filesO q bm nb ns) :: blk1 bm (mapF F clock) :: F.flatMap Fl.parts)
  ok : ∀ f ∈ F, f.Ok clock
  names : F.Pairwise fun a b => a.name ≠ b.name
  borns : F.Pairwise fun a b => a.born ≠ b.born
section
variable {p : Mem} {bf bm : Nat} {q : Int} {nb ns clock : Nat} {F : List Fl}
theorem FS.files (h : FS p bf bm q nb ns clock F) : p bf = some (filesO q bm nb ns) := h.sp.sub (a := blk1 bf (filesO q bm nb ns)) (by simp) _ _ (blk1_same ..)
theorem FS.map (h : FS p bf bm q nb ns clock F) : p bm = some (mapF F clock) := h.sp.sub (a := blk1 bm (mapF F clock)) (by simp) _ _ (blk1_same ..)
theorem FS.mem {f : Fl} (h : FS p bf bm q nb ns clock F) (hf : f ∈ F) : p f.bx = some (fileO f.v f.safe) :=
  h.sp.sub (a := blk1 f.bx (fileO f.v f.safe)) (by simp only [List.mem_cons, List.mem_flatMap]; exact .inr (.inr ⟨f, hf, by simp [Fl.parts]⟩)) _ _ (blk1_same ..)
theorem FS.bytes {f : Fl} (h : FS p bf bm q nb ns clock F) (hf : f ∈ F) : Bs p f.v (nc f.l) :=
  (h.ok f hf).bs.sub (h.sp.sub (by simp only [List.mem_cons, List.mem_flatMap]; exact .inr (.inr ⟨f, hf, by simp [Fl.parts]⟩)))
/-- the file of a name -/
def fileOf (F : List Fl) (name : ByteArray) : Option Fl := F.find? fun f => decide (name = f.name)
theorem findM_files (name : ByteArray) : ∀ (F : List Fl), findM name (F.map Fl.men) = (fileOf F name).map fun f => .v (.pointer (some ⟨f.bx, 0, none⟩))
  | [] => rfl
  | f :: F => by
    have ih := findM_files name F
    unfold findM fileOf at *
    rw [List.map_cons, List.find?_cons, List.find?_cons]
    by_cases h : name = f.name
    · simp [h, Fl.men]
    · have e1 : decide (name = f.men.k) = false := decide_eq_false h
      rw [e1, decide_eq_false h]; exact ih
theorem fileOf_mem {name : ByteArray} {f : Fl} (h : fileOf F name = some f) : f ∈ F ∧ f.name = name := by
  refine ⟨List.mem_of_find?_eq_some h, ?_⟩
  have := List.find?_some h
  exact (of_decide_eq_true this).symm
theorem fileOf_split {name : ByteArray} {f : Fl} (h : fileOf F name = some f) : ∃ A B, F = A ++ f :: B ∧ (∀ x ∈ A, x.name ≠ name) ∧ f.name = name := by
  obtain ⟨h1, A, B, h2, h3⟩ := List.find?_eq_some_iff_append.1 h
  exact ⟨A, B, h2, fun x hx e => by have := h3 x hx; simp [e] at this, (of_decide_eq_true h1).symm⟩
end
abbrev ptrB (b : Nat) : CV := .v (.pointer (some ⟨b, 0, none⟩))
theorem pz : (Try.prog.info? 68).bind (·.zero) = some (Value.pointer none) := by kernel_rfl
theorem lookupF {m : Mem} {bm clock : Nat} {F : List Fl} {name : ByteArray} (hb : m bm = some (mapF F clock)) (ok : Bool) :
    PrimSpec Try.prog (.lookup 44 ok) [.v (.map (some bm)), .v (.string name)] m fun r m' => r = (if ok then [((fileOf F name).map fun f => ptrB f.bx).getD (.v (.pointer none)), .v (.bool (fileOf F name).isSome)] else [((fileOf F name).map fun f => ptrB f.bx).getD (.v (.pointer none))]) ∧ m = m' := by
  have h := lookup_spec (P := Try.prog) strKey Try.underlying44 Try.underlying9 (z := .v (.pointer none)) pz rfl (k := name) hb (fun e he => by obtain ⟨f, _, rfl⟩ := List.mem_map.1 he; rfl) ok
  rw [findM_files] at h
  simp only [Option.isSome_map] at h
  exact h
theorem made_nil {m : Mem} : Ret Try.prog 37 [.v (.pointer none)] m [boolV false] := by
  refine en37 rfl (goY ?_)
  conv => whnf
  refine ⟨fun h => absurd h (by decide), fun _ => ?_⟩
  conv => whnf
  exact ⟨rfl, rfl⟩
theorem made_zero {m : Mem} {bf : Nat} {arr : Array Value} (h : m bf = some (.cells arr 52)) (h1 : arr[1]? = some (.map none)) : Ret Try.prog 37 [ptrB bf] m [boolV false] := by
  refine en37 rfl (goY ?_)
  conv => whnf
  refine ⟨fun _ => ?_, fun h => absurd h (by decide)⟩
  conv => whnf
  refine ⟨_, mcell_of h h1, rfl, ?_⟩
  conv => whnf
  exact ⟨rfl, rfl⟩
theorem made_spec {m : Mem} {bf bm : Nat} {arr : Array Value} (h : m bf = some (.cells arr 52)) (h1 : arr[1]? = some (.map (some bm))) : Ret Try.prog 37 [ptrB bf] m [boolV true] := by
  refine en37 rfl (goY ?_)
  conv => whnf
  refine ⟨fun _ => ?_, fun h => absurd h (by decide)⟩
  conv => whnf
  refine ⟨_, mcell_of h h1, rfl, ?_⟩
  conv => whnf
  exact ⟨rfl, rfl⟩
end Go.E.Ytcjmmhamnglmkaa

/-
  Files: what is asked of them.
-/
namespace Go.E.Ytcjmmhamnglmkaa
open Go.Proofs
set_option maxRecDepth 100000
def isFB (c : Nat) : Bool := (decide (97 ≤ c) && decide (c ≤ 122)) || ((decide (48 ≤ c) && decide (c ≤ 57)) || (decide (c = 45) || decide (c = 46)))
def nameOk (l : List Nat) : Bool := decide (0 < l.length) && decide (l.length ≤ 20) && l.all isFB
theorem isFByte_spec {m : Mem} {c : Nat} : Ret Try.prog 38 [.v (.int .u8 (c : Int))] m [boolV (isFB c)] := by
  have e45 : ((c : Int) == 45) = decide (c = 45) := by by_cases h : c = 45 <;> simp [h]; omega
  have e46 : ((c : Int) == 46) = decide (c = 46) := by by_cases h : c = 46 <;> simp [h]; omega
  refine en38 rfl (goY ?_)
  conv => whnf
  repeat' (first | (refine ⟨fun h => ?_, fun h => ?_⟩ <;> conv => whnf) | fail)
  all_goals (refine ⟨?_, rfl⟩; (try simp only [e45, e46] at *); by_cases h45 : c = 45 <;> by_cases h46 : c = 46 <;> simp [isFB, h45, h46] at * <;> omega)
theorem chsAt (s : ByteArray) (i : Nat) : (s.data.toList.getD i 0).toNat = (chs s).getD i 0 := by
  simp only [chs, List.getD_eq_getElem?_getD, List.getElem?_map]
  cases s.data.toList[i]? <;> rfl
theorem isName_spec {m : Mem} {s : ByteArray} (hs : s.size ≤ 1000000) : Ret Try.prog 27 [.v (.string s)] m [boolV (nameOk (chs s))] := by
  refine en27 rfl (goY ?_)
  conv => whnf
  refine .mk (ι := Nat) (fun i => s.size - i) (fun i mm => i ≤ s.size ∧ (∀ x ∈ (chs s).take i, isFB x = true) ∧ mm = m) (fun i => [(0, .c (.v (.string s))), (5, .c (i64 s.size)), (6, .c (i64 i))]) (fun _ => []) 0 ⟨by omega, by simp, rfl⟩ ?_ ?_
  · conv => whnf
    repeat (refine And.intro (by first | with_reducible rfl | exact congrArg (Value.int _) (wi (by omega) (by omega)) | exact wi (by omega) (by omega) | rfl) ?_; conv => whnf)
    first | exact trivial | exact fun _ _ h => h
  rintro i mm ⟨hi, hall, he⟩
  subst mm
  conv => whnf
  refine ⟨fun h => ?_, fun h => ?_⟩
  · have h' := of_decide_eq_true h
    have hlt : i < s.size := by omega
    clear h
    conv => whnf
    repeat (refine And.intro (by first | omega | (simp only [times]; omega)) ?_; conv => whnf)
    rw [Int.toNat_natCast, chsAt]
    first | refine xretk (isFByte_spec) ?_ | refine xret (isFByte_spec) ?_
    conv => whnf
    have hli : i < (chs s).length := by rw [chs_len]; omega
    have hget : (chs s)[i]? = some ((chs s).getD i 0) := by simp [List.getD_eq_getElem?_getD, List.getElem?_eq_getElem hli]
    refine ⟨fun h3 => ?_, fun h3 => ?_⟩
    · conv => whnf
      refine ⟨?_, rfl⟩
      have h3' : isFB ((chs s).getD i 0) = false := by simpa using h3
      have : (chs s).all isFB = false := by
        rw [List.all_eq_false]
        exact ⟨_, List.mem_of_getElem? hget, by simp only [h3', Bool.false_eq_true, not_false_eq_true]⟩
      simp [nameOk, this]
    · conv => whnf
      have h3' : isFB ((chs s).getD i 0) = true := by simpa using h3
      refine ⟨i + 1, ⟨by omega, ?_, rfl⟩, by omega, ?_⟩
      · intro x hx
        rw [List.take_succ_eq_append_getElem hli] at hx
        rcases List.mem_append.1 hx with hx | hx
        · exact hall x hx
        · rw [List.mem_singleton.1 hx]
          rw [List.getElem?_eq_getElem hli] at hget
          rw [Option.some.inj hget]; exact h3'
      · conv => whnf
        repeat (refine And.intro (by first | with_reducible rfl | (first | exact congrArg (Value.int _) (iadd (by omega))) | exact congrArg (Value.int _) (wi (by omega) (by omega)) | exact wi (by omega) (by omega) | rfl) ?_; conv => whnf)
        first | exact trivial | exact fun _ _ h => h
  · have h1' := of_decide_eq_false h
    obtain rfl : i = s.size := by omega
    clear h
    have hl := chs_len s
    rw [← hl, List.take_length] at hall
    have hal : (chs s).all isFB = true := List.all_eq_true.2 hall
    conv => whnf
    refine ⟨fun h => ?_, fun h => ?_⟩
    · have h2 := of_decide_eq_true h
      conv => whnf
      refine ⟨?_, rfl⟩
      simp only [nameOk, hal, hl, Bool.and_true]
      rw [decide_eq_true (show 0 < s.size by omega), Bool.true_and]
      rw [decide_eq_decide.2 (show ((s.size : Int) ≤ 20) ↔ s.size ≤ 20 by omega)]
    · have h2 := of_decide_eq_false h
      conv => whnf
      refine ⟨?_, rfl⟩
      simp only [nameOk, hal, hl, Bool.and_true]
      rw [decide_eq_false (show ¬ 0 < s.size by omega), Bool.false_and]
theorem find_nil {m : Mem} {name : ByteArray} : Ret Try.prog 25 [.v (.pointer none), .v (.string name)] m [.v (.pointer none), i64 6] := by
  refine en25 rfl (goY ?_)
  conv => whnf
  first | refine xretk (made_nil) ?_ | refine xret (made_nil) ?_
  conv => whnf
  refine ⟨fun _ => ?_, fun h => absurd h (by decide)⟩
  conv => whnf
  exact ⟨rfl, rfl⟩
theorem find_zero {m : Mem} {bf : Nat} {arr : Array Value} {name : ByteArray} (h : m bf = some (.cells arr 52)) (h1 : arr[1]? = some (.map none)) : Ret Try.prog 25 [ptrB bf, .v (.string name)] m [.v (.pointer none), i64 6] := by
  refine en25 rfl (goY ?_)
  conv => whnf
  first | refine xretk (made_zero h h1) ?_ | refine xret (made_zero h h1) ?_
  conv => whnf
  refine ⟨fun _ => ?_, fun h => absurd h (by decide)⟩
  conv => whnf
  exact ⟨rfl, rfl⟩
theorem find_spec {m : Mem} {bf bm : Nat} {q : Int} {nb ns clock : Nat} {F : List Fl} {name : ByteArray} (h : FS m bf bm q nb ns clock F) : Ret Try.prog 25 [ptrB bf, .v (.string name)] m (match fileOf F name with
    | some f => [ptrB f.bx, i64 0]
    | none => [.v (.pointer none), i64 4]) := by
  refine en25 rfl (goY ?_)
  conv => whnf
  first | refine xretk (made_spec h.files rfl) ?_ | refine xret (made_spec h.files rfl) ?_
  conv => whnf
  refine ⟨fun h => absurd h (by decide), fun _ => ?_⟩
  conv => whnf
  refine ⟨_, mcell_of h.files rfl, rfl, ?_⟩
  conv => whnf
  refine .mk _ (lookupF h.map true) ?_
  rintro _ _ ⟨rfl, rfl⟩
  conv => whnf
  cases hf : fileOf F name with
  | none =>
    refine ⟨fun _ => ?_, fun h => absurd h (by decide)⟩
    conv => whnf
    exact ⟨rfl, rfl⟩
  | some f =>
    refine ⟨fun h => absurd h (by simp), fun _ => ?_⟩
    conv => whnf
    exact ⟨rfl, rfl⟩
def safeOf (F : List Fl) (name : ByteArray) : Nat := ((fileOf F name).map (·.safe)).getD 0
/-! ### atomic numbers within a record -/
theorem aadd_at {m : Mem} {b o : Nat} {x y : Nat} {arr : Array Value} {T : TypeId} (hb : m b = some (.cells arr T)) (ho : arr[o]? = some (.int .u64 (x : Int))) (hxy : x + y < 18446744073709551616) : Spec Try.prog 28 [.v (.pointer (some ⟨b, o, none⟩)), .v (.int .u64 (y : Int))] m fun r m' => r = [.v (.int .u64 ((x + y : Nat) : Int))] ∧ m' = m.set b (.cells (arr.setIfInBounds o (.int .u64 ((x + y : Nat) : Int))) T) := by
  have ew : IntKind.u64.wrap ((x : Int) + (y : Int)) = ((x + y : Nat) : Int) := by rw [wu (by omega) (by omega)]; omega
  refine en28 rfl (goY ?_)
  conv => whnf
  refine xext (ext_add (P := Try.prog) Try.func39 (by rfl) (by rfl) (by kernel_rfl) (by kernel_rfl) (x := (x : Int)) hb ho) ?_
  rintro _ _ ⟨rfl, rfl⟩
  rw [ew]
  conv => whnf
  exact ⟨rfl, rfl⟩
end Go.E.Ytcjmmhamnglmkaa

/-
  slices.Sort at texts: the library's contract (Derived/Shelf), laid at this program; and as a contract of memory that is owned.
-/
namespace Go.E.Ytcjmmhamnglmkaa
open Go.Proofs
set_option maxRecDepth 100000
def ren : Go.Shelf.Ren := ⟨fun n => if n = 125 then 48 else if n = 128 then 60 else if n = 129 then 61 else if n = 190 then 36 else if n = 258 then 47 else if n = 302 then 51 else if n = 303 then 52 else if n = 304 then 53 else if n = 305 then 54 else if n = 306 then 55 else if n = 307 then 56 else if n = 308 then 57 else if n = 309 then 58 else if n = 310 then 59 else if n = 329 then 64 else if n = 330 then 65 else if n = 333 then 63 else if n = 334 then 66 else if n = 335 then 67 else if n = 336 then 68 else if n = 344 then 69 else 0, fun n => if n = 0 then 0 else if n = 3 then 3 else if n = 4 then 4 else if n = 5 then 5 else if n = 9 then 9 else if n = 31 then 66 else if n = 46 then 100 else if n = 51 then 82 else if n = 53 then 48 else if n = 131 then 114 else if n = 182 then 108 else if n = 183 then 109 else if n = 218 then 118 else if n = 222 then 121 else if n = 228 then 123 else if n = 229 then 124 else 0, fun n => n⟩
theorem laysSort : Lays.n190 Try.prog ren where
  mixed := by kernel_rfl
  f125 := by kernel_rfl
  f128 := by kernel_rfl
  f129 := by kernel_rfl
  f190 := by kernel_rfl
  f258 := by kernel_rfl
  f302 := by kernel_rfl
  f303 := by kernel_rfl
  f304 := by kernel_rfl
  f305 := by kernel_rfl
  f306 := by kernel_rfl
  f307 := by kernel_rfl
  f308 := by kernel_rfl
  f309 := by kernel_rfl
  f310 := by kernel_rfl
  f329 := by kernel_rfl
  f330 := by kernel_rfl
  f333 := by kernel_rfl
  f334 := by kernel_rfl
  f335 := by kernel_rfl
  f336 := by kernel_rfl
  f344 := by kernel_rfl
  t0 := Try.underlying0
  a0 := Try.isAgg0
  z0 := Try.sizeOf0
  v0 := Try.zeroValue0
  t3 := Try.underlying3
  a3 := Try.isAgg3
  z3 := Try.sizeOf3
  v3 := Try.zeroValue3
  t4 := Try.underlying4
  a4 := Try.isAgg4
  z4 := Try.sizeOf4
  v4 := Try.zeroValue4
  t5 := Try.underlying5
  a5 := Try.isAgg5
  z5 := Try.sizeOf5
  v5 := Try.zeroValue5
  t9 := Try.underlying9
  a9 := Try.isAgg9
  z9 := Try.sizeOf9
  v9 := Try.zeroValue9
  t31 := Try.underlying66
  a31 := Try.isAgg66
  z31 := Try.sizeOf66
  v31 := Try.zeroValue66
  t46 := Try.underlying100
  a46 := Try.isAgg100
  z46 := Try.sizeOf100
  v46 := Try.zeroValue100
  t51 := Try.underlying82
  a51 := Try.isAgg82
  z51 := Try.sizeOf82
  v51 := Try.zeroValue82
  t53 := Try.underlying48
  a53 := Try.isAgg48
  z53 := Try.sizeOf48
  v53 := Try.zeroValue48
  t131 := Try.underlying114
  a131 := Try.isAgg114
  z131 := Try.sizeOf114
  v131 := Try.zeroValue114
  t182 := Try.underlying108
  a182 := Try.isAgg108
  z182 := Try.sizeOf108
  v182 := Try.zeroValue108
  t183 := Try.underlying109
  a183 := Try.isAgg109
  z183 := Try.sizeOf109
  v183 := Try.zeroValue109
  t218 := Try.underlying118
  a218 := Try.isAgg118
  z218 := Try.sizeOf118
  v218 := Try.zeroValue118
  t222 := Try.underlying121
  a222 := Try.isAgg121
  z222 := Try.sizeOf121
  v222 := Try.zeroValue121
  t228 := Try.underlying123
  a228 := Try.isAgg123
  z228 := Try.sizeOf123
  v228 := Try.zeroValue123
  t229 := Try.underlying124
  a229 := Try.isAgg124
  z229 := Try.sizeOf124
  v229 := Try.zeroValue124
end Go.E.Ytcjmmhamnglmkaa

/-
  slices.Sort at texts, of memory that is owned.
-/
namespace Go.E.Ytcjmmhamnglmkaa
open Go.Proofs
set_option maxRecDepth 100000
def encB (s : ByteArray) : List UInt8 := s.data.toList
def srtB (ss : List ByteArray) : List ByteArray := ((ss.map encB).mergeSort fun x y => decide (x ≤ y)).map fun l => ⟨l.toArray⟩
theorem srtB_len (ss : List ByteArray) : (srtB ss).length = ss.length := by simp [srtB, List.length_mergeSort]
theorem enters_sort : Enters Try.prog 36 := fun args w => by
  have h1 : Try.prog.funcs[36]? = some Try.f36 := Try.func36
  have h2 : (Try.f36.name == "runtime.NumGoroutine") = false := by kernel_rfl
  have h3 : ∃ c, Try.f36.body = some c := ⟨_, rfl⟩
  obtain ⟨c, h3⟩ := h3
  have hn' : ¬ Try.f36.name = "runtime.NumGoroutine" := by simpa using h2
  simp [callFunc, h1, h3, hn']
theorem after_sorted {m : Mem} {W : World} (hW : Over m W) {b o k : Nat} {arr : Array Value} {T : TypeId} {fr : Nat × Nat} (hb : m b = some (.cells arr T fr)) (d : Array (List UInt8)) (os : Array Obj) :
    After m W (m.set b (.cells (Sort.putCells encStr o d arr) T fr)) (Sort.grow (Sort.putRow encStr (Sort.ahead W k) b o d) os) := by
  have hWb := hW _ _ hb
  have hlt := hW.lt hb
  have hold : ∀ x, x < W.heap.size → (Sort.grow (Sort.putRow encStr (Sort.ahead W k) b o d) os).heap[x]? = if b = x then some (.cells (Sort.putCells encStr o d arr) T fr) else W.heap[x]? := fun x hx => by
    have e : (Sort.grow (Sort.putRow encStr (Sort.ahead W k) b o d) os).heap = W.heap.modify b (Sort.onCells (Sort.putCells encStr o d)) ++ os := rfl
    rw [e, Array.getElem?_append_left (by simpa using hx), Array.getElem?_modify]
    by_cases h : b = x
    · subst h; simp [hWb, Sort.onCells]
    · simp [h]
  refine ⟨fun x u hx => ?_, ?_, rfl, rfl, rfl, fun x hx hn => ?_⟩
  · by_cases h : x = b
    · subst h; rw [Mem.set_same] at hx; rw [hold _ hlt, if_pos rfl]; exact hx
    · rw [Mem.set_ne _ _ h] at hx
      rw [hold _ (hW.lt hx), if_neg (Ne.symm h)]; exact hW _ _ hx
  · show W.heap.size ≤ (W.heap.modify b (Sort.onCells (Sort.putCells encStr o d)) ++ os).size
    simp
  · have h : x ≠ b := fun e => by subst e; rw [hb] at hn; cases hn
    exact ⟨by rw [Mem.set_ne _ _ h]; exact hn, by rw [hold _ hx, if_neg (Ne.symm h)]⟩
theorem sort_spec {m : Mem} {v : Value} {ss : List ByteArray} (hv : Own m 9 1 v (ss.map Value.string)) (hl : ss.length ≤ 1000000) : Spec Try.prog 36 [.v v] m fun r m' => r = [] ∧ Own m' 9 1 v ((srtB ss).map Value.string) := by
  refine ⟨enters_sort, fun _ W hW => ?_⟩
  rcases hv with ⟨rfl, e⟩ | ⟨b, o, c, n, arr, rfl, h1, h2, h3, h4, h5, h6⟩
  · have hs : ss = [] := by cases ss with | nil => rfl | cons _ _ => cases e
    subst hs
    exact (Any.slices_Sort_string_none laysSort none 0 W).mono fun e W' ⟨h1, h2⟩ => ⟨[], m, h1, by simp, ⟨rfl, .inl ⟨rfl, by simp [srtB]⟩⟩, by subst h2; exact After.refl hW⟩
  · have hn : ss.length = n := by simpa using h2
    subst hn
    have hWb := hW _ _ h1
    have hlt : b < W.heap.size := hW.lt h1
    have hH : Sort.Holds encStr W b o (ss.map encB).toArray := fun j hj => by
      have hj' : j < ss.length := by simpa using hj
      refine ⟨?_, by simp [World.frozen?, hWb]⟩
      rw [cell_at hWb]
      have := h5 j (.string ss[j]) (by simp [hj'])
      rw [this]
      simp [hj', encB, encStr]
    have hc := calls_of_every_depth fun D => AnyS.slices_Sort_string_alone laysSort D b o c (ss.map encB) W hH hlt (by simp; omega)
    rw [List.length_map] at hc
    refine hc.mono fun e W' ⟨he, k, os, hw⟩ => ?_
    subst he
    subst hw
    refine ⟨[], _, rfl, by simp, ⟨rfl, .inr ⟨b, o, c, ss.length, _, rfl, Mem.set_same .., by rw [List.length_map, srtB_len, Nat.mul_one], h3, ?_, fun j u hu => ?_, ?_⟩⟩, after_sorted hW h1 _ _⟩
    · simp only [Sort.putCells, Array.size_mapIdx]; exact h4
    · have hjl : j < ss.length := by have := (List.getElem?_eq_some_iff.1 hu).1; rw [List.length_map, srtB_len] at this; exact this
      have hsz : ((ss.map encB).mergeSort fun x y => decide (x ≤ y)).toArray.size = ss.length := by simp [List.length_mergeSort]
      have hoj : o + j < arr.size := by omega
      rw [Sort.putCells, Array.getElem?_mapIdx, Array.getElem?_eq_getElem hoj, Option.map_some, if_pos ⟨by omega, by omega⟩, show o + j - o = j by omega, getElem!_pos _ j (by omega)]
      rw [srtB, List.map_map, List.getElem?_map] at hu
      rw [← hu]
      simp [List.getElem?_eq_getElem (show j < ((ss.map encB).mergeSort fun x y => decide (x ≤ y)).length by simpa [List.length_mergeSort] using hjl)]
    · intro u hu
      obtain ⟨x, _, rfl⟩ := List.mem_map.1 hu
      rfl
end Go.E.Ytcjmmhamnglmkaa

/-
  Files: what goes over all of them.
-/
namespace Go.E.Ytcjmmhamnglmkaa
open Go.Proofs
set_option maxRecDepth 100000
/-- some files, of other births each, are a part of all -/
theorem subR : ∀ {vis F : List Fl}, (vis.Pairwise fun a b => a.born ≠ b.born) → (∀ f ∈ vis, f ∈ F) → ∃ R, (vis ++ R).Perm F
  | [], F, _, _ => ⟨F, List.Perm.refl _⟩
  | x :: vs, F, hv, hF => by
    obtain ⟨h1, h2⟩ := List.pairwise_cons.1 hv
    obtain ⟨A, B, rfl⟩ := List.append_of_mem (hF x (by simp))
    obtain ⟨R, hR⟩ := subR (vis := vs) (F := A ++ B) h2 fun f hf => by
      have := hF f (by simp [hf])
      rcases List.mem_append.1 this with h | h
      · exact List.mem_append_left _ h
      · rcases List.mem_cons.1 h with rfl | h
        · exact absurd rfl (h1 f hf)
        · exact List.mem_append_right _ h
    refine ⟨R, ?_⟩
    exact (List.Perm.cons x hR).trans List.perm_middle.symm
theorem allR {vis F : List Fl} (hv : vis.Pairwise fun a b => a.born ≠ b.born) (hF : ∀ f ∈ vis, f ∈ F) (hb : F.Pairwise fun a b => a.born ≠ b.born) (hall : ∀ f ∈ F, ∃ g ∈ vis, g.born = f.born) : vis.Perm F := by
  obtain ⟨R, hR⟩ := subR hv hF
  cases R with
  | nil => simpa using hR
  | cons r R =>
    exfalso
    have hp := (List.Perm.pairwise_iff (fun h => Ne.symm h) hR).2 hb
    have hr : r ∈ F := hR.subset (by simp)
    obtain ⟨g, hg, e⟩ := hall r hr
    exact (List.pairwise_append.1 hp).2.2 g hg r (by simp) e
def total (F : List Fl) : Nat := (F.map fun f => f.l.length).sum
theorem total_perm {F G : List Fl} (h : F.Perm G) : total F = total G := (h.map _).sum_nat
theorem total_sub {vis F : List Fl} (hv : vis.Pairwise fun a b => a.born ≠ b.born) (hF : ∀ f ∈ vis, f ∈ F) : total vis ≤ total F := by
  obtain ⟨R, hR⟩ := subR hv hF
  rw [← total_perm hR]
  simp only [total, List.map_append, List.sum_append]; omega
theorem len_sub {vis F : List Fl} (hv : vis.Pairwise fun a b => a.born ≠ b.born) (hF : ∀ f ∈ vis, f ∈ F) : vis.length ≤ F.length := by
  obtain ⟨R, hR⟩ := subR hv hF
  rw [← hR.length_eq, List.length_append]; omega
/-- where a range is: at these files -/
structure Vis (F vis : List Fl) : Prop where
  born : vis.Pairwise fun a b => a.born ≠ b.born
  sub : ∀ f ∈ vis, f ∈ F
theorem Vis.start (F : List Fl) : Vis F [] := ⟨by simp, by simp⟩
theorem Vis.step {F vis : List Fl} {f : Fl} (h : Vis F vis) (hf : f ∈ F) (hn : ∀ g ∈ vis, g.born ≠ f.born) : Vis F (vis ++ [f]) := by
  refine ⟨List.pairwise_append.2 ⟨h.born, by simp, fun a ha b hb => ?_⟩, fun g hg => ?_⟩
  · rw [List.mem_singleton.1 hb]; exact hn a ha
  · rcases List.mem_append.1 hg with hg | hg
    · exact h.sub g hg
    · rw [List.mem_singleton.1 hg]; exact hf
theorem left_of {F vis : List Fl} {e : Men ByteArray} (he : e ∈ leftM (vis.map (·.born)) (F.map Fl.men)) : ∃ f ∈ F, e = f.men ∧ ∀ g ∈ vis, g.born ≠ f.born := by
  obtain ⟨h1, h2⟩ := List.mem_filter.1 he
  obtain ⟨f, hf, rfl⟩ := List.mem_map.1 h1
  refine ⟨f, hf, rfl, fun g hg e => ?_⟩
  simp only [Fl.men, Bool.not_eq_true', List.contains_eq_mem, decide_eq_false_iff_not] at h2
  exact h2 (List.mem_map.2 ⟨g, hg, e⟩)
theorem left_nil {F vis : List Fl} (h : Vis F vis) (hb : F.Pairwise fun a b => a.born ≠ b.born) (he : leftM (vis.map (·.born)) (F.map Fl.men) = []) : vis.Perm F := by
  refine allR h.born h.sub hb fun f hf => ?_
  have := List.filter_eq_nil_iff.1 he f.men (List.mem_map.2 ⟨f, hf, rfl⟩)
  simp only [Fl.men, Bool.not_eq_true', List.contains_eq_mem, decide_eq_false_iff_not, Decidable.not_not] at this
  obtain ⟨g, hg, e⟩ := List.mem_map.1 this
  exact ⟨g, hg, e⟩
/-! ### lists of texts -/
theorem hSs : ∃ ti, tt.get 66 = some ti ∧ ti.k = .slice 9 := ⟨_, rfl, rfl⟩
theorem hSt : ∃ ti, tt.get 9 = some ti ∧ ti.size = 1 ∧ ti.bytes = 16 ∧ (LB.cells ti.zero).length = 1 := ⟨_, rfl, rfl, rfl, rfl⟩
abbrev sc (ss : List ByteArray) : List Value := ss.map Value.string
def So (m : Mem) (v : Value) (ss : List ByteArray) : Prop := Own m 9 1 v (sc ss)
def Sl (m : Mem) (v : Value) (ss : List ByteArray) : Prop := Lies m 1 v (sc ss)
theorem So.sl {m : Mem} {v : Value} {ss : List ByteArray} (h : So m v ss) : Sl m v ss := Own.lies h
theorem So.sub {m m' : Mem} {v : Value} {ss : List ByteArray} (h : So m v ss) (hs : Sub m m') : So m' v ss := Own.sub h hs
theorem Sl.sub {m m' : Mem} {v : Value} {ss : List ByteArray} (h : Sl m v ss) (hs : Sub m m') : Sl m' v ss := Lies.sub h hs
theorem So.nil (m : Mem) : So m (.slice none 0 0) [] := .inl ⟨rfl, rfl⟩
theorem Sl.shape {m : Mem} {v : Value} {ss : List ByteArray} (h : Sl m v ss) : ∃ a c, v = .slice a ss.length c := by
  rcases h with ⟨c, rfl, e⟩ | ⟨b, o, c, n, arr, t, fr, rfl, _, e, _⟩
  · have : ss.length = 0 := by simpa using congrArg List.length e
    exact ⟨none, c, by rw [this]⟩
  · have : ss.length = n := by simpa using e
    exact ⟨_, c, by rw [this]⟩
theorem Sl.real {m : Mem} {v : Value} {ss : List ByteArray} (h : Sl m v ss) {i : Nat} (hi : i < ss.length) : ∃ b o c, v = .slice (some ⟨b, o, none⟩) ss.length c ∧ ∀ j (hj : j < ss.length), mcell m b (o + j) = some (.string ss[j]) := by
  rcases h with ⟨c, rfl, e⟩ | ⟨b, o, c, n, arr, t, fr, rfl, g1, e, _, g2, _⟩
  · have : ss.length = 0 := by simpa using congrArg List.length e
    omega
  · have : ss.length = n := by simpa using e
    exact ⟨b, o, c, by rw [this], fun j hj => mcell_of g1 (g2 j _ (by simp [hj]))⟩
theorem buildS1 {m : Mem} {x : ByteArray} : PrimSpec Try.prog (.buildSlice 66 1 [0]) [.v (.string x)] m fun r m' => ∃ b, m b = none ∧ r = [.v (.slice (some ⟨b, 0, none⟩) 1 1)] ∧ m' = m.set b (.cells #[.string x] 9) := by
  obtain ⟨ti, h1, h2⟩ := hSs
  obtain ⟨ei, g1, g2, g3, g4⟩ := hSt
  exact (buildSlice_spec (n := 1) tt_ok h1 h2 g1 rfl rfl (by simp [CV.cs, g2]) (by omega) (by omega)).mono fun r m' ⟨b, e1, e2, e3⟩ => ⟨b, e1, e2, e3⟩
/-- one text more -/
theorem pushS {m p : Mem} {ls : List Mem} {i b' : Nat} {x : ByteArray} {y : Value} {ss : List ByteArray} (hs : Split m ls) (hi : ls[i]? = some p) (hb : m b' = none) (hy : So p y ss) (hl : ss.length ≤ 10000000) :
    PrimSpec Try.prog (.builtin .append [66, 66]) [.v y, .v (.slice (some ⟨b', 0, none⟩) 1 1)] (m.set b' (.cells #[.string x] 9)) fun r m' => ∃ y' p', r = [.v y'] ∧ Split m' (ls.set i p') ∧ So p' y' (ss ++ [x]) := by
  obtain ⟨ti, h1, h2⟩ := hSs
  obtain ⟨ei, g1, g2, g3, g4⟩ := hSt
  have hs1 := hs.new hb (.cells #[.string x] 9)
  have e1 : lenV y = ss.length := by obtain ⟨a, c, rfl⟩ := hy.sl.shape; rfl
  have e2 : lenV (.slice (some ⟨b', 0, none⟩) 1 1) = 1 := rfl
  have g : Gives (m.set b' (.cells #[.string x] 9)) ei.size ti.k (.slice (some ⟨b', 0, none⟩) 1 1) (sc [x]) := by
    rw [h2, g2]
    exact .inl ⟨_, rfl, .inl (.inr ⟨b', 0, 1, 1, _, _, _, rfl, Mem.set_same .., rfl, Nat.le_refl _, fun j u hu => by rw [Nat.zero_add, List.getElem?_toArray]; exact hu, by simp [Value.oneCell']⟩)⟩
  have hy' : Own p 9 ei.size y (sc ss) := by rw [g2]; exact hy
  refine (append_at (news := sc [x]) tt_ok h1 h2 g1 h1 (by rw [g2, g4]) hs1 (i := i + 1) (by simpa using hi) hy' g (by rw [e1, e2, g3]; omega) (by rw [e1, e2]; omega)).mono fun r m' ⟨v', p', q1, q2, q3⟩ => ⟨v', p', q1, q2.erase 0, ?_⟩
  have := q3.own
  rw [g2] at this
  rw [So, sc, List.map_append]; exact this
theorem names_nil {m : Mem} : Spec Try.prog 24 [.v (.pointer none)] m fun r m' => r = [.v (.slice none 0 0)] ∧ Sub m m' := by
  refine en24 rfl (goY ?_)
  conv => whnf
  refine ⟨fun h => absurd h (by decide), fun _ => ?_⟩
  conv => whnf
  refine xcall ((sort_spec (m := emp) (ss := []) (.inl ⟨rfl, rfl⟩) (by simp)).frame ((Split.one m).addEmp)) ?_
  rintro _ m1 ⟨p1, ⟨rfl, hv⟩, hs⟩
  conv => whnf
  exact ⟨rfl, hs.sub (by simp)⟩
theorem leU_trans (a b c : List UInt8) (h : decide (a ≤ b) = true) (k : decide (b ≤ c) = true) : decide (a ≤ c) = true := decide_eq_true (List.le_trans (of_decide_eq_true h) (of_decide_eq_true k))
theorem leU_total (a b : List UInt8) : (decide (a ≤ b) || decide (b ≤ a)) = true := by
  rcases List.le_total a b with h | h <;> simp [h]
theorem srtU_perm {l l' : List (List UInt8)} (h : l.Perm l') : (l.mergeSort fun x y => decide (x ≤ y)) = l'.mergeSort fun x y => decide (x ≤ y) :=
  List.Perm.eq_of_pairwise (le := fun a b => decide (a ≤ b) = true) (fun a b _ _ h1 h2 => List.le_antisymm (of_decide_eq_true h1) (of_decide_eq_true h2)) (List.pairwise_mergeSort leU_trans leU_total l) (List.pairwise_mergeSort leU_trans leU_total l')
    (((List.mergeSort_perm l _).trans h).trans (List.mergeSort_perm l' _).symm)
theorem srtB_perm {a b : List ByteArray} (h : a.Perm b) : srtB a = srtB b := by
  rw [srtB, srtB, srtU_perm (h.map encB)]
/-- the names, by their order -/
def namesF (F : List Fl) : List ByteArray := srtB (F.map (·.name))
theorem used_nil {m : Mem} : Ret Try.prog 15 [.v (.pointer none)] m [i64 0] := by
  refine en15 rfl (goY ?_)
  conv => whnf
  refine ⟨fun h => absurd h (by decide), fun _ => ?_⟩
  conv => whnf
  exact ⟨rfl, rfl⟩
theorem mapHyp {F : List Fl} {P : Fl → Prop} (h : ∀ f ∈ F, P f) {Q : Men ByteArray → Prop} (hq : ∀ f, P f → Q f.men) : ∀ e ∈ F.map Fl.men, Q e := fun e he => by
  obtain ⟨f, hf, rfl⟩ := List.mem_map.1 he; exact hq f (h f hf)
set_option maxHeartbeats 1000000 in
theorem used_spec {m : Mem} {bf bm : Nat} {q : Int} {nb ns clock : Nat} {F : List Fl} (h : FS m bf bm q nb ns clock F) (ht : total F ≤ 1000000000000) : Spec Try.prog 15 [ptrB bf] m fun r m' => r = [i64 (total F)] ∧ Sub m m' := by
  refine en15 rfl (goY ?_)
  conv => whnf
  refine ⟨fun _ => ?_, fun h => absurd h (by decide)⟩
  conv => whnf
  refine ⟨_, mcell_of h.files rfl, rfl, ?_⟩
  conv => whnf
  refine .mk _ (rangeM_spec (P := Try.prog) Try.underlying44 h.map) ?_
  rintro _ _ ⟨it, hit, rfl, rfl⟩
  conv => whnf
  refine .mk (ι := List Fl) (fun vis => F.length - vis.length) (fun vis mm => Vis F vis ∧ mm = m.set it (iterO bm clock (vis.map (·.born)))) (fun vis => [(3, .c (i64 (total vis))), (12, .c (ptrB it))]) (fun _ => []) [] ⟨Vis.start F, rfl⟩ ?_ ?_
  · conv => whnf
    repeat (refine And.intro (by first | with_reducible rfl | exact congrArg (Value.int _) (wi (by omega) (by omega)) | exact wi (by omega) (by omega) | rfl) ?_; conv => whnf)
    first | exact trivial | exact fun _ _ h => h
  rintro vis mm ⟨hv, rfl⟩
  have hbm : (m.set it (iterO bm clock (vis.map (·.born)))) bm = some (mapF F clock) := Mem.sub_set _ hit _ _ h.map
  conv => whnf
  refine .mk _ (nextM_spec (P := Try.prog) (Mem.set_same ..) hbm (mapHyp h.ok fun f hf => hf.born) (mapHyp h.ok fun f _ => rfl) (fun _ => rfl)) ?_
  rintro _ m' (⟨he, rfl, rfl⟩ | ⟨e, he, rfl, rfl⟩)
  · conv => whnf
    refine ⟨fun h => absurd h (by decide), fun _ => ?_⟩
    conv => whnf
    have hp := left_nil hv h.borns he
    exact ⟨by rw [total_perm hp], Mem.sub_set _ hit⟩
  · obtain ⟨f, hf, rfl, hn⟩ := left_of he
    have hv2 := hv.step hf hn
    have hlen := len_sub hv2.born hv2.sub
    have htot := total_sub hv2.born hv2.sub
    have et : total (vis ++ [f]) = total vis + f.l.length := by simp [total]
    rw [List.length_append, List.length_singleton] at hlen
    rw [Mem.set_set]
    have hbm : (m.set it (iterO bm clock (vis.map (·.born) ++ [f.men.b]))) bm = some (mapF F clock) := Mem.sub_set _ hit _ _ h.map
    have hfx : (m.set it (iterO bm clock (vis.map (·.born) ++ [f.men.b]))) f.bx = some (fileO f.v f.safe) := Mem.sub_set _ hit _ _ (h.mem hf)
    obtain ⟨a, c, hfv⟩ := (h.bytes hf).lb.shape
    rw [nc_len] at hfv
    conv => whnf
    refine ⟨fun _ => ?_, fun h => absurd h (by decide)⟩
    conv => whnf
    refine .mk _ (entryM_spec (P := Try.prog) (Mem.set_same ..) hbm (List.mem_map.2 ⟨f, hf, rfl⟩) (List.pairwise_map.2 h.borns) rfl rfl) ?_
    rintro _ _ ⟨rfl, rfl⟩
    conv => whnf
    rw [hfv] at hfx
    refine ⟨_, mcell_of hfx rfl, rfl, ?_⟩
    conv => whnf
    have ew : IntKind.i64.wrap ((total vis : Int) + (f.l.length : Int)) = ((total (vis ++ [f]) : Nat) : Int) := by rw [et, wi (by omega) (by omega)]; omega
    refine ⟨vis ++ [f], ⟨hv2, by rw [List.map_append]; rfl⟩, by simp; omega, ?_⟩
    conv => whnf
    repeat (refine And.intro (by first | with_reducible rfl | (first | exact congrArg (Value.int _) ew) | exact congrArg (Value.int _) (wi (by omega) (by omega)) | exact wi (by omega) (by omega) | rfl) ?_; conv => whnf)
    first | exact trivial | exact fun _ _ h => h
set_option maxHeartbeats 1000000 in
theorem names_spec {m : Mem} {bf bm : Nat} {q : Int} {nb ns clock : Nat} {F : List Fl} (h : FS m bf bm q nb ns clock F) (hl : F.length ≤ 1000000) : Spec Try.prog 24 [ptrB bf] m fun r m' => ∃ v p, r = [.v v] ∧ Split m' [p, m] ∧ So p v (namesF F) := by
  refine en24 rfl (goY ?_)
  conv => whnf
  refine ⟨fun _ => ?_, fun h => absurd h (by decide)⟩
  conv => whnf
  refine ⟨_, mcell_of h.files rfl, rfl, ?_⟩
  conv => whnf
  refine .mk _ (rangeM_spec (P := Try.prog) Try.underlying44 h.map) ?_
  rintro _ _ ⟨it, hit, rfl, rfl⟩
  conv => whnf
  refine .mk (ι := List Fl × Value) (fun i => F.length - i.1.length) (fun ⟨vis, v⟩ mm => Vis F vis ∧ ∃ p, Split mm [p, blk1 it (iterO bm clock (vis.map (·.born))), m] ∧ So p v (vis.map (·.name))) (fun ⟨vis, v⟩ => [(3, .c (.v v)), (11, .c (ptrB it))]) (fun _ => []) ([], .slice none 0 0) ⟨Vis.start F, emp, ((Split.one m).new hit _).addEmp, So.nil _⟩ ?_ ?_
  · conv => whnf
    repeat (refine And.intro (by first | with_reducible rfl | exact congrArg (Value.int _) (wi (by omega) (by omega)) | exact wi (by omega) (by omega) | rfl) ?_; conv => whnf)
    first | exact trivial | exact fun _ _ h => h
  rintro ⟨vis, v⟩ mm ⟨hv, p, hs, hvs⟩
  have hbm : mm bm = some (mapF F clock) := hs.sub (a := m) (by simp) _ _ h.map
  have hit' : mm it = some (iterO bm clock (vis.map (·.born))) := hs.sub (a := blk1 it (iterO bm clock (vis.map (·.born)))) (by simp) _ _ (blk1_same ..)
  conv => whnf
  refine .mk _ (nextM_spec (P := Try.prog) hit' hbm (mapHyp h.ok fun f hf => hf.born) (mapHyp h.ok fun f _ => rfl) (fun _ => rfl)) ?_
  rintro _ m' (⟨he, rfl, rfl⟩ | ⟨e, he, rfl, rfl⟩)
  · conv => whnf
    refine ⟨fun h => absurd h (by decide), fun _ => ?_⟩
    conv => whnf
    have hp := left_nil hv h.borns he
    have hlen : vis.length = F.length := hp.length_eq
    refine xcall ((sort_spec (m := p) hvs (by rw [List.length_map]; omega)).frame hs) ?_
    rintro _ m2 ⟨p2, ⟨rfl, hv2⟩, hs2⟩
    conv => whnf
    refine ⟨v, p2, rfl, hs2.erase 1, ?_⟩
    rw [namesF, ← srtB_perm (hp.map _)]; exact hv2
  · obtain ⟨f, hf, rfl, hn⟩ := left_of he
    have hv2 := hv.step hf hn
    have hlen := len_sub hv2.born hv2.sub
    rw [List.length_append, List.length_singleton] at hlen
    have hs1 := hs.setAt (i := 1) rfl (blk1_same ..) (iterO bm clock (vis.map (·.born) ++ [f.men.b]))
    rw [blk1_set] at hs1
    have hs1 : Split _ [p, blk1 it (iterO bm clock (vis.map (·.born) ++ [f.men.b])), m] := hs1
    have hbm : (mm.set it (iterO bm clock (vis.map (·.born) ++ [f.men.b]))) bm = some (mapF F clock) := hs1.sub (a := m) (by simp) _ _ h.map
    conv => whnf
    refine ⟨fun _ => ?_, fun h => absurd h (by decide)⟩
    conv => whnf
    refine .mk _ (entryM_spec (P := Try.prog) (Mem.set_same ..) hbm (List.mem_map.2 ⟨f, hf, rfl⟩) (List.pairwise_map.2 h.borns) rfl rfl) ?_
    rintro _ _ ⟨rfl, rfl⟩
    conv => whnf
    refine .mk _ (buildS1) ?_
    rintro _ _ ⟨b, hb, rfl, rfl⟩
    conv => whnf
    refine .mk _ (pushS (i := 0) hs1 rfl hb hvs (by rw [List.length_map]; omega)) ?_
    rintro _ m' ⟨v', p', rfl, hs', hv'⟩
    conv => whnf
    refine ⟨(vis ++ [f], v'), ⟨hv2, p', by rw [List.map_append]; exact hs', by rw [List.map_append]; exact hv'⟩, by simp; omega, ?_⟩
    conv => whnf
    repeat (refine And.intro (by first | with_reducible rfl | exact congrArg (Value.int _) (wi (by omega) (by omega)) | exact wi (by omega) (by omega) | rfl) ?_; conv => whnf)
    first | exact trivial | exact fun _ _ h => h
end Go.E.Ytcjmmhamnglmkaa

/-
  Files: what changes them.
-/
namespace Go.E.Ytcjmmhamnglmkaa
open Go.Proofs
set_option maxRecDepth 100000
section
variable {p : Mem} {bf bm : Nat} {q : Int} {nb ns clock : Nat} {A B : List Fl} {f g : Fl}
/-- one file taken out of the parts -/
theorem partsPerm (A B : List Fl) (f : Fl) (X Y : Mem) : (X :: Y :: (A ++ f :: B).flatMap Fl.parts).Perm (blk1 f.bx (fileO f.v f.safe) :: f.p :: X :: Y :: (A ++ B).flatMap Fl.parts) := by
  rw [List.flatMap_append, List.flatMap_cons, List.flatMap_append]
  have h1 : (A.flatMap Fl.parts ++ (f.parts ++ B.flatMap Fl.parts)).Perm (f.parts ++ (A.flatMap Fl.parts ++ B.flatMap Fl.parts)) := by
    rw [← List.append_assoc, ← List.append_assoc]
    exact List.Perm.append_right _ List.perm_append_comm
  refine (List.Perm.cons X (List.Perm.cons Y h1)).trans ?_
  show (X :: Y :: (blk1 f.bx (fileO f.v f.safe) :: f.p :: (A.flatMap Fl.parts ++ B.flatMap Fl.parts))).Perm _
  exact (List.perm_append_comm (l₁ := [X, Y]) (l₂ := [blk1 f.bx (fileO f.v f.safe), f.p])).append_right _
theorem FS.pick (h : FS p bf bm q nb ns clock (A ++ f :: B)) : Split p (blk1 f.bx (fileO f.v f.safe) :: f.p :: blk1 bf (filesO q bm nb ns) :: blk1 bm (mapF (A ++ f :: B) clock) :: (A ++ B).flatMap Fl.parts) := h.sp.perm (partsPerm A B f _ _)
theorem men_same (h1 : g.name = f.name) (h2 : g.bx = f.bx) (h3 : g.born = f.born) : (A ++ g :: B).map Fl.men = (A ++ f :: B).map Fl.men := by
  simp only [List.map_append, List.map_cons, Fl.men, h1, h2, h3]
/-- a file that was changed put back -/
theorem FS.put (h : FS p bf bm q nb ns clock (A ++ f :: B)) {p' : Mem} {nb' ns' : Nat} (h1 : g.name = f.name) (h2 : g.bx = f.bx) (h3 : g.born = f.born) (hok : g.Ok clock)
    (hs : Split p' (blk1 f.bx (fileO g.v g.safe) :: g.p :: blk1 bf (filesO q bm nb' ns') :: blk1 bm (mapF (A ++ f :: B) clock) :: (A ++ B).flatMap Fl.parts)) : FS p' bf bm q nb' ns' clock (A ++ g :: B) := by
  refine ⟨?_, ?_, ?_, ?_⟩
  · have e : mapF (A ++ g :: B) clock = mapF (A ++ f :: B) clock := by rw [mapF, mapF, men_same h1 h2 h3]
    rw [e]
    rw [← h2] at hs
    exact hs.perm (partsPerm A B g _ _).symm
  · intro x hx
    rcases List.mem_append.1 hx with hx | hx
    · exact h.ok x (by simp [hx])
    · rcases List.mem_cons.1 hx with rfl | hx
      · exact hok
      · exact h.ok x (by simp [hx])
  · have := h.names
    have e : (A ++ g :: B).map (·.name) = (A ++ f :: B).map (·.name) := by simp [h1]
    have h4 := List.pairwise_map.2 this
    rw [← e] at h4
    exact List.pairwise_map.1 h4
  · have := h.borns
    have e : (A ++ g :: B).map (·.born) = (A ++ f :: B).map (·.born) := by simp [h3]
    have h4 := List.pairwise_map.2 this
    rw [← e] at h4
    exact List.pairwise_map.1 h4
end
/-- files with one changed -/
def mapAt (F : List Fl) (name : ByteArray) (k : Fl → Fl) : List Fl := F.map fun f => if f.name = name then k f else f
theorem mapAt_split {A B : List Fl} {f : Fl} {k : Fl → Fl} (hn : (A ++ f :: B).Pairwise fun a b => a.name ≠ b.name) : mapAt (A ++ f :: B) f.name k = A ++ k f :: B := by
  obtain ⟨h1, h2, h3⟩ := List.pairwise_append.1 hn
  obtain ⟨h4, _⟩ := List.pairwise_cons.1 h2
  have ea : A.map (fun g => if g.name = f.name then k g else g) = A := by
    refine (List.map_congr_left fun g hg => ?_).trans (List.map_id A)
    rw [if_neg (h3 g hg f (by simp))]; rfl
  have eb : B.map (fun g => if g.name = f.name then k g else g) = B := by
    refine (List.map_congr_left fun g hg => ?_).trans (List.map_id B)
    rw [if_neg (Ne.symm (h4 g hg))]; rfl
  rw [mapAt, List.map_append, List.map_cons, ea, eb, if_pos rfl]
theorem cells4 {q : Int} {bm nb ns x : Nat} : (#[.int .i64 q, .map (some bm), .int .u64 (nb : Int), .int .u64 (ns : Int)] : Array Value).setIfInBounds 3 (.int .u64 (x : Int)) = #[.int .i64 q, .map (some bm), .int .u64 (nb : Int), .int .u64 (x : Int)] := rfl
theorem cells3 {q : Int} {bm nb ns x : Nat} : (#[.int .i64 q, .map (some bm), .int .u64 (nb : Int), .int .u64 (ns : Int)] : Array Value).setIfInBounds 2 (.int .u64 (x : Int)) = #[.int .i64 q, .map (some bm), .int .u64 (x : Int), .int .u64 (ns : Int)] := rfl
/-- Sync -/
def syncF (F : List Fl) (name : ByteArray) : List Fl := mapAt F name fun f => { f with safe := f.l.length }
set_option maxHeartbeats 1000000 in
theorem sync_spec {m : Mem} {bf bm : Nat} {q : Int} {nb ns clock : Nat} {F : List Fl} {name : ByteArray} (h : FS m bf bm q nb ns clock F) (hns : ns ≤ 1000000000000000000) :
    Spec Try.prog 30 [ptrB bf, .v (.string name)] m fun r m' => (r = [i64 (if (fileOf F name).isSome then 0 else 4)]) ∧ FS m' bf bm q nb (if (fileOf F name).isSome then ns + 1 else ns) clock (syncF F name) := by
  have hf := find_spec (name := name) h
  refine en30 rfl (goY ?_)
  conv => whnf
  cases e : fileOf F name with
  | none =>
    rw [e] at hf
    first | refine xretk (hf) ?_ | refine xret (hf) ?_
    conv => whnf
    refine ⟨fun h => absurd h (by decide), fun _ => ?_⟩
    conv => whnf
    refine ⟨rfl, ?_⟩
    have : syncF F name = F := by
      refine (List.map_congr_left fun f hf => ?_).trans (List.map_id F)
      have := List.find?_eq_none.1 e f hf
      rw [if_neg (fun e => this (by simp [e]))]; rfl
    rw [this]; exact h
  | some f =>
    rw [e] at hf
    obtain ⟨A, B, rfl, _, rfl⟩ := fileOf_split e
    have hm := h.mem (fileOf_mem e).1
    obtain ⟨a, c, hfv⟩ := (h.bytes (fileOf_mem e).1).lb.shape
    have hok := h.ok f (by simp)
    have hsp := h.pick
    rw [nc_len] at hfv
    first | refine xretk (hf) ?_ | refine xret (hf) ?_
    conv => whnf
    refine ⟨fun _ => ?_, fun h => absurd h (by decide)⟩
    conv => whnf
    rw [hfv] at hm
    refine ⟨_, mcell_of hm rfl, rfl, ?_⟩
    conv => whnf
    refine ⟨_, _, _, hm, ⟨Nat.le_refl 2, by simp⟩, ?_⟩
    have hs1 := hsp.setAt (i := 0) rfl (blk1_same ..) (fileO f.v f.l.length)
    rw [blk1_set] at hs1
    have hs1 : Split (m.set f.bx (fileO f.v f.l.length)) (blk1 f.bx (fileO f.v f.l.length) :: f.p :: blk1 bf (filesO q bm nb ns) :: blk1 bm (mapF (A ++ f :: B) clock) :: (A ++ B).flatMap Fl.parts) := hs1
    have hb1 : (m.set f.bx (fileO f.v f.l.length)) bf = some (filesO q bm nb ns) := hs1.sub (a := blk1 bf (filesO q bm nb ns)) (by simp) _ _ (blk1_same ..)
    rw [hfv] at hs1 hb1
    conv => whnf
    refine xcall (aadd_at (y := 1) hb1 rfl (by omega)) ?_
    rintro _ m2 ⟨rfl, rfl⟩
    conv => whnf
    have hs2 := hs1.setAt (i := 2) rfl (blk1_same ..) (filesO q bm nb (ns + 1))
    rw [blk1_set] at hs2
    refine ⟨rfl, ?_⟩
    rw [syncF, mapAt_split h.names]
    refine h.put (g := { f with safe := f.l.length }) rfl rfl rfl ⟨hok.bs, hok.byt, Nat.le_refl _, hok.born⟩ ?_
    rw [show ({ f with safe := f.l.length } : Fl).v = Value.slice a f.l.length c from hfv]
    exact hs2
/-- Cut -/
def cutF (F : List Fl) (name : ByteArray) (n : Nat) (v : Value) : List Fl := mapAt F name fun f => { f with l := f.l.take n, v := v, safe := min f.safe n }
def CutR (F : List Fl) (name : ByteArray) (n : Int) (e : Int) (F' : List Fl) : Prop := match fileOf F name with
  | none => e = 4 ∧ F' = F
  | some f => if 0 ≤ n ∧ n ≤ f.l.length then e = 0 ∧ ∃ v, F' = cutF F name n.toNat v else e = 1 ∧ F' = F
/-- a beginning of bytes that are owned, with no room behind -/
theorem Bs.cutCap' {p : Mem} {b o c n k : Nat} {l : List Int} (h : Bs p (.slice (some ⟨b, o, none⟩) k c) l) (_ : l.length = k) (hn : n ≤ l.length) : Bs p (.slice (some ⟨b, o, none⟩) n n) (l.take n) := by
  rcases h with ⟨e, _⟩ | ⟨b', o', c', n', arr, e, h1, h2, h3, h4, h5, h6⟩
  · cases e
  · cases e
    refine .inr ⟨b, o, n, n, arr, rfl, h1, by simp [bc]; omega, Nat.le_refl _, by omega, fun j u hu => h5 j u ?_, bc_one⟩
    rw [bc, List.getElem?_map, List.getElem?_take] at hu
    rw [bc, List.getElem?_map]
    split at hu
    · exact hu
    · cases hu
set_option maxHeartbeats 1000000 in
theorem cut_spec {m : Mem} {bf bm : Nat} {q : Int} {nb ns clock : Nat} {F : List Fl} {name : ByteArray} {n : Int} (h : FS m bf bm q nb ns clock F) (hl : ∀ f ∈ F, f.l.length ≤ 100000000) :
    Spec Try.prog 20 [ptrB bf, .v (.string name), i64 n] m fun r m' => ∃ e F', r = [i64 e] ∧ FS m' bf bm q nb ns clock F' ∧ CutR F name n e F' := by
  have hf := find_spec (name := name) h
  refine en20 rfl (goY ?_)
  conv => whnf
  cases e : fileOf F name with
  | none =>
    rw [e] at hf
    first | refine xretk (hf) ?_ | refine xret (hf) ?_
    conv => whnf
    refine ⟨fun _ => ?_, fun h => absurd h (by decide)⟩
    conv => whnf
    exact ⟨4, F, rfl, h, by simp [CutR, e]⟩
  | some f =>
    rw [e] at hf
    have hmem := (fileOf_mem e).1
    have hm := h.mem hmem
    have hbs := h.bytes hmem
    have hok := h.ok f hmem
    have hlf := hl f hmem
    obtain ⟨a, c, hfv⟩ := hbs.lb.shape
    rw [nc_len] at hfv
    first | refine xretk (hf) ?_ | refine xret (hf) ?_
    conv => whnf
    refine ⟨fun h => absurd h (by decide), fun _ => ?_⟩
    conv => whnf
    refine ⟨fun h1 => ?_, fun h1 => ?_⟩
    · have h1' := of_decide_eq_true h1
      conv => whnf
      exact ⟨1, F, rfl, h, by simp [CutR, e, show ¬ (0 ≤ n ∧ n ≤ (f.l.length : Int)) by omega]⟩
    have h1' := of_decide_eq_false h1
    clear h1
    rw [hfv] at hm
    conv => whnf
    refine ⟨_, mcell_of hm rfl, rfl, ?_⟩
    conv => whnf
    refine ⟨fun h2 => ?_, fun h2 => ?_⟩
    · have h2' := of_decide_eq_true h2
      conv => whnf
      exact ⟨1, F, rfl, h, by simp [CutR, e, show ¬ (0 ≤ n ∧ n ≤ (f.l.length : Int)) by omega]⟩
    have h2' := of_decide_eq_false h2
    clear h2
    obtain ⟨k, rfl⟩ : ∃ k : Nat, n = (k : Int) := ⟨n.toNat, by omega⟩
    have hk : k ≤ f.l.length := by omega
    have hcr : ∀ v, CutR F name k 0 (cutF F name k v) := fun v => by
      have hc : (0 ≤ (k : Int) ∧ (k : Int) ≤ (f.l.length : Int)) := by omega
      simp only [CutR, e]; rw [if_pos hc, Int.toNat_natCast]; exact ⟨trivial, v, rfl⟩
    obtain ⟨A, B, rfl, _, rfl⟩ := fileOf_split e
    have hsp := h.pick
    have hmin : ((min f.safe k : Nat) : Int) = if (f.safe : Int) < (k : Int) then (f.safe : Int) else (k : Int) := by split <;> omega
    have fin : ∀ v, Bs f.p v (nc (f.l.take k)) → ∀ m', m' = m.set f.bx (fileO v (min f.safe k)) → FS m' bf bm q nb ns clock (cutF (A ++ f :: B) f.name k v) := fun v hv m' hm' => by
      subst hm'
      have hs1 := hsp.setAt (i := 0) rfl (blk1_same ..) (fileO v (min f.safe k))
      rw [blk1_set] at hs1
      rw [cutF, mapAt_split h.names]
      exact h.put (g := { f with l := f.l.take k, v := v, safe := min f.safe k }) rfl rfl rfl ⟨hv, fun x hx => hok.byt x (List.mem_of_mem_take hx), by simp only [List.length_take]; have := hok.safe; omega, hok.born⟩ hs1
    conv => whnf
    refine ⟨.slice a f.l.length c, mcell_of hm rfl, rfl, ?_⟩
    conv => whnf
    have ek : (k : Int).toNat = k := by omega
    cases a with
    | none =>
      have hz : f.l.length = 0 ∧ c = 0 := by
        rcases hok.bs with ⟨e1, e2⟩ | ⟨b, o, c', n, arr, e1, _⟩
        · rw [hfv] at e1
          injection e1 with _ e3 e4
          exact ⟨e3, e4⟩
        · rw [hfv] at e1; cases e1
      obtain ⟨hz1, rfl⟩ := hz
      obtain rfl : k = 0 := by omega
      rw [hz1] at hm hfv ⊢
      conv => whnf
      repeat (refine And.intro (by first | omega | (simp only [times]; omega)) ?_; conv => whnf)
      refine ⟨.int .i64 f.safe, mcell_of hm rfl, rfl, ?_⟩
      conv => whnf
      rw [show min (f.safe : Int) ((0 : Nat) : Int) = ((min f.safe 0 : Nat) : Int) by omega]
      refine ⟨_, _, _, hm, ⟨Nat.zero_lt_succ _, by simp⟩, ?_⟩
      conv => whnf
      refine ⟨_, _, _, Mem.set_same .., ⟨Nat.le_refl 2, by simp⟩, ?_⟩
      rw [Mem.set_set]
      conv => whnf
      exact ⟨0, _, rfl, fin (.slice none 0 0) (by rw [List.take_zero]; exact Bs.nil _) _ rfl, hcr _⟩
    | some a =>
      have hsh : ∃ b o, a = ⟨b, o, none⟩ ∧ f.l.length ≤ c := by
        rcases hok.bs with ⟨e1, _⟩ | ⟨b, o, c', n, arr, e1, _, _, h5, _⟩
        · rw [hfv] at e1; cases e1
        · rw [hfv] at e1; cases e1; exact ⟨b, o, rfl, h5⟩
      obtain ⟨b, o, rfl, hc⟩ := hsh
      have hbs : Bs f.p (.slice (some ⟨b, o, none⟩) f.l.length c) (nc f.l) := by rw [← hfv]; exact hok.bs
      conv => whnf
      repeat (refine And.intro (by first | omega | (simp only [times]; omega)) ?_; conv => whnf)
      intro o' q1 q2
      obtain rfl : o' = o := by
        by_cases h0 : k = 0
        · have := q2 (by omega); simpa using this
        · have := q1 (by omega); simpa [times] using this
      conv => whnf
      refine ⟨.int .i64 f.safe, mcell_of hm rfl, rfl, ?_⟩
      conv => whnf
      rw [show min (f.safe : Int) (k : Int) = ((min f.safe k : Nat) : Int) by omega]
      refine ⟨_, _, _, hm, ⟨Nat.zero_lt_succ _, by simp⟩, ?_⟩
      conv => whnf
      refine ⟨_, _, _, Mem.set_same .., ⟨Nat.le_refl 2, by simp⟩, ?_⟩
      rw [Mem.set_set]
      conv => whnf
      have hcc := hbs.cutCap' (n := k) (by rw [nc_len]) (by rw [nc_len]; exact hk)
      rw [show (nc f.l).take k = nc (f.l.take k) by simp [nc, List.map_take]] at hcc
      exact ⟨0, _, rfl, fin (.slice (some ⟨b, o', none⟩) k k) hcc _ rfl, hcr _⟩
end Go.E.Ytcjmmhamnglmkaa

/-
  Files: read, removed, renamed.
-/
namespace Go.E.Ytcjmmhamnglmkaa
open Go.Proofs
set_option maxRecDepth 100000
theorem readF_spec {m : Mem} {bf bm : Nat} {q : Int} {nb ns clock : Nat} {F : List Fl} {name : ByteArray} (h : FS m bf bm q nb ns clock F) (hl : ∀ f ∈ F, f.l.length ≤ 100000000) :
    Spec Try.prog 16 [ptrB bf, .v (.string name)] m fun r m' => ∃ v p, r = [.v v, i64 (if (fileOf F name).isSome then 0 else 4)] ∧ Split m' [p, m] ∧ Bs p v (nc (((fileOf F name).map (·.l)).getD [])) := by
  have hf := find_spec (name := name) h
  refine en16 rfl (goY ?_)
  conv => whnf
  cases e : fileOf F name with
  | none =>
    rw [e] at hf
    first | refine xretk (hf) ?_ | refine xret (hf) ?_
    conv => whnf
    refine ⟨fun _ => ?_, fun h => absurd h (by decide)⟩
    conv => whnf
    exact ⟨_, emp, rfl, (Split.one m).addEmp, Bs.nil _⟩
  | some f =>
    rw [e] at hf
    have hmem := (fileOf_mem e).1
    have hm := h.mem hmem
    have hbs := h.bytes hmem
    first | refine xretk (hf) ?_ | refine xret (hf) ?_
    conv => whnf
    refine ⟨fun h => absurd h (by decide), fun _ => ?_⟩
    conv => whnf
    refine ⟨f.v, mcell_of hm rfl, hbs.lb.one, ?_⟩
    conv => whnf
    refine xcall (clone_spec hbs.lb.la (by rw [nc_len]; exact hl f hmem)) ?_
    rintro _ m1 ⟨v, p, rfl, hs, hv⟩
    conv => whnf
    exact ⟨v, p, rfl, hs, hv⟩
theorem readF_nil {m : Mem} {name : ByteArray} : Ret Try.prog 16 [.v (.pointer none), .v (.string name)] m [.v (.slice none 0 0), i64 6] := by
  refine en16 rfl (goY ?_)
  conv => whnf
  first | refine xretk (find_nil) ?_ | refine xret (find_nil) ?_
  conv => whnf
  refine ⟨fun _ => ?_, fun h => absurd h (by decide)⟩
  conv => whnf
  exact ⟨rfl, rfl⟩
theorem delM_files {A B : List Fl} {f : Fl} (hA : ∀ x ∈ A, x.name ≠ f.name) : delM f.name ((A ++ f :: B).map Fl.men) = (A ++ B).map Fl.men := by
  induction A with
  | nil => simp [delM, Fl.men]
  | cons x A ih =>
    have h1 := hA x (by simp)
    have ih := ih fun y hy => hA y (by simp [hy])
    rw [List.cons_append, List.map_cons, delM, if_neg (fun e => h1 (by simpa [Fl.men] using e.symm)), ih, List.cons_append, List.map_cons]
theorem FS.names_of {p : Mem} {bf bm : Nat} {q : Int} {nb ns clock : Nat} {A B : List Fl} {f : Fl} (h : FS p bf bm q nb ns clock (A ++ f :: B)) : (∀ x ∈ A, x.name ≠ f.name) ∧ ∀ x ∈ B, x.name ≠ f.name := by
  obtain ⟨h1, h2, h3⟩ := List.pairwise_append.1 h.names
  exact ⟨fun x hx => h3 x hx f (by simp), fun x hx => Ne.symm ((List.pairwise_cons.1 h2).1 x hx)⟩
/-- one file gone; its parts are left over -/
theorem FS.del {p p' : Mem} {bf bm : Nat} {q : Int} {nb ns clock : Nat} {A B : List Fl} {f : Fl} (h : FS p bf bm q nb ns clock (A ++ f :: B)) (hp : p' = p.set bm (mapF (A ++ B) clock)) :
    FS p' bf bm q nb ns clock (A ++ B) ∧ Split p' (blk1 f.bx (fileO f.v f.safe) :: f.p :: blk1 bf (filesO q bm nb ns) :: blk1 bm (mapF (A ++ B) clock) :: (A ++ B).flatMap Fl.parts) := by
  have hs := h.pick.setAt (i := 3) rfl (blk1_same ..) (mapF (A ++ B) clock)
  rw [blk1_set] at hs
  have hs : Split p' (blk1 f.bx (fileO f.v f.safe) :: f.p :: blk1 bf (filesO q bm nb ns) :: blk1 bm (mapF (A ++ B) clock) :: (A ++ B).flatMap Fl.parts) := by rw [hp]; exact hs
  have hsub : (A ++ B).Sublist (A ++ f :: B) := List.Sublist.append (List.Sublist.refl A) (List.sublist_cons_self f B)
  exact ⟨⟨hs.drop.drop, fun x hx => h.ok x (hsub.subset hx), h.names.sublist hsub, h.borns.sublist hsub⟩, hs⟩
def rmF (F : List Fl) (name : ByteArray) : List Fl := F.filter fun f => !decide (f.name = name)
theorem rmF_split {A B : List Fl} {f : Fl} (hA : ∀ x ∈ A, x.name ≠ f.name) (hB : ∀ x ∈ B, x.name ≠ f.name) : rmF (A ++ f :: B) f.name = A ++ B := by
  have ha : A.filter (fun g => !decide (g.name = f.name)) = A := List.filter_eq_self.2 fun x hx => by simp [hA x hx]
  have hb : B.filter (fun g => !decide (g.name = f.name)) = B := List.filter_eq_self.2 fun x hx => by simp [hB x hx]
  rw [rmF, List.filter_append, List.filter_cons, ha, hb]; simp
theorem rmF_none {F : List Fl} {name : ByteArray} (h : fileOf F name = none) : rmF F name = F := by
  refine List.filter_eq_self.2 fun x hx => ?_
  have := List.find?_eq_none.1 h x hx
  simp only [decide_eq_true_eq] at this
  simp [Ne.symm this]
theorem mapDelF {m : Mem} {bm clock : Nat} {F : List Fl} {name : ByteArray} (hb : m bm = some (mapF F clock)) :
    PrimSpec Try.prog (.builtin .delete [44, 9]) [.v (.map (some bm)), .v (.string name)] m fun r m' => r = [] ∧ m' = m.set bm (mapO Value.string (delM name (F.map Fl.men)) clock) :=
  mapDel_spec (P := Try.prog) strKey Try.underlying44 Try.underlying9 (k := name) hb
theorem mapSetF {m : Mem} {bm clock : Nat} {F : List Fl} {name : ByteArray} {v : CV} (hb : m bm = some (mapF F clock)) :
    PrimSpec Try.prog (.mapUpdate 44) [.v (.map (some bm)), .v (.string name), v] m fun r m' => m' = m.set bm (mapO Value.string (setM name v clock (F.map Fl.men)) (clockM name clock (F.map Fl.men))) :=
  mapSet_spec (P := Try.prog) strKey Try.underlying44 Try.underlying9 (k := name) hb
theorem remove_spec {m : Mem} {bf bm : Nat} {q : Int} {nb ns clock : Nat} {F : List Fl} {name : ByteArray} (h : FS m bf bm q nb ns clock F) :
    Spec Try.prog 18 [ptrB bf, .v (.string name)] m fun r m' => r = [i64 (if (fileOf F name).isSome then 0 else 4)] ∧ FS m' bf bm q nb ns clock (rmF F name) := by
  have hf := find_spec (name := name) h
  refine en18 rfl (goY ?_)
  conv => whnf
  cases e : fileOf F name with
  | none =>
    rw [e] at hf
    first | refine xretk (hf) ?_ | refine xret (hf) ?_
    conv => whnf
    refine ⟨fun h => absurd h (by decide), fun _ => ?_⟩
    conv => whnf
    exact ⟨rfl, by rw [rmF_none e]; exact h⟩
  | some f =>
    rw [e] at hf
    obtain ⟨A, B, rfl, _, rfl⟩ := fileOf_split e
    obtain ⟨hA, hB⟩ := h.names_of
    first | refine xretk (hf) ?_ | refine xret (hf) ?_
    conv => whnf
    refine ⟨fun _ => ?_, fun h => absurd h (by decide)⟩
    conv => whnf
    refine ⟨.map (some bm), mcell_of h.files rfl, rfl, ?_⟩
    conv => whnf
    refine .mk _ (mapDelF h.map) ?_
    rintro _ _ ⟨rfl, rfl⟩
    conv => whnf
    rw [delM_files hA]
    exact ⟨rfl, by rw [rmF_split hA hB]; exact (h.del rfl).1⟩
theorem remove_zero {m : Mem} {bf : Nat} {arr : Array Value} {name : ByteArray} (h : m bf = some (.cells arr 52)) (h1 : arr[1]? = some (.map none)) : Ret Try.prog 18 [ptrB bf, .v (.string name)] m [i64 6] := by
  refine en18 rfl (goY ?_)
  conv => whnf
  first | refine xretk (find_zero h h1) ?_ | refine xret (find_zero h h1) ?_
  conv => whnf
  refine ⟨fun h => absurd h (by decide), fun _ => ?_⟩
  conv => whnf
  exact ⟨rfl, rfl⟩
theorem sync_zero {m : Mem} {bf : Nat} {arr : Array Value} {name : ByteArray} (h : m bf = some (.cells arr 52)) (h1 : arr[1]? = some (.map none)) : Ret Try.prog 30 [ptrB bf, .v (.string name)] m [i64 6] := by
  refine en30 rfl (goY ?_)
  conv => whnf
  first | refine xretk (find_zero h h1) ?_ | refine xret (find_zero h h1) ?_
  conv => whnf
  refine ⟨fun h => absurd h (by decide), fun _ => ?_⟩
  conv => whnf
  exact ⟨rfl, rfl⟩
theorem cut_nil {m : Mem} {name : ByteArray} {n : Int} : Ret Try.prog 20 [.v (.pointer none), .v (.string name), i64 n] m [i64 6] := by
  refine en20 rfl (goY ?_)
  conv => whnf
  first | refine xretk (find_nil) ?_ | refine xret (find_nil) ?_
  conv => whnf
  refine ⟨fun _ => ?_, fun h => absurd h (by decide)⟩
  conv => whnf
  exact ⟨rfl, rfl⟩
/-- a file put where a name leads -/
def putF (F : List Fl) (f : Fl) (name : ByteArray) (clock : Nat) : List Fl := match F with
  | [] => [{ f with name := name, born := clock }]
  | g :: F => if name = g.name then { f with name := name, born := g.born } :: F else g :: putF F f name clock
def clockF (F : List Fl) (name : ByteArray) (clock : Nat) : Nat := if (fileOf F name).isSome then clock else clock + 1
theorem setM_files (f : Fl) (name : ByteArray) (clock : Nat) : ∀ F : List Fl, setM name (.v (.pointer (some ⟨f.bx, 0, none⟩))) clock (F.map Fl.men) = (putF F f name clock).map Fl.men
  | [] => rfl
  | g :: F => by
    rw [List.map_cons, setM, putF]
    by_cases h : name = g.name
    · have h' : name = g.men.k := h
      rw [if_pos h', if_pos h]; rfl
    · have h' : ¬ name = g.men.k := h
      rw [if_neg h', if_neg h, setM_files f name clock F]; rfl
theorem putF_split {F : List Fl} {f : Fl} {name : ByteArray} {clock : Nat} : (fileOf F name = none ∧ putF F f name clock = F ++ [{ f with name := name, born := clock }]) ∨ ∃ C g D, F = C ++ g :: D ∧ g.name = name ∧ (∀ x ∈ C, x.name ≠ name) ∧ fileOf F name = some g ∧ putF F f name clock = C ++ { f with name := name, born := g.born } :: D := by
  induction F with
  | nil => exact .inl ⟨rfl, rfl⟩
  | cons g F ih =>
    by_cases h : name = g.name
    · refine .inr ⟨[], g, F, rfl, h.symm, by simp, ?_, ?_⟩
      · unfold fileOf; rw [List.find?_cons, decide_eq_true h]
      · rw [putF, if_pos h]; rfl
    · have hf : fileOf (g :: F) name = fileOf F name := by unfold fileOf; rw [List.find?_cons, decide_eq_false h]
      rcases ih with ⟨h1, h2⟩ | ⟨C, g', D, rfl, h1, h2, h3, h4⟩
      · refine .inl ⟨hf.trans h1, ?_⟩
        rw [putF, if_neg h, h2]; rfl
      · refine .inr ⟨g :: C, g', D, rfl, h1, fun x hx => ?_, hf.trans h3, ?_⟩
        · rcases List.mem_cons.1 hx with rfl | hx
          · exact Ne.symm h
          · exact h2 x hx
        · rw [putF, if_neg h, h4]; rfl
end Go.E.Ytcjmmhamnglmkaa

/-
  Files: renamed, appended to.
-/
namespace Go.E.Ytcjmmhamnglmkaa
open Go.Proofs
set_option maxRecDepth 100000
theorem Fl.Ok.later {f : Fl} {c c' : Nat} (h : f.Ok c) (hc : c ≤ c') : f.Ok c' := ⟨h.bs, h.byt, h.safe, Nat.lt_of_lt_of_le h.born hc⟩
/-- a file of its own put where a name leads -/
theorem FS.ins {p p' : Mem} {bf bm : Nat} {q : Int} {nb ns clock : Nat} {F : List Fl} {f : Fl} {name : ByteArray} (h : FS p bf bm q nb ns clock F) (hf : f.Ok clock ∨ (Bs f.p f.v (nc f.l) ∧ (∀ x ∈ f.l, x < 256) ∧ f.safe ≤ f.l.length))
    (hs : Split p (blk1 f.bx (fileO f.v f.safe) :: f.p :: blk1 bf (filesO q bm nb ns) :: blk1 bm (mapF F clock) :: F.flatMap Fl.parts)) (hp : p' = p.set bm (mapO Value.string (setM name (.v (.pointer (some ⟨f.bx, 0, none⟩))) clock (F.map Fl.men)) (clockM name clock (F.map Fl.men)))) :
    FS p' bf bm q nb ns (clockF F name clock) (putF F f name clock) := by
  have hfok : Bs f.p f.v (nc f.l) ∧ (∀ x ∈ f.l, x < 256) ∧ f.safe ≤ f.l.length := by
    rcases hf with hf | hf
    · exact ⟨hf.bs, hf.byt, hf.safe⟩
    · exact hf
  have hck : clockM name clock (F.map Fl.men) = clockF F name clock := by
    unfold clockM clockF
    rw [findM_files, Option.isSome_map]
  have hcl : clock ≤ clockF F name clock := by unfold clockF; split <;> omega
  rw [setM_files, hck] at hp
  have hs2 := hs.setAt (i := 3) rfl (blk1_same ..) (mapF (putF F f name clock) (clockF F name clock))
  rw [blk1_set] at hs2
  have hs2 : Split p' (blk1 f.bx (fileO f.v f.safe) :: f.p :: blk1 bf (filesO q bm nb ns) :: blk1 bm (mapF (putF F f name clock) (clockF F name clock)) :: F.flatMap Fl.parts) := by rw [hp]; exact hs2
  rcases putF_split (F := F) (f := f) (name := name) (clock := clock) with ⟨h1, h2⟩ | ⟨C, g, D, h0, h1, h2, h3, h4⟩
  · have hc : clockF F name clock = clock + 1 := by unfold clockF; rw [h1]; rfl
    have hno : ∀ x ∈ F, x.name ≠ name := fun x hx e => by
      have := List.find?_eq_none.1 h1 x hx
      simp [e] at this
    rw [h2] at hs2 ⊢
    rw [hc] at hs2 ⊢
    refine ⟨?_, fun x hx => ?_, ?_, ?_⟩
    · have := partsPerm F [] { f with name := name, born := clock } (blk1 bf (filesO q bm nb ns)) (blk1 bm (mapF (F ++ [{ f with name := name, born := clock }]) (clock + 1)))
      rw [List.append_nil] at this
      exact hs2.perm this.symm
    · rcases List.mem_append.1 hx with hx | hx
      · exact (h.ok x hx).later (by omega)
      · rw [List.mem_singleton.1 hx]; exact ⟨hfok.1, hfok.2.1, hfok.2.2, Nat.lt_succ_self _⟩
    · refine List.pairwise_append.2 ⟨h.names, by simp, fun a ha b hb => ?_⟩
      rw [List.mem_singleton.1 hb]; exact hno a ha
    · refine List.pairwise_append.2 ⟨h.borns, by simp, fun a ha b hb => ?_⟩
      rw [List.mem_singleton.1 hb]
      have := (h.ok a ha).born
      simp only; omega
  · subst h0
    have hc : clockF (C ++ g :: D) name clock = clock := by unfold clockF; rw [h3]; rfl
    rw [h4] at hs2 ⊢
    rw [hc] at hs2 ⊢
    refine ⟨?_, fun x hx => ?_, ?_, ?_⟩
    · -- the old file's parts are dropped
      have h5 : Split p' (blk1 f.bx (fileO f.v f.safe) :: f.p :: blk1 bf (filesO q bm nb ns) :: blk1 bm (mapF (C ++ { f with name := name, born := g.born } :: D) clock) :: (C ++ D).flatMap Fl.parts) := by
        have h6 := hs2.perm (List.Perm.cons _ (List.Perm.cons _ (partsPerm C D g _ _)))
        exact (h6.erase 2).erase 2
      exact h5.perm (partsPerm C D { f with name := name, born := g.born } _ _).symm
    · rcases List.mem_append.1 hx with hx | hx
      · exact h.ok x (by simp [hx])
      · rcases List.mem_cons.1 hx with rfl | hx
        · exact ⟨hfok.1, hfok.2.1, hfok.2.2, (h.ok g (by simp)).born⟩
        · exact h.ok x (by simp [hx])
    · have e : (C ++ { f with name := name, born := g.born } :: D).map (·.name) = (C ++ g :: D).map (·.name) := by simp [h1]
      have h6 := List.pairwise_map.2 h.names
      rw [← e] at h6
      exact List.pairwise_map.1 h6
    · have e : (C ++ { f with name := name, born := g.born } :: D).map (·.born) = (C ++ g :: D).map (·.born) := by simp
      have h6 := List.pairwise_map.2 h.borns
      rw [← e] at h6
      exact List.pairwise_map.1 h6
/-- Rename: the error; the files -/
def renE (F : List Fl) (a b : ByteArray) : Int := match fileOf F a with
  | none => 4
  | some _ => if nameOk (chs b) then 0 else 1
def renF (F : List Fl) (a b : ByteArray) (clock : Nat) : List Fl := match fileOf F a with
  | none => F
  | some f => if nameOk (chs b) then putF (rmF F a) f b clock else F
def renC (F : List Fl) (a b : ByteArray) (clock : Nat) : Nat := match fileOf F a with
  | none => clock
  | some _ => if nameOk (chs b) then clockF (rmF F a) b clock else clock
end Go.E.Ytcjmmhamnglmkaa

/-
  Files: appended to.
-/
namespace Go.E.Ytcjmmhamnglmkaa
open Go.Proofs
set_option maxRecDepth 100000
/-- the parts but one, taken as one -/
theorem Split.rest {m q : Mem} {l : List Mem} (h : Split m (q :: l)) : Split m [allM l, q] ∧ Split (allM l) l := by
  obtain ⟨h1, h2⟩ := h
  obtain ⟨h3, h4⟩ := List.pairwise_cons.1 h2
  refine ⟨⟨fun x o hx => ?_, ?_⟩, Sub.refl _, h4⟩
  · obtain ⟨a, ha, hx2⟩ := allM_some hx
    simp only [List.mem_cons, List.not_mem_nil, or_false] at ha
    rcases ha with rfl | rfl
    · obtain ⟨b, hb, hx3⟩ := allM_some hx2
      exact h1 _ _ (allM_of h2 (List.mem_cons_of_mem _ hb) hx3)
    · exact h1 _ _ (allM_of h2 (List.mem_cons_self ..) hx2)
  · simp only [List.pairwise_cons, List.mem_singleton, forall_eq, List.not_mem_nil, false_implies, implies_true, List.Pairwise.nil, and_true]
    intro x
    cases hq : q x with
    | none => exact .inr rfl
    | some o =>
      refine .inl (allM_none.2 fun a ha => ?_)
      rcases h3 a ha x with h' | h'
      · rw [hq] at h'; cases h'
      · exact h'
/-- one part taken, the others as one -/
theorem Split.pick1 {mm p : Mem} {l : List Mem} (h : Split mm (p :: l)) : ∃ q, (∀ x ∈ l, Sub x q) ∧ Split mm [p, q] ∧ ∀ m' p', Split m' [p', q] → Split m' (p' :: l) := by
  obtain ⟨h2, h3⟩ := Split.rest h
  exact ⟨allM l, fun x hx => h3.sub hx, h2.perm (List.Perm.swap _ _ _), fun m' p' h4 => Split.under (a := [p']) h4 h3⟩
theorem FS.grow {p m : Mem} {bf bm : Nat} {q : Int} {nb ns clock : Nat} {F : List Fl} (h : FS p bf bm q nb ns clock F) (hs : Sub p m) : FS m bf bm q nb ns clock F := ⟨h.sp.grow hs, h.ok, h.names, h.borns⟩
/-- what a file is told by -/
structure Af where
  name : ByteArray
  l : List Nat
  safe : Nat
def Fl.af (f : Fl) : Af := ⟨f.name, f.l, f.safe⟩
abbrev absF (F : List Fl) : List Af := F.map Fl.af
def appA : List Af → ByteArray → List Nat → List Af
  | [], name, b => [⟨name, b, 0⟩]
  | x :: A, name, b => if name = x.name then { x with l := x.l ++ b } :: A else x :: appA A name b
theorem appA_split {A B : List Fl} {f g : Fl} {b : List Nat} (hA : ∀ x ∈ A, x.name ≠ f.name) (h1 : g.name = f.name) (h2 : g.l = f.l ++ b) (h3 : g.safe = f.safe) : absF (A ++ g :: B) = appA (absF (A ++ f :: B)) f.name b := by
  induction A with
  | nil => simp only [List.nil_append, List.map_cons, appA, Fl.af]; rw [if_pos trivial, h1, h2, h3]
  | cons x A ih =>
    have hx := hA x (by simp)
    have ih := ih fun y hy => hA y (by simp [hy])
    simp only [absF, List.cons_append, List.map_cons, appA] at ih ⊢
    rw [if_neg (fun e => hx (by simpa [Fl.af] using e.symm)), ih]
theorem appA_new {F : List Fl} {name : ByteArray} {b : List Nat} {f : Fl} (h : ∀ x ∈ F, x.name ≠ name) (h1 : f.name = name) (h2 : f.l = b) (h3 : f.safe = 0) : absF (F ++ [f]) = appA (absF F) name b := by
  induction F with
  | nil => simp [appA, Fl.af, h1, h2, h3]
  | cons x A ih =>
    have hx := h x (by simp)
    have ih := ih fun y hy => h y (by simp [hy])
    simp only [absF, List.cons_append, List.map_cons, appA] at ih ⊢
    rw [if_neg (fun e => hx (by simpa [Fl.af] using e.symm)), ih]
set_option maxHeartbeats 2000000 in
/-- bytes put behind those of a file that is there -/
theorem append_tail {m mm p0 : Mem} {bf bm : Nat} {q : Int} {nb ns clock : Nat} {A B : List Fl} {f : Fl} {vb : Value} {lb : List Nat} {R : List CV → Mem → Prop} (h : FS p0 bf bm q nb ns clock (A ++ f :: B)) (hs : Split mm [p0, m]) (hb : La m vb (nc lb)) (h256 : ∀ x ∈ lb, x < 256) (hl : f.l.length + lb.length ≤ 100000000) (hnb : nb ≤ 1000000000000000000)
    (hR : ∀ p' m' g, g.name = f.name → g.l = f.l ++ lb → g.safe = f.safe → Split m' [p', m] → FS p' bf bm q (nb + lb.length) ns clock (A ++ g :: B) → R [i64 0] m') :
    xwpY c17 (restAt 11 (bodyOf Try.f17)) (QRetY tt.get Try.f17.results.toList R)
      [(0, .c (ptrB bf)), (2, .c (.v vb)), (7, .c (ptrB f.bx))] [] mm [] := by
  obtain ⟨ab, cb, rfl⟩ := hb.shape
  rw [nc_len] at hb ⊢
  have hok := h.ok f (by simp)
  have hs1 : Split mm (m :: blk1 f.bx (fileO f.v f.safe) :: f.p :: blk1 bf (filesO q bm nb ns) :: blk1 bm (mapF (A ++ f :: B) clock) :: (A ++ B).flatMap Fl.parts) := (hs.perm (List.Perm.swap _ _ _)).under (a := [m]) h.pick
  have hm : mm f.bx = some (fileO f.v f.safe) := hs1.sub (a := blk1 f.bx (fileO f.v f.safe)) (by simp) _ _ (blk1_same ..)
  have hone := hok.bs.lb.one
  conv => whnf
  refine .at ?_
  conv => whnf
  refine ⟨f.v, mcell_of hm rfl, hone, ?_⟩
  conv => whnf
  refine .mk _ (appendBat (i := 2) hs1 rfl hok.bs (hb.sub (hs1.sub (by simp))) (by simp; omega)) ?_
  rintro _ m2 ⟨v2, p2, rfl, hs2, hv2⟩
  conv => whnf
  have hs2 : Split m2 (m :: blk1 f.bx (fileO f.v f.safe) :: p2 :: blk1 bf (filesO q bm nb ns) :: blk1 bm (mapF (A ++ f :: B) clock) :: (A ++ B).flatMap Fl.parts) := hs2
  have hm2 : m2 f.bx = some (fileO f.v f.safe) := hs2.sub (a := blk1 f.bx (fileO f.v f.safe)) (by simp) _ _ (blk1_same ..)
  refine ⟨_, _, _, hm2, ⟨Nat.zero_lt_succ _, by simp⟩, ?_⟩
  have hs3 := hs2.setAt (i := 1) rfl (blk1_same ..) (fileO v2 f.safe)
  rw [blk1_set] at hs3
  have hs3 : Split (m2.set f.bx (fileO v2 f.safe)) (m :: blk1 f.bx (fileO v2 f.safe) :: p2 :: blk1 bf (filesO q bm nb ns) :: blk1 bm (mapF (A ++ f :: B) clock) :: (A ++ B).flatMap Fl.parts) := hs3
  have hb3 : (m2.set f.bx (fileO v2 f.safe)) bf = some (filesO q bm nb ns) := hs3.sub (a := blk1 bf (filesO q bm nb ns)) (by simp) _ _ (blk1_same ..)
  have ew : IntKind.u64.wrap (lb.length : Int) = (lb.length : Int) := wu (by omega) (by omega)
  conv => whnf
  rw [ew]
  refine xcall (aadd_at (x := nb) (y := lb.length) hb3 rfl (by omega)) ?_
  rintro _ m4 ⟨rfl, rfl⟩
  conv => whnf
  have hs4 := hs3.setAt (i := 3) rfl (blk1_same ..) (filesO q bm (nb + lb.length) ns)
  rw [blk1_set] at hs4
  obtain ⟨h5, h6⟩ := Split.rest hs4
  refine hR _ _ { f with v := v2, l := f.l ++ lb, p := p2 } rfl rfl rfl h5 ?_
  refine h.put (g := { f with v := v2, l := f.l ++ lb, p := p2 }) rfl rfl rfl ⟨?_, fun x hx => ?_, ?_, hok.born⟩ h6
  · have := hv2.own
    rw [show nc f.l ++ nc lb = nc (f.l ++ lb) by simp [nc]] at this
    exact this
  · rcases List.mem_append.1 hx with hx | hx
    · exact hok.byt x hx
    · exact h256 x hx
  · have := hok.safe
    simp only [List.length_append]; omega
end Go.E.Ytcjmmhamnglmkaa

/-
  Files: Append, whole.
-/
namespace Go.E.Ytcjmmhamnglmkaa
open Go.Proofs
set_option maxRecDepth 100000
def totA (A : List Af) : Nat := (A.map (·.l.length)).sum
theorem totA_abs (F : List Fl) : totA (absF F) = total F := by simp [totA, total, absF, Fl.af, Function.comp_def]
/-- what Append does -/
def AppR (A : List Af) (name : ByteArray) (lb : List Nat) (q e : Int) (A' : List Af) (nb nb' : Nat) : Prop :=
  if nameOk (chs name) = false then e = 1 ∧ A' = A ∧ nb' = nb else if 0 < q ∧ q < (totA A + lb.length : Nat) then e = 5 ∧ A' = A ∧ nb' = nb else e = 0 ∧ A' = appA A name lb ∧ nb' = nb + lb.length
theorem append_nil {m : Mem} {name : ByteArray} {v : Value} : Ret Try.prog 17 [.v (.pointer none), .v (.string name), .v v] m [i64 6] := by
  refine en17 rfl (goY ?_)
  conv => whnf
  first | refine xretk (find_nil) ?_ | refine xret (find_nil) ?_
  conv => whnf
  refine ⟨fun _ => ?_, fun h => absurd h (by decide)⟩
  conv => whnf
  exact ⟨rfl, rfl⟩
theorem append_zero {m : Mem} {bf : Nat} {arr : Array Value} {name : ByteArray} {v : Value} (h : m bf = some (.cells arr 52)) (h1 : arr[1]? = some (.map none)) : Ret Try.prog 17 [ptrB bf, .v (.string name), .v v] m [i64 6] := by
  refine en17 rfl (goY ?_)
  conv => whnf
  first | refine xretk (find_zero h h1) ?_ | refine xret (find_zero h h1) ?_
  conv => whnf
  refine ⟨fun _ => ?_, fun h => absurd h (by decide)⟩
  conv => whnf
  exact ⟨rfl, rfl⟩
theorem keptF {m mx my : Mem} {b : Nat} {ob : Obj} {l : List Nat} (h : m b = some ob) (hx : Sub m mx) (hy : Sub m my) (hl : ∀ x ∈ l, x = b) : Kept l mx my := fun x hx' => by
  rw [hl x hx', hx _ _ h, hy _ _ h]
set_option maxHeartbeats 4000000 in
theorem append_spec' {m mm p : Mem} {bf bm : Nat} {q : Int} {nb ns clock : Nat} {F : List Fl} {name : ByteArray} {vb : Value} {lb : List Nat} (h : FS p bf bm q nb ns clock F) (hs : Split mm [p, m]) (hv : La m vb (nc lb)) (h256 : ∀ x ∈ lb, x < 256) (hn : name.size ≤ 1000000) (hq : 0 ≤ q ∧ q ≤ 9223372036854775807)
    (hl : ∀ f ∈ F, f.l.length ≤ 90000000) (hlb : lb.length ≤ 1000000) (htot : total F ≤ 1000000000000) (hnb : nb ≤ 1000000000000000000) :
    Spec Try.prog 17 [ptrB bf, .v (.string name), .v vb] mm fun r m' => ∃ e p' F' clock' nb', r = [i64 e] ∧ Split m' [p', m] ∧ FS p' bf bm q nb' ns clock' F' ∧ AppR (absF F) name lb q e (absF F') nb nb' := by
  have hM := h.grow (hs.sub (by simp))
  have hf := find_spec (name := name) hM
  obtain ⟨ab, cb, rfl⟩ := hv.shape
  rw [nc_len] at hv ⊢
  -- the tail: the file is there
  have there : ∀ mm p clock A f B, FS p bf bm q nb ns clock (A ++ f :: B) → Split mm [p, m] → (∀ x ∈ A, x.name ≠ f.name) → f.l.length ≤ 90000000 → nameOk (chs name) = true → ¬ (0 < q ∧ q < (totA (absF F) + lb.length : Nat)) → (∀ g : Fl, g.name = f.name → g.l = f.l ++ lb → g.safe = f.safe → absF (A ++ g :: B) = appA (absF F) name lb) →
      xwpY c17 (restAt 11 (bodyOf Try.f17)) (QRetY tt.get Try.f17.results.toList fun r m' => ∃ e p' F' clock' nb', r = [i64 e] ∧ Split m' [p', m] ∧ FS p' bf bm q nb' ns clock' F' ∧ AppR (absF F) name lb q e (absF F') nb nb')
      [(0, .c (ptrB bf)), (2, .c (.v (.slice ab lb.length cb))), (7, .c (ptrB f.bx))] [] mm [] := by
    intro mm p clock A f B h1 h2 hA h3 h4 h5 h6
    refine append_tail h1 h2 hv h256 (by omega) hnb fun p' m' g e1 e2 e3 h7 h8 => ⟨0, p', A ++ g :: B, clock, nb + lb.length, rfl, h7, h8, ?_⟩
    rw [AppR, if_neg (by rw [h4]; decide), if_neg h5]
    exact ⟨rfl, h6 g e1 e2 e3, rfl⟩
  refine en17 rfl (goY ?_)
  conv => whnf
  cases e : fileOf F name with
  | none =>
    rw [e] at hf
    have hno : ∀ x ∈ F, x.name ≠ name := fun x hx e' => by
      have := List.find?_eq_none.1 e x hx
      simp [e'] at this
    first | refine xretk (hf) ?_ | refine xret (hf) ?_
    conv => whnf
    refine ⟨fun h => absurd h (by decide), fun _ => ?_⟩
    conv => whnf
    first | refine xretk (isName_spec hn) ?_ | refine xret (isName_spec hn) ?_
    conv => whnf
    cases hnm : nameOk (chs name) with
    | false =>
      refine ⟨fun _ => ?_, fun h => absurd h (by decide)⟩
      conv => whnf
      exact ⟨1, p, F, clock, nb, rfl, hs, h, by rw [AppR, if_pos hnm]; exact ⟨rfl, rfl, rfl⟩⟩
    | true =>
      refine ⟨fun h => absurd h (by decide), fun _ => ?_⟩
      conv => whnf
      refine ⟨.int .i64 q, mcell_of hM.files rfl, rfl, ?_⟩
      conv => whnf
      refine ⟨fun h1 => ?_, fun h1 => ?_⟩
      · have hq1 := of_decide_eq_true h1
        clear h1
        have ew : IntKind.i64.wrap (q - (lb.length : Int)) = q - (lb.length : Int) := wi (by omega) (by omega)
        conv => whnf
        refine ⟨.int .i64 q, mcell_of hM.files rfl, rfl, ?_⟩
        conv => whnf
        rw [ew]
        refine xcall (used_spec hM htot) ?_
        rintro _ m1 ⟨rfl, hsu⟩
        conv => whnf
        first | (refine ⟨keptF hM.files (Sub.refl _) hsu (by simp), ?_⟩; conv => whnf) | skip
        have hs1 := hs.grow hsu
        refine ⟨fun h2 => ?_, fun h2 => ?_⟩
        · have h2' := of_decide_eq_true h2
          conv => whnf
          exact ⟨5, p, _, clock, nb, rfl, hs1, h, by rw [AppR, if_neg (by rw [hnm]; decide), if_pos ⟨hq1, by rw [totA_abs]; omega⟩]; exact ⟨rfl, rfl, rfl⟩⟩
        · have h2' := of_decide_eq_false h2
          have hfit : ¬ (0 < q ∧ q < (totA (absF F) + lb.length : Nat)) := fun hx => by have := hx.2; rw [totA_abs] at this; omega
          clear h2
          conv => whnf
          refine ⟨fun _ => ?_, fun h => absurd h (by decide)⟩
          conv => whnf
          intro b hb
          have hpb : p b = none := hs1.none hb p (by simp)
          have hs2 := (hs1.new hb (fileO (.slice none 0 0) 0)).pair
          conv => whnf
          have hP := ((((Split.one p).new hpb (fileO (.slice none 0 0) 0)).under (a := [blk1 b (fileO (.slice none 0 0) 0)]) h.sp).addEmp).perm (List.Perm.swap _ _ _)
          rw [← joinM_blk1] at hP
          have hp1 : FS (joinM (blk1 b (fileO (.slice none 0 0) 0)) p) bf bm q nb ns clock F := h.grow (by rw [joinM_blk1]; exact Mem.sub_set _ hpb)
          have hM2 := hp1.grow (hs2.sub (by simp))
          refine ⟨.map (some bm), mcell_of hM2.files rfl, rfl, ?_⟩
          conv => whnf
          refine .mk _ (mapSetF (v := ptrB b) hM2.map) ?_
          rintro _ m' rfl
          conv => whnf
          have hs3 := hs2.set hp1.map (mapO Value.string (setM name (ptrB b) clock (F.map Fl.men)) (clockM name clock (F.map Fl.men)))
          have hp2 := hp1.ins (f := ⟨name, b, .slice none 0 0, [], 0, clock, emp⟩) (name := name) (.inr ⟨Bs.nil _, by simp, Nat.le_refl _⟩) hP rfl
          have hpf : putF F ⟨name, b, .slice none 0 0, [], 0, clock, emp⟩ name clock = F ++ [⟨name, b, .slice none 0 0, [], 0, clock, emp⟩] := by
            rcases putF_split (F := F) (f := ⟨name, b, .slice none 0 0, [], 0, clock, emp⟩) (name := name) (clock := clock) with ⟨_, h2⟩ | ⟨C, g, D, h0, _, _, h3, _⟩
            · exact h2
            · rw [e] at h3; cases h3
          rw [hpf] at hp2
          have tl := there _ _ _ _ _ [] hp2 hs3 hno (by simp) hnm hfit (fun g e1 e2 e3 => appA_new hno e1 (by rw [e2]; rfl) e3)
          conv at tl => whnf
          refine .via _ _ ?_ tl
          conv => whnf
          repeat (refine And.intro (by first | with_reducible rfl | exact congrArg (Value.int _) (wi (by omega) (by omega)) | exact wi (by omega) (by omega) | rfl) ?_; conv => whnf)
          first | exact trivial | exact fun _ _ h => h
      · have hq1 := of_decide_eq_false h1
        have hfit : ¬ (0 < q ∧ q < (totA (absF F) + lb.length : Nat)) := fun hx => hq1 hx.1
        have hs1 := hs
        clear h1
        conv => whnf
        refine ⟨fun _ => ?_, fun h => absurd h (by decide)⟩
        conv => whnf
        intro b hb
        have hpb : p b = none := hs1.none hb p (by simp)
        have hs2 := (hs1.new hb (fileO (.slice none 0 0) 0)).pair
        conv => whnf
        have hP := ((((Split.one p).new hpb (fileO (.slice none 0 0) 0)).under (a := [blk1 b (fileO (.slice none 0 0) 0)]) h.sp).addEmp).perm (List.Perm.swap _ _ _)
        rw [← joinM_blk1] at hP
        have hp1 : FS (joinM (blk1 b (fileO (.slice none 0 0) 0)) p) bf bm q nb ns clock F := h.grow (by rw [joinM_blk1]; exact Mem.sub_set _ hpb)
        have hM2 := hp1.grow (hs2.sub (by simp))
        refine ⟨.map (some bm), mcell_of hM2.files rfl, rfl, ?_⟩
        conv => whnf
        refine .mk _ (mapSetF (v := ptrB b) hM2.map) ?_
        rintro _ m' rfl
        conv => whnf
        have hs3 := hs2.set hp1.map (mapO Value.string (setM name (ptrB b) clock (F.map Fl.men)) (clockM name clock (F.map Fl.men)))
        have hp2 := hp1.ins (f := ⟨name, b, .slice none 0 0, [], 0, clock, emp⟩) (name := name) (.inr ⟨Bs.nil _, by simp, Nat.le_refl _⟩) hP rfl
        have hpf : putF F ⟨name, b, .slice none 0 0, [], 0, clock, emp⟩ name clock = F ++ [⟨name, b, .slice none 0 0, [], 0, clock, emp⟩] := by
          rcases putF_split (F := F) (f := ⟨name, b, .slice none 0 0, [], 0, clock, emp⟩) (name := name) (clock := clock) with ⟨_, h2⟩ | ⟨C, g, D, h0, _, _, h3, _⟩
          · exact h2
          · rw [e] at h3; cases h3
        rw [hpf] at hp2
        have tl := there _ _ _ _ _ [] hp2 hs3 hno (by simp) hnm hfit (fun g e1 e2 e3 => appA_new hno e1 (by rw [e2]; rfl) e3)
        conv at tl => whnf
        refine .via _ _ ?_ tl
        conv => whnf
        repeat (refine And.intro (by first | with_reducible rfl | exact congrArg (Value.int _) (wi (by omega) (by omega)) | exact wi (by omega) (by omega) | rfl) ?_; conv => whnf)
        first | exact trivial | exact fun _ _ h => h
  | some f =>
    rw [e] at hf
    obtain ⟨A, B, rfl, hA, rfl⟩ := fileOf_split e
    have hlf := hl f (by simp)
    first | refine xretk (hf) ?_ | refine xret (hf) ?_
    conv => whnf
    refine ⟨fun h => absurd h (by decide), fun _ => ?_⟩
    conv => whnf
    first | refine xretk (isName_spec hn) ?_ | refine xret (isName_spec hn) ?_
    conv => whnf
    cases hnm : nameOk (chs f.name) with
    | false =>
      refine ⟨fun _ => ?_, fun h => absurd h (by decide)⟩
      conv => whnf
      exact ⟨1, p, _, clock, nb, rfl, hs, h, by rw [AppR, if_pos hnm]; exact ⟨rfl, rfl, rfl⟩⟩
    | true =>
      refine ⟨fun h => absurd h (by decide), fun _ => ?_⟩
      conv => whnf
      refine ⟨.int .i64 q, mcell_of hM.files rfl, rfl, ?_⟩
      conv => whnf
      refine ⟨fun h1 => ?_, fun h1 => ?_⟩
      · have hq1 := of_decide_eq_true h1
        clear h1
        have ew : IntKind.i64.wrap (q - (lb.length : Int)) = q - (lb.length : Int) := wi (by omega) (by omega)
        conv => whnf
        refine ⟨.int .i64 q, mcell_of hM.files rfl, rfl, ?_⟩
        conv => whnf
        rw [ew]
        refine xcall (used_spec hM htot) ?_
        rintro _ m1 ⟨rfl, hsu⟩
        conv => whnf
        first | (refine ⟨keptF hM.files (Sub.refl _) hsu (by simp), ?_⟩; conv => whnf) | skip
        have hs1 := hs.grow hsu
        refine ⟨fun h2 => ?_, fun h2 => ?_⟩
        · have h2' := of_decide_eq_true h2
          conv => whnf
          exact ⟨5, p, _, clock, nb, rfl, hs1, h, by rw [AppR, if_neg (by rw [hnm]; decide), if_pos ⟨hq1, by rw [totA_abs]; omega⟩]; exact ⟨rfl, rfl, rfl⟩⟩
        · have h2' := of_decide_eq_false h2
          have hfit : ¬ (0 < q ∧ q < (totA (absF (A ++ f :: B)) + lb.length : Nat)) := fun hx => by have := hx.2; rw [totA_abs] at this; omega
          clear h2
          conv => whnf
          refine ⟨fun h => absurd h (by decide), fun _ => ?_⟩
          conv => whnf
          have tl := there _ _ _ _ _ _ h hs1 hA hlf hnm hfit (fun g e1 e2 e3 => appA_split hA e1 e2 e3)
          conv at tl => whnf
          refine .via _ _ ?_ tl
          conv => whnf
          repeat (refine And.intro (by first | with_reducible rfl | exact congrArg (Value.int _) (wi (by omega) (by omega)) | exact wi (by omega) (by omega) | rfl) ?_; conv => whnf)
          first | exact trivial | exact fun _ _ h => h
      · have hq1 := of_decide_eq_false h1
        have hfit : ¬ (0 < q ∧ q < (totA (absF (A ++ f :: B)) + lb.length : Nat)) := fun hx => hq1 hx.1
        have hs1 := hs
        clear h1
        conv => whnf
        refine ⟨fun h => absurd h (by decide), fun _ => ?_⟩
        conv => whnf
        have tl := there _ _ _ _ _ _ h hs1 hA hlf hnm hfit (fun g e1 e2 e3 => appA_split hA e1 e2 e3)
        conv at tl => whnf
        refine .via _ _ ?_ tl
        conv => whnf
        repeat (refine And.intro (by first | with_reducible rfl | exact congrArg (Value.int _) (wi (by omega) (by omega)) | exact wi (by omega) (by omega) | rfl) ?_; conv => whnf)
        first | exact trivial | exact fun _ _ h => h
end Go.E.Ytcjmmhamnglmkaa
