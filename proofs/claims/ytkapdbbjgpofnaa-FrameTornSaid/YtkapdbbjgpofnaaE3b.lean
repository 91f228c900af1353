/-
  Equal or not: of structs and arrays of numbers, bools and texts, cell by cell.
-/
import Derived.Test.YtkapdbbjgpofnaaE3
import Derived.DeepKeys
namespace Go.E

def sameK : Value → Value → Bool
  | .int k _, .int k' _ => kEq k k'
  | .bool _, .bool _ => true
  | .string _, .string _ => true
  | _, _ => false
def ceq : Value → Value → Bool
  | .int _ a, .int _ b => a == b
  | .bool a, .bool b => a == b
  | .string a, .string b => a.toList == b.toList
  | _, _ => false
def Kinds : List Value → List Value → Prop
  | [], [] => True
  | z :: zs, x :: xs => sameK z x = true ∧ Kinds zs xs
  | _, _ => False
def cellsEq : List Value → List Value → Bool
  | [], [] => true
  | x :: xs, y :: ys => ceq x y && cellsEq xs ys
  | _, _ => false

theorem Kinds.length : ∀ {z x : List Value}, Kinds z x → z.length = x.length
  | [], [], _ => rfl
  | _ :: _, _ :: _, h => by simp [Kinds.length h.2]
  | [], _ :: _, h => h.elim
  | _ :: _, [], h => h.elim
theorem Kinds.take : ∀ {z x : List Value} (n : Nat), Kinds z x → Kinds (z.take n) (x.take n)
  | [], [], n, _ => by simp [Kinds]
  | _ :: _, _ :: _, 0, _ => by simp [Kinds]
  | _ :: _, _ :: _, n + 1, h => ⟨h.1, Kinds.take n h.2⟩
  | [], _ :: _, _, h => h.elim
  | _ :: _, [], _, h => h.elim
theorem Kinds.drop : ∀ {z x : List Value} (n : Nat), Kinds z x → Kinds (z.drop n) (x.drop n)
  | [], [], n, _ => by simp [Kinds]
  | _ :: _, _ :: _, 0, h => h
  | _ :: _, _ :: _, n + 1, h => by simpa using Kinds.drop n h.2
  | [], _ :: _, _, h => h.elim
  | _ :: _, [], _, h => h.elim
theorem cellsEq_split : ∀ (n : Nat) {x y : List Value}, x.length = y.length → cellsEq x y = (cellsEq (x.take n) (y.take n) && cellsEq (x.drop n) (y.drop n))
  | _, [], [], _ => by simp [cellsEq]
  | 0, _ :: _, _ :: _, _ => by simp [cellsEq]
  | n + 1, a :: x, b :: y, h => by
    simp only [List.take_succ_cons, List.drop_succ_cons, cellsEq]
    rw [cellsEq_split n (by simpa using h), Bool.and_assoc]
  | _, [], _ :: _, h => by simp at h
  | _, _ :: _, [], h => by simp at h
theorem Kinds.append : ∀ {z x z' x' : List Value}, Kinds z x → Kinds z' x' → Kinds (z ++ z') (x ++ x')
  | [], [], _, _, _, h => h
  | _ :: _, _ :: _, _, _, h, h' => ⟨h.1, Kinds.append h.2 h'⟩
  | [], _ :: _, _, _, h, _ => h.elim
  | _ :: _, [], _, _, h, _ => h.elim
theorem cellsEq_append : ∀ {x y x' y' : List Value}, x.length = y.length → cellsEq (x ++ x') (y ++ y') = (cellsEq x y && cellsEq x' y')
  | [], [], _, _, _ => by simp [cellsEq]
  | _ :: _, _ :: _, _, _, h => by simp only [List.cons_append, cellsEq]; rw [cellsEq_append (by simpa using h), Bool.and_assoc]
  | [], _ :: _, _, _, h => by simp at h
  | _ :: _, [], _, _, h => by simp at h

def goodF (P : Program) (g : TypeId → List Value → Bool) : List Field → List Value → Nat → Bool
  | [], z, off => z.length == off
  | f :: fs, z, off => f.name != "_" && f.offset == off && decide (off + P.cellsOf f.type ≤ z.length) && g f.type ((z.drop off).take (P.cellsOf f.type)) && goodF P g fs z (off + P.cellsOf f.type)
/-- may it be compared cell by cell? z: cells of the type's kinds -/
def goodB (P : Program) : Nat → TypeId → List Value → Bool
  | 0, _, _ => false
  | d + 1, t, z => match P.underlying t with
    | some .bool => match z with
      | [.bool _] => true
      | _ => false
    | some (.int k) => match z with
      | [.int k' _] => kEq k k'
      | _ => false
    | some .string => match z with
      | [.string _] => true
      | _ => false
    | some (.array n e) => (P.info? e).isSome && (z.length == n * P.cellsOf e) && (List.range n).all fun i => goodB P d e ((z.drop (i * P.cellsOf e)).take (P.cellsOf e))
    | some (.struct fs) => !P.stoodInHeld t && goodF P (goodB P d) fs.toList z 0
    | _ => false

/-- a value, by its cells -/
def Vl (P : Program) (t : TypeId) (a : Value) (cs : List Value) : Prop :=
  match P.underlying t with
  | some (.array _ _) => a = .agg cs.toArray
  | some (.struct _) => a = .agg cs.toArray
  | _ => cs = [a]

section
variable {P : Program}

theorem run_part_good {d : Nat} {e : TypeId} {z : List Value} {off : Nat} {xs : Array Value} (hg : goodB P d e ((z.drop off).take (P.cellsOf e)) = true) (hk : Kinds z xs.toList) (w : World) :
    ∃ a, (part e xs off).run P w = .ok a w ∧ Vl P e a ((xs.toList.drop off).take (P.cellsOf e)) := by
  cases d with
  | zero => simp [goodB] at hg
  | succ d =>
    have hk' := (hk.drop off).take (P.cellsOf e)
    have hlen := hk'.length
    cases hu : P.underlying e with
    | none => simp [goodB, hu] at hg
    | some kd =>
      obtain ⟨i, hi⟩ := info_of_underlying hu
      have plain : (∃ v, (z.drop off).take (P.cellsOf e) = [v]) → P.plainKey e = true → ∃ a, (part e xs off).run P w = .ok a w ∧ (xs.toList.drop off).take (P.cellsOf e) = [a] := by
        intro ⟨v, hv⟩ hp
        rw [hv] at hlen
        obtain ⟨a, ha⟩ := List.length_eq_one_iff.1 hlen.symm
        exact ⟨a, run_part_plain w hp (getElem?_of_chunk ha), ha⟩
      have agg : (∃ n e', kd = .array n e') ∨ (∃ fs, kd = .struct fs) → (part e xs off).run P w = .ok (.agg ((xs.toList.drop off).take (P.cellsOf e)).toArray) w := by
        intro hkd
        have hl : xs.extract off (off + P.cellsOf e) = ((xs.toList.drop off).take (P.cellsOf e)).toArray := by
          apply Array.toList_inj.1
          rw [Array.toList_extract]
          simp [List.extract]
        rcases hkd with ⟨n, e', rfl⟩ | ⟨fs, rfl⟩ <;> simp [part, isAgg, run_underlying hu, run_sizeOf w hi, hl]
      unfold goodB at hg
      rw [hu] at hg
      cases kd with
      | bool =>
        simp only at hg
        split at hg
        · rename_i b hz
          obtain ⟨a, h1, h2⟩ := plain ⟨_, hz⟩ (by simp [Program.plainKey, hu])
          exact ⟨a, h1, by simpa [Vl, hu] using h2⟩
        · cases hg
      | int q =>
        simp only at hg
        split at hg
        · rename_i k' b hz
          obtain ⟨a, h1, h2⟩ := plain ⟨_, hz⟩ (by simp [Program.plainKey, hu])
          exact ⟨a, h1, by simpa [Vl, hu] using h2⟩
        · cases hg
      | string =>
        simp only at hg
        split at hg
        · rename_i b hz
          obtain ⟨a, h1, h2⟩ := plain ⟨_, hz⟩ (by simp [Program.plainKey, hu])
          exact ⟨a, h1, by simpa [Vl, hu] using h2⟩
        · cases hg
      | array n e' => exact ⟨_, agg (.inl ⟨n, e', rfl⟩), by simp [Vl, hu]⟩
      | struct fs => exact ⟨_, agg (.inr ⟨fs, rfl⟩), by simp [Vl, hu]⟩
      | _ => simp at hg

def EqG (P : Program) (d : Nat) (t : TypeId) (z : List Value) : Prop :=
  ∀ w a b xs ys, Vl P t a xs → Vl P t b ys → Kinds z xs → Kinds z ys → (Op.equalIn d t a b).run P w = .ok (cellsEq xs ys) w

theorem eqItems_good {d : Nat} {e : TypeId} {D : Nat} {z : List Value} {xs ys : Array Value} (hx : Kinds z xs.toList) (hy : Kinds z ys.toList) (w : World) : ∀ (n k : Nat), (n + k) * P.cellsOf e = z.length →
    (∀ i, i < n + k → goodB P D e ((z.drop (i * P.cellsOf e)).take (P.cellsOf e)) = true ∧ EqG P d e ((z.drop (i * P.cellsOf e)).take (P.cellsOf e))) →
    (Op.eqItems d e (P.cellsOf e) xs ys (List.range' k n)).run P w = .ok (cellsEq (xs.toList.drop (k * P.cellsOf e)) (ys.toList.drop (k * P.cellsOf e))) w
  | 0, k, hl, _ => by
    have h1 : xs.toList.drop (k * P.cellsOf e) = [] := List.drop_eq_nil_of_le (by rw [← hx.length, ← hl]; simp)
    have h2 : ys.toList.drop (k * P.cellsOf e) = [] := List.drop_eq_nil_of_le (by rw [← hy.length, ← hl]; simp)
    rw [h1, h2]; simp [Op.eqItems, cellsEq]
  | n + 1, k, hl, hall => by
    simp only [List.range'_succ, Op.eqItems, Sem.run_bind]
    obtain ⟨hg, he⟩ := hall k (by omega)
    obtain ⟨a, h1, h2⟩ := run_part_good hg hx w
    obtain ⟨b, h3, h4⟩ := run_part_good hg hy w
    rw [h1]; simp only [Result.andThen_ok]
    rw [h3]; simp only [Result.andThen_ok]
    rw [he w a b _ _ h2 h4 ((hx.drop _).take _) ((hy.drop _).take _)]; simp only [Result.andThen_ok]
    have ih := eqItems_good hx hy w n (k + 1) (by rw [← hl]; congr 1; omega) (fun i hi => hall i (by omega))
    have hlen : (xs.toList.drop (k * P.cellsOf e)).length = (ys.toList.drop (k * P.cellsOf e)).length := by
      simp only [List.length_drop]; rw [← hx.length, ← hy.length]
    rw [cellsEq_split (P.cellsOf e) hlen]
    simp only [List.drop_drop]
    rw [show k * P.cellsOf e + P.cellsOf e = (k + 1) * P.cellsOf e by rw [Nat.add_mul, Nat.one_mul]]
    cases cellsEq ((xs.toList.drop (k * P.cellsOf e)).take (P.cellsOf e)) ((ys.toList.drop (k * P.cellsOf e)).take (P.cellsOf e)) with
    | false => simp
    | true => simpa using ih

theorem eqFields_good {d D : Nat} {z : List Value} {xs ys : Array Value} (hx : Kinds z xs.toList) (hy : Kinds z ys.toList) (IH : ∀ t z, goodB P D t z = true → EqG P d t z) (w : World) : ∀ (fs : List Field) (off : Nat), goodF P (goodB P D) fs z off = true →
    (Op.eqFields d xs ys fs).run P w = .ok (cellsEq (xs.toList.drop off) (ys.toList.drop off)) w
  | [], off, h => by
    simp only [goodF, beq_iff_eq] at h
    have h1 : xs.toList.drop off = [] := List.drop_eq_nil_of_le (by rw [← hx.length, h]; exact Nat.le_refl _)
    have h2 : ys.toList.drop off = [] := List.drop_eq_nil_of_le (by rw [← hy.length, h]; exact Nat.le_refl _)
    rw [h1, h2]; simp [Op.eqFields, cellsEq]
  | f :: fs, off, h => by
    simp only [goodF, Bool.and_eq_true, bne_iff_ne, ne_eq, beq_iff_eq] at h
    obtain ⟨⟨⟨⟨hn, ho⟩, _⟩, hg⟩, hr⟩ := h
    obtain ⟨a, h1, h2⟩ := run_part_good hg hx w
    obtain ⟨b, h3, h4⟩ := run_part_good hg hy w
    simp only [Op.eqFields, ne_eq, hn, not_false_eq_true, if_true, Sem.run_bind, ho]
    rw [h1]; simp only [Result.andThen_ok]
    rw [h3]; simp only [Result.andThen_ok]
    rw [IH _ _ hg w a b _ _ h2 h4 ((hx.drop _).take _) ((hy.drop _).take _)]; simp only [Result.andThen_ok]
    have ih := eqFields_good hx hy IH w fs (off + P.cellsOf f.type) hr
    have hlen : (xs.toList.drop off).length = (ys.toList.drop off).length := by
      simp only [List.length_drop]; rw [← hx.length, ← hy.length]
    rw [cellsEq_split (P.cellsOf f.type) hlen]
    simp only [List.drop_drop]
    cases cellsEq ((xs.toList.drop off).take (P.cellsOf f.type)) ((ys.toList.drop off).take (P.cellsOf f.type)) with
    | false => simp
    | true => simpa using ih

theorem good_eq (k : Nat) : ∀ (d : Nat) (t : TypeId) (z : List Value), goodB P d t z = true → EqG P (k + d) t z
  | 0, _, _, h => by simp [goodB] at h
  | d + 1, t, z, h => by
    intro w a b xs ys hxa hyb hx hy
    have IH := fun t z => good_eq k d t z
    unfold goodB at h
    cases hu : P.underlying t with
    | none => simp [hu] at h
    | some kd =>
      rw [hu] at h
      have cell : ∀ v, z = [v] → ∃ u u', xs = [u] ∧ ys = [u'] ∧ sameK v u = true ∧ sameK v u' = true := by
        intro v hz
        subst hz
        match xs, hx with
        | [u], hx => match ys, hy with
          | [u'], hy => exact ⟨u, u', rfl, rfl, hx.1, hy.1⟩
          | [], hy => exact hy.elim
          | _ :: _ :: _, hy => exact hy.2.elim
        | [], hx => exact hx.elim
        | _ :: _ :: _, hx => exact hx.2.elim
      cases kd with
      | bool =>
        simp only at h
        split at h
        · rename_i v
          obtain ⟨u, u', rfl, rfl, g1, g2⟩ := cell _ rfl
          simp only [Vl, hu, List.cons.injEq, and_true] at hxa hyb
          subst hxa; subst hyb
          cases u <;> simp [sameK] at g1
          cases u' <;> simp [sameK] at g2
          rw [show k + (d + 1) = (k + d) + 1 from rfl, run_equalIn_bool w (k + d) t _ _ hu]
          simp [cellsEq, ceq]
        · cases h
      | int q =>
        simp only at h
        split at h
        · rename_i k' v
          obtain ⟨u, u', rfl, rfl, g1, g2⟩ := cell _ rfl
          simp only [Vl, hu, List.cons.injEq, and_true] at hxa hyb
          subst hxa; subst hyb
          cases u <;> simp [sameK] at g1
          cases u' <;> simp [sameK] at g2
          have e1 := kEq_eq g1; have e2 := kEq_eq g2
          subst e1; subst e2
          rw [show k + (d + 1) = (k + d) + 1 from rfl, run_equalIn_int w (k + d) t _ _ _ _ hu]
          simp [cellsEq, ceq]
        · cases h
      | string =>
        simp only at h
        split at h
        · rename_i v
          obtain ⟨u, u', rfl, rfl, g1, g2⟩ := cell _ rfl
          simp only [Vl, hu, List.cons.injEq, and_true] at hxa hyb
          subst hxa; subst hyb
          cases u <;> simp [sameK] at g1
          cases u' <;> simp [sameK] at g2
          rw [show k + (d + 1) = (k + d) + 1 from rfl, run_equalIn_string w (k + d) t _ _ hu]
          simp [cellsEq, ceq]
        · cases h
      | array n e =>
        simp only [Bool.and_eq_true, beq_iff_eq, List.all_eq_true, List.mem_range] at h
        obtain ⟨⟨hi, hlen⟩, hall⟩ := h
        obtain ⟨i, hi⟩ := Option.isSome_iff_exists.1 hi
        simp only [Vl, hu] at hxa hyb
        subst hxa; subst hyb
        rw [show k + (d + 1) = (k + d) + 1 from rfl, run_equalIn_array w (k + d) _ _ hu hi, List.range_eq_range']
        have := eqItems_good (P := P) (d := k + d) (e := e) (D := d) (z := z) (xs := xs.toArray) (ys := ys.toArray) (by simpa using hx) (by simpa using hy) w n 0 (by simp [hlen]) (fun i hi => ⟨hall i (by omega), IH _ _ (hall i (by omega))⟩)
        simpa using this
      | struct fs =>
        simp only [Bool.and_eq_true, Bool.not_eq_true'] at h
        obtain ⟨hs, hf⟩ := h
        simp only [Vl, hu] at hxa hyb
        subst hxa; subst hyb
        have hfs : P.fieldsOf t = fs := by simp [Program.fieldsOf, hu]
        rw [show k + (d + 1) = (k + d) + 1 from rfl, run_equalIn_struct w (k + d) t _ _ (by rw [hfs]; exact hu) hs, hfs]
        have := eqFields_good (P := P) (d := k + d) (D := d) (z := z) (xs := xs.toArray) (ys := ys.toArray) (by simpa using hx) (by simpa using hy) IH w fs.toList 0 hf
        simpa using this
      | _ => simp at h
end

/-! ### by segments -/
def kindLB : LB → LB → Bool
  | [], [] => true
  | .one z :: zs, .one x :: xs => sameK z x && kindLB zs xs
  | .ints k n _ :: zs, .ints k' n' _ :: xs => kEq k k' && Nat.beq n n' && kindLB zs xs
  | _, _ => false
def eqLB : LB → LB → Bool
  | [], [] => true
  | .one x :: c, .one y :: d => ceq x y && eqLB c d
  | .ints _ _ l :: c, .ints _ _ l' :: d => (l == l') && eqLB c d
  | _, _ => false

theorem kEq_self (k : IntKind) : kEq k k = true := by cases k <;> rfl
theorem kinds_ints {k : IntKind} : ∀ {l l' : List Int}, l.length = l'.length → Kinds (l.map (Value.int k)) (l'.map (Value.int k))
  | [], [], _ => trivial
  | _ :: _, _ :: _, h => ⟨by simp [sameK, kEq_self], kinds_ints (by simpa using h)⟩
  | [], _ :: _, h => by simp at h
  | _ :: _, [], h => by simp at h
theorem cellsEq_ints {k k' : IntKind} : ∀ {l l' : List Int}, l.length = l'.length → cellsEq (l.map (Value.int k)) (l'.map (Value.int k')) = (l == l')
  | [], [], _ => rfl
  | a :: l, b :: l', h => by
    simp only [List.map_cons, cellsEq, ceq, List.cons_beq_cons]
    rw [cellsEq_ints (by simpa using h)]
  | [], _ :: _, h => by simp at h
  | _ :: _, [], h => by simp at h
theorem kindLB_spec : ∀ {z c : LB}, LB.ok z → LB.ok c → kindLB z c = true → Kinds (LB.cells z) (LB.cells c)
  | [], [], _, _, _ => trivial
  | .one z :: zs, .one x :: xs, h1, h2, h => by
    simp only [kindLB, Bool.and_eq_true] at h
    exact ⟨h.1, kindLB_spec h1.2 h2.2 h.2⟩
  | .ints k n l :: zs, .ints k' n' l' :: xs, h1, h2, h => by
    simp only [kindLB, Bool.and_eq_true] at h
    obtain ⟨⟨g1, g2⟩, g3⟩ := h
    have e1 := kEq_eq g1; have e2 := Nat.eq_of_beq_eq_true g2
    subst e1; subst e2
    have l1 : l.length = n := h1.1
    have l2 : l'.length = n := h2.1
    exact Kinds.append (kinds_ints (by omega)) (kindLB_spec h1.2 h2.2 g3)
  | [], _ :: _, _, _, h => by simp [kindLB] at h
  | .one _ :: _, [], _, _, h => by simp [kindLB] at h
  | .one _ :: _, .ints _ _ _ :: _, _, _, h => by simp [kindLB] at h
  | .one _ :: _, .vals _ _ :: _, _, _, h => by simp [kindLB] at h
  | .ints _ _ _ :: _, [], _, _, h => by simp [kindLB] at h
  | .ints _ _ _ :: _, .one _ :: _, _, _, h => by simp [kindLB] at h
  | .ints _ _ _ :: _, .vals _ _ :: _, _, _, h => by simp [kindLB] at h
  | .vals _ _ :: _, _, _, _, h => by simp [kindLB] at h
theorem eqLB_spec : ∀ {z c d : LB}, LB.ok c → LB.ok d → kindLB z c = true → kindLB z d = true → cellsEq (LB.cells c) (LB.cells d) = eqLB c d
  | [], [], [], _, _, _, _ => rfl
  | .one z :: zs, .one x :: xs, .one y :: ys, h1, h2, h3, h4 => by
    simp only [kindLB, Bool.and_eq_true] at h3 h4
    simp only [LB.cells, Seg.cells, List.cons_append, List.nil_append, cellsEq, eqLB, eqLB_spec h1.2 h2.2 h3.2 h4.2]
  | .ints k n l :: zs, .ints k' n' l' :: xs, .ints k2 n2 l2 :: ys, h1, h2, h3, h4 => by
    simp only [kindLB, Bool.and_eq_true] at h3 h4
    have e2 := Nat.eq_of_beq_eq_true h3.1.2
    have e3 := Nat.eq_of_beq_eq_true h4.1.2
    have l1 : l'.length = n' := h1.1
    have l3 : l2.length = n2 := h2.1
    simp only [LB.cells, Seg.cells, eqLB]
    rw [cellsEq_append (by simp; omega), cellsEq_ints (by omega), eqLB_spec h1.2 h2.2 h3.2 h4.2]
  | [], _ :: _, _, _, _, h, _ => by simp [kindLB] at h
  | [], [], _ :: _, _, _, _, h => by simp [kindLB] at h
  | .one _ :: _, [], _, _, _, h, _ => by simp [kindLB] at h
  | .one _ :: _, .ints _ _ _ :: _, _, _, _, h, _ => by simp [kindLB] at h
  | .one _ :: _, .vals _ _ :: _, _, _, _, h, _ => by simp [kindLB] at h
  | .one _ :: _, .one _ :: _, [], _, _, _, h => by simp [kindLB] at h
  | .one _ :: _, .one _ :: _, .ints _ _ _ :: _, _, _, _, h => by simp [kindLB] at h
  | .one _ :: _, .one _ :: _, .vals _ _ :: _, _, _, _, h => by simp [kindLB] at h
  | .ints _ _ _ :: _, [], _, _, _, h, _ => by simp [kindLB] at h
  | .ints _ _ _ :: _, .one _ :: _, _, _, _, h, _ => by simp [kindLB] at h
  | .ints _ _ _ :: _, .vals _ _ :: _, _, _, _, h, _ => by simp [kindLB] at h
  | .ints _ _ _ :: _, .ints _ _ _ :: _, [], _, _, _, h => by simp [kindLB] at h
  | .ints _ _ _ :: _, .ints _ _ _ :: _, .one _ :: _, _, _, _, h => by simp [kindLB] at h
  | .ints _ _ _ :: _, .ints _ _ _ :: _, .vals _ _ :: _, _, _, _, h => by simp [kindLB] at h
  | .vals _ _ :: _, _, _, _, _, h, _ => by simp [kindLB] at h
end Go.E
