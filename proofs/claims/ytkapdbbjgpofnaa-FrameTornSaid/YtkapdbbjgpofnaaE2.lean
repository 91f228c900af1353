/-
  Parts of values that are written out: read, stored, cut; the table of types; loads and stores of the model over a block that is known.
-/
import Derived.Test.YtkapdbbjgpofnaaE1
namespace Go.E

def kEq : IntKind → IntKind → Bool
  | .i8, .i8 => true
  | .i16, .i16 => true
  | .i32, .i32 => true
  | .i64, .i64 => true
  | .u8, .u8 => true
  | .u16, .u16 => true
  | .u32, .u32 => true
  | .u64, .u64 => true
  | _, _ => false
theorem kEq_eq {k k' : IntKind} (h : kEq k k' = true) : k = k' := by
  cases k <;> cases k' <;> first | rfl | (simp [kEq] at h)

def LB.get : LB → Nat → Option Value
  | [], _ => none
  | .one x :: _, 0 => some x
  | .one _ :: r, n + 1 => LB.get r n
  | .ints k n l :: r, o => bif Nat.blt o n then some (.int k (l.getD o 0)) else LB.get r (o - n)
  | .vals n l :: r, o => bif Nat.blt o n then some (l.getD o undef) else LB.get r (o - n)

theorem blt_lt {a b : Nat} : Nat.blt a b = true ↔ a < b := by
  simp [Nat.blt, Nat.ble_eq, Nat.succ_le_iff]
theorem blt_ge {a b : Nat} : Nat.blt a b = false ↔ b ≤ a := by
  have := @blt_lt a b
  cases h : Nat.blt a b <;> simp [h] at this ⊢ <;> omega
theorem ble_le {a b : Nat} : Nat.ble a b = true ↔ a ≤ b := by rw [Nat.ble_eq]
theorem ble_gt {a b : Nat} : Nat.ble a b = false ↔ b < a := by
  have := @ble_le a b
  cases h : Nat.ble a b <;> simp [h] at this ⊢ <;> omega

theorem LB.get_spec : ∀ {c : LB} {o : Nat} {x : Value}, LB.ok c → LB.get c o = some x → (LB.cells c)[o]? = some x ∧ x.oneCell' = true
  | [], o, x, _, h => by simp [LB.get] at h
  | .one y :: r, 0, x, hc, h => by
    simp only [LB.get, Option.some.injEq] at h; subst h; exact ⟨by simp [LB.cells, Seg.cells], hc.1⟩
  | .one y :: r, n + 1, x, hc, h => by
    simp only [LB.get] at h
    have := LB.get_spec hc.2 h
    simpa [LB.cells, Seg.cells] using this
  | .ints k n l :: r, o, x, hc, h => by
    have hl : l.length = n := hc.1
    simp only [LB.get] at h
    cases hb : Nat.blt o n with
    | true =>
      have hlt := blt_lt.1 hb
      simp only [hb, cond_true, Option.some.injEq] at h
      subst h
      refine ⟨?_, rfl⟩
      simp only [LB.cells, Seg.cells]
      rw [List.getElem?_append_left (by simp; omega), List.getElem?_map, List.getElem?_eq_getElem (by omega)]
      simp [List.getD_eq_getElem?_getD, List.getElem?_eq_getElem (show o < l.length by omega)]
    | false =>
      have hge := blt_ge.1 hb
      simp only [hb, cond_false] at h
      have := LB.get_spec hc.2 h
      refine ⟨?_, this.2⟩
      simp only [LB.cells, Seg.cells]
      rw [List.getElem?_append_right (by simp; omega)]
      simpa [hl] using this.1
  | .vals n l :: r, o, x, hc, h => by
    have hl : l.length = n := hc.1.1
    simp only [LB.get] at h
    cases hb : Nat.blt o n with
    | true =>
      have hlt := blt_lt.1 hb
      simp only [hb, cond_true, Option.some.injEq] at h
      subst h
      have e : l.getD o undef = l[o] := by simp [List.getD_eq_getElem?_getD, List.getElem?_eq_getElem (show o < l.length by omega)]
      refine ⟨?_, by rw [e]; exact hc.1.2 _ (List.getElem_mem _)⟩
      simp only [LB.cells, Seg.cells]
      rw [List.getElem?_append_left (by omega), List.getElem?_eq_getElem (by omega), e]
    | false =>
      have hge := blt_ge.1 hb
      simp only [hb, cond_false] at h
      have := LB.get_spec hc.2 h
      refine ⟨?_, this.2⟩
      simp only [LB.cells, Seg.cells]
      rw [List.getElem?_append_right (by omega)]
      simpa [hl] using this.1

/-- at a place that is reckoned: 'o': where the array begins, 'd': how far in it. -/
def LB.dget : LB → Nat → Nat → (Value → Prop) → Prop
  | [], _, _, _ => False
  | .one _ :: _, 0, _, _ => False
  | .one _ :: r, o + 1, d, K => LB.dget r o d K
  | .ints k n l :: r, o, d, K => bif Nat.blt o n then (match o with | 0 => d < n ∧ K (.int k (l.getD d 0)) | o + 1 => o + 1 + d < n ∧ K (.int k (l.getD (o + 1 + d) 0))) else LB.dget r (o - n) d K
  | .vals n l :: r, o, d, K => bif Nat.blt o n then (match o with | 0 => d < n ∧ K (l.getD d undef) | o + 1 => o + 1 + d < n ∧ K (l.getD (o + 1 + d) undef)) else LB.dget r (o - n) d K

theorem LB.dget_spec : ∀ {c : LB} {o d : Nat} {K : Value → Prop}, LB.ok c → LB.dget c o d K → ∃ x, K x ∧ (LB.cells c)[o + d]? = some x ∧ x.oneCell' = true
  | [], _, _, _, _, h => by simp [LB.dget] at h
  | .one _ :: _, 0, _, _, _, h => by simp [LB.dget] at h
  | .one _ :: r, o + 1, d, K, hc, h => by
    obtain ⟨x, hk, hx, h1⟩ := LB.dget_spec hc.2 (by simpa [LB.dget] using h)
    refine ⟨x, hk, ?_, h1⟩
    have e : o + 1 + d = (o + d) + 1 := by omega
    simpa [LB.cells, Seg.cells, e] using hx
  | .ints k n l :: r, o, d, K, hc, h => by
    have hl : l.length = n := hc.1
    simp only [LB.dget] at h
    cases hb : Nat.blt o n with
    | true =>
      simp only [hb, cond_true] at h
      have h' : o + d < n ∧ K (.int k (l.getD (o + d) 0)) := by
        cases o with
        | zero => simpa using h
        | succ o => exact h
      refine ⟨_, h'.2, ?_, rfl⟩
      simp only [LB.cells, Seg.cells]
      rw [List.getElem?_append_left (by simp; omega), List.getElem?_map, List.getElem?_eq_getElem (by omega)]
      simp [List.getD_eq_getElem?_getD, List.getElem?_eq_getElem (show o + d < l.length by omega)]
    | false =>
      have hge := blt_ge.1 hb
      simp only [hb, cond_false] at h
      obtain ⟨x, hk, hx, h1⟩ := LB.dget_spec hc.2 h
      refine ⟨x, hk, ?_, h1⟩
      simp only [LB.cells, Seg.cells]
      rw [List.getElem?_append_right (by simp; omega)]
      have e : o + d - (l.map (Value.int k)).length = o - n + d := by simp; omega
      rw [e]; exact hx
  | .vals n l :: r, o, d, K, hc, h => by
    have hl : l.length = n := hc.1.1
    simp only [LB.dget] at h
    cases hb : Nat.blt o n with
    | true =>
      simp only [hb, cond_true] at h
      have h' : o + d < n ∧ K (l.getD (o + d) undef) := by
        cases o with
        | zero => simpa using h
        | succ o => exact h
      have e : l.getD (o + d) undef = l[o + d]'(by omega) := by simp [List.getD_eq_getElem?_getD, List.getElem?_eq_getElem (show o + d < l.length by omega)]
      refine ⟨_, h'.2, ?_, by rw [e]; exact hc.1.2 _ (List.getElem_mem _)⟩
      simp only [LB.cells, Seg.cells]
      rw [List.getElem?_append_left (by omega), List.getElem?_eq_getElem (by omega), e]
    | false =>
      have hge := blt_ge.1 hb
      simp only [hb, cond_false] at h
      obtain ⟨x, hk, hx, h1⟩ := LB.dget_spec hc.2 h
      refine ⟨x, hk, ?_, h1⟩
      simp only [LB.cells, Seg.cells]
      rw [List.getElem?_append_right (by omega)]
      have e : o + d - l.length = o - n + d := by omega
      rw [e]; exact hx

def LB.drop : LB → Nat → Option LB
  | c, 0 => some c
  | [], _ + 1 => none
  | .one _ :: r, n + 1 => LB.drop r n
  | .ints k n l :: r, o + 1 => bif Nat.ble n (o + 1) then LB.drop r (o + 1 - n) else some (.ints k (n - (o + 1)) (l.drop (o + 1)) :: r)
  | .vals n l :: r, o + 1 => bif Nat.ble n (o + 1) then LB.drop r (o + 1 - n) else some (.vals (n - (o + 1)) (l.drop (o + 1)) :: r)
theorem LB.drop_spec : ∀ {c : LB} {o : Nat} {d : LB}, LB.ok c → LB.drop c o = some d → LB.ok d ∧ LB.cells d = (LB.cells c).drop o ∧ o ≤ (LB.cells c).length
  | c, 0, d, hc, h => by
    have h' : c = d := by cases c <;> simpa [LB.drop] using h
    subst h'; exact ⟨hc, rfl, Nat.zero_le _⟩
  | [], _ + 1, _, _, h => by simp [LB.drop] at h
  | .one _ :: r, n + 1, d, hc, h => by
    obtain ⟨h1, h2, h3⟩ := LB.drop_spec hc.2 (by simpa [LB.drop] using h)
    exact ⟨h1, by simpa [LB.cells, Seg.cells] using h2, by simp [LB.cells, Seg.cells]; omega⟩
  | .ints k n l :: r, o + 1, d, hc, h => by
    have hl : l.length = n := hc.1
    simp only [LB.drop] at h
    cases hb : Nat.ble n (o + 1) with
    | true =>
      have hle := ble_le.1 hb
      simp only [hb, cond_true] at h
      obtain ⟨h1, h2, h3⟩ := LB.drop_spec hc.2 h
      refine ⟨h1, ?_, by simp [LB.cells, Seg.cells]; omega⟩
      simp only [LB.cells, Seg.cells]
      rw [List.drop_append, List.drop_eq_nil_of_le (by simp; omega), List.nil_append, h2]
      simp [hl]
    | false =>
      have hgt := ble_gt.1 hb
      simp only [hb, cond_false, Option.some.injEq] at h
      subst h
      refine ⟨⟨by simp [Seg.ok]; omega, hc.2⟩, ?_, by simp [LB.cells, Seg.cells]; omega⟩
      simp only [LB.cells, Seg.cells]
      rw [List.drop_append_of_le_length (by simp; omega)]
      simp
  | .vals n l :: r, o + 1, d, hc, h => by
    have hl : l.length = n := hc.1.1
    simp only [LB.drop] at h
    cases hb : Nat.ble n (o + 1) with
    | true =>
      have hle := ble_le.1 hb
      simp only [hb, cond_true] at h
      obtain ⟨h1, h2, h3⟩ := LB.drop_spec hc.2 h
      refine ⟨h1, ?_, by simp [LB.cells, Seg.cells]; omega⟩
      simp only [LB.cells, Seg.cells]
      rw [List.drop_append, List.drop_eq_nil_of_le (by omega), List.nil_append, h2]
      simp [hl]
    | false =>
      have hgt := ble_gt.1 hb
      simp only [hb, cond_false, Option.some.injEq] at h
      subst h
      refine ⟨⟨⟨by simp; omega, fun v hv => hc.1.2 v (List.mem_of_mem_drop hv)⟩, hc.2⟩, ?_, by simp [LB.cells, Seg.cells]; omega⟩
      simp only [LB.cells, Seg.cells]
      rw [List.drop_append_of_le_length (by omega)]

def LB.take : LB → Nat → Option LB
  | _, 0 => some []
  | [], _ + 1 => none
  | .one x :: r, n + 1 => match LB.take r n with
    | some c => some (.one x :: c)
    | none => none
  | .ints k n l :: r, o + 1 => bif Nat.ble n (o + 1) then (match LB.take r (o + 1 - n) with | some c => some (.ints k n l :: c) | none => none) else some [.ints k (o + 1) (l.take (o + 1))]
  | .vals n l :: r, o + 1 => bif Nat.ble n (o + 1) then (match LB.take r (o + 1 - n) with | some c => some (.vals n l :: c) | none => none) else some [.vals (o + 1) (l.take (o + 1))]
theorem LB.take_spec : ∀ {c : LB} {o : Nat} {d : LB}, LB.ok c → LB.take c o = some d → LB.ok d ∧ LB.cells d = (LB.cells c).take o ∧ o ≤ (LB.cells c).length
  | c, 0, d, hc, h => by
    have h' : [] = d := by cases c <;> simpa [LB.take] using h
    subst h'; exact ⟨trivial, by simp [LB.cells], Nat.zero_le _⟩
  | [], _ + 1, _, _, h => by simp [LB.take] at h
  | .one x :: r, n + 1, d, hc, h => by
    simp only [LB.take] at h
    cases ht : LB.take r n with
    | none => simp [ht] at h
    | some e =>
      simp only [ht, Option.some.injEq] at h
      subst h
      obtain ⟨h1, h2, h3⟩ := LB.take_spec hc.2 ht
      exact ⟨⟨hc.1, h1⟩, by simp [LB.cells, Seg.cells, h2], by simp [LB.cells, Seg.cells]; omega⟩
  | .ints k n l :: r, o + 1, d, hc, h => by
    have hl : l.length = n := hc.1
    simp only [LB.take] at h
    cases hb : Nat.ble n (o + 1) with
    | true =>
      have hle := ble_le.1 hb
      simp only [hb, cond_true] at h
      cases ht : LB.take r (o + 1 - n) with
      | none => simp [ht] at h
      | some e =>
        simp only [ht, Option.some.injEq] at h
        subst h
        obtain ⟨h1, h2, h3⟩ := LB.take_spec hc.2 ht
        refine ⟨⟨hc.1, h1⟩, ?_, by simp [LB.cells, Seg.cells]; omega⟩
        simp only [LB.cells, Seg.cells]
        rw [List.take_append, List.take_of_length_le (by simp; omega), h2]
        simp [hl]
    | false =>
      have hgt := ble_gt.1 hb
      simp only [hb, cond_false, Option.some.injEq] at h
      subst h
      refine ⟨⟨by simp [Seg.ok]; omega, trivial⟩, ?_, by simp [LB.cells, Seg.cells]; omega⟩
      simp only [LB.cells, Seg.cells]
      rw [List.take_append_of_le_length (by simp; omega)]
      simp
  | .vals n l :: r, o + 1, d, hc, h => by
    have hl : l.length = n := hc.1.1
    simp only [LB.take] at h
    cases hb : Nat.ble n (o + 1) with
    | true =>
      have hle := ble_le.1 hb
      simp only [hb, cond_true] at h
      cases ht : LB.take r (o + 1 - n) with
      | none => simp [ht] at h
      | some e =>
        simp only [ht, Option.some.injEq] at h
        subst h
        obtain ⟨h1, h2, h3⟩ := LB.take_spec hc.2 ht
        refine ⟨⟨hc.1, h1⟩, ?_, by simp [LB.cells, Seg.cells]; omega⟩
        simp only [LB.cells, Seg.cells]
        rw [List.take_append, List.take_of_length_le (by omega), h2]
        simp [hl]
    | false =>
      have hgt := ble_gt.1 hb
      simp only [hb, cond_false, Option.some.injEq] at h
      subst h
      refine ⟨⟨⟨by simp; omega, fun v hv => hc.1.2 v (List.mem_of_mem_take hv)⟩, trivial⟩, ?_, by simp [LB.cells, Seg.cells]; omega⟩
      simp only [LB.cells, Seg.cells]
      rw [List.take_append_of_le_length (by omega)]
      simp

def LB.sub (c : LB) (o n : Nat) : Option LB :=
  match LB.drop c o with
  | some d => LB.take d n
  | none => none
theorem LB.sub_spec {c : LB} {o n : Nat} {d : LB} (hc : LB.ok c) (h : LB.sub c o n = some d) : LB.ok d ∧ LB.cells d = ((LB.cells c).drop o).take n ∧ (LB.cells d).length = n := by
  unfold LB.sub at h
  cases hd : LB.drop c o with
  | none => simp [hd] at h
  | some e =>
    simp only [hd] at h
    obtain ⟨h1, h2, h3⟩ := LB.drop_spec hc hd
    obtain ⟨k1, k2, k3⟩ := LB.take_spec h1 h
    refine ⟨k1, by rw [k2, h2], ?_⟩
    rw [k2, List.length_take]; omega

def LB.dsub : LB → Nat → Nat → Nat → (LB → Prop) → Prop
  | [], _, _, _, _ => False
  | .one _ :: _, 0, _, _, _ => False
  | .one _ :: r, o + 1, d, n, K => LB.dsub r o d n K
  | .ints k n l :: r, o, d, z, K => bif Nat.blt o n then (match o with | 0 => d + z ≤ n ∧ K [.ints k z ((l.drop d).take z)] | o + 1 => o + 1 + d + z ≤ n ∧ K [.ints k z ((l.drop (o + 1 + d)).take z)]) else LB.dsub r (o - n) d z K
  | .vals n l :: r, o, d, z, K => bif Nat.blt o n then (match o with | 0 => d + z ≤ n ∧ K [.vals z ((l.drop d).take z)] | o + 1 => o + 1 + d + z ≤ n ∧ K [.vals z ((l.drop (o + 1 + d)).take z)]) else LB.dsub r (o - n) d z K
theorem LB.dsub_spec : ∀ {c : LB} {o d z : Nat} {K : LB → Prop}, LB.ok c → LB.dsub c o d z K → ∃ e, K e ∧ LB.ok e ∧ LB.cells e = ((LB.cells c).drop (o + d)).take z ∧ (LB.cells e).length = z
  | [], _, _, _, _, _, h => by simp [LB.dsub] at h
  | .one _ :: _, 0, _, _, _, _, h => by simp [LB.dsub] at h
  | .one _ :: r, o + 1, d, z, K, hc, h => by
    obtain ⟨e, hk, h1, h2, h3⟩ := LB.dsub_spec hc.2 (by simpa [LB.dsub] using h)
    refine ⟨e, hk, h1, ?_, h3⟩
    have e' : o + 1 + d = (o + d) + 1 := by omega
    simpa [LB.cells, Seg.cells, e'] using h2
  | .ints k n l :: r, o, d, z, K, hc, h => by
    have hl : l.length = n := hc.1
    simp only [LB.dsub] at h
    cases hb : Nat.blt o n with
    | true =>
      simp only [hb, cond_true] at h
      have h' : o + d + z ≤ n ∧ K [.ints k z ((l.drop (o + d)).take z)] := by
        cases o with
        | zero => simpa using h
        | succ o => exact h
      refine ⟨_, h'.2, ⟨by simp [Seg.ok]; omega, trivial⟩, ?_, by simp [LB.cells, Seg.cells]; omega⟩
      simp only [LB.cells, Seg.cells, List.append_nil]
      rw [List.drop_append_of_le_length (by simp; omega), List.take_append_of_le_length (by simp; omega)]
      simp
    | false =>
      have hge := blt_ge.1 hb
      simp only [hb, cond_false] at h
      obtain ⟨e, hk, h1, h2, h3⟩ := LB.dsub_spec hc.2 h
      refine ⟨e, hk, h1, ?_, h3⟩
      simp only [LB.cells, Seg.cells]
      rw [List.drop_append, List.drop_eq_nil_of_le (by simp; omega), List.nil_append, h2]
      congr 2
      simp; omega
  | .vals n l :: r, o, d, z, K, hc, h => by
    have hl : l.length = n := hc.1.1
    simp only [LB.dsub] at h
    cases hb : Nat.blt o n with
    | true =>
      simp only [hb, cond_true] at h
      have h' : o + d + z ≤ n ∧ K [.vals z ((l.drop (o + d)).take z)] := by
        cases o with
        | zero => simpa using h
        | succ o => exact h
      refine ⟨_, h'.2, ⟨⟨by simp; omega, fun v hv => hc.1.2 v (List.mem_of_mem_drop (List.mem_of_mem_take hv))⟩, trivial⟩, ?_, by simp [LB.cells, Seg.cells]; omega⟩
      simp only [LB.cells, Seg.cells, List.append_nil]
      rw [List.drop_append_of_le_length (by omega), List.take_append_of_le_length (by simp; omega)]
    | false =>
      have hge := blt_ge.1 hb
      simp only [hb, cond_false] at h
      obtain ⟨e, hk, h1, h2, h3⟩ := LB.dsub_spec hc.2 h
      refine ⟨e, hk, h1, ?_, h3⟩
      simp only [LB.cells, Seg.cells]
      rw [List.drop_append, List.drop_eq_nil_of_le (by omega), List.nil_append, h2]
      congr 2
      omega
end Go.E
