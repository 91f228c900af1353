/-
  Stores into values that are written out; the table of types; loads and stores of the model over a block that is known.
-/
import Derived.Test.YtkapdbbjgpofnaaE2
namespace Go.E

def LB.set : LB → Nat → Value → Option LB
  | [], _, _ => none
  | .one _ :: r, 0, x => some (.one x :: r)
  | .one y :: r, n + 1, x => match LB.set r n x with
    | some c => some (.one y :: c)
    | none => none
  | .ints k n l :: r, o, x => bif Nat.blt o n then (match x with | .int k' z => bif kEq k k' then some (.ints k n (l.set o z) :: r) else none | _ => none) else (match LB.set r (o - n) x with | some c => some (.ints k n l :: c) | none => none)
  | .vals n l :: r, o, x => bif Nat.blt o n then some (.vals n (l.set o x) :: r) else (match LB.set r (o - n) x with | some c => some (.vals n l :: c) | none => none)

theorem LB.set_spec : ∀ {c : LB} {o : Nat} {x : Value} {c' : LB}, LB.ok c → x.oneCell' = true → LB.set c o x = some c' → LB.ok c' ∧ LB.cells c' = (LB.cells c).set o x ∧ o < (LB.cells c).length
  | [], _, _, _, _, _, h => by simp [LB.set] at h
  | .one y :: r, 0, x, c', hc, hx, h => by
    simp only [LB.set, Option.some.injEq] at h; subst h
    exact ⟨⟨hx, hc.2⟩, by simp [LB.cells, Seg.cells], by simp [LB.cells, Seg.cells]⟩
  | .one y :: r, n + 1, x, c', hc, hx, h => by
    simp only [LB.set] at h
    cases hs : LB.set r n x with
    | none => simp [hs] at h
    | some e =>
      simp only [hs, Option.some.injEq] at h; subst h
      obtain ⟨h1, h2, h3⟩ := LB.set_spec hc.2 hx hs
      exact ⟨⟨hc.1, h1⟩, by simp [LB.cells, Seg.cells, h2], by simp [LB.cells, Seg.cells]; omega⟩
  | .ints k n l :: r, o, x, c', hc, hx, h => by
    have hl : l.length = n := hc.1
    simp only [LB.set] at h
    cases hb : Nat.blt o n with
    | true =>
      have hlt := blt_lt.1 hb
      simp only [hb, cond_true] at h
      cases x with
      | int k' z =>
        cases hk : kEq k k' with
        | false => simp [hk] at h
        | true =>
          simp only [hk, cond_true, Option.some.injEq] at h
          have := kEq_eq hk; subst this; subst h
          refine ⟨⟨by simp [Seg.ok, hl], hc.2⟩, ?_, by simp [LB.cells, Seg.cells]; omega⟩
          simp only [LB.cells, Seg.cells]
          rw [List.set_append_left _ _ (by simp; omega), List.map_set]
      | _ => simp at h
    | false =>
      have hge := blt_ge.1 hb
      simp only [hb, cond_false] at h
      cases hs : LB.set r (o - n) x with
      | none => simp [hs] at h
      | some e =>
        simp only [hs, Option.some.injEq] at h; subst h
        obtain ⟨h1, h2, h3⟩ := LB.set_spec hc.2 hx hs
        refine ⟨⟨hc.1, h1⟩, ?_, by simp [LB.cells, Seg.cells]; omega⟩
        simp only [LB.cells, Seg.cells]
        rw [List.set_append_right _ _ (by simp; omega), h2]
        simp [hl]
  | .vals n l :: r, o, x, c', hc, hx, h => by
    have hl : l.length = n := hc.1.1
    simp only [LB.set] at h
    cases hb : Nat.blt o n with
    | true =>
      have hlt := blt_lt.1 hb
      simp only [hb, cond_true, Option.some.injEq] at h
      subst h
      refine ⟨⟨⟨by simp [hl], fun v hv => ?_⟩, hc.2⟩, ?_, by simp [LB.cells, Seg.cells]; omega⟩
      · rcases List.mem_or_eq_of_mem_set hv with h1 | h1
        · exact hc.1.2 v h1
        · rw [h1]; exact hx
      · simp only [LB.cells, Seg.cells]
        rw [List.set_append_left _ _ (by omega)]
    | false =>
      have hge := blt_ge.1 hb
      simp only [hb, cond_false] at h
      cases hs : LB.set r (o - n) x with
      | none => simp [hs] at h
      | some e =>
        simp only [hs, Option.some.injEq] at h; subst h
        obtain ⟨h1, h2, h3⟩ := LB.set_spec hc.2 hx hs
        refine ⟨⟨hc.1, h1⟩, ?_, by simp [LB.cells, Seg.cells]; omega⟩
        simp only [LB.cells, Seg.cells]
        rw [List.set_append_right _ _ (by omega), h2]
        simp [hl]

def LB.dset : LB → Nat → Nat → Value → (LB → Prop) → Prop
  | [], _, _, _, _ => False
  | .one _ :: _, 0, _, _, _ => False
  | .one y :: r, o + 1, d, x, K => LB.dset r o d x (fun c => K (.one y :: c))
  | .ints k n l :: r, o, d, x, K => bif Nat.blt o n then (match x with | .int k' z => bif kEq k k' then (match o with | 0 => d < n ∧ K (.ints k n (l.set d z) :: r) | o + 1 => o + 1 + d < n ∧ K (.ints k n (l.set (o + 1 + d) z) :: r)) else False | _ => False) else LB.dset r (o - n) d x (fun c => K (.ints k n l :: c))
  | .vals n l :: r, o, d, x, K => bif Nat.blt o n then (match o with | 0 => d < n ∧ K (.vals n (l.set d x) :: r) | o + 1 => o + 1 + d < n ∧ K (.vals n (l.set (o + 1 + d) x) :: r)) else LB.dset r (o - n) d x (fun c => K (.vals n l :: c))
theorem LB.dset_spec : ∀ {c : LB} {o d : Nat} {x : Value} {K : LB → Prop}, LB.ok c → x.oneCell' = true → LB.dset c o d x K → ∃ c', K c' ∧ LB.ok c' ∧ LB.cells c' = (LB.cells c).set (o + d) x ∧ o + d < (LB.cells c).length
  | [], _, _, _, _, _, _, h => by simp [LB.dset] at h
  | .one _ :: _, 0, _, _, _, _, _, h => by simp [LB.dset] at h
  | .one y :: r, o + 1, d, x, K, hc, hx, h => by
    obtain ⟨e, hk, h1, h2, h3⟩ := LB.dset_spec (c := r) (K := fun c => K (.one y :: c)) hc.2 hx (by simpa [LB.dset] using h)
    have e' : o + 1 + d = (o + d) + 1 := by omega
    exact ⟨_, hk, ⟨hc.1, h1⟩, by simp [LB.cells, Seg.cells, h2, e'], by simp [LB.cells, Seg.cells]; omega⟩
  | .ints k n l :: r, o, d, x, K, hc, hx, h => by
    have hl : l.length = n := hc.1
    simp only [LB.dset] at h
    cases hb : Nat.blt o n with
    | true =>
      simp only [hb, cond_true] at h
      cases x with
      | int k' z =>
        cases hk : kEq k k' with
        | false => simp [hk] at h
        | true =>
          simp only [hk, cond_true] at h
          have := kEq_eq hk; subst this
          have h' : o + d < n ∧ K (.ints k n (l.set (o + d) z) :: r) := by
            cases o with
            | zero => simpa using h
            | succ o => exact h
          refine ⟨_, h'.2, ⟨by simp [Seg.ok, hl], hc.2⟩, ?_, by simp [LB.cells, Seg.cells]; omega⟩
          simp only [LB.cells, Seg.cells]
          rw [List.set_append_left _ _ (by simp; omega), List.map_set]
      | _ => simp at h
    | false =>
      have hge := blt_ge.1 hb
      simp only [hb, cond_false] at h
      obtain ⟨e, hk, h1, h2, h3⟩ := LB.dset_spec (K := fun c => K (.ints k n l :: c)) hc.2 hx h
      refine ⟨_, hk, ⟨hc.1, h1⟩, ?_, by simp [LB.cells, Seg.cells]; omega⟩
      simp only [LB.cells, Seg.cells]
      rw [List.set_append_right _ _ (by simp; omega), h2]
      congr 2
      simp; omega
  | .vals n l :: r, o, d, x, K, hc, hx, h => by
    have hl : l.length = n := hc.1.1
    simp only [LB.dset] at h
    cases hb : Nat.blt o n with
    | true =>
      simp only [hb, cond_true] at h
      have h' : o + d < n ∧ K (.vals n (l.set (o + d) x) :: r) := by
        cases o with
        | zero => simpa using h
        | succ o => exact h
      refine ⟨_, h'.2, ⟨⟨by simp [hl], fun v hv => ?_⟩, hc.2⟩, ?_, by simp [LB.cells, Seg.cells]; omega⟩
      · rcases List.mem_or_eq_of_mem_set hv with h1 | h1
        · exact hc.1.2 v h1
        · rw [h1]; exact hx
      · simp only [LB.cells, Seg.cells]
        rw [List.set_append_left _ _ (by omega)]
    | false =>
      have hge := blt_ge.1 hb
      simp only [hb, cond_false] at h
      obtain ⟨e, hk, h1, h2, h3⟩ := LB.dset_spec (K := fun c => K (.vals n l :: c)) hc.2 hx h
      refine ⟨_, hk, ⟨hc.1, h1⟩, ?_, by simp [LB.cells, Seg.cells]; omega⟩
      simp only [LB.cells, Seg.cells]
      rw [List.set_append_right _ _ (by omega), h2]
      congr 2
      omega

/-- numbers into numbers, at a place within them -/
def intsIn (k : IntKind) (n : Nat) (l : List Int) (o : Nat) (v : LB) : Option Seg :=
  match v with
  | [.ints k' n' l'] => bif kEq k k' && Nat.ble (o + n') n then some (.ints k n (l.take o ++ (l' ++ l.drop (o + n')))) else none
  | _ => none
theorem intsIn_spec {k : IntKind} {n : Nat} {l : List Int} {o : Nat} {v : LB} {s : Seg} (hl : l.length = n) (hv : LB.ok v) (h : intsIn k n l o v = some s) :
    s.ok ∧ s.cells = (l.map (Value.int k)).take o ++ (LB.cells v ++ (l.map (Value.int k)).drop (o + (LB.cells v).length)) ∧ o + (LB.cells v).length ≤ n := by
  unfold intsIn at h
  split at h
  · rename_i k' n' l'
    cases hb : kEq k k' && Nat.ble (o + n') n with
    | false => simp [hb] at h
    | true =>
      simp only [hb, cond_true, Option.some.injEq] at h
      simp only [Bool.and_eq_true] at hb
      have := kEq_eq hb.1; subst this
      have hle := ble_le.1 hb.2
      have hl' : l'.length = n' := hv.1
      subst h
      refine ⟨by simp [Seg.ok]; omega, ?_, by simp [LB.cells, Seg.cells]; omega⟩
      simp [LB.cells, Seg.cells, hl']
  · simp at h

def LB.putA : LB → Nat → LB → Option LB
  | [], _, _ => none
  | .ints k n l :: r, o, v => bif Nat.blt o n then (match intsIn k n l o v with | some s => some (s :: r) | none => none) else (match LB.putA r (o - n) v with | some c => some (.ints k n l :: c) | none => none)
  | .one x :: r, 0, v => match LB.drop (.one x :: r) (LB.size v) with
    | some e => some (v ++ e)
    | none => none
  | .one x :: r, o + 1, v => match LB.putA r o v with
    | some c => some (.one x :: c)
    | none => none
  | .vals n l :: r, 0, v => match LB.drop (.vals n l :: r) (LB.size v) with
    | some e => some (v ++ e)
    | none => none
  | .vals n l :: r, o + 1, v => bif Nat.ble n (o + 1) then (match LB.putA r (o + 1 - n) v with | some c => some (.vals n l :: c) | none => none) else none
theorem LB.putA_spec : ∀ {c : LB} {o : Nat} {v c' : LB}, LB.ok c → LB.ok v → LB.putA c o v = some c' →
    LB.ok c' ∧ LB.cells c' = (LB.cells c).take o ++ (LB.cells v ++ (LB.cells c).drop (o + (LB.cells v).length)) ∧ o + (LB.cells v).length ≤ (LB.cells c).length
  | [], _, _, _, _, _, h => by simp [LB.putA] at h
  | .ints k n l :: r, o, v, c', hc, hv, h => by
    have hl : l.length = n := hc.1
    simp only [LB.putA] at h
    cases hb : Nat.blt o n with
    | true =>
      have hlt := blt_lt.1 hb
      simp only [hb, cond_true] at h
      cases hi : intsIn k n l o v with
      | none => simp [hi] at h
      | some s =>
        simp only [hi, Option.some.injEq] at h
        subst h
        obtain ⟨h1, h2, h3⟩ := intsIn_spec hl hv hi
        refine ⟨⟨h1, hc.2⟩, ?_, by simp [LB.cells, Seg.cells]; omega⟩
        simp only [LB.cells, h2]
        rw [show Seg.cells (.ints k n l) = l.map (Value.int k) from rfl, List.take_append_of_le_length (by simp; omega), List.drop_append_of_le_length (by simp; omega)]
        simp
    | false =>
      have hge := blt_ge.1 hb
      simp only [hb, cond_false] at h
      cases hs : LB.putA r (o - n) v with
      | none => simp [hs] at h
      | some e =>
        simp only [hs, Option.some.injEq] at h; subst h
        obtain ⟨h1, h2, h3⟩ := LB.putA_spec hc.2 hv hs
        refine ⟨⟨hc.1, h1⟩, ?_, by simp [LB.cells, Seg.cells]; omega⟩
        simp only [LB.cells, h2]
        have e1 : (l.map (Value.int k)).take o = l.map (Value.int k) := List.take_of_length_le (by simp; omega)
        have e2 : (l.map (Value.int k)).drop (o + (LB.cells v).length) = [] := List.drop_eq_nil_of_le (by simp; omega)
        rw [show Seg.cells (.ints k n l) = l.map (Value.int k) from rfl, List.take_append, List.drop_append, e1, e2]
        simp only [List.length_map, hl, List.nil_append, List.append_assoc]
        rw [show o + (LB.cells v).length - n = o - n + (LB.cells v).length from by omega]
  | .one x :: r, 0, v, c', hc, hv, h => by
    simp only [LB.putA] at h
    cases hd : LB.drop (.one x :: r) (LB.size v) with
    | none => simp [hd] at h
    | some e =>
      simp only [hd, Option.some.injEq] at h; subst h
      obtain ⟨h1, h2, h3⟩ := LB.drop_spec hc hd
      have hlv := LB.cells_length hv
      refine ⟨LB.ok_append hv h1, ?_, by omega⟩
      rw [LB.cells_append, h2]
      simp [hlv]
  | .one x :: r, o + 1, v, c', hc, hv, h => by
    simp only [LB.putA] at h
    cases hs : LB.putA r o v with
    | none => simp [hs] at h
    | some e =>
      simp only [hs, Option.some.injEq] at h; subst h
      obtain ⟨h1, h2, h3⟩ := LB.putA_spec hc.2 hv hs
      refine ⟨⟨hc.1, h1⟩, ?_, by simp [LB.cells, Seg.cells]; omega⟩
      have e' : o + 1 + (LB.cells v).length = (o + (LB.cells v).length) + 1 := by omega
      simp [LB.cells, Seg.cells, h2, e']
  | .vals n l :: r, 0, v, c', hc, hv, h => by
    simp only [LB.putA] at h
    cases hd : LB.drop (.vals n l :: r) (LB.size v) with
    | none => simp [hd] at h
    | some e =>
      simp only [hd, Option.some.injEq] at h; subst h
      obtain ⟨h1, h2, h3⟩ := LB.drop_spec hc hd
      have hlv := LB.cells_length hv
      refine ⟨LB.ok_append hv h1, ?_, by omega⟩
      rw [LB.cells_append, h2]
      simp [hlv]
  | .vals n l :: r, o + 1, v, c', hc, hv, h => by
    have hl : l.length = n := hc.1.1
    simp only [LB.putA] at h
    cases hb : Nat.ble n (o + 1) with
    | false => simp [hb] at h
    | true =>
      have hle := ble_le.1 hb
      simp only [hb, cond_true] at h
      cases hs : LB.putA r (o + 1 - n) v with
      | none => simp [hs] at h
      | some e =>
        simp only [hs, Option.some.injEq] at h; subst h
        obtain ⟨h1, h2, h3⟩ := LB.putA_spec hc.2 hv hs
        refine ⟨⟨hc.1, h1⟩, ?_, by simp [LB.cells, Seg.cells]; omega⟩
        simp only [LB.cells, h2]
        have e1 : l.take (o + 1) = l := List.take_of_length_le (by omega)
        have e2 : l.drop (o + 1 + (LB.cells v).length) = [] := List.drop_eq_nil_of_le (by omega)
        rw [show Seg.cells (.vals n l) = l from rfl, List.take_append, List.drop_append, e1, e2]
        simp only [hl, List.nil_append, List.append_assoc]
        rw [show o + 1 + (LB.cells v).length - n = o + 1 - n + (LB.cells v).length from by omega]

/-- the whole, or a part, stored -/
def LB.putW (c : LB) (o : Nat) (v : LB) : Option LB :=
  bif Nat.beq o 0 && Nat.beq (LB.size v) (LB.size c) then some v else LB.putA c o v
theorem LB.putW_spec {c : LB} {o : Nat} {v c' : LB} (hc : LB.ok c) (hv : LB.ok v) (h : LB.putW c o v = some c') :
    LB.ok c' ∧ LB.cells c' = (LB.cells c).take o ++ (LB.cells v ++ (LB.cells c).drop (o + (LB.cells v).length)) ∧ o + (LB.cells v).length ≤ (LB.cells c).length := by
  unfold LB.putW at h
  cases hb : Nat.beq o 0 && Nat.beq (LB.size v) (LB.size c) with
  | false => simp only [hb, cond_false] at h; exact LB.putA_spec hc hv h
  | true =>
    simp only [hb, cond_true, Option.some.injEq] at h
    subst h
    simp only [Bool.and_eq_true] at hb
    have e0 := Nat.eq_of_beq_eq_true hb.1
    have e1 := Nat.eq_of_beq_eq_true hb.2
    subst e0
    have h1 := LB.cells_length hc
    have h2 := LB.cells_length hv
    refine ⟨hv, ?_, by omega⟩
    rw [List.drop_eq_nil_of_le (by omega)]
    simp

def LB.dput : LB → Nat → Nat → LB → (LB → Prop) → Prop
  | [], _, _, _, _ => False
  | .one _ :: _, 0, _, _, _ => False
  | .one y :: r, o + 1, d, v, K => LB.dput r o d v (fun c => K (.one y :: c))
  | .ints k n l :: r, o, d, v, K => bif Nat.blt o n then (match v with | [.ints k' n' l'] => bif kEq k k' then (match o with | 0 => d + n' ≤ n ∧ K (.ints k n (l.take d ++ (l' ++ l.drop (d + n'))) :: r) | o + 1 => o + 1 + d + n' ≤ n ∧ K (.ints k n (l.take (o + 1 + d) ++ (l' ++ l.drop (o + 1 + d + n'))) :: r)) else False | _ => False) else LB.dput r (o - n) d v (fun c => K (.ints k n l :: c))
  | .vals n l :: r, o, d, v, K => bif Nat.blt o n then False else LB.dput r (o - n) d v (fun c => K (.vals n l :: c))
theorem LB.dput_spec : ∀ {c : LB} {o d : Nat} {v : LB} {K : LB → Prop}, LB.ok c → LB.ok v → LB.dput c o d v K → ∃ c', K c' ∧ LB.ok c' ∧
    LB.cells c' = (LB.cells c).take (o + d) ++ (LB.cells v ++ (LB.cells c).drop (o + d + (LB.cells v).length)) ∧ o + d + (LB.cells v).length ≤ (LB.cells c).length
  | [], _, _, _, _, _, _, h => by simp [LB.dput] at h
  | .one _ :: _, 0, _, _, _, _, _, h => by simp [LB.dput] at h
  | .one y :: r, o + 1, d, v, K, hc, hv, h => by
    obtain ⟨e, hk, h1, h2, h3⟩ := LB.dput_spec (c := r) (K := fun c => K (.one y :: c)) hc.2 hv (by simpa [LB.dput] using h)
    have e' : o + 1 + d = (o + d) + 1 := by omega
    have e'' : o + 1 + d + (LB.cells v).length = (o + d + (LB.cells v).length) + 1 := by omega
    refine ⟨_, hk, ⟨hc.1, h1⟩, ?_, by simp [LB.cells, Seg.cells]; omega⟩
    rw [e'', e']
    simp [LB.cells, Seg.cells, h2]
  | .ints k n l :: r, o, d, v, K, hc, hv, h => by
    have hl : l.length = n := hc.1
    simp only [LB.dput] at h
    cases hb : Nat.blt o n with
    | true =>
      simp only [hb, cond_true] at h
      split at h
      · rename_i k' n' l'
        cases hk : kEq k k' with
        | false => simp [hk] at h
        | true =>
          simp only [hk, cond_true] at h
          have := kEq_eq hk; subst this
          have hl' : l'.length = n' := hv.1
          have h' : o + d + n' ≤ n ∧ K (.ints k n (l.take (o + d) ++ (l' ++ l.drop (o + d + n'))) :: r) := by
            cases o with
            | zero => simpa using h
            | succ o => exact h
          refine ⟨_, h'.2, ⟨by simp [Seg.ok]; omega, hc.2⟩, ?_, by simp [LB.cells, Seg.cells]; omega⟩
          simp only [LB.cells, Seg.cells, List.append_nil, List.length_map, hl']
          rw [List.take_append_of_le_length (by simp; omega), List.drop_append_of_le_length (by simp; omega)]
          simp
      · exact h.elim
    | false =>
      have hge := blt_ge.1 hb
      simp only [hb, cond_false] at h
      obtain ⟨e, hk, h1, h2, h3⟩ := LB.dput_spec (K := fun c => K (.ints k n l :: c)) hc.2 hv h
      refine ⟨_, hk, ⟨hc.1, h1⟩, ?_, by simp [LB.cells, Seg.cells]; omega⟩
      simp only [LB.cells, h2]
      have e1 : (l.map (Value.int k)).take (o + d) = l.map (Value.int k) := List.take_of_length_le (by simp; omega)
      have e2 : (l.map (Value.int k)).drop (o + d + (LB.cells v).length) = [] := List.drop_eq_nil_of_le (by simp; omega)
      rw [show Seg.cells (.ints k n l) = l.map (Value.int k) from rfl, List.take_append, List.drop_append, e1, e2]
      simp only [List.length_map, hl, List.nil_append, List.append_assoc]
      rw [show o + d - n = o - n + d from by omega, show o + d + (LB.cells v).length - n = o - n + d + (LB.cells v).length from by omega]
  | .vals n l :: r, o, d, v, K, hc, hv, h => by
    have hl : l.length = n := hc.1.1
    simp only [LB.dput] at h
    cases hb : Nat.blt o n with
    | true => simp [hb] at h
    | false =>
      have hge := blt_ge.1 hb
      simp only [hb, cond_false] at h
      obtain ⟨e, hk, h1, h2, h3⟩ := LB.dput_spec (K := fun c => K (.vals n l :: c)) hc.2 hv h
      refine ⟨_, hk, ⟨hc.1, h1⟩, ?_, by simp [LB.cells, Seg.cells]; omega⟩
      simp only [LB.cells, h2]
      have e1 : l.take (o + d) = l := List.take_of_length_le (by omega)
      have e2 : l.drop (o + d + (LB.cells v).length) = [] := List.drop_eq_nil_of_le (by omega)
      rw [show Seg.cells (.vals n l) = l from rfl, List.take_append, List.drop_append, e1, e2]
      simp only [hl, List.nil_append, List.append_assoc]
      rw [show o + d - n = o - n + d from by omega, show o + d + (LB.cells v).length - n = o - n + d + (LB.cells v).length from by omega]
end Go.E
