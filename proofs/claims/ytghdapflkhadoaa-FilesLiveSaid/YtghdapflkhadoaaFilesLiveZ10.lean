/-
  Fr1, Fr2, Fr3, Fr4, Fr6, E32, Fr7, Fr8, Fr9, FrA
-/
import Derived.Test.YtghdapflkhadoaaFilesLiveZ9
/-
  The document's files: where one stands, how many bytes.
-/
namespace Go.E.Ytghdapflkhadoaa
open Go.Proofs
set_option maxRecDepth 100000
structure Rf where
  name : ByteArray
  b : ByteArray
  safe : Nat
abbrev rfC (r : Rf) : List Value := [.string r.name, .string r.b, .int .i64 (r.safe : Int)]
theorem rfOk : EncOk rfC 3 := ⟨fun _ => rfl, fun x u hu => by simp [rfC] at hu; rcases hu with rfl | rfl | rfl <;> rfl, by decide⟩
abbrev refO (q : Int) (v : Value) (nb ns : Nat) : Obj := .cells #[.int .i64 q, v, .int .u64 (nb : Int), .int .u64 (ns : Int)] 32
/-- the document's files, that are somewhere -/
structure RM (m : Mem) (bx : Nat) (q : Int) (nb ns : Nat) (L : List Rf) (v : Value) : Prop where
  obj : m bx = some (refO q v nb ns)
  lies : Lies m 3 v (L.flatMap rfC)
theorem RM.sub {m m' : Mem} {bx : Nat} {q : Int} {nb ns : Nat} {L : List Rf} {v : Value} (h : RM m bx q nb ns L v) (hs : Sub m m') : RM m' bx q nb ns L v := ⟨hs _ _ h.obj, Lies.sub h.lies hs⟩
def atR (L : List Rf) (name : ByteArray) : Int := match L.findIdx? fun r => decide (r.name = name) with
  | some i => (i : Int)
  | none => -1
def usedR (L : List Rf) : Nat := (L.map fun r => r.b.size).sum
theorem strEq (a b : ByteArray) : (a.toList == b.toList) = decide (a = b) := by
  by_cases h : a = b
  · subst h; simp
  · rw [decide_eq_false h]
    refine beq_eq_false_iff_ne.2 fun e => h ?_
    rw [ByteArray.toList_eq, ByteArray.toList_eq] at e
    cases a; cases b
    congr 1
    exact Array.toList_inj.1 e
theorem refAt_spec {m : Mem} {bx : Nat} {q : Int} {nb ns : Nat} {L : List Rf} {v : Value} {name : ByteArray} (h : RM m bx q nb ns L v) (hl : L.length ≤ 1000000) : Ret Try.prog 38 [ptrB bx, .v (.string name)] m [i64 (atR L name)] := by
  obtain ⟨ho, hv⟩ := h
  obtain ⟨a, c, rfl⟩ := rfOk.shape hv
  refine en38 rfl (goY ?_)
  conv => whnf
  refine .mk (ι := Nat) (fun i => L.length - i) (fun i mm => i ≤ L.length ∧ (∀ j (hj : j < L.length), j < i → L[j].name ≠ name) ∧ mm = m) (fun i => [(0, .c (ptrB bx)), (1, .c (.v (.string name))), (5, .c (i64 i))]) (fun _ => []) 0 ⟨by omega, fun j _ h => by omega, rfl⟩ ?_ ?_
  · conv => whnf
    repeat (refine And.intro (by first | with_reducible rfl | exact congrArg (Value.int _) (wi (by omega) (by omega)) | exact wi (by omega) (by omega) | rfl) ?_; conv => whnf)
    first | exact trivial | exact fun _ _ h => h
  rintro i mm ⟨hi, hall, he⟩
  subst mm
  conv => whnf
  refine ⟨_, mcell_of ho rfl, rfl, ?_⟩
  conv => whnf
  refine ⟨fun h1 => ?_, fun h1 => ?_⟩
  · have hi1 : i < L.length := by have := of_decide_eq_true h1; omega
    clear h1
    obtain ⟨b, o, c', e, hg⟩ := rfOk.real hv hi1
    have hgi := hg i hi1
    conv => whnf
    refine ⟨_, mcell_of ho rfl, rfl, ?_⟩
    injection e with e1 e2 e3
    subst e1
    conv => whnf
    repeat (refine And.intro (by first | omega | (simp only [times]; omega)) ?_; conv => whnf)
    refine ⟨_, by simp only [times, Int.toNat_natCast]; exact mcell_rng (j := 0) hgi rfl, rfl, ?_⟩
    conv => whnf
    rw [strEq]
    refine ⟨fun h2 => ?_, fun h2 => ?_⟩
    · have h2 := of_decide_eq_true h2
      conv => whnf
      refine ⟨?_, rfl⟩
      have : L.findIdx? (fun r => decide (r.name = name)) = some i := by
        rw [List.findIdx?_eq_some_iff_getElem]
        exact ⟨hi1, by simpa using h2, fun j hj => by simpa using hall j (by omega) hj⟩
      rw [atR, this]
    · have h2 := of_decide_eq_false h2
      conv => whnf
      refine ⟨i + 1, ⟨by omega, fun j hj hji => ?_, rfl⟩, by first | omega | (simp only; omega), ?_⟩
      · by_cases e : j = i
        · subst e; exact h2
        · exact hall j hj (by omega)
      conv => whnf
      repeat (refine And.intro (by first | with_reducible rfl | (first | exact congrArg (Value.int _) (iadd1 (by omega))) | exact congrArg (Value.int _) (wi (by omega) (by omega)) | exact wi (by omega) (by omega) | rfl) ?_; conv => whnf)
      first | exact trivial | exact fun _ _ h => h
  · have : i = L.length := by have := of_decide_eq_false h1; omega
    subst this
    conv => whnf
    refine ⟨?_, rfl⟩
    have : L.findIdx? (fun r => decide (r.name = name)) = none := by
      rw [List.findIdx?_eq_none_iff]
      intro x hx
      obtain ⟨j, hj, rfl⟩ := List.getElem_of_mem hx
      simpa using hall j hj hj
    rw [atR, this]
theorem usedR_le (L : List Rf) (i : Nat) : usedR (L.take i) ≤ usedR L := by
  have h : usedR L = usedR (L.take i) + usedR (L.drop i) := by
    rw [usedR, usedR, usedR, ← List.sum_append_nat, ← List.map_append, List.take_append_drop]
  omega
theorem refUsed_spec {m : Mem} {bx : Nat} {q : Int} {nb ns : Nat} {L : List Rf} {v : Value} (h : RM m bx q nb ns L v) (hl : L.length ≤ 1000000) (ht : usedR L ≤ 1000000000000) : Ret Try.prog 30 [ptrB bx] m [i64 (usedR L)] := by
  obtain ⟨ho, hv⟩ := h
  obtain ⟨a, c, rfl⟩ := rfOk.shape hv
  refine en30 rfl (goY ?_)
  conv => whnf
  refine .mk (ι := Nat) (fun i => L.length - i) (fun i mm => i ≤ L.length ∧ mm = m) (fun i => [(0, .c (ptrB bx)), (3, .c (i64 (usedR (L.take i)))), (4, .c (i64 i))]) (fun _ => []) 0 ⟨by omega, rfl⟩ ?_ ?_
  · conv => whnf
    repeat (refine And.intro (by first | with_reducible rfl | exact congrArg (Value.int _) (wi (by omega) (by omega)) | exact wi (by omega) (by omega) | rfl) ?_; conv => whnf)
    first | exact trivial | exact fun _ _ h => h
  rintro i mm ⟨hi, he⟩
  subst mm
  conv => whnf
  refine ⟨_, mcell_of ho rfl, rfl, ?_⟩
  conv => whnf
  refine ⟨fun h1 => ?_, fun h1 => ?_⟩
  · have hi1 : i < L.length := by have := of_decide_eq_true h1; omega
    clear h1
    obtain ⟨b, o, c', e, hg⟩ := rfOk.real hv hi1
    have hgi := hg i hi1
    conv => whnf
    refine ⟨_, mcell_of ho rfl, rfl, ?_⟩
    injection e with e1 e2 e3
    subst e1
    conv => whnf
    repeat (refine And.intro (by first | omega | (simp only [times]; omega)) ?_; conv => whnf)
    refine ⟨_, by simp only [times, Int.toNat_natCast]; exact mcell_rng (j := 1) hgi rfl, rfl, ?_⟩
    conv => whnf
    have hsu : usedR (L.take (i + 1)) = usedR (L.take i) + L[i].b.size := by
      rw [List.take_succ_eq_append_getElem hi1]; simp only [usedR, List.map_append, List.sum_append_nat, List.map_cons, List.map_nil, List.sum_cons, List.sum_nil, Nat.add_zero]
    have hle := usedR_le L (i + 1)
    refine ⟨i + 1, ⟨by omega, rfl⟩, by first | omega | (simp only; omega), ?_⟩
    conv => whnf
    repeat (refine And.intro (by first | with_reducible rfl | (first | exact congrArg (Value.int _) (iadd1 (by omega)) | exact congrArg (Value.int _) (by rw [hsu]; exact (wi (by omega) (by omega)).trans (by omega))) | exact congrArg (Value.int _) (wi (by omega) (by omega)) | exact wi (by omega) (by omega) | rfl) ?_; conv => whnf)
    first | exact trivial | exact fun _ _ h => h
  · have : i = L.length := by have := of_decide_eq_false h1; omega
    subst this
    conv => whnf
    rw [List.take_length]
    exact ⟨rfl, rfl⟩
end Go.E.Ytghdapflkhadoaa

/-
  The document's files: names, and their order.
-/
namespace Go.E.Ytghdapflkhadoaa
open Go.Proofs
set_option maxRecDepth 100000
theorem isFB_iff (c : Nat) : isFB c = true ↔ ((97 ≤ c ∧ c ≤ 122) ∨ (48 ≤ c ∧ c ≤ 57) ∨ c = 45 ∨ c = 46) := by simp [isFB]
set_option maxHeartbeats 4000000 in
theorem refIsName_spec {m : Mem} {s : ByteArray} (hs : s.size ≤ 1000000) : Ret Try.prog 37 [.v (.string s)] m [boolV (nameOk (chs s))] := by
  refine en37 rfl (goY ?_)
  conv => whnf
  refine .mk (ι := Nat) (fun i => s.size - i) (fun i mm => i ≤ s.size ∧ (∀ x ∈ (chs s).take i, isFB x = true) ∧ mm = m) (fun i => [(0, .c (.v (.string s))), (3, .c (i64 i))]) (fun _ => []) 0 ⟨by omega, by simp, rfl⟩ ?_ ?_
  · conv => whnf
    repeat (refine And.intro (by first | with_reducible rfl | exact congrArg (Value.int _) (wi (by omega) (by omega)) | exact wi (by omega) (by omega) | rfl) ?_; conv => whnf)
    first | exact trivial | exact fun _ _ h => h
  rintro i mm ⟨hi, hall, he⟩
  subst mm
  conv => whnf
  refine ⟨fun h => ?_, fun h => ?_⟩
  · have h' := of_decide_eq_true h
    have hlt : i < s.size := by omega
    clear h h'
    conv => whnf
    repeat (refine And.intro (by first | omega | (simp only [times]; omega)) ?_; conv => whnf)
    rw [Int.toNat_natCast, chsAt]
    have hli : i < (chs s).length := by rw [chs_len]; omega
    have hget : (chs s)[i]? = some ((chs s).getD i 0) := by simp [List.getD_eq_getElem?_getD, List.getElem?_eq_getElem hli]
    generalize hc : (chs s).getD i 0 = c at hget
    have hyes : isFB c = true → ∀ x ∈ (chs s).take (i + 1), isFB x = true := fun h3 x hx => by
      rw [List.take_succ_eq_append_getElem hli] at hx
      rcases List.mem_append.1 hx with hx | hx
      · exact hall x hx
      · rw [List.mem_singleton.1 hx]
        rw [List.getElem?_eq_getElem hli] at hget
        rw [Option.some.inj hget]; exact h3
    have hno : isFB c = false → nameOk (chs s) = false := fun h3 => by
      have : (chs s).all isFB = false := by
        rw [List.all_eq_false]
        exact ⟨_, List.mem_of_getElem? hget, by simp only [h3, Bool.false_eq_true, not_false_eq_true]⟩
      simp [nameOk, this]
    have hiff := isFB_iff c
    clear hget hc hall
    conv => whnf
    repeat' (first | (refine ⟨fun h => ?_, fun h => ?_⟩ <;> conv => whnf) | fail)
    all_goals first
      | refine ⟨i + 1, ⟨by omega, hyes (by rw [hiff]; clear hyes hno hiff; simp only [ge_iff_le, decide_eq_true_eq, decide_eq_false_iff_not, beq_iff_eq, beq_eq_false_iff_ne, Bool.not_eq_true', Bool.not_eq_false', ne_eq] at *; omega), rfl⟩, by first | omega | (simp only; omega), ?_⟩
      | refine ⟨(by rw [hno (by cases hq : isFB c with | false => rfl | true => rw [hiff] at hq; exfalso; clear hyes hno hiff; simp only [ge_iff_le, decide_eq_true_eq, decide_eq_false_iff_not, beq_iff_eq, beq_eq_false_iff_ne, Bool.not_eq_true', Bool.not_eq_false', ne_eq] at *; omega)]), rfl⟩
      | skip
    all_goals conv => whnf
    all_goals repeat (refine And.intro (by first | with_reducible rfl | exact congrArg (Value.int _) (iadd1 (by omega)) | rfl) ?_; conv => whnf)
    all_goals first | exact trivial | exact fun _ _ h => h
  · have h1' := of_decide_eq_false h
    obtain rfl : i = s.size := by omega
    clear h
    have hl := chs_len s
    rw [← hl, List.take_length] at hall
    have hal : (chs s).all isFB = true := List.all_eq_true.2 hall
    conv => whnf
    refine ⟨fun h => ?_, fun h => ?_⟩
    · have h2 := of_decide_eq_true h
      conv => whnf
      refine ⟨?_, rfl⟩
      simp only [nameOk, hal, hl, Bool.and_true]
      rw [decide_eq_true (show 0 < s.size by omega), Bool.true_and]
      rw [decide_eq_decide.2 (show ((s.size : Int) < 21) ↔ s.size ≤ 20 by omega)]
    · have h2 := of_decide_eq_false h
      conv => whnf
      refine ⟨?_, rfl⟩
      simp only [nameOk, hal, hl, Bool.and_true]
      rw [decide_eq_false (show ¬ 0 < s.size by omega), Bool.false_and]
theorem lt_at : ∀ {i : Nat} {la lb : List UInt8} (ha : i < la.length) (hb : i < lb.length), la.take i = lb.take i → la[i] ≠ lb[i] → (la < lb ↔ la[i] < lb[i])
  | 0, x :: la, y :: lb, _, _, _, hne => by
    simp only [List.getElem_cons_zero] at hne ⊢
    rw [List.cons_lt_cons_iff]
    exact ⟨fun h => h.elim id fun h => absurd h.1 hne, .inl⟩
  | i + 1, x :: la, y :: lb, ha, hb, ht, hne => by
    simp only [List.take_succ_cons, List.cons.injEq] at ht
    obtain ⟨rfl, ht⟩ := ht
    have ih := lt_at (i := i) (la := la) (lb := lb) (by simpa using ha) (by simpa using hb) ht (by simpa using hne)
    rw [List.cons_lt_cons_iff]
    simp only [List.getElem_cons_succ]
    rw [← ih]
    exact ⟨fun h => h.elim (fun h => absurd h (UInt8.lt_irrefl _)) (·.2), fun h => .inr ⟨trivial, h⟩⟩
theorem lt_end : ∀ {i : Nat} {la lb : List UInt8}, la.take i = lb.take i → i ≤ la.length → i ≤ lb.length → (i = la.length ∨ i = lb.length) → (la < lb ↔ la.length < lb.length)
  | 0, la, lb, _, _, _, h => by
    cases la with
    | nil => cases lb with
      | nil => simp
      | cons y lb => simp
    | cons x la => cases lb with
      | nil => simp
      | cons y lb => simp at h
  | i + 1, la, lb, ht, ha, hb, h => by
    cases la with
    | nil => simp at ha
    | cons x la => cases lb with
      | nil => simp at hb
      | cons y lb =>
        simp only [List.take_succ_cons, List.cons.injEq] at ht
        obtain ⟨rfl, ht⟩ := ht
        have ih := lt_end (i := i) (la := la) (lb := lb) ht (by simpa using ha) (by simpa using hb) (by simpa using h)
        rw [List.cons_lt_cons_iff, List.length_cons, List.length_cons, Nat.add_lt_add_iff_right, ← ih]
        exact ⟨fun h => h.elim (fun h => absurd h (UInt8.lt_irrefl _)) (·.2), fun h => .inr ⟨rfl, h⟩⟩
theorem encB_len (s : ByteArray) : (encB s).length = s.size := by simp [encB]
theorem getD8 {l : List UInt8} {i : Nat} (h : i < l.length) : l.getD i 0 = l[i] := by rw [List.getD_eq_getElem?_getD, List.getElem?_eq_getElem h]; rfl
set_option maxHeartbeats 4000000 in
theorem refLess_spec {m : Mem} {a b : ByteArray} (ha : a.size ≤ 1000000) (hb : b.size ≤ 1000000) : Ret Try.prog 47 [.v (.string a), .v (.string b)] m [boolV (decide (encB a < encB b))] := by
  have la := encB_len a
  have lb := encB_len b
  refine en47 rfl (goY ?_)
  conv => whnf
  refine .mk (ι := Nat) (fun i => a.size - i) (fun i mm => i ≤ a.size ∧ i ≤ b.size ∧ (encB a).take i = (encB b).take i ∧ mm = m) (fun i => [(0, .c (.v (.string a))), (1, .c (.v (.string b))), (5, .c (i64 i))]) (fun _ => []) 0 ⟨by omega, by omega, rfl, rfl⟩ ?_ ?_
  · conv => whnf
    repeat (refine And.intro (by first | with_reducible rfl | exact congrArg (Value.int _) (wi (by omega) (by omega)) | exact wi (by omega) (by omega) | rfl) ?_; conv => whnf)
    first | exact trivial | exact fun _ _ h => h
  rintro i mm ⟨hi, hi2, heq, he⟩
  subst mm
  conv => whnf
  refine ⟨fun h => ?_, fun h => ?_⟩
  rotate_left
  · have h' := of_decide_eq_false h
    have he := lt_end heq (by omega) (by omega) (.inl (by omega))
    rw [la, lb] at he
    conv => whnf
    refine ⟨?_, rfl⟩
    rw [decide_eq_decide.2 (show ((a.size : Int) < (b.size : Int)) ↔ encB a < encB b by rw [he]; omega)]
  have hi1 : i < a.size := by have := of_decide_eq_true h; omega
  clear h
  conv => whnf
  refine ⟨fun h => ?_, fun h => ?_⟩
  rotate_left
  · have h' := of_decide_eq_false h
    have he := lt_end heq (by omega) (by omega) (.inr (by omega))
    rw [la, lb] at he
    conv => whnf
    refine ⟨?_, rfl⟩
    rw [decide_eq_decide.2 (show ((a.size : Int) < (b.size : Int)) ↔ encB a < encB b by rw [he]; omega)]
  have hi3 : i < b.size := by have := of_decide_eq_true h; omega
  clear h
  conv => whnf
  repeat (refine And.intro (by first | omega | (simp only [times]; omega)) ?_; conv => whnf)
  repeat (refine And.intro (by first | omega | (simp only [times]; omega)) ?_; conv => whnf)
  have ga : a.data.toList.getD (i : Int).toNat 0 = (encB a)[i]'(by omega) := by rw [Int.toNat_natCast]; exact getD8 (l := encB a) (by omega)
  have gb : b.data.toList.getD (i : Int).toNat 0 = (encB b)[i]'(by omega) := by rw [Int.toNat_natCast]; exact getD8 (l := encB b) (by omega)
  rw [ga, gb]
  refine ⟨fun h => ?_, fun h => ?_⟩
  · have hne : (encB a)[i]'(by omega) ≠ (encB b)[i]'(by omega) := fun e => by rw [e] at h; simp at h
    have hlt := lt_at (by omega) (by omega) heq hne
    conv => whnf
    repeat (refine And.intro (by first | omega | (simp only [times]; omega)) ?_; conv => whnf)
    repeat (refine And.intro (by first | omega | (simp only [times]; omega)) ?_; conv => whnf)
    rw [ga, gb]
    refine ⟨?_, rfl⟩
    rw [decide_eq_decide.2 (show (((encB a)[i]'(by omega)).toNat : Int) < (((encB b)[i]'(by omega)).toNat : Int) ↔ encB a < encB b by rw [hlt, UInt8.lt_iff_toNat_lt]; omega)]
  · have he : (encB a)[i]'(by omega) = (encB b)[i]'(by omega) := by
      have : (((encB a)[i]'(by omega)).toNat : Int) = (((encB b)[i]'(by omega)).toNat : Int) := by simpa using h
      exact UInt8.toNat_inj.1 (by omega)
    conv => whnf
    refine ⟨i + 1, ⟨by omega, by omega, by rw [List.take_succ_eq_append_getElem (by omega), List.take_succ_eq_append_getElem (by omega), heq, he], rfl⟩, by first | omega | (simp only; omega), ?_⟩
    conv => whnf
    repeat (refine And.intro (by first | with_reducible rfl | (first | exact congrArg (Value.int _) (iadd1 (by omega))) | exact congrArg (Value.int _) (wi (by omega) (by omega)) | exact wi (by omega) (by omega) | rfl) ?_; conv => whnf)
    first | exact trivial | exact fun _ _ h => h
end Go.E.Ytghdapflkhadoaa

/-
  The document's files: lists of them, owned; one put in, one gone.
-/
namespace Go.E.Ytghdapflkhadoaa
open Go.Proofs
set_option maxRecDepth 100000
abbrev rfV (r : Rf) : CV := .a [.one (.string r.name), .one (.string r.b), .one (.int .i64 (r.safe : Int))]
theorem hRs : ∃ ti, tt.get 29 = some ti ∧ ti.k = .slice 67 := ⟨_, rfl, rfl⟩
theorem hRn : ∃ ti, tt.get 67 = some ti ∧ ti.size = 3 ∧ ti.bytes = 40 ∧ LB.cells ti.zero = rfC ⟨ByteArray.empty, ByteArray.empty, 0⟩ := ⟨_, rfl, rfl, rfl, rfl⟩
def Rl (m : Mem) (v : Value) (E : List Rf) : Prop := Lies m 3 v (E.flatMap rfC)
def Ro (m : Mem) (v : Value) (E : List Rf) : Prop := Own m 67 3 v (E.flatMap rfC)
def Ra (m : Mem) (v : Value) (E : List Rf) : Prop := Rl m v E ∨ (E = [] ∧ ∃ a, v = .slice (some a) 0 0)
theorem Rl.sub {m m' : Mem} {v : Value} {E : List Rf} (h : Rl m v E) (hs : Sub m m') : Rl m' v E := Lies.sub h hs
theorem Ro.sub {m m' : Mem} {v : Value} {E : List Rf} (h : Ro m v E) (hs : Sub m m') : Ro m' v E := Own.sub h hs
theorem Ro.el {m : Mem} {v : Value} {E : List Rf} (h : Ro m v E) : Rl m v E := Own.lies h
theorem Rl.ea {m : Mem} {v : Value} {E : List Rf} (h : Rl m v E) : Ra m v E := .inl h
theorem Ra.sub {m m' : Mem} {v : Value} {E : List Rf} (h : Ra m v E) (hs : Sub m m') : Ra m' v E := h.imp (·.sub hs) id
theorem Ro.nil (m : Mem) : Ro m (.slice none 0 0) [] := .inl ⟨rfl, rfl⟩
theorem Ra.shape {m : Mem} {v : Value} {E : List Rf} (h : Ra m v E) : ∃ a c, v = .slice a E.length c := by
  rcases h with h | ⟨rfl, a, rfl⟩
  · exact rfOk.shape h
  · exact ⟨_, _, rfl⟩
theorem Ra.lenV {m : Mem} {v : Value} {E : List Rf} (h : Ra m v E) : lenV v = E.length := by obtain ⟨a, c, rfl⟩ := h.shape; rfl
theorem Ra.one {m : Mem} {v : Value} {E : List Rf} (h : Ra m v E) : v.oneCell' = true := by obtain ⟨a, c, rfl⟩ := h.shape; rfl
theorem Ra.gives {m : Mem} {v : Value} {E : List Rf} {e : TypeId} (h : Ra m v E) : Gives m 3 (.slice e) v (E.flatMap rfC) := .inl ⟨e, rfl, h.imp id fun ⟨h1, h2⟩ => ⟨by rw [h1]; rfl, h2⟩⟩
/-- append of files onto the i-th part -/
theorem appendRat {m p : Mem} {ls : List Mem} {i : Nat} {v x : Value} {E news : List Rf} (hs : Split m ls) (hi : ls[i]? = some p) (hv : Ro p v E) (hg : Ra m x news) (hb : E.length + news.length ≤ 100000000) :
    PrimSpec Try.prog (.builtin .append [29, 29]) [.v v, .v x] m fun r m' => ∃ v' p', r = [.v v'] ∧ Split m' (ls.set i p') ∧ Ro p' v' (E ++ news) := by
  obtain ⟨ti, h1, h2⟩ := hRs
  obtain ⟨ei, g1, g2, g3, g4⟩ := hRn
  have e1 := hv.el.ea.lenV
  have e2 := hg.lenV
  have hv' : Own p 67 ei.size v (E.flatMap rfC) := by rw [g2]; exact hv
  refine (append_at (news := news.flatMap rfC) tt_ok h1 h2 g1 h1 (by rw [g4, g2]; rfl) hs hi hv' (by rw [h2, g2]; exact hg.gives) (by rw [e1, e2, g3]; omega) (by rw [e1, e2]; omega)).mono fun r m' ⟨v', p', q1, q2, q3⟩ => ⟨v', p', q1, q2, ?_⟩
  have := q3.own
  rw [g2, ← List.flatMap_append] at this
  exact this
theorem buildR0 {m : Mem} : PrimSpec Try.prog (.buildSlice 29 0 []) [] m fun r m' => ∃ b, m b = none ∧ r = [.v (.slice (some ⟨b, 0, none⟩) 0 0)] ∧ m' = m.set b (.cells #[] 67) := by
  obtain ⟨ti, h1, h2⟩ := hRs
  obtain ⟨ei, g1, g2, g3, g4⟩ := hRn
  exact buildSlice0_spec tt_ok h1 h2 g1
theorem buildR1 {m : Mem} {e : Rf} : PrimSpec Try.prog (.buildSlice 29 1 [0]) [rfV e] m fun r m' => ∃ b, m b = none ∧ r = [.v (.slice (some ⟨b, 0, none⟩) 1 1)] ∧ m' = m.set b (.cells (rfC e).toArray 67) := by
  obtain ⟨ti, h1, h2⟩ := hRs
  obtain ⟨ei, g1, g2, g3, g4⟩ := hRn
  exact (buildSlice_spec (n := 1) tt_ok h1 h2 g1 rfl rfl (by simp [CV.cs, LB.cells, Seg.cells, g2]) (by omega) (by omega)).mono fun r m' ⟨b, e1, e2, e3⟩ => ⟨b, e1, e2, e3⟩
theorem Ro.blk1 {m : Mem} {b : Nat} {e : Rf} (h : m b = some (.cells (rfC e).toArray 67)) : Ro m (.slice (some ⟨b, 0, none⟩) 1 1) [e] :=
  .inr ⟨b, 0, 1, 1, _, rfl, h, rfl, Nat.le_refl _, Nat.le_refl _, fun j u hu => by rw [Nat.zero_add, List.getElem?_toArray]; exact hu, rfOk.fone⟩
theorem Ro.blk0 {m : Mem} {b : Nat} (h : m b = some (.cells #[] 67)) : Ro m (.slice (some ⟨b, 0, none⟩) 0 0) [] :=
  .inr ⟨b, 0, 0, 0, _, rfl, h, rfl, Nat.le_refl _, Nat.le_refl _, fun j u hu => by simp at hu, rfOk.fone⟩
/-- one file more -/
theorem pushR {m p : Mem} {ls : List Mem} {i b' : Nat} {x : Rf} {y : Value} {E : List Rf} (hs : Split m ls) (hi : ls[i]? = some p) (hb : m b' = none) (hy : Ro p y E) (hl : E.length ≤ 10000000) :
    PrimSpec Try.prog (.builtin .append [29, 29]) [.v y, .v (.slice (some ⟨b', 0, none⟩) 1 1)] (m.set b' (.cells (rfC x).toArray 67)) fun r m' => ∃ y' p', r = [.v y'] ∧ Split m' (ls.set i p') ∧ Ro p' y' (E ++ [x]) := by
  have hs1 := hs.new hb (.cells (rfC x).toArray 67)
  exact (appendRat (i := i + 1) hs1 (by simpa using hi) hy (Ro.blk1 (Mem.set_same ..)).el.ea (by simp; omega)).mono fun r m' ⟨v', p', h1, h2, h3⟩ => ⟨v', p', h1, h2.erase 0, h3⟩
/-- the document's files, in a memory of their own -/
def FR (p : Mem) (bx : Nat) (q : Int) (nb ns : Nat) (L : List Rf) : Prop := ∃ v pl, Split p [blk1 bx (refO q v nb ns), pl] ∧ Ro pl v L
theorem FR.rm {p : Mem} {bx : Nat} {q : Int} {nb ns : Nat} {L : List Rf} (h : FR p bx q nb ns L) : ∃ v, RM p bx q nb ns L v := by
  obtain ⟨v, pl, h1, h2⟩ := h
  exact ⟨v, h1.sub (a := blk1 bx (refO q v nb ns)) (by simp) _ _ (blk1_same ..), (h2.sub (h1.sub (by simp))).el⟩
set_option maxHeartbeats 4000000 in
theorem refCut_spec {p : Mem} {bx i : Nat} {q : Int} {nb ns : Nat} {L : List Rf} (h : FR p bx q nb ns L) (hi : i < L.length) (hl : L.length ≤ 1000000) : Spec Try.prog 40 [ptrB bx, i64 i] p fun r m' => r = [] ∧ FR m' bx q nb ns (L.eraseIdx i) := by
  obtain ⟨v, pl, hs, hv⟩ := h
  have ho : p bx = some (refO q v nb ns) := hs.sub (a := blk1 bx (refO q v nb ns)) (by simp) _ _ (blk1_same ..)
  have hvp : Rl p v L := (hv.sub (hs.sub (by simp))).el
  obtain ⟨b, o, c, rfl, hg⟩ := rfOk.real hvp hi
  refine en40 rfl (goY ?_)
  conv => whnf
  refine ⟨_, mcell_of ho rfl, rfl, ?_⟩
  conv => whnf
  obtain ⟨arr, _, _, hc, _, _⟩ := rfOk.row hv
  refine ⟨by omega, ?_⟩
  conv => whnf
  intro o1 ho1 ho2
  obtain rfl : o1 = o := by have := ho1 (by omega); simpa using this
  have ew : IntKind.i64.wrap ((i : Int) + 1) = ((i + 1 : Nat) : Int) := iadd1 (by omega)
  conv => whnf
  refine ⟨_, mcell_of ho rfl, rfl, ?_⟩
  conv => whnf
  rw [ew]
  refine ⟨by omega, ?_⟩
  conv => whnf
  intro o2 ho2 _
  have hpre : Rl pl (.slice (some ⟨b, o1, none⟩) i c) (L.take i) := rfOk.pre hv.el (by omega) (by omega)
  have hpost : Rl pl (.slice (some ⟨b, o2, none⟩) (L.length - (i + 1)) (c - (i + 1))) (L.drop (i + 1)) := rfOk.post hv.el (by omega) (fun h => by have := ho2 (by rw [Int.toNat_natCast]; omega); simpa using this)
  conv => whnf
  refine .mk _ (appendRat (i := 0) hs.addEmp rfl (Ro.nil _) (hpre.sub (hs.sub (by simp))).ea (by rw [List.length_take, List.length_nil]; omega)) ?_
  rintro _ m1 ⟨v1, p1, rfl, hs1, hv1⟩
  conv => whnf
  have hs1 : Split m1 [p1, blk1 bx (refO q (.slice (some ⟨b, o1, none⟩) L.length c) nb ns), pl] := hs1
  have ho1 : m1 bx = some (refO q (.slice (some ⟨b, o1, none⟩) L.length c) nb ns) := hs1.sub (a := blk1 bx (refO q (.slice (some ⟨b, o1, none⟩) L.length c) nb ns)) (by simp) _ _ (blk1_same ..)
  refine ⟨keptF (m := blk1 bx (refO q (.slice (some ⟨b, o1, none⟩) L.length c) nb ns)) (blk1_same ..) (hs.sub (by simp)) (hs1.sub (by simp)) (by simp), ?_⟩
  conv => whnf
  refine .mk _ (appendRat (i := 0) hs1 rfl hv1 (hpost.sub (hs1.sub (a := pl) (by simp))).ea (by rw [List.nil_append, List.length_take, List.length_drop]; omega)) ?_
  rintro _ m2 ⟨v2, p2, rfl, hs2, hv2⟩
  conv => whnf
  have hs2 : Split m2 [p2, blk1 bx (refO q (.slice (some ⟨b, o1, none⟩) L.length c) nb ns), pl] := hs2
  have ho2 : m2 bx = some (refO q (.slice (some ⟨b, o1, none⟩) L.length c) nb ns) := hs2.sub (a := blk1 bx (refO q (.slice (some ⟨b, o1, none⟩) L.length c) nb ns)) (by simp) _ _ (blk1_same ..)
  first | (refine ⟨keptF (m := blk1 bx (refO q (.slice (some ⟨b, o1, none⟩) L.length c) nb ns)) (blk1_same ..) (hs1.sub (by simp)) (hs2.sub (by simp)) (by simp), ?_⟩; conv => whnf) | skip
  refine ⟨_, _, _, ho2, ⟨by simp, by simp⟩, ?_⟩
  have hs3 := hs2.setAt (i := 1) rfl (blk1_same ..) (refO q v2 nb ns)
  rw [blk1_set] at hs3
  conv => whnf
  refine ⟨rfl, v2, p2, ?_, by rw [List.eraseIdx_eq_take_drop_succ]; exact hv2⟩
  have hs4 : Split _ [p2, blk1 bx (refO q v2 nb ns), pl] := hs3
  exact (hs4.perm (l' := [pl, blk1 bx (refO q v2 nb ns), p2]) (by
    refine (List.Perm.swap _ _ _).trans ?_
    refine (List.Perm.cons _ (List.Perm.swap _ _ _)).trans ?_
    exact List.Perm.swap _ _ _)).drop
end Go.E.Ytghdapflkhadoaa

/-
  The document's files: one put in.
-/
namespace Go.E.Ytghdapflkhadoaa
open Go.Proofs
set_option maxRecDepth 100000
/-- how many stand ahead of a name -/
def aheadR (L : List Rf) (x : ByteArray) : Nat := (L.takeWhile fun r => decide (encB r.name < encB x)).length
def putR (L : List Rf) (x : Rf) : List Rf := L.take (aheadR L x.name) ++ [x] ++ L.drop (aheadR L x.name)
theorem ahead_le (L : List Rf) (x : ByteArray) : aheadR L x ≤ L.length := (List.takeWhile_prefix _).length_le
theorem ahead_at {x : ByteArray} : ∀ {L : List Rf} {k : Nat} (hk : k < L.length), (∀ j (hj : j < L.length), j < k → encB L[j].name < encB x) → ¬ encB L[k].name < encB x → aheadR L x = k
  | r :: L, 0, _, _, h => by
    simp only [List.getElem_cons_zero] at h
    rw [aheadR, List.takeWhile_cons, if_neg (by simpa using h)]; rfl
  | r :: L, k + 1, hk, ha, h => by
    have h0 := ha 0 (by simp) (by omega)
    simp only [List.getElem_cons_zero] at h0
    have ih := ahead_at (L := L) (k := k) (by simpa using hk) (fun j hj hjk => by have := ha (j + 1) (by simpa using hj) (by omega); rw [List.getElem_cons_succ] at this; exact this) (by rw [List.getElem_cons_succ] at h; exact h)
    rw [aheadR] at ih ⊢
    rw [List.takeWhile_cons, if_pos (by simpa using h0), List.length_cons, ih]
theorem ahead_all {x : ByteArray} : ∀ {L : List Rf}, (∀ j (hj : j < L.length), encB L[j].name < encB x) → aheadR L x = L.length
  | [], _ => rfl
  | r :: L, ha => by
    have h0 := ha 0 (by simp)
    simp only [List.getElem_cons_zero] at h0
    have ih := ahead_all (L := L) (fun j hj => by have := ha (j + 1) (by simpa using hj); rw [List.getElem_cons_succ] at this; exact this)
    rw [aheadR] at ih ⊢
    rw [List.takeWhile_cons, if_pos (by simpa using h0), List.length_cons, ih, List.length_cons]
theorem Ro.cases {p : Mem} {a : Option Addr} {n c : Nat} {L : List Rf} (h : Ro p (.slice a n c) L) : (a = none ∧ L = [] ∧ n = 0 ∧ c = 0) ∨ ∃ b o, a = some ⟨b, o, none⟩ := by
  rcases h with ⟨h1, h2⟩ | ⟨b, o, c', n', arr, h1, _⟩
  · injection h1 with h3 h4 h5
    have : (L.flatMap rfC).length = 0 := by rw [h2]; rfl
    rw [rfOk.flen] at this
    exact .inl ⟨h3, List.eq_nil_of_length_eq_zero (by omega), h4, h5⟩
  · injection h1 with h3
    exact .inr ⟨b, o, h3⟩
set_option maxHeartbeats 4000000 in
theorem put_tail {p pl : Mem} {bx k : Nat} {a : Option Addr} {c : Nat} {q : Int} {nb ns : Nat} {L : List Rf} {x : Rf} (hs : Split p [blk1 bx (refO q (.slice a L.length c) nb ns), pl]) (hv : Ro pl (.slice a L.length c) L) (hl : L.length ≤ 1000000) (hk : k ≤ L.length) :
    xwpY c39 (restAt 4 (bodyOf Try.f39)) (QRetY tt.get Try.f39.results.toList fun r m' => r = [] ∧ FR m' bx q nb ns (L.take k ++ [x] ++ L.drop k))
      [(0, .c (ptrB bx)), (3, .p 0 0), (4, .c (i64 k))] [(67, [.one (.string x.name), .one (.string x.b), .one (.int .i64 (x.safe : Int))])] p [] := by
  have ho : p bx = some (refO q (.slice a L.length c) nb ns) := hs.sub (a := blk1 bx (refO q (.slice a L.length c) nb ns)) (by simp) _ _ (blk1_same ..)
  rcases hv.cases with ⟨rfl, rfl, hn, rfl⟩ | ⟨b, o, rfl⟩
  · obtain rfl : k = 0 := by simpa using hk
    conv => whnf
    refine .at ?_
    conv => whnf
    refine ⟨_, mcell_of ho rfl, rfl, ?_⟩
    conv => whnf
    repeat (refine And.intro (by first | omega | (simp only [times]; omega)) ?_; conv => whnf)
    refine ⟨_, mcell_of ho rfl, rfl, ?_⟩
    conv => whnf
    repeat (refine And.intro (by first | omega | (simp only [times]; omega)) ?_; conv => whnf)
    refine ⟨?_, ?_⟩
    · conv => whnf
      refine .mk _ (appendRat (i := 0) hs.addEmp rfl (Ro.nil _) (Rl.ea (.inl ⟨_, rfl, rfl⟩ : Rl _ (.slice none 0 0) [])) (by first | (simp; done) | (rw [List.length_take, List.length_nil]; omega))) ?_
      rintro _ m1 ⟨v1, p1, rfl, hs1, hv1⟩
      conv => whnf
      have hs1 : Split m1 [p1, blk1 bx (refO q (.slice none ([] : List Rf).length 0) nb ns), pl] := hs1
      first | (refine ⟨keptF (m := blk1 bx (refO q (.slice none ([] : List Rf).length 0) nb ns)) (blk1_same ..) (hs.sub (by simp)) (hs1.sub (by simp)) (by simp), ?_⟩; conv => whnf) | skip
      refine .mk _ (buildR1 (e := x)) ?_
      rintro _ _ ⟨b1, hb1, rfl, rfl⟩
      conv => whnf
      have hs2 := hs1.new hb1 (.cells (rfC x).toArray 67)
      first | (refine ⟨keptF (m := blk1 bx (refO q (.slice none ([] : List Rf).length 0) nb ns)) (blk1_same ..) (hs1.sub (by simp)) (hs2.sub (by simp)) (by simp), ?_⟩; conv => whnf) | skip
      refine .mk _ (pushR (x := x) (i := 0) hs1 rfl hb1 hv1 (by simp only [List.nil_append, List.length_take]; omega)) ?_
      rintro _ m2 ⟨v2, p2, rfl, hs3, hv2⟩
      conv => whnf
      have hs3 : Split m2 [p2, blk1 bx (refO q (.slice none ([] : List Rf).length 0) nb ns), pl] := hs3
      first | (refine ⟨keptF (m := blk1 bx (refO q (.slice none ([] : List Rf).length 0) nb ns)) (blk1_same ..) (hs2.sub (by simp)) (hs3.sub (by simp)) (by simp), ?_⟩; conv => whnf) | skip
      refine .mk _ (appendRat (i := 0) hs3 rfl hv2 (((Rl.ea (.inl ⟨_, rfl, rfl⟩ : Rl pl (.slice none 0 0) []))).sub (hs3.sub (a := pl) (by simp))) (by simp only [List.nil_append, List.length_append, List.length_take, List.length_drop, List.length_cons, List.length_nil]; omega)) ?_
      rintro _ m3 ⟨v3, p3, rfl, hs4, hv3⟩
      conv => whnf
      have hs4 : Split m3 [p3, blk1 bx (refO q (.slice none ([] : List Rf).length 0) nb ns), pl] := hs4
      first | (refine ⟨keptF (m := blk1 bx (refO q (.slice none ([] : List Rf).length 0) nb ns)) (blk1_same ..) (hs3.sub (by simp)) (hs4.sub (by simp)) (by simp), ?_⟩; conv => whnf) | skip
      have ho4 : m3 bx = some (refO q (.slice none ([] : List Rf).length 0) nb ns) := hs4.sub (a := blk1 bx (refO q (.slice none ([] : List Rf).length 0) nb ns)) (by simp) _ _ (blk1_same ..)
      refine ⟨_, _, _, ho4, ⟨by simp, by simp⟩, ?_⟩
      have hs5 := hs4.setAt (i := 1) rfl (blk1_same ..) (refO q v3 nb ns)
      rw [blk1_set] at hs5
      conv => whnf
      refine ⟨rfl, v3, p3, ?_, hv3⟩
      have hs6 : Split _ [p3, blk1 bx (refO q v3 nb ns), pl] := hs5
      exact (hs6.perm (l' := [pl, blk1 bx (refO q v3 nb ns), p3]) (by
        refine (List.Perm.swap _ _ _).trans ?_
        refine (List.Perm.cons _ (List.Perm.swap _ _ _)).trans ?_
        exact List.Perm.swap _ _ _)).drop
    · conv => whnf
      refine .mk _ (buildR1 (e := x)) ?_
      rintro _ _ ⟨b1, hb1, rfl, rfl⟩
      conv => whnf
      have hs0 := (hs.new hb1 (.cells (rfC x).toArray 67)).addEmp
      first | (refine ⟨keptF (m := blk1 bx (refO q (.slice none ([] : List Rf).length 0) nb ns)) (blk1_same ..) (hs.sub (by simp)) (hs0.sub (by simp)) (by simp), ?_⟩; conv => whnf) | skip
      refine .mk _ (appendRat (i := 0) hs0 rfl (Ro.nil _) ((Rl.ea (.inl ⟨_, rfl, rfl⟩ : Rl _ (.slice none 0 0) [])).sub (Mem.sub_set _ hb1)) (by first | (simp; done) | (rw [List.length_take, List.length_nil]; omega))) ?_
      rintro _ m1 ⟨v1, p1, rfl, hs1, hv1⟩
      conv => whnf
      have hs1 : Split m1 [p1, blk1 b1 (.cells (rfC x).toArray 67), blk1 bx (refO q (.slice none ([] : List Rf).length 0) nb ns), pl] := hs1
      first | (refine ⟨keptF (m := blk1 bx (refO q (.slice none ([] : List Rf).length 0) nb ns)) (blk1_same ..) (hs0.sub (by simp)) (hs1.sub (by simp)) (by simp), ?_⟩; conv => whnf) | skip
      refine .mk _ (appendRat (i := 0) hs1 rfl hv1 (Ro.blk1 (hs1.sub (a := blk1 b1 (.cells (rfC x).toArray 67)) (by simp) _ _ (blk1_same ..))).el.ea (by simp only [List.nil_append, List.length_take, List.length_cons, List.length_nil]; omega)) ?_
      rintro _ m2 ⟨v2, p2, rfl, hs3, hv2⟩
      conv => whnf
      have hs3 : Split m2 [p2, blk1 b1 (.cells (rfC x).toArray 67), blk1 bx (refO q (.slice none ([] : List Rf).length 0) nb ns), pl] := hs3
      have hs3 : Split m2 [p2, blk1 bx (refO q (.slice none ([] : List Rf).length 0) nb ns), pl] := (hs3.perm (List.Perm.swap _ _ _)).drop
      first | (refine ⟨keptF (m := blk1 bx (refO q (.slice none ([] : List Rf).length 0) nb ns)) (blk1_same ..) (hs1.sub (by simp)) (hs3.sub (by simp)) (by simp), ?_⟩; conv => whnf) | skip
      refine .mk _ (appendRat (i := 0) hs3 rfl hv2 (((Rl.ea (.inl ⟨_, rfl, rfl⟩ : Rl pl (.slice none 0 0) []))).sub (hs3.sub (a := pl) (by simp))) (by simp only [List.nil_append, List.length_append, List.length_take, List.length_drop, List.length_cons, List.length_nil]; omega)) ?_
      rintro _ m3 ⟨v3, p3, rfl, hs4, hv3⟩
      conv => whnf
      have hs4 : Split m3 [p3, blk1 bx (refO q (.slice none ([] : List Rf).length 0) nb ns), pl] := hs4
      first | (refine ⟨keptF (m := blk1 bx (refO q (.slice none ([] : List Rf).length 0) nb ns)) (blk1_same ..) (hs3.sub (by simp)) (hs4.sub (by simp)) (by simp), ?_⟩; conv => whnf) | skip
      have ho4 : m3 bx = some (refO q (.slice none ([] : List Rf).length 0) nb ns) := hs4.sub (a := blk1 bx (refO q (.slice none ([] : List Rf).length 0) nb ns)) (by simp) _ _ (blk1_same ..)
      refine ⟨_, _, _, ho4, ⟨by simp, by simp⟩, ?_⟩
      have hs5 := hs4.setAt (i := 1) rfl (blk1_same ..) (refO q v3 nb ns)
      rw [blk1_set] at hs5
      conv => whnf
      refine ⟨rfl, v3, p3, ?_, hv3⟩
      have hs6 : Split _ [p3, blk1 bx (refO q v3 nb ns), pl] := hs5
      exact (hs6.perm (l' := [pl, blk1 bx (refO q v3 nb ns), p3]) (by
        refine (List.Perm.swap _ _ _).trans ?_
        refine (List.Perm.cons _ (List.Perm.swap _ _ _)).trans ?_
        exact List.Perm.swap _ _ _)).drop
  · have hc : L.length ≤ c := by obtain ⟨arr, _, _, hc, _, _⟩ := rfOk.row hv; omega
    conv => whnf
    refine .at ?_
    conv => whnf
    refine ⟨_, mcell_of ho rfl, rfl, ?_⟩
    conv => whnf
    repeat (refine And.intro (by first | omega | (simp only [times]; omega)) ?_; conv => whnf)
    intro o1 ho1 ho2
    obtain rfl : o1 = o := by
      by_cases e : c = 0
      · exact ho2 e
      · have := ho1 e; simpa using this
    conv => whnf
    refine ⟨_, mcell_of ho rfl, rfl, ?_⟩
    conv => whnf
    repeat (refine And.intro (by first | omega | (simp only [times]; omega)) ?_; conv => whnf)
    intro o2 ho2 _
    have hpre : Rl pl (.slice (some ⟨b, o1, none⟩) k c) (L.take k) := rfOk.pre hv.el (by omega) (by omega)
    have hpost : Rl pl (.slice (some ⟨b, o2, none⟩) (L.length - k) (c - k)) (L.drop k) := rfOk.post hv.el (by omega) (fun h => by have := ho2 (by rw [Int.toNat_natCast]; omega); simpa using this)
    refine ⟨?_, ?_⟩
    · conv => whnf
      refine .mk _ (appendRat (i := 0) hs.addEmp rfl (Ro.nil _) (hpre.sub (hs.sub (by simp))).ea (by first | (simp; done) | (rw [List.length_take, List.length_nil]; omega))) ?_
      rintro _ m1 ⟨v1, p1, rfl, hs1, hv1⟩
      conv => whnf
      have hs1 : Split m1 [p1, blk1 bx (refO q (.slice (some ⟨b, o1, none⟩) L.length c) nb ns), pl] := hs1
      first | (refine ⟨keptF (m := blk1 bx (refO q (.slice (some ⟨b, o1, none⟩) L.length c) nb ns)) (blk1_same ..) (hs.sub (by simp)) (hs1.sub (by simp)) (by simp), ?_⟩; conv => whnf) | skip
      refine .mk _ (buildR1 (e := x)) ?_
      rintro _ _ ⟨b1, hb1, rfl, rfl⟩
      conv => whnf
      have hs2 := hs1.new hb1 (.cells (rfC x).toArray 67)
      first | (refine ⟨keptF (m := blk1 bx (refO q (.slice (some ⟨b, o1, none⟩) L.length c) nb ns)) (blk1_same ..) (hs1.sub (by simp)) (hs2.sub (by simp)) (by simp), ?_⟩; conv => whnf) | skip
      refine .mk _ (pushR (x := x) (i := 0) hs1 rfl hb1 hv1 (by simp only [List.nil_append, List.length_take]; omega)) ?_
      rintro _ m2 ⟨v2, p2, rfl, hs3, hv2⟩
      conv => whnf
      have hs3 : Split m2 [p2, blk1 bx (refO q (.slice (some ⟨b, o1, none⟩) L.length c) nb ns), pl] := hs3
      first | (refine ⟨keptF (m := blk1 bx (refO q (.slice (some ⟨b, o1, none⟩) L.length c) nb ns)) (blk1_same ..) (hs2.sub (by simp)) (hs3.sub (by simp)) (by simp), ?_⟩; conv => whnf) | skip
      refine .mk _ (appendRat (i := 0) hs3 rfl hv2 ((hpost.ea).sub (hs3.sub (a := pl) (by simp))) (by simp only [List.nil_append, List.length_append, List.length_take, List.length_drop, List.length_cons, List.length_nil]; omega)) ?_
      rintro _ m3 ⟨v3, p3, rfl, hs4, hv3⟩
      conv => whnf
      have hs4 : Split m3 [p3, blk1 bx (refO q (.slice (some ⟨b, o1, none⟩) L.length c) nb ns), pl] := hs4
      first | (refine ⟨keptF (m := blk1 bx (refO q (.slice (some ⟨b, o1, none⟩) L.length c) nb ns)) (blk1_same ..) (hs3.sub (by simp)) (hs4.sub (by simp)) (by simp), ?_⟩; conv => whnf) | skip
      have ho4 : m3 bx = some (refO q (.slice (some ⟨b, o1, none⟩) L.length c) nb ns) := hs4.sub (a := blk1 bx (refO q (.slice (some ⟨b, o1, none⟩) L.length c) nb ns)) (by simp) _ _ (blk1_same ..)
      refine ⟨_, _, _, ho4, ⟨by simp, by simp⟩, ?_⟩
      have hs5 := hs4.setAt (i := 1) rfl (blk1_same ..) (refO q v3 nb ns)
      rw [blk1_set] at hs5
      conv => whnf
      refine ⟨rfl, v3, p3, ?_, hv3⟩
      have hs6 : Split _ [p3, blk1 bx (refO q v3 nb ns), pl] := hs5
      exact (hs6.perm (l' := [pl, blk1 bx (refO q v3 nb ns), p3]) (by
        refine (List.Perm.swap _ _ _).trans ?_
        refine (List.Perm.cons _ (List.Perm.swap _ _ _)).trans ?_
        exact List.Perm.swap _ _ _)).drop
    · conv => whnf
      refine .mk _ (buildR1 (e := x)) ?_
      rintro _ _ ⟨b1, hb1, rfl, rfl⟩
      conv => whnf
      have hs0 := (hs.new hb1 (.cells (rfC x).toArray 67)).addEmp
      first | (refine ⟨keptF (m := blk1 bx (refO q (.slice (some ⟨b, o1, none⟩) L.length c) nb ns)) (blk1_same ..) (hs.sub (by simp)) (hs0.sub (by simp)) (by simp), ?_⟩; conv => whnf) | skip
      refine .mk _ (appendRat (i := 0) hs0 rfl (Ro.nil _) ((hpre.sub (hs.sub (by simp))).ea.sub (Mem.sub_set _ hb1)) (by first | (simp; done) | (rw [List.length_take, List.length_nil]; omega))) ?_
      rintro _ m1 ⟨v1, p1, rfl, hs1, hv1⟩
      conv => whnf
      have hs1 : Split m1 [p1, blk1 b1 (.cells (rfC x).toArray 67), blk1 bx (refO q (.slice (some ⟨b, o1, none⟩) L.length c) nb ns), pl] := hs1
      first | (refine ⟨keptF (m := blk1 bx (refO q (.slice (some ⟨b, o1, none⟩) L.length c) nb ns)) (blk1_same ..) (hs0.sub (by simp)) (hs1.sub (by simp)) (by simp), ?_⟩; conv => whnf) | skip
      refine .mk _ (appendRat (i := 0) hs1 rfl hv1 (Ro.blk1 (hs1.sub (a := blk1 b1 (.cells (rfC x).toArray 67)) (by simp) _ _ (blk1_same ..))).el.ea (by simp only [List.nil_append, List.length_take, List.length_cons, List.length_nil]; omega)) ?_
      rintro _ m2 ⟨v2, p2, rfl, hs3, hv2⟩
      conv => whnf
      have hs3 : Split m2 [p2, blk1 b1 (.cells (rfC x).toArray 67), blk1 bx (refO q (.slice (some ⟨b, o1, none⟩) L.length c) nb ns), pl] := hs3
      have hs3 : Split m2 [p2, blk1 bx (refO q (.slice (some ⟨b, o1, none⟩) L.length c) nb ns), pl] := (hs3.perm (List.Perm.swap _ _ _)).drop
      first | (refine ⟨keptF (m := blk1 bx (refO q (.slice (some ⟨b, o1, none⟩) L.length c) nb ns)) (blk1_same ..) (hs1.sub (by simp)) (hs3.sub (by simp)) (by simp), ?_⟩; conv => whnf) | skip
      refine .mk _ (appendRat (i := 0) hs3 rfl hv2 ((hpost.ea).sub (hs3.sub (a := pl) (by simp))) (by simp only [List.nil_append, List.length_append, List.length_take, List.length_drop, List.length_cons, List.length_nil]; omega)) ?_
      rintro _ m3 ⟨v3, p3, rfl, hs4, hv3⟩
      conv => whnf
      have hs4 : Split m3 [p3, blk1 bx (refO q (.slice (some ⟨b, o1, none⟩) L.length c) nb ns), pl] := hs4
      first | (refine ⟨keptF (m := blk1 bx (refO q (.slice (some ⟨b, o1, none⟩) L.length c) nb ns)) (blk1_same ..) (hs3.sub (by simp)) (hs4.sub (by simp)) (by simp), ?_⟩; conv => whnf) | skip
      have ho4 : m3 bx = some (refO q (.slice (some ⟨b, o1, none⟩) L.length c) nb ns) := hs4.sub (a := blk1 bx (refO q (.slice (some ⟨b, o1, none⟩) L.length c) nb ns)) (by simp) _ _ (blk1_same ..)
      refine ⟨_, _, _, ho4, ⟨by simp, by simp⟩, ?_⟩
      have hs5 := hs4.setAt (i := 1) rfl (blk1_same ..) (refO q v3 nb ns)
      rw [blk1_set] at hs5
      conv => whnf
      refine ⟨rfl, v3, p3, ?_, hv3⟩
      have hs6 : Split _ [p3, blk1 bx (refO q v3 nb ns), pl] := hs5
      exact (hs6.perm (l' := [pl, blk1 bx (refO q v3 nb ns), p3]) (by
        refine (List.Perm.swap _ _ _).trans ?_
        refine (List.Perm.cons _ (List.Perm.swap _ _ _)).trans ?_
        exact List.Perm.swap _ _ _)).drop
set_option maxHeartbeats 4000000 in
theorem refPut_spec {p : Mem} {bx : Nat} {q : Int} {nb ns : Nat} {L : List Rf} {x : Rf} (h : FR p bx q nb ns L) (hl : L.length ≤ 1000000) (hn : ∀ r ∈ L, r.name.size ≤ 1000000) (hx : x.name.size ≤ 1000000) : Spec Try.prog 39 [ptrB bx, rfV x] p fun r m' => r = [] ∧ FR m' bx q nb ns (putR L x) := by
  obtain ⟨v, pl, hs, hv⟩ := h
  obtain ⟨a, c, rfl⟩ := rfOk.shape hv.el
  have ho : p bx = some (refO q (.slice a L.length c) nb ns) := hs.sub (a := blk1 bx (refO q (.slice a L.length c) nb ns)) (by simp) _ _ (blk1_same ..)
  have hvp : Rl p (.slice a L.length c) L := (hv.sub (hs.sub (by simp))).el
  refine en39 rfl (goY ?_)
  conv => whnf
  refine .mk (ι := Nat) (fun k => L.length - k) (fun k mm => k ≤ L.length ∧ (∀ j (hj : j < L.length), j < k → encB L[j].name < encB x.name) ∧ mm = p) (fun k => [(0, .c (ptrB bx)), (3, .p 0 0), (4, .c (i64 k))]) (fun _ => [(67, [.one (.string x.name), .one (.string x.b), .one (.int .i64 (x.safe : Int))])]) 0 ⟨by omega, fun j _ h => by omega, rfl⟩ ?_ ?_
  · conv => whnf
    repeat (refine And.intro (by first | with_reducible rfl | exact congrArg (Value.int _) (wi (by omega) (by omega)) | exact wi (by omega) (by omega) | rfl) ?_; conv => whnf)
    first | exact trivial | exact fun _ _ h => h
  rintro k mm ⟨hk, hall, he⟩
  subst mm
  conv => whnf
  refine ⟨_, mcell_of ho rfl, rfl, ?_⟩
  conv => whnf
  refine ⟨fun h1 => ?_, fun h1 => ?_⟩
  · have hk1 : k < L.length := by have := of_decide_eq_true h1; omega
    clear h1
    obtain ⟨b, o, c', e, hg⟩ := rfOk.real hv.el hk1
    injection e with e1 _ _
    subst e1
    have hgk := (hg k hk1).sub (hs.sub (a := pl) (by simp))
    conv => whnf
    refine ⟨_, mcell_of ho rfl, rfl, ?_⟩
    conv => whnf
    repeat (refine And.intro (by first | omega | (simp only [times]; omega)) ?_; conv => whnf)
    refine ⟨_, by simp only [times, Int.toNat_natCast]; exact mcell_rng (j := 0) hgk rfl, rfl, ?_⟩
    conv => whnf
    first | refine xretk (refLess_spec (hn _ (List.getElem_mem hk1)) hx) ?_ | refine xret (refLess_spec (hn _ (List.getElem_mem hk1)) hx) ?_
    conv => whnf
    refine ⟨fun h2 => ?_, fun h2 => ?_⟩
    · have h2 := of_decide_eq_true h2
      conv => whnf
      refine ⟨k + 1, ⟨by omega, fun j hj hjk => ?_, rfl⟩, by first | omega | (simp only; omega), ?_⟩
      · by_cases e : j = k
        · subst e; exact h2
        · exact hall j hj (by omega)
      conv => whnf
      repeat (refine And.intro (by first | with_reducible rfl | (first | exact congrArg (Value.int _) (iadd1 (by omega))) | exact congrArg (Value.int _) (wi (by omega) (by omega)) | exact wi (by omega) (by omega) | rfl) ?_; conv => whnf)
      first | exact trivial | exact fun _ _ h => h
    · have h2 := of_decide_eq_false h2
      have hah := ahead_at hk1 hall h2
      have tl := put_tail (x := x) hs hv hl (show k ≤ L.length by omega)
      rw [show L.take k ++ [x] ++ L.drop k = putR L x by rw [putR, hah]] at tl
      conv at tl => whnf
      conv => whnf
      refine .via _ _ ?_ tl
      conv => whnf
      repeat (refine And.intro (by first | with_reducible rfl | exact congrArg (Value.int _) (wi (by omega) (by omega)) | exact wi (by omega) (by omega) | rfl) ?_; conv => whnf)
      first | exact trivial | exact fun _ _ h => h
  · have : k = L.length := by have := of_decide_eq_false h1; omega
    subst this
    have hah := ahead_all (x := x.name) (L := L) fun j hj => hall j hj hj
    have tl := put_tail (x := x) hs hv hl (Nat.le_refl _)
    rw [show L.take L.length ++ [x] ++ L.drop L.length = putR L x by rw [putR, hah]] at tl
    conv at tl => whnf
    conv => whnf
    refine .via _ _ ?_ tl
    conv => whnf
    repeat (refine And.intro (by first | with_reducible rfl | exact congrArg (Value.int _) (wi (by omega) (by omega)) | exact wi (by omega) (by omega) | rfl) ?_; conv => whnf)
    first | exact trivial | exact fun _ _ h => h
end Go.E.Ytghdapflkhadoaa

/-
  The document's files: Read, Remove, Sync.
-/
namespace Go.E.Ytghdapflkhadoaa
open Go.Proofs
set_option maxRecDepth 100000
def fileR (L : List Rf) (name : ByteArray) : Option Nat := L.findIdx? fun r => decide (r.name = name)
theorem atR_some {L : List Rf} {name : ByteArray} {i : Nat} (h : fileR L name = some i) : atR L name = i ∧ i < L.length := by
  refine ⟨by unfold atR; rw [show L.findIdx? (fun r => decide (r.name = name)) = some i from h], ?_⟩
  obtain ⟨h1, _⟩ := List.findIdx?_eq_some_iff_getElem.1 h
  exact h1
theorem atR_none {L : List Rf} {name : ByteArray} (h : fileR L name = none) : atR L name = -1 := by
  unfold atR; rw [show L.findIdx? (fun r => decide (r.name = name)) = none from h]
def errR (L : List Rf) (name : ByteArray) : Int := if (fileR L name).isSome then 0 else 4
theorem refRead_spec {m : Mem} {bx : Nat} {q : Int} {nb ns : Nat} {L : List Rf} {v : Value} {name : ByteArray} (h : RM m bx q nb ns L v) (hl : L.length ≤ 1000000) : Ret Try.prog 27 [ptrB bx, .v (.string name)] m [.v (.string (((fileR L name).bind fun i => L[i]?.map (·.b)).getD ByteArray.empty)), i64 (errR L name)] := by
  have hat := refAt_spec (name := name) h hl
  obtain ⟨ho, hv⟩ := h
  obtain ⟨a, c, rfl⟩ := rfOk.shape hv
  refine en27 rfl (goY ?_)
  conv => whnf
  first | refine xretk (hat) ?_ | refine xret (hat) ?_
  conv => whnf
  cases hf : fileR L name with
  | none =>
    rw [atR_none hf]
    refine ⟨fun _ => ?_, fun h => absurd h (by decide)⟩
    conv => whnf
    exact ⟨by simp [errR, hf]; rfl, rfl⟩
  | some i =>
    obtain ⟨e1, hi⟩ := atR_some hf
    rw [e1]
    refine ⟨fun h => absurd (of_decide_eq_true h) (by omega), fun _ => ?_⟩
    obtain ⟨b, o, c', e, hg⟩ := rfOk.real hv hi
    injection e with e2 _ _
    subst e2
    conv => whnf
    refine ⟨_, mcell_of ho rfl, rfl, ?_⟩
    conv => whnf
    repeat (refine And.intro (by first | omega | (simp only [times]; omega)) ?_; conv => whnf)
    refine ⟨_, by simp only [times, Int.toNat_natCast]; exact mcell_rng (j := 1) (hg i hi) rfl, rfl, ?_⟩
    conv => whnf
    exact ⟨by simp [errR, hf, List.getElem?_eq_getElem hi], rfl⟩
theorem refRemove_spec {p : Mem} {bx : Nat} {q : Int} {nb ns : Nat} {L : List Rf} {name : ByteArray} (h : FR p bx q nb ns L) (hl : L.length ≤ 1000000) : Spec Try.prog 26 [ptrB bx, .v (.string name)] p fun r m' => r = [i64 (errR L name)] ∧ FR m' bx q nb ns (match fileR L name with | some i => L.eraseIdx i | none => L) := by
  obtain ⟨v, hrm⟩ := h.rm
  have hat := refAt_spec (name := name) hrm hl
  refine en26 rfl (goY ?_)
  conv => whnf
  first | refine xretk (hat) ?_ | refine xret (hat) ?_
  conv => whnf
  cases hf : fileR L name with
  | none =>
    rw [atR_none hf]
    refine ⟨fun _ => ?_, fun h => absurd h (by decide)⟩
    conv => whnf
    exact ⟨by simp [errR, hf], h⟩
  | some i =>
    obtain ⟨e1, hi⟩ := atR_some hf
    rw [e1]
    refine ⟨fun h => absurd (of_decide_eq_true h) (by omega), fun _ => ?_⟩
    conv => whnf
    refine xcall (refCut_spec h hi hl) ?_
    rintro _ m1 ⟨rfl, h2⟩
    conv => whnf
    exact ⟨by simp [errR, hf], h2⟩
end Go.E.Ytghdapflkhadoaa

/-
  A store of some of an element's cells.
-/
namespace Go.E
section
variable {α : Type} {enc : α → List Value} {s : Nat}
theorem put_part {arr : Array Value} {a j : Nat} {old cs : List Value} (hfit : a + old.length ≤ arr.size) (hold : ∀ k u, old[k]? = some u → arr[a + k]? = some u) (hj : j + cs.length ≤ old.length) :
    arr.toList.take a ++ ((old.take j ++ cs ++ old.drop (j + cs.length)) ++ arr.toList.drop (a + old.length)) = arr.toList.take (a + j) ++ (cs ++ arr.toList.drop (a + j + cs.length)) := by
  have hlen : (old.take j ++ cs ++ old.drop (j + cs.length)).length = old.length := by
    simp only [List.length_append, List.length_take, List.length_drop]; omega
  have h1 := fun k u => put_cells (arr := arr) (cs := old.take j ++ cs ++ old.drop (j + cs.length)) (a := a) (j := k) (u := u) (by rw [hlen]; exact hfit)
  have h2 := fun k u => put_cells (arr := arr) (cs := cs) (a := a + j) (j := k) (u := u) (by omega)
  rw [hlen] at h1
  refine List.ext_getElem? fun k => Option.ext fun u => ?_
  have h1 := h1 k u
  have h2 := h2 k u
  rw [List.getElem?_toArray] at h1 h2
  rw [h1, h2]
  by_cases k1 : k < a
  · rw [if_pos k1, if_pos (by omega)]
  rw [if_neg k1]
  by_cases k2 : k < a + old.length
  · rw [if_pos k2]
    have hin : ∃ w, old[k - a]? = some w := ⟨_, List.getElem?_eq_getElem (by omega)⟩
    obtain ⟨w, hw⟩ := hin
    have hw' := hold _ _ hw
    rw [show a + (k - a) = k by omega] at hw'
    by_cases k3 : k < a + j
    · rw [if_pos k3, List.append_assoc, List.getElem?_append_left (by rw [List.length_take]; omega), List.getElem?_take, if_pos (by omega), hw, hw']
    · rw [if_neg k3]
      by_cases k4 : k < a + j + cs.length
      · rw [if_pos k4, List.append_assoc, List.getElem?_append_right (by rw [List.length_take]; omega), List.length_take, List.getElem?_append_left (by omega), show k - a - min j old.length = k - (a + j) by omega]
      · rw [if_neg k4, List.getElem?_append_right (by rw [List.length_append, List.length_take]; omega), List.length_append, List.length_take, List.getElem?_drop, show j + cs.length + (k - a - (min j old.length + cs.length)) = k - a by omega, hw, hw']
  · rw [if_neg k2, if_neg (by omega), if_neg (by omega)]
/-- some of an element's cells are stored -/
theorem EncOk.setPart (h : EncOk enc s) {p : Mem} {T : TypeId} {b o n c : Nat} {E : List α} (hl : Own p T s (.slice (some ⟨b, o, none⟩) n c) (E.flatMap enc)) {i j : Nat} (hi : i < E.length) {cs : List Value} {x : α} (hj : j + cs.length ≤ s) (hx : enc x = (enc E[i]).take j ++ cs ++ (enc E[i]).drop (j + cs.length)) :
    ∃ arr, p b = some (.cells arr T (0, 0)) ∧ o + i * s + j + cs.length ≤ arr.size ∧ Own (p.set b (.cells (arr.toList.take (o + i * s + j) ++ (cs ++ arr.toList.drop (o + i * s + j + cs.length))).toArray T (0, 0))) T s (.slice (some ⟨b, o, none⟩) n c) ((E.set i x).flatMap enc) := by
  obtain ⟨arr, h1, h2, h3⟩ := h.set hl hi x
  obtain ⟨arr', g1, _, _, _, g5⟩ := h.row hl
  rw [h1] at g1
  cases g1
  refine ⟨arr, h1, by omega, ?_⟩
  have hold : ∀ k u, (enc E[i])[k]? = some u → arr[o + i * s + k]? = some u := fun k u hu => by
    rw [Nat.add_assoc]
    exact g5 _ _ (h.at hi hu)
  rw [hx] at h3
  have := put_part (arr := arr) (a := o + i * s) (j := j) (old := enc E[i]) (cs := cs) (by rw [h.len]; exact h2) hold (by rw [h.len]; exact hj)
  rw [h.len] at this
  rw [this] at h3
  exact h3
theorem setIf_eq {arr : Array Value} {a : Nat} {u : Value} (h : a < arr.size) : (arr.toList.take a ++ ([u] ++ arr.toList.drop (a + 1))).toArray = arr.setIfInBounds a u := by
  apply Array.toList_inj.1
  rw [Array.toList_setIfInBounds, List.set_eq_take_append_cons_drop, if_pos (by rw [Array.length_toList]; exact h)]
  rfl
/-- one cell of an element is stored -/
theorem EncOk.setCell (h : EncOk enc s) {p : Mem} {T : TypeId} {b o n c : Nat} {E : List α} (hl : Own p T s (.slice (some ⟨b, o, none⟩) n c) (E.flatMap enc)) {i j : Nat} (hi : i < E.length) {u : Value} {x : α} (hj : j < s) (hx : enc x = (enc E[i]).take j ++ [u] ++ (enc E[i]).drop (j + 1)) :
    ∃ arr, p b = some (.cells arr T (0, 0)) ∧ o + i * s + j < arr.size ∧ Own (p.set b (.cells (arr.setIfInBounds (o + i * s + j) u) T (0, 0))) T s (.slice (some ⟨b, o, none⟩) n c) ((E.set i x).flatMap enc) := by
  obtain ⟨arr, h1, h2, h3⟩ := h.setPart (cs := [u]) hl hi (by simp only [List.length_cons, List.length_nil]; omega) hx
  simp only [List.length_cons, List.length_nil] at h2 h3
  rw [setIf_eq (by omega)] at h3
  exact ⟨arr, h1, by omega, h3⟩
end
end Go.E

/-
  The document's files: Append, Sync, Cut, Rename.
-/
namespace Go.E.Ytghdapflkhadoaa
open Go.Proofs
set_option maxRecDepth 100000
theorem fileR_lt {L : List Rf} {name : ByteArray} {i : Nat} (h : fileR L name = some i) : i < L.length := (atR_some h).2
theorem Ro.storeAt {p pb pl : Mem} {b o n c i : Nat} (j : Nat) {L : List Rf} {u : Value} {x : Rf} (hs : Split p [pb, pl]) (hv : Ro pl (.slice (some ⟨b, o, none⟩) n c) L) (hi : i < L.length) (hj : j < 3) (hx : rfC x = (rfC L[i]).take j ++ [u] ++ (rfC L[i]).drop (j + 1)) :
    ∃ arr, p b = some (.cells arr 67 (0, 0)) ∧ o + i * 3 + j < arr.size ∧ ∃ pl', Split (p.set b (.cells (arr.setIfInBounds (o + i * 3 + j) u) 67 (0, 0))) [pb, pl'] ∧ Ro pl' (.slice (some ⟨b, o, none⟩) n c) (L.set i x) := by
  obtain ⟨arr, h1, h2, h3⟩ := rfOk.setCell hv hi hj hx
  exact ⟨arr, hs.sub (a := pl) (by simp) _ _ h1, h2, _, hs.setAt (i := 1) rfl h1 _, h3⟩
set_option maxHeartbeats 4000000 in
theorem app_tailR {p : Mem} {bx i : Nat} {q : Int} {nb ns : Nat} {L : List Rf} {name s : ByteArray} (h : FR p bx q nb ns L) (hl : L.length ≤ 1000000) (hf : fileR L name = some i) (hi : i < L.length) (hb : L[i].b.size ≤ 1000000000) (hs : s.size ≤ 1000000) (hnb : nb ≤ 1000000000) {R : List CV → Mem → Prop} (hR : ∀ m', FR m' bx q (nb + s.size) ns (L.set i { L[i] with b := L[i].b ++ s }) → R [i64 0] m') :
    xwpY c23 (restAt 7 (bodyOf Try.f23)) (QRetY tt.get Try.f23.results.toList R)
      [(0, .c (ptrB bx)), (1, .c (.v (.string name))), (2, .c (.v (.string s))), (6, .c (i64 0))] [] p [] := by
  obtain ⟨v0, hrm⟩ := h.rm
  have hat := refAt_spec (name := name) hrm hl
  rw [(atR_some hf).1] at hat
  obtain ⟨v, pl, hs1, hv⟩ := h
  obtain ⟨b, o, c, rfl, hg⟩ := rfOk.real hv.el hi
  have ho : p bx = some (refO q (.slice (some ⟨b, o, none⟩) L.length c) nb ns) := hs1.sub (a := blk1 bx (refO q (.slice (some ⟨b, o, none⟩) L.length c) nb ns)) (by simp) _ _ (blk1_same ..)
  have hgi := (hg i hi).sub (hs1.sub (a := pl) (by simp))
  conv => whnf
  refine .at ?_
  first | refine xretk (hat) ?_ | refine xret (hat) ?_
  conv => whnf
  refine ⟨_, mcell_of ho rfl, rfl, ?_⟩
  conv => whnf
  refine ⟨_, mcell_of ho rfl, rfl, ?_⟩
  conv => whnf
  repeat (refine And.intro (by first | omega | (simp only [times]; omega)) ?_; conv => whnf)
  refine ⟨_, by simp only [times, Int.toNat_natCast]; exact mcell_rng (j := 1) hgi rfl, rfl, ?_⟩
  conv => whnf
  repeat (refine And.intro (by first | omega | (simp only [times]; omega)) ?_; conv => whnf)
  obtain ⟨arr, g1, g2, pl', g3, g4⟩ := Ro.storeAt 1 (u := .string (L[i].b ++ s)) (x := { L[i] with b := L[i].b ++ s }) hs1 hv hi (by decide) rfl
  refine ⟨_, _, _, g1, ⟨by simp only [times, Int.toNat_natCast]; omega, by simp⟩, ?_⟩
  simp only [times, Int.toNat_natCast]
  have ho1 := g3.sub (a := blk1 bx (refO q (.slice (some ⟨b, o, none⟩) L.length c) nb ns)) (by simp) _ _ (blk1_same ..)
  conv => whnf
  refine ⟨_, mcell_of ho1 rfl, rfl, ?_⟩
  conv => whnf
  refine ⟨_, _, _, ho1, ⟨by simp, by simp⟩, ?_⟩
  have ew : IntKind.u64.wrap ((nb : Int) + IntKind.u64.wrap (s.size : Int)) = ((nb + s.size : Nat) : Int) := by
    have e1 : IntKind.u64.wrap (s.size : Int) = s.size := wu (by omega) (by omega)
    rw [e1, wu (by omega) (by omega)]; omega
  have hs5 := g3.setAt (i := 0) rfl (blk1_same ..) (refO q (.slice (some ⟨b, o, none⟩) L.length c) (nb + s.size) ns)
  rw [blk1_set] at hs5
  conv => whnf
  rw [ew]
  exact hR _ ⟨_, pl', hs5, g4⟩
theorem fileR_none {L : List Rf} {name : ByteArray} : fileR L name = none ↔ ∀ r ∈ L, r.name ≠ name := by
  rw [fileR, List.findIdx?_eq_none_iff]
  exact ⟨fun h r hr => by simpa using h r hr, fun h r hr => by simpa using h r hr⟩
theorem put_get (L : List Rf) (x : Rf) : (putR L x)[aheadR L x.name]? = some x := by
  have hk := ahead_le L x.name
  rw [putR, List.getElem?_append_left (by simp; omega), List.getElem?_append_right (by rw [List.length_take]; omega), List.length_take, Nat.min_eq_left hk, Nat.sub_self]
  rfl
theorem put_len (L : List Rf) (x : Rf) : (putR L x).length = L.length + 1 := by
  have hk := ahead_le L x.name
  simp only [putR, List.length_append, List.length_take, List.length_drop, List.length_cons, List.length_nil]; omega
theorem put_mem {L : List Rf} {x r : Rf} : r ∈ putR L x ↔ r = x ∨ r ∈ L := by
  rw [putR, List.mem_append, List.mem_append, List.mem_singleton]
  have := List.take_append_drop (aheadR L x.name) L
  constructor
  · rintro ((h | h) | h)
    · exact .inr (List.mem_of_mem_take h)
    · exact .inl h
    · exact .inr (List.mem_of_mem_drop h)
  · rintro (h | h)
    · exact .inl (.inr h)
    · rw [← this, List.mem_append] at h
      rcases h with h | h
      · exact .inl (.inl h)
      · exact .inr h
theorem fileR_put {L : List Rf} {x : Rf} (h : fileR L x.name = none) : fileR (putR L x) x.name = some (aheadR L x.name) := by
  have h1 := fileR_none.1 h
  have hk := ahead_le L x.name
  have hlt : aheadR L x.name < (putR L x).length := by rw [put_len]; omega
  have hg := List.getElem?_eq_some_iff.1 (put_get L x)
  rw [fileR, List.findIdx?_eq_some_iff_getElem]
  refine ⟨hlt, by obtain ⟨_, hg⟩ := hg; rw [hg]; simp, fun j hj => ?_⟩
  have e : (putR L x)[j]'(by omega) = L[j]'(by omega) := by
    have : (putR L x)[j]? = L[j]? := by
      rw [putR, List.append_assoc, List.getElem?_append_left (by simp; omega), List.getElem?_take, if_pos hj]
    rw [List.getElem?_eq_getElem (by omega), List.getElem?_eq_getElem (by omega)] at this
    exact Option.some.inj this
  rw [e]
  simpa using h1 _ (List.getElem_mem (by omega : j < L.length))
/-- how Append's answer comes -/
def addR (L : List Rf) (name : ByteArray) : List Rf := if (fileR L name).isSome then L else putR L ⟨name, ByteArray.empty, 0⟩
theorem app_mid {p : Mem} {bx : Nat} {q : Int} {nb ns : Nat} {L : List Rf} {name s : ByteArray} (h : FR p bx q nb ns L) (hl : L.length ≤ 100000) (hn : ∀ r ∈ L, r.name.size ≤ 1000000 ∧ r.b.size ≤ 1000000000) (hx : name.size ≤ 1000000) (hs : s.size ≤ 1000000) (hnb : nb ≤ 1000000000) {R : List CV → Mem → Prop}
    (hR : ∀ m' i x, fileR (addR L name) name = some i → (addR L name)[i]? = some x → FR m' bx q (nb + s.size) ns ((addR L name).set i { x with b := x.b ++ s }) → R [i64 0] m') :
    xwpY c23 (restAt 5 (bodyOf Try.f23)) (QRetY tt.get Try.f23.results.toList R)
      [(0, .c (ptrB bx)), (1, .c (.v (.string name))), (2, .c (.v (.string s))), (6, .c (i64 0))] [] p [] := by
  obtain ⟨v, hrm⟩ := h.rm
  have hat := refAt_spec (name := name) hrm (by omega)
  conv => whnf
  refine .at ?_
  first | refine xretk (hat) ?_ | refine xret (hat) ?_
  conv => whnf
  cases hf : fileR L name with
  | none =>
    rw [atR_none hf]
    have ea : addR L name = putR L ⟨name, ByteArray.empty, 0⟩ := by rw [addR, hf]; rfl
    have hg := put_get L ⟨name, ByteArray.empty, 0⟩
    have hfp := fileR_put (x := ⟨name, ByteArray.empty, 0⟩) hf
    have hln := put_len L ⟨name, ByteArray.empty, 0⟩
    rw [ea] at hR
    obtain ⟨hi, hgi⟩ := List.getElem?_eq_some_iff.1 hg
    refine ⟨fun _ => ?_, fun h => absurd h (by decide)⟩
    conv => whnf
    refine xcall (refPut_spec (x := ⟨name, ByteArray.empty, 0⟩) h (by omega) (fun r hr => (hn r hr).1) hx) ?_
    rintro _ m1 ⟨rfl, h2⟩
    conv => whnf
    have tl := app_tailR (s := s) h2 (by omega) hfp hi (by rw [hgi]; exact Nat.zero_le _) hs hnb (R := R) fun m' h3 => hR m' _ _ hfp hg (by rw [hgi] at h3; exact h3)
    conv at tl => whnf
    conv => whnf
    refine .via _ _ ?_ tl
    conv => whnf
    repeat (refine And.intro (by first | with_reducible rfl | exact congrArg (Value.int _) (wi (by omega) (by omega)) | exact wi (by omega) (by omega) | rfl) ?_; conv => whnf)
    first | exact trivial | exact fun _ _ h => h
  | some i =>
    obtain ⟨e1, hi⟩ := atR_some hf
    have ea : addR L name = L := by rw [addR, hf]; rfl
    rw [ea] at hR
    rw [e1]
    refine ⟨fun h => absurd (of_decide_eq_true h) (by omega), fun _ => ?_⟩
    have tl := app_tailR (s := s) h (by omega) hf hi (hn _ (List.getElem_mem hi)).2 hs hnb (R := R) fun m' h3 => hR m' _ _ hf (List.getElem?_eq_getElem hi) h3
    conv at tl => whnf
    conv => whnf
    refine .via _ _ ?_ tl
    conv => whnf
    repeat (refine And.intro (by first | with_reducible rfl | exact congrArg (Value.int _) (wi (by omega) (by omega)) | exact wi (by omega) (by omega) | rfl) ?_; conv => whnf)
    first | exact trivial | exact fun _ _ h => h
set_option maxHeartbeats 4000000 in
theorem refAppend_spec {p : Mem} {bx : Nat} {q : Int} {nb ns : Nat} {L : List Rf} {name s : ByteArray} (h : FR p bx q nb ns L) (hl : L.length ≤ 100000) (hu : usedR L ≤ 1000000000) (hn : ∀ r ∈ L, r.name.size ≤ 1000000 ∧ r.b.size ≤ 1000000000) (hx : name.size ≤ 1000000) (hs : s.size ≤ 1000000) (hq : 0 ≤ q ∧ q ≤ 9223372036854775807) (hnb : nb ≤ 1000000000) :
    Spec Try.prog 23 [ptrB bx, .v (.string name), .v (.string s)] p fun r m' => ∃ e L' nb', r = [i64 e] ∧ FR m' bx q nb' ns L' ∧
      (if nameOk (chs name) = false then e = 1 ∧ L' = L ∧ nb' = nb else if 0 < q ∧ q < usedR L + s.size then e = 5 ∧ L' = L ∧ nb' = nb else e = 0 ∧ nb' = nb + s.size ∧ ∃ i x, fileR (addR L name) name = some i ∧ (addR L name)[i]? = some x ∧ L' = (addR L name).set i { x with b := x.b ++ s }) := by
  obtain ⟨v, hrm⟩ := h.rm
  have huse := refUsed_spec hrm (by omega) (by omega)
  have hat := refAt_spec (name := name) hrm (by omega)
  have hnm := refIsName_spec (m := p) hx
  have ho := hrm.obj
  have ew : IntKind.i64.wrap ((usedR L : Int) + (s.size : Int)) = ((usedR L + s.size : Nat) : Int) := by rw [wi (by omega) (by omega)]; omega
  refine en23 rfl (goY ?_)
  conv => whnf
  first | refine xretk (hnm) ?_ | refine xret (hnm) ?_
  conv => whnf
  refine ⟨fun h1 => ?_, fun h1 => ?_⟩
  · have h1 : nameOk (chs name) = false := by simpa using h1
    conv => whnf
    exact ⟨_, L, nb, rfl, h, by rw [if_pos h1]; exact ⟨rfl, rfl, rfl⟩⟩
  have h1 : nameOk (chs name) = true := by simpa using h1
  conv => whnf
  refine ⟨_, mcell_of ho rfl, rfl, ?_⟩
  have tl := fun (hq : ¬ (0 < q ∧ q < usedR L + s.size)) => app_mid (name := name) (s := s) h hl hn hx hs hnb (R := fun r m' => ∃ e L' nb', r = [i64 e] ∧ FR m' bx q nb' ns L' ∧
      (if nameOk (chs name) = false then e = 1 ∧ L' = L ∧ nb' = nb else if 0 < q ∧ q < usedR L + s.size then e = 5 ∧ L' = L ∧ nb' = nb else e = 0 ∧ nb' = nb + s.size ∧ ∃ i x, fileR (addR L name) name = some i ∧ (addR L name)[i]? = some x ∧ L' = (addR L name).set i { x with b := x.b ++ s })) fun m' i x g1 g2 g3 => ⟨0, _, _, rfl, g3, by rw [if_neg (by simp [h1]), if_neg hq]; exact ⟨rfl, rfl, i, x, g1, g2, rfl⟩⟩
  conv => whnf
  refine ⟨fun h2 => ?_, fun h2 => ?_⟩
  · have h2 := of_decide_eq_true h2
    conv => whnf
    refine ⟨_, mcell_of ho rfl, rfl, ?_⟩
    conv => whnf
    first | refine xretk (huse) ?_ | refine xret (huse) ?_
    conv => whnf
    rw [ew]
    refine ⟨fun h3 => ?_, fun h3 => ?_⟩
    · have h3 := of_decide_eq_true h3
      conv => whnf
      exact ⟨_, L, nb, rfl, h, by rw [if_neg (by simp [h1]), if_pos (by omega)]; exact ⟨rfl, rfl, rfl⟩⟩
    · have h3 := of_decide_eq_false h3
      have tl := tl (by omega)
      conv at tl => whnf
      conv => whnf
      refine .via _ _ ?_ tl
      conv => whnf
      repeat (refine And.intro (by first | with_reducible rfl | exact congrArg (Value.int _) (wi (by omega) (by omega)) | exact wi (by omega) (by omega) | rfl) ?_; conv => whnf)
      first | exact trivial | exact fun _ _ h => h
  · have h2 := of_decide_eq_false h2
    have tl := tl (by omega)
    conv at tl => whnf
    conv => whnf
    refine .via _ _ ?_ tl
    conv => whnf
    repeat (refine And.intro (by first | with_reducible rfl | exact congrArg (Value.int _) (wi (by omega) (by omega)) | exact wi (by omega) (by omega) | rfl) ?_; conv => whnf)
    first | exact trivial | exact fun _ _ h => h
end Go.E.Ytghdapflkhadoaa

/-
  The document's files: Sync, Cut, Rename.
-/
namespace Go.E.Ytghdapflkhadoaa
open Go.Proofs
set_option maxRecDepth 100000
/-- a file's place, what is there -/
theorem fileR_get {L : List Rf} {name : ByteArray} {i : Nat} (h : fileR L name = some i) : ∃ x, L[i]? = some x ∧ x.name = name := by
  obtain ⟨h1, h2, _⟩ := List.findIdx?_eq_some_iff_getElem.1 h
  exact ⟨_, List.getElem?_eq_getElem h1, of_decide_eq_true h2⟩
def SyncR (L : List Rf) (name : ByteArray) (ns : Nat) (e : Int) (L' : List Rf) (ns' : Nat) : Prop := match fileR L name with
  | none => e = 4 ∧ L' = L ∧ ns' = ns
  | some i => e = 0 ∧ ns' = ns + 1 ∧ ∃ x, L[i]? = some x ∧ L' = L.set i { x with safe := x.b.size }
set_option maxHeartbeats 4000000 in
theorem refSync_spec {p : Mem} {bx : Nat} {q : Int} {nb ns : Nat} {L : List Rf} {name : ByteArray} (h : FR p bx q nb ns L) (hl : L.length ≤ 100000) (hns : ns ≤ 1000000000) :
    Spec Try.prog 24 [ptrB bx, .v (.string name)] p fun r m' => ∃ e L' ns', r = [i64 e] ∧ FR m' bx q nb ns' L' ∧ SyncR L name ns e L' ns' := by
  obtain ⟨v0, hrm⟩ := h.rm
  have hat := refAt_spec (name := name) hrm (by omega)
  unfold SyncR
  refine en24 rfl (goY ?_)
  conv => whnf
  first | refine xretk (hat) ?_ | refine xret (hat) ?_
  conv => whnf
  cases hf : fileR L name with
  | none =>
    rw [atR_none hf]
    refine ⟨fun _ => ?_, fun h => absurd h (by decide)⟩
    conv => whnf
    exact ⟨_, _, _, rfl, h, rfl, rfl, rfl⟩
  | some i =>
    obtain ⟨e1, hi⟩ := atR_some hf
    rw [e1]
    refine ⟨fun h => absurd (of_decide_eq_true h) (by omega), fun _ => ?_⟩
    obtain ⟨v, pl, hs1, hv⟩ := h
    obtain ⟨b, o, c, rfl, hg⟩ := rfOk.real hv.el hi
    have ho : p bx = some (refO q (.slice (some ⟨b, o, none⟩) L.length c) nb ns) := hs1.sub (a := blk1 bx (refO q (.slice (some ⟨b, o, none⟩) L.length c) nb ns)) (by simp) _ _ (blk1_same ..)
    have hgi := (hg i hi).sub (hs1.sub (a := pl) (by simp))
    conv => whnf
    refine ⟨_, mcell_of ho rfl, rfl, ?_⟩
    conv => whnf
    refine ⟨_, mcell_of ho rfl, rfl, ?_⟩
    conv => whnf
    repeat (refine And.intro (by first | omega | (simp only [times]; omega)) ?_; conv => whnf)
    refine ⟨_, by simp only [times, Int.toNat_natCast]; exact mcell_rng (j := 1) hgi rfl, rfl, ?_⟩
    conv => whnf
    repeat (refine And.intro (by first | omega | (simp only [times]; omega)) ?_; conv => whnf)
    obtain ⟨arr, g1, g2, pl', g3, g4⟩ := Ro.storeAt 2 (u := .int .i64 (L[i].b.size : Int)) (x := { L[i] with safe := L[i].b.size }) hs1 hv hi (by decide) rfl
    refine ⟨_, _, _, g1, ⟨by simp only [times, Int.toNat_natCast]; omega, by simp⟩, ?_⟩
    simp only [times, Int.toNat_natCast]
    have ho1 := g3.sub (a := blk1 bx (refO q (.slice (some ⟨b, o, none⟩) L.length c) nb ns)) (by simp) _ _ (blk1_same ..)
    conv => whnf
    refine ⟨_, mcell_of ho1 rfl, rfl, ?_⟩
    conv => whnf
    refine ⟨_, _, _, ho1, ⟨by simp, by simp⟩, ?_⟩
    have ew : IntKind.u64.wrap ((ns : Int) + 1) = ((ns + 1 : Nat) : Int) := by rw [wu (by omega) (by omega)]; omega
    have hs5 := g3.setAt (i := 0) rfl (blk1_same ..) (refO q (.slice (some ⟨b, o, none⟩) L.length c) nb (ns + 1))
    rw [blk1_set] at hs5
    conv => whnf
    rw [ew]
    exact ⟨_, _, _, rfl, ⟨_, pl', hs5, g4⟩, rfl, rfl, _, List.getElem?_eq_getElem hi, rfl⟩
def CutRR (L : List Rf) (name : ByteArray) (n : Int) (e : Int) (L' : List Rf) : Prop := match fileR L name with
  | none => e = 4 ∧ L' = L
  | some i => ∃ x, L[i]? = some x ∧ if 0 ≤ n ∧ n ≤ x.b.size then e = 0 ∧ L' = L.set i ⟨x.name, x.b.extract 0 n.toNat, min x.safe n.toNat⟩ else e = 1 ∧ L' = L
set_option maxHeartbeats 4000000 in
theorem refCutF_spec {p : Mem} {bx : Nat} {q n : Int} {nb ns : Nat} {L : List Rf} {name : ByteArray} (h : FR p bx q nb ns L) (hl : L.length ≤ 100000) (hn : ∀ r ∈ L, r.b.size ≤ 1000000000) :
    Spec Try.prog 29 [ptrB bx, .v (.string name), i64 n] p fun r m' => ∃ e L', r = [i64 e] ∧ FR m' bx q nb ns L' ∧ CutRR L name n e L' := by
  obtain ⟨v0, hrm⟩ := h.rm
  have hat := refAt_spec (name := name) hrm (by omega)
  unfold CutRR
  refine en29 rfl (goY ?_)
  conv => whnf
  first | refine xretk (hat) ?_ | refine xret (hat) ?_
  conv => whnf
  cases hf : fileR L name with
  | none =>
    rw [atR_none hf]
    refine ⟨fun _ => ?_, fun h => absurd h (by decide)⟩
    conv => whnf
    exact ⟨_, _, rfl, h, rfl, rfl⟩
  | some i =>
    obtain ⟨e1, hi⟩ := atR_some hf
    rw [e1]
    refine ⟨fun h => absurd (of_decide_eq_true h) (by omega), fun _ => ?_⟩
    have hfr := h
    obtain ⟨v, pl, hs1, hv⟩ := h
    obtain ⟨b, o, c, rfl, hg⟩ := rfOk.real hv.el hi
    have ho : p bx = some (refO q (.slice (some ⟨b, o, none⟩) L.length c) nb ns) := hs1.sub (a := blk1 bx (refO q (.slice (some ⟨b, o, none⟩) L.length c) nb ns)) (by simp) _ _ (blk1_same ..)
    have hgi := (hg i hi).sub (hs1.sub (a := pl) (by simp))
    have hbs := hn _ (List.getElem_mem hi)
    conv => whnf
    refine ⟨fun h1 => ?_, fun h1 => ?_⟩
    · have h1 := of_decide_eq_true h1
      conv => whnf
      exact ⟨_, _, rfl, hfr, _, List.getElem?_eq_getElem hi, by rw [if_neg (by omega)]; exact ⟨rfl, rfl⟩⟩
    have h1 := of_decide_eq_false h1
    conv => whnf
    refine ⟨_, mcell_of ho rfl, rfl, ?_⟩
    conv => whnf
    repeat (refine And.intro (by first | omega | (simp only [times]; omega)) ?_; conv => whnf)
    refine ⟨_, by simp only [times, Int.toNat_natCast]; exact mcell_rng (j := 1) hgi rfl, rfl, ?_⟩
    conv => whnf
    refine ⟨fun h2 => ?_, fun h2 => ?_⟩
    · have h2 := of_decide_eq_true h2
      conv => whnf
      exact ⟨_, _, rfl, hfr, _, List.getElem?_eq_getElem hi, by rw [if_neg (by omega)]; exact ⟨rfl, rfl⟩⟩
    have h2 := of_decide_eq_false h2
    conv => whnf
    refine ⟨_, mcell_of ho rfl, rfl, ?_⟩
    conv => whnf
    refine ⟨_, mcell_of ho rfl, rfl, ?_⟩
    conv => whnf
    repeat (refine And.intro (by first | omega | (simp only [times]; omega)) ?_; conv => whnf)
    refine ⟨_, by simp only [times, Int.toNat_natCast]; exact mcell_rng (j := 1) hgi rfl, rfl, ?_⟩
    conv => whnf
    repeat (refine And.intro (by first | omega | (simp only [times]; omega)) ?_; conv => whnf)
    obtain ⟨arr, g1, g2, pl', g3, g4⟩ := Ro.storeAt 1 (u := .string (L[i].b.extract 0 n.toNat)) (x := { L[i] with b := L[i].b.extract 0 n.toNat }) hs1 hv hi (by decide) rfl
    refine ⟨_, _, _, g1, ⟨by simp only [times, Int.toNat_natCast]; omega, by simp⟩, ?_⟩
    simp only [times, Int.toNat_natCast]
    have ho1 := g3.sub (a := blk1 bx (refO q (.slice (some ⟨b, o, none⟩) L.length c) nb ns)) (by simp) _ _ (blk1_same ..)
    obtain ⟨b', o', c', e, hg'⟩ := rfOk.real (i := i) g4.el (by rw [List.length_set]; exact hi)
    have hgj := hg' i (by rw [List.length_set]; exact hi)
    injection e with e2
    injection e2 with e3
    injection e3 with e4 e5
    subst e4 e5
    rw [List.getElem_set_self] at hgj
    have hgj := hgj.sub (g3.sub (a := pl') (by simp))
    conv => whnf
    refine ⟨_, mcell_of ho1 rfl, rfl, ?_⟩
    conv => whnf
    repeat (refine And.intro (by first | omega | (simp only [times]; omega)) ?_; conv => whnf)
    refine ⟨_, by simp only [times, Int.toNat_natCast]; exact mcell_rng (j := 2) hgj rfl, rfl, ?_⟩
    conv => whnf
    refine ⟨fun h3 => ?_, fun h3 => ?_⟩
    · have h3 : n < (L[i].safe : Int) := of_decide_eq_true h3
      conv => whnf
      refine ⟨_, mcell_of ho1 rfl, rfl, ?_⟩
      conv => whnf
      repeat (refine And.intro (by first | omega | (simp only [times]; omega)) ?_; conv => whnf)
      obtain ⟨arr2, k1, k2, pl2, k3, k4⟩ := Ro.storeAt 2 (i := i) (u := .int .i64 n) (x := ⟨L[i].name, L[i].b.extract 0 n.toNat, min L[i].safe n.toNat⟩) g3 g4 (by rw [List.length_set]; exact hi) (by decide) (by rw [List.getElem_set_self]; simp only [rfC, List.take, List.drop, List.cons_append, List.nil_append]; rw [Nat.min_eq_right (by omega), Int.toNat_of_nonneg (by omega)])
      rw [List.set_set] at k4
      refine ⟨_, _, _, k1, ⟨by simp only [times, Int.toNat_natCast]; omega, by simp⟩, ?_⟩
      simp only [times, Int.toNat_natCast]
      conv => whnf
      refine ⟨_, _, rfl, ⟨_, pl2, k3, k4⟩, _, List.getElem?_eq_getElem hi, ?_⟩
      rw [if_pos (by omega)]
      exact ⟨rfl, rfl⟩
    · have h3 : ¬ n < (L[i].safe : Int) := of_decide_eq_false h3
      conv => whnf
      refine ⟨_, _, rfl, ⟨_, pl', g3, g4⟩, _, List.getElem?_eq_getElem hi, ?_⟩
      rw [if_pos (by omega), Nat.min_eq_left (by omega)]
      exact ⟨rfl, rfl⟩
def dropR (L : List Rf) (name : ByteArray) : List Rf := match fileR L name with
  | none => L
  | some k => L.eraseIdx k
theorem dropR_len (L : List Rf) (name : ByteArray) : (dropR L name).length ≤ L.length := by
  unfold dropR
  split
  · exact Nat.le_refl _
  · exact List.length_eraseIdx_le _ _
def RenR (L : List Rf) (a b : ByteArray) (e : Int) (L' : List Rf) : Prop := match fileR L a with
  | none => e = 4 ∧ L' = L
  | some i => if nameOk (chs b) = false then e = 1 ∧ L' = L else e = 0 ∧ ∃ x, L[i]? = some x ∧ L' = putR (dropR (L.eraseIdx i) b) { x with name := b }
set_option maxHeartbeats 4000000 in
theorem ren_tailR {p : Mem} {bx : Nat} {q : Int} {nb ns : Nat} {L : List Rf} {a b : ByteArray} {x : Rf} (h : FR p bx q nb ns L) (hl : L.length ≤ 1000000) (hn : ∀ r ∈ L, r.name.size ≤ 1000000) (hb : b.size ≤ 1000000) {R : List CV → Mem → Prop} (hR : ∀ m', FR m' bx q nb ns (putR L { x with name := b }) → R [i64 0] m') :
    xwpY c25 (restAt 11 (bodyOf Try.f25)) (QRetY tt.get Try.f25.results.toList R)
      [(0, .c (ptrB bx)), (2, .c (.v (.string b))), (6, .c (i64 0)), (8, .p 0 0)] [(67, [.one (.string x.name), .one (.string x.b), .one (.int .i64 (x.safe : Int))])] p [] := by
  conv => whnf
  refine .at ?_
  refine xcall (refPut_spec (x := { x with name := b }) h hl hn hb) ?_
  rintro _ m1 ⟨rfl, h2⟩
  conv => whnf
  exact hR _ h2
set_option maxHeartbeats 4000000 in
theorem refRename_spec {p : Mem} {bx : Nat} {q : Int} {nb ns : Nat} {L : List Rf} {a b : ByteArray} (h : FR p bx q nb ns L) (hl : L.length ≤ 100000) (hn : ∀ r ∈ L, r.name.size ≤ 1000000) (hb : b.size ≤ 1000000) :
    Spec Try.prog 25 [ptrB bx, .v (.string a), .v (.string b)] p fun r m' => ∃ e L', r = [i64 e] ∧ FR m' bx q nb ns L' ∧ RenR L a b e L' := by
  obtain ⟨v0, hrm⟩ := h.rm
  have hat := refAt_spec (name := a) hrm (by omega)
  have hnm := refIsName_spec (m := p) hb
  unfold RenR
  refine en25 rfl (goY ?_)
  conv => whnf
  first | refine xretk (hat) ?_ | refine xret (hat) ?_
  conv => whnf
  cases hf : fileR L a with
  | none =>
    rw [atR_none hf]
    refine ⟨fun _ => ?_, fun h => absurd h (by decide)⟩
    conv => whnf
    exact ⟨_, _, rfl, h, rfl, rfl⟩
  | some i =>
    obtain ⟨e1, hi⟩ := atR_some hf
    rw [e1]
    refine ⟨fun h => absurd (of_decide_eq_true h) (by omega), fun _ => ?_⟩
    have hfr := h
    obtain ⟨v, pl, hs1, hv⟩ := h
    obtain ⟨b', o, c, rfl, hg⟩ := rfOk.real hv.el hi
    have ho : p bx = some (refO q (.slice (some ⟨b', o, none⟩) L.length c) nb ns) := hs1.sub (a := blk1 bx (refO q (.slice (some ⟨b', o, none⟩) L.length c) nb ns)) (by simp) _ _ (blk1_same ..)
    have hgi := (hg i hi).sub (hs1.sub (a := pl) (by simp))
    conv => whnf
    first | refine xretk (hnm) ?_ | refine xret (hnm) ?_
    conv => whnf
    refine ⟨fun h1 => ?_, fun h1 => ?_⟩
    · have h1 : nameOk (chs b) = false := by simpa using h1
      conv => whnf
      exact ⟨_, L, rfl, hfr, by dsimp only; rw [if_pos h1]; exact ⟨rfl, rfl⟩⟩
    have h1 : nameOk (chs b) = true := by simpa using h1
    conv => whnf
    refine ⟨_, mcell_of ho rfl, rfl, ?_⟩
    conv => whnf
    repeat (refine And.intro (by first | omega | (simp only [times]; omega)) ?_; conv => whnf)
    refine ⟨[.one (.string L[i].name), .one (.string L[i].b), .one (.int .i64 (L[i].safe : Int))], ⟨rfl, rfl, rfl, trivial⟩, rfl, by simp only [times, Int.toNat_natCast]; exact hgi, ?_⟩
    conv => whnf
    refine xcall (refCut_spec hfr hi (by omega)) ?_
    rintro _ m1 ⟨rfl, h2⟩
    conv => whnf
    obtain ⟨v1, hrm1⟩ := h2.rm
    have hel := List.length_eraseIdx_le L i
    have hat1 := refAt_spec (name := b) hrm1 (by omega)
    have hd := dropR_len (L.eraseIdx i) b
    have fin : ∀ {m1}, FR m1 bx q nb ns (dropR (L.eraseIdx i) b) → _ := fun {m1} h3 => ren_tailR (a := a) (x := L[i]) h3 (by omega) (fun r hr => hn r (by
      unfold dropR at hr
      split at hr
      · exact List.mem_of_mem_eraseIdx hr
      · exact List.mem_of_mem_eraseIdx (List.mem_of_mem_eraseIdx hr))) hb (R := fun r m' => ∃ e L', r = [i64 e] ∧ FR m' bx q nb ns L' ∧ (if nameOk (chs b) = false then e = 1 ∧ L' = L else e = 0 ∧ ∃ x, L[i]? = some x ∧ L' = putR (dropR (L.eraseIdx i) b) { x with name := b })) fun m' h4 => ⟨0, _, rfl, h4, by rw [if_neg (by simp [h1])]; exact ⟨rfl, _, List.getElem?_eq_getElem hi, rfl⟩⟩
    conv => whnf
    first | refine xretk (hat1) ?_ | refine xret (hat1) ?_
    conv => whnf
    cases hf1 : fileR (L.eraseIdx i) b with
    | none =>
      rw [atR_none hf1]
      have e2 : dropR (L.eraseIdx i) b = L.eraseIdx i := by rw [dropR, hf1]
      have tl := fin (m1 := m1) (by rw [e2]; exact h2)
      conv at tl => whnf
      refine ⟨fun h => absurd h (by decide), fun _ => ?_⟩
      conv => whnf
      refine .via _ _ ?_ tl
      conv => whnf
      repeat (refine And.intro (by first | with_reducible rfl | exact congrArg (Value.int _) (wi (by omega) (by omega)) | exact wi (by omega) (by omega) | rfl) ?_; conv => whnf)
      first | exact trivial | exact fun _ _ h => h
    | some k =>
      obtain ⟨e3, hk⟩ := atR_some hf1
      rw [e3]
      have e2 : dropR (L.eraseIdx i) b = (L.eraseIdx i).eraseIdx k := by rw [dropR, hf1]
      refine ⟨fun _ => ?_, fun h => absurd (of_decide_eq_false h) (by omega)⟩
      conv => whnf
      refine xcall (refCut_spec h2 hk (by omega)) ?_
      rintro _ m2 ⟨rfl, h3⟩
      conv => whnf
      have tl := fin (m1 := m2) (by rw [e2]; exact h3)
      conv at tl => whnf
      refine .via _ _ ?_ tl
      conv => whnf
      repeat (refine And.intro (by first | with_reducible rfl | exact congrArg (Value.int _) (wi (by omega) (by omega)) | exact wi (by omega) (by omega) | rfl) ?_; conv => whnf)
      first | exact trivial | exact fun _ _ h => h
end Go.E.Ytghdapflkhadoaa

/-
  The document's files: Crash (printed by genfr9.py).
-/
namespace Go.E.Ytghdapflkhadoaa
open Go.Proofs
set_option maxRecDepth 100000
def lastR (r : Rf) (x : Int) : Nat := (min (max x 0) ((r.b.size : Int) - r.safe)).toNat
def crash1R (r : Rf) (x : Int) : Rf := ⟨r.name, r.b.extract 0 (r.safe + lastR r x), r.safe + lastR r x⟩
def crashToR (L : List Rf) (last : List Int) (i : Nat) : List Rf := L.mapIdx fun j r => if j < i then crash1R r (last.getD j 0) else r
theorem crashToR_len (L : List Rf) (last : List Int) (i : Nat) : (crashToR L last i).length = L.length := by simp [crashToR]
theorem crashToR_zero (L : List Rf) (last : List Int) : crashToR L last 0 = L := by
  refine List.ext_getElem (by simp [crashToR]) fun j h1 h2 => ?_
  simp [crashToR]
theorem crashToR_at {L : List Rf} {last : List Int} {i : Nat} (h : i < (crashToR L last i).length) : (crashToR L last i)[i] = L[i]'(by rw [crashToR_len] at h; exact h) := by simp [crashToR]
theorem crashToR_succ {L : List Rf} {last : List Int} {i : Nat} (h : i < L.length) : crashToR L last (i + 1) = (crashToR L last i).set i (crash1R L[i] (last.getD i 0)) := by
  refine List.ext_getElem (by simp [crashToR]) fun j h1 h2 => ?_
  simp only [crashToR, List.getElem_mapIdx, List.getElem_set]
  by_cases e : i = j
  · subst e; simp
  · rw [if_neg e]
    by_cases e2 : j < i
    · rw [if_pos (by omega), if_pos e2]
    · rw [if_neg (by omega), if_neg e2]
set_option maxHeartbeats 8000000 in
theorem refCrash_spec {p m mm : Mem} {bx : Nat} {q : Int} {nb ns : Nat} {L : List Rf} {vl : Value} {last : List Int} (h : FR p bx q nb ns L) (hs : Split mm [p, m]) (hl : L.length ≤ 100000) (hn : ∀ r ∈ L, r.b.size ≤ 1000000000 ∧ r.safe ≤ r.b.size) (hv : Ia m vl last) (hlast : last.length ≤ 9223372036854775807) (hI : ∀ x ∈ last, -9223372036854775808 ≤ x ∧ x ≤ 9223372036854775807) :
    Spec Try.prog 28 [ptrB bx, .v vl] mm fun r m' => ∃ p', r = [] ∧ Split m' [p', m] ∧ FR p' bx q nb ns (crashToR L last L.length) := by
  obtain ⟨a, c, rfl⟩ := hv.shape
  refine en28 rfl (goY ?_)
  conv => whnf
  refine .mk (ι := Nat) (fun i => L.length - i) (fun i mm => i ≤ L.length ∧ ∃ v pl, Split mm [blk1 bx (refO q v nb ns), pl, m] ∧ Ro pl v (crashToR L last i)) (fun i => [(0, .c (ptrB bx)), (1, .c (.v (.slice a last.length c))), (4, .c (i64 i))]) (fun _ => []) 0 ⟨by omega, ?_⟩ ?_ ?_
  · obtain ⟨v, pl, h1, h2⟩ := h
    exact ⟨v, pl, Split.flat (i := 0) hs rfl h1, by rw [crashToR_zero]; exact h2⟩
  · conv => whnf
    repeat (refine And.intro (by first | with_reducible rfl | exact congrArg (Value.int _) (wi (by omega) (by omega)) | exact wi (by omega) (by omega) | rfl) ?_; conv => whnf)
    first | exact trivial | exact fun _ _ h => h
  rintro i mm ⟨hi, v, pl, hs, hw⟩
  have hCl := crashToR_len L last i
  obtain ⟨ar, cr, rfl⟩ := rfOk.shape hw.el
  rw [hCl] at hw hs
  have ho : mm bx = some (refO q (.slice ar L.length cr) nb ns) := hs.sub (a := blk1 bx (refO q (.slice ar L.length cr) nb ns)) (by simp) _ _ (blk1_same ..)
  conv => whnf
  refine ⟨_, mcell_of ho rfl, rfl, ?_⟩
  conv => whnf
  refine ⟨fun h1 => ?_, fun h1 => ?_⟩
  rotate_left
  · have : i = L.length := by have := of_decide_eq_false h1; omega
    subst this
    conv => whnf
    exact ⟨joinM (blk1 bx (refO q (.slice ar L.length cr) nb ns)) pl, rfl, hs.pair, _, pl, ⟨by simp only [allM, joinM_emp]; exact Sub.refl _, hs.2.sublist (by simp)⟩, hw⟩
  have hi1 : i < L.length := by have := of_decide_eq_true h1; omega
  clear h1
  obtain ⟨b, o, c', e, hg⟩ := rfOk.real (i := i) hw.el (by rw [hCl]; exact hi1)
  injection e with e2 e3 e4
  subst e2 e4
  have hgi := hg i (by rw [hCl]; exact hi1)
  rw [crashToR_at] at hgi
  have hgi := hgi.sub (hs.sub (a := pl) (by simp))
  obtain ⟨hbs, hsf⟩ := hn _ (List.getElem_mem hi1)
  have hsucc := crashToR_succ (last := last) hi1
  have hx0 : -9223372036854775808 ≤ last.getD i 0 ∧ last.getD i 0 ≤ 9223372036854775807 := by
    rw [List.getD_eq_getElem?_getD]
    by_cases hil : i < last.length
    · rw [List.getElem?_eq_getElem hil]; exact hI _ (List.getElem_mem hil)
    · rw [List.getElem?_eq_none (by omega)]; decide
  have hlr : lastR L[i] (last.getD i 0) ≤ L[i].b.size - L[i].safe := by unfold lastR; omega
  have hwi : IntKind.i64.wrap ((L[i].b.size : Int) - (L[i].safe : Int)) = (L[i].b.size : Int) - (L[i].safe : Int) := wi (by omega) (by omega)
  have fin : ∀ (n : Nat), n = lastR L[i] (last.getD i 0) → ∃ arr, mm b = some (.cells arr 67 (0, 0)) ∧ o + i * 3 + 2 < arr.size ∧ ∃ pl', Split (mm.set b (.cells (arr.setIfInBounds (o + i * 3 + 2) (.int .i64 ((L[i].safe + n : Nat) : Int))) 67 (0, 0))) [blk1 bx (refO q (.slice (some ⟨b, o, none⟩) L.length cr) nb ns), pl', m] ∧ Ro pl' (.slice (some ⟨b, o, none⟩) L.length cr) ((crashToR L last i).set i { L[i] with safe := L[i].safe + n }) := fun n _ => by
    obtain ⟨arr, h1, h2, h3⟩ := rfOk.setCell (j := 2) (u := .int .i64 ((L[i].safe + n : Nat) : Int)) (x := { L[i] with safe := L[i].safe + n }) hw (by rw [hCl]; exact hi1) (by decide) (by rw [crashToR_at]; rfl)
    exact ⟨arr, hs.sub (a := pl) (by simp) _ _ h1, h2, _, hs.setAt (i := 1) rfl h1 _, h3⟩
  have fin2 : ∀ (n : Nat) (mx : Mem) (pl' : Mem), n = lastR L[i] (last.getD i 0) → Split mx [blk1 bx (refO q (.slice (some ⟨b, o, none⟩) L.length cr) nb ns), pl', m] → Ro pl' (.slice (some ⟨b, o, none⟩) L.length cr) ((crashToR L last i).set i { L[i] with safe := L[i].safe + n }) → MRange mx b (o + i * 3) (rfC { L[i] with safe := L[i].safe + n }) ∧ ∃ arr, mx b = some (.cells arr 67 (0, 0)) ∧ o + i * 3 + 1 < arr.size ∧ ∃ pl2, Split (mx.set b (.cells (arr.setIfInBounds (o + i * 3 + 1) (.string (L[i].b.extract 0 (L[i].safe + n)))) 67 (0, 0))) [blk1 bx (refO q (.slice (some ⟨b, o, none⟩) L.length cr) nb ns), pl2, m] ∧ Ro pl2 (.slice (some ⟨b, o, none⟩) L.length cr) (crashToR L last (i + 1)) := fun n mx pl' hn1 hs1 hw1 => by
    have hlen : i < ((crashToR L last i).set i { L[i] with safe := L[i].safe + n }).length := by rw [List.length_set, hCl]; exact hi1
    obtain ⟨b', o', c2, e, hg'⟩ := rfOk.real (i := i) hw1.el hlen
    injection e with e2
    injection e2 with e3
    injection e3 with e4 e5
    subst e4 e5
    have hgj := hg' i hlen
    rw [List.getElem_set_self] at hgj
    obtain ⟨arr, h1, h2, h3⟩ := rfOk.setCell (i := i) (j := 1) (u := .string (L[i].b.extract 0 (L[i].safe + n))) (x := ⟨L[i].name, L[i].b.extract 0 (L[i].safe + n), L[i].safe + n⟩) hw1 hlen (by decide) (by rw [List.getElem_set_self]; rfl)
    rw [List.set_set] at h3
    refine ⟨hgj.sub (hs1.sub (a := pl') (by simp)), arr, hs1.sub (a := pl') (by simp) _ _ h1, h2, _, hs1.setAt (i := 1) rfl h1 _, ?_⟩
    rw [hsucc, crash1R, ← hn1]; exact h3
  conv => whnf
  refine ⟨fun h2 => ?_, fun h2 => ?_⟩
  · have h2 := of_decide_eq_true h2
    have hil : i < last.length := by omega
    obtain ⟨bl, ol, cl, e, hgl⟩ := (hv.sub (hs.sub (a := m) (by simp))).real hil
    cases e
    have hgl := hgl i hil
    have hxd : last.getD i 0 = last[i] := by rw [List.getD_eq_getElem?_getD, List.getElem?_eq_getElem hil]; rfl
    rw [← hxd] at hgl
    conv => whnf
    repeat (refine And.intro (by first | omega | (simp only [times]; omega)) ?_; conv => whnf)
    refine ⟨_, by simp only [times, Int.toNat_natCast, Nat.mul_one]; exact hgl, rfl, ?_⟩
    conv => whnf
    refine ⟨fun h3 => ?_, fun h3 => ?_⟩
    · have h3 := of_decide_eq_true h3
      conv => whnf
      repeat (refine And.intro (by first | omega | (simp only [times]; omega)) ?_; conv => whnf)
      refine ⟨_, by simp only [times, Int.toNat_natCast, Nat.mul_one]; exact hgl, rfl, ?_⟩
      conv => whnf
      refine ⟨_, mcell_of ho rfl, rfl, ?_⟩
      conv => whnf
      repeat (refine And.intro (by first | omega | (simp only [times]; omega)) ?_; conv => whnf)
      refine ⟨_, by simp only [times, Int.toNat_natCast]; exact mcell_rng (j := 1) hgi rfl, rfl, ?_⟩
      conv => whnf
      refine ⟨_, mcell_of ho rfl, rfl, ?_⟩
      conv => whnf
      repeat (refine And.intro (by first | omega | (simp only [times]; omega)) ?_; conv => whnf)
      refine ⟨_, by simp only [times, Int.toNat_natCast]; exact mcell_rng (j := 2) hgi rfl, rfl, ?_⟩
      conv => whnf
      rw [hwi]
      refine ⟨fun h5 => ?_, fun h5 => ?_⟩
      · have h5 := of_decide_eq_true h5
        conv => whnf
        refine ⟨_, mcell_of ho rfl, rfl, ?_⟩
        conv => whnf
        repeat (refine And.intro (by first | omega | (simp only [times]; omega)) ?_; conv => whnf)
        refine ⟨_, by simp only [times, Int.toNat_natCast]; exact mcell_rng (j := 1) hgi rfl, rfl, ?_⟩
        conv => whnf
        refine ⟨_, mcell_of ho rfl, rfl, ?_⟩
        conv => whnf
        repeat (refine And.intro (by first | omega | (simp only [times]; omega)) ?_; conv => whnf)
        refine ⟨_, by simp only [times, Int.toNat_natCast]; exact mcell_rng (j := 2) hgi rfl, rfl, ?_⟩
        conv => whnf
        rw [hwi]
        conv => whnf
        have hnn : L[i].b.size - L[i].safe = lastR L[i] (last.getD i 0) := by unfold lastR; omega
        have ew : IntKind.i64.wrap ((L[i].safe : Int) + ((L[i].b.size : Int) - (L[i].safe : Int))) = ((L[i].safe + (L[i].b.size - L[i].safe) : Nat) : Int) := by rw [wi (by omega) (by omega)]; omega
        obtain ⟨arr, g1, g2, pl', g3, g4⟩ := fin _ hnn
        have ho1 := g3.sub (a := blk1 bx (refO q (.slice (some ⟨b, o, none⟩) L.length cr) nb ns)) (by simp) _ _ (blk1_same ..)
        obtain ⟨hgj, arr2, k1, k2, pl2, k3, k4⟩ := fin2 _ _ _ hnn g3 g4
        refine ⟨_, mcell_of ho rfl, rfl, ?_⟩
        conv => whnf
        refine ⟨_, mcell_of ho rfl, rfl, ?_⟩
        conv => whnf
        repeat (refine And.intro (by first | omega | (simp only [times]; omega)) ?_; conv => whnf)
        refine ⟨_, by simp only [times, Int.toNat_natCast]; exact mcell_rng (j := 2) hgi rfl, rfl, ?_⟩
        conv => whnf
        repeat (refine And.intro (by first | omega | (simp only [times]; omega)) ?_; conv => whnf)
        refine ⟨_, _, _, g1, ⟨by simp only [times, Int.toNat_natCast]; omega, by simp⟩, ?_⟩
        simp only [times, Int.toNat_natCast]
        rw [ew]
        conv => whnf
        refine ⟨_, mcell_of ho1 rfl, rfl, ?_⟩
        conv => whnf
        refine ⟨_, mcell_of ho1 rfl, rfl, ?_⟩
        conv => whnf
        repeat (refine And.intro (by first | omega | (simp only [times]; omega)) ?_; conv => whnf)
        refine ⟨_, by simp only [times, Int.toNat_natCast]; exact mcell_rng (j := 1) hgj rfl, rfl, ?_⟩
        conv => whnf
        refine ⟨_, mcell_of ho1 rfl, rfl, ?_⟩
        conv => whnf
        repeat (refine And.intro (by first | omega | (simp only [times]; omega)) ?_; conv => whnf)
        refine ⟨_, by simp only [times, Int.toNat_natCast]; exact mcell_rng (j := 2) hgj rfl, rfl, ?_⟩
        conv => whnf
        repeat (refine And.intro (by first | omega | (simp only [times]; omega)) ?_; conv => whnf)
        refine ⟨_, _, _, k1, ⟨by simp only [times, Int.toNat_natCast]; omega, by simp⟩, ?_⟩
        simp only [times, Int.toNat_natCast]
        conv => whnf
        refine ⟨i + 1, ⟨by omega, _, pl2, k3, k4⟩, by first | omega | (simp only; omega), ?_⟩
        conv => whnf
        repeat (refine And.intro (by first | with_reducible rfl | (first | exact congrArg (Value.int _) (iadd1 (by omega))) | exact congrArg (Value.int _) (wi (by omega) (by omega)) | exact wi (by omega) (by omega) | rfl) ?_; conv => whnf)
        first | exact trivial | exact fun _ _ h => h
      · have h5 := of_decide_eq_false h5
        conv => whnf
        have hnn : (last.getD i 0).toNat = lastR L[i] (last.getD i 0) := by unfold lastR; omega
        have ew : IntKind.i64.wrap ((L[i].safe : Int) + (last.getD i 0)) = ((L[i].safe + ((last.getD i 0).toNat) : Nat) : Int) := by rw [wi (by omega) (by omega)]; omega
        obtain ⟨arr, g1, g2, pl', g3, g4⟩ := fin _ hnn
        have ho1 := g3.sub (a := blk1 bx (refO q (.slice (some ⟨b, o, none⟩) L.length cr) nb ns)) (by simp) _ _ (blk1_same ..)
        obtain ⟨hgj, arr2, k1, k2, pl2, k3, k4⟩ := fin2 _ _ _ hnn g3 g4
        refine ⟨_, mcell_of ho rfl, rfl, ?_⟩
        conv => whnf
        refine ⟨_, mcell_of ho rfl, rfl, ?_⟩
        conv => whnf
        repeat (refine And.intro (by first | omega | (simp only [times]; omega)) ?_; conv => whnf)
        refine ⟨_, by simp only [times, Int.toNat_natCast]; exact mcell_rng (j := 2) hgi rfl, rfl, ?_⟩
        conv => whnf
        repeat (refine And.intro (by first | omega | (simp only [times]; omega)) ?_; conv => whnf)
        refine ⟨_, _, _, g1, ⟨by simp only [times, Int.toNat_natCast]; omega, by simp⟩, ?_⟩
        simp only [times, Int.toNat_natCast]
        rw [ew]
        conv => whnf
        refine ⟨_, mcell_of ho1 rfl, rfl, ?_⟩
        conv => whnf
        refine ⟨_, mcell_of ho1 rfl, rfl, ?_⟩
        conv => whnf
        repeat (refine And.intro (by first | omega | (simp only [times]; omega)) ?_; conv => whnf)
        refine ⟨_, by simp only [times, Int.toNat_natCast]; exact mcell_rng (j := 1) hgj rfl, rfl, ?_⟩
        conv => whnf
        refine ⟨_, mcell_of ho1 rfl, rfl, ?_⟩
        conv => whnf
        repeat (refine And.intro (by first | omega | (simp only [times]; omega)) ?_; conv => whnf)
        refine ⟨_, by simp only [times, Int.toNat_natCast]; exact mcell_rng (j := 2) hgj rfl, rfl, ?_⟩
        conv => whnf
        repeat (refine And.intro (by first | omega | (simp only [times]; omega)) ?_; conv => whnf)
        refine ⟨_, _, _, k1, ⟨by simp only [times, Int.toNat_natCast]; omega, by simp⟩, ?_⟩
        simp only [times, Int.toNat_natCast]
        conv => whnf
        refine ⟨i + 1, ⟨by omega, _, pl2, k3, k4⟩, by first | omega | (simp only; omega), ?_⟩
        conv => whnf
        repeat (refine And.intro (by first | with_reducible rfl | (first | exact congrArg (Value.int _) (iadd1 (by omega))) | exact congrArg (Value.int _) (wi (by omega) (by omega)) | exact wi (by omega) (by omega) | rfl) ?_; conv => whnf)
        first | exact trivial | exact fun _ _ h => h
    · have h3 := of_decide_eq_false h3
      conv => whnf
      refine ⟨_, mcell_of ho rfl, rfl, ?_⟩
      conv => whnf
      repeat (refine And.intro (by first | omega | (simp only [times]; omega)) ?_; conv => whnf)
      refine ⟨_, by simp only [times, Int.toNat_natCast]; exact mcell_rng (j := 1) hgi rfl, rfl, ?_⟩
      conv => whnf
      refine ⟨_, mcell_of ho rfl, rfl, ?_⟩
      conv => whnf
      repeat (refine And.intro (by first | omega | (simp only [times]; omega)) ?_; conv => whnf)
      refine ⟨_, by simp only [times, Int.toNat_natCast]; exact mcell_rng (j := 2) hgi rfl, rfl, ?_⟩
      conv => whnf
      rw [hwi]
      refine ⟨fun h5 => ?_, fun h5 => ?_⟩
      · have h5 := of_decide_eq_true h5
        conv => whnf
        refine ⟨_, mcell_of ho rfl, rfl, ?_⟩
        conv => whnf
        repeat (refine And.intro (by first | omega | (simp only [times]; omega)) ?_; conv => whnf)
        refine ⟨_, by simp only [times, Int.toNat_natCast]; exact mcell_rng (j := 1) hgi rfl, rfl, ?_⟩
        conv => whnf
        refine ⟨_, mcell_of ho rfl, rfl, ?_⟩
        conv => whnf
        repeat (refine And.intro (by first | omega | (simp only [times]; omega)) ?_; conv => whnf)
        refine ⟨_, by simp only [times, Int.toNat_natCast]; exact mcell_rng (j := 2) hgi rfl, rfl, ?_⟩
        conv => whnf
        rw [hwi]
        conv => whnf
        have hnn : L[i].b.size - L[i].safe = lastR L[i] (last.getD i 0) := by unfold lastR; omega
        have ew : IntKind.i64.wrap ((L[i].safe : Int) + ((L[i].b.size : Int) - (L[i].safe : Int))) = ((L[i].safe + (L[i].b.size - L[i].safe) : Nat) : Int) := by rw [wi (by omega) (by omega)]; omega
        obtain ⟨arr, g1, g2, pl', g3, g4⟩ := fin _ hnn
        have ho1 := g3.sub (a := blk1 bx (refO q (.slice (some ⟨b, o, none⟩) L.length cr) nb ns)) (by simp) _ _ (blk1_same ..)
        obtain ⟨hgj, arr2, k1, k2, pl2, k3, k4⟩ := fin2 _ _ _ hnn g3 g4
        refine ⟨_, mcell_of ho rfl, rfl, ?_⟩
        conv => whnf
        refine ⟨_, mcell_of ho rfl, rfl, ?_⟩
        conv => whnf
        repeat (refine And.intro (by first | omega | (simp only [times]; omega)) ?_; conv => whnf)
        refine ⟨_, by simp only [times, Int.toNat_natCast]; exact mcell_rng (j := 2) hgi rfl, rfl, ?_⟩
        conv => whnf
        repeat (refine And.intro (by first | omega | (simp only [times]; omega)) ?_; conv => whnf)
        refine ⟨_, _, _, g1, ⟨by simp only [times, Int.toNat_natCast]; omega, by simp⟩, ?_⟩
        simp only [times, Int.toNat_natCast]
        rw [ew]
        conv => whnf
        refine ⟨_, mcell_of ho1 rfl, rfl, ?_⟩
        conv => whnf
        refine ⟨_, mcell_of ho1 rfl, rfl, ?_⟩
        conv => whnf
        repeat (refine And.intro (by first | omega | (simp only [times]; omega)) ?_; conv => whnf)
        refine ⟨_, by simp only [times, Int.toNat_natCast]; exact mcell_rng (j := 1) hgj rfl, rfl, ?_⟩
        conv => whnf
        refine ⟨_, mcell_of ho1 rfl, rfl, ?_⟩
        conv => whnf
        repeat (refine And.intro (by first | omega | (simp only [times]; omega)) ?_; conv => whnf)
        refine ⟨_, by simp only [times, Int.toNat_natCast]; exact mcell_rng (j := 2) hgj rfl, rfl, ?_⟩
        conv => whnf
        repeat (refine And.intro (by first | omega | (simp only [times]; omega)) ?_; conv => whnf)
        refine ⟨_, _, _, k1, ⟨by simp only [times, Int.toNat_natCast]; omega, by simp⟩, ?_⟩
        simp only [times, Int.toNat_natCast]
        conv => whnf
        refine ⟨i + 1, ⟨by omega, _, pl2, k3, k4⟩, by first | omega | (simp only; omega), ?_⟩
        conv => whnf
        repeat (refine And.intro (by first | with_reducible rfl | (first | exact congrArg (Value.int _) (iadd1 (by omega))) | exact congrArg (Value.int _) (wi (by omega) (by omega)) | exact wi (by omega) (by omega) | rfl) ?_; conv => whnf)
        first | exact trivial | exact fun _ _ h => h
      · have h5 := of_decide_eq_false h5
        conv => whnf
        have hnn : 0 = lastR L[i] (last.getD i 0) := by unfold lastR; omega
        have ew : IntKind.i64.wrap ((L[i].safe : Int) + (0)) = ((L[i].safe + (0) : Nat) : Int) := by rw [wi (by omega) (by omega)]; omega
        obtain ⟨arr, g1, g2, pl', g3, g4⟩ := fin _ hnn
        have ho1 := g3.sub (a := blk1 bx (refO q (.slice (some ⟨b, o, none⟩) L.length cr) nb ns)) (by simp) _ _ (blk1_same ..)
        obtain ⟨hgj, arr2, k1, k2, pl2, k3, k4⟩ := fin2 _ _ _ hnn g3 g4
        refine ⟨_, mcell_of ho rfl, rfl, ?_⟩
        conv => whnf
        refine ⟨_, mcell_of ho rfl, rfl, ?_⟩
        conv => whnf
        repeat (refine And.intro (by first | omega | (simp only [times]; omega)) ?_; conv => whnf)
        refine ⟨_, by simp only [times, Int.toNat_natCast]; exact mcell_rng (j := 2) hgi rfl, rfl, ?_⟩
        conv => whnf
        repeat (refine And.intro (by first | omega | (simp only [times]; omega)) ?_; conv => whnf)
        refine ⟨_, _, _, g1, ⟨by simp only [times, Int.toNat_natCast]; omega, by simp⟩, ?_⟩
        simp only [times, Int.toNat_natCast]
        rw [ew]
        conv => whnf
        refine ⟨_, mcell_of ho1 rfl, rfl, ?_⟩
        conv => whnf
        refine ⟨_, mcell_of ho1 rfl, rfl, ?_⟩
        conv => whnf
        repeat (refine And.intro (by first | omega | (simp only [times]; omega)) ?_; conv => whnf)
        refine ⟨_, by simp only [times, Int.toNat_natCast]; exact mcell_rng (j := 1) hgj rfl, rfl, ?_⟩
        conv => whnf
        refine ⟨_, mcell_of ho1 rfl, rfl, ?_⟩
        conv => whnf
        repeat (refine And.intro (by first | omega | (simp only [times]; omega)) ?_; conv => whnf)
        refine ⟨_, by simp only [times, Int.toNat_natCast]; exact mcell_rng (j := 2) hgj rfl, rfl, ?_⟩
        conv => whnf
        repeat (refine And.intro (by first | omega | (simp only [times]; omega)) ?_; conv => whnf)
        refine ⟨_, _, _, k1, ⟨by simp only [times, Int.toNat_natCast]; omega, by simp⟩, ?_⟩
        simp only [times, Int.toNat_natCast]
        conv => whnf
        refine ⟨i + 1, ⟨by omega, _, pl2, k3, k4⟩, by first | omega | (simp only; omega), ?_⟩
        conv => whnf
        repeat (refine And.intro (by first | with_reducible rfl | (first | exact congrArg (Value.int _) (iadd1 (by omega))) | exact congrArg (Value.int _) (wi (by omega) (by omega)) | exact wi (by omega) (by omega) | rfl) ?_; conv => whnf)
        first | exact trivial | exact fun _ _ h => h
  · have h2 := of_decide_eq_false h2
    have hxd : last.getD i 0 = 0 := by rw [List.getD_eq_getElem?_getD, List.getElem?_eq_none (by omega)]; rfl
    have h3 : ¬ 0 < last.getD i 0 := by omega
    conv => whnf
    refine ⟨_, mcell_of ho rfl, rfl, ?_⟩
    conv => whnf
    repeat (refine And.intro (by first | omega | (simp only [times]; omega)) ?_; conv => whnf)
    refine ⟨_, by simp only [times, Int.toNat_natCast]; exact mcell_rng (j := 1) hgi rfl, rfl, ?_⟩
    conv => whnf
    refine ⟨_, mcell_of ho rfl, rfl, ?_⟩
    conv => whnf
    repeat (refine And.intro (by first | omega | (simp only [times]; omega)) ?_; conv => whnf)
    refine ⟨_, by simp only [times, Int.toNat_natCast]; exact mcell_rng (j := 2) hgi rfl, rfl, ?_⟩
    conv => whnf
    rw [hwi]
    refine ⟨fun h5 => ?_, fun h5 => ?_⟩
    · have h5 := of_decide_eq_true h5
      conv => whnf
      refine ⟨_, mcell_of ho rfl, rfl, ?_⟩
      conv => whnf
      repeat (refine And.intro (by first | omega | (simp only [times]; omega)) ?_; conv => whnf)
      refine ⟨_, by simp only [times, Int.toNat_natCast]; exact mcell_rng (j := 1) hgi rfl, rfl, ?_⟩
      conv => whnf
      refine ⟨_, mcell_of ho rfl, rfl, ?_⟩
      conv => whnf
      repeat (refine And.intro (by first | omega | (simp only [times]; omega)) ?_; conv => whnf)
      refine ⟨_, by simp only [times, Int.toNat_natCast]; exact mcell_rng (j := 2) hgi rfl, rfl, ?_⟩
      conv => whnf
      rw [hwi]
      conv => whnf
      have hnn : L[i].b.size - L[i].safe = lastR L[i] (last.getD i 0) := by unfold lastR; omega
      have ew : IntKind.i64.wrap ((L[i].safe : Int) + ((L[i].b.size : Int) - (L[i].safe : Int))) = ((L[i].safe + (L[i].b.size - L[i].safe) : Nat) : Int) := by rw [wi (by omega) (by omega)]; omega
      obtain ⟨arr, g1, g2, pl', g3, g4⟩ := fin _ hnn
      have ho1 := g3.sub (a := blk1 bx (refO q (.slice (some ⟨b, o, none⟩) L.length cr) nb ns)) (by simp) _ _ (blk1_same ..)
      obtain ⟨hgj, arr2, k1, k2, pl2, k3, k4⟩ := fin2 _ _ _ hnn g3 g4
      refine ⟨_, mcell_of ho rfl, rfl, ?_⟩
      conv => whnf
      refine ⟨_, mcell_of ho rfl, rfl, ?_⟩
      conv => whnf
      repeat (refine And.intro (by first | omega | (simp only [times]; omega)) ?_; conv => whnf)
      refine ⟨_, by simp only [times, Int.toNat_natCast]; exact mcell_rng (j := 2) hgi rfl, rfl, ?_⟩
      conv => whnf
      repeat (refine And.intro (by first | omega | (simp only [times]; omega)) ?_; conv => whnf)
      refine ⟨_, _, _, g1, ⟨by simp only [times, Int.toNat_natCast]; omega, by simp⟩, ?_⟩
      simp only [times, Int.toNat_natCast]
      rw [ew]
      conv => whnf
      refine ⟨_, mcell_of ho1 rfl, rfl, ?_⟩
      conv => whnf
      refine ⟨_, mcell_of ho1 rfl, rfl, ?_⟩
      conv => whnf
      repeat (refine And.intro (by first | omega | (simp only [times]; omega)) ?_; conv => whnf)
      refine ⟨_, by simp only [times, Int.toNat_natCast]; exact mcell_rng (j := 1) hgj rfl, rfl, ?_⟩
      conv => whnf
      refine ⟨_, mcell_of ho1 rfl, rfl, ?_⟩
      conv => whnf
      repeat (refine And.intro (by first | omega | (simp only [times]; omega)) ?_; conv => whnf)
      refine ⟨_, by simp only [times, Int.toNat_natCast]; exact mcell_rng (j := 2) hgj rfl, rfl, ?_⟩
      conv => whnf
      repeat (refine And.intro (by first | omega | (simp only [times]; omega)) ?_; conv => whnf)
      refine ⟨_, _, _, k1, ⟨by simp only [times, Int.toNat_natCast]; omega, by simp⟩, ?_⟩
      simp only [times, Int.toNat_natCast]
      conv => whnf
      refine ⟨i + 1, ⟨by omega, _, pl2, k3, k4⟩, by first | omega | (simp only; omega), ?_⟩
      conv => whnf
      repeat (refine And.intro (by first | with_reducible rfl | (first | exact congrArg (Value.int _) (iadd1 (by omega))) | exact congrArg (Value.int _) (wi (by omega) (by omega)) | exact wi (by omega) (by omega) | rfl) ?_; conv => whnf)
      first | exact trivial | exact fun _ _ h => h
    · have h5 := of_decide_eq_false h5
      conv => whnf
      have hnn : 0 = lastR L[i] (last.getD i 0) := by unfold lastR; omega
      have ew : IntKind.i64.wrap ((L[i].safe : Int) + (0)) = ((L[i].safe + (0) : Nat) : Int) := by rw [wi (by omega) (by omega)]; omega
      obtain ⟨arr, g1, g2, pl', g3, g4⟩ := fin _ hnn
      have ho1 := g3.sub (a := blk1 bx (refO q (.slice (some ⟨b, o, none⟩) L.length cr) nb ns)) (by simp) _ _ (blk1_same ..)
      obtain ⟨hgj, arr2, k1, k2, pl2, k3, k4⟩ := fin2 _ _ _ hnn g3 g4
      refine ⟨_, mcell_of ho rfl, rfl, ?_⟩
      conv => whnf
      refine ⟨_, mcell_of ho rfl, rfl, ?_⟩
      conv => whnf
      repeat (refine And.intro (by first | omega | (simp only [times]; omega)) ?_; conv => whnf)
      refine ⟨_, by simp only [times, Int.toNat_natCast]; exact mcell_rng (j := 2) hgi rfl, rfl, ?_⟩
      conv => whnf
      repeat (refine And.intro (by first | omega | (simp only [times]; omega)) ?_; conv => whnf)
      refine ⟨_, _, _, g1, ⟨by simp only [times, Int.toNat_natCast]; omega, by simp⟩, ?_⟩
      simp only [times, Int.toNat_natCast]
      rw [ew]
      conv => whnf
      refine ⟨_, mcell_of ho1 rfl, rfl, ?_⟩
      conv => whnf
      refine ⟨_, mcell_of ho1 rfl, rfl, ?_⟩
      conv => whnf
      repeat (refine And.intro (by first | omega | (simp only [times]; omega)) ?_; conv => whnf)
      refine ⟨_, by simp only [times, Int.toNat_natCast]; exact mcell_rng (j := 1) hgj rfl, rfl, ?_⟩
      conv => whnf
      refine ⟨_, mcell_of ho1 rfl, rfl, ?_⟩
      conv => whnf
      repeat (refine And.intro (by first | omega | (simp only [times]; omega)) ?_; conv => whnf)
      refine ⟨_, by simp only [times, Int.toNat_natCast]; exact mcell_rng (j := 2) hgj rfl, rfl, ?_⟩
      conv => whnf
      repeat (refine And.intro (by first | omega | (simp only [times]; omega)) ?_; conv => whnf)
      refine ⟨_, _, _, k1, ⟨by simp only [times, Int.toNat_natCast]; omega, by simp⟩, ?_⟩
      simp only [times, Int.toNat_natCast]
      conv => whnf
      refine ⟨i + 1, ⟨by omega, _, pl2, k3, k4⟩, by first | omega | (simp only; omega), ?_⟩
      conv => whnf
      repeat (refine And.intro (by first | with_reducible rfl | (first | exact congrArg (Value.int _) (iadd1 (by omega))) | exact congrArg (Value.int _) (wi (by omega) (by omega)) | exact wi (by omega) (by omega) | rfl) ?_; conv => whnf)
      first | exact trivial | exact fun _ _ h => h
end Go.E.Ytghdapflkhadoaa

/-
  The document's files, and the given ones: what is the same of both.
-/
namespace Go.E.Ytghdapflkhadoaa
open Go.Proofs
set_option maxRecDepth 100000
def afR (r : Rf) : Af := ⟨r.name, chs r.b, r.safe⟩
structure Lk (A : List Af) (L : List Rf) : Prop where
  p : A.Perm (L.map afR)
  s : L.Pairwise fun a b => encB a.name < encB b.name
  n : ∀ r ∈ L, r.name.size ≤ 1000000
theorem chs_len (s : ByteArray) : (chs s).length = s.size := by simp [chs]
theorem encB_inj {a b : ByteArray} (h : encB a = encB b) : a = b := by
  cases a; cases b
  unfold encB at h
  congr 1
  exact Array.toList_inj.1 h
theorem ltB_irr (a : List UInt8) : ¬ a < a := List.lt_irrefl a
theorem ltB_trans {a b c : List UInt8} (h : a < b) (k : b < c) : a < c := List.lt_trans h k
theorem ltB_tot {a b : List UInt8} (h : ¬ a < b) (hn : a ≠ b) : b < a := by
  rcases Decidable.em (b < a) with k | k
  · exact k
  · exact absurd (List.le_antisymm (List.not_lt.1 k) (List.not_lt.1 h)) hn
theorem Lk.nil : Lk [] [] := ⟨.refl _, by simp, by simp⟩
section
variable {A : List Af} {L : List Rf}
theorem Lk.nd (h : Lk A L) : L.Pairwise fun a b => a.name ≠ b.name := h.s.imp fun h e => by rw [e] at h; exact ltB_irr _ h
theorem Lk.ndA (h : Lk A L) : A.Pairwise fun a b => a.name ≠ b.name := by
  have h1 : (L.map afR).Pairwise fun a b => a.name ≠ b.name := by
    rw [List.pairwise_map]; exact h.nd
  exact h.p.symm.pairwise h1 fun h => Ne.symm h
theorem one_of {α : Type} {f : α → ByteArray} : ∀ {l : List α}, l.Pairwise (fun a b => f a ≠ f b) → ∀ {a b : α}, a ∈ l → b ∈ l → f a = f b → a = b
  | x :: l, h, a, b, ha, hb, e => by
    obtain ⟨h1, h2⟩ := List.pairwise_cons.1 h
    rcases List.mem_cons.1 ha with rfl | ha' <;> rcases List.mem_cons.1 hb with rfl | hb'
    · rfl
    · exact absurd e (h1 _ hb')
    · exact absurd e.symm (h1 _ ha')
    · exact one_of h2 ha' hb' e
theorem Lk.one (h : Lk A L) {a b : Rf} (ha : a ∈ L) (hb : b ∈ L) (e : a.name = b.name) : a = b := one_of h.nd ha hb e
theorem Lk.mem (h : Lk A L) {a : Af} : a ∈ A ↔ ∃ r ∈ L, afR r = a := by rw [h.p.mem_iff, List.mem_map]
theorem Lk.file (h : Lk A L) (name : ByteArray) : fileA A name = (fileR L name).bind fun i => L[i]?.map afR := by
  cases hf : fileR L name with
  | none =>
    have h1 := fileR_none.1 hf
    rw [fileA]
    simp only [Option.bind_none, List.find?_eq_none]
    intro a ha
    obtain ⟨r, hr, rfl⟩ := h.mem.1 ha
    have := h1 r hr
    exact fun e => this (of_decide_eq_true e).symm
  | some i =>
    obtain ⟨x, hx, hxn⟩ := fileR_get hf
    simp only [Option.bind_some, hx, Option.map_some]
    have hxL := List.mem_of_getElem? hx
    rw [fileA]
    cases e : A.find? fun a => decide (name = a.name) with
    | none =>
      have := List.find?_eq_none.1 e (afR x) (h.mem.2 ⟨x, hxL, rfl⟩)
      simp [afR, hxn] at this
    | some a =>
      have h1 := List.find?_some e
      have h2 := List.mem_of_find?_eq_some e
      obtain ⟨r, hr, rfl⟩ := h.mem.1 h2
      have h3 : name = r.name := of_decide_eq_true h1
      rw [h.one hr hxL (by rw [hxn, h3])]
theorem Lk.has (h : Lk A L) {name : ByteArray} {i : Nat} {x : Rf} (hf : fileR L name = some i) (hx : L[i]? = some x) : fileA A name = some (afR x) := by
  rw [h.file, hf]; simp [hx]
theorem Lk.hasNo (h : Lk A L) {name : ByteArray} (hf : fileR L name = none) : fileA A name = none := by
  rw [h.file, hf]; rfl
theorem Lk.err (h : Lk A L) (name : ByteArray) : errA A name = errR L name := by
  unfold errA errR
  cases hf : fileR L name with
  | none => rw [h.hasNo hf]; rfl
  | some i =>
    obtain ⟨x, hx, _⟩ := fileR_get hf
    rw [h.has hf hx]; rfl
theorem srtB_id {ss : List ByteArray} (h : ss.Pairwise fun a b => encB a < encB b) : srtB ss = ss := by
  have h1 : ((ss.map encB).mergeSort fun x y => decide (x ≤ y)) = ss.map encB := by
    refine List.mergeSort_of_pairwise ?_
    rw [List.pairwise_map]
    refine h.imp fun h => ?_
    simpa using List.le_of_lt h
  rw [srtB, h1, List.map_map]
  exact (List.map_congr_left fun s _ => rfl).trans (List.map_id ss)
theorem Lk.names (h : Lk A L) : srtB (A.map (·.name)) = L.map (·.name) := by
  have h1 : (A.map (·.name)).Perm (L.map (·.name)) := by
    have := h.p.map (·.name)
    rw [List.map_map] at this
    exact this
  rw [srtB_perm h1]
  exact srtB_id (by rw [List.pairwise_map]; exact h.s)
theorem Lk.len (h : Lk A L) : A.length = L.length := by rw [h.p.length_eq, List.length_map]
theorem Lk.tot (h : Lk A L) : totA A = usedR L := by
  have h1 : totA A = totA (L.map afR) := (h.p.map _).sum_nat
  rw [h1, totA, usedR, List.map_map]
  congr 1
  exact List.map_congr_left fun r _ => chs_len r.b
theorem set_map {name : ByteArray} {i : Nat} {y : Rf} (h : Lk A L) (hf : fileR L name = some i) : L.set i y = L.map fun r => if r.name = name then y else r := by
  obtain ⟨x, hx, hxn⟩ := fileR_get hf
  obtain ⟨hi, hx⟩ := List.getElem?_eq_some_iff.1 hx
  refine List.ext_getElem (by simp) fun j h1 h2 => ?_
  rw [List.getElem_set, List.getElem_map]
  by_cases e : i = j
  · subst e
    rw [if_pos rfl, if_pos (by rw [hx]; exact hxn)]
  · rw [if_neg e, if_neg]
    intro e2
    have hj : j < L.length := by simpa using h2
    have := List.pairwise_iff_getElem.1 h.nd
    rcases Nat.lt_or_gt_of_ne e with h3 | h3
    · exact this i j hi hj h3 (by rw [hx, hxn, e2])
    · exact this j i hj hi h3 (by rw [hx, hxn, e2])
/-- what is done to one file -/
theorem Lk.upd (h : Lk A L) {name : ByteArray} {i : Nat} {x y : Rf} (hf : fileR L name = some i) (hx : L[i]? = some x) (hn : y.name = x.name) {g : Af → Af} (hg : g (afR x) = afR y) (hg' : ∀ a : Af, a.name ≠ name → g a = a) : Lk (A.map g) (L.set i y) := by
  obtain ⟨x', hx', hxn⟩ := fileR_get hf
  rw [hx] at hx'
  cases hx'
  rw [set_map h hf]
  have hxL := List.mem_of_getElem? hx
  refine ⟨?_, ?_, fun r hr => ?_⟩
  · have := h.p.map g
    rw [List.map_map] at this ⊢
    refine this.trans (.of_eq (List.map_congr_left fun r hr => ?_))
    simp only [Function.comp]
    by_cases e : r.name = name
    · rw [if_pos e, h.one hr hxL (by rw [e, hxn]), hg]
    · rw [if_neg e, hg' _ (by exact e)]
  · rw [List.pairwise_map]
    have key : ∀ r : Rf, (if r.name = name then y else r).name = r.name := fun r => by
      by_cases e : r.name = name
      · rw [if_pos e, hn, hxn, e]
      · rw [if_neg e]
    exact h.s.imp fun hlt => by rw [key, key]; exact hlt
  · obtain ⟨r', hr', rfl⟩ := List.mem_map.1 hr
    split
    · rw [hn]; exact h.n _ hxL
    · exact h.n _ hr'
theorem Lk.sync (h : Lk A L) {name : ByteArray} {e : Int} {L' : List Rf} {ns ns' : Nat} (hr : SyncR L name ns e L' ns') : e = errA A name ∧ Lk (syncA A name) L' ∧ ns' = if (fileA A name).isSome then ns + 1 else ns := by
  unfold SyncR at hr
  cases hf : fileR L name with
  | none =>
    rw [hf] at hr
    obtain ⟨rfl, rfl, rfl⟩ := hr
    have hn := h.hasNo hf
    refine ⟨by rw [errA, hn]; rfl, ?_, by rw [hn]; rfl⟩
    have : syncA A name = A := by
      refine (List.map_congr_left fun a ha => ?_).trans (List.map_id A)
      have := List.find?_eq_none.1 hn a ha
      exact if_neg fun e => by simp [e] at this
    rw [this]; exact h
  | some i =>
    rw [hf] at hr
    obtain ⟨rfl, rfl, x, hx, rfl⟩ := hr
    have hs := h.has hf hx
    obtain ⟨x', hx', hxn⟩ := fileR_get hf
    rw [hx] at hx'
    cases hx'
    refine ⟨by rw [errA, hs]; rfl, ?_, by rw [hs]; rfl⟩
    refine h.upd (y := { x with safe := x.b.size }) hf hx rfl ?_ fun a ha => if_neg ha
    rw [if_pos (show (afR x).name = name from hxn)]
    simp only [afR, chs_len]
end
end Go.E.Ytghdapflkhadoaa
