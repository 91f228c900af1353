/-
  Contracts of the functions of vec, on: joins of many, orders, and what must come of fixed calls.
-/
import Derived.Test.YtdhojpepdgdblaaVec
import Derived.Test.YtdhojpepdgdblaaE17
namespace Go.E.Ytdhojpepdgdblaa
open Go.Proofs
set_option maxRecDepth 100000

theorem set_min {i : Nat} {u v : List Int} (hi : i < u.length) (h : u.length = v.length) : zipTo min (i + 1) u v = if v.getD i 0 < u.getD i 0 then (zipTo min i u v).set i (v.getD i 0) else zipTo min i u v := by
  rw [← zipTo_set min i u v hi h, zipTo_getD]
  by_cases hlt : v.getD i 0 < u.getD i 0
  · rw [if_pos hlt, show min (u.getD i 0) (v.getD i 0) = v.getD i 0 by omega]
  · rw [if_neg hlt, show min (u.getD i 0) (v.getD i 0) = u.getD i 0 by omega]
    rw [← zipTo_getD min i u v]
    exact set_self _ _
theorem rjoin3_spec {m : Mem} {u v : List Int} (hu : u.length = 8) (hv : v.length = 8) : Ret Try.prog 25 [vecV u, vecV v] m [vecV (List.zipWith max u v)] := by
  refine en25 rfl ?_
  conv => whnf
  refine .mk (ι := Nat) (fun i => 8 - i) (fun i => i ≤ 8) (fun i => [(2, .p 0 0), (3, .p 1 0), (4, .p 2 0), (5, .p 3 0), (6, .c (i64 i))])
    (fun i => [(33, [.ints .u64 8 u]), (33, [.ints .u64 8 v]), (33, [.ints .u64 8 (List.replicate 8 0)]), (33, [.ints .u64 8 (zipTo max i u v)])]) (fun _ => m) 0 (by omega) ?_ ?_
  · conv => whnf
    repeat (refine And.intro (by first | with_reducible rfl | (exact (zipTo_zero _ _ _).symm) | exact congrArg (Value.int _) (wi (by omega) (by omega)) | exact wi (by omega) (by omega) | rfl) ?_; conv => whnf)
    first | exact trivial | exact fun _ _ h => h
  intro i hi
  conv => whnf
  refine ⟨fun h => ?_, fun h => ?_⟩
  · have h' := of_decide_eq_true h
    have su := set_max (i := i) (u := u) (v := v) (by omega) (by omega)
    conv => whnf
    repeat (refine And.intro (by first | omega | (simp only [times]; omega)) ?_; conv => whnf)
    refine ⟨fun h2 => ?_, fun h2 => ?_⟩
    · have h2' : u.getD i 0 < v.getD i 0 := of_decide_eq_true h2
      rw [if_pos h2'] at su
      conv => whnf
      repeat (refine And.intro (by first | omega | (simp only [times]; omega)) ?_; conv => whnf)
      refine ⟨i + 1, by omega, by omega, ?_⟩
      conv => whnf
      repeat (refine And.intro (by first | with_reducible rfl | (exact su.symm) | exact congrArg (Value.int _) (wi (by omega) (by omega)) | exact wi (by omega) (by omega) | rfl) ?_; conv => whnf)
      first | exact trivial | exact fun _ _ h => h
    · have h2' : ¬ u.getD i 0 < v.getD i 0 := of_decide_eq_false h2
      rw [if_neg h2'] at su
      conv => whnf
      refine ⟨i + 1, by omega, by omega, ?_⟩
      conv => whnf
      repeat (refine And.intro (by first | with_reducible rfl | (exact su.symm) | exact congrArg (Value.int _) (wi (by omega) (by omega)) | exact wi (by omega) (by omega) | rfl) ?_; conv => whnf)
      first | exact trivial | exact fun _ _ h => h
  · have h' := of_decide_eq_false h
    have : i = 8 := by omega
    subst this
    conv => whnf
    refine ⟨?_, rfl⟩
    rw [zipTo_all _ _ _ _ (by omega) (by omega)]
theorem rmeet_spec {m : Mem} {u v : List Int} (hu : u.length = 8) (hv : v.length = 8) : Ret Try.prog 40 [vecV u, vecV v] m [vecV (List.zipWith min u v)] := by
  refine en40 rfl ?_
  conv => whnf
  refine .mk (ι := Nat) (fun i => 8 - i) (fun i => i ≤ 8) (fun i => [(2, .p 0 0), (3, .p 1 0), (4, .p 2 0), (5, .p 3 0), (6, .c (i64 i))])
    (fun i => [(33, [.ints .u64 8 u]), (33, [.ints .u64 8 v]), (33, [.ints .u64 8 (List.replicate 8 0)]), (33, [.ints .u64 8 (zipTo min i u v)])]) (fun _ => m) 0 (by omega) ?_ ?_
  · conv => whnf
    repeat (refine And.intro (by first | with_reducible rfl | (exact (zipTo_zero _ _ _).symm) | exact congrArg (Value.int _) (wi (by omega) (by omega)) | exact wi (by omega) (by omega) | rfl) ?_; conv => whnf)
    first | exact trivial | exact fun _ _ h => h
  intro i hi
  conv => whnf
  refine ⟨fun h => ?_, fun h => ?_⟩
  · have h' := of_decide_eq_true h
    have su := set_min (i := i) (u := u) (v := v) (by omega) (by omega)
    conv => whnf
    repeat (refine And.intro (by first | omega | (simp only [times]; omega)) ?_; conv => whnf)
    refine ⟨fun h2 => ?_, fun h2 => ?_⟩
    · have h2' : v.getD i 0 < u.getD i 0 := of_decide_eq_true h2
      rw [if_pos h2'] at su
      conv => whnf
      repeat (refine And.intro (by first | omega | (simp only [times]; omega)) ?_; conv => whnf)
      refine ⟨i + 1, by omega, by omega, ?_⟩
      conv => whnf
      repeat (refine And.intro (by first | with_reducible rfl | (exact su.symm) | exact congrArg (Value.int _) (wi (by omega) (by omega)) | exact wi (by omega) (by omega) | rfl) ?_; conv => whnf)
      first | exact trivial | exact fun _ _ h => h
    · have h2' : ¬ v.getD i 0 < u.getD i 0 := of_decide_eq_false h2
      rw [if_neg h2'] at su
      conv => whnf
      refine ⟨i + 1, by omega, by omega, ?_⟩
      conv => whnf
      repeat (refine And.intro (by first | with_reducible rfl | (exact su.symm) | exact congrArg (Value.int _) (wi (by omega) (by omega)) | exact wi (by omega) (by omega) | rfl) ?_; conv => whnf)
      first | exact trivial | exact fun _ _ h => h
  · have h' := of_decide_eq_false h
    have : i = 8 := by omega
    subst this
    conv => whnf
    refine ⟨?_, rfl⟩
    rw [zipTo_all _ _ _ _ (by omega) (by omega)]
theorem min_eq_iff : ∀ (u v : List Int), u.length = v.length → (List.zipWith min u v = v ↔ ∀ i, i < v.length → v.getD i 0 ≤ u.getD i 0)
  | [], [], _ => by simp
  | [], _ :: _, h => by simp at h
  | _ :: _, [], h => by simp at h
  | a :: u, b :: v, h => by
    have ih := min_eq_iff u v (by simpa using h)
    simp only [List.zipWith_cons_cons, List.cons.injEq, ih]
    constructor
    · rintro ⟨h1, h2⟩ i hi
      cases i with
      | zero => simp; omega
      | succ i => simpa using h2 i (by simpa using hi)
    · intro h1
      refine ⟨?_, fun i hi => by simpa using h1 (i + 1) (by simpa using hi)⟩
      have := h1 0 (by simp)
      simp at this; omega
theorem covN_iff {u v : List Int} (hu : u.length = 8) (hv : v.length = 8) : covN u v = true ↔ ∀ i, i < 8 → v.getD i 0 ≤ u.getD i 0 := by
  have := min_eq_iff u v (by omega)
  rw [hv] at this
  rw [← this]
  simp [covN, eqLB]
theorem rcovers_spec {m : Mem} {u v : List Int} (hu : u.length = 8) (hv : v.length = 8) : Ret Try.prog 41 [vecV u, vecV v] m [boolV (covN u v)] := by
  refine en41 rfl ?_
  conv => whnf
  refine .mk (ι := Nat) (fun i => 8 - i) (fun i => i ≤ 8 ∧ ∀ j, j < i → v.getD j 0 ≤ u.getD j 0) (fun i => [(2, .p 0 0), (3, .p 1 0), (5, .c (i64 i))])
    (fun i => [(33, [.ints .u64 8 u]), (33, [.ints .u64 8 v])]) (fun _ => m) 0 (by simp) ?_ ?_
  · conv => whnf
    repeat (refine And.intro (by first | with_reducible rfl | exact congrArg (Value.int _) (wi (by omega) (by omega)) | exact wi (by omega) (by omega) | rfl) ?_; conv => whnf)
    first | exact trivial | exact fun _ _ h => h
  intro i hi
  have hi1 := hi.1
  have hi2 := hi.2
  conv => whnf
  refine ⟨fun h => ?_, fun h => ?_⟩
  · have h' := of_decide_eq_true h
    conv => whnf
    repeat (refine And.intro (by first | omega | (simp only [times]; omega)) ?_; conv => whnf)
    refine ⟨fun h2 => ?_, fun h2 => ?_⟩
    · have h2' : u.getD i 0 < v.getD i 0 := of_decide_eq_true h2
      have hc : covN u v = false := by
        cases hb : covN u v with
        | false => rfl
        | true => have := (covN_iff hu hv).1 hb i (by omega); omega
      conv => whnf
      refine ⟨?_, rfl⟩
      rw [hc]
    · have h2' : ¬ u.getD i 0 < v.getD i 0 := of_decide_eq_false h2
      conv => whnf
      refine ⟨i + 1, ⟨by omega, fun j hj => ?_⟩, by omega, ?_⟩
      · by_cases e : j = i
        · rw [e]; omega
        · exact hi2 j (by omega)
      conv => whnf
      repeat (refine And.intro (by first | with_reducible rfl | exact congrArg (Value.int _) (wi (by omega) (by omega)) | exact wi (by omega) (by omega) | rfl) ?_; conv => whnf)
      first | exact trivial | exact fun _ _ h => h
  · have h' := of_decide_eq_false h
    have hc : covN u v = true := (covN_iff hu hv).2 (fun j hj => hi2 j (by omega))
    conv => whnf
    refine ⟨?_, rfl⟩
    rw [hc]
def ordN (u v : List Int) : Int := if covN u v = true then (if covN v u = true then 0 else 1) else if covN v u = true then -1 else 2
theorem order_spec {m : Mem} {u v : List Int} (hu : u.length = 8) (hv : v.length = 8) : Ret Try.prog 44 [vecV u, vecV v] m [i64 (ordN u v)] := by
  refine en44 rfl ?_
  conv => whnf
  first | refine xretk (covers_spec hu hv) ?_ | refine xret (covers_spec hu hv) ?_
  conv => whnf
  first | refine xretk (covers_spec hv hu) ?_ | refine xret (covers_spec hv hu) ?_
  conv => whnf
  unfold ordN
  refine ⟨fun h => ?_, fun h => ?_⟩
  · conv => whnf
    refine ⟨fun h2 => ?_, fun h2 => ?_⟩
    · conv => whnf
      refine ⟨?_, rfl⟩
      rw [h, h2]; rfl
    · conv => whnf
      refine ⟨fun _ => ?_, fun h3 => absurd (h.symm.trans h3) (by simp)⟩
      conv => whnf
      refine ⟨?_, rfl⟩
      rw [h, h2]; rfl
  · conv => whnf
    refine ⟨fun h3 => absurd (h.symm.trans h3) (by simp), fun _ => ?_⟩
    conv => whnf
    refine ⟨fun h2 => ?_, fun h2 => ?_⟩
    · conv => whnf
      refine ⟨?_, rfl⟩
      rw [h, h2]; rfl
    · conv => whnf
      refine ⟨?_, rfl⟩
      rw [h, h2]; rfl
theorem eq_of_covN {u v : List Int} (hu : u.length = 8) (hv : v.length = 8) (h1 : covN u v = true) (h2 : covN v u = true) : u = v := by
  have a := (covN_iff hu hv).1 h1
  have b := (covN_iff hv hu).1 h2
  apply List.ext_getElem (by omega)
  intro i hi hi'
  have := a i (by omega)
  have := b i (by omega)
  simp only [List.getD_eq_getElem?_getD, List.getElem?_eq_getElem hi, List.getElem?_eq_getElem hi', Option.getD_some] at *
  omega
theorem covN_self {u : List Int} (hu : u.length = 8) : covN u u = true := (covN_iff hu hu).2 (fun _ _ => Int.le_refl _)
theorem rorder_spec {m : Mem} {u v : List Int} (hu : u.length = 8) (hv : v.length = 8) : Ret Try.prog 45 [vecV u, vecV v] m [i64 (ordN u v)] := by
  refine en45 rfl ?_
  conv => whnf
  refine ⟨fun h => ?_, fun h => ?_⟩
  · have h' : u = v := by simpa [eqLB] using h
    have hc := covN_self hu
    conv => whnf
    refine ⟨?_, rfl⟩
    rw [ordN, ← h', if_pos hc, if_pos hc]
  · have h' : u ≠ v := by simpa [eqLB] using h
    conv => whnf
    first | refine xretk (rcovers_spec hu hv) ?_ | refine xret (rcovers_spec hu hv) ?_
    conv => whnf
    refine ⟨fun h2 => ?_, fun h2 => ?_⟩
    · have h3 : ¬ covN v u = true := fun h3 => h' (eq_of_covN hu hv h2 h3)
      conv => whnf
      refine ⟨?_, rfl⟩
      rw [ordN, if_pos h2, if_neg h3]
    · conv => whnf
      first | refine xretk (rcovers_spec hv hu) ?_ | refine xret (rcovers_spec hv hu) ?_
      conv => whnf
      refine ⟨fun h3 => ?_, fun h3 => ?_⟩
      · conv => whnf
        refine ⟨?_, rfl⟩
        rw [ordN, if_neg (by rw [h2]; simp), if_pos h3]
      · conv => whnf
        refine ⟨?_, rfl⟩
        rw [ordN, if_neg (by rw [h2]; simp), if_neg (by rw [h3]; simp)]
end Go.E.Ytdhojpepdgdblaa
