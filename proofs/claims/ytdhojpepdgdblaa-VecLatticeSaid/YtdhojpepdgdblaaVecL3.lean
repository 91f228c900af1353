/-
  The laws of vec.
-/
import Derived.Test.YtdhojpepdgdblaaVecL2
namespace Go.E.Ytdhojpepdgdblaa
open Go.Proofs
set_option maxRecDepth 100000

theorem flat_at {α : Type} {size : Nat} : ∀ (ls : List (List α)), (∀ a ∈ ls, a.length = size) → ∀ (i : Nat) (a : List α), ls[i]? = some a → ∀ (j : Nat) (u : α), a[j]? = some u → ls.flatten[i * size + j]? = some u
  | [], _, i, a, hi, _, _, _ => by simp at hi
  | b :: ls, h, 0, a, hi, j, u, hu => by
    simp at hi; subst hi
    simp only [List.flatten_cons, Nat.zero_mul, Nat.zero_add]
    rw [List.getElem?_append_left (List.getElem?_eq_some_iff.1 hu).1]; exact hu
  | b :: ls, h, i + 1, a, hi, j, u, hu => by
    have hb := h b (by simp)
    have ih := flat_at ls (fun a ha => h a (by simp [ha])) i a (by simpa using hi) j u hu
    simp only [List.flatten_cons]
    rw [List.getElem?_append_right (by rw [hb, Nat.add_mul]; omega), hb]
    rw [show (i + 1) * size + j - size = i * size + j by rw [Nat.add_mul]; omega]
    exact ih
abbrev vcells (a : List Int) : List Value := a.map (Value.int .u64)
/-- a slice of vectors -/
def Vecs (m : Mem) (v : Value) (ls : List (List Int)) : Prop := Lies m 8 v (ls.map vcells).flatten ∧ lenV v = ls.length ∧ ∀ a ∈ ls, V8 a
def joinTo (i : Nat) (ls : List (List Int)) : List Int := (ls.take i).foldl (List.zipWith max) (List.replicate 8 0)
theorem v8_zero : V8 (List.replicate 8 0) := V8.of rfl rfl
theorem foldl_v8 : ∀ (ls : List (List Int)) (z : List Int), V8 z → (∀ a ∈ ls, V8 a) → V8 (ls.foldl (List.zipWith max) z)
  | [], z, hz, _ => hz
  | a :: ls, z, hz, h => foldl_v8 ls _ (hz.zip (h a (by simp))) (fun b hb => h b (by simp [hb]))
theorem joinTo_v8 {ls : List (List Int)} (h : ∀ a ∈ ls, V8 a) (i : Nat) : V8 (joinTo i ls) := foldl_v8 _ _ v8_zero (fun a ha => h a (List.mem_of_mem_take ha))
theorem joinTo_succ {ls : List (List Int)} {i : Nat} {a : List Int} (h : ls[i]? = some a) : joinTo (i + 1) ls = List.zipWith max (joinTo i ls) a := by
  unfold joinTo
  have hi := (List.getElem?_eq_some_iff.1 h).1
  have : ls[i] = a := (List.getElem?_eq_some_iff.1 h).2
  rw [List.take_succ_eq_append_getElem hi, List.foldl_append, this]; rfl
theorem joinTo_all {ls : List (List Int)} : joinTo ls.length ls = ls.foldl (List.zipWith max) (List.replicate 8 0) := by rw [joinTo, List.take_length]
theorem joins_spec {m : Mem} {v : Value} {ls : List (List Int)} (hv : Vecs m v ls) (hn : ls.length < 9223372036854775808) : Ret Try.prog 26 [.v v] m [vecV (ls.foldl (List.zipWith max) (List.replicate 8 0))] := by
  obtain ⟨hl, hlen, h8⟩ := hv
  have fin : ∀ i, i = ls.length → joinTo i ls = ls.foldl (List.zipWith max) (List.replicate 8 0) := by rintro i rfl; exact joinTo_all
  rcases hl with ⟨c, rfl, hnil⟩ | ⟨b, o, c, n, arr, t, fr, rfl, g1, g2, _, g3, g4⟩
  · have h0 : ls = [] := List.length_eq_zero_iff.1 hlen.symm
    subst h0
    refine en26 rfl ?_
    conv => whnf
    refine .mk (ι := Unit) (fun i => 0) (fun i => True) (fun i => [(2, .p 0 0), (3, .p 1 0), (8, .c (.v (.slice none 0 c))), (9, .c (i64 0)), (10, .c (i64 0))])
      (fun i => [(33, [.ints .u64 8 (List.replicate 8 0)]), (33, [.ints .u64 8 (List.replicate 8 0)])]) (fun _ => m) () trivial ?_ ?_
    · conv => whnf
      repeat (refine And.intro (by first | with_reducible rfl | exact congrArg (Value.int _) (wi (by omega) (by omega)) | exact wi (by omega) (by omega) | rfl) ?_; conv => whnf)
      first | exact trivial | exact fun _ _ h => h
    intro i hi
    conv => whnf
    refine ⟨fun h => absurd h (by decide), fun _ => ?_⟩
    conv => whnf
    exact ⟨rfl, rfl⟩
  · have hn' : n = ls.length := hlen
    subst hn'
    refine en26 rfl ?_
    conv => whnf
    refine .mk (ι := Nat) (fun i => ls.length - i) (fun i => i ≤ ls.length) (fun i => [(2, .p 0 0), (3, .p 1 0), (8, .c (.v (.slice (some ⟨b, o, none⟩) ls.length c))), (9, .c (i64 ls.length)), (10, .c (i64 i))])
      (fun i => [(33, [.ints .u64 8 (List.replicate 8 0)]), (33, [.ints .u64 8 (joinTo i ls)])]) (fun _ => m) 0 (by omega) ?_ ?_
    · conv => whnf
      repeat (refine And.intro (by first | with_reducible rfl | exact congrArg (Value.int _) (wi (by omega) (by omega)) | exact wi (by omega) (by omega) | rfl) ?_; conv => whnf)
      first | exact trivial | exact fun _ _ h => h
    intro i hi
    conv => whnf
    refine ⟨fun h => ?_, fun h => ?_⟩
    · have h' := of_decide_eq_true h
      have hi' : i < ls.length := by omega
      have ha : ls[i]? = some ls[i] := by simp [hi']
      have h8a := h8 _ (List.getElem_mem hi')
      have h8j := joinTo_v8 h8 i
      have hs := joinTo_succ ha
      have hj1 := h8j.1
      have ha1 := h8a.1
      generalize ls[i] = a at ha h8a hs ha1
      conv => whnf
      repeat (refine And.intro (by first | omega | (simp only [times]; omega)) ?_; conv => whnf)
      refine ⟨[.ints .u64 8 a], ⟨ha1, trivial⟩, rfl, ?_, ?_⟩
      · refine ⟨arr, t, fr, g1, fun j u hu => ?_⟩
        have := flat_at (size := 8) (ls.map vcells) (by simpa using fun x hx => (h8 x hx).1) i (vcells a) (by simp [ha]) j u (by simpa [LB.cells, Seg.cells] using hu)
        have := g3 _ _ this
        simp only [times]
        rw [show o + (Int.toNat (i : Int)) * 8 + j = o + (i * 8 + j) by simp; omega]
        exact this
      conv => whnf
      refine .mk (ι := Nat) (fun k => 8 - k) (fun k => k ≤ 8) (fun k => [(2, .p 0 0), (3, .p 1 0), (8, .c (.v (.slice (some ⟨b, o, none⟩) ls.length c))), (9, .c (i64 ls.length)), (10, .c (i64 i)), (14, .c (vecV a)), (15, .c (i64 k))])
        (fun k => [(33, [.ints .u64 8 (List.replicate 8 0)]), (33, [.ints .u64 8 (zipTo max k (joinTo i ls) a)])]) (fun _ => m) 0 (by omega) ?_ ?_
      · conv => whnf
        repeat (refine And.intro (by first | with_reducible rfl | (exact (zipTo_zero _ _ _).symm) | exact congrArg (Value.int _) (wi (by omega) (by omega)) | exact wi (by omega) (by omega) | rfl) ?_; conv => whnf)
        first | exact trivial | exact fun _ _ h => h
      intro k hk
      conv => whnf
      refine ⟨fun h => ?_, fun h => ?_⟩
      · have h' := of_decide_eq_true h
        conv => whnf
        repeat (refine And.intro (by first | omega | (simp only [times]; omega)) ?_; conv => whnf)
        refine ⟨k + 1, by omega, by omega, ?_⟩
        conv => whnf
        repeat (refine And.intro (by first | with_reducible rfl | (exact zipTo_set _ _ _ _ (by omega) (by omega)) | exact congrArg (Value.int _) (wi (by omega) (by omega)) | exact wi (by omega) (by omega) | rfl) ?_; conv => whnf)
        first | exact trivial | exact fun _ _ h => h
      · have h' := of_decide_eq_false h
        have : k = 8 := by omega
        subst this
        have e8 := zipTo_all max 8 (joinTo i ls) a (by omega) (by omega)
        conv => whnf
        refine ⟨i + 1, by omega, by omega, ?_⟩
        conv => whnf
        repeat (refine And.intro (by first | with_reducible rfl | (exact e8.trans hs.symm) | exact congrArg (Value.int _) (wi (by omega) (by omega)) | exact wi (by omega) (by omega) | rfl) ?_; conv => whnf)
        first | exact trivial | exact fun _ _ h => h
    · have h' := of_decide_eq_false h
      have hi' : i = ls.length := by omega
      have e := fin i hi'
      conv => whnf
      refine ⟨?_, rfl⟩
      rw [e]
/-- the slice that a call's list of two vectors makes -/
theorem vecs2 {m : Mem} {b : Nat} {u v : List Int} (hu : V8 u) (hv : V8 v) : Vecs (m.set b (.cells (fl [vecV u, vecV v]).toArray 33)) (.slice (some ⟨b, 0, none⟩) 2 2) [u, v] := by
  refine ⟨.inr ⟨b, 0, 2, 2, _, _, _, rfl, Mem.set_same .., ?_, Nat.le_refl _, ?_, ?_⟩, rfl, ?_⟩
  · simp [hu.1, hv.1]
  · intro j x hx
    simpa [fl, CV.cs, LB.cells, Seg.cells] using hx
  · intro x hx
    simp at hx
    rcases hx with ⟨a, _, rfl⟩ | ⟨a, _, rfl⟩ <;> rfl
  · intro a ha
    simp at ha
    rcases ha with rfl | rfl
    · exact hu
    · exact hv
theorem zip_zero {u : List Int} (hu : V8 u) : List.zipWith max (List.replicate 8 0) u = u := by
  have h1 := hu.1
  have : ∀ (n : Nat) (u : List Int), u.length = n → (∀ x ∈ u, 0 ≤ x) → List.zipWith max (List.replicate n 0) u = u := by
    intro n
    induction n with
    | zero => intro u hu _; have := List.length_eq_zero_iff.1 hu; subst this; rfl
    | succ n ih =>
      intro u hu h
      cases u with
      | nil => simp at hu
      | cons a u =>
        simp only [List.replicate_succ, List.zipWith_cons_cons]
        rw [ih u (by simpa using hu) (fun x hx => h x (by simp [hx]))]
        have := h a (by simp)
        congr 1; omega
  refine this 8 u h1 (fun x hx => ?_)
  obtain ⟨i, hi, rfl⟩ := List.mem_iff_getElem.1 hx
  have := (hu.2 i).1
  simpa [List.getD_eq_getElem?_getD, List.getElem?_eq_getElem hi] using this
theorem join2 {u v : List Int} (hu : V8 u) : [u, v].foldl (List.zipWith max) (List.replicate 8 0) = List.zipWith max u v := by
  simp only [List.foldl_cons, List.foldl_nil, zip_zero hu]
theorem buildVecs_spec {m : Mem} {u v : List Int} (hu : V8 u) (hv : V8 v) : PrimSpec Try.prog (.buildSlice 53 2 [0, 1]) [vecV u, vecV v] m fun r m' => ∃ b, m b = none ∧ r = [.v (.slice (some ⟨b, 0, none⟩) 2 2)] ∧ m' = m.set b (.cells (fl [vecV u, vecV v]).toArray 33) :=
  buildSlice_spec tt_ok (t := 53) (e := 33) (by rfl) rfl (by rfl) rfl rfl (by simp [CV.cs, LB.cells, Seg.cells, hu.1, hv.1]) (by simp) (by simp)
theorem alive3_spec {m : Mem} : Spec Try.prog 24 [] m fun r m' => r = [boolV true] ∧ Sub m m' := by
  have u1 : V8 [1, 0, 2, 0, 0, 0, 0, 0] := V8.of rfl rfl
  have u2 : V8 [0, 3, 0, 0, 0, 0, 0, 0] := V8.of rfl rfl
  have u3 : V8 [1, 3, 2, 0, 0, 0, 0, 0] := V8.of rfl rfl
  have u4 : V8 [18446744073709551615, 0, 0, 0, 0, 0, 0, 0] := V8.of rfl rfl
  have u5 : V8 [1, 0, 0, 0, 0, 0, 0, 0] := V8.of rfl rfl
  have j1 : [[1, 0, 2, 0, 0, 0, 0, 0], [0, 3, 0, 0, 0, 0, 0, 0]].foldl (List.zipWith max) (List.replicate 8 (0 : Int)) = [1, 3, 2, 0, 0, 0, 0, 0] := by rfl
  have n1 : nextR [1, 3, 2, 0, 0, 0, 0, 0] 2 = [dotV 2 4, i64 0] := by rfl
  have n2 : nextR [1, 3, 2, 0, 0, 0, 0, 0] 9 = [dotV 0 0, i64 11] := by rfl
  have n3 : nextR [18446744073709551615, 0, 0, 0, 0, 0, 0, 0] 1 = [dotV 0 0, i64 13] := by rfl
  refine en24 rfl ?_
  conv => whnf
  refine .mk _ (buildVecs_spec u1 u2) ?_
  rintro _ _ ⟨b, hb, rfl, rfl⟩
  conv => whnf
  first | refine xretk (Ret.cast (r' := [vecV [1, 3, 2, 0, 0, 0, 0, 0]]) (joins_spec (vecs2 u1 u2) (by decide)) (by rfl)) ?_ | refine xret (Ret.cast (r' := [vecV [1, 3, 2, 0, 0, 0, 0, 0]]) (joins_spec (vecs2 u1 u2) (by decide)) (by rfl)) ?_
  conv => whnf
  first | refine xretk (Ret.cast (next_spec u3 (ii rfl)) n1) ?_ | refine xret (Ret.cast (next_spec u3 (ii rfl)) n1) ?_
  conv => whnf
  first | refine xretk (Ret.cast (next_spec u3 (ii rfl)) n2) ?_ | refine xret (Ret.cast (next_spec u3 (ii rfl)) n2) ?_
  conv => whnf
  first | refine xretk (Ret.cast (next_spec u4 (ii rfl)) n3) ?_ | refine xret (Ret.cast (next_spec u4 (ii rfl)) n3) ?_
  conv => whnf
  refine ⟨fun _ => ?_, fun h => absurd h (by decide)⟩
  conv => whnf
  refine ⟨fun _ => ?_, fun h => absurd h (by decide)⟩
  conv => whnf
  refine ⟨fun _ => ?_, fun h => absurd h (by decide)⟩
  conv => whnf
  refine ⟨fun _ => ?_, fun h => absurd h (by decide)⟩
  conv => whnf
  refine ⟨fun _ => ?_, fun h => absurd h (by decide)⟩
  conv => whnf
  first | refine xretk (has_spec (ii rfl)) ?_ | refine xret (has_spec (ii rfl)) ?_
  conv => whnf
  refine ⟨fun _ => ?_, fun h => absurd h (by decide)⟩
  conv => whnf
  first | refine xretk (has_spec (ii rfl)) ?_ | refine xret (has_spec (ii rfl)) ?_
  conv => whnf
  refine ⟨fun _ => ?_, fun h => absurd h (by decide)⟩
  conv => whnf
  first | refine xretk (order_spec u3.1 u5.1) ?_ | refine xret (order_spec u3.1 u5.1) ?_
  conv => whnf
  refine ⟨fun _ => ?_, fun h => absurd h (by decide)⟩
  conv => whnf
  refine xcall less_spec ?_
  rintro _ m' ⟨rfl, hs⟩
  first | refine ⟨fun _ h => (by cases h), ?_⟩ | skip
  conv => whnf
  refine ⟨?_, ?_⟩
  · rfl
  · exact (Mem.sub_set _ hb).trans hs
end Go.E.Ytdhojpepdgdblaa
