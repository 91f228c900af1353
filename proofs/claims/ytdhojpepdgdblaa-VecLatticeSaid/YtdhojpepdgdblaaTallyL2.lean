/-
  The laws of tally, on: joins.
-/
import Derived.Test.YtdhojpepdgdblaaTallyL
namespace Go.E.Ytdhojpepdgdblaa
open Go.Proofs
set_option maxRecDepth 100000

theorem zip_comm : ∀ (u v : List Int), List.zipWith max u v = List.zipWith max v u
  | [], [] => rfl
  | [], _ :: _ => rfl
  | _ :: _, [] => rfl
  | a :: u, b :: v => by simp only [List.zipWith_cons_cons, zip_comm u v]; rw [Int.max_comm]
theorem zip_assoc : ∀ (u v w : List Int), List.zipWith max (List.zipWith max u v) w = List.zipWith max u (List.zipWith max v w)
  | [], _, _ => by simp
  | _ :: _, [], _ => by simp
  | _ :: _, _ :: _, [] => by simp
  | a :: u, b :: v, c :: w => by simp only [List.zipWith_cons_cons, zip_assoc u v w]; rw [Int.max_assoc]
theorem zip_self : ∀ (u : List Int), List.zipWith max u u = u
  | [] => rfl
  | a :: u => by simp only [List.zipWith_cons_cons, zip_self u]; rw [Int.max_self]
theorem zip_in : ∀ (u v : List Int), List.zipWith max (List.zipWith max u v) u = List.zipWith max u v
  | [], _ => by simp
  | _ :: _, [] => by simp
  | a :: u, b :: v => by simp only [List.zipWith_cons_cons, zip_in u v]; congr 1; omega
theorem zip_set : ∀ (u : List Int) (i : Nat) (x : Int), u.getD i 0 ≤ x → List.zipWith max u (u.set i x) = u.set i x
  | [], _, _, _ => rfl
  | a :: u, 0, x, h => by
    simp only [List.set_cons_zero, List.zipWith_cons_cons, zip_self]
    simp at h
    congr 1; omega
  | a :: u, i + 1, x, h => by
    simp only [List.set_cons_succ, List.zipWith_cons_cons, Int.max_self]
    rw [zip_set u i x (by simpa using h)]
/-- what Count answers holds the counter, if it answers OK -/
theorem countR_ok {u d : List Int} (hu : V8 u) (hd : V8 d) {node n : Int} (hn : I n) : ∃ a b e, countR u d node n = [cnt2 a b, i64 e] ∧ a.length = 8 ∧ b.length = 8 ∧ (e = 0 → List.zipWith max u a = a ∧ List.zipWith max d b = b) := by
  unfold countR
  split
  · exact ⟨_, _, _, rfl, rfl, rfl, by simp⟩
  · split
    · exact ⟨_, _, _, rfl, rfl, rfl, by simp⟩
    · refine ⟨_, _, _, rfl, by simp [hu.1], by simp [hd.1], fun _ => ⟨zip_set _ _ _ ?_, zip_set _ _ _ ?_⟩⟩
      · have := (ofUp_U hn).1; omega
      · have := (ofDown_U hn).1; omega
theorem tallyJoins_spec {m : Mem} {u d u' d' u2 d2 : List Int} {node n : Int} (hu : V8 u) (hd : V8 d) (hu' : V8 u') (hd' : V8 d') (hu2 : V8 u2) (hd2 : V8 d2) (hnode : I node) (hn : I n) :
    Spec Try.prog 5 [cnt2 u d, cnt2 u' d', cnt2 u2 d2, i64 node, i64 n] m fun r m' => r = [boolV true] ∧ Sub m m' := by
  obtain ⟨a, b, e, hc, la, lb, hle⟩ := countR_ok hu hd (node := node) hn
  have z1 := (hu.zip hu').1
  have z2 := (hd.zip hd').1
  refine en5 rfl ?_
  conv => whnf
  first | refine xretk (join_spec hu.1 hd.1 hu'.1 hd'.1) ?_ | refine xret (join_spec hu.1 hd.1 hu'.1 hd'.1) ?_
  conv => whnf
  first | refine xretk (join_spec hu'.1 hd'.1 hu.1 hd.1) ?_ | refine xret (join_spec hu'.1 hd'.1 hu.1 hd.1) ?_
  conv => whnf
  refine ⟨fun h => absurd h (by simp [eqLB, ceq, zip_comm u' u, zip_comm d' d]), fun _ => ?_⟩
  conv => whnf
  first | refine xretk (join_spec z1 z2 hu.1 hd.1) ?_ | refine xret (join_spec z1 z2 hu.1 hd.1) ?_
  conv => whnf
  refine ⟨fun h => absurd h (by simp [eqLB, ceq, zip_in]), fun _ => ?_⟩
  conv => whnf
  first | refine xretk (join_spec hu.1 hd.1 hu'.1 hd'.1) ?_ | refine xret (join_spec hu.1 hd.1 hu'.1 hd'.1) ?_
  conv => whnf
  first | refine xretk (join_spec z1 z2 hu2.1 hd2.1) ?_ | refine xret (join_spec z1 z2 hu2.1 hd2.1) ?_
  conv => whnf
  first | refine xretk (join_spec hu'.1 hd'.1 hu2.1 hd2.1) ?_ | refine xret (join_spec hu'.1 hd'.1 hu2.1 hd2.1) ?_
  conv => whnf
  first | refine xretk (join_spec hu.1 hd.1 (hu'.zip hu2).1 (hd'.zip hd2).1) ?_ | refine xret (join_spec hu.1 hd.1 (hu'.zip hu2).1 (hd'.zip hd2).1) ?_
  conv => whnf
  refine ⟨fun h => absurd h (by simp [eqLB, ceq, zip_assoc]), fun _ => ?_⟩
  conv => whnf
  first | refine xretk (join_spec hu.1 hd.1 hu.1 hd.1) ?_ | refine xret (join_spec hu.1 hd.1 hu.1 hd.1) ?_
  conv => whnf
  refine ⟨fun h => absurd h (by simp [eqLB, ceq, zip_self]), fun _ => ?_⟩
  conv => whnf
  first | refine xretk (Ret.cast (count_spec hu hd hn hnode) hc) ?_ | refine xret (Ret.cast (count_spec hu hd hn hnode) hc) ?_
  conv => whnf
  refine xcall alive5_spec ?_
  rintro _ m' ⟨rfl, hs⟩
  first | refine ⟨fun _ h => (by cases h), ?_⟩ | skip
  conv => whnf
  refine ⟨fun _ => ?_, fun h => absurd h (by simp [eqLB, ceq])⟩
  conv => whnf
  refine ⟨fun h => ?_, fun h => ?_⟩
  · conv => whnf
    exact ⟨rfl, hs⟩
  · have he : e = 0 := by simpa using h
    have q1 := (hle he).1
    have q2 := (hle he).2
    conv => whnf
    first | refine xretk (join_spec hu.1 hd.1 la lb) ?_ | refine xret (join_spec hu.1 hd.1 la lb) ?_
    conv => whnf
    refine ⟨?_, hs⟩
    simp [eqLB, q1, q2]
end Go.E.Ytdhojpepdgdblaa
