/-
  The laws of vec, on: the next dot.
-/
import Derived.Test.YtdhojpepdgdblaaVecL4
namespace Go.E.Ytdhojpepdgdblaa
open Go.Proofs
set_option maxRecDepth 100000

theorem next3 (v : List Int) (n : Int) : (isN n = false ∧ nextR v n = [dotV 0 0, i64 11]) ∨ (isN n = true ∧ getN v n = 18446744073709551615 ∧ nextR v n = [dotV 0 0, i64 13]) ∨ (isN n = true ∧ getN v n ≠ 18446744073709551615 ∧ nextR v n = [dotV n (getN v n + 1), i64 0]) := by
  unfold nextR
  split
  · exact .inl ⟨by assumption, rfl⟩
  · rename_i h
    have h' : isN n = true := by cases hb : isN n with
      | true => rfl
      | false => exact absurd hb h
    split
    · exact .inr (.inl ⟨h', by assumption, rfl⟩)
    · exact .inr (.inr ⟨h', by assumption, rfl⟩)
theorem getD_set (l : List Int) (i j : Nat) (x : Int) : (l.set i x).getD j 0 = if i = j ∧ i < l.length then x else l.getD j 0 := by
  simp only [List.getD_eq_getElem?_getD, List.getElem?_set]
  by_cases h : i = j
  · subst h
    by_cases h2 : i < l.length
    · simp [h2]
    · simp [h2]
  · simp [h]
set_option maxHeartbeats 4000000 in
theorem vecNext_spec {m : Mem} {v : List Int} {n : Int} (hv : V8 v) (hn : I n) : Spec Try.prog 10 [vecV v, i64 n] m fun r m' => r = [boolV true] ∧ Sub m m' := by
  have hn0 := hn.1
  have hn1 := hn.2
  have hl := hv.1
  rcases next3 v n with ⟨h1, h2⟩ | ⟨h1, hm, h2⟩ | ⟨h1, hm, h2⟩
  · refine en10 rfl ?_
    conv => whnf
    first | refine xretk (Ret.cast (next_spec hv hn) h2) ?_ | refine xret (Ret.cast (next_spec hv hn) h2) ?_
    conv => whnf
    refine ⟨fun _ => ?_, fun h => absurd h (by decide)⟩
    conv => whnf
    refine xcall alive3_spec ?_
    rintro _ m2 ⟨rfl, hs2⟩
    conv => whnf
    refine ⟨fun _ => ?_, fun h => absurd h (by decide)⟩
    conv => whnf
    refine ⟨fun _ => ?_, fun h => absurd h (by decide)⟩
    conv => whnf
    refine ⟨fun _ => ?_, fun h => absurd h (by decide)⟩
    conv => whnf
    exact ⟨rfl, hs2⟩
  · have hb := isN_iff.1 h1
    have hw : IntKind.i64.wrap (n - 1) = n - 1 := wi (by omega) (by omega)
    have hg : v.getD (n - 1).toNat 0 = 18446744073709551615 := by rw [getN, if_pos h1] at hm; exact hm
    refine en10 rfl ?_
    conv => whnf
    first | refine xretk (Ret.cast (next_spec hv hn) h2) ?_ | refine xret (Ret.cast (next_spec hv hn) h2) ?_
    conv => whnf
    refine ⟨fun _ => ?_, fun h => absurd h (by decide)⟩
    conv => whnf
    refine xcall alive3_spec ?_
    rintro _ m2 ⟨rfl, hs2⟩
    conv => whnf
    refine ⟨fun _ => ?_, fun h => absurd h (by decide)⟩
    conv => whnf
    refine ⟨fun _ => ?_, fun h => absurd h (by decide)⟩
    conv => whnf
    refine ⟨fun h => absurd h (by decide), fun _ => ?_⟩
    conv => whnf
    refine ⟨fun _ => ?_, fun h => absurd h (by simp; omega)⟩
    conv => whnf
    refine ⟨fun _ => ?_, fun h => absurd h (by simp; omega)⟩
    conv => whnf
    repeat (refine And.intro (by first | omega | (simp only [times, hw]; omega)) ?_; conv => whnf)
    refine ⟨?_, hs2⟩
    simp only [times, hw, hg]
    rfl
  · have hb := isN_iff.1 h1
    have hU := getN_U hv n
    have hg0 := hU.1
    have hg1 := hU.2
    have hg : getN v n = v.getD (n - 1).toNat 0 := by rw [getN, if_pos h1]
    have hwt : withN v n (getN v n + 1) = v.set (n - 1).toNat (getN v n + 1) := by
      rw [withN, if_pos h1, ← hg, show max (getN v n) (getN v n + 1) = getN v n + 1 by omega]
    have hwl : (withN v n (getN v n + 1)).length = 8 := by rw [hwt]; simp [hl]
    have hwg : ∀ i : Nat, (withN v n (getN v n + 1)).getD i 0 = if (n - 1).toNat = i then getN v n + 1 else v.getD i 0 := by
      intro i
      rw [hwt, getD_set]
      have : (n - 1).toNat < v.length := by omega
      simp only [this, and_true]
    have hgw : getN (withN v n (getN v n + 1)) n = getN v n + 1 := by
      rw [getN, if_pos h1, hwg, if_pos rfl]
    have hr : rightN n (getN v n + 1) = true := by
      simp only [rightN, h1, Bool.true_and, decide_eq_true_eq]; omega
    have c1 : covN (withN v n (getN v n + 1)) v = true := (covN_iff hwl hl).2 (fun i hi => by
      rw [hwg]
      split
      · rename_i e; rw [← e, ← hg]; omega
      · omega)
    have c2 : covN v (withN v n (getN v n + 1)) = false := by
      cases hb' : covN v (withN v n (getN v n + 1)) with
      | false => rfl
      | true =>
        have := (covN_iff hl hwl).1 hb' (n - 1).toNat (by omega)
        rw [hwg, if_pos rfl, ← hg] at this
        omega
    have ho : ordN (withN v n (getN v n + 1)) v = 1 := by rw [ordN, if_pos c1, if_neg (by rw [c2]; simp)]
    have hwu : IntKind.u64.wrap (getN v n + 1) = getN v n + 1 := wu (by omega) (by omega)
    have hwn := with_spec (m := m) (v := v) (k := getN v n + 1) hn
    generalize hW : withN v n (getN v n + 1) = w at hwl hwg hgw ho hwn
    generalize getN v n = g at hm hU hg0 hg1 hg hr hwu hwg h2 hgw hwn hW
    refine en10 rfl ?_
    conv => whnf
    first | refine xretk (Ret.cast (next_spec hv hn) h2) ?_ | refine xret (Ret.cast (next_spec hv hn) h2) ?_
    conv => whnf
    refine ⟨fun h => absurd h (by decide), fun _ => ?_⟩
    conv => whnf
    first | refine xretk (hwn) ?_ | refine xret (hwn) ?_
    conv => whnf
    refine .mk (ι := Nat) (fun i => 8 - i) (fun i => i ≤ 8) (fun i => [(1, .c (i64 n)), (2, .p 0 0), (5, .p 1 0), (7, .p 2 0), (8, .c (i64 i))])
      (fun i => [(33, [.ints .u64 8 v]), (60, [.one (.int .i64 n), .one (.int .u64 (g + 1))]), (33, [.ints .u64 8 w])]) (fun _ => m) 0 (by omega) ?_ ?_
    · conv => whnf
      repeat (refine And.intro (by first | with_reducible rfl | exact wi (by omega) (by omega) | rfl) ?_; conv => whnf)
      exact fun _ _ h => h
    intro i hi
    conv => whnf
    refine ⟨fun h => ?_, fun h => ?_⟩
    · have h' := of_decide_eq_true h
      have hwi : IntKind.i64.wrap ((i : Int) + 1) = i + 1 := wi (by omega) (by omega)
      conv => whnf
      refine ⟨fun h3 => ?_, fun h3 => ?_⟩
      · have h3' : (i : Int) + 1 ≠ n := by rw [hwi] at h3; simpa using h3
        have hwgi := hwg i
        rw [if_neg (by omega)] at hwgi
        conv => whnf
        repeat (refine And.intro (by first | omega | (simp only [times]; omega)) ?_; conv => whnf)
        refine ⟨fun h4 => ?_, fun h4 => ?_⟩
        · have h4' : v.getD i 0 ≠ w.getD i 0 := by have h5 : (v.getD i 0 != w.getD i 0) = true := h4; exact bne_iff_ne.1 h5
          exact absurd hwgi.symm h4'
        conv => whnf
        refine ⟨i + 1, by omega, by omega, ?_⟩
        conv => whnf
        repeat (refine And.intro (by first | with_reducible rfl | exact wi (by omega) (by omega) | rfl) ?_; conv => whnf)
        exact fun _ _ h => h
      · conv => whnf
        refine ⟨i + 1, by omega, by omega, ?_⟩
        conv => whnf
        repeat (refine And.intro (by first | with_reducible rfl | exact wi (by omega) (by omega) | rfl) ?_; conv => whnf)
        exact fun _ _ h => h
    · conv => whnf
      refine xcall alive3_spec ?_
      rintro _ m2 ⟨rfl, hs2⟩
      first | refine ⟨fun _ h => (by cases h), ?_⟩ | skip
      conv => whnf
      refine ⟨fun _ => ?_, fun h => absurd h (by decide)⟩
      conv => whnf
      first | refine xretk (has_spec hn) ?_ | refine xret (has_spec hn) ?_
      conv => whnf
      have hnh : (rightN n (g + 1) && decide (g + 1 ≤ getN v n)) = false := by
        have : getN v n = g := by rw [getN, if_pos h1]; exact hg.symm
        rw [this, decide_eq_false (by omega)]; simp
      refine ⟨fun _ => ?_, fun h => absurd h (by rw [hnh]; simp)⟩
      conv => whnf
      first | refine xretk (has_spec hn) ?_ | refine xret (has_spec hn) ?_
      conv => whnf
      have hh : (rightN n (g + 1) && decide (g + 1 ≤ getN w n)) = true := by
        rw [hr, hgw]; simp
      refine ⟨fun _ => ?_, fun h => absurd h (by rw [hh]; simp)⟩
      conv => whnf
      first | refine xretk (order_spec hwl hl) ?_ | refine xret (order_spec hwl hl) ?_
      conv => whnf
      refine ⟨fun _ => ?_, fun h => absurd h (by rw [ho]; simp)⟩
      conv => whnf
      first | refine xretk (get_spec hn) ?_ | refine xret (get_spec hn) ?_
      conv => whnf
      first | refine xretk (get_spec hn) ?_ | refine xret (get_spec hn) ?_
      conv => whnf
      refine ⟨?_, hs2⟩
      have : getN v n = g := by rw [getN, if_pos h1]; exact hg.symm
      rw [hgw, this, hwu]
      simp
end Go.E.Ytdhojpepdgdblaa
