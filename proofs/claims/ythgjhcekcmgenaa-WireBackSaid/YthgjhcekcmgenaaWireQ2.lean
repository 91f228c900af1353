/-
  What was written is read; of less there is none; plainly.
-/
import Derived.Test.YthgjhcekcmgenaaWireQ
namespace Go.E

theorem take_pre {α : Type} (a b : List α) (k : Nat) (h : a.length ≤ k) : (a ++ b).take k = a ++ b.take (k - a.length) := by
  rw [List.take_append, List.take_of_length_le h]
theorem take_short {α : Type} (a b : List α) (k : Nat) (h : k ≤ a.length) : (a ++ b).take k = a.take k := by
  rw [List.take_append_of_le_length h]
theorem vecB_cons (a : Int) (v : List Int) : vecB (a :: v) = numB a ++ vecB v := by simp [vecB]
theorem vecB_snoc (v : List Int) (a : Int) : vecB (v ++ [a]) = vecB v ++ numB a := by simp [vecB]
def I62 (n : Int) : Prop := -4611686018427387904 ≤ n ∧ n ≤ 4611686018427387904
theorem intU_U62 {n : Int} (h : I62 n) : U64 (intU n) := by
  have := h.1; have := h.2; unfold intU U64; split <;> omega
theorem rInt_back {n : Int} (h : I62 n) (t : List Int) : rInt (numB (intU n) ++ t, 0) = (n, (t, 0)) := by
  have h0 := h.1
  have h1 := h.2
  have e := rNum_back (intU_U62 h) t
  unfold rInt
  rw [e]
  dsimp only
  by_cases hn : 0 ≤ n
  · have e1 : intU n = 2 * n := by rw [intU, if_pos hn]
    have e2 : intU n % 2 = 0 := by omega
    have e3 : intU n / 2 = n := by omega
    rw [if_pos e2, e3]
    have : rMust (decide (n ≤ 4611686018427387904)) (t, 0) = (t, 0) := by simp [rMust, h1]
    rw [this, e2]; simp
  · have e1 : intU n = 2 * (-n - 1) + 1 := by rw [intU, if_neg hn]
    have e2 : intU n % 2 = 1 := by omega
    have e3 : intU n / 2 = -n - 1 := by omega
    rw [if_neg (show ¬ intU n % 2 = 0 by omega), e3]
    have : rMust (decide (-n - 1 < 4611686018427387904)) (t, 0) = (t, 0) := by
      have : -n - 1 < 4611686018427387904 := by omega
      simp [rMust, this]
    rw [this]; simp [e2]; omega
theorem rInt_cut {n : Int} {t : List Int} (k : Nat) (hk : k < (numB (intU n)).length) (ht : t = (numB (intU n)).take k) : (rInt (t, 0)).2.2 = 8 := by
  obtain ⟨u, e⟩ := rNum_cut k hk ht
  unfold rInt
  rw [e]
  simp [rMust]
theorem rSmall_back {n most : Int} (hn : U64 n) (h : n ≤ most) (t : List Int) : rSmall most (numB n ++ t, 0) = (n, (t, 0)) := by
  have e := rNum_back hn t
  have h0 := hn.1
  unfold rSmall
  rw [e]
  dsimp only
  have : (decide (0 ≤ most) && decide (n ≤ max most 0)) = true := by simp; omega
  rw [this]
  simp [rMust]
theorem rSmall_cut {n most : Int} {t : List Int} (k : Nat) (hk : k < (numB n).length) (ht : t = (numB n).take k) : ∃ u, rSmall most (t, 0) = (0, (u, 8)) := by
  obtain ⟨u, e⟩ := rNum_cut k hk ht
  refine ⟨u, ?_⟩
  unfold rSmall
  rw [e]
  simp [rMust]
theorem len_U {b : List Int} (h : b.length ≤ 1000000) : U64 (b.length : Int) := ⟨by omega, by omega⟩
theorem rText_back {b : List Int} {most : Int} (hb : b.length ≤ 1000000) (h : (b.length : Int) ≤ most) (t : List Int) : rText most (textB b ++ t, 0) = (b, (t, 0)) := by
  have e := rSmall_back (len_U hb) h (b ++ t)
  unfold rText
  rw [textB, List.append_assoc, e]
  simp [rTake]
theorem rText_cut {b : List Int} {most : Int} (hb : b.length ≤ 1000000) (h : (b.length : Int) ≤ most) (k : Nat) (hk : k < (textB b).length) : (rText most ((textB b).take k, 0)).2.2 = 8 := by
  unfold rText
  by_cases hk1 : k < (numB b.length).length
  · obtain ⟨u, e⟩ := rSmall_cut (n := b.length) (most := most) (t := (textB b).take k) k hk1 (by rw [textB, take_short _ _ _ (by omega)])
    rw [e]; simp [rTake]
  · have hl : (textB b).length = (numB b.length).length + b.length := by simp [textB]
    rw [textB, take_pre _ _ _ (by omega), rSmall_back (len_U hb) h]
    simp only [rTake]
    rw [if_neg (by simp), if_pos (by simp; omega)]
theorem rDigest_back {d : List Int} (hd : d.length = 32) (t : List Int) : rDigest (d ++ t, 0) = (d, (t, 0)) := by
  have e : rTake 32 (d ++ t, 0) = (d, (t, 0)) := by
    unfold rTake
    rw [if_neg (by simp), if_neg (by simp; omega)]
    simp [← hd]
  unfold rDigest
  rw [e]
  simp [hd]
theorem rDigest_cut {d : List Int} (hd : d.length = 32) (k : Nat) (hk : k < 32) : (rDigest (d.take k, 0)).2.2 = 8 := by
  have e : rTake 32 (d.take k, 0) = ([], (d.take k, 8)) := by
    unfold rTake
    rw [if_neg (by simp), if_pos (by simp; omega)]
  unfold rDigest
  rw [e]
theorem rNums_back : ∀ (k : Nat) (v t : List Int), (∀ x ∈ v, U64 x) → k ≤ v.length → rNums k (vecB v ++ t, 0) = (v.take k, (vecB (v.drop k) ++ t, 0))
  | 0, v, t, _, _ => by simp [rNums]
  | k + 1, v, t, hv, hk => by
    have ih := rNums_back k v t hv (by omega)
    have hd : v.drop k = v[k] :: v.drop (k + 1) := List.drop_eq_getElem_cons (by omega)
    unfold rNums
    rw [ih]
    dsimp only
    have e : vecB (v.drop k) ++ t = numB v[k] ++ (vecB (v.drop (k + 1)) ++ t) := by rw [hd, vecB_cons, List.append_assoc]
    rw [e, rNum_back (hv _ (by simp))]
    rw [List.take_succ_eq_append_getElem (show k < v.length by omega)]
theorem rVec_back {v : List Int} (hl : v.length = 8) (hv : ∀ x ∈ v, U64 x) (t : List Int) : rVec (vecB v ++ t, 0) = (v, (t, 0)) := by
  unfold rVec
  rw [rNums_back 8 v t hv (by omega)]
  simp [← hl, vecB]
theorem rNums_e8 : ∀ (j k : Nat) (s : RS), (rNums k s).2.2 = 8 → k ≤ j → (rNums j s).2.2 = 8
  | 0, k, s, h, hk => by obtain rfl : k = 0 := by omega
                         exact h
  | j + 1, k, s, h, hk => by
    by_cases e : k = j + 1
    · subst e; exact h
    · have ih := rNums_e8 j k s h (by omega)
      unfold rNums
      simp only
      rw [rNum_err (by rw [ih]; decide)]
      exact ih
theorem rNums_cut : ∀ (j : Nat) (v : List Int) (k : Nat), (∀ x ∈ v, U64 x) → v.length = j → k < (vecB v).length → (rNums j ((vecB v).take k, 0)).2.2 = 8 := by
  intro j
  induction j with
  | zero =>
    intro v k _ hl hk
    have : v = [] := List.eq_nil_of_length_eq_zero hl
    subst this; simp [vecB] at hk
  | succ j ih =>
    intro v k hv hl hk
    have hw : v = v.take j ++ [v[j]] := by rw [← List.take_succ_eq_append_getElem (by omega), List.take_of_length_le (by omega)]
    have hvb : vecB v = vecB (v.take j) ++ numB v[j] := by
      have := congrArg vecB hw
      rw [vecB_snoc] at this
      exact this
    by_cases hk1 : k < (vecB (v.take j)).length
    · have := ih (v.take j) k (fun x hx => hv x (List.mem_of_mem_take hx)) (by simp; omega) hk1
      refine rNums_e8 (j + 1) j _ ?_ (by omega)
      rw [hvb, take_short _ _ _ (by omega)]
      exact this
    · rw [hvb, take_pre _ _ _ (by omega)]
      rw [hvb, List.length_append] at hk
      unfold rNums
      have e := rNums_back j (v.take j) ((numB v[j]).take (k - (vecB (v.take j)).length)) (fun x hx => hv x (List.mem_of_mem_take hx)) (by simp; omega)
      rw [e]
      simp only
      have e2 : (v.take j).drop j = [] := List.drop_eq_nil_of_le (by simp; omega)
      rw [e2]
      obtain ⟨u, e3⟩ := rNum_cut (n := v[j]) (t := vecB [] ++ (numB v[j]).take (k - (vecB (v.take j)).length)) (k - (vecB (v.take j)).length) (by omega) (by simp [vecB])
      rw [e3]
theorem rVec_cut {v : List Int} (hl : v.length = 8) (hv : ∀ x ∈ v, U64 x) (k : Nat) (hk : k < (vecB v).length) : (rVec ((vecB v).take k, 0)).2.2 = 8 := by
  have := rNums_cut 8 v k hv hl hk
  unfold rVec
  simp only
  exact this
end Go.E
