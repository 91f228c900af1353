/-
  A reader of bytes, plainly: no program in sight.
-/
import Derived.Test.YtkapdbbjgpofnaaWireP
namespace Go.E

abbrev RS := List Int × Int
def rTake (n : Nat) (s : RS) : List Int × RS :=
  if s.2 ≠ 0 then ([], s) else if s.1.length < n then ([], (s.1, 8)) else (s.1.take n, (s.1.drop n, 0))
def rMust (b : Bool) (s : RS) : RS := if s.2 = 0 ∧ b = false then (s.1, 3) else s
def beN (l : List Int) : Int := l.foldl (fun a c => 256 * a + c) 0
def hd0 (l : List Int) : Int := l.headD 0
def rNum (s : RS) : Int × RS :=
  let (h, s1) := rTake 1 s
  if h = [] then (0, s1) else
  let s2 := rMust (decide (hd0 h ≤ 8)) s1
  let (l, s3) := rTake (hd0 h).toNat s2
  let s4 := rMust (l.isEmpty || decide (0 < hd0 l)) s3
  (if s4.2 ≠ 0 then 0 else beN l, s4)
def rSmall (most : Int) (s : RS) : Int × RS :=
  let (n, s1) := rNum s
  let s2 := rMust (decide (0 ≤ most) && decide (n ≤ max most 0)) s1
  (if s2.2 ≠ 0 then 0 else n, s2)
def rInt (s : RS) : Int × RS :=
  let (n, s1) := rNum s
  let s2 := if n % 2 = 0 then rMust (decide (n / 2 ≤ 4611686018427387904)) s1 else rMust (decide (n / 2 < 4611686018427387904)) s1
  (if s2.2 ≠ 0 then 0 else if n % 2 = 1 then - (n / 2) - 1 else n / 2, s2)
def rText (most : Int) (s : RS) : List Int × RS :=
  let (k, s1) := rSmall most s
  rTake k.toNat s1
def rDigest (s : RS) : List Int × RS :=
  let (b, s1) := rTake 32 s
  (b ++ (List.replicate 32 0).drop b.length, s1)
def rNums : Nat → RS → List Int × RS
  | 0, s => ([], s)
  | k + 1, s => let (l, s1) := rNums k s; let (n, s2) := rNum s1; (l ++ [n], s2)
def rVec (s : RS) : List Int × RS :=
  let (l, s1) := rNums 8 s
  (if s1.2 ≠ 0 then List.replicate 8 0 else l, s1)

/-! ### what is known of it -/
def Byt (l : List Int) : Prop := ∀ x ∈ l, 0 ≤ x ∧ x < 256
theorem Byt.take {l : List Int} (h : Byt l) (n : Nat) : Byt (l.take n) := fun x hx => h x (List.mem_of_mem_take hx)
theorem Byt.drop {l : List Int} (h : Byt l) (n : Nat) : Byt (l.drop n) := fun x hx => h x (List.mem_of_mem_drop hx)
theorem Byt.nil : Byt [] := fun x hx => by cases hx
theorem Byt.append {a b : List Int} (ha : Byt a) (hb : Byt b) : Byt (a ++ b) := fun x hx => (List.mem_append.1 hx).elim (ha x) (hb x)
theorem rTake_byt {n : Nat} {s : RS} (h : Byt s.1) : Byt (rTake n s).1 ∧ Byt (rTake n s).2.1 := by
  unfold rTake; split
  · exact ⟨Byt.nil, h⟩
  · split
    · exact ⟨Byt.nil, h⟩
    · exact ⟨h.take n, h.drop n⟩
theorem rTake_len {n : Nat} {s : RS} : (rTake n s).1.length ≤ n := by
  unfold rTake; split
  · simp
  · split
    · simp
    · simp; omega
theorem rMust_fst {b : Bool} {s : RS} : (rMust b s).1 = s.1 := by unfold rMust; split <;> rfl
theorem rMust_byt {b : Bool} {s : RS} (h : Byt s.1) : Byt (rMust b s).1 := by rw [rMust_fst]; exact h
theorem beN_snoc (l : List Int) (c : Int) : beN (l ++ [c]) = 256 * beN l + c := by simp [beN]
theorem beN_acc : ∀ {l : List Int} {a : Int}, Byt l → 0 ≤ a → 0 ≤ l.foldl (fun a c => 256 * a + c) a ∧ l.foldl (fun a c => 256 * a + c) a < (a + 1) * 256 ^ l.length
  | [], a, _, h => by simp; omega
  | c :: l, a, hb, h => by
    have hc := hb c (by simp)
    have := beN_acc (l := l) (a := 256 * a + c) (fun x hx => hb x (by simp [hx])) (by omega)
    simp only [List.foldl_cons, List.length_cons]
    refine ⟨this.1, Int.lt_of_lt_of_le this.2 ?_⟩
    rw [Int.pow_succ, ← Int.mul_assoc, Int.mul_right_comm]
    exact Int.mul_le_mul_of_nonneg_right (by omega) (Int.le_of_lt (Int.pow_pos (by decide)))
theorem beN_bound {l : List Int} (h : Byt l) : 0 ≤ beN l ∧ beN l < 256 ^ l.length := by
  have := beN_acc (a := 0) h (by omega)
  simpa [beN] using this
theorem beN_U {l : List Int} (h : Byt l) (hl : l.length ≤ 8) : U64 (beN l) := by
  obtain ⟨h1, h2⟩ := beN_bound h
  refine ⟨h1, Int.lt_of_lt_of_le h2 ?_⟩
  have : (256 : Nat) ^ l.length ≤ 256 ^ 8 := Nat.pow_le_pow_right (by decide) hl
  have e : ((256 ^ l.length : Nat) : Int) = (256 : Int) ^ l.length := by simp
  omega
theorem beN_beB {n : Int} (h : U64 n) : beN (beB n) = n := by
  have h1 := beF_val 8 n.toNat h.lt
  have e : ∀ (l : List Nat) (a : Nat), (l.map (fun (x : Nat) => (x : Int))).foldl (fun a c => 256 * a + c) (a : Int) = ((l.foldl (fun a c => 256 * a + c) a : Nat) : Int) := by
    intro l
    induction l with
    | nil => intro a; rfl
    | cons x l ih => intro a; simp only [List.map_cons, List.foldl_cons]; rw [← ih]; simp
  have := e (beF 8 n.toNat) 0
  simp only [beN, beB]
  rw [show (0 : Int) = ((0 : Nat) : Int) from rfl, this, h1]
  have := h.1; omega
theorem rNum_err {s : RS} (h : s.2 ≠ 0) : rNum s = (0, s) := by simp [rNum, rTake, h]
theorem rMust_err {b : Bool} {s : RS} (h : s.2 ≠ 0) : rMust b s = s := by simp [rMust, h]
theorem rSmall_err {most : Int} {s : RS} (h : s.2 ≠ 0) : rSmall most s = (0, s) := by simp [rSmall, rNum_err h, rMust_err h, h]
theorem rInt_err {s : RS} (h : s.2 ≠ 0) : rInt s = (0, s) := by simp [rInt, rNum_err h, rMust_err h, h]
theorem rText_err {most : Int} {s : RS} (h : s.2 ≠ 0) : rText most s = ([], s) := by simp [rText, rSmall_err h, rTake, h]
theorem rNums_err {s : RS} (h : s.2 ≠ 0) : ∀ k, rNums k s = (List.replicate k 0, s)
  | 0 => rfl
  | k + 1 => by simp [rNums, rNums_err h k, rNum_err h, List.replicate_succ']
theorem rVec_err {s : RS} (h : s.2 ≠ 0) : rVec s = (List.replicate 8 0, s) := by simp [rVec, rNums_err h, h]
theorem rDigest_err {s : RS} (h : s.2 ≠ 0) : (rDigest s).2 = s := by simp [rDigest, rTake, h]
/-- a number, read back -/
theorem rNum_back {n : Int} (hn : U64 n) (t : List Int) : rNum (numB n ++ t, 0) = (n, (t, 0)) := by
  have h8 := beB_len n
  have e1 : rTake 1 (numB n ++ t, 0) = ([((beB n).length : Int)], (beB n ++ t, 0)) := by
    simp [rTake, numB]
  have e2 : rTake (beB n).length (beB n ++ t, 0) = (beB n, (t, 0)) := by simp [rTake]
  have e3 : ((beB n).isEmpty || decide (0 < hd0 (beB n))) = true := by
    cases hb : beB n with
    | nil => rfl
    | cons x r =>
      have hf := beF_head 8 n.toNat hn.lt
      have : 0 < x := by
        have hx : (beB n)[0]? = some x := by rw [hb]; rfl
        simp only [beB, List.getElem?_map, Option.map_eq_some_iff] at hx
        obtain ⟨y, h1, rfl⟩ := hx
        have := hf y h1; omega
      simp [hd0, this]
  have h8' : ((beB n).length : Int) ≤ 8 := by omega
  unfold rNum
  rw [e1]
  dsimp only
  rw [if_neg (by simp)]
  have hd : hd0 [((beB n).length : Int)] = (beB n).length := rfl
  have m1 : rMust (decide (((beB n).length : Int) ≤ 8)) (beB n ++ t, 0) = (beB n ++ t, 0) := by simp [rMust, h8']
  rw [hd, m1, Int.toNat_natCast, e2]
  dsimp only
  have m2 : rMust ((beB n).isEmpty || decide (0 < hd0 (beB n))) (t, 0) = (t, 0) := by rw [e3]; simp [rMust]
  rw [m2]
  simp [beN_beB hn]
/-- of less than a number there is none -/
theorem rNum_cut {n : Int} {t : List Int} (k : Nat) (hk : k < (numB n).length) (ht : t = (numB n).take k) : ∃ u, rNum (t, 0) = (0, (u, 8)) := by
  subst ht
  have h8 := beB_len n
  cases k with
  | zero => exact ⟨[], by simp [rNum, rTake]⟩
  | succ k =>
    have hk' : k < (beB n).length := by simpa [numB] using hk
    have e1 : rTake 1 ((numB n).take (k + 1), 0) = ([((beB n).length : Int)], ((beB n).take k, 0)) := by simp [rTake, numB]
    have h8' : ((beB n).length : Int) ≤ 8 := by omega
    have e2 : rTake (beB n).length ((beB n).take k, 0) = ([], ((beB n).take k, 8)) := by simp [rTake]; omega
    have hd : hd0 [((beB n).length : Int)] = (beB n).length := rfl
    have m1 : rMust (decide (((beB n).length : Int) ≤ 8)) ((beB n).take k, 0) = ((beB n).take k, 0) := by simp [rMust, h8']
    refine ⟨(beB n).take k, ?_⟩
    unfold rNum
    rw [e1]
    dsimp only
    rw [if_neg (by simp), hd, m1, Int.toNat_natCast, e2]
    dsimp only
    simp [rMust]
end Go.E
