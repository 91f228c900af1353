/-
  Sn2, WireP, WireQ, FrameP, Bits, Wire, WireD, Frame
-/
import Derived.Test.YtgjlajcebcmbaaaGreatDoorSnapLivesZ8
/-
  Names of snapshots, and their numbers, as the document has them.
-/
namespace Go.E.YtgjlajcebcmbaaaGreatDoor
open Go.Proofs
set_option maxRecDepth 100000
set_option maxHeartbeats 4000000 in
theorem refName_spec {m : Mem} {n : Nat} (hn : n ≤ 999999) : Spec Tryz.prog 11 [i64 n] m fun r m' => r = [.v (.string (Sn.nm n))] ∧ Sub m m' := by
  refine en11 rfl (goY ?_)
  conv => whnf
  refine .mk (ι := Nat) (fun i => 6 - i) (fun i mm => i ≤ 6 ∧ Sub m mm) (fun i => [(0, .c (i64 ((n / 10 ^ i : Nat) : Int))), (3, .c (.v (.string ⟨(Sn.dgs i n).toArray⟩))), (4, .c (i64 i))]) (fun _ => []) 0 ⟨by omega, Sub.refl _⟩ ?_ ?_
  · conv => whnf
    repeat (refine And.intro (by first | with_reducible rfl | (first | exact congrArg (Value.int _) (by rw [Nat.pow_zero, Nat.div_one])) | exact congrArg (Value.int _) (wi (by omega) (by omega)) | exact wi (by omega) (by omega) | rfl) ?_; conv => whnf)
    first | exact trivial | exact fun _ _ h => h
  rintro i mm ⟨hi, hs⟩
  conv => whnf
  refine ⟨fun h => ?_, fun h => ?_⟩
  · have h' := of_decide_eq_true h
    clear h
    have hc := Sn.dgs_cons i n
    have hdv : n / 10 ^ (i + 1) = n / 10 ^ i / 10 := by rw [Nat.pow_succ, Nat.div_div_eq_div_mul]
    have hz : n / 10 ^ i ≤ n := Nat.div_le_self _ _
    have hl := Sn.dgs_len i n
    generalize n / 10 ^ i = k at *
    have e1 : IntKind.u8.wrap (IntKind.i64.wrap (48 + ((k : Int)).tmod 10)) = ((48 + k % 10 : Nat) : Int) := by
      have : ((k : Int)).tmod 10 = ((k % 10 : Nat) : Int) := rfl
      rw [this, wi (by omega) (by omega), IntKind.wrap_u8]
      omega
    conv => whnf
    rw [e1]
    refine .mk _ (build1) ?_
    rintro _ _ ⟨b, hb, rfl, rfl⟩
    conv => whnf
    refine .inr ⟨[((48 + k % 10 : Nat) : Int)], rfl, _, _, rfl, (Lb.blk (Mem.set_same ..) rfl).range, ?_⟩
    have e2 : strOf [((48 + k % 10 : Nat) : Int)] = ⟨[Sn.dg k].toArray⟩ := by
      refine encB_inj ?_
      rw [encB, strOf_data]
      rfl
    rw [e2]
    conv => whnf
    refine ⟨by rw [mkB_size, mkB_size, hl]; simp only [List.length_cons, List.length_nil]; omega, ?_⟩
    rw [mkB_append]
    have e3 : IntKind.i64.wrap ((k : Int).tdiv 10) = ((k / 10 : Nat) : Int) := by
      have : (k : Int).tdiv 10 = ((k / 10 : Nat) : Int) := rfl
      rw [this, wi (by omega) (by omega)]
    conv => whnf
    refine ⟨i + 1, ⟨by omega, hs.trans (Mem.sub_set _ hb)⟩, by first | omega | (simp only; omega), ?_⟩
    rw [hc, hdv]
    conv => whnf
    repeat (refine And.intro (by first | with_reducible rfl | (first | exact congrArg (Value.int _) (iadd' (by omega)) | exact congrArg (Value.int _) e3) | exact congrArg (Value.int _) (wi (by omega) (by omega)) | exact wi (by omega) (by omega) | rfl) ?_; conv => whnf)
    first | exact trivial | exact fun _ _ h => h
  · have h' := of_decide_eq_false h
    obtain rfl : i = 6 := by omega
    conv => whnf
    have hl := Sn.dgs_len 6 n
    refine ⟨by rw [mkB_size (Sn.dgs 6 n), hl]; decide, ?_⟩
    conv => whnf
    refine ⟨?_, hs⟩
    rw [show (⟨#[115, 110, 97, 112, 45]⟩ : ByteArray) = ⟨Sn.pre.toArray⟩ from rfl, mkB_append, Sn.nm]
theorem take5 (s : ByteArray) : (s.extract 0 5).data.toList = s.data.toList.take 5 := by
  rw [ByteArray.data_extract, Array.toList_extract]
  simp [List.extract]
/-- a name is the prefix and six digits -/
theorem num_digits {s : ByteArray} (hl : s.size = 11) (hp : s.data.toList.take 5 = Sn.pre) (hd : ∀ c ∈ (chs s).drop 5, 48 ≤ c ∧ c ≤ 57) : Sn.nm (Sn.val ((chs s).drop 5)) = s ∧ Sn.val ((chs s).drop 5) < 1000000 := by
  have e : (chs s).drop 5 = (s.data.toList.drop 5).map UInt8.toNat := by rw [chs, List.map_drop]
  have h11 : s.data.toList.length = 11 := by simpa using hl
  have hlen : (s.data.toList.drop 5).length = 6 := by rw [List.length_drop, h11]
  rw [e] at hd ⊢
  obtain ⟨h1, h2⟩ := Sn.val_dgs 6 _ hlen fun c hc => hd _ (List.mem_map.2 ⟨c, hc, rfl⟩)
  refine ⟨?_, h2⟩
  refine encB_inj ?_
  rw [encB, encB, Sn.nm, h1, ← hp]
  simp
theorem num_yes {s : ByteArray} (h : s.size = 11) (hp : s.data.toList.take 5 = Sn.pre) (hd : ∀ c ∈ (chs s).drop 5, 48 ≤ c ∧ c ≤ 57) : numR s = [i64 (Sn.val ((chs s).drop 5) : Nat), boolV (decide (0 < (Sn.val ((chs s).drop 5) : Int)))] := by
  obtain ⟨h1, h2⟩ := num_digits h hp hd
  generalize Sn.val ((chs s).drop 5) = v at *
  by_cases h0 : v = 0
  · subst h0
    have : numOf s = none := numOf_none fun k h3 h4 h5 => by
      have := nm_inj (a := 0) (by omega) h4 (by rw [h1, h5])
      omega
    rw [numR, this]; rfl
  · rw [numR, ← h1, numOf_nm (by omega) (by omega), decide_eq_true (by omega)]; rfl
theorem num_no {s : ByteArray} (h : ¬ (s.size = 11 ∧ s.data.toList.take 5 = Sn.pre ∧ ∀ c ∈ (chs s).drop 5, 48 ≤ c ∧ c ≤ 57)) : numOf s = none := numOf_none fun k h1 h2 h3 => by
  refine h ?_
  subst h3
  have e : (Sn.nm k).data.toList = Sn.pre ++ Sn.dgs 6 k := by simp [Sn.nm]
  refine ⟨?_, by rw [e]; rfl, fun c hc => ?_⟩
  · rw [Sn.nm, mkB_size, List.length_append, Sn.dgs_len]; rfl
  · rw [chs, e, ← List.map_drop] at hc
    obtain ⟨x, hx, rfl⟩ := List.mem_map.1 hc
    have hx : x ∈ Sn.dgs 6 k := hx
    have key : ∀ (j n : Nat), ∀ x ∈ Sn.dgs j n, ∃ q, x = Sn.dg q := fun j => by
      induction j with
      | zero => intro n x hx; cases hx
      | succ j ih =>
        intro n x hx
        rcases List.mem_append.1 hx with hx | hx
        · exact ih _ _ hx
        · exact ⟨n, List.mem_singleton.1 hx⟩
    obtain ⟨q, rfl⟩ := key _ _ _ hx
    rw [Sn.dg_nat]; omega
set_option maxHeartbeats 4000000 in
theorem refNumber_spec {m : Mem} {s : ByteArray} (hs : s.size ≤ 1000000) : Ret Tryz.prog 10 [.v (.string s)] m (numR s) := by
  have hcl := chs_len s
  refine en10 rfl (goY ?_)
  conv => whnf
  refine ⟨fun h1 => ?_, fun h1 => ?_⟩
  · conv => whnf
    rw [numR, num_no (by intro h; simp [h.1] at h1)]
    exact ⟨rfl, rfl⟩
  have hl : s.size = 11 := by simp at h1; omega
  conv => whnf
  repeat (refine And.intro (by first | omega | (simp only [times]; omega)) ?_; conv => whnf)
  have ex5 : ((!(s.extract 0 (Int.toNat 5)).toList == (⟨#[115, 110, 97, 112, 45]⟩ : ByteArray).toList) = true) ↔ s.data.toList.take 5 ≠ Sn.pre := by
    have e1 : (s.extract 0 (Int.toNat 5)).toList = s.data.toList.take 5 := by rw [ByteArray.toList_eq]; exact take5 s
    have e2 : (⟨#[115, 110, 97, 112, 45]⟩ : ByteArray).toList = Sn.pre := by rw [ByteArray.toList_eq]; rfl
    rw [e1, e2]; simp
  refine ⟨fun h2 => ?_, fun h2 => ?_⟩
  · rw [ex5] at h2
    conv => whnf
    rw [numR, num_no (fun h => h2 h.2.1)]
    exact ⟨rfl, rfl⟩
  have hp : s.data.toList.take 5 = Sn.pre := Classical.not_not.1 fun h => by rw [ex5.2 h] at h2; cases h2
  clear ex5 h2 h1
  conv => whnf
  have hdl : ((chs s).drop 5).length = 6 := by rw [List.length_drop, hcl, hl]
  have hv6 : ∀ i, i ≤ 6 → (∀ c ∈ ((chs s).drop 5).take i, 48 ≤ c ∧ c ≤ 57) → Sn.val (((chs s).drop 5).take i) < 1000000 := fun i hi h => by
    have h1 := Sn.val_lt _ h
    have h2 : (10 : Nat) ^ (((chs s).drop 5).take i).length ≤ 10 ^ 6 := Nat.pow_le_pow_right (by decide) (by rw [List.length_take]; omega)
    omega
  refine .mk (ι := Nat) (fun i => 6 - i) (fun i mm => i ≤ 6 ∧ mm = m ∧ ∀ c ∈ ((chs s).drop 5).take i, 48 ≤ c ∧ c ≤ 57) (fun i => [(0, .c (.v (.string s))), (4, .c (i64 (Sn.val (((chs s).drop 5).take i) : Nat))), (5, .c (i64 ((5 + i : Nat) : Int)))]) (fun _ => []) 0 ⟨by omega, rfl, by simp⟩ ?_ ?_
  · conv => whnf
    repeat (refine And.intro (by first | with_reducible rfl | exact congrArg (Value.int _) (wi (by omega) (by omega)) | exact wi (by omega) (by omega) | rfl) ?_; conv => whnf)
    first | exact trivial | exact fun _ _ h => h
  rintro i mm ⟨hi, he, hd⟩
  subst mm
  have hv := hv6 i hi hd
  conv => whnf
  refine ⟨fun h => ?_, fun h => ?_⟩
  · have h' := of_decide_eq_true h
    have hlt : i < 6 := by omega
    clear h h'
    conv => whnf
    repeat (refine And.intro (by first | omega | (simp only [times]; omega)) ?_; conv => whnf)
    rw [Int.toNat_natCast, chsAt]
    have hli : i < ((chs s).drop 5).length := by omega
    have hget : ((chs s).drop 5)[i] = (chs s).getD (5 + i) 0 := by
      rw [List.getElem_drop, List.getD_eq_getElem?_getD, List.getElem?_eq_getElem (by omega)]; rfl
    have htk : ((chs s).drop 5).take (i + 1) = ((chs s).drop 5).take i ++ [(chs s).getD (5 + i) 0] := by rw [List.take_succ_eq_append_getElem hli, hget]
    have hc256 : (chs s).getD (5 + i) 0 < 256 := by rw [← chsAt]; exact UInt8.toNat_lt _
    have hmem : (chs s).getD (5 + i) 0 ∈ (chs s).drop 5 := by rw [← hget]; exact List.getElem_mem _
    generalize hce : (chs s).getD (5 + i) 0 = c at *
    have hno : ¬ (48 ≤ c ∧ c ≤ 57) → numR s = [i64 0, boolV false] := fun h => by
      rw [numR, num_no (fun h2 => h (h2.2.2 c hmem))]; rfl
    have hyes : 48 ≤ c ∧ c ≤ 57 → (∀ x ∈ ((chs s).drop 5).take (i + 1), 48 ≤ x ∧ x ≤ 57) ∧ Sn.val (((chs s).drop 5).take (i + 1)) = 10 * Sn.val (((chs s).drop 5).take i) + (c - 48) := fun h => by
      rw [htk, Sn.val_snoc]
      refine ⟨fun x hx => ?_, rfl⟩
      rcases List.mem_append.1 hx with hx | hx
      · exact hd x hx
      · rw [List.mem_singleton.1 hx]; exact h
    clear hget htk hmem hli
    generalize Sn.val (((chs s).drop 5).take i) = v at *
    conv => whnf
    refine ⟨fun h => ?_, fun h => ?_⟩
    · conv => whnf
      exact ⟨(hno (by have := of_decide_eq_true h; omega)).symm, rfl⟩
    have h1 := of_decide_eq_false h
    clear h
    conv => whnf
    repeat (refine And.intro (by first | omega | (simp only [times]; omega)) ?_; conv => whnf)
    rw [Int.toNat_natCast, chsAt, hce]
    conv => whnf
    refine ⟨fun h => ?_, fun h => ?_⟩
    · conv => whnf
      exact ⟨(hno (by have := of_decide_eq_true h; omega)).symm, rfl⟩
    have h2 := of_decide_eq_false h
    clear h
    obtain ⟨y1, y2⟩ := hyes (by omega)
    conv => whnf
    repeat (refine And.intro (by first | omega | (simp only [times]; omega)) ?_; conv => whnf)
    rw [Int.toNat_natCast, chsAt, hce]
    conv => whnf
    have ew : IntKind.i64.wrap (IntKind.i64.wrap (IntKind.i64.wrap (10 * (v : Int)) + IntKind.i64.wrap (c : Int)) - 48) = ((10 * v + (c - 48) : Nat) : Int) := by
      rw [wi (n := 10 * (v : Int)) (by omega) (by omega), wi (n := (c : Int)) (by omega) (by omega), wi (n := 10 * (v : Int) + (c : Int)) (by omega) (by omega), wi (by omega) (by omega)]; omega
    have ei : IntKind.i64.wrap (((5 + i : Nat) : Int) + 1) = ((5 + (i + 1) : Nat) : Int) := by rw [wi (by omega) (by omega)]; omega
    refine ⟨i + 1, ⟨by omega, rfl, y1⟩, by first | omega | (simp only; omega), ?_⟩
    rw [y2]
    conv => whnf
    repeat (refine And.intro (by first | with_reducible rfl | (first | exact congrArg (Value.int _) ew | exact congrArg (Value.int _) ei) | exact congrArg (Value.int _) (wi (by omega) (by omega)) | exact wi (by omega) (by omega) | rfl) ?_; conv => whnf)
    first | exact trivial | exact fun _ _ h => h
  · have h' := of_decide_eq_false h
    obtain rfl : i = 6 := by omega
    have ht : ((chs s).drop 5).take 6 = (chs s).drop 5 := by rw [← hdl, List.take_length]
    rw [ht] at hd ⊢
    conv => whnf
    rw [num_yes hl hp hd]
    exact ⟨rfl, rfl⟩
end Go.E.YtgjlajcebcmbaaaGreatDoor

/-
  Numbers as bytes, plainly: no program in sight.
-/
namespace Go.E

def beF : Nat → Nat → List Nat
  | 0, _ => []
  | f + 1, n => if n = 0 then [] else beF f (n / 256) ++ [n % 256]
theorem div_pow_succ (n i : Nat) : n / 256 ^ (i + 1) = n / 256 / 256 ^ i := by
  rw [Nat.pow_succ, Nat.mul_comm, Nat.div_div_eq_div_mul]
theorem beF_pos : ∀ (f n i : Nat), n < 256 ^ f → (0 < n / 256 ^ i ↔ i < (beF f n).length)
  | 0, n, i, h => by
    have : n = 0 := by simpa using h
    subst this; simp [beF]
  | f + 1, n, i, h => by
    by_cases hn : n = 0
    · subst hn; simp [beF]
    · simp only [beF, hn, if_false, List.length_append, List.length_singleton]
      cases i with
      | zero => simp; omega
      | succ i =>
        rw [div_pow_succ, beF_pos f (n / 256) i (by rw [Nat.pow_succ] at h; exact Nat.div_lt_of_lt_mul (by rw [Nat.mul_comm]; exact h))]
        omega
theorem beF_at : ∀ (f n j : Nat), j < (beF f n).length → (beF f n)[j]? = some (n / 256 ^ ((beF f n).length - 1 - j) % 256)
  | 0, n, j, h => by simp [beF] at h
  | f + 1, n, j, h => by
    by_cases hn : n = 0
    · subst hn; simp [beF] at h
    · simp only [beF, hn, if_false, List.length_append, List.length_singleton] at h ⊢
      by_cases hj : j < (beF f (n / 256)).length
      · rw [List.getElem?_append_left hj, beF_at f (n / 256) j hj]
        rw [show (beF f (n / 256)).length + 1 - 1 - j = (beF f (n / 256)).length - 1 - j + 1 by omega, div_pow_succ]
      · have : j = (beF f (n / 256)).length := by omega
        subst this
        simp
theorem beF_len : ∀ (f n : Nat), (beF f n).length ≤ f
  | 0, _ => by simp [beF]
  | f + 1, n => by
    by_cases hn : n = 0
    · subst hn; simp [beF]
    · simp only [beF, hn, if_false, List.length_append, List.length_singleton]
      have := beF_len f (n / 256); omega
theorem beF_lt : ∀ (f n : Nat), ∀ x ∈ beF f n, x < 256
  | 0, _, x, h => by simp [beF] at h
  | f + 1, n, x, h => by
    by_cases hn : n = 0
    · subst hn; simp [beF] at h
    · simp only [beF, hn, if_false, List.mem_append, List.mem_singleton] at h
      rcases h with h | h
      · exact beF_lt f _ x h
      · omega
theorem beF_val : ∀ (f n : Nat), n < 256 ^ f → (beF f n).foldl (fun a c => 256 * a + c) 0 = n
  | 0, n, h => by simp at h; subst h; simp [beF]
  | f + 1, n, h => by
    by_cases hn : n = 0
    · subst hn; simp [beF]
    · simp only [beF, hn, if_false, List.foldl_append, List.foldl_cons, List.foldl_nil]
      rw [beF_val f (n / 256) (by rw [Nat.pow_succ] at h; exact Nat.div_lt_of_lt_mul (by rw [Nat.mul_comm]; exact h))]
      omega
theorem beF_head : ∀ (f n : Nat), n < 256 ^ f → ∀ x, (beF f n)[0]? = some x → 0 < x := by
  intro f n h x hx
  have hl : 0 < (beF f n).length := (List.getElem?_eq_some_iff.1 hx).1
  rw [beF_at f n 0 hl] at hx
  have hx' : n / 256 ^ ((beF f n).length - 1 - 0) % 256 = x := by simpa using hx
  have h1 := (beF_pos f n ((beF f n).length - 1) h).2 (by omega)
  have h2 : n / 256 ^ ((beF f n).length - 1) < 256 := by
    have h3 : ¬ (0 < n / 256 ^ (beF f n).length) := fun h' => by have := (beF_pos f n _ h).1 h'; omega
    have h4 : n < 256 ^ (beF f n).length := by
      rcases Nat.lt_or_ge n (256 ^ (beF f n).length) with h' | h'
      · exact h'
      · exact absurd (Nat.div_pos h' (Nat.pow_pos (by decide))) h3
    refine Nat.div_lt_of_lt_mul ?_
    rw [← Nat.pow_succ]
    rw [show ((beF f n).length - 1).succ = (beF f n).length by omega]
    exact h4
  simp only [Nat.sub_zero] at hx'
  rw [Nat.mod_eq_of_lt h2] at hx'
  omega
/-- the bytes of a number, without and with their count ahead -/
def beB (n : Int) : List Int := (beF 8 n.toNat).map (fun (x : Nat) => (x : Int))
def numB (n : Int) : List Int := ((beB n).length : Int) :: beB n
def U64 (n : Int) : Prop := 0 ≤ n ∧ n < 18446744073709551616
theorem U64.lt {n : Int} (h : U64 n) : n.toNat < 256 ^ 8 := by have := h.1; have := h.2; omega
theorem beB_len (n : Int) : (beB n).length ≤ 8 := by simp only [beB, List.length_map]; exact beF_len 8 _
theorem fdiv_pow {n : Int} (h : U64 n) (i : Nat) : Int.fdiv n (2 ^ (8 * i)) = ((n.toNat / 256 ^ i : Nat) : Int) := by
  have e : (2 : Int) ^ (8 * i) = ((256 ^ i : Nat) : Int) := by
    rw [Int.pow_mul]; simp
  rw [e, Int.fdiv_eq_ediv_of_nonneg _ (Int.natCast_nonneg _)]
  have : n = (n.toNat : Int) := (Int.toNat_of_nonneg h.1).symm
  rw [this]; simp
theorem beB_at {n : Int} {j : Nat} (hj : j < (beB n).length) : (beB n)[j]? = some ((n.toNat / 256 ^ ((beB n).length - 1 - j) % 256 : Nat) : Int) := by
  simp only [beB, List.length_map] at hj ⊢
  rw [List.getElem?_map, beF_at 8 _ j hj]; rfl
theorem beB_pos {n : Int} (h : U64 n) (i : Nat) : (0 < n.toNat / 256 ^ i ↔ i < (beB n).length) := by
  simp only [beB, List.length_map]; exact beF_pos 8 _ i h.lt
theorem beB_byte (n : Int) : ∀ x ∈ beB n, 0 ≤ x ∧ x < 256 := by
  intro x hx
  simp only [beB, List.mem_map] at hx
  obtain ⟨y, hy, rfl⟩ := hx
  have := beF_lt 8 _ y hy
  omega
theorem numB_byte (n : Int) : ∀ x ∈ numB n, 0 ≤ x ∧ x < 256 := by
  intro x hx
  rcases List.mem_cons.1 hx with rfl | hx
  · have := beB_len n; omega
  · exact beB_byte n x hx
theorem numB_len (n : Int) : (numB n).length ≤ 9 := by have := beB_len n; simp only [numB, List.length_cons]; omega
/-- a whole number as a number -/
def intU (n : Int) : Int := if 0 ≤ n then 2 * n else 2 * (-n - 1) + 1
def textB (b : List Int) : List Int := numB b.length ++ b
def vecB (v : List Int) : List Int := (v.map numB).flatten
end Go.E

/-
  A reader of bytes, plainly: no program in sight.
-/
namespace Go.E

abbrev RS := List Int × Int
def rTake (n : Nat) (s : RS) : List Int × RS :=
  if s.2 ≠ 0 then ([], s) else if s.1.length < n then ([], (s.1, 8)) else (s.1.take n, (s.1.drop n, 0))
def rMust (b : Bool) (s : RS) : RS := if s.2 = 0 ∧ b = false then (s.1, 3) else s
def beN (l : List Int) : Int := l.foldl (fun a c => 256 * a + c) 0
def hd0 (l : List Int) : Int := l.headD 0
def rNum (s : RS) : Int × RS :=
  let (h, s1) := rTake 1 s
  if h = [] then (0, s1) else
  let s2 := rMust (decide (hd0 h ≤ 8)) s1
  let (l, s3) := rTake (hd0 h).toNat s2
  let s4 := rMust (l.isEmpty || decide (0 < hd0 l)) s3
  (if s4.2 ≠ 0 then 0 else beN l, s4)
def rSmall (most : Int) (s : RS) : Int × RS :=
  let (n, s1) := rNum s
  let s2 := rMust (decide (0 ≤ most) && decide (n ≤ max most 0)) s1
  (if s2.2 ≠ 0 then 0 else n, s2)
def rInt (s : RS) : Int × RS :=
  let (n, s1) := rNum s
  let s2 := if n % 2 = 0 then rMust (decide (n / 2 ≤ 4611686018427387904)) s1 else rMust (decide (n / 2 < 4611686018427387904)) s1
  (if s2.2 ≠ 0 then 0 else if n % 2 = 1 then - (n / 2) - 1 else n / 2, s2)
def rText (most : Int) (s : RS) : List Int × RS :=
  let (k, s1) := rSmall most s
  rTake k.toNat s1
def rDigest (s : RS) : List Int × RS :=
  let (b, s1) := rTake 32 s
  (b ++ (List.replicate 32 0).drop b.length, s1)
def rNums : Nat → RS → List Int × RS
  | 0, s => ([], s)
  | k + 1, s => let (l, s1) := rNums k s; let (n, s2) := rNum s1; (l ++ [n], s2)
def rVec (s : RS) : List Int × RS :=
  let (l, s1) := rNums 8 s
  (if s1.2 ≠ 0 then List.replicate 8 0 else l, s1)

/-! ### what is known of it -/
def Byt (l : List Int) : Prop := ∀ x ∈ l, 0 ≤ x ∧ x < 256
theorem Byt.take {l : List Int} (h : Byt l) (n : Nat) : Byt (l.take n) := fun x hx => h x (List.mem_of_mem_take hx)
theorem Byt.drop {l : List Int} (h : Byt l) (n : Nat) : Byt (l.drop n) := fun x hx => h x (List.mem_of_mem_drop hx)
theorem Byt.nil : Byt [] := fun x hx => by cases hx
theorem Byt.append {a b : List Int} (ha : Byt a) (hb : Byt b) : Byt (a ++ b) := fun x hx => (List.mem_append.1 hx).elim (ha x) (hb x)
theorem rTake_byt {n : Nat} {s : RS} (h : Byt s.1) : Byt (rTake n s).1 ∧ Byt (rTake n s).2.1 := by
  unfold rTake; split
  · exact ⟨Byt.nil, h⟩
  · split
    · exact ⟨Byt.nil, h⟩
    · exact ⟨h.take n, h.drop n⟩
theorem rTake_len {n : Nat} {s : RS} : (rTake n s).1.length ≤ n := by
  unfold rTake; split
  · simp
  · split
    · simp
    · simp; omega
theorem rMust_fst {b : Bool} {s : RS} : (rMust b s).1 = s.1 := by unfold rMust; split <;> rfl
theorem rMust_byt {b : Bool} {s : RS} (h : Byt s.1) : Byt (rMust b s).1 := by rw [rMust_fst]; exact h
theorem beN_snoc (l : List Int) (c : Int) : beN (l ++ [c]) = 256 * beN l + c := by simp [beN]
theorem beN_acc : ∀ {l : List Int} {a : Int}, Byt l → 0 ≤ a → 0 ≤ l.foldl (fun a c => 256 * a + c) a ∧ l.foldl (fun a c => 256 * a + c) a < (a + 1) * 256 ^ l.length
  | [], a, _, h => by simp; omega
  | c :: l, a, hb, h => by
    have hc := hb c (by simp)
    have := beN_acc (l := l) (a := 256 * a + c) (fun x hx => hb x (by simp [hx])) (by omega)
    simp only [List.foldl_cons, List.length_cons]
    refine ⟨this.1, Int.lt_of_lt_of_le this.2 ?_⟩
    rw [Int.pow_succ, ← Int.mul_assoc, Int.mul_right_comm]
    exact Int.mul_le_mul_of_nonneg_right (by omega) (Int.le_of_lt (Int.pow_pos (by decide)))
theorem beN_bound {l : List Int} (h : Byt l) : 0 ≤ beN l ∧ beN l < 256 ^ l.length := by
  have := beN_acc (a := 0) h (by omega)
  simpa [beN] using this
theorem beN_U {l : List Int} (h : Byt l) (hl : l.length ≤ 8) : U64 (beN l) := by
  obtain ⟨h1, h2⟩ := beN_bound h
  refine ⟨h1, Int.lt_of_lt_of_le h2 ?_⟩
  have : (256 : Nat) ^ l.length ≤ 256 ^ 8 := Nat.pow_le_pow_right (by decide) hl
  have e : ((256 ^ l.length : Nat) : Int) = (256 : Int) ^ l.length := by simp
  omega
theorem beN_beB {n : Int} (h : U64 n) : beN (beB n) = n := by
  have h1 := beF_val 8 n.toNat h.lt
  have e : ∀ (l : List Nat) (a : Nat), (l.map (fun (x : Nat) => (x : Int))).foldl (fun a c => 256 * a + c) (a : Int) = ((l.foldl (fun a c => 256 * a + c) a : Nat) : Int) := by
    intro l
    induction l with
    | nil => intro a; rfl
    | cons x l ih => intro a; simp only [List.map_cons, List.foldl_cons]; rw [← ih]; simp
  have := e (beF 8 n.toNat) 0
  simp only [beN, beB]
  rw [show (0 : Int) = ((0 : Nat) : Int) from rfl, this, h1]
  have := h.1; omega
theorem rNum_err {s : RS} (h : s.2 ≠ 0) : rNum s = (0, s) := by simp [rNum, rTake, h]
theorem rMust_err {b : Bool} {s : RS} (h : s.2 ≠ 0) : rMust b s = s := by simp [rMust, h]
theorem rSmall_err {most : Int} {s : RS} (h : s.2 ≠ 0) : rSmall most s = (0, s) := by simp [rSmall, rNum_err h, rMust_err h, h]
theorem rInt_err {s : RS} (h : s.2 ≠ 0) : rInt s = (0, s) := by simp [rInt, rNum_err h, rMust_err h, h]
theorem rText_err {most : Int} {s : RS} (h : s.2 ≠ 0) : rText most s = ([], s) := by simp [rText, rSmall_err h, rTake, h]
theorem rNums_err {s : RS} (h : s.2 ≠ 0) : ∀ k, rNums k s = (List.replicate k 0, s)
  | 0 => rfl
  | k + 1 => by simp [rNums, rNums_err h k, rNum_err h, List.replicate_succ']
theorem rVec_err {s : RS} (h : s.2 ≠ 0) : rVec s = (List.replicate 8 0, s) := by simp [rVec, rNums_err h, h]
theorem rDigest_err {s : RS} (h : s.2 ≠ 0) : (rDigest s).2 = s := by simp [rDigest, rTake, h]
/-- a number, read back -/
theorem rNum_back {n : Int} (hn : U64 n) (t : List Int) : rNum (numB n ++ t, 0) = (n, (t, 0)) := by
  have h8 := beB_len n
  have e1 : rTake 1 (numB n ++ t, 0) = ([((beB n).length : Int)], (beB n ++ t, 0)) := by
    simp [rTake, numB]
  have e2 : rTake (beB n).length (beB n ++ t, 0) = (beB n, (t, 0)) := by simp [rTake]
  have e3 : ((beB n).isEmpty || decide (0 < hd0 (beB n))) = true := by
    cases hb : beB n with
    | nil => rfl
    | cons x r =>
      have hf := beF_head 8 n.toNat hn.lt
      have : 0 < x := by
        have hx : (beB n)[0]? = some x := by rw [hb]; rfl
        simp only [beB, List.getElem?_map, Option.map_eq_some_iff] at hx
        obtain ⟨y, h1, rfl⟩ := hx
        have := hf y h1; omega
      simp [hd0, this]
  have h8' : ((beB n).length : Int) ≤ 8 := by omega
  unfold rNum
  rw [e1]
  dsimp only
  rw [if_neg (by simp)]
  have hd : hd0 [((beB n).length : Int)] = (beB n).length := rfl
  have m1 : rMust (decide (((beB n).length : Int) ≤ 8)) (beB n ++ t, 0) = (beB n ++ t, 0) := by simp [rMust, h8']
  rw [hd, m1, Int.toNat_natCast, e2]
  dsimp only
  have m2 : rMust ((beB n).isEmpty || decide (0 < hd0 (beB n))) (t, 0) = (t, 0) := by rw [e3]; simp [rMust]
  rw [m2]
  simp [beN_beB hn]
/-- of less than a number there is none -/
theorem rNum_cut {n : Int} {t : List Int} (k : Nat) (hk : k < (numB n).length) (ht : t = (numB n).take k) : ∃ u, rNum (t, 0) = (0, (u, 8)) := by
  subst ht
  have h8 := beB_len n
  cases k with
  | zero => exact ⟨[], by simp [rNum, rTake]⟩
  | succ k =>
    have hk' : k < (beB n).length := by simpa [numB] using hk
    have e1 : rTake 1 ((numB n).take (k + 1), 0) = ([((beB n).length : Int)], ((beB n).take k, 0)) := by simp [rTake, numB]
    have h8' : ((beB n).length : Int) ≤ 8 := by omega
    have e2 : rTake (beB n).length ((beB n).take k, 0) = ([], ((beB n).take k, 8)) := by simp [rTake]; omega
    have hd : hd0 [((beB n).length : Int)] = (beB n).length := rfl
    have m1 : rMust (decide (((beB n).length : Int) ≤ 8)) ((beB n).take k, 0) = ((beB n).take k, 0) := by simp [rMust, h8']
    refine ⟨(beB n).take k, ?_⟩
    unfold rNum
    rw [e1]
    dsimp only
    rw [if_neg (by simp), hd, m1, Int.toNat_natCast, e2]
    dsimp only
    simp [rMust]
end Go.E

/-
  Frames, plainly: the sum of bytes, records one behind the other, bursts.
-/
namespace Go.E
instance (l : List Int) : Decidable (Byt l) := inferInstanceAs (Decidable (∀ x ∈ l, 0 ≤ x ∧ x < 256))
namespace Fr
/-- one bit of a sum -/
def stp (s : Nat) : Nat := if s % 2 = 1 then (s / 2) ^^^ 3988292384 else s / 2
def stps : Nat → Nat → Nat
  | 0, s => s
  | k + 1, s => stps k (stp s)
def crc1 (s c : Nat) : Nat := stps 8 (s ^^^ c)
def crc (l : List Int) : Nat := (l.foldl (fun s c => crc1 s c.toNat) 4294967295) ^^^ 4294967295
theorem stp_lt {s : Nat} (h : s < 2 ^ 32) : stp s < 2 ^ 32 := by
  unfold stp
  have : s / 2 < 2 ^ 32 := by omega
  split
  · exact Nat.xor_lt_two_pow this (by decide)
  · exact this
theorem stps_lt : ∀ {k s : Nat}, s < 2 ^ 32 → stps k s < 2 ^ 32
  | 0, _, h => h
  | k + 1, _, h => stps_lt (k := k) (stp_lt h)
theorem stps_succ : ∀ (k s : Nat), stps (k + 1) s = stp (stps k s)
  | 0, _ => rfl
  | k + 1, s => by rw [stps, stps_succ k, stps]
theorem stps_add (j : Nat) : ∀ (k s : Nat), stps (j + k) s = stps k (stps j s)
  | 0, _ => rfl
  | k + 1, s => by rw [← Nat.add_assoc, stps_succ, stps_add j k, ← stps_succ]
theorem xor_mod2 (a b : Nat) : (a ^^^ b) % 2 = (a % 2 + b % 2) % 2 := by
  have h := Nat.xor_mod_two_pow (a := a) (b := b) (n := 1)
  rw [Nat.pow_one] at h
  rw [h]
  rcases Nat.mod_two_eq_zero_or_one a with ha | ha <;> rcases Nat.mod_two_eq_zero_or_one b with hb | hb <;> rw [ha, hb] <;> rfl
theorem xor_div2 (a b : Nat) : (a ^^^ b) / 2 = (a / 2) ^^^ (b / 2) := by
  have := @Nat.shiftRight_xor_distrib 1 a b
  simpa [Nat.shiftRight_eq_div_pow] using this
theorem stp_xor (a b : Nat) : stp (a ^^^ b) = stp a ^^^ stp b := by
  unfold stp
  rw [xor_mod2, xor_div2]
  rcases Nat.mod_two_eq_zero_or_one a with ha | ha <;> rcases Nat.mod_two_eq_zero_or_one b with hb | hb <;> simp only [ha, hb] <;> simp
  · rw [Nat.xor_assoc]
  · rw [Nat.xor_assoc, Nat.xor_assoc, Nat.xor_comm 3988292384 (b / 2)]
  · rw [Nat.xor_assoc (a / 2) 3988292384, ← Nat.xor_assoc 3988292384 (b / 2), Nat.xor_comm 3988292384 (b / 2), Nat.xor_assoc (b / 2), Nat.xor_self, Nat.xor_zero]
theorem stps_xor : ∀ (k a b : Nat), stps k (a ^^^ b) = stps k a ^^^ stps k b
  | 0, _, _ => rfl
  | k + 1, a, b => by rw [stps, stp_xor, stps_xor k, stps, stps]
theorem stps_even : ∀ (k a : Nat), stps k (a * 2 ^ k) = a
  | 0, a => by simp [stps]
  | k + 1, a => by
    have h : a * 2 ^ (k + 1) = (a * 2 ^ k) * 2 := by rw [Nat.pow_succ, Nat.mul_assoc]
    rw [stps, stp, h, if_neg (by omega), Nat.mul_div_cancel _ (by decide), stps_even k]
theorem stp_ne {s : Nat} (h : s < 2 ^ 32) (h0 : s ≠ 0) : stp s ≠ 0 := by
  unfold stp
  split
  · intro e
    have h1 : s / 2 = 3988292384 := by
      have : s / 2 ^^^ 3988292384 ^^^ 3988292384 = 0 ^^^ 3988292384 := by rw [e]
      rw [Nat.xor_assoc, Nat.xor_self, Nat.xor_zero, Nat.zero_xor] at this
      exact this
    omega
  · omega
theorem stps_ne : ∀ {k s : Nat}, s < 2 ^ 32 → s ≠ 0 → stps k s ≠ 0
  | 0, _, _, h0 => h0
  | k + 1, _, h, h0 => stps_ne (k := k) (stp_lt h) (stp_ne h h0)
/-- bytes as one number, the lowest first -/
def big : List Int → Nat
  | [] => 0
  | c :: l => c.toNat ^^^ (big l * 256)
theorem big_set {x : Nat} : ∀ {l : List Int} {k : Nat}, k < l.length → big (l.set k (((l.getD k 0).toNat ^^^ x : Nat) : Int)) = big l ^^^ (x * 256 ^ k)
  | [], _, h => by simp at h
  | c :: l, 0, _ => by
    simp only [List.set_cons_zero, big, List.getD_cons_zero, Int.toNat_natCast, Nat.pow_zero, Nat.mul_one]
    rw [Nat.xor_assoc, Nat.xor_comm x, ← Nat.xor_assoc]
  | c :: l, k + 1, h => by
    have ih := big_set (x := x) (l := l) (k := k) (by simpa using h)
    simp only [List.set_cons_succ, big, List.getD_cons_succ, ih]
    have e : (big l ^^^ x * 256 ^ k) * 256 = (big l * 256) ^^^ (x * 256 ^ (k + 1)) := by
      have := @Nat.shiftLeft_xor_distrib 8 (big l) (x * 256 ^ k)
      simp only [Nat.shiftLeft_eq] at this
      rw [show (256 : Nat) = 2 ^ 8 from rfl] at this ⊢
      rw [this, Nat.mul_assoc, ← Nat.pow_succ]
    rw [e, Nat.xor_assoc]
theorem crc_big : ∀ (l : List Int) (s : Nat), l.foldl (fun s c => crc1 s c.toNat) s = stps (8 * l.length) (s ^^^ big l)
  | [], s => by simp [big, stps]
  | c :: l, s => by
    rw [List.foldl_cons, crc_big l, List.length_cons, show 8 * (l.length + 1) = 8 + 8 * l.length by omega, stps_add, big, ← Nat.xor_assoc, stps_xor 8 (s ^^^ c.toNat), stps_even 8]
    rfl
/-- a burst turns the sum -/
theorem burst {b c : List Int} {d n : Nat} (hl : b.length = c.length) (hc : big c = big b ^^^ (d * 2 ^ n)) (hd : d < 2 ^ 32) (h0 : d ≠ 0) (hn : n ≤ 8 * b.length) : crc b ≠ crc c := by
  intro e
  have e : crc b ^^^ 4294967295 = crc c ^^^ 4294967295 := by rw [e]
  simp only [crc, Nat.xor_assoc, Nat.xor_self, Nat.xor_zero] at e
  rw [crc_big, crc_big, ← hl, hc, ← Nat.xor_assoc, stps_xor _ (4294967295 ^^^ big b)] at e
  have h1 : stps (8 * b.length) (d * 2 ^ n) = 0 := by
    have : stps (8 * b.length) (4294967295 ^^^ big b) ^^^ stps (8 * b.length) (4294967295 ^^^ big b) = stps (8 * b.length) (4294967295 ^^^ big b) ^^^ (stps (8 * b.length) (4294967295 ^^^ big b) ^^^ stps (8 * b.length) (d * 2 ^ n)) := by rw [← e]
    rw [Nat.xor_self, ← Nat.xor_assoc, Nat.xor_self, Nat.zero_xor] at this
    exact this.symm
  rw [show 8 * b.length = n + (8 * b.length - n) by omega, stps_add, stps_even] at h1
  exact stps_ne hd h0 h1
theorem fold_lt : ∀ {l : List Int} {s : Nat}, s < 2 ^ 32 → Byt l → l.foldl (fun s c => crc1 s c.toNat) s < 2 ^ 32
  | [], _, h, _ => h
  | c :: l, s, h, hb => fold_lt (l := l) (stps_lt (Nat.xor_lt_two_pow h (by have := hb c (by simp); omega))) fun x hx => hb x (by simp [hx])
theorem crc_lt {l : List Int} (hb : Byt l) : crc l < 2 ^ 32 := Nat.xor_lt_two_pow (fold_lt (by decide) hb) (by decide)
/-! ### records -/
def four (s : Nat) : List Int := [((s % 256 : Nat) : Int), ((s / 256 % 256 : Nat) : Int), ((s / 65536 % 256 : Nat) : Int), ((s / 16777216 % 256 : Nat) : Int)]
theorem four_byt (s : Nat) : Byt (four s) := by
  intro x hx
  simp only [four, List.mem_cons, List.not_mem_nil, or_false] at hx
  rcases hx with rfl | rfl | rfl | rfl <;> omega
def wr (r : List Int) : List Int := numB (r.length : Int) ++ r ++ four (crc r)
def isRec (n : Nat) : Bool := decide (1 ≤ n) && decide (n ≤ 20000)
/-- the record that bytes begin with, how many its frame has, and the fault -/
def next (b : List Int) : List Int × Nat × Int :=
  let s := rSmall 20000 (b, 0)
  if s.2.2 = 8 then ([], 0, 0) else if s.2.2 ≠ 0 ∨ s.1 = 0 then ([], 0, 3) else
  let at' := (numB s.1).length
  let n := s.1.toNat
  if (b.length : Int) - at' < n + 4 then ([], 0, 0) else
  let d := (b.drop at').take n
  if four (crc d) = (b.drop (at' + n)).take 4 then (d, at' + n + 4, 0) else ([], 0, 9)
/-- as many records as come, and where, and the fault -/
def read : Nat → List Int → List (List Int) × Nat × Int
  | 0, _ => ([], 0, 0)
  | f + 1, b => let (d, n, e) := next b; if 0 < n then let (l, k, e') := read f (b.drop n); (d :: l, n + k, e') else ([], 0, e)
theorem numB_pos (n : Int) : 0 < (numB n).length := by simp [numB]
theorem next_le (b : List Int) : (next b).2.1 ≤ b.length := by
  unfold next
  dsimp only
  split
  · simp
  · split
    · simp
    · split
      · simp
      · split
        · simp only; omega
        · simp
theorem small_back {n : Nat} (h : n ≤ 20000) (t : List Int) : rSmall 20000 (numB (n : Int) ++ t, 0) = ((n : Int), (t, 0)) := by
  have h1 := rNum_back (n := (n : Int)) ⟨by omega, by omega⟩ t
  unfold rSmall
  rw [h1]
  dsimp only
  have : (decide ((0 : Int) ≤ 20000) && decide ((n : Int) ≤ max 20000 0)) = true := by simp; omega
  rw [this]; simp [rMust]
theorem small_cut {n : Nat} (h : n ≤ 20000) (k : Nat) (hk : k < (numB (n : Int)).length) : (rSmall 20000 ((numB (n : Int)).take k, 0)).2.2 = 8 := by
  obtain ⟨u, hu⟩ := rNum_cut (n := (n : Int)) k hk rfl
  unfold rSmall
  rw [hu]
  simp [rMust]
theorem next_back {r : List Int} (h : isRec r.length = true) (t : List Int) : next (wr r ++ t) = (r, (wr r).length, 0) := by
  have h' : 1 ≤ r.length ∧ r.length ≤ 20000 := by simpa [isRec] using h
  have e : wr r ++ t = numB (r.length : Int) ++ (r ++ (four (crc r) ++ t)) := by simp [wr]
  unfold next
  dsimp only
  rw [e, small_back h'.2, if_neg (by simp), if_neg (fun hh => hh.elim (fun h => h rfl) fun h => by have : (r.length : Int) = 0 := h; omega), Int.toNat_natCast]
  have hl : (wr r).length = (numB (r.length : Int)).length + r.length + 4 := by simp [wr, four]; omega
  rw [if_neg (by simp [four]; omega)]
  have d1 : (numB (r.length : Int) ++ (r ++ (four (crc r) ++ t))).drop (numB (r.length : Int)).length = r ++ (four (crc r) ++ t) := by simp
  have d2 : (numB (r.length : Int) ++ (r ++ (four (crc r) ++ t))).drop ((numB (r.length : Int)).length + r.length) = four (crc r) ++ t := by
    rw [← List.drop_drop, d1]; simp
  rw [d1, d2]
  have t1 : (r ++ (four (crc r) ++ t)).take r.length = r := by simp
  have t2 : (four (crc r) ++ t).take 4 = four (crc r) := by simp [four]
  rw [t1, t2, if_pos rfl, hl]
theorem next_cut {r : List Int} (h : isRec r.length = true) {k : Nat} (hk : k < (wr r).length) : next ((wr r).take k) = ([], 0, 0) := by
  have h' : 1 ≤ r.length ∧ r.length ≤ 20000 := by simpa [isRec] using h
  have hl : (wr r).length = (numB (r.length : Int)).length + r.length + 4 := by simp [wr, four]; omega
  have e : wr r = numB (r.length : Int) ++ (r ++ four (crc r)) := by simp [wr]
  unfold next
  dsimp only
  by_cases hn : k < (numB (r.length : Int)).length
  · have : (wr r).take k = (numB (r.length : Int)).take k := by rw [e, List.take_append_of_le_length (by omega)]
    rw [this, small_cut h'.2 k hn, if_pos rfl]
  · have : (wr r).take k = numB (r.length : Int) ++ (r ++ four (crc r)).take (k - (numB (r.length : Int)).length) := by
      rw [e, List.take_append, List.take_of_length_le (by omega)]
    have hlen : ((wr r).take k).length = k := by simp; omega
    have hs := small_back h'.2 ((r ++ four (crc r)).take (k - (numB (r.length : Int)).length))
    rw [← this] at hs
    rw [hs, if_neg (by simp), if_neg (fun hh => hh.elim (fun h => h rfl) fun h => by have : (r.length : Int) = 0 := h; omega), if_pos (by rw [hlen]; show (k : Int) - ((numB (r.length : Int)).length : Nat) < (((r.length : Int)).toNat : Nat) + 4; omega)]
theorem next_nil : next [] = ([], 0, 0) := by
  have := @small_cut 0 (by decide) 0 (by simp [numB])
  unfold next
  dsimp only
  rw [List.take_zero] at this
  rw [if_pos this]
/-- records, one behind the other -/
def cat (l : List (List Int)) : List Int := (l.map wr).flatten
/-- how many of them are whole, and where they end, of the first k bytes -/
def whole : List (List Int) → Nat → Nat × Nat
  | [], _ => (0, 0)
  | r :: l, k => if (wr r).length ≤ k then let (a, b) := whole l (k - (wr r).length); (a + 1, (wr r).length + b) else (0, 0)
theorem wr_pos (r : List Int) : 0 < (wr r).length := by have := numB_pos (r.length : Int); simp only [wr, List.length_append]; omega
theorem read_cut : ∀ {l : List (List Int)} {k f : Nat}, (∀ r ∈ l, isRec r.length = true) → (whole l k).1 < f → read f ((cat l).take k) = (l.take (whole l k).1, (whole l k).2, 0)
  | [], k, f + 1, _, _ => by simp [cat, read, next_nil, whole]
  | r :: l, k, f + 1, h, hf => by
    have hr := h r (by simp)
    have hc : cat (r :: l) = wr r ++ cat l := by simp [cat]
    have hp := wr_pos r
    unfold whole at hf ⊢
    by_cases hk : (wr r).length ≤ k
    · have e : (cat (r :: l)).take k = wr r ++ (cat l).take (k - (wr r).length) := by
        rw [hc, List.take_append, List.take_of_length_le hk]
      rw [if_pos hk] at hf
      have ih := read_cut (l := l) (k := k - (wr r).length) (f := f) (fun r hr => h r (by simp [hr])) (by simp only at hf; omega)
      rw [if_pos hk, read, e, next_back hr]
      dsimp only
      rw [if_pos hp]
      have : (wr r ++ (cat l).take (k - (wr r).length)).drop (wr r).length = (cat l).take (k - (wr r).length) := by simp
      rw [this, ih]
      simp
    · have e : (cat (r :: l)).take k = (wr r).take k := by
        rw [hc, List.take_append_of_le_length (by omega)]
      rw [if_neg hk, read, e, next_cut hr (by omega)]
      simp
theorem whole_few : ∀ {l : List (List Int)} {k : Nat}, (whole l k).1 ≤ k
  | [], _ => by simp [whole]
  | r :: l, k => by
    have ih := whole_few (l := l) (k := k - (wr r).length)
    have hp := wr_pos r
    unfold whole
    split
    · simp only; omega
    · simp
/-- the first i bits, taken one by one -/
def bits (d : Nat) : Nat → Nat
  | 0 => 0
  | i + 1 => if d / 2 ^ i % 2 = 1 then bits d i ^^^ 2 ^ i else bits d i
theorem bits_test (d : Nat) : ∀ (i j : Nat), (bits d i).testBit j = (decide (j < i) && d.testBit j)
  | 0, j => by simp [bits]
  | i + 1, j => by
    have ht : d.testBit i = decide (d / 2 ^ i % 2 = 1) := by rw [Nat.testBit_eq_decide_div_mod_eq]
    unfold bits
    split
    · rename_i h
      rw [Nat.testBit_xor, bits_test d i j, Nat.testBit_two_pow]
      by_cases e : i = j
      · subst e
        rw [decide_eq_true h] at ht
        simp [ht]
      · have : (j < i + 1) ↔ (j < i) := by omega
        simp [e, this]
    · rename_i h
      rw [bits_test d i j]
      by_cases e : i = j
      · subst e
        rw [decide_eq_false h] at ht
        simp [ht]
      · have : (j < i + 1) ↔ (j < i) := by omega
        simp [this]
theorem bits_all {d : Nat} (h : d < 2 ^ 32) : bits d 32 = d := by
  refine Nat.eq_of_testBit_eq fun j => ?_
  rw [bits_test]
  by_cases hj : j < 32
  · simp [hj]
  · have : d.testBit j = false := Nat.testBit_lt_two_pow (Nat.lt_of_lt_of_le h (Nat.pow_le_pow_right (by decide) (by omega)))
    simp [this]
theorem bits_xor {d i n : Nat} (h : d / 2 ^ i % 2 = 1) : bits d (i + 1) * 2 ^ n = (bits d i * 2 ^ n) ^^^ (2 ^ ((n + i) % 8) * 256 ^ ((n + i) / 8)) := by
  have e : 2 ^ ((n + i) % 8) * 256 ^ ((n + i) / 8) = 2 ^ i * 2 ^ n := by
    rw [show (256 : Nat) = 2 ^ 8 from rfl, ← Nat.pow_mul, ← Nat.pow_add, ← Nat.pow_add]; congr 1; omega
  rw [e, bits, if_pos h]
  have := @Nat.shiftLeft_xor_distrib n (bits d i) (2 ^ i)
  simpa only [Nat.shiftLeft_eq] using this
theorem bits_same {d i : Nat} (h : ¬ d / 2 ^ i % 2 = 1) : bits d (i + 1) = bits d i := by rw [bits, if_neg h]
/-! ### where frames end -/
theorem cat_append (a b : List (List Int)) : cat (a ++ b) = cat a ++ cat b := by simp [cat]
theorem whole_all : ∀ {l : List (List Int)} {k : Nat}, (cat l).length ≤ k → whole l k = (l.length, (cat l).length)
  | [], k, _ => by simp [whole, cat]
  | r :: l, k, h => by
    have e : (cat (r :: l)).length = (wr r).length + (cat l).length := by simp [cat]
    unfold whole
    rw [if_pos (by omega), whole_all (l := l) (k := k - (wr r).length) (by omega), e]
    simp
theorem whole_snoc : ∀ {l : List (List Int)} {r : List Int} {k : Nat}, whole (l ++ [r]) k = if (cat (l ++ [r])).length ≤ k then (l.length + 1, (cat (l ++ [r])).length) else whole l k
  | [], r, k => by
    have e : (cat ([] ++ [r])).length = (wr r).length := by simp [cat]
    rw [e]
    simp only [List.nil_append, whole, List.length_nil]
    split <;> simp
  | q :: l, r, k => by
    have ih := whole_snoc (l := l) (r := r) (k := k - (wr q).length)
    have e : (cat (q :: l ++ [r])).length = (wr q).length + (cat (l ++ [r])).length := by simp [cat]
    rw [e]
    simp only [List.cons_append, whole, ih]
    by_cases h1 : (wr q).length ≤ k
    · rw [if_pos h1, if_pos h1]
      by_cases h2 : (wr q).length + (cat (l ++ [r])).length ≤ k
      · rw [if_pos h2, if_pos (by omega)]; simp
      · rw [if_neg h2, if_neg (by omega)]
    · rw [if_neg h1, if_neg h1, if_neg (by omega)]
theorem whole_le : ∀ {l : List (List Int)} {k : Nat}, (whole l k).1 ≤ l.length
  | [], _ => by simp [whole]
  | r :: l, k => by
    have := whole_le (l := l) (k := k - (wr r).length)
    unfold whole
    split
    · simp only [List.length_cons]; omega
    · simp
theorem cat_byt : ∀ {l : List (List Int)}, (∀ r ∈ l, Byt r) → Byt (cat l)
  | [], _ => by intro x hx; simp [cat] at hx
  | r :: l, h => by
    have e : cat (r :: l) = wr r ++ cat l := by simp [cat]
    rw [e]
    refine Byt.append (Byt.append (Byt.append (numB_byte _) (h r (by simp))) (four_byt _)) (cat_byt fun q hq => h q (by simp [hq]))
end Fr
end Go.E

/-
  Bits of numbers, plainly.
-/
namespace Go.E
theorem ofInt_nat (w a : Nat) : BitVec.ofInt w (a : Int) = BitVec.ofNat w a := by simp
theorem toNat_ofInt {w a : Nat} (h : a < 2 ^ w) : (BitVec.ofInt w (a : Int)).toNat = a := by
  rw [ofInt_nat, BitVec.toNat_ofNat, Nat.mod_eq_of_lt h]
theorem or_u64 {a b : Nat} (ha : a < 2 ^ 64) (hb : b < 2 ^ 64) : bitsOf .or .u64 a b = ((a ||| b : Nat) : Int) := by
  have h := Nat.or_lt_two_pow ha hb
  show IntKind.u64.wrap ((BitVec.ofInt 64 a ||| BitVec.ofInt 64 b).toNat : Int) = _
  rw [BitVec.toNat_or, toNat_ofInt ha, toNat_ofInt hb, wu (by omega) (by omega)]
theorem and_u64 {a b : Nat} (ha : a < 2 ^ 64) (hb : b < 2 ^ 64) : bitsOf .and .u64 a b = ((a &&& b : Nat) : Int) := by
  have h := Nat.and_lt_two_pow a hb
  show IntKind.u64.wrap ((BitVec.ofInt 64 a &&& BitVec.ofInt 64 b).toNat : Int) = _
  rw [BitVec.toNat_and, toNat_ofInt ha, toNat_ofInt hb, wu (by omega) (by omega)]
theorem xor_u64 {a b : Nat} (ha : a < 2 ^ 64) (hb : b < 2 ^ 64) : bitsOf .xor .u64 a b = ((a ^^^ b : Nat) : Int) := by
  have h := Nat.xor_lt_two_pow ha hb
  show IntKind.u64.wrap ((BitVec.ofInt 64 a ^^^ BitVec.ofInt 64 b).toNat : Int) = _
  rw [BitVec.toNat_xor, toNat_ofInt ha, toNat_ofInt hb, wu (by omega) (by omega)]
theorem wu32 {n : Int} (h0 : 0 ≤ n) (h1 : n < 4294967296) : IntKind.u32.wrap n = n := by rw [IntKind.wrap_u32, Int.emod_eq_of_lt h0 h1]
theorem wu8 {n : Int} (h0 : 0 ≤ n) (h1 : n < 256) : IntKind.u8.wrap n = n := by rw [IntKind.wrap_u8, Int.emod_eq_of_lt h0 h1]
theorem or_u32 {a b : Nat} (ha : a < 2 ^ 32) (hb : b < 2 ^ 32) : bitsOf .or .u32 a b = ((a ||| b : Nat) : Int) := by
  have h := Nat.or_lt_two_pow ha hb
  show IntKind.u32.wrap ((BitVec.ofInt 32 a ||| BitVec.ofInt 32 b).toNat : Int) = _
  rw [BitVec.toNat_or, toNat_ofInt ha, toNat_ofInt hb, wu32 (by omega) (by omega)]
theorem and_u32 {a b : Nat} (ha : a < 2 ^ 32) (hb : b < 2 ^ 32) : bitsOf .and .u32 a b = ((a &&& b : Nat) : Int) := by
  have h := Nat.and_lt_two_pow a hb
  show IntKind.u32.wrap ((BitVec.ofInt 32 a &&& BitVec.ofInt 32 b).toNat : Int) = _
  rw [BitVec.toNat_and, toNat_ofInt ha, toNat_ofInt hb, wu32 (by omega) (by omega)]
theorem xor_u32 {a b : Nat} (ha : a < 2 ^ 32) (hb : b < 2 ^ 32) : bitsOf .xor .u32 a b = ((a ^^^ b : Nat) : Int) := by
  have h := Nat.xor_lt_two_pow ha hb
  show IntKind.u32.wrap ((BitVec.ofInt 32 a ^^^ BitVec.ofInt 32 b).toNat : Int) = _
  rw [BitVec.toNat_xor, toNat_ofInt ha, toNat_ofInt hb, wu32 (by omega) (by omega)]
theorem xor_u8 {a b : Nat} (ha : a < 2 ^ 8) (hb : b < 2 ^ 8) : bitsOf .xor .u8 a b = ((a ^^^ b : Nat) : Int) := by
  have h := Nat.xor_lt_two_pow ha hb
  show IntKind.u8.wrap ((BitVec.ofInt 8 a ^^^ BitVec.ofInt 8 b).toNat : Int) = _
  rw [BitVec.toNat_xor, toNat_ofInt ha, toNat_ofInt hb, wu8 (by omega) (by omega)]
/-- low bits below, the rest above -/
theorem or_low {a c : Nat} (k : Nat) (hc : c < 2 ^ k) : (a * 2 ^ k) ||| c = a * 2 ^ k + c := by
  rw [Nat.mul_comm, Nat.two_pow_add_eq_or_of_lt hc]
/-- all bits turned -/
theorem not_i64 {n : Int} (h0 : -9223372036854775808 ≤ n) (h1 : n ≤ 9223372036854775807) : bitsOf .xor .i64 (if IntKind.i64.signed = true then -1 else IntKind.i64.max) n = -n - 1 := by
  show IntKind.i64.wrap ((BitVec.ofInt 64 (-1) ^^^ BitVec.ofInt 64 n).toNat : Int) = _
  have e : BitVec.ofInt 64 (-1) = BitVec.allOnes 64 := by rfl
  have e2 : BitVec.allOnes 64 ^^^ BitVec.ofInt 64 n = ~~~ (BitVec.ofInt 64 n) := BitVec.allOnes_xor
  rw [e, e2, BitVec.toNat_not, BitVec.toNat_ofInt, IntKind.wrap_i64]
  omega
theorem not_u32 {n : Nat} (h1 : n < 2 ^ 32) : bitsOf .xor .u32 (if IntKind.u32.signed = true then -1 else IntKind.u32.max) n = ((4294967295 - n : Nat) : Int) := by
  show IntKind.u32.wrap ((BitVec.ofInt 32 4294967295 ^^^ BitVec.ofInt 32 n).toNat : Int) = _
  have e : BitVec.ofInt 32 4294967295 = BitVec.allOnes 32 := by rfl
  have e2 : BitVec.allOnes 32 ^^^ BitVec.ofInt 32 n = ~~~ (BitVec.ofInt 32 n) := BitVec.allOnes_xor
  rw [e, e2, BitVec.toNat_not, toNat_ofInt h1, wu32 (by omega) (by omega)]
theorem shr_nat {k : IntKind} {x n : Nat} (hn : n ≤ k.bits) : shrOf k (x : Int) (n : Int) = ((x / 2 ^ n : Nat) : Int) := by
  show (x : Int).fdiv (2 ^ (min ((n : Int).toNat) k.bits)) = _
  rw [Int.toNat_natCast, Nat.min_eq_left hn, Int.fdiv_eq_ediv_of_nonneg _ (Int.le_of_lt (Int.pow_pos (by decide)))]
  simp
theorem shl_u64 {x n : Nat} (hn : n ≤ 64) (hx : x * 2 ^ n < 18446744073709551616) : shlOf .u64 (x : Int) (n : Int) = ((x * 2 ^ n : Nat) : Int) := by
  show IntKind.u64.wrap ((x : Int) * 2 ^ (min ((n : Int).toNat) 64)) = _
  have : ((x : Int) * 2 ^ n) = ((x * 2 ^ n : Nat) : Int) := by simp
  rw [Int.toNat_natCast, Nat.min_eq_left hn, this, wu (by omega) (by omega)]
theorem tmod_nat (a b : Nat) : Int.tmod (a : Int) (b : Int) = ((a % b : Nat) : Int) := by rw [Int.tmod_eq_emod_of_nonneg (by omega)]; omega
theorem tdiv_nat (a b : Nat) : Int.tdiv (a : Int) (b : Int) = ((a / b : Nat) : Int) := by rw [Int.tdiv_eq_ediv_of_nonneg (by omega)]; omega
end Go.E

/-
  Contracts of wire: what a writer writes.
-/
namespace Go.E.YtgjlajcebcmbaaaGreatDoor
open Go.Proofs
set_option maxRecDepth 100000

/-- a writer: its own block, and its bytes -/
def Wr (m : Mem) (bp : Nat) (l : List Int) : Prop := ∃ v, m bp = some (.cells #[v] 164) ∧ Bs m v l ∧ blkV v ≠ some bp
theorem shr8 (n : Int) (i : Nat) : shrOf .u64 ((n.toNat / 256 ^ i : Nat) : Int) 8 = ((n.toNat / 256 ^ (i + 1) : Nat) : Int) := by
  have e : shrOf .u64 ((n.toNat / 256 ^ i : Nat) : Int) 8 = ((n.toNat / 256 ^ i : Nat) : Int).fdiv 256 := rfl
  rw [e, Int.fdiv_eq_ediv_of_nonneg _ (by decide), Nat.pow_succ, ← Nat.div_div_eq_div_mul]; rfl
/-- the field is set to what append gave -/
theorem Wr.appended {m m' : Mem} {bp : Nat} {v v' : Value} {l : List Int} {t : TypeId} {fr : Nat × Nat} (hb : m bp = some (.cells #[v] t fr)) (hn : blkV v ≠ some bp) (h : BApd m v l v' m') (ht : t = 164 := by rfl) (hfr : fr = (0, 0) := by rfl) :
    m' bp = some (.cells #[v] t fr) ∧ Wr (m'.set bp (.cells (#[v].setIfInBounds 0 v') t fr)) bp l := by
  subst ht hfr
  have hv' : blkV v' ≠ some bp := fun e => by
    rcases h.new bp e with h' | h'
    · exact hn h'
    · rw [hb] at h'; cases h'
  refine ⟨h.keep _ _ hb hn, v', Mem.set_same .., h.own.keep fun b e => ?_, hv'⟩
  exact Mem.set_ne _ _ (fun e' => hv' (by rw [e, e']))
theorem kept1 {m m' : Mem} {b : Nat} (h : m' b = m b) : Kept [b] m m' := fun x hx => by rw [List.mem_singleton.1 hx]; exact h
theorem wbyte {n : Int} (hn : U64 n) {j : Nat} {e : Int} (hj : j < (beB n).length) (he : e = ((8 * ((beB n).length - 1 - j) : Nat) : Int)) : IntKind.u8.wrap (shrOf .u64 n e) = (beB n)[j] := by
  have h8 := beB_len n
  have h := beB_at hj
  rw [List.getElem?_eq_getElem hj, Option.some.injEq] at h
  rw [h, he]
  have e1 : shrOf .u64 n ((8 * ((beB n).length - 1 - j) : Nat) : Int) = n.fdiv (2 ^ (8 * ((beB n).length - 1 - j))) := by
    show n.fdiv (2 ^ (min _ 64)) = _
    rw [Int.toNat_natCast, Nat.min_eq_left (by omega)]
  rw [e1, fdiv_pow hn, IntKind.wrap_u8]
  omega
set_option maxHeartbeats 1000000 in
theorem wnum_spec {m : Mem} {bp : Nat} {l : List Int} {n : Int} (hw : Wr m bp l) (hn : U64 n) (hb : l.length ≤ 100000000) :
    Spec Tryz.prog 109 [ptrV bp, u64 n] m fun r m' => r = [] ∧ Wr m' bp (l ++ numB n) := by
  obtain ⟨v, hbp, hv, hne⟩ := hw
  have h8 := beB_len n
  have hn0 := hn.1
  have hn1 := hn.2
  refine en109 rfl (goY ?_)
  conv => whnf
  refine ⟨fun h => absurd h (by first | decide | simp), fun _ => ?_⟩
  conv => whnf
  refine .mk (ι := Nat) (fun i => (beB n).length - i) (fun i mm => i ≤ (beB n).length ∧ mm = m)
    (fun i => [(0, .c (ptrV bp)), (1, .c (u64 n)), (4, .c (i64 i)), (5, .c (u64 ((n.toNat / 256 ^ i : Nat) : Int)))]) (fun _ => []) 0 ⟨by omega, rfl⟩ ?_ ?_
  · conv => whnf
    repeat (refine And.intro (by first | with_reducible rfl | (exact congrArg (Value.int _) (by simp; omega)) | exact congrArg (Value.int _) (wi (by omega) (by omega)) | exact wi (by omega) (by omega) | rfl) ?_; conv => whnf)
    first | exact trivial | exact fun _ _ h => h
  rintro i mm ⟨hi, rfl⟩
  conv => whnf
  refine ⟨fun h => ?_, fun h => ?_⟩
  · have h' := of_decide_eq_true h
    have hlt : i < (beB n).length := (beB_pos hn i).1 (by omega)
    conv => whnf
    refine ⟨i + 1, ⟨by omega, rfl⟩, by omega, ?_⟩
    conv => whnf
    repeat (refine And.intro (by first | with_reducible rfl | (first | exact congrArg (Value.int _) (iadd (by omega)) | exact congrArg (Value.int _) (shr8 n i)) | exact congrArg (Value.int _) (wi (by omega) (by omega)) | exact wi (by omega) (by omega) | rfl) ?_; conv => whnf)
    first | exact trivial | exact fun _ _ h => h
  · have h' := of_decide_eq_false h
    have hi' : i = (beB n).length := by
      have := (not_congr (beB_pos hn i)).1 (by omega)
      omega
    subst hi'
    conv => whnf
    refine ⟨v, mcell_of hbp rfl, hv.lb.one, ?_⟩
    conv => whnf
    refine .mk _ (build1) ?_
    rintro _ _ ⟨b', hb', rfl, rfl⟩
    conv => whnf
    refine .mk _ (appendB (hv.sub (Mem.sub_set _ hb')) (Lb.blk (Mem.set_same ..) rfl).la (by simp; omega)) ?_
    rintro _ m' ⟨v', rfl, h1⟩
    conv => whnf
    obtain ⟨h2, h3⟩ := Wr.appended hbp hne (push_mem hb' h1)
    refine ⟨_, _, _, h2, ⟨by simp, by omega⟩, ?_⟩
    conv => whnf
    have hk : IntKind.u8.wrap ((beB n).length : Int) = ((beB n).length : Int) := by rw [IntKind.wrap_u8]; omega
    rw [hk] at h3
    refine .mk (ι := Nat) (fun j => (beB n).length - j) (fun j mm => j ≤ (beB n).length ∧ Wr mm bp (l ++ (((beB n).length : Int) :: (beB n).take j)))
      (fun j => [(0, .c (ptrV bp)), (1, .c (u64 n)), (6, .c (i64 (((beB n).length : Int) - 1 - j)))]) (fun _ => []) 0 ⟨by omega, by simpa using h3⟩ ?_ ?_
    · conv => whnf
      repeat (refine And.intro (by first | with_reducible rfl | (exact congrArg (Value.int _) (by rw [wi (by omega) (by omega)]; omega)) | exact congrArg (Value.int _) (wi (by omega) (by omega)) | exact wi (by omega) (by omega) | rfl) ?_; conv => whnf)
      first | exact trivial | exact fun _ _ h => h
    rintro j m2 ⟨hj, v2, hbp2, hv2, hne2⟩
    conv => whnf
    refine ⟨fun h => ?_, fun h => ?_⟩
    · have h' := of_decide_eq_true h
      conv => whnf
      refine ⟨v2, mcell_of hbp2 rfl, hv2.lb.one, ?_⟩
      conv => whnf
      have hw8 : IntKind.i64.wrap (8 * (((beB n).length : Int) - 1 - j)) = ((8 * ((beB n).length - 1 - j) : Nat) : Int) := by rw [wi (by omega) (by omega)]; omega
      refine ⟨by omega, ?_⟩
      conv => whnf
      refine .mk _ build1 ?_
      rintro _ _ ⟨b2, hb2, rfl, rfl⟩
      refine ⟨kept1 (by rw [Mem.set_ne _ _ (fun e => by subst e; rw [hbp2] at hb2; cases hb2)]), ?_⟩
      conv => whnf
      refine .mk _ (appendB (hv2.sub (Mem.sub_set _ hb2)) (Lb.blk (Mem.set_same ..) rfl).la (by simp; omega)) ?_
      rintro _ m3 ⟨v3, rfl, h4⟩
      have h4 := push_mem hb2 h4
      rw [wbyte hn (by omega) hw8] at h4
      obtain ⟨h5, h6⟩ := Wr.appended hbp2 hne2 h4
      conv => whnf
      refine ⟨_, _, _, h5, ⟨by simp, by omega⟩, ?_⟩
      conv => whnf
      refine ⟨j + 1, ⟨by omega, ?_⟩, by omega, ?_⟩
      · rw [← List.take_append_getElem (by omega)]; simpa using h6
      · conv => whnf
        repeat (refine And.intro (by first | with_reducible rfl | (exact congrArg (Value.int _) (by rw [wi (by omega) (by omega)]; omega)) | exact congrArg (Value.int _) (wi (by omega) (by omega)) | exact wi (by omega) (by omega) | rfl) ?_; conv => whnf)
        first | exact trivial | exact fun _ _ h => h
    · have h' := of_decide_eq_false h
      have : j = (beB n).length := by omega
      subst this
      conv => whnf
      rw [List.take_length] at hv2
      exact ⟨rfl, v2, hbp2, hv2, hne2⟩
theorem wnum_nil {m : Mem} {n : Int} : Spec Tryz.prog 109 [nilP, u64 n] m fun r m' => r = [] ∧ m' = m := by
  refine en109 rfl (goY ?_)
  conv => whnf
  refine ⟨fun _ => ?_, fun h => absurd h (by first | decide | simp)⟩
  conv => whnf
  exact ⟨rfl, rfl⟩
/-- a whole number that fits -/
def I64 (n : Int) : Prop := -9223372036854775808 ≤ n ∧ n ≤ 9223372036854775807
theorem intU_U {n : Int} (h : I64 n) : U64 (intU n) := by
  have := h.1; have := h.2
  unfold intU U64; split <;> omega
theorem wint_pos {n : Int} (h : I64 n) (h0 : 0 ≤ n) : shlOf .u64 (IntKind.u64.wrap n) 1 = intU n := by
  have := h.2
  rw [wu h0 (by omega)]
  show IntKind.u64.wrap (n * 2) = intU n
  rw [wu (by omega) (by omega), intU, if_pos h0]; omega
theorem wint_neg {n : Int} (h : I64 n) (h0 : n < 0) : bitsOf BinOp.or .u64 (shlOf .u64 (IntKind.u64.wrap (bitsOf .xor .i64 (if IntKind.i64.signed = true then -1 else IntKind.i64.max) n)) 1) 1 = intU n := by
  have := h.1
  rw [not_i64 h.1 h.2, wu (by omega) (by omega)]
  have e1 : shlOf .u64 (-n - 1) 1 = (((-n - 1).toNat * 2 ^ 1 : Nat) : Int) := by
    show IntKind.u64.wrap ((-n - 1) * 2) = _
    rw [wu (by omega) (by omega)]; omega
  have e2 := or_u64 (a := (-n - 1).toNat * 2 ^ 1) (b := 1) (by omega) (by omega)
  rw [e1]
  refine e2.trans ?_
  rw [or_low 1 (by omega), intU, if_neg (by omega)]
  omega
theorem numB_U {k : Nat} (h : k < 1000000000000) : U64 k := ⟨by omega, by omega⟩
/-- a digest, a vector -/
abbrev digV (d : List Int) : CV := .a [.ints .u8 32 d]
abbrev wvecV (v : List Int) : CV := .a [.ints .u64 8 v]
theorem Lb.dig {m : Mem} {b : Nat} {d : List Int} {t : TypeId} {fr : Nat × Nat} (h : m b = some (.cells (LB.cells [.ints .u8 32 d]).toArray t fr)) (hd : d.length = 32) : Lb m (.slice (some ⟨b, 0, none⟩) 32 32) d :=
  Lb.mk h hd (Nat.le_refl _) fun j n hj => by simp [LB.cells, Seg.cells, hj]
/-- a vector of numbers that fit -/
def WV8 (v : List Int) : Prop := v.length = 8 ∧ ∀ x ∈ v, U64 x
theorem vecB_len (v : List Int) : (vecB v).length ≤ 9 * v.length := by
  induction v with
  | nil => simp [vecB]
  | cons a v ih => have := numB_len a; simp only [vecB, List.map_cons, List.flatten_cons, List.length_append, List.length_cons] at ih ⊢; omega
theorem vecB_take {v : List Int} {i : Nat} (h : i < v.length) : vecB (v.take i) ++ numB (v.getD i 0) = vecB (v.take (i + 1)) := by
  rw [List.take_succ_eq_append_getElem h, vecB, vecB, List.map_append, List.flatten_append]; simp [h]
theorem WV8.at {v : List Int} (h : WV8 v) (i : Nat) : U64 (v.getD i 0) := by
  by_cases hi : i < v.length
  · have : v.getD i 0 ∈ v := by simp [hi]
    exact h.2 _ this
  · simp [List.getElem?_eq_none (Nat.le_of_not_lt hi)]; exact ⟨by decide, by decide⟩
theorem wbytes_spec {m : Mem} {bp : Nat} {l : List Int} (hw : Wr m bp l) (hb : l.length ≤ 100000000) :
    Spec Tryz.prog 110 [ptrV bp] m fun r m' => ∃ v' p, r = [.v v'] ∧ Split m' [p, m] ∧ Bs p v' l := by
  obtain ⟨v, hbp, hv, hne⟩ := hw
  refine en110 rfl (goY ?_)
  conv => whnf
  refine ⟨fun h => absurd h (by first | decide | simp), fun _ => ?_⟩
  conv => whnf
  refine ⟨v, mcell_of hbp rfl, hv.lb.one, ?_⟩
  conv => whnf
  refine xcall (clone_spec hv.lb.la hb) ?_
  rintro _ m' ⟨v', p, rfl, h1, h2⟩
  conv => whnf
  exact ⟨v', p, rfl, h1, h2⟩
theorem wbytes_nil {m : Mem} : Ret Tryz.prog 110 [nilP] m [.v (.slice none 0 0)] := by
  refine en110 rfl (goY ?_)
  conv => whnf
  refine ⟨fun _ => ?_, fun h => absurd h (by first | decide | simp)⟩
  conv => whnf
  exact ⟨rfl, rfl⟩
end Go.E.YtgjlajcebcmbaaaGreatDoor

/-
  Contracts of wire's reader.
-/
namespace Go.E.YtgjlajcebcmbaaaGreatDoor
open Go.Proofs
set_option maxRecDepth 100000

/-- a reader: its own block, and the bytes that are left -/
def Rd (m : Mem) (bp : Nat) (s : RS) : Prop := ∃ v, m bp = some (.cells #[.bool true, v, .int .i64 s.2] 189) ∧ Lb m v s.1 ∧ blkV v ≠ some bp ∧ Byt s.1 ∧ s.1.length ≤ 100000000
/-- bytes that are not in the reader's own block -/
def Lx (m : Mem) (bp : Nat) (v : Value) (l : List Int) : Prop := Lb m v l ∧ blkV v ≠ some bp
theorem Lies.setOther {m : Mem} {size : Nat} {v : Value} {l : List Value} {b : Nat} {o : Obj} (h : Lies m size v l) (hn : blkV v ≠ some b) : Lies (m.set b o) size v l :=
  h.keep fun x hx => Mem.set_ne _ _ fun e => hn (by rw [hx, e])
theorem from_spec {m : Mem} {v : Value} {l : List Int} (hv : La m v l) (hb : Byt l) (hl : l.length ≤ 100000000) :
    Spec Tryz.prog 104 [.v v] m fun r m' => ∃ bp p, r = [ptrV bp] ∧ Split m' [p, m] ∧ Rd p bp (l, 0) := by
  refine en104 rfl (goY ?_)
  conv => whnf
  refine xcall (clone_spec hv hl) ?_
  rintro _ m1 ⟨v1, p1, rfl, hs1, hv1⟩
  conv => whnf
  intro b hb1
  conv => whnf
  have hp : p1 b = none := hs1.none hb1 p1 (by simp)
  have hs2 := (hs1.new hb1 (.cells (LB.cells [.one (.bool true), .one v1, .one (.int .i64 0)]).toArray 189)).pair
  refine ⟨b, _, rfl, hs2, v1, ?_, ?_, ?_, hb, hl⟩
  · rw [joinM_blk1, Mem.set_same]; rfl
  · rw [joinM_blk1]; exact hv1.lb.sub (Mem.sub_set _ hp)
  · intro e
    rcases hv1 with ⟨rfl, _⟩ | ⟨b', o, c, n, arr, rfl, h1, _⟩
    · simp [blkV] at e
    · simp [blkV] at e; subst e; rw [h1] at hp; cases hp
theorem err_spec {m : Mem} {bp : Nat} {s : RS} (h : Rd m bp s) : Ret Tryz.prog 106 [ptrV bp] m [i64 s.2] := by
  obtain ⟨v, hb, hv, hn, _⟩ := h
  refine en106 rfl (goY ?_)
  conv => whnf
  refine ⟨fun h => absurd h (by first | decide | simp), fun _ => ?_⟩
  conv => whnf
  refine ⟨_, mcell_of hb rfl, rfl, ?_⟩
  conv => whnf
  refine ⟨fun h => absurd h (by first | decide | simp), fun _ => ?_⟩
  conv => whnf
  refine ⟨_, mcell_of hb rfl, rfl, ?_⟩
  conv => whnf
  exact ⟨rfl, rfl⟩
/-- no block but bp has changed -/
def Only (m m' : Mem) (bp : Nat) : Prop := ∀ b, b ≠ bp → m' b = m b
theorem Only.refl (m : Mem) (bp : Nat) : Only m m bp := fun _ _ => rfl
theorem Only.trans {m m' m'' : Mem} {bp : Nat} (h : Only m m' bp) (k : Only m' m'' bp) : Only m m'' bp := fun b hb => (k b hb).trans (h b hb)
theorem Only.set (m : Mem) (bp : Nat) (o : Obj) : Only m (m.set bp o) bp := fun _ hb => Mem.set_ne _ _ hb
theorem Lx.only {m m' : Mem} {bp : Nat} {v : Value} {l : List Int} (h : Lx m bp v l) (k : Only m m' bp) : Lx m' bp v l := ⟨h.1.keep fun b hb => k b fun e => h.2 (by rw [hb, e]), h.2⟩
theorem must_spec {m : Mem} {bp : Nat} {s : RS} {is : Bool} (h : Rd m bp s) :
    Spec Tryz.prog 129 [ptrV bp, boolV is] m fun r m' => r = [] ∧ Rd m' bp (rMust is s) ∧ Only m m' bp := by
  have h0 := h
  obtain ⟨v, hb, hv, hn, hby, hl⟩ := h
  refine en129 rfl (goY ?_)
  conv => whnf
  first | refine xretk (err_spec h0) ?_ | refine xret (err_spec h0) ?_
  conv => whnf
  refine ⟨fun h1 => ?_, fun h1 => ?_⟩
  · have h1' : s.2 = 0 := by simpa using h1
    conv => whnf
    refine ⟨fun h2 => ?_, fun h2 => ?_⟩
    · have h2' : is = false := by simpa using h2
      conv => whnf
      refine ⟨_, _, _, hb, ⟨by simp, by omega⟩, ?_⟩
      conv => whnf
      refine ⟨rfl, ?_, Only.set _ _ _⟩
      rw [rMust, if_pos ⟨h1', h2'⟩]
      exact ⟨v, Mem.set_same .., Lies.setOther hv hn, hn, hby, hl⟩
    · have h2' : is = true := by simpa using h2
      conv => whnf
      refine ⟨rfl, ?_, Only.refl _ _⟩
      rw [rMust, if_neg (by simp [h2'])]
      exact h0
  · have h1' : s.2 ≠ 0 := by simpa using h1
    conv => whnf
    refine ⟨rfl, ?_, Only.refl _ _⟩
    rw [rMust, if_neg (by simp [h1'])]
    exact h0
set_option maxHeartbeats 1000000 in
theorem take_spec {m : Mem} {bp : Nat} {s : RS} {n : Nat} (h : Rd m bp s) (hn1 : n < 9223372036854775808) :
    Spec Tryz.prog 148 [ptrV bp, i64 n] m fun r m' => ∃ v', r = [.v v'] ∧ Lx m' bp v' (rTake n s).1 ∧ Rd m' bp (rTake n s).2 ∧ Only m m' bp := by
  have h0 := h
  obtain ⟨l, e⟩ := s
  obtain ⟨v, hb, hv, hn, hby, hl⟩ := h
  simp only at hb hv hby hl
  refine en148 rfl (goY ?_)
  conv => whnf
  first | refine xretk (err_spec h0) ?_ | refine xret (err_spec h0) ?_
  conv => whnf
  refine ⟨fun h1 => ?_, fun h1 => ?_⟩
  · have h1' : e ≠ 0 := by simpa using h1
    conv => whnf
    rw [rTake, if_pos h1']
    exact ⟨_, rfl, ⟨Lb.nil .., by simp [blkV]⟩, h0, Only.refl _ _⟩
  · have h1' : e = 0 := by simpa using h1
    subst h1'
    conv => whnf
    refine ⟨v, mcell_of hb rfl, hv.one, ?_⟩
    obtain ⟨a, c, rfl⟩ := hv.shape
    conv => whnf
    refine ⟨fun h2 => ?_, fun h2 => ?_⟩
    · have h2' := of_decide_eq_true h2
      conv => whnf
      refine ⟨_, _, _, hb, ⟨by simp, by omega⟩, ?_⟩
      conv => whnf
      rw [rTake, if_neg (by simp), if_pos (by show l.length < n; omega)]
      exact ⟨_, rfl, ⟨Lb.nil .., by simp [blkV]⟩, ⟨_, Mem.set_same .., Lies.setOther hv hn, hn, hby, hl⟩, Only.set _ _ _⟩
    · have h2' := of_decide_eq_false h2
      have hln : n ≤ l.length := by omega
      conv => whnf
      refine ⟨.slice a l.length c, mcell_of hb rfl, hv.one, ?_⟩
      rw [rTake, if_neg (by simp), if_neg (by show ¬ (l.length < n); omega)]
      rcases hv.cases with ⟨c', e1, e2⟩ | ⟨b, o, c', arr, t, fr, e1, g1, g2, g3⟩
      · subst e2
        cases e1
        obtain rfl : n = 0 := by simpa using hln
        conv => whnf
        repeat (refine And.intro (by first | omega | (simp only [times]; omega)) ?_; conv => whnf)
        refine ⟨.slice none 0 c, mcell_of hb rfl, hv.one, ?_⟩
        conv => whnf
        repeat (refine And.intro (by first | omega | (simp only [times]; omega)) ?_; conv => whnf)
        refine ⟨_, _, _, hb, ⟨by simp, by omega⟩, ?_⟩
        conv => whnf
        exact ⟨_, rfl, ⟨Lb.nil .., by simp [blkV]⟩, ⟨_, Mem.set_same .., Lb.nil .., by simp [blkV], Byt.nil, by simp⟩, Only.set _ _ _⟩
      · cases e1
        have hbn : b ≠ bp := fun e => hn (by rw [e]; rfl)
        conv => whnf
        repeat (refine And.intro (by first | omega | (simp only [times]; omega)) ?_; conv => whnf)
        intro o1 ho1 ho1'
        obtain rfl : o1 = o := by
          rcases Nat.eq_zero_or_pos n with h | h
          · exact ho1' (by omega)
          · have := ho1 (by omega); simpa using this
        conv => whnf
        refine ⟨.slice (some ⟨b, o1, none⟩) l.length c, mcell_of hb rfl, hv.one, ?_⟩
        conv => whnf
        repeat (refine And.intro (by first | omega | (simp only [times]; omega)) ?_; conv => whnf)
        intro o2 ho2 ho2'
        conv => whnf
        refine ⟨_, _, _, hb, ⟨by simp, by omega⟩, ?_⟩
        conv => whnf
        refine ⟨_, rfl, ⟨Lb.mk (arr := arr) (t := t) (fr := fr) ?_ (by simp; omega) (by simp) ?_, ?_⟩, ⟨_, Mem.set_same .., Lb.mk (arr := arr) (t := t) (fr := fr) ?_ (by simp) (by omega) ?_, ?_, hby.drop n, by simp; omega⟩, Only.set _ _ _⟩
        · rw [Mem.set_ne _ _ hbn]; exact g1
        · intro j u hu
          have := (List.getElem?_eq_some_iff.1 hu).1
          simp only [List.length_take] at this
          rw [List.getElem?_take, if_pos (by omega)] at hu
          exact g3 j u hu
        · intro e; simp [blkV] at e; exact hbn e
        · rw [Mem.set_ne _ _ hbn]; exact g1
        · intro j u hu
          rw [List.getElem?_drop] at hu
          have : n + j < l.length := (List.getElem?_eq_some_iff.1 hu).1
          have e2 := ho2 (by omega)
          simp only [Nat.mul_one] at e2
          have := g3 _ u hu
          rw [show o2 + j = o1 + (n + j) by simp at e2; omega]
          exact this
        · intro e; simp [blkV] at e; exact hbn e
theorem Lx.head {m : Mem} {bp : Nat} {v : Value} {l : List Int} (h : Lx m bp v l) (hl : l ≠ []) : ∃ b o c arr t fr, v = .slice (some ⟨b, o, none⟩) l.length c ∧ b ≠ bp ∧ m b = some (.cells arr t fr) ∧ (∀ j n, l[j]? = some n → arr[o + j]? = some (.int .u8 n)) := by
  rcases h.1.cases with ⟨c, rfl, h'⟩ | ⟨b, o, c, arr, t, fr, rfl, g1, g2, g3⟩
  · exact absurd h' hl
  · exact ⟨b, o, c, arr, t, fr, rfl, fun e => h.2 (by rw [e]; rfl), g1, g3⟩
theorem shl8or {a c : Int} (ha : 0 ≤ a) (ha' : a < 72057594037927936) (hc : 0 ≤ c ∧ c < 256) : bitsOf .or .u64 (shlOf .u64 a 8) (IntKind.u64.wrap c) = 256 * a + c := by
  obtain ⟨a, rfl⟩ := Int.eq_ofNat_of_zero_le ha
  obtain ⟨c, rfl⟩ := Int.eq_ofNat_of_zero_le hc.1
  rw [wu (by omega) (by omega)]
  have e1 : shlOf .u64 (a : Int) 8 = ((a * 2 ^ 8 : Nat) : Int) := by
    show IntKind.u64.wrap ((a : Int) * 256) = _
    rw [wu (by omega) (by omega)]; omega
  rw [e1, or_u64 (by omega) (by omega), or_low 8 (by omega)]
  omega
set_option maxHeartbeats 2000000 in
theorem num_spec {m : Mem} {bp : Nat} {s : RS} (h : Rd m bp s) :
    Spec Tryz.prog 128 [ptrV bp] m fun r m' => r = [u64 (rNum s).1] ∧ Rd m' bp (rNum s).2 ∧ Only m m' bp := by
  have hbs : Byt s.1 := by obtain ⟨v, _, _, _, h, _⟩ := h; exact h
  have ht1 := rTake_byt (n := 1) hbs
  have hl1 := rTake_len (n := 1) (s := s)
  rcases hr1 : rTake 1 s with ⟨hd, s1⟩
  rw [hr1] at ht1 hl1
  simp only at ht1 hl1
  rcases hd with _ | ⟨c, _ | ⟨c', hd'⟩⟩
  · have e : rNum s = (0, s1) := by simp [rNum, hr1]
    refine en128 rfl (goY ?_)
    conv => whnf
    refine xcall (take_spec (n := 1) h (by omega)) ?_
    rintro _ m1 ⟨v1, rfl, hv1, h1, o1⟩
    conv => whnf
    rw [hr1] at hv1 h1
    simp only at hv1 h1
    obtain ⟨a1, c1, rfl⟩ := hv1.1.shape
    conv => whnf
    refine ⟨fun _ => ?_, fun h => absurd h (by first | decide | simp)⟩
    conv => whnf
    rw [e]
    exact ⟨rfl, h1, o1⟩
  · have hc := ht1.1 c (by simp)
    have hcw : IntKind.i64.wrap c = (c.toNat : Int) := by rw [wi (by omega) (by omega)]; omega
    have ht2 := rTake_byt (n := c.toNat) (rMust_byt (b := decide (c ≤ 8)) ht1.2)
    have hl2 := rTake_len (n := c.toNat) (s := rMust (decide (c ≤ 8)) s1)
    have hc8 : c.toNat ≤ 8 ∨ (rTake c.toNat (rMust (decide (c ≤ 8)) s1)).1 = [] := by
      by_cases h8 : c ≤ 8
      · exact .inl (by omega)
      · refine .inr ?_
        have : (rMust (decide (c ≤ 8)) s1).2 ≠ 0 := by
          unfold rMust; split
          · simp
          · rename_i h; simp [h8] at h; exact h
        rw [rTake, if_pos this]
    rcases hr2 : rTake c.toNat (rMust (decide (c ≤ 8)) s1) with ⟨l, s3⟩
    rw [hr2] at ht2 hl2 hc8
    simp only at ht2 hl2 hc8
    have hl8 : l.length ≤ 8 := by
      rcases hc8 with h | h
      · omega
      · rw [h]; simp
    have e : rNum s = (if (rMust (l.isEmpty || decide (0 < hd0 l)) s3).2 ≠ 0 then 0 else beN l, rMust (l.isEmpty || decide (0 < hd0 l)) s3) := by
      unfold rNum; rw [hr1]; dsimp only; rw [if_neg (by simp), show hd0 [c] = c from rfl, hr2]
    rcases l with _ | ⟨x, l'⟩
    · refine en128 rfl (goY ?_)
      conv => whnf
      refine xcall (take_spec (n := 1) h (by omega)) ?_
      rintro _ m1 ⟨v1, rfl, hv1, h1, o1⟩
      conv => whnf
      rw [hr1] at hv1 h1
      simp only at hv1 h1
      obtain ⟨b, o, cc, arr, t, fr, rfl, hbn, hb1, hat⟩ := hv1.head (by simp)
      conv => whnf
      refine ⟨fun h => absurd h (by simp), fun _ => ?_⟩
      conv => whnf
      refine ⟨⟨by simp, by simp⟩, ?_⟩
      conv => whnf
      refine ⟨.int .u8 c, mcell_of hb1 (hat 0 c rfl), rfl, ?_⟩
      conv => whnf
      refine xcall (must_spec (is := decide (c ≤ 8)) h1) ?_
      rintro _ m2 ⟨rfl, h2, o2⟩
      conv => whnf
      have hb2 : m2 b = some (.cells arr t fr) := by rw [o2 b hbn]; exact hb1
      refine ⟨⟨by simp, by simp⟩, ?_⟩
      conv => whnf
      refine ⟨.int .u8 c, mcell_of hb2 (hat 0 c rfl), rfl, ?_⟩
      conv => whnf
      rw [hcw]
      refine xcall (take_spec (n := c.toNat) h2 (by omega)) ?_
      rintro _ m3 ⟨v3, rfl, hv3, h3, o3⟩
      conv => whnf
      rw [hr2] at hv3 h3
      simp only at hv3 h3
      obtain ⟨a3, c3, rfl⟩ := hv3.1.shape
      conv => whnf
      refine ⟨fun _ => ?_, fun h => absurd h (by first | decide | simp)⟩
      conv => whnf
      refine xcall (must_spec (is := true) h3) ?_
      rintro _ m4 ⟨rfl, h4, o4⟩
      conv => whnf
      refine .mk (ι := Unit) (fun _ => 0) (fun _ mm => mm = m4) (fun _ => [(0, .c (ptrV bp)), (5, .c (u64 0)), (36, .c (.v (.slice a3 0 c3))), (37, .c (i64 0)), (38, .c (i64 0))]) (fun _ => []) () rfl ?_ ?_
      · conv => whnf
        repeat (refine And.intro (by first | with_reducible rfl | exact congrArg (Value.int _) (wi (by omega) (by omega)) | exact wi (by omega) (by omega) | rfl) ?_; conv => whnf)
        first | exact trivial | exact fun _ _ h => h
      rintro _ _ rfl
      conv => whnf
      refine ⟨fun h => absurd h (by first | decide | simp), fun _ => ?_⟩
      conv => whnf
      have h4' := h4
      obtain ⟨v4, hb4, _⟩ := h4'
      refine ⟨_, mcell_of hb4 rfl, rfl, ?_⟩
      conv => whnf
      have fin : rNum s = (0, rMust true s3) := by rw [e]; simp [beN]
      rw [fin]
      refine ⟨fun h5 => ?_, fun h5 => ?_⟩
      · conv => whnf
        exact ⟨rfl, h4, ((o1.trans o2).trans o3).trans o4⟩
      · conv => whnf
        exact ⟨rfl, h4, ((o1.trans o2).trans o3).trans o4⟩
    · refine en128 rfl (goY ?_)
      conv => whnf
      refine xcall (take_spec (n := 1) h (by omega)) ?_
      rintro _ m1 ⟨v1, rfl, hv1, h1, o1⟩
      conv => whnf
      rw [hr1] at hv1 h1
      simp only at hv1 h1
      obtain ⟨b, o, cc, arr, t, fr, rfl, hbn, hb1, hat⟩ := hv1.head (by simp)
      conv => whnf
      refine ⟨fun h => absurd h (by simp), fun _ => ?_⟩
      conv => whnf
      refine ⟨⟨by simp, by simp⟩, ?_⟩
      conv => whnf
      refine ⟨.int .u8 c, mcell_of hb1 (hat 0 c rfl), rfl, ?_⟩
      conv => whnf
      refine xcall (must_spec (is := decide (c ≤ 8)) h1) ?_
      rintro _ m2 ⟨rfl, h2, o2⟩
      conv => whnf
      have hb2 : m2 b = some (.cells arr t fr) := by rw [o2 b hbn]; exact hb1
      refine ⟨⟨by simp, by simp⟩, ?_⟩
      conv => whnf
      refine ⟨.int .u8 c, mcell_of hb2 (hat 0 c rfl), rfl, ?_⟩
      conv => whnf
      rw [hcw]
      refine xcall (take_spec (n := c.toNat) h2 (by omega)) ?_
      rintro _ m3 ⟨v3, rfl, hv3, h3, o3⟩
      conv => whnf
      rw [hr2] at hv3 h3
      simp only at hv3 h3
      obtain ⟨b3, o3', cc3, arr3, t3, fr3, rfl, hbn3, hb3, hat3⟩ := hv3.head (by simp)
      conv => whnf
      refine ⟨fun h => absurd h (by simp; omega), fun _ => ?_⟩
      conv => whnf
      refine ⟨⟨by simp, by simp⟩, ?_⟩
      conv => whnf
      refine ⟨.int .u8 x, mcell_of hb3 (hat3 0 x rfl), rfl, ?_⟩
      conv => whnf
      refine xcall (must_spec (is := decide (0 < x)) h3) ?_
      rintro _ m4 ⟨rfl, h4, o4⟩
      conv => whnf
      have e4 : rMust ((x :: l').isEmpty || decide (0 < hd0 (x :: l'))) s3 = rMust (decide (0 < x)) s3 := rfl
      rw [e4] at e
      have hv4 := hv3.only o4
      refine .mk (ι := Nat) (fun i => (x :: l').length - i) (fun i mm => m4 = mm ∧ i ≤ (x :: l').length) (fun i => [(0, .c (ptrV bp)), (5, .c (u64 (beN ((x :: l').take i)))), (36, .c (.v (.slice (some ⟨b3, o3', none⟩) (x :: l').length cc3))), (37, .c (i64 (x :: l').length)), (38, .c (i64 i))]) (fun _ => []) 0 ⟨rfl, by simp⟩ ?_ ?_
      · conv => whnf
        repeat (refine And.intro (by first | with_reducible rfl | exact congrArg (Value.int _) (wi (by omega) (by omega)) | exact wi (by omega) (by omega) | rfl) ?_; conv => whnf)
        first | exact trivial | exact fun _ _ h => h
      rintro i _ ⟨rfl, hi⟩
      conv => whnf
      refine ⟨fun h5 => ?_, fun h5 => ?_⟩
      · have h5' := of_decide_eq_true h5
        have hlt : i < (x :: l').length := by omega
        conv => whnf
        repeat (refine And.intro (by first | omega | (simp only [times]; omega)) ?_; conv => whnf)
        have hb4' : m4 b3 = some (.cells arr3 t3 fr3) := by rw [o4 b3 hbn3]; exact hb3
        refine ⟨.int .u8 (x :: l')[i], mcell_of hb4' (hat3 i _ (by simp)), rfl, ?_⟩
        conv => whnf
        refine ⟨i + 1, ⟨rfl, by omega⟩, by omega, ?_⟩
        have hbt := beN_bound (ht2.1.take i)
        have hpw : (256 : Nat) ^ ((x :: l').take i).length ≤ 256 ^ 7 := Nat.pow_le_pow_right (by decide) (by rw [List.length_take]; omega)
        have hpe : ((256 ^ ((x :: l').take i).length : Nat) : Int) = (256 : Int) ^ ((x :: l').take i).length := by simp
        have hx := ht2.1 (x :: l')[i] (by simp)
        have hst : bitsOf .or .u64 (shlOf .u64 (beN ((x :: l').take i)) 8) (IntKind.u64.wrap (x :: l')[i]) = beN ((x :: l').take (i + 1)) := by
          rw [shl8or hbt.1 (by omega) hx, List.take_succ_eq_append_getElem hlt, beN_snoc]
        conv => whnf
        repeat (refine And.intro (by first | with_reducible rfl | (first | exact congrArg (Value.int _) (iadd (by omega)) | exact congrArg (Value.int _) hst) | exact congrArg (Value.int _) (wi (by omega) (by omega)) | exact wi (by omega) (by omega) | rfl) ?_; conv => whnf)
        first | exact trivial | exact fun _ _ h => h
      · have h5' := of_decide_eq_false h5
        obtain rfl : i = (x :: l').length := by omega
        conv => whnf
        have h4' := h4
        obtain ⟨v4, hb4, _⟩ := h4'
        refine ⟨_, mcell_of hb4 rfl, rfl, ?_⟩
        conv => whnf
        rw [e]
        refine ⟨fun h6 => ?_, fun h6 => ?_⟩
        · have h6' : (rMust (decide (0 < x)) s3).2 ≠ 0 := by simpa using h6
          conv => whnf
          rw [if_pos h6']
          exact ⟨rfl, h4, ((o1.trans o2).trans o3).trans o4⟩
        · have h6' : (rMust (decide (0 < x)) s3).2 = 0 := by simpa using h6
          conv => whnf
          rw [if_neg (by simp [h6']), List.take_length]
          exact ⟨rfl, h4, ((o1.trans o2).trans o3).trans o4⟩
  · simp at hl1
theorem rNum_U {s : RS} (h : Byt s.1) : U64 (rNum s).1 := by
  have z : U64 0 := ⟨by decide, by decide⟩
  unfold rNum
  rcases hr : rTake 1 s with ⟨hd, s1⟩
  have b1 := rTake_byt (n := 1) h
  rw [hr] at b1
  dsimp only
  split
  · exact z
  · rcases hr2 : rTake (hd0 hd).toNat (rMust (decide (hd0 hd ≤ 8)) s1) with ⟨l, s3⟩
    have b2 := rTake_byt (n := (hd0 hd).toNat) (rMust_byt (b := decide (hd0 hd ≤ 8)) b1.2)
    have l2 := rTake_len (n := (hd0 hd).toNat) (s := rMust (decide (hd0 hd ≤ 8)) s1)
    rw [hr2] at b2 l2
    dsimp only
    split
    · exact z
    · refine beN_U b2.1 ?_
      by_cases h8 : hd0 hd ≤ 8
      · exact Nat.le_trans l2 (by omega)
      · have : (rMust (decide (hd0 hd ≤ 8)) s1).2 ≠ 0 := by
          unfold rMust; split
          · simp
          · rename_i h; simp [h8] at h; exact h
        rw [rTake, if_pos this] at hr2
        cases hr2
        simp
theorem Rd.byt {m : Mem} {bp : Nat} {s : RS} (h : Rd m bp s) : Byt s.1 := by obtain ⟨v, _, _, _, h, _⟩ := h; exact h
theorem small_spec {m : Mem} {bp : Nat} {s : RS} {most : Int} (h : Rd m bp s) (hm : I64 most) :
    Spec Tryz.prog 105 [ptrV bp, i64 most] m fun r m' => r = [i64 (rSmall most s).1] ∧ Rd m' bp (rSmall most s).2 ∧ Only m m' bp := by
  have hU := rNum_U h.byt
  have hU0 := hU.1
  have hU1 := hU.2
  have hm0 := hm.1
  have hm1 := hm.2
  rcases hr : rNum s with ⟨n, s1⟩
  rw [hr] at hU0 hU1
  simp only at hU0 hU1
  have key : ∀ is : Bool, is = (decide (0 ≤ most) && decide (n ≤ max most 0)) → rSmall most s = (if (rMust is s1).2 ≠ 0 then 0 else n, rMust is s1) := by
    rintro is rfl; simp only [rSmall, hr]
  refine en105 rfl (goY ?_)
  conv => whnf
  refine xcall (num_spec h) ?_
  rintro _ m1 ⟨rfl, h1, o1⟩
  conv => whnf
  rw [hr] at h1
  simp only [hr] at h1
  refine ⟨fun h2 => ?_, fun h2 => ?_⟩
  · have h2' := of_decide_eq_true h2
    conv => whnf
    have k := key (decide (n ≤ max most 0)) (by simp [h2'])
    rw [hr]
    have ew : IntKind.u64.wrap (max most 0) = max most 0 := wu (by omega) (by omega)
    rw [ew]
    refine xcall (must_spec (is := decide (n ≤ max most 0)) h1) ?_
    rintro _ m3 ⟨rfl, h3, o3⟩
    conv => whnf
    first | refine xretk (err_spec h3) ?_ | refine xret (err_spec h3) ?_
    conv => whnf
    rw [k]
    refine ⟨fun h4 => ?_, fun h4 => ?_⟩
    · have h4' : (rMust (decide (n ≤ max most 0)) s1).2 ≠ 0 := by simpa using h4
      conv => whnf
      rw [if_pos h4']
      exact ⟨rfl, h3, o1.trans o3⟩
    · have h4' : (rMust (decide (n ≤ max most 0)) s1).2 = 0 := by simpa using h4
      conv => whnf
      have hle : n ≤ max most 0 := by
        unfold rMust at h4'
        split at h4'
        · simp at h4'
        · rename_i hh; simp [h4'] at hh; omega
      rw [if_neg (by simp [h4']), wi (by omega) (by omega)]
      exact ⟨rfl, h3, o1.trans o3⟩
  · have h2' := of_decide_eq_false h2
    conv => whnf
    have k := key false (by simp [h2'])
    refine xcall (must_spec (is := false) h1) ?_
    rintro _ m3 ⟨rfl, h3, o3⟩
    conv => whnf
    first | refine xretk (err_spec h3) ?_ | refine xret (err_spec h3) ?_
    conv => whnf
    rw [k]
    have hne : (rMust false s1).2 ≠ 0 := by
      unfold rMust; split
      · simp
      · rename_i hh; simpa using hh
    refine ⟨fun h4 => ?_, fun h4 => ?_⟩
    · conv => whnf
      rw [if_pos hne]
      exact ⟨rfl, h3, o1.trans o3⟩
    · exact absurd h4 (by simpa using hne)
theorem shr1 {n : Int} (h : U64 n) : shrOf .u64 n 1 = n / 2 := by
  show n.fdiv 2 = _
  rw [Int.fdiv_eq_ediv_of_nonneg _ (by decide)]
theorem and1 {n : Int} (h : U64 n) : bitsOf .and .u64 n 1 = n % 2 := by
  obtain ⟨k, rfl⟩ := Int.eq_ofNat_of_zero_le h.1
  have := h.2
  have e := and_u64 (a := k) (b := 1) (by omega) (by omega)
  refine e.trans ?_
  rw [Nat.and_one_is_mod]; rfl
theorem rMust_zero {b : Bool} {s : RS} (h : (rMust b s).2 = 0) : s.2 = 0 ∧ b = true := by
  unfold rMust at h
  split at h
  · simp at h
  · rename_i hh
    refine ⟨h, ?_⟩
    cases b with
    | true => rfl
    | false => exact absurd ⟨h, rfl⟩ hh
theorem rSmall_nat {most : Int} {s : RS} (h : Byt s.1) (hm : I64 most) : 0 ≤ (rSmall most s).1 ∧ (rSmall most s).1 ≤ max most 0 := by
  have hU := rNum_U h
  rcases hr : rNum s with ⟨n, s1⟩
  rw [hr] at hU
  have hU0 : 0 ≤ n := hU.1
  simp only [rSmall, hr]
  split
  · omega
  · rename_i hh
    have := (rMust_zero (by simpa using hh)).2
    simp at this
    omega
theorem rTake_big {n : Nat} {s : RS} (h : 1000000000 ≤ n) (hl : s.1.length ≤ 100000000) : rTake n s = ([], if s.2 ≠ 0 then s else (s.1, 8)) := by
  unfold rTake
  split
  · rfl
  · rw [if_pos (by omega)]
theorem Rd.mono {m m' : Mem} {bp : Nat} {s : RS} (h : Rd m bp s) (hs : Sub m m') : Rd m' bp s := by
  obtain ⟨v, h1, h2, h3⟩ := h
  exact ⟨v, hs _ _ h1, h2.sub hs, h3⟩
theorem Rd.other {m : Mem} {bp b : Nat} {s : RS} {o : Obj} (h : Rd m bp s) (hb : b ≠ bp) (hv : ∀ v t, m bp = some (.cells #[.bool true, v, .int .i64 s.2] t) → blkV v ≠ some b) : Rd (m.set b o) bp s := by
  obtain ⟨v, h1, h2, h3⟩ := h
  exact ⟨v, by rw [Mem.set_ne _ _ (Ne.symm hb)]; exact h1, Lies.setOther h2 (hv v _ h1), h3⟩
theorem rTake_32 {s : RS} : (rTake 32 s).1 = [] ∨ (rTake 32 s).1.length = 32 := by
  unfold rTake; split
  · exact .inl rfl
  · split
    · exact .inl rfl
    · exact .inr (by simp; omega)
theorem rNums_len : ∀ (k : Nat) (s : RS), (rNums k s).1.length = k
  | 0, _ => rfl
  | k + 1, s => by simp [rNums, rNums_len k s]
theorem rNums_set {k : Nat} {s : RS} (h : k < 8) : ((rNums k s).1 ++ List.replicate (8 - k) 0).set k (rNum (rNums k s).2).1 = (rNums (k + 1) s).1 ++ List.replicate (8 - (k + 1)) 0 := by
  have hl := rNums_len k s
  rw [List.set_append_right _ _ (by omega), hl, Nat.sub_self]
  obtain ⟨j, hj⟩ : ∃ j, 8 - k = j + 1 := ⟨8 - k - 1, by omega⟩
  rw [hj, List.replicate_succ, List.set_cons_zero, show 8 - (k + 1) = j by omega]
  simp [rNums]
end Go.E.YtgjlajcebcmbaaaGreatDoor
/-
  Contracts of frame.
-/
namespace Go.E.YtgjlajcebcmbaaaGreatDoor
open Go.Proofs
set_option maxRecDepth 100000
abbrev u32' (n : Int) : CV := .v (.int .u32 n)
theorem La.real {m : Mem} {v : Value} {l : List Int} (h : La m v l) (hl : l ≠ []) : ∃ b o c, v = .slice (some ⟨b, o, none⟩) l.length c := (h.lb hl).real hl
theorem Lb.at' {m : Mem} {b o n c j : Nat} {l : List Int} (h : Lb m (.slice (some ⟨b, o, none⟩) n c) l) {x : Int} (hj : l[j]? = some x) : mcell m b (o + j) = some (.int .u8 x) := by
  obtain ⟨arr, t, fr, h1, h2⟩ := h.range
  exact mcell_of h1 (h2 j _ (by simp [hj]))
theorem fold_take {l : List Int} {i : Nat} (h : i < l.length) : (l.take (i + 1)).foldl (fun s c => Fr.crc1 s c.toNat) 4294967295 = Fr.crc1 ((l.take i).foldl (fun s c => Fr.crc1 s c.toNat) 4294967295) (l[i]).toNat := by
  rw [List.take_succ_eq_append_getElem h, List.foldl_append]; rfl
theorem xor_byte {s : Nat} {x : Int} (hs : s < 2 ^ 32) (hx : 0 ≤ x ∧ x < 256) : bitsOf .xor .u32 (s : Int) (IntKind.u32.wrap x) = ((s ^^^ x.toNat : Nat) : Int) := by
  obtain ⟨k, rfl⟩ : ∃ k : Nat, x = k := ⟨x.toNat, by omega⟩
  rw [wu32 (by omega) (by omega), xor_u32 hs (by omega)]; rfl
theorem fsum_spec {m : Mem} {v : Value} {l : List Int} (hv : La m v l) (hb : Byt l) (hl : l.length ≤ 100000000) : Ret Tryz.prog 80 [.v v] m [u32' ((Fr.crc l : Nat) : Int)] := by
  obtain ⟨a, c, rfl⟩ := hv.shape
  refine en80 rfl (goY ?_)
  conv => whnf
  refine .mk (ι := Nat) (fun i => l.length - i) (fun i mm => i ≤ l.length ∧ mm = m) (fun i => [(3, .c (u32' (((l.take i).foldl (fun s c => Fr.crc1 s c.toNat) 4294967295 : Nat) : Int))), (7, .c (.v (.slice a l.length c))), (8, .c (i64 l.length)), (9, .c (i64 i))]) (fun _ => []) 0 ⟨by omega, rfl⟩ ?_ ?_
  · conv => whnf
    repeat (refine And.intro (by first | with_reducible rfl | exact congrArg (Value.int _) (wi (by omega) (by omega)) | exact wi (by omega) (by omega) | rfl) ?_; conv => whnf)
    first | exact trivial | exact fun _ _ h => h
  rintro i mm ⟨hi, he⟩
  subst mm
  conv => whnf
  refine ⟨fun h1 => ?_, fun h1 => ?_⟩
  · have h1' := of_decide_eq_true h1
    have hlt : i < l.length := by omega
    have hne : l ≠ [] := by intro e; subst e; simp at hlt
    obtain ⟨b, o, c', hh⟩ := La.real hv hne
    injection hh with hh1 _ hh3
    subst hh1
    clear hh3 c'
    have hx := hb l[i] (List.getElem_mem hlt)
    conv => whnf
    repeat (refine And.intro (by first | omega | (simp only [times]; omega)) ?_; conv => whnf)
    refine ⟨_, by have := Lb.at' (hv.lb hne) (List.getElem?_eq_getElem hlt); simp only [times, Int.toNat_natCast, Nat.mul_one]; exact this, rfl, ?_⟩
    have hs := Fr.fold_lt (l := l.take i) (s := 4294967295) (by decide) (hb.take i)
    have hft := fold_take hlt
    generalize (l.take i).foldl (fun s c => Fr.crc1 s c.toNat) 4294967295 = s0 at hs hft ⊢
    conv => whnf
    rw [xor_byte hs hx]
    have hs' : s0 ^^^ (l[i]).toNat < 2 ^ 32 := Nat.xor_lt_two_pow hs (by omega)
    have hc1 : Fr.crc1 s0 (l[i]).toNat = Fr.stps 8 (s0 ^^^ (l[i]).toNat) := rfl
    rw [hc1] at hft
    generalize s0 ^^^ (l[i]).toNat = s1 at hs' hft ⊢
    refine .mk (ι := Nat) (fun k => 8 - k) (fun k mm => k ≤ 8 ∧ mm = m) (fun k => [(3, .c (u32' ((Fr.stps k s1 : Nat) : Int))), (7, .c (.v (.slice (some ⟨b, o, none⟩) l.length c))), (8, .c (i64 l.length)), (9, .c (i64 i)), (17, .c (i64 k))]) (fun _ => []) 0 ⟨by omega, rfl⟩ ?_ ?_
    · conv => whnf
      repeat (refine And.intro (by first | with_reducible rfl | exact congrArg (Value.int _) (wi (by omega) (by omega)) | exact wi (by omega) (by omega) | rfl) ?_; conv => whnf)
      first | exact trivial | exact fun _ _ h => h
    rintro k mm ⟨hk, he⟩
    subst mm
    conv => whnf
    refine ⟨fun h2 => ?_, fun h2 => ?_⟩
    · have h2' := of_decide_eq_true h2
      have hlk : k < 8 := by omega
      have hsk := Fr.stps_lt (k := k) hs'
      have hsu := Fr.stps_succ k s1
      generalize Fr.stps k s1 = s2 at hsk hsu ⊢
      have ea : bitsOf .and .u32 (s2 : Int) 1 = ((s2 % 2 : Nat) : Int) := by
        have := and_u32 (a := s2) (b := 1) hsk (by decide)
        rw [show (1 : Int) = ((1 : Nat) : Int) from rfl, this, Nat.and_one_is_mod]
      have er : shrOf .u32 (s2 : Int) 1 = ((s2 / 2 : Nat) : Int) := by
        have := shr_nat (k := .u32) (x := s2) (n := 1) (by decide)
        rw [show (1 : Int) = ((1 : Nat) : Int) from rfl, this, Nat.pow_one]
      conv => whnf
      rw [ea, er]
      have hhalf : s2 / 2 < 2 ^ 32 := by omega
      refine ⟨fun h3 => ?_, fun h3 => ?_⟩
      · have h3' : s2 % 2 = 1 := by simp at h3; omega
        have est : Fr.stp s2 = (s2 / 2) ^^^ 3988292384 := by rw [Fr.stp, if_pos h3']
        have ex := xor_u32 (a := s2 / 2) (b := 3988292384) hhalf (by decide)
        conv => whnf
        refine ⟨k + 1, ⟨by omega, rfl⟩, by omega, ?_⟩
        rw [hsu, est]
        conv => whnf
        repeat (refine And.intro (by first | with_reducible rfl | (first | exact congrArg (Value.int _) (iadd (by omega)) | exact congrArg (Value.int _) ex) | exact congrArg (Value.int _) (wi (by omega) (by omega)) | exact wi (by omega) (by omega) | rfl) ?_; conv => whnf)
        first | exact trivial | exact fun _ _ h => h
      · have h3' : ¬ s2 % 2 = 1 := by simp at h3; omega
        have est : Fr.stp s2 = s2 / 2 := by rw [Fr.stp, if_neg h3']
        conv => whnf
        refine ⟨k + 1, ⟨by omega, rfl⟩, by omega, ?_⟩
        rw [hsu, est]
        conv => whnf
        repeat (refine And.intro (by first | with_reducible rfl | (first | exact congrArg (Value.int _) (iadd (by omega))) | exact congrArg (Value.int _) (wi (by omega) (by omega)) | exact wi (by omega) (by omega) | rfl) ?_; conv => whnf)
        first | exact trivial | exact fun _ _ h => h
    · have h2' := of_decide_eq_false h2
      obtain rfl : k = 8 := by omega
      conv => whnf
      refine ⟨i + 1, ⟨by omega, rfl⟩, by omega, ?_⟩
      rw [hft]
      conv => whnf
      repeat (refine And.intro (by first | with_reducible rfl | (first | exact congrArg (Value.int _) (iadd (by omega))) | exact congrArg (Value.int _) (wi (by omega) (by omega)) | exact wi (by omega) (by omega) | rfl) ?_; conv => whnf)
      first | exact trivial | exact fun _ _ h => h
  · have h1' := of_decide_eq_false h1
    obtain rfl : i = l.length := by omega
    rw [List.take_length]
    have hs := Fr.fold_lt (l := l) (s := 4294967295) (by decide) hb
    have hc : Fr.crc l = l.foldl (fun s c => Fr.crc1 s c.toNat) 4294967295 ^^^ 4294967295 := rfl
    rw [hc]
    generalize l.foldl (fun s c => Fr.crc1 s c.toNat) 4294967295 = s0 at hs ⊢
    conv => whnf
    exact ⟨by rw [show (4294967295 : Int) = ((4294967295 : Nat) : Int) from rfl, xor_u32 hs (by decide)], rfl⟩
theorem build4 {m : Mem} {x y z w : Int} : PrimSpec Tryz.prog (.buildSlice 37 4 [0, 1, 2, 3]) [.v (.int .u8 x), .v (.int .u8 y), .v (.int .u8 z), .v (.int .u8 w)] m fun r m' => ∃ b, m b = none ∧ r = [.v (.slice (some ⟨b, 0, none⟩) 4 4)] ∧ m' = m.set b (.cells (bc [x, y, z, w]).toArray 5) :=
  buildSlice_spec (n := 4) tt_ok hBs rfl hU8 rfl rfl (by simp [CV.cs]) (by simp) (by simp)
theorem four_spec {m : Mem} {s : Nat} (hs : s < 2 ^ 32) : Spec Tryz.prog 79 [u32' (s : Int)] m fun r m' => ∃ v p, r = [.v v] ∧ Split m' [p, m] ∧ Bs p v (Fr.four s) := by
  have e8 := shr_nat (k := .u32) (x := s) (n := 8) (by decide)
  have e16 := shr_nat (k := .u32) (x := s) (n := 16) (by decide)
  have e24 := shr_nat (k := .u32) (x := s) (n := 24) (by decide)
  refine en79 rfl (goY ?_)
  conv => whnf
  rw [show (8 : Int) = ((8 : Nat) : Int) from rfl, e8, show (16 : Int) = ((16 : Nat) : Int) from rfl, e16, show (24 : Int) = ((24 : Nat) : Int) from rfl, e24]
  refine .mk _ (build4) ?_
  rintro _ _ ⟨b, hb, rfl, rfl⟩
  conv => whnf
  refine ⟨_, _, rfl, (Split.one m).new hb _, ?_⟩
  refine Bs.blk (l := Fr.four s) ?_ rfl
  rw [blk1_same]
  simp only [IntKind.wrap_u8]
  have q8 : (2 : Nat) ^ 8 = 256 := rfl
  have q16 : (2 : Nat) ^ 16 = 65536 := rfl
  have q24 : (2 : Nat) ^ 24 = 16777216 := rfl
  rw [q8, q16, q24]
  rfl
theorem isRec_spec {m : Mem} {n : Nat} : Ret Tryz.prog 76 [i64 n] m [boolV (Fr.isRec n)] := by
  refine en76 rfl (goY ?_)
  conv => whnf
  repeat' (first | (refine ⟨fun h => ?_, fun h => ?_⟩ <;> conv => whnf) | fail)
  · have h' := of_decide_eq_true h
    have e1 : decide (1 ≤ n) = true := decide_eq_true (by omega)
    have e2 : decide ((n : Int) ≤ 20000) = decide (n ≤ 20000) := decide_eq_decide.2 (by omega)
    rw [Fr.isRec, e1, e2, Bool.true_and]; exact ⟨rfl, rfl⟩
  · have h' := of_decide_eq_false h
    have e1 : decide (1 ≤ n) = false := decide_eq_false (by omega)
    rw [Fr.isRec, e1, Bool.false_and]; exact ⟨rfl, rfl⟩
theorem head_spec {m : Mem} {n : Nat} (hn : n ≤ 1000000000) : Spec Tryz.prog 78 [i64 n] m fun r m' => ∃ v p, r = [.v v] ∧ Split m' [p, m] ∧ Bs p v (numB n) := by
  refine en78 rfl (goY ?_)
  conv => whnf
  intro b hb
  conv => whnf
  have hs0 := (Split.one m).new hb (.cells (LB.cells [.one (.slice none 0 0)]).toArray 164)
  have hw0 : Wr (blk1 b (.cells (LB.cells [.one (.slice none 0 0)]).toArray 164)) b [] := ⟨_, blk1_same .., Bs.nil _, by simp [blkV]⟩
  rw [wu (n := (n : Int)) (by omega) (by omega)]
  refine xcall ((wnum_spec hw0 (n := (n : Int)) ⟨by omega, by omega⟩ (by simp)).at hs0 (i := 0) rfl) ?_
  rintro _ m1 ⟨p1, ⟨rfl, hw1⟩, hs1⟩
  conv => whnf
  have h9 := numB_len (n : Int)
  refine xcall ((wbytes_spec hw1 (by simp; omega)).at hs1 (i := 0) rfl) ?_
  rintro _ m2 ⟨p2, ⟨v2, q, rfl, hs2, hv2⟩, hs3⟩
  conv => whnf
  have hs4 := (hs3.flat (i := 0) rfl hs2).erase 1
  exact ⟨v2, q, rfl, hs4, by simpa using hv2⟩
theorem write_bad {m : Mem} {v : Value} {l : List Int} (hv : La m v l) (h : Fr.isRec l.length = false) : Ret Tryz.prog 40 [.v v] m [.v (.slice none 0 0), i64 3] := by
  obtain ⟨a, c, rfl⟩ := hv.shape
  refine en40 rfl (goY ?_)
  conv => whnf
  first | refine xretk (isRec_spec) ?_ | refine xret (isRec_spec) ?_
  conv => whnf
  rw [h]
  refine ⟨fun _ => ?_, fun h => absurd h (by first | decide | simp)⟩
  conv => whnf
  exact ⟨rfl, rfl⟩
theorem write_ok {m : Mem} {v : Value} {l : List Int} (hv : La m v l) (hb : Byt l) (h : Fr.isRec l.length = true) : Spec Tryz.prog 40 [.v v] m fun r m' => ∃ v' p, r = [.v v', i64 0] ∧ Split m' [p, m] ∧ Bs p v' (Fr.wr l) := by
  have h' : 1 ≤ l.length ∧ l.length ≤ 20000 := by simpa [Fr.isRec] using h
  obtain ⟨a, c, rfl⟩ := hv.shape
  have h9 := numB_len (l.length : Int)
  refine en40 rfl (goY ?_)
  conv => whnf
  first | refine xretk (isRec_spec) ?_ | refine xret (isRec_spec) ?_
  conv => whnf
  rw [h]
  refine ⟨fun h => absurd h (by first | decide | simp), fun _ => ?_⟩
  conv => whnf
  refine xcall (head_spec (n := l.length) (by omega)) ?_
  rintro _ m1 ⟨v1, p1, rfl, hs1, hv1⟩
  conv => whnf
  first | refine xretk (fsum_spec (hv.sub (hs1.sub (by simp))) hb (by omega)) ?_ | refine xret (fsum_spec (hv.sub (hs1.sub (by simp))) hb (by omega)) ?_
  conv => whnf
  refine xcall (four_spec (Fr.crc_lt hb)) ?_
  rintro _ m2 ⟨v2, p2, rfl, hs2, hv2⟩
  conv => whnf
  have hs2 := hs2.under (a := [p2]) hs1
  refine .mk _ (buildL3) ?_
  rintro _ _ ⟨b3, hb3, rfl, rfl⟩
  conv => whnf
  have hs3 := hs2.new hb3 (.cells #[v1, .slice a l.length c, v2] 37)
  have q1 : Sub p1 m2 := hs2.sub (by simp)
  have q2 : Sub p2 m2 := hs2.sub (by simp)
  have q3 : Sub m m2 := hs2.sub (by simp)
  have q4 := Mem.sub_set (.cells #[v1, .slice a l.length c, v2] 37) hb3
  refine xcall (concat_spec (Lists.three (Mem.set_same ..) (hv1.lb.la.sub (q1.trans q4)) (hv.sub (q3.trans q4)) (hv2.lb.la.sub (q2.trans q4))) (by simp [catB, Fr.four]; omega) (by simp)) ?_
  rintro _ m4 ⟨v', p, rfl, hs4, hv'⟩
  conv => whnf
  have hs4 := hs4.under (a := [p]) hs3
  refine ⟨v', p, rfl, (((hs4.erase 1).erase 1).erase 1), ?_⟩
  simpa [catB, Fr.wr, List.append_assoc] using hv'
theorem equal_spec {m : Mem} {v w : Value} {l k : List Int} (hv : La m v l) (hw : La m w k) (hl : l.length ≤ 100000000) : Ret Tryz.prog 107 [.v v, .v w] m [boolV (decide (l = k))] := by
  obtain ⟨a, c, rfl⟩ := hv.shape
  obtain ⟨aw, cw, rfl⟩ := hw.shape
  refine en107 rfl (goY ?_)
  conv => whnf
  refine ⟨fun h => ?_, fun h => ?_⟩
  · conv => whnf
    have : l ≠ k := by rintro rfl; simp at h
    rw [decide_eq_false this]
    exact ⟨rfl, rfl⟩
  have hlk : l.length = k.length := by simp at h; omega
  clear h
  rw [← hlk] at hw ⊢
  conv => whnf
  refine .mk (ι := Nat) (fun i => l.length - i) (fun i mm => i ≤ l.length ∧ l.take i = k.take i ∧ mm = m) (fun i => [(0, .c (.v (.slice a l.length c))), (1, .c (.v (.slice aw l.length cw))), (12, .c (i64 l.length)), (13, .c (i64 i))]) (fun _ => []) 0 ⟨by omega, by simp, rfl⟩ ?_ ?_
  · conv => whnf
    repeat (refine And.intro (by first | with_reducible rfl | exact congrArg (Value.int _) (wi (by omega) (by omega)) | exact wi (by omega) (by omega) | rfl) ?_; conv => whnf)
    first | exact trivial | exact fun _ _ h => h
  rintro i mm ⟨hi, htk, he⟩
  subst mm
  conv => whnf
  refine ⟨fun h1 => ?_, fun h1 => ?_⟩
  · have h1' := of_decide_eq_true h1
    have hlt : i < l.length := by omega
    have hne : l ≠ [] := by intro e; subst e; simp at hlt
    have hne' : k ≠ [] := by intro e; rw [e] at hlk; simp only [List.length_nil] at hlk; omega
    obtain ⟨b, o, c', hh⟩ := La.real hv hne
    injection hh with hh1 _ hh3
    subst hh1
    clear hh3 c'
    have hw' : La m (.slice aw k.length cw) k := by rw [← hlk]; exact hw
    obtain ⟨bw, ow, c', hh⟩ := La.real hw' hne'
    injection hh with hh1 _ hh3
    subst hh1
    clear hh3 c'
    have hltk : i < k.length := by omega
    conv => whnf
    repeat (refine And.intro (by first | omega | (simp only [times]; omega)) ?_; conv => whnf)
    refine ⟨_, by have := Lb.at' (hv.lb hne) (List.getElem?_eq_getElem hlt); simp only [times, Int.toNat_natCast, Nat.mul_one]; exact this, rfl, ?_⟩
    conv => whnf
    repeat (refine And.intro (by first | omega | (simp only [times]; omega)) ?_; conv => whnf)
    refine ⟨_, by have := Lb.at' (hw.lb hne') (List.getElem?_eq_getElem hltk); simp only [times, Int.toNat_natCast, Nat.mul_one]; exact this, rfl, ?_⟩
    conv => whnf
    refine ⟨fun h2 => ?_, fun h2 => ?_⟩
    · conv => whnf
      have : l ≠ k := by rintro rfl; simp at h2
      rw [decide_eq_false this]
      exact ⟨rfl, rfl⟩
    · have h2' : l[i] = k[i] := by simpa using h2
      conv => whnf
      refine ⟨i + 1, ⟨by omega, by rw [List.take_succ_eq_append_getElem hlt, List.take_succ_eq_append_getElem hltk, htk, h2'], rfl⟩, by omega, ?_⟩
      conv => whnf
      repeat (refine And.intro (by first | with_reducible rfl | (first | exact congrArg (Value.int _) (iadd (by omega))) | exact congrArg (Value.int _) (wi (by omega) (by omega)) | exact wi (by omega) (by omega) | rfl) ?_; conv => whnf)
      first | exact trivial | exact fun _ _ h => h
  · have h1' := of_decide_eq_false h1
    obtain rfl : i = l.length := by omega
    rw [List.take_length, hlk, List.take_length] at htk
    conv => whnf
    rw [decide_eq_true htk]
    exact ⟨rfl, rfl⟩
theorem Lb.cap' {m : Mem} {b o n c : Nat} {l : List Int} (h : Lb m (.slice (some ⟨b, o, none⟩) n c) l) : l.length ≤ c := by
  rcases h.cases with ⟨c, h1, h2⟩ | ⟨b', o', c', arr, t, fr, h1, h2, h3, h4⟩
  · cases h1
  · cases h1; exact h3
theorem Lb.cut' {m : Mem} {b o n c c' : Nat} {l : List Int} (h : Lb m (.slice (some ⟨b, o, none⟩) n c) l) (i len : Nat) (hk : i + len ≤ l.length) (hc : len ≤ c') : Lb m (.slice (some ⟨b, o + i, none⟩) len c') ((l.drop i).take len) := by
  rcases h.cases with ⟨c, h1, h2⟩ | ⟨b', o', c', arr, t, fr, h1, h2, h3, h4⟩
  · cases h1
  · cases h1
    refine Lb.mk h2 (by simp; omega) hc (fun j x hj => ?_)
    rw [List.getElem?_take] at hj
    split at hj
    · rw [List.getElem?_drop] at hj
      rw [Nat.add_assoc]; exact h4 _ _ hj
    · cases hj
theorem next_spec {m : Mem} {v : Value} {l : List Int} (hv : La m v l) (hb : Byt l) (hl : l.length ≤ 10000000) : Spec Tryz.prog 74 [.v v] m fun r m' => ∃ v' p, r = [.v v', i64 ((Fr.next l).2.1 : Nat), i64 (Fr.next l).2.2] ∧ Split m' [p, m] ∧ Bs p v' (Fr.next l).1 := by
  obtain ⟨a, c, rfl⟩ := hv.shape
  refine en74 rfl (goY ?_)
  conv => whnf
  refine xcall (from_spec hv hb (by omega)) ?_
  rintro _ m1 ⟨bp, p1, rfl, hs1, h1⟩
  conv => whnf
  refine xcall ((small_spec h1 (most := 20000) ⟨by decide, by decide⟩).at hs1 (i := 0) rfl) ?_
  rintro _ m2 ⟨p2, ⟨rfl, h2, _⟩, hs2⟩
  conv => whnf
  have hk := rSmall_nat (most := 20000) (s := (l, 0)) hb ⟨by decide, by decide⟩
  have hsub : Sub m m2 := hs2.sub (by simp)
  rcases hr : rSmall 20000 (l, 0) with ⟨n, rest, e⟩
  rw [hr] at h2 hk
  simp only [hr]
  have hx : Fr.next l = (if e = 8 then ([], 0, 0) else if e ≠ 0 ∨ n = 0 then ([], 0, 3) else if (l.length : Int) - (numB n).length < n.toNat + 4 then ([], 0, 0) else
      if Fr.four (Fr.crc ((l.drop (numB n).length).take n.toNat)) = (l.drop ((numB n).length + n.toNat)).take 4 then ((l.drop (numB n).length).take n.toNat, (numB n).length + n.toNat + 4, 0) else ([], 0, 9)) := by
    unfold Fr.next; simp only [hr]
  simp only at hk
  obtain ⟨hk0, hk1⟩ := hk
  have hk1 : n ≤ 20000 := by omega
  have hnil : ∃ p, Split m2 [p, m] := ⟨_, hs2⟩
  have h3 := h2.mono (hs2.sub (by simp))
  clear h2 h1 hs1
  first | refine xretk (err_spec h3) ?_ | refine xret (err_spec h3) ?_
  conv => whnf
  refine ⟨fun h => ?_, fun h => ?_⟩
  · have h' : e = 8 := by simpa using h
    conv => whnf
    rw [hx, if_pos h']
    exact ⟨_, _, rfl, hs2, Bs.nil _⟩
  have h8 : ¬ e = 8 := by simpa using h
  clear h
  conv => whnf
  first | refine xretk (err_spec h3) ?_ | refine xret (err_spec h3) ?_
  conv => whnf
  refine ⟨fun h => ?_, fun h => ?_⟩
  · have h' : e ≠ 0 := by simpa using h
    conv => whnf
    rw [hx, if_neg h8, if_pos (.inl h')]
    exact ⟨_, _, rfl, hs2, Bs.nil _⟩
  have h0 : e = 0 := by simpa using h
  clear h
  conv => whnf
  refine ⟨fun h => ?_, fun h => ?_⟩
  · have h' : n = 0 := by simpa using h
    conv => whnf
    rw [hx, if_neg h8, if_pos (.inr h')]
    exact ⟨_, _, rfl, hs2, Bs.nil _⟩
  have hn0 : ¬ n = 0 := by simpa using h
  clear h
  rw [if_neg h8, if_neg (by omega)] at hx
  obtain ⟨k, rfl⟩ : ∃ k : Nat, n = k := ⟨n.toNat, by omega⟩
  rw [Int.toNat_natCast] at hx
  have h9 := numB_len (k : Int)
  conv => whnf
  refine xcall (head_spec (n := k) (by omega)) ?_
  rintro _ m3 ⟨v1, q1, rfl, hs3, hv1⟩
  conv => whnf
  obtain ⟨a1, c1, rfl⟩ := hv1.lb.shape
  have hs3 := hs3.under (a := [q1]) hs2
  have hsub3 : Sub m m3 := hs3.sub (by simp)
  clear hv1 h3
  generalize hat : (numB (k : Int)).length = at' at *
  have e1 : IntKind.i64.wrap ((l.length : Int) - (at' : Int)) = (l.length : Int) - at' := wi (by omega) (by omega)
  have e2 : IntKind.i64.wrap ((k : Int) + 4) = ((k + 4 : Nat) : Int) := by rw [wi (by omega) (by omega)]; omega
  conv => whnf
  rw [e1, e2]
  refine ⟨fun h => ?_, fun h => ?_⟩
  · have h' := of_decide_eq_true h
    conv => whnf
    rw [hx, if_pos (by omega)]
    exact ⟨_, _, rfl, hs3.erase 1, Bs.nil _⟩
  have h' := of_decide_eq_false h
  clear h
  rw [if_neg (by omega)] at hx
  have e3 : IntKind.i64.wrap ((at' : Int) + (k : Int)) = ((at' + k : Nat) : Int) := by rw [wi (by omega) (by omega)]; omega
  have hne : l ≠ [] := by rintro rfl; simp at h'; omega
  have hv0 := hv
  obtain ⟨b, o, c', hh⟩ := La.real hv hne
  injection hh with hh1 _ hh3
  subst hh1
  clear hh3 c'
  have hlb := (hv.lb hne).sub hsub3
  have hcap := Lb.cap' hlb
  conv => whnf
  rw [e3]
  repeat (refine And.intro (by first | omega | (simp only [times]; omega)) ?_; conv => whnf)
  intro o1 ho1 _
  obtain rfl : o1 = o + at' := by have := ho1 (by omega); rw [Int.toNat_natCast] at this; simpa using this
  simp only [Int.toNat_natCast]
  rw [show at' + k - at' = k by omega]
  conv => whnf
  have hd := Lb.cut' (c' := c - at') hlb at' k (by omega) (by omega)
  refine xcall (clone_spec hd.la (by simp; omega)) ?_
  rintro _ m4 ⟨v4, q4, rfl, hs4, hv4⟩
  conv => whnf
  have hs4 := hs4.under (a := [q4]) hs3
  have hsub4 : Sub m m4 := hs4.sub (by simp)
  have hbd : Byt ((l.drop at').take k) := (hb.drop _).take _
  have e4 : IntKind.i64.wrap (((at' + k : Nat) : Int) + 4) = ((at' + k + 4 : Nat) : Int) := by rw [wi (by omega) (by omega)]; omega
  rw [e3, e4]
  repeat (refine And.intro (by first | omega | (simp only [times]; omega)) ?_; conv => whnf)
  intro o2 ho2 _
  obtain rfl : o2 = o + (at' + k) := by have := ho2 (by omega); rw [Int.toNat_natCast] at this; simpa using this
  simp only [Int.toNat_natCast]
  rw [show at' + k + 4 - (at' + k) = 4 by omega]
  conv => whnf
  first | refine xretk (fsum_spec (hv4.lb.la.sub (hs4.sub (by simp))) hbd (by simp; omega)) ?_ | refine xret (fsum_spec (hv4.lb.la.sub (hs4.sub (by simp))) hbd (by simp; omega)) ?_
  conv => whnf
  refine xcall (four_spec (Fr.crc_lt hbd)) ?_
  rintro _ m5 ⟨v5, q5, rfl, hs5, hv5⟩
  conv => whnf
  have hs5 := hs5.under (a := [q5]) hs4
  have hsub5 : Sub m m5 := hs5.sub (by simp)
  have hd2 := Lb.cut' (c' := c - (at' + k)) ((hv.lb hne).sub hsub5) (at' + k) 4 (by omega) (by omega)
  first | refine xretk (equal_spec (hv5.lb.la.sub (hs5.sub (by simp))) hd2.la (by simp [Fr.four])) ?_ | refine xret (equal_spec (hv5.lb.la.sub (hs5.sub (by simp))) hd2.la (by simp [Fr.four])) ?_
  conv => whnf
  refine ⟨fun h => ?_, fun h => ?_⟩
  · have hq : ¬ Fr.four (Fr.crc ((l.drop at').take k)) = (l.drop (at' + k)).take 4 := by simpa using h
    conv => whnf
    rw [hx, if_neg hq]
    exact ⟨_, q5, rfl, ((hs5.erase 1).erase 1).erase 1, Bs.nil _⟩
  · have hq : Fr.four (Fr.crc ((l.drop at').take k)) = (l.drop (at' + k)).take 4 := by simpa using h
    conv => whnf
    rw [hx, if_pos hq]
    refine ⟨v4, q4, ?_, ((hs5.erase 2).erase 2).erase 0, hv4⟩
    rw [e3, e4]
theorem Lb.postA {m : Mem} {b o n c : Nat} {l : List Int} (hv : La m (.slice (some ⟨b, o, none⟩) n c) l) (hc : l.length ≤ c) (k : Nat) (hk : k ≤ l.length) (o' : Nat) (ho : c - k ≠ 0 → o' = o + k) : La m (.slice (some ⟨b, o', none⟩) (l.length - k) (c - k)) (l.drop k) := by
  by_cases hne : l.drop k = []
  · have h0 : l.length - k = 0 := by have := congrArg List.length hne; simpa using this
    rcases hv with h | ⟨rfl, a, h⟩
    · rcases h.cases with ⟨_, h1, _⟩ | ⟨b', o'', c', arr, t, fr, h1, h2, h3, h4⟩
      · cases h1
      · cases h1
        rw [hne, h0]
        exact (Lb.mk (l := []) (o := o') h2 rfl (Nat.zero_le _) (fun j x hj => by cases hj)).la
    · injection h with h1 h2 h3
      subst h3
      exact .inr ⟨by simp, ⟨b, o', none⟩, by simp⟩
  · have hl : l ≠ [] := by rintro rfl; simp at hne
    have hd : 0 < (l.drop k).length := List.length_pos_iff.2 hne
    rw [List.length_drop] at hd
    obtain rfl := ho (by omega)
    have := Lb.cut' (c' := c - k) (hv.lb hl) k (l.length - k) (by omega) (by omega)
    rw [List.take_of_length_le (by simp)] at this
    exact this.la
theorem Split.mid {m p a b : Mem} {l : List Mem} (h : Split m (p :: a :: b :: l)) : Split m (p :: joinM a b :: l) ∧ Sub a (joinM a b) ∧ Sub b (joinM a b) := by
  have h1 : Split m (a :: b :: p :: l) := h.perm ((List.Perm.swap a p (b :: l)).trans ((List.Perm.swap b p l).cons a))
  refine ⟨h1.pair.perm (List.Perm.swap p (joinM a b) l), fun x o hx => by simp [joinM, hx], fun x o hx => ?_⟩
  rcases h1.dj x with h' | h'
  · simp [joinM, h', hx]
  · rw [h'] at hx; cases hx
theorem read_step {f : Nat} {b : List Int} (h : 0 < (Fr.next b).2.1) : Fr.read (f + 1) b = ((Fr.next b).1 :: (Fr.read f (b.drop (Fr.next b).2.1)).1, (Fr.next b).2.1 + (Fr.read f (b.drop (Fr.next b).2.1)).2.1, (Fr.read f (b.drop (Fr.next b).2.1)).2.2) := by
  rw [Fr.read]; simp only [if_pos h]
theorem read_stop {f : Nat} {b : List Int} (h : ¬ 0 < (Fr.next b).2.1) : Fr.read (f + 1) b = ([], 0, (Fr.next b).2.2) := by
  rw [Fr.read]; simp only [if_neg h]
/-- what was read so far -/
structure Got (l : List Int) (f : Nat) (at' : Nat) (ls : List (List Int)) : Prop where
  le : at' ≤ l.length
  fuel : l.length - at' < f
  cnt : ls.length ≤ at'
  eq : Fr.read (l.length + 1) l = (ls ++ (Fr.read f (l.drop at')).1, at' + (Fr.read f (l.drop at')).2.1, (Fr.read f (l.drop at')).2.2)
theorem Got.start (l : List Int) : Got l (l.length + 1) 0 [] := ⟨by omega, by omega, by simp, by simp⟩
theorem Got.more {l : List Int} {f at' : Nat} {ls : List (List Int)} (h : Got l f at' ls) (hp : 0 < (Fr.next (l.drop at')).2.1) : ∃ f', f = f' + 1 ∧ Got l f' (at' + (Fr.next (l.drop at')).2.1) (ls ++ [(Fr.next (l.drop at')).1]) := by
  obtain ⟨f', rfl⟩ : ∃ f', f = f' + 1 := ⟨f - 1, by have := h.fuel; omega⟩
  have hl := Fr.next_le (l.drop at')
  rw [List.length_drop] at hl
  have := h.le; have := h.fuel; have := h.cnt
  refine ⟨f', rfl, by omega, by omega, by simp; omega, ?_⟩
  rw [h.eq, read_step hp, List.drop_drop]
  simp [Nat.add_assoc]
theorem Got.stop {l : List Int} {f at' : Nat} {ls : List (List Int)} (h : Got l f at' ls) (hp : ¬ 0 < (Fr.next (l.drop at')).2.1) : Fr.read (l.length + 1) l = (ls, at', (Fr.next (l.drop at')).2.2) := by
  obtain ⟨f', rfl⟩ : ∃ f', f = f' + 1 := ⟨f - 1, by have := h.fuel; omega⟩
  rw [h.eq, read_stop hp]; simp
set_option maxHeartbeats 2000000 in
theorem read_spec {m : Mem} {b o c : Nat} {l : List Int} (hv : La m (.slice (some ⟨b, o, none⟩) l.length c) l) (hb : Byt l) (hl : l.length ≤ 1000000) (hc : l.length ≤ c) : Spec Tryz.prog 37 [.v (.slice (some ⟨b, o, none⟩) l.length c)] m fun r m' => ∃ v' ps p, r = [.v v', i64 ((Fr.read (l.length + 1) l).2.1 : Nat), i64 (Fr.read (l.length + 1) l).2.2] ∧ Split m' [p, m] ∧ Lists p v' ps ∧ ps.map (·.2) = (Fr.read (l.length + 1) l).1 := by
  refine en37 rfl (goY ?_)
  conv => whnf
  refine .mk 0 _ rfl (ι := Nat × Value × Nat) (fun i => i.1) (fun ⟨f, x, k⟩ mm => ∃ (ps : List (Value × List Int)) (p q : Mem), Got l f k (ps.map (·.2)) ∧ Split mm [p, q, m] ∧ Own p 37 1 x (ps.map (·.1)) ∧ ∀ u ∈ ps, La q u.1 u.2)
    (fun ⟨f, x, k⟩ => [(0, .c (.v (.slice (some ⟨b, o, none⟩) l.length c))), (5, .c (.v x)), (6, .c (i64 k))]) (fun _ => []) ?_ ?_
  · conv => whnf
    repeat (refine And.intro (by first | omega | (simp only [times]; omega)) ?_; conv => whnf)
    intro o1 ho1 _
    have hpost := Lb.postA hv hc 0 (by omega) o1 (fun h => by have := ho1 (by simp only [Int.toNat_zero]; omega); simpa using this)
    have e0 : c - (0 : Int).toNat = c - 0 := rfl
    rw [e0, show l.length - (0 : Int).toNat = l.length - 0 from rfl]
    have hg := Got.start l
    refine xcall (next_spec hpost (hb.drop _) (by simp; omega)) ?_
    rintro _ m1 ⟨v1, p1, rfl, hs1, hv1⟩
    conv => whnf
    refine ⟨fun h1 => ?_, fun h1 => ?_⟩
    · have h1' : 0 < (Fr.next (l.drop 0)).2.1 := by have := of_decide_eq_true h1; omega
      obtain ⟨f', hf', hg'⟩ := hg.more h1'
      have hle := hg'.le
      have hs2 : Split m1 (emp :: [p1, m]) := hs1.addEmp
      conv => whnf
      refine .mk _ (buildL1) ?_
      rintro _ _ ⟨b1, hb1, rfl, rfl⟩
      conv => whnf
      refine .mk _ (pushL (p := emp) (y := .slice none 0 0) (vs := []) hs2 hb1 hv1.lb.one (.inl ⟨rfl, rfl⟩) (by simp)) ?_
      rintro _ m2 ⟨x', p', rfl, hs3, hx'⟩
      conv => whnf
      refine ⟨(f', x', 0 + (Fr.next (l.drop 0)).2.1), ⟨[(v1, (Fr.next (l.drop 0)).1)], p', p1, hg', hs3, hx', by simpa using hv1.lb.la⟩, ?_⟩
      conv => whnf
      repeat (refine And.intro (by first | with_reducible rfl | (first | exact congrArg (Value.int _) (by rw [wi (by omega) (by omega)]; omega)) | exact congrArg (Value.int _) (wi (by omega) (by omega)) | exact wi (by omega) (by omega) | rfl) ?_; conv => whnf)
      first | exact trivial | exact fun _ _ h => h
    · have h1' : ¬ 0 < (Fr.next (l.drop 0)).2.1 := by have := of_decide_eq_false h1; omega
      have hst := hg.stop h1'
      conv => whnf
      rw [hst]
      exact ⟨_, [], emp, rfl, (hs1.erase 0).addEmp, ⟨.inl ⟨_, rfl, rfl⟩, by simp⟩, rfl⟩
  · rintro ⟨f, x, k⟩ mm ⟨ps, p, q, hg, hs, hx, hq⟩
    have hle := hg.le
    have hsub : Sub m mm := hs.sub (by simp)
    conv => whnf
    repeat (refine And.intro (by first | omega | (simp only [times]; omega)) ?_; conv => whnf)
    intro o1 ho1 _
    have hpost := Lb.postA (hv.sub hsub) hc k hg.le o1 (fun h => by have := ho1 (by rw [Int.toNat_natCast]; omega); simpa using this)
    simp only [Int.toNat_natCast]
    refine xcall (next_spec hpost (hb.drop _) (by simp; omega)) ?_
    rintro _ m1 ⟨v1, p1, rfl, hs1, hv1⟩
    conv => whnf
    have hs1 := hs1.under (a := [p1]) hs
    have hcnt := hg.cnt
    rw [List.length_map] at hcnt
    refine ⟨fun h1 => ?_, fun h1 => ?_⟩
    · have h1' : 0 < (Fr.next (l.drop k)).2.1 := by have := of_decide_eq_true h1; omega
      obtain ⟨f', rfl, hg'⟩ := hg.more h1'
      have hle' := hg'.le
      have hs2 : Split m1 (p :: [p1, q, m]) := hs1.perm (List.Perm.swap _ _ _)
      conv => whnf
      refine .mk _ (buildL1) ?_
      rintro _ _ ⟨b1, hb1, rfl, rfl⟩
      conv => whnf
      refine .mk _ (pushL hs2 hb1 hv1.lb.one hx (by simp; omega)) ?_
      rintro _ m2 ⟨x', p', rfl, hs3, hx'⟩
      conv => whnf
      obtain ⟨hs4, hsa, hsb⟩ := Split.mid hs3
      refine ⟨(f', x', k + (Fr.next (l.drop k)).2.1), ⟨ps ++ [(v1, (Fr.next (l.drop k)).1)], p', _, by simpa using hg', hs4, by simpa using hx', ?_⟩, by simp only; omega, ?_⟩
      · intro u hu
        rcases List.mem_append.1 hu with hu | hu
        · exact (hq u hu).sub hsb
        · rw [List.mem_singleton.1 hu]; exact hv1.lb.la.sub hsa
      · conv => whnf
        repeat (refine And.intro (by first | with_reducible rfl | (first | exact congrArg (Value.int _) (by rw [wi (by omega) (by omega)]; omega)) | exact congrArg (Value.int _) (wi (by omega) (by omega)) | exact wi (by omega) (by omega) | rfl) ?_; conv => whnf)
        first | exact trivial | exact fun _ _ h => h
    · have h1' : ¬ 0 < (Fr.next (l.drop k)).2.1 := by have := of_decide_eq_false h1; omega
      have hst := hg.stop h1'
      conv => whnf
      rw [hst]
      have hs2 : Split m1 (p :: [q, m]) := hs1.drop
      have hd := hs2.dj
      have hs3 := hs2.pair
      refine ⟨x, ps, joinM p q, rfl, hs3, ⟨hx.lies.sub (fun y u hu => by simp [joinM, hu]), fun u hu => (hq u hu).sub (fun y w hw => ?_)⟩, rfl⟩
      rcases hd y with h' | h'
      · simp [joinM, h', hw]
      · rw [h'] at hw; cases hw
end Go.E.YtgjlajcebcmbaaaGreatDoor
