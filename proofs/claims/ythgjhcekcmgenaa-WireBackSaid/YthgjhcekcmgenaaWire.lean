/-
  Contracts of wire: what a writer writes.
-/
import Derived.Test.YthgjhcekcmgenaaBy
import Derived.Test.YthgjhcekcmgenaaWireP
import Derived.Test.YthgjhcekcmgenaaBits
namespace Go.E.Ythgjhcekcmgenaa
open Go.Proofs
set_option maxRecDepth 100000

/-- a writer: its own block, and its bytes -/
def Wr (m : Mem) (bp : Nat) (l : List Int) : Prop := ∃ v, m bp = some (.cells #[v] 26) ∧ Bs m v l ∧ blkV v ≠ some bp
theorem iadd {i : Nat} (h : i < 1000000000000) : IntKind.i64.wrap ((i : Int) + 1) = ((i + 1 : Nat) : Int) := by rw [wi (by omega) (by omega)]; omega
theorem shr8 (n : Int) (i : Nat) : shrOf .u64 ((n.toNat / 256 ^ i : Nat) : Int) 8 = ((n.toNat / 256 ^ (i + 1) : Nat) : Int) := by
  have e : shrOf .u64 ((n.toNat / 256 ^ i : Nat) : Int) 8 = ((n.toNat / 256 ^ i : Nat) : Int).fdiv 256 := rfl
  rw [e, Int.fdiv_eq_ediv_of_nonneg _ (by decide), Nat.pow_succ, ← Nat.div_div_eq_div_mul]; rfl
/-- the field is set to what append gave -/
theorem Wr.appended {m m' : Mem} {bp : Nat} {v v' : Value} {l : List Int} {t : TypeId} {fr : Nat × Nat} (hb : m bp = some (.cells #[v] t fr)) (hn : blkV v ≠ some bp) (h : BApd m v l v' m') (ht : t = 26 := by rfl) (hfr : fr = (0, 0) := by rfl) :
    m' bp = some (.cells #[v] t fr) ∧ Wr (m'.set bp (.cells (#[v].setIfInBounds 0 v') t fr)) bp l := by
  subst ht hfr
  have hv' : blkV v' ≠ some bp := fun e => by
    rcases h.new bp e with h' | h'
    · exact hn h'
    · rw [hb] at h'; cases h'
  refine ⟨h.keep _ _ hb hn, v', Mem.set_same .., h.own.keep fun b e => ?_, hv'⟩
  exact Mem.set_ne _ _ (fun e' => hv' (by rw [e, e']))
theorem kept1 {m m' : Mem} {b : Nat} (h : m' b = m b) : Kept [b] m m' := fun x hx => by rw [List.mem_singleton.1 hx]; exact h
theorem wbyte {n : Int} (hn : U64 n) {j : Nat} {e : Int} (hj : j < (beB n).length) (he : e = ((8 * ((beB n).length - 1 - j) : Nat) : Int)) : IntKind.u8.wrap (shrOf .u64 n e) = (beB n)[j] := by
  have h8 := beB_len n
  have h := beB_at hj
  rw [List.getElem?_eq_getElem hj, Option.some.injEq] at h
  rw [h, he]
  have e1 : shrOf .u64 n ((8 * ((beB n).length - 1 - j) : Nat) : Int) = n.fdiv (2 ^ (8 * ((beB n).length - 1 - j))) := by
    show n.fdiv (2 ^ (min _ 64)) = _
    rw [Int.toNat_natCast, Nat.min_eq_left (by omega)]
  rw [e1, fdiv_pow hn, IntKind.wrap_u8]
  omega
set_option maxHeartbeats 1000000 in
theorem wnum_spec {m : Mem} {bp : Nat} {l : List Int} {n : Int} (hw : Wr m bp l) (hn : U64 n) (hb : l.length ≤ 100000000) :
    Spec Try.prog 10 [ptrV bp, u64 n] m fun r m' => r = [] ∧ Wr m' bp (l ++ numB n) := by
  obtain ⟨v, hbp, hv, hne⟩ := hw
  have h8 := beB_len n
  have hn0 := hn.1
  have hn1 := hn.2
  refine en10 rfl (goY ?_)
  conv => whnf
  refine ⟨fun h => absurd h (by decide), fun _ => ?_⟩
  conv => whnf
  refine .mk (ι := Nat) (fun i => (beB n).length - i) (fun i mm => i ≤ (beB n).length ∧ mm = m)
    (fun i => [(0, .c (ptrV bp)), (1, .c (u64 n)), (4, .c (i64 i)), (5, .c (u64 ((n.toNat / 256 ^ i : Nat) : Int)))]) (fun _ => []) 0 ⟨by omega, rfl⟩ ?_ ?_
  · conv => whnf
    repeat (refine And.intro (by first | with_reducible rfl | (exact congrArg (Value.int _) (by simp; omega)) | exact congrArg (Value.int _) (wi (by omega) (by omega)) | exact wi (by omega) (by omega) | rfl) ?_; conv => whnf)
    first | exact trivial | exact fun _ _ h => h
  rintro i mm ⟨hi, rfl⟩
  conv => whnf
  refine ⟨fun h => ?_, fun h => ?_⟩
  · have h' := of_decide_eq_true h
    have hlt : i < (beB n).length := (beB_pos hn i).1 (by omega)
    conv => whnf
    refine ⟨i + 1, ⟨by omega, rfl⟩, by omega, ?_⟩
    conv => whnf
    repeat (refine And.intro (by first | with_reducible rfl | (first | exact congrArg (Value.int _) (iadd (by omega)) | exact congrArg (Value.int _) (shr8 n i)) | exact congrArg (Value.int _) (wi (by omega) (by omega)) | exact wi (by omega) (by omega) | rfl) ?_; conv => whnf)
    first | exact trivial | exact fun _ _ h => h
  · have h' := of_decide_eq_false h
    have hi' : i = (beB n).length := by
      have := (not_congr (beB_pos hn i)).1 (by omega)
      omega
    subst hi'
    conv => whnf
    refine ⟨v, mcell_of hbp rfl, hv.lb.one, ?_⟩
    conv => whnf
    refine .mk _ (build1) ?_
    rintro _ _ ⟨b', hb', rfl, rfl⟩
    conv => whnf
    refine .mk _ (appendB (hv.sub (Mem.sub_set _ hb')) (Lb.blk (Mem.set_same ..) rfl).la (by simp; omega)) ?_
    rintro _ m' ⟨v', rfl, h1⟩
    conv => whnf
    obtain ⟨h2, h3⟩ := Wr.appended hbp hne (push_mem hb' h1)
    refine ⟨_, _, _, h2, ⟨by simp, by omega⟩, ?_⟩
    conv => whnf
    have hk : IntKind.u8.wrap ((beB n).length : Int) = ((beB n).length : Int) := by rw [IntKind.wrap_u8]; omega
    rw [hk] at h3
    refine .mk (ι := Nat) (fun j => (beB n).length - j) (fun j mm => j ≤ (beB n).length ∧ Wr mm bp (l ++ (((beB n).length : Int) :: (beB n).take j)))
      (fun j => [(0, .c (ptrV bp)), (1, .c (u64 n)), (6, .c (i64 (((beB n).length : Int) - 1 - j)))]) (fun _ => []) 0 ⟨by omega, by simpa using h3⟩ ?_ ?_
    · conv => whnf
      repeat (refine And.intro (by first | with_reducible rfl | (exact congrArg (Value.int _) (by rw [wi (by omega) (by omega)]; omega)) | exact congrArg (Value.int _) (wi (by omega) (by omega)) | exact wi (by omega) (by omega) | rfl) ?_; conv => whnf)
      first | exact trivial | exact fun _ _ h => h
    rintro j m2 ⟨hj, v2, hbp2, hv2, hne2⟩
    conv => whnf
    refine ⟨fun h => ?_, fun h => ?_⟩
    · have h' := of_decide_eq_true h
      conv => whnf
      refine ⟨v2, mcell_of hbp2 rfl, hv2.lb.one, ?_⟩
      conv => whnf
      have hw8 : IntKind.i64.wrap (8 * (((beB n).length : Int) - 1 - j)) = ((8 * ((beB n).length - 1 - j) : Nat) : Int) := by rw [wi (by omega) (by omega)]; omega
      refine ⟨by omega, ?_⟩
      conv => whnf
      refine .mk _ build1 ?_
      rintro _ _ ⟨b2, hb2, rfl, rfl⟩
      refine ⟨kept1 (by rw [Mem.set_ne _ _ (fun e => by subst e; rw [hbp2] at hb2; cases hb2)]), ?_⟩
      conv => whnf
      refine .mk _ (appendB (hv2.sub (Mem.sub_set _ hb2)) (Lb.blk (Mem.set_same ..) rfl).la (by simp; omega)) ?_
      rintro _ m3 ⟨v3, rfl, h4⟩
      have h4 := push_mem hb2 h4
      rw [wbyte hn (by omega) hw8] at h4
      obtain ⟨h5, h6⟩ := Wr.appended hbp2 hne2 h4
      conv => whnf
      refine ⟨_, _, _, h5, ⟨by simp, by omega⟩, ?_⟩
      conv => whnf
      refine ⟨j + 1, ⟨by omega, ?_⟩, by omega, ?_⟩
      · rw [← List.take_append_getElem (by omega)]; simpa using h6
      · conv => whnf
        repeat (refine And.intro (by first | with_reducible rfl | (exact congrArg (Value.int _) (by rw [wi (by omega) (by omega)]; omega)) | exact congrArg (Value.int _) (wi (by omega) (by omega)) | exact wi (by omega) (by omega) | rfl) ?_; conv => whnf)
        first | exact trivial | exact fun _ _ h => h
    · have h' := of_decide_eq_false h
      have : j = (beB n).length := by omega
      subst this
      conv => whnf
      rw [List.take_length] at hv2
      exact ⟨rfl, v2, hbp2, hv2, hne2⟩
theorem wnum_nil {m : Mem} {n : Int} : Spec Try.prog 10 [nilP, u64 n] m fun r m' => r = [] ∧ m' = m := by
  refine en10 rfl (goY ?_)
  conv => whnf
  refine ⟨fun _ => ?_, fun h => absurd h (by decide)⟩
  conv => whnf
  exact ⟨rfl, rfl⟩
/-- a whole number that fits -/
def I64 (n : Int) : Prop := -9223372036854775808 ≤ n ∧ n ≤ 9223372036854775807
theorem intU_U {n : Int} (h : I64 n) : U64 (intU n) := by
  have := h.1; have := h.2
  unfold intU U64; split <;> omega
theorem wint_pos {n : Int} (h : I64 n) (h0 : 0 ≤ n) : shlOf .u64 (IntKind.u64.wrap n) 1 = intU n := by
  have := h.2
  rw [wu h0 (by omega)]
  show IntKind.u64.wrap (n * 2) = intU n
  rw [wu (by omega) (by omega), intU, if_pos h0]; omega
theorem wint_neg {n : Int} (h : I64 n) (h0 : n < 0) : bitsOf BinOp.or .u64 (shlOf .u64 (IntKind.u64.wrap (bitsOf .xor .i64 (if IntKind.i64.signed = true then -1 else IntKind.i64.max) n)) 1) 1 = intU n := by
  have := h.1
  rw [not_i64 h.1 h.2, wu (by omega) (by omega)]
  have e1 : shlOf .u64 (-n - 1) 1 = (((-n - 1).toNat * 2 ^ 1 : Nat) : Int) := by
    show IntKind.u64.wrap ((-n - 1) * 2) = _
    rw [wu (by omega) (by omega)]; omega
  have e2 := or_u64 (a := (-n - 1).toNat * 2 ^ 1) (b := 1) (by omega) (by omega)
  rw [e1]
  refine e2.trans ?_
  rw [or_low 1 (by omega), intU, if_neg (by omega)]
  omega
theorem wint_spec {m : Mem} {bp : Nat} {l : List Int} {n : Int} (hw : Wr m bp l) (hn : I64 n) (hb : l.length ≤ 100000000) :
    Spec Try.prog 12 [ptrV bp, i64 n] m fun r m' => r = [] ∧ Wr m' bp (l ++ numB (intU n)) := by
  refine en12 rfl (goY ?_)
  conv => whnf
  refine ⟨fun h => ?_, fun h => ?_⟩
  · have h' := of_decide_eq_true h
    conv => whnf
    rw [wint_pos hn h']
    refine xcall (wnum_spec hw (intU_U hn) hb) ?_
    rintro _ m' ⟨rfl, h1⟩
    conv => whnf
    exact ⟨rfl, h1⟩
  · have h' := of_decide_eq_false h
    conv => whnf
    rw [wint_neg hn (by omega)]
    refine xcall (wnum_spec hw (intU_U hn) hb) ?_
    rintro _ m' ⟨rfl, h1⟩
    conv => whnf
    exact ⟨rfl, h1⟩
theorem wint_nil {m : Mem} {n : Int} : Spec Try.prog 12 [nilP, i64 n] m fun r m' => r = [] ∧ m' = m := by
  refine en12 rfl (goY ?_)
  conv => whnf
  refine ⟨fun h => ?_, fun h => ?_⟩
  · conv => whnf
    refine xcall (wnum_nil) ?_
    rintro _ _ ⟨rfl, rfl⟩
    conv => whnf
    exact ⟨rfl, rfl⟩
  · conv => whnf
    refine xcall (wnum_nil) ?_
    rintro _ _ ⟨rfl, rfl⟩
    conv => whnf
    exact ⟨rfl, rfl⟩
theorem numB_U {k : Nat} (h : k < 1000000000000) : U64 k := ⟨by omega, by omega⟩
set_option maxHeartbeats 1000000 in
theorem wtext_spec {m p q : Mem} {ls : List Mem} {i j : Nat} {bp : Nat} {l b : List Int} {v : Value} (hs : Split m ls) (hi : ls[i]? = some p) (hj : ls[j]? = some q) (hij : i ≠ j) (hw : Wr p bp l) (hv : La q v b) (hb : l.length ≤ 10000000) (hbb : b.length ≤ 10000000) :
    Spec Try.prog 14 [ptrV bp, .v v] m fun r m' => r = [] ∧ ∃ p', Split m' (ls.set i p') ∧ Wr p' bp (l ++ textB b) := by
  obtain ⟨a, c, rfl⟩ := hv.shape
  refine en14 rfl (goY ?_)
  conv => whnf
  refine ⟨fun h => absurd h (by decide), fun _ => ?_⟩
  conv => whnf
  rw [wu (by omega) (by omega)]
  refine xcall ((wnum_spec hw (numB_U (by omega)) (by omega)).at hs hi) ?_
  rintro _ m1 ⟨p1, ⟨rfl, v1, hb1, hv1, hn1⟩, hs1⟩
  conv => whnf
  have hi1 := setGet hi p1
  have hj1 := setOther hj hij p1
  refine ⟨v1, mcell_of (hs1.at hi1 _ _ hb1) rfl, hv1.lb.one, ?_⟩
  conv => whnf
  refine .mk _ (appendBat hs1 hi1 hv1 (hv.sub (hs1.at hj1)) (by simp only [List.length_append]; have := numB_len (b.length : Int); omega)) ?_
  rintro _ m2 ⟨v2, p2, rfl, hs2, h2⟩
  conv => whnf
  obtain ⟨h3, h4⟩ := Wr.appended hb1 hn1 h2
  rw [List.set_set] at hs2
  have hi2 := setGet hi p2
  refine ⟨_, _, _, hs2.at hi2 _ _ h3, ⟨by simp, by omega⟩, ?_⟩
  conv => whnf
  have h5 := hs2.setAt hi2 h3 (Obj.cells (#[v1].setIfInBounds 0 v2) 26)
  rw [List.set_set] at h5
  rw [List.append_assoc] at h4
  exact ⟨rfl, _, h5, h4⟩
theorem wtext_nil {m : Mem} {v : Value} : Spec Try.prog 14 [nilP, .v v] m fun r m' => r = [] ∧ m' = m := by
  refine en14 rfl (goY ?_)
  conv => whnf
  refine ⟨fun _ => ?_, fun h => absurd h (by decide)⟩
  conv => whnf
  exact ⟨rfl, rfl⟩
/-- a digest, a vector -/
abbrev digV (d : List Int) : CV := .a [.ints .u8 32 d]
abbrev vecV (v : List Int) : CV := .a [.ints .u64 8 v]
theorem Lb.dig {m : Mem} {b : Nat} {d : List Int} {t : TypeId} {fr : Nat × Nat} (h : m b = some (.cells (LB.cells [.ints .u8 32 d]).toArray t fr)) (hd : d.length = 32) : Lb m (.slice (some ⟨b, 0, none⟩) 32 32) d :=
  Lb.mk h hd (Nat.le_refl _) fun j n hj => by simp [LB.cells, Seg.cells, hj]
theorem wdigest_nil {m : Mem} {d : List Int} : Spec Try.prog 16 [nilP, digV d] m fun r m' => r = [] ∧ Sub m m' := by
  refine en16 rfl (goY ?_)
  conv => whnf
  intro b hb
  conv => whnf
  refine ⟨fun h => absurd h (by decide), fun _ => ?_⟩
  conv => whnf
  exact ⟨rfl, Mem.sub_set _ hb⟩
theorem wdigest_spec {m : Mem} {bp : Nat} {l d : List Int} (hw : Wr m bp l) (hd : d.length = 32) (hb : l.length ≤ 100000000) :
    Spec Try.prog 16 [ptrV bp, digV d] m fun r m' => r = [] ∧ Wr m' bp (l ++ d) := by
  obtain ⟨v, hbp, hv, hne⟩ := hw
  refine en16 rfl (goY ?_)
  conv => whnf
  intro b hb'
  conv => whnf
  refine ⟨fun _ => ?_, fun h => absurd h (by decide)⟩
  conv => whnf
  refine ⟨v, mcell_of (Mem.sub_set _ hb' _ _ hbp) rfl, hv.lb.one, ?_⟩
  conv => whnf
  intro o' ho _
  obtain rfl : o' = 0 := ho (by decide)
  conv => whnf
  refine .mk _ (appendB (hv.sub (Mem.sub_set _ hb')) (Lb.dig (Mem.set_same ..) hd).la (by omega)) ?_
  rintro _ m2 ⟨v2, rfl, h2⟩
  conv => whnf
  obtain ⟨h3, h4⟩ := Wr.appended hbp hne (push_mem hb' h2)
  refine ⟨_, _, _, h3, ⟨by simp, by omega⟩, ?_⟩
  conv => whnf
  exact ⟨rfl, h4⟩
/-- a vector of numbers that fit -/
def V8 (v : List Int) : Prop := v.length = 8 ∧ ∀ x ∈ v, U64 x
theorem vecB_len (v : List Int) : (vecB v).length ≤ 9 * v.length := by
  induction v with
  | nil => simp [vecB]
  | cons a v ih => have := numB_len a; simp only [vecB, List.map_cons, List.flatten_cons, List.length_append, List.length_cons] at ih ⊢; omega
theorem vecB_take {v : List Int} {i : Nat} (h : i < v.length) : vecB (v.take i) ++ numB (v.getD i 0) = vecB (v.take (i + 1)) := by
  rw [List.take_succ_eq_append_getElem h, vecB, vecB, List.map_append, List.flatten_append]; simp [h]
theorem V8.at {v : List Int} (h : V8 v) (i : Nat) : U64 (v.getD i 0) := by
  by_cases hi : i < v.length
  · have : v.getD i 0 ∈ v := by simp [hi]
    exact h.2 _ this
  · simp [List.getElem?_eq_none (Nat.le_of_not_lt hi)]; exact ⟨by decide, by decide⟩
set_option maxHeartbeats 1000000 in
theorem wvec_spec {m : Mem} {bp : Nat} {l v : List Int} (hw : Wr m bp l) (hv : V8 v) (hb : l.length ≤ 10000000) :
    Spec Try.prog 18 [ptrV bp, vecV v] m fun r m' => r = [] ∧ Wr m' bp (l ++ vecB v) := by
  have hl := hv.1
  refine en18 rfl (goY ?_)
  conv => whnf
  refine .mk (ι := Nat) (fun i => 8 - i) (fun i mm => i ≤ 8 ∧ Wr mm bp (l ++ vecB (v.take i)))
    (fun i => [(0, .c (ptrV bp)), (6, .c (vecV v)), (7, .c (i64 i))]) (fun _ => []) 0 ⟨by omega, by simpa [vecB] using hw⟩ ?_ ?_
  · conv => whnf
    repeat (refine And.intro (by first | with_reducible rfl | exact congrArg (Value.int _) (wi (by omega) (by omega)) | exact wi (by omega) (by omega) | rfl) ?_; conv => whnf)
    first | exact trivial | exact fun _ _ h => h
  rintro i mm ⟨hi, h1⟩
  conv => whnf
  refine ⟨fun h => ?_, fun h => ?_⟩
  · have h' := of_decide_eq_true h
    conv => whnf
    repeat (refine And.intro (by first | omega | (simp only [times]; omega)) ?_; conv => whnf)
    refine xcall (wnum_spec (n := v.getD i 0) h1 (hv.at i) (by have := vecB_len (v.take i); simp only [List.length_append, List.length_take] at *; omega)) ?_
    rintro _ m2 ⟨rfl, h2⟩
    conv => whnf
    rw [List.append_assoc, vecB_take (by omega)] at h2
    refine ⟨i + 1, ⟨by omega, h2⟩, by omega, ?_⟩
    conv => whnf
    repeat (refine And.intro (by first | with_reducible rfl | (exact congrArg (Value.int _) (iadd (by omega))) | exact congrArg (Value.int _) (wi (by omega) (by omega)) | exact wi (by omega) (by omega) | rfl) ?_; conv => whnf)
    first | exact trivial | exact fun _ _ h => h
  · have h' := of_decide_eq_false h
    obtain rfl : i = 8 := by omega
    conv => whnf
    rw [List.take_of_length_le (by omega)] at h1
    exact ⟨rfl, h1⟩
set_option maxHeartbeats 1000000 in
theorem wvec_nil {m : Mem} {v : List Int} (hl : v.length = 8) : Spec Try.prog 18 [nilP, vecV v] m fun r m' => r = [] ∧ m' = m := by
  refine en18 rfl (goY ?_)
  conv => whnf
  refine .mk (ι := Nat) (fun i => 8 - i) (fun i mm => i ≤ 8 ∧ mm = m)
    (fun i => [(0, .c nilP), (6, .c (vecV v)), (7, .c (i64 i))]) (fun _ => []) 0 ⟨by omega, rfl⟩ ?_ ?_
  · conv => whnf
    repeat (refine And.intro (by first | with_reducible rfl | exact congrArg (Value.int _) (wi (by omega) (by omega)) | exact wi (by omega) (by omega) | rfl) ?_; conv => whnf)
    first | exact trivial | exact fun _ _ h => h
  rintro i mm ⟨hi, rfl⟩
  conv => whnf
  refine ⟨fun h => ?_, fun h => ?_⟩
  · have h' := of_decide_eq_true h
    conv => whnf
    repeat (refine And.intro (by first | omega | (simp only [times]; omega)) ?_; conv => whnf)
    refine xcall (wnum_nil) ?_
    rintro _ _ ⟨rfl, rfl⟩
    conv => whnf
    refine ⟨i + 1, ⟨by omega, rfl⟩, by omega, ?_⟩
    conv => whnf
    repeat (refine And.intro (by first | with_reducible rfl | (exact congrArg (Value.int _) (iadd (by omega))) | exact congrArg (Value.int _) (wi (by omega) (by omega)) | exact wi (by omega) (by omega) | rfl) ?_; conv => whnf)
    first | exact trivial | exact fun _ _ h => h
  · conv => whnf
    exact ⟨rfl, rfl⟩
theorem wbytes_spec {m : Mem} {bp : Nat} {l : List Int} (hw : Wr m bp l) (hb : l.length ≤ 100000000) :
    Spec Try.prog 8 [ptrV bp] m fun r m' => ∃ v' p, r = [.v v'] ∧ Split m' [p, m] ∧ Bs p v' l := by
  obtain ⟨v, hbp, hv, hne⟩ := hw
  refine en8 rfl (goY ?_)
  conv => whnf
  refine ⟨fun h => absurd h (by decide), fun _ => ?_⟩
  conv => whnf
  refine ⟨v, mcell_of hbp rfl, hv.lb.one, ?_⟩
  conv => whnf
  refine xcall (clone_spec hv.lb.la hb) ?_
  rintro _ m' ⟨v', p, rfl, h1, h2⟩
  conv => whnf
  exact ⟨v', p, rfl, h1, h2⟩
theorem wbytes_nil {m : Mem} : Ret Try.prog 8 [nilP] m [.v (.slice none 0 0)] := by
  refine en8 rfl (goY ?_)
  conv => whnf
  refine ⟨fun _ => ?_, fun h => absurd h (by decide)⟩
  conv => whnf
  exact ⟨rfl, rfl⟩
end Go.E.Ythgjhcekcmgenaa
