/-
  Contracts of wire: what a writer writes.
-/
import Derived.Test.YtkapdbbjgpofnaaBy
import Derived.Test.YtkapdbbjgpofnaaWireP
import Derived.Test.YtkapdbbjgpofnaaBits
namespace Go.E.Ytkapdbbjgpofnaa
open Go.Proofs
set_option maxRecDepth 100000

/-- a writer: its own block, and its bytes -/
def Wr (m : Mem) (bp : Nat) (l : List Int) : Prop := ∃ v, m bp = some (.cells #[v] 46) ∧ Bs m v l ∧ blkV v ≠ some bp
theorem shr8 (n : Int) (i : Nat) : shrOf .u64 ((n.toNat / 256 ^ i : Nat) : Int) 8 = ((n.toNat / 256 ^ (i + 1) : Nat) : Int) := by
  have e : shrOf .u64 ((n.toNat / 256 ^ i : Nat) : Int) 8 = ((n.toNat / 256 ^ i : Nat) : Int).fdiv 256 := rfl
  rw [e, Int.fdiv_eq_ediv_of_nonneg _ (by decide), Nat.pow_succ, ← Nat.div_div_eq_div_mul]; rfl
/-- the field is set to what append gave -/
theorem Wr.appended {m m' : Mem} {bp : Nat} {v v' : Value} {l : List Int} {t : TypeId} {fr : Nat × Nat} (hb : m bp = some (.cells #[v] t fr)) (hn : blkV v ≠ some bp) (h : BApd m v l v' m') (ht : t = 46 := by rfl) (hfr : fr = (0, 0) := by rfl) :
    m' bp = some (.cells #[v] t fr) ∧ Wr (m'.set bp (.cells (#[v].setIfInBounds 0 v') t fr)) bp l := by
  subst ht hfr
  have hv' : blkV v' ≠ some bp := fun e => by
    rcases h.new bp e with h' | h'
    · exact hn h'
    · rw [hb] at h'; cases h'
  refine ⟨h.keep _ _ hb hn, v', Mem.set_same .., h.own.keep fun b e => ?_, hv'⟩
  exact Mem.set_ne _ _ (fun e' => hv' (by rw [e, e']))
theorem kept1 {m m' : Mem} {b : Nat} (h : m' b = m b) : Kept [b] m m' := fun x hx => by rw [List.mem_singleton.1 hx]; exact h
theorem wbyte {n : Int} (hn : U64 n) {j : Nat} {e : Int} (hj : j < (beB n).length) (he : e = ((8 * ((beB n).length - 1 - j) : Nat) : Int)) : IntKind.u8.wrap (shrOf .u64 n e) = (beB n)[j] := by
  have h8 := beB_len n
  have h := beB_at hj
  rw [List.getElem?_eq_getElem hj, Option.some.injEq] at h
  rw [h, he]
  have e1 : shrOf .u64 n ((8 * ((beB n).length - 1 - j) : Nat) : Int) = n.fdiv (2 ^ (8 * ((beB n).length - 1 - j))) := by
    show n.fdiv (2 ^ (min _ 64)) = _
    rw [Int.toNat_natCast, Nat.min_eq_left (by omega)]
  rw [e1, fdiv_pow hn, IntKind.wrap_u8]
  omega
set_option maxHeartbeats 1000000 in
theorem wnum_spec {m : Mem} {bp : Nat} {l : List Int} {n : Int} (hw : Wr m bp l) (hn : U64 n) (hb : l.length ≤ 100000000) :
    Spec Try.prog 16 [ptrV bp, u64 n] m fun r m' => r = [] ∧ Wr m' bp (l ++ numB n) := by
  obtain ⟨v, hbp, hv, hne⟩ := hw
  have h8 := beB_len n
  have hn0 := hn.1
  have hn1 := hn.2
  refine en16 rfl (goY ?_)
  conv => whnf
  refine ⟨fun h => absurd h (by decide), fun _ => ?_⟩
  conv => whnf
  refine .mk (ι := Nat) (fun i => (beB n).length - i) (fun i mm => i ≤ (beB n).length ∧ mm = m)
    (fun i => [(0, .c (ptrV bp)), (1, .c (u64 n)), (4, .c (i64 i)), (5, .c (u64 ((n.toNat / 256 ^ i : Nat) : Int)))]) (fun _ => []) 0 ⟨by omega, rfl⟩ ?_ ?_
  · conv => whnf
    repeat (refine And.intro (by first | with_reducible rfl | (exact congrArg (Value.int _) (by simp; omega)) | exact congrArg (Value.int _) (wi (by omega) (by omega)) | exact wi (by omega) (by omega) | rfl) ?_; conv => whnf)
    first | exact trivial | exact fun _ _ h => h
  rintro i mm ⟨hi, rfl⟩
  conv => whnf
  refine ⟨fun h => ?_, fun h => ?_⟩
  · have h' := of_decide_eq_true h
    have hlt : i < (beB n).length := (beB_pos hn i).1 (by omega)
    conv => whnf
    refine ⟨i + 1, ⟨by omega, rfl⟩, by omega, ?_⟩
    conv => whnf
    repeat (refine And.intro (by first | with_reducible rfl | (first | exact congrArg (Value.int _) (iadd (by omega)) | exact congrArg (Value.int _) (shr8 n i)) | exact congrArg (Value.int _) (wi (by omega) (by omega)) | exact wi (by omega) (by omega) | rfl) ?_; conv => whnf)
    first | exact trivial | exact fun _ _ h => h
  · have h' := of_decide_eq_false h
    have hi' : i = (beB n).length := by
      have := (not_congr (beB_pos hn i)).1 (by omega)
      omega
    subst hi'
    conv => whnf
    refine ⟨v, mcell_of hbp rfl, hv.lb.one, ?_⟩
    conv => whnf
    refine .mk _ (build1) ?_
    rintro _ _ ⟨b', hb', rfl, rfl⟩
    conv => whnf
    refine .mk _ (appendB (hv.sub (Mem.sub_set _ hb')) (Lb.blk (Mem.set_same ..) rfl).la (by simp; omega)) ?_
    rintro _ m' ⟨v', rfl, h1⟩
    conv => whnf
    obtain ⟨h2, h3⟩ := Wr.appended hbp hne (push_mem hb' h1)
    refine ⟨_, _, _, h2, ⟨by simp, by omega⟩, ?_⟩
    conv => whnf
    have hk : IntKind.u8.wrap ((beB n).length : Int) = ((beB n).length : Int) := by rw [IntKind.wrap_u8]; omega
    rw [hk] at h3
    refine .mk (ι := Nat) (fun j => (beB n).length - j) (fun j mm => j ≤ (beB n).length ∧ Wr mm bp (l ++ (((beB n).length : Int) :: (beB n).take j)))
      (fun j => [(0, .c (ptrV bp)), (1, .c (u64 n)), (6, .c (i64 (((beB n).length : Int) - 1 - j)))]) (fun _ => []) 0 ⟨by omega, by simpa using h3⟩ ?_ ?_
    · conv => whnf
      repeat (refine And.intro (by first | with_reducible rfl | (exact congrArg (Value.int _) (by rw [wi (by omega) (by omega)]; omega)) | exact congrArg (Value.int _) (wi (by omega) (by omega)) | exact wi (by omega) (by omega) | rfl) ?_; conv => whnf)
      first | exact trivial | exact fun _ _ h => h
    rintro j m2 ⟨hj, v2, hbp2, hv2, hne2⟩
    conv => whnf
    refine ⟨fun h => ?_, fun h => ?_⟩
    · have h' := of_decide_eq_true h
      conv => whnf
      refine ⟨v2, mcell_of hbp2 rfl, hv2.lb.one, ?_⟩
      conv => whnf
      have hw8 : IntKind.i64.wrap (8 * (((beB n).length : Int) - 1 - j)) = ((8 * ((beB n).length - 1 - j) : Nat) : Int) := by rw [wi (by omega) (by omega)]; omega
      refine ⟨by omega, ?_⟩
      conv => whnf
      refine .mk _ build1 ?_
      rintro _ _ ⟨b2, hb2, rfl, rfl⟩
      refine ⟨kept1 (by rw [Mem.set_ne _ _ (fun e => by subst e; rw [hbp2] at hb2; cases hb2)]), ?_⟩
      conv => whnf
      refine .mk _ (appendB (hv2.sub (Mem.sub_set _ hb2)) (Lb.blk (Mem.set_same ..) rfl).la (by simp; omega)) ?_
      rintro _ m3 ⟨v3, rfl, h4⟩
      have h4 := push_mem hb2 h4
      rw [wbyte hn (by omega) hw8] at h4
      obtain ⟨h5, h6⟩ := Wr.appended hbp2 hne2 h4
      conv => whnf
      refine ⟨_, _, _, h5, ⟨by simp, by omega⟩, ?_⟩
      conv => whnf
      refine ⟨j + 1, ⟨by omega, ?_⟩, by omega, ?_⟩
      · rw [← List.take_append_getElem (by omega)]; simpa using h6
      · conv => whnf
        repeat (refine And.intro (by first | with_reducible rfl | (exact congrArg (Value.int _) (by rw [wi (by omega) (by omega)]; omega)) | exact congrArg (Value.int _) (wi (by omega) (by omega)) | exact wi (by omega) (by omega) | rfl) ?_; conv => whnf)
        first | exact trivial | exact fun _ _ h => h
    · have h' := of_decide_eq_false h
      have : j = (beB n).length := by omega
      subst this
      conv => whnf
      rw [List.take_length] at hv2
      exact ⟨rfl, v2, hbp2, hv2, hne2⟩
theorem wnum_nil {m : Mem} {n : Int} : Spec Try.prog 16 [nilP, u64 n] m fun r m' => r = [] ∧ m' = m := by
  refine en16 rfl (goY ?_)
  conv => whnf
  refine ⟨fun _ => ?_, fun h => absurd h (by decide)⟩
  conv => whnf
  exact ⟨rfl, rfl⟩
/-- a whole number that fits -/
def I64 (n : Int) : Prop := -9223372036854775808 ≤ n ∧ n ≤ 9223372036854775807
theorem intU_U {n : Int} (h : I64 n) : U64 (intU n) := by
  have := h.1; have := h.2
  unfold intU U64; split <;> omega
theorem wint_pos {n : Int} (h : I64 n) (h0 : 0 ≤ n) : shlOf .u64 (IntKind.u64.wrap n) 1 = intU n := by
  have := h.2
  rw [wu h0 (by omega)]
  show IntKind.u64.wrap (n * 2) = intU n
  rw [wu (by omega) (by omega), intU, if_pos h0]; omega
theorem wint_neg {n : Int} (h : I64 n) (h0 : n < 0) : bitsOf BinOp.or .u64 (shlOf .u64 (IntKind.u64.wrap (bitsOf .xor .i64 (if IntKind.i64.signed = true then -1 else IntKind.i64.max) n)) 1) 1 = intU n := by
  have := h.1
  rw [not_i64 h.1 h.2, wu (by omega) (by omega)]
  have e1 : shlOf .u64 (-n - 1) 1 = (((-n - 1).toNat * 2 ^ 1 : Nat) : Int) := by
    show IntKind.u64.wrap ((-n - 1) * 2) = _
    rw [wu (by omega) (by omega)]; omega
  have e2 := or_u64 (a := (-n - 1).toNat * 2 ^ 1) (b := 1) (by omega) (by omega)
  rw [e1]
  refine e2.trans ?_
  rw [or_low 1 (by omega), intU, if_neg (by omega)]
  omega
theorem numB_U {k : Nat} (h : k < 1000000000000) : U64 k := ⟨by omega, by omega⟩
/-- a digest, a vector -/
abbrev digV (d : List Int) : CV := .a [.ints .u8 32 d]
abbrev wvecV (v : List Int) : CV := .a [.ints .u64 8 v]
theorem Lb.dig {m : Mem} {b : Nat} {d : List Int} {t : TypeId} {fr : Nat × Nat} (h : m b = some (.cells (LB.cells [.ints .u8 32 d]).toArray t fr)) (hd : d.length = 32) : Lb m (.slice (some ⟨b, 0, none⟩) 32 32) d :=
  Lb.mk h hd (Nat.le_refl _) fun j n hj => by simp [LB.cells, Seg.cells, hj]
/-- a vector of numbers that fit -/
def WV8 (v : List Int) : Prop := v.length = 8 ∧ ∀ x ∈ v, U64 x
theorem vecB_len (v : List Int) : (vecB v).length ≤ 9 * v.length := by
  induction v with
  | nil => simp [vecB]
  | cons a v ih => have := numB_len a; simp only [vecB, List.map_cons, List.flatten_cons, List.length_append, List.length_cons] at ih ⊢; omega
theorem vecB_take {v : List Int} {i : Nat} (h : i < v.length) : vecB (v.take i) ++ numB (v.getD i 0) = vecB (v.take (i + 1)) := by
  rw [List.take_succ_eq_append_getElem h, vecB, vecB, List.map_append, List.flatten_append]; simp [h]
theorem WV8.at {v : List Int} (h : WV8 v) (i : Nat) : U64 (v.getD i 0) := by
  by_cases hi : i < v.length
  · have : v.getD i 0 ∈ v := by simp [hi]
    exact h.2 _ this
  · simp [List.getElem?_eq_none (Nat.le_of_not_lt hi)]; exact ⟨by decide, by decide⟩
theorem wbytes_spec {m : Mem} {bp : Nat} {l : List Int} (hw : Wr m bp l) (hb : l.length ≤ 100000000) :
    Spec Try.prog 17 [ptrV bp] m fun r m' => ∃ v' p, r = [.v v'] ∧ Split m' [p, m] ∧ Bs p v' l := by
  obtain ⟨v, hbp, hv, hne⟩ := hw
  refine en17 rfl (goY ?_)
  conv => whnf
  refine ⟨fun h => absurd h (by decide), fun _ => ?_⟩
  conv => whnf
  refine ⟨v, mcell_of hbp rfl, hv.lb.one, ?_⟩
  conv => whnf
  refine xcall (clone_spec hv.lb.la hb) ?_
  rintro _ m' ⟨v', p, rfl, h1, h2⟩
  conv => whnf
  exact ⟨v', p, rfl, h1, h2⟩
theorem wbytes_nil {m : Mem} : Ret Try.prog 17 [nilP] m [.v (.slice none 0 0)] := by
  refine en17 rfl (goY ?_)
  conv => whnf
  refine ⟨fun _ => ?_, fun h => absurd h (by decide)⟩
  conv => whnf
  exact ⟨rfl, rfl⟩
end Go.E.Ytkapdbbjgpofnaa
