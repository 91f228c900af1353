/-
  ByB, By, Bits, Wire, Nc, KeyR, FrameP, StF, Cat, Ints, Cmp, Fnv, SrtK, SbN, SrN, SxN, SeN, SbD, SxD, SeD, SrD, Dots1, Pk
-/
import Derived.Test.YtcionccfgcnhoaaGreatDoorStoreRefusesZ6
import Derived.Shelf.SlSortCmp.NoneTotal
namespace Go.E.YtcionccfgcnhoaaGreatDoor
open Go.Proofs
set_option maxRecDepth 100000
def Bs (m : Mem) (v : Value) (l : List Int) : Prop := Own m 5 1 v (bc l)
theorem Bs.lb {p : Mem} {v : Value} {l : List Int} (h : Bs p v l) : Lb p v l := Own.lies h
theorem Bs.len {p : Mem} {v : Value} {l : List Int} (h : Bs p v l) : lenV v = l.length := h.lb.len
theorem Bs.sub {m m' : Mem} {v : Value} {l : List Int} (h : Bs m v l) (hs : Sub m m') : Bs m' v l := Own.sub h hs
theorem Bs.keep {m m' : Mem} {v : Value} {l : List Int} (h : Bs m v l) (hs : ∀ b, blkV v = some b → m' b = m b) : Bs m' v l := Own.keep h hs
theorem Bs.nil (m : Mem) : Bs m (.slice none 0 0) [] := .inl ⟨rfl, rfl⟩
theorem Bs.blk {m : Mem} {b : Nat} {l : List Int} {n : Nat} (hb : m b = some (.cells (bc l).toArray 5)) (hn : l.length = n) : Bs m (.slice (some ⟨b, 0, none⟩) n n) l := by
  subst hn
  refine .inr ⟨b, 0, l.length, l.length, _, rfl, hb, by simp [bc], Nat.le_refl _, by simp [bc], ?_, bc_one⟩
  intro j u hu; rw [Nat.zero_add, List.getElem?_toArray]; exact hu
theorem hU8 : tt.get 5 = some ⟨.int .u8, 1, 1, [.one (.int .u8 0)], false⟩ := by rfl
theorem hBs : tt.get 80 = some ⟨.slice 5, 1, 24, [.one (.slice none 0 0)], false⟩ := by rfl
structure BApd (m : Mem) (v : Value) (l : List Int) (v' : Value) (m' : Mem) : Prop where
  own : Bs m' v' l
  keep : ∀ b o, m b = some o → blkV v ≠ some b → m' b = some o
  new : ∀ b, blkV v' = some b → blkV v = some b ∨ m b = none
theorem appendB {m : Mem} {v x : Value} {l news : List Int} (hv : Bs m v l) (hg : La m x news) (hb : l.length + news.length ≤ 1000000000) :
    PrimSpec Tryz.prog (.builtin .append [80, 80]) [.v v, .v x] m fun r m' => ∃ v', r = [.v v'] ∧ BApd m v (l ++ news) v' m' := by
  have e1 := hv.len
  have e2 := hg.len
  refine (append_spec tt_ok hBs rfl hU8 hBs rfl hv hg.gives (by rw [e1, e2]; simp only; omega) (by rw [e1, e2]; omega)).mono fun r m' ⟨v', h1, h2⟩ => ⟨v', h1, ?_⟩
  rw [← bc_append] at h2
  exact ⟨h2.own, h2.keep, h2.new⟩
theorem appendBat {m p : Mem} {ls : List Mem} {i : Nat} {v x : Value} {l news : List Int} (hs : Split m ls) (hi : ls[i]? = some p) (hv : Bs p v l) (hg : La m x news) (hb : l.length + news.length ≤ 1000000000) :
    PrimSpec Tryz.prog (.builtin .append [80, 80]) [.v v, .v x] m fun r m' => ∃ v' p', r = [.v v'] ∧ Split m' (ls.set i p') ∧ BApd p v (l ++ news) v' p' := by
  have e1 := hv.len
  have e2 := hg.len
  refine (append_at tt_ok hBs rfl hU8 hBs rfl hs hi hv hg.gives (by rw [e1, e2]; simp only; omega) (by rw [e1, e2]; omega)).mono fun r m' ⟨v', p', h1, h2, h3⟩ => ⟨v', p', h1, h2, ?_⟩
  rw [← bc_append] at h3
  exact ⟨h3.own, h3.keep, h3.new⟩
theorem build1 {m : Mem} {x : Int} : PrimSpec Tryz.prog (.buildSlice 80 1 [0]) [.v (.int .u8 x)] m fun r m' => ∃ b, m b = none ∧ r = [.v (.slice (some ⟨b, 0, none⟩) 1 1)] ∧ m' = m.set b (.cells (bc [x]).toArray 5) :=
  buildSlice_spec (n := 1) tt_ok hBs rfl hU8 rfl rfl (by simp [CV.cs]) (by simp) (by simp)
theorem Lb.blk {m : Mem} {b : Nat} {l : List Int} {n : Nat} (hb : m b = some (.cells (bc l).toArray 5)) (hn : l.length = n) : Lb m (.slice (some ⟨b, 0, none⟩) n n) l := (Bs.blk hb hn).lb
theorem push_mem {m m' : Mem} {b' : Nat} {o : Obj} {v v' : Value} {l : List Int} (hb : m b' = none) (h : BApd (m.set b' o) v l v' m') : BApd m v l v' m' :=
  ⟨h.own, fun b u hm hn => h.keep b u (Mem.sub_set _ hb _ _ hm) hn, fun b hv => (h.new b hv).imp id fun hx => by
    by_cases e : b = b'
    · subst e; exact hb
    · rw [Mem.set_ne _ _ e] at hx; exact hx⟩
theorem clone_spec {m : Mem} {v : Value} {l : List Int} (hv : La m v l) (hb : l.length ≤ 100000000) :
    Spec Tryz.prog 95 [.v v] m fun r m' => ∃ v' p, r = [.v v'] ∧ Split m' [p, m] ∧ Bs p v' l := by
  have key : (∃ c, v = .slice none 0 c ∧ l = []) ∨ ∃ a c, v = .slice (some a) l.length c := by
    rcases hv with hv | ⟨rfl, a, rfl⟩
    · rcases hv.cases with ⟨c, rfl, rfl⟩ | ⟨b, o, c, arr, t, fr, rfl, _⟩
      · exact .inl ⟨c, rfl, rfl⟩
      · exact .inr ⟨_, _, rfl⟩
    · exact .inr ⟨_, _, rfl⟩
  rcases key with ⟨c, rfl, rfl⟩ | ⟨a, c, rfl⟩
  · refine en95 rfl (goY ?_)
    conv => whnf
    refine ⟨fun _ => ?_, fun h => absurd h (by decide)⟩
    conv => whnf
    exact ⟨_, emp, rfl, (Split.one m).addEmp, Bs.nil _⟩
  · refine en95 rfl (goY ?_)
    conv => whnf
    refine ⟨fun h => absurd h (by decide), fun _ => ?_⟩
    conv => whnf
    refine .mk _ (buildSlice0_spec tt_ok hBs rfl hU8) ?_
    rintro _ _ ⟨b', hb', rfl, rfl⟩
    conv => whnf
    refine .mk _ (appendBat (i := 0) ((Split.one m).new hb' _) rfl (Bs.blk (l := []) (blk1_same ..) rfl) (hv.sub (Mem.sub_set _ hb')) (by simp; omega)) ?_
    rintro _ m' ⟨v', p', rfl, h1, h2⟩
    conv => whnf
    exact ⟨v', p', rfl, h1, h2.own⟩
end Go.E.YtcionccfgcnhoaaGreatDoor
namespace Go.E
theorem ofInt_nat (w a : Nat) : BitVec.ofInt w (a : Int) = BitVec.ofNat w a := by simp
theorem toNat_ofInt {w a : Nat} (h : a < 2 ^ w) : (BitVec.ofInt w (a : Int)).toNat = a := by
  rw [ofInt_nat, BitVec.toNat_ofNat, Nat.mod_eq_of_lt h]
theorem or_u64 {a b : Nat} (ha : a < 2 ^ 64) (hb : b < 2 ^ 64) : bitsOf .or .u64 a b = ((a ||| b : Nat) : Int) := by
  have h := Nat.or_lt_two_pow ha hb
  show IntKind.u64.wrap ((BitVec.ofInt 64 a ||| BitVec.ofInt 64 b).toNat : Int) = _
  rw [BitVec.toNat_or, toNat_ofInt ha, toNat_ofInt hb, wu (by omega) (by omega)]
theorem and_u64 {a b : Nat} (ha : a < 2 ^ 64) (hb : b < 2 ^ 64) : bitsOf .and .u64 a b = ((a &&& b : Nat) : Int) := by
  have h := Nat.and_lt_two_pow a hb
  show IntKind.u64.wrap ((BitVec.ofInt 64 a &&& BitVec.ofInt 64 b).toNat : Int) = _
  rw [BitVec.toNat_and, toNat_ofInt ha, toNat_ofInt hb, wu (by omega) (by omega)]
theorem wu32 {n : Int} (h0 : 0 ≤ n) (h1 : n < 4294967296) : IntKind.u32.wrap n = n := by rw [IntKind.wrap_u32, Int.emod_eq_of_lt h0 h1]
theorem and_u32 {a b : Nat} (ha : a < 2 ^ 32) (hb : b < 2 ^ 32) : bitsOf .and .u32 a b = ((a &&& b : Nat) : Int) := by
  have h := Nat.and_lt_two_pow a hb
  show IntKind.u32.wrap ((BitVec.ofInt 32 a &&& BitVec.ofInt 32 b).toNat : Int) = _
  rw [BitVec.toNat_and, toNat_ofInt ha, toNat_ofInt hb, wu32 (by omega) (by omega)]
theorem xor_u32 {a b : Nat} (ha : a < 2 ^ 32) (hb : b < 2 ^ 32) : bitsOf .xor .u32 a b = ((a ^^^ b : Nat) : Int) := by
  have h := Nat.xor_lt_two_pow ha hb
  show IntKind.u32.wrap ((BitVec.ofInt 32 a ^^^ BitVec.ofInt 32 b).toNat : Int) = _
  rw [BitVec.toNat_xor, toNat_ofInt ha, toNat_ofInt hb, wu32 (by omega) (by omega)]
theorem or_low {a c : Nat} (k : Nat) (hc : c < 2 ^ k) : (a * 2 ^ k) ||| c = a * 2 ^ k + c := by
  rw [Nat.mul_comm, Nat.two_pow_add_eq_or_of_lt hc]
theorem not_i64 {n : Int} (h0 : -9223372036854775808 ≤ n) (h1 : n ≤ 9223372036854775807) : bitsOf .xor .i64 (if IntKind.i64.signed = true then -1 else IntKind.i64.max) n = -n - 1 := by
  show IntKind.i64.wrap ((BitVec.ofInt 64 (-1) ^^^ BitVec.ofInt 64 n).toNat : Int) = _
  have e : BitVec.ofInt 64 (-1) = BitVec.allOnes 64 := by rfl
  have e2 : BitVec.allOnes 64 ^^^ BitVec.ofInt 64 n = ~~~ (BitVec.ofInt 64 n) := BitVec.allOnes_xor
  rw [e, e2, BitVec.toNat_not, BitVec.toNat_ofInt, IntKind.wrap_i64]
  omega
theorem shr_nat {k : IntKind} {x n : Nat} (hn : n ≤ k.bits) : shrOf k (x : Int) (n : Int) = ((x / 2 ^ n : Nat) : Int) := by
  show (x : Int).fdiv (2 ^ (min ((n : Int).toNat) k.bits)) = _
  rw [Int.toNat_natCast, Nat.min_eq_left hn, Int.fdiv_eq_ediv_of_nonneg _ (Int.le_of_lt (Int.pow_pos (by decide)))]
  simp
end Go.E
namespace Go.E.YtcionccfgcnhoaaGreatDoor
open Go.Proofs
set_option maxRecDepth 100000
def Wr (m : Mem) (bp : Nat) (l : List Int) : Prop := ∃ v, m bp = some (.cells #[v] 132) ∧ Bs m v l ∧ blkV v ≠ some bp
theorem shr8 (n : Int) (i : Nat) : shrOf .u64 ((n.toNat / 256 ^ i : Nat) : Int) 8 = ((n.toNat / 256 ^ (i + 1) : Nat) : Int) := by
  have e : shrOf .u64 ((n.toNat / 256 ^ i : Nat) : Int) 8 = ((n.toNat / 256 ^ i : Nat) : Int).fdiv 256 := rfl
  rw [e, Int.fdiv_eq_ediv_of_nonneg _ (by decide), Nat.pow_succ, ← Nat.div_div_eq_div_mul]; rfl
theorem Wr.appended {m m' : Mem} {bp : Nat} {v v' : Value} {l : List Int} {t : TypeId} {fr : Nat × Nat} (hb : m bp = some (.cells #[v] t fr)) (hn : blkV v ≠ some bp) (h : BApd m v l v' m') (ht : t = 132 := by rfl) (hfr : fr = (0, 0) := by rfl) :
    m' bp = some (.cells #[v] t fr) ∧ Wr (m'.set bp (.cells (#[v].setIfInBounds 0 v') t fr)) bp l := by
  subst ht hfr
  have hv' : blkV v' ≠ some bp := fun e => by
    rcases h.new bp e with h' | h'
    · exact hn h'
    · rw [hb] at h'; cases h'
  refine ⟨h.keep _ _ hb hn, v', Mem.set_same .., h.own.keep fun b e => ?_, hv'⟩
  exact Mem.set_ne _ _ (fun e' => hv' (by rw [e, e']))
theorem kept1 {m m' : Mem} {b : Nat} (h : m' b = m b) : Kept [b] m m' := fun x hx => by rw [List.mem_singleton.1 hx]; exact h
theorem wbyte {n : Int} (hn : U64 n) {j : Nat} {e : Int} (hj : j < (beB n).length) (he : e = ((8 * ((beB n).length - 1 - j) : Nat) : Int)) : IntKind.u8.wrap (shrOf .u64 n e) = (beB n)[j] := by
  have h8 := beB_len n
  have h := beB_at hj
  rw [List.getElem?_eq_getElem hj, Option.some.injEq] at h
  rw [h, he]
  have e1 : shrOf .u64 n ((8 * ((beB n).length - 1 - j) : Nat) : Int) = n.fdiv (2 ^ (8 * ((beB n).length - 1 - j))) := by
    show n.fdiv (2 ^ (min _ 64)) = _
    rw [Int.toNat_natCast, Nat.min_eq_left (by omega)]
  rw [e1, fdiv_pow hn, IntKind.wrap_u8]
  omega
set_option maxHeartbeats 1000000 in
theorem wnum_spec {m : Mem} {bp : Nat} {l : List Int} {n : Int} (hw : Wr m bp l) (hn : U64 n) (hb : l.length ≤ 100000000) :
    Spec Tryz.prog 69 [ptrV bp, u64 n] m fun r m' => r = [] ∧ Wr m' bp (l ++ numB n) := by
  obtain ⟨v, hbp, hv, hne⟩ := hw
  have h8 := beB_len n
  have hn0 := hn.1
  have hn1 := hn.2
  refine en69 rfl (goY ?_)
  conv => whnf
  refine ⟨fun h => absurd h (by first | decide | simp), fun _ => ?_⟩
  conv => whnf
  refine .mk (ι := Nat) (fun i => (beB n).length - i) (fun i mm => i ≤ (beB n).length ∧ mm = m)
    (fun i => [(0, .c (ptrV bp)), (1, .c (u64 n)), (4, .c (i64 i)), (5, .c (u64 ((n.toNat / 256 ^ i : Nat) : Int)))]) (fun _ => []) 0 ⟨by omega, rfl⟩ ?_ ?_
  · conv => whnf
    repeat (refine And.intro (by first | with_reducible rfl | (exact congrArg (Value.int _) (by simp; omega)) | exact congrArg (Value.int _) (wi (by omega) (by omega)) | exact wi (by omega) (by omega) | rfl) ?_; conv => whnf)
    first | exact trivial | exact fun _ _ h => h
  rintro i mm ⟨hi, rfl⟩
  conv => whnf
  refine ⟨fun h => ?_, fun h => ?_⟩
  · have h' := of_decide_eq_true h
    have hlt : i < (beB n).length := (beB_pos hn i).1 (by omega)
    conv => whnf
    refine ⟨i + 1, ⟨by omega, rfl⟩, by omega, ?_⟩
    conv => whnf
    repeat (refine And.intro (by first | with_reducible rfl | (first | exact congrArg (Value.int _) (iadd (by omega)) | exact congrArg (Value.int _) (shr8 n i)) | exact congrArg (Value.int _) (wi (by omega) (by omega)) | exact wi (by omega) (by omega) | rfl) ?_; conv => whnf)
    first | exact trivial | exact fun _ _ h => h
  · have h' := of_decide_eq_false h
    have hi' : i = (beB n).length := by
      have := (not_congr (beB_pos hn i)).1 (by omega)
      omega
    subst hi'
    conv => whnf
    refine ⟨v, mcell_of hbp rfl, hv.lb.one, ?_⟩
    conv => whnf
    refine .mk _ (build1) ?_
    rintro _ _ ⟨b', hb', rfl, rfl⟩
    conv => whnf
    refine .mk _ (appendB (hv.sub (Mem.sub_set _ hb')) (Lb.blk (Mem.set_same ..) rfl).la (by simp; omega)) ?_
    rintro _ m' ⟨v', rfl, h1⟩
    conv => whnf
    obtain ⟨h2, h3⟩ := Wr.appended hbp hne (push_mem hb' h1)
    refine ⟨_, _, _, h2, ⟨by simp, by omega⟩, ?_⟩
    conv => whnf
    have hk : IntKind.u8.wrap ((beB n).length : Int) = ((beB n).length : Int) := by rw [IntKind.wrap_u8]; omega
    rw [hk] at h3
    refine .mk (ι := Nat) (fun j => (beB n).length - j) (fun j mm => j ≤ (beB n).length ∧ Wr mm bp (l ++ (((beB n).length : Int) :: (beB n).take j)))
      (fun j => [(0, .c (ptrV bp)), (1, .c (u64 n)), (6, .c (i64 (((beB n).length : Int) - 1 - j)))]) (fun _ => []) 0 ⟨by omega, by simpa using h3⟩ ?_ ?_
    · conv => whnf
      repeat (refine And.intro (by first | with_reducible rfl | (exact congrArg (Value.int _) (by rw [wi (by omega) (by omega)]; omega)) | exact congrArg (Value.int _) (wi (by omega) (by omega)) | exact wi (by omega) (by omega) | rfl) ?_; conv => whnf)
      first | exact trivial | exact fun _ _ h => h
    rintro j m2 ⟨hj, v2, hbp2, hv2, hne2⟩
    conv => whnf
    refine ⟨fun h => ?_, fun h => ?_⟩
    · have h' := of_decide_eq_true h
      conv => whnf
      refine ⟨v2, mcell_of hbp2 rfl, hv2.lb.one, ?_⟩
      conv => whnf
      have hw8 : IntKind.i64.wrap (8 * (((beB n).length : Int) - 1 - j)) = ((8 * ((beB n).length - 1 - j) : Nat) : Int) := by rw [wi (by omega) (by omega)]; omega
      refine ⟨by omega, ?_⟩
      conv => whnf
      refine .mk _ build1 ?_
      rintro _ _ ⟨b2, hb2, rfl, rfl⟩
      refine ⟨kept1 (by rw [Mem.set_ne _ _ (fun e => by subst e; rw [hbp2] at hb2; cases hb2)]), ?_⟩
      conv => whnf
      refine .mk _ (appendB (hv2.sub (Mem.sub_set _ hb2)) (Lb.blk (Mem.set_same ..) rfl).la (by simp; omega)) ?_
      rintro _ m3 ⟨v3, rfl, h4⟩
      have h4 := push_mem hb2 h4
      rw [wbyte hn (by omega) hw8] at h4
      obtain ⟨h5, h6⟩ := Wr.appended hbp2 hne2 h4
      conv => whnf
      refine ⟨_, _, _, h5, ⟨by simp, by omega⟩, ?_⟩
      conv => whnf
      refine ⟨j + 1, ⟨by omega, ?_⟩, by omega, ?_⟩
      · rw [← List.take_append_getElem (by omega)]; simpa using h6
      · conv => whnf
        repeat (refine And.intro (by first | with_reducible rfl | (exact congrArg (Value.int _) (by rw [wi (by omega) (by omega)]; omega)) | exact congrArg (Value.int _) (wi (by omega) (by omega)) | exact wi (by omega) (by omega) | rfl) ?_; conv => whnf)
        first | exact trivial | exact fun _ _ h => h
    · have h' := of_decide_eq_false h
      have : j = (beB n).length := by omega
      subst this
      conv => whnf
      rw [List.take_length] at hv2
      exact ⟨rfl, v2, hbp2, hv2, hne2⟩
def I64 (n : Int) : Prop := -9223372036854775808 ≤ n ∧ n ≤ 9223372036854775807
theorem intU_U {n : Int} (h : I64 n) : U64 (intU n) := by
  have := h.1; have := h.2
  unfold intU U64; split <;> omega
theorem wint_pos {n : Int} (h : I64 n) (h0 : 0 ≤ n) : shlOf .u64 (IntKind.u64.wrap n) 1 = intU n := by
  have := h.2
  rw [wu h0 (by omega)]
  show IntKind.u64.wrap (n * 2) = intU n
  rw [wu (by omega) (by omega), intU, if_pos h0]; omega
theorem wint_neg {n : Int} (h : I64 n) (h0 : n < 0) : bitsOf BinOp.or .u64 (shlOf .u64 (IntKind.u64.wrap (bitsOf .xor .i64 (if IntKind.i64.signed = true then -1 else IntKind.i64.max) n)) 1) 1 = intU n := by
  have := h.1
  rw [not_i64 h.1 h.2, wu (by omega) (by omega)]
  have e1 : shlOf .u64 (-n - 1) 1 = (((-n - 1).toNat * 2 ^ 1 : Nat) : Int) := by
    show IntKind.u64.wrap ((-n - 1) * 2) = _
    rw [wu (by omega) (by omega)]; omega
  have e2 := or_u64 (a := (-n - 1).toNat * 2 ^ 1) (b := 1) (by omega) (by omega)
  rw [e1]
  refine e2.trans ?_
  rw [or_low 1 (by omega), intU, if_neg (by omega)]
  omega
theorem wint_spec {m : Mem} {bp : Nat} {l : List Int} {n : Int} (hw : Wr m bp l) (hn : I64 n) (hb : l.length ≤ 100000000) :
    Spec Tryz.prog 116 [ptrV bp, i64 n] m fun r m' => r = [] ∧ Wr m' bp (l ++ numB (intU n)) := by
  refine en116 rfl (goY ?_)
  conv => whnf
  refine ⟨fun h => ?_, fun h => ?_⟩
  · have h' := of_decide_eq_true h
    conv => whnf
    rw [wint_pos hn h']
    refine xcall (wnum_spec hw (intU_U hn) hb) ?_
    rintro _ m' ⟨rfl, h1⟩
    conv => whnf
    exact ⟨rfl, h1⟩
  · have h' := of_decide_eq_false h
    conv => whnf
    rw [wint_neg hn (by omega)]
    refine xcall (wnum_spec hw (intU_U hn) hb) ?_
    rintro _ m' ⟨rfl, h1⟩
    conv => whnf
    exact ⟨rfl, h1⟩
theorem numB_U {k : Nat} (h : k < 1000000000000) : U64 k := ⟨by omega, by omega⟩
set_option maxHeartbeats 1000000 in
theorem wtext_spec {m p q : Mem} {ls : List Mem} {i j : Nat} {bp : Nat} {l b : List Int} {v : Value} (hs : Split m ls) (hi : ls[i]? = some p) (hj : ls[j]? = some q) (hij : i ≠ j) (hw : Wr p bp l) (hv : La q v b) (hb : l.length ≤ 10000000) (hbb : b.length ≤ 10000000) :
    Spec Tryz.prog 70 [ptrV bp, .v v] m fun r m' => r = [] ∧ ∃ p', Split m' (ls.set i p') ∧ Wr p' bp (l ++ textB b) := by
  obtain ⟨a, c, rfl⟩ := hv.shape
  refine en70 rfl (goY ?_)
  conv => whnf
  refine ⟨fun h => absurd h (by first | decide | simp), fun _ => ?_⟩
  conv => whnf
  rw [wu (by omega) (by omega)]
  refine xcall ((wnum_spec hw (numB_U (by omega)) (by omega)).at hs hi) ?_
  rintro _ m1 ⟨p1, ⟨rfl, v1, hb1, hv1, hn1⟩, hs1⟩
  conv => whnf
  have hi1 := setGet hi p1
  have hj1 := setOther hj hij p1
  refine ⟨v1, mcell_of (hs1.at hi1 _ _ hb1) rfl, hv1.lb.one, ?_⟩
  conv => whnf
  refine .mk _ (appendBat hs1 hi1 hv1 (hv.sub (hs1.at hj1)) (by simp only [List.length_append]; have := numB_len (b.length : Int); omega)) ?_
  rintro _ m2 ⟨v2, p2, rfl, hs2, h2⟩
  conv => whnf
  obtain ⟨h3, h4⟩ := Wr.appended hb1 hn1 h2
  rw [List.set_set] at hs2
  have hi2 := setGet hi p2
  refine ⟨_, _, _, hs2.at hi2 _ _ h3, ⟨by simp, by omega⟩, ?_⟩
  conv => whnf
  have h5 := hs2.setAt hi2 h3 (Obj.cells (#[v1].setIfInBounds 0 v2) 132)
  rw [List.set_set] at h5
  rw [List.append_assoc] at h4
  exact ⟨rfl, _, h5, h4⟩
abbrev wvecV (v : List Int) : CV := .a [.ints .u64 8 v]
def WV8 (v : List Int) : Prop := v.length = 8 ∧ ∀ x ∈ v, U64 x
theorem vecB_len (v : List Int) : (vecB v).length ≤ 9 * v.length := by
  induction v with
  | nil => simp [vecB]
  | cons a v ih => have := numB_len a; simp only [vecB, List.map_cons, List.flatten_cons, List.length_append, List.length_cons] at ih ⊢; omega
theorem vecB_take {v : List Int} {i : Nat} (h : i < v.length) : vecB (v.take i) ++ numB (v.getD i 0) = vecB (v.take (i + 1)) := by
  rw [List.take_succ_eq_append_getElem h, vecB, vecB, List.map_append, List.flatten_append]; simp [h]
theorem WV8.at {v : List Int} (h : WV8 v) (i : Nat) : U64 (v.getD i 0) := by
  by_cases hi : i < v.length
  · have : v.getD i 0 ∈ v := by simp [hi]
    exact h.2 _ this
  · simp [List.getElem?_eq_none (Nat.le_of_not_lt hi)]; exact ⟨by decide, by decide⟩
set_option maxHeartbeats 1000000 in
theorem wvec_spec {m : Mem} {bp : Nat} {l v : List Int} (hw : Wr m bp l) (hv : WV8 v) (hb : l.length ≤ 10000000) :
    Spec Tryz.prog 115 [ptrV bp, wvecV v] m fun r m' => r = [] ∧ Wr m' bp (l ++ vecB v) := by
  have hl := hv.1
  refine en115 rfl (goY ?_)
  conv => whnf
  refine .mk (ι := Nat) (fun i => 8 - i) (fun i mm => i ≤ 8 ∧ Wr mm bp (l ++ vecB (v.take i)))
    (fun i => [(0, .c (ptrV bp)), (6, .c (wvecV v)), (7, .c (i64 i))]) (fun _ => []) 0 ⟨by omega, by simpa [vecB] using hw⟩ ?_ ?_
  · conv => whnf
    repeat (refine And.intro (by first | with_reducible rfl | exact congrArg (Value.int _) (wi (by omega) (by omega)) | exact wi (by omega) (by omega) | rfl) ?_; conv => whnf)
    first | exact trivial | exact fun _ _ h => h
  rintro i mm ⟨hi, h1⟩
  conv => whnf
  refine ⟨fun h => ?_, fun h => ?_⟩
  · have h' := of_decide_eq_true h
    conv => whnf
    repeat (refine And.intro (by first | omega | (simp only [times]; omega)) ?_; conv => whnf)
    refine xcall (wnum_spec (n := v.getD i 0) h1 (hv.at i) (by have := vecB_len (v.take i); simp only [List.length_append, List.length_take] at *; omega)) ?_
    rintro _ m2 ⟨rfl, h2⟩
    conv => whnf
    rw [List.append_assoc, vecB_take (by omega)] at h2
    refine ⟨i + 1, ⟨by omega, h2⟩, by omega, ?_⟩
    conv => whnf
    repeat (refine And.intro (by first | with_reducible rfl | (exact congrArg (Value.int _) (iadd (by omega))) | exact congrArg (Value.int _) (wi (by omega) (by omega)) | exact wi (by omega) (by omega) | rfl) ?_; conv => whnf)
    first | exact trivial | exact fun _ _ h => h
  · have h' := of_decide_eq_false h
    obtain rfl : i = 8 := by omega
    conv => whnf
    rw [List.take_of_length_le (by omega)] at h1
    exact ⟨rfl, h1⟩
theorem wbytes_spec {m : Mem} {bp : Nat} {l : List Int} (hw : Wr m bp l) (hb : l.length ≤ 100000000) :
    Spec Tryz.prog 72 [ptrV bp] m fun r m' => ∃ v' p, r = [.v v'] ∧ Split m' [p, m] ∧ Bs p v' l := by
  obtain ⟨v, hbp, hv, hne⟩ := hw
  refine en72 rfl (goY ?_)
  conv => whnf
  refine ⟨fun h => absurd h (by first | decide | simp), fun _ => ?_⟩
  conv => whnf
  refine ⟨v, mcell_of hbp rfl, hv.lb.one, ?_⟩
  conv => whnf
  refine xcall (clone_spec hv.lb.la hb) ?_
  rintro _ m' ⟨v', p, rfl, h1, h2⟩
  conv => whnf
  exact ⟨v', p, rfl, h1, h2⟩
end Go.E.YtcionccfgcnhoaaGreatDoor
namespace Go.E.YtcionccfgcnhoaaGreatDoor
abbrev nc (l : List Nat) : List Int := l.map fun (n : Nat) => (n : Int)
theorem nc_len (l : List Nat) : (nc l).length = l.length := by simp
theorem strEq (a b : ByteArray) : (a.toList == b.toList) = decide (a = b) := by
  by_cases h : a = b
  · subst h; simp
  · rw [decide_eq_false h]
    refine beq_eq_false_iff_ne.2 fun e => h ?_
    rw [ByteArray.toList_eq, ByteArray.toList_eq] at e
    cases a; cases b
    congr 1
    exact Array.toList_inj.1 e
end Go.E.YtcionccfgcnhoaaGreatDoor
namespace Go.E.YtcionccfgcnhoaaGreatDoor
open Go.Proofs
set_option maxRecDepth 100000
def isB (c : Nat) : Bool := (decide (97 ≤ c) && decide (c ≤ 122)) || (decide (48 ≤ c) && decide (c ≤ 57)) || decide (c = 45)
def keyOk (l : List Nat) : Bool := decide (0 < l.length) && decide (l.length ≤ 20) && l.all isB
theorem isByte_spec {m : Mem} {c : Nat} : Ret Tryz.prog 112 [.v (.int .u8 (c : Int))] m [boolV (isB c)] := by
  have e45 : ((c : Int) == 45) = decide (c = 45) := by by_cases h : c = 45 <;> simp [h]; omega
  refine en112 rfl (goY ?_)
  conv => whnf
  repeat' (first | (refine ⟨fun h => ?_, fun h => ?_⟩ <;> conv => whnf) | fail)
  all_goals (refine ⟨?_, rfl⟩; (try simp only [e45]); by_cases h45 : c = 45 <;> simp [isB, h45] at * <;> omega)
theorem chs_at (s : ByteArray) (i : Nat) : (s.data.toList.getD i 0).toNat = (chs s).getD i 0 := by
  simp only [chs, List.getD_eq_getElem?_getD, List.getElem?_map]
  cases s.data.toList[i]? <;> rfl
theorem right_key_spec {m : Mem} {s : ByteArray} (hs : s.size ≤ 1000000) : Ret Tryz.prog 64 [.v (.string s)] m [boolV (keyOk (chs s))] := by
  refine en64 rfl (goY ?_)
  conv => whnf
  refine .mk (ι := Nat) (fun i => s.size - i) (fun i mm => i ≤ s.size ∧ i ≤ 20 ∧ (∀ x ∈ (chs s).take i, isB x = true) ∧ mm = m) (fun i => [(0, .c (.v (.string s))), (5, .c (i64 s.size)), (6, .c (i64 i))]) (fun _ => []) 0 ⟨by omega, by omega, by simp, rfl⟩ ?_ ?_
  · conv => whnf
    repeat (refine And.intro (by first | with_reducible rfl | exact congrArg (Value.int _) (wi (by omega) (by omega)) | exact wi (by omega) (by omega) | rfl) ?_; conv => whnf)
    first | exact trivial | exact fun _ _ h => h
  rintro i mm ⟨hi, hi2, hall, he⟩
  subst mm
  conv => whnf
  refine ⟨fun h1 => ?_, fun h1 => ?_⟩
  · have h1' := of_decide_eq_true h1
    conv => whnf
    refine ⟨fun h2 => ?_, fun h2 => ?_⟩
    · conv => whnf
      have h2' := of_decide_eq_true h2
      refine ⟨?_, rfl⟩
      have : ¬ (s.size ≤ 20) := by omega
      simp [keyOk, chs_len, this]
    · have h2' := of_decide_eq_false h2
      conv => whnf
      have hlt : i < s.size := by omega
      refine ⟨⟨by omega, by omega⟩, ?_⟩
      conv => whnf
      rw [Int.toNat_natCast, chs_at]
      first | refine xretk (isByte_spec) ?_ | refine xret (isByte_spec) ?_
      conv => whnf
      have hli : i < (chs s).length := by rw [chs_len]; omega
      have hget : (chs s)[i]? = some ((chs s).getD i 0) := by simp [List.getD_eq_getElem?_getD, List.getElem?_eq_getElem hli]
      refine ⟨fun h3 => ?_, fun h3 => ?_⟩
      · conv => whnf
        refine ⟨?_, rfl⟩
        have h3' : isB ((chs s).getD i 0) = false := by simpa using h3
        have : (chs s).all isB = false := by
          rw [List.all_eq_false]
          exact ⟨_, List.mem_of_getElem? hget, by simp only [h3', Bool.false_eq_true, not_false_eq_true]⟩
        simp [keyOk, this]
      · conv => whnf
        have h3' : isB ((chs s).getD i 0) = true := by simpa using h3
        refine ⟨i + 1, ⟨by omega, by omega, ?_, rfl⟩, by omega, ?_⟩
        · intro x hx
          rw [List.take_succ_eq_append_getElem hli] at hx
          rcases List.mem_append.1 hx with hx | hx
          · exact hall x hx
          · rw [List.mem_singleton.1 hx]
            rw [List.getElem?_eq_getElem hli] at hget
            rw [Option.some.inj hget]; exact h3'
        · conv => whnf
          repeat (refine And.intro (by first | with_reducible rfl | (first | exact congrArg (Value.int _) (iadd (by omega))) | exact congrArg (Value.int _) (wi (by omega) (by omega)) | exact wi (by omega) (by omega) | rfl) ?_; conv => whnf)
          first | exact trivial | exact fun _ _ h => h
  · have h1' := of_decide_eq_false h1
    obtain rfl : i = s.size := by omega
    conv => whnf
    refine ⟨?_, rfl⟩
    have hl := chs_len s
    rw [← hl, List.take_length] at hall
    have : (chs s).all isB = true := List.all_eq_true.2 hall
    simp [keyOk, this, hl]
    omega
end Go.E.YtcionccfgcnhoaaGreatDoor
namespace Go.E
instance (l : List Int) : Decidable (Byt l) := inferInstanceAs (Decidable (∀ x ∈ l, 0 ≤ x ∧ x < 256))
namespace Fr
def stp (s : Nat) : Nat := if s % 2 = 1 then (s / 2) ^^^ 3988292384 else s / 2
def stps : Nat → Nat → Nat
  | 0, s => s
  | k + 1, s => stps k (stp s)
def crc1 (s c : Nat) : Nat := stps 8 (s ^^^ c)
def crc (l : List Int) : Nat := (l.foldl (fun s c => crc1 s c.toNat) 4294967295) ^^^ 4294967295
theorem stp_lt {s : Nat} (h : s < 2 ^ 32) : stp s < 2 ^ 32 := by
  unfold stp
  have : s / 2 < 2 ^ 32 := by omega
  split
  · exact Nat.xor_lt_two_pow this (by decide)
  · exact this
theorem stps_lt : ∀ {k s : Nat}, s < 2 ^ 32 → stps k s < 2 ^ 32
  | 0, _, h => h
  | k + 1, _, h => stps_lt (k := k) (stp_lt h)
theorem stps_succ : ∀ (k s : Nat), stps (k + 1) s = stp (stps k s)
  | 0, _ => rfl
  | k + 1, s => by rw [stps, stps_succ k, stps]
theorem fold_lt : ∀ {l : List Int} {s : Nat}, s < 2 ^ 32 → Byt l → l.foldl (fun s c => crc1 s c.toNat) s < 2 ^ 32
  | [], _, h, _ => h
  | c :: l, s, h, hb => fold_lt (l := l) (stps_lt (Nat.xor_lt_two_pow h (by have := hb c (by simp); omega))) fun x hx => hb x (by simp [hx])
theorem crc_lt {l : List Int} (hb : Byt l) : crc l < 2 ^ 32 := Nat.xor_lt_two_pow (fold_lt (by decide) hb) (by decide)
def four (s : Nat) : List Int := [((s % 256 : Nat) : Int), ((s / 256 % 256 : Nat) : Int), ((s / 65536 % 256 : Nat) : Int), ((s / 16777216 % 256 : Nat) : Int)]
theorem four_byt (s : Nat) : Byt (four s) := by
  intro x hx
  simp only [four, List.mem_cons, List.not_mem_nil, or_false] at hx
  rcases hx with rfl | rfl | rfl | rfl <;> omega
def wr (r : List Int) : List Int := numB (r.length : Int) ++ r ++ four (crc r)
def isRec (n : Nat) : Bool := decide (1 ≤ n) && decide (n ≤ 20000)
def next (b : List Int) : List Int × Nat × Int :=
  let s := rSmall 20000 (b, 0)
  if s.2.2 = 8 then ([], 0, 0) else if s.2.2 ≠ 0 ∨ s.1 = 0 then ([], 0, 3) else
  let at' := (numB s.1).length
  let n := s.1.toNat
  if (b.length : Int) - at' < n + 4 then ([], 0, 0) else
  let d := (b.drop at').take n
  if four (crc d) = (b.drop (at' + n)).take 4 then (d, at' + n + 4, 0) else ([], 0, 9)
def read : Nat → List Int → List (List Int) × Nat × Int
  | 0, _ => ([], 0, 0)
  | f + 1, b => let (d, n, e) := next b; if 0 < n then let (l, k, e') := read f (b.drop n); (d :: l, n + k, e') else ([], 0, e)
theorem numB_pos (n : Int) : 0 < (numB n).length := by simp [numB]
theorem next_le (b : List Int) : (next b).2.1 ≤ b.length := by
  unfold next
  dsimp only
  split
  · simp
  · split
    · simp
    · split
      · simp
      · split
        · simp only; omega
        · simp
theorem small_back {n : Nat} (h : n ≤ 20000) (t : List Int) : rSmall 20000 (numB (n : Int) ++ t, 0) = ((n : Int), (t, 0)) := by
  have h1 := rNum_back (n := (n : Int)) ⟨by omega, by omega⟩ t
  unfold rSmall
  rw [h1]
  dsimp only
  have : (decide ((0 : Int) ≤ 20000) && decide ((n : Int) ≤ max 20000 0)) = true := by simp; omega
  rw [this]; simp [rMust]
theorem small_cut {n : Nat} (h : n ≤ 20000) (k : Nat) (hk : k < (numB (n : Int)).length) : (rSmall 20000 ((numB (n : Int)).take k, 0)).2.2 = 8 := by
  obtain ⟨u, hu⟩ := rNum_cut (n := (n : Int)) k hk rfl
  unfold rSmall
  rw [hu]
  simp [rMust]
theorem next_back {r : List Int} (h : isRec r.length = true) (t : List Int) : next (wr r ++ t) = (r, (wr r).length, 0) := by
  have h' : 1 ≤ r.length ∧ r.length ≤ 20000 := by simpa [isRec] using h
  have e : wr r ++ t = numB (r.length : Int) ++ (r ++ (four (crc r) ++ t)) := by simp [wr]
  unfold next
  dsimp only
  rw [e, small_back h'.2, if_neg (by simp), if_neg (fun hh => hh.elim (fun h => h rfl) fun h => by have : (r.length : Int) = 0 := h; omega), Int.toNat_natCast]
  have hl : (wr r).length = (numB (r.length : Int)).length + r.length + 4 := by simp [wr, four]; omega
  rw [if_neg (by simp [four]; omega)]
  have d1 : (numB (r.length : Int) ++ (r ++ (four (crc r) ++ t))).drop (numB (r.length : Int)).length = r ++ (four (crc r) ++ t) := by simp
  have d2 : (numB (r.length : Int) ++ (r ++ (four (crc r) ++ t))).drop ((numB (r.length : Int)).length + r.length) = four (crc r) ++ t := by
    rw [← List.drop_drop, d1]; simp
  rw [d1, d2]
  have t1 : (r ++ (four (crc r) ++ t)).take r.length = r := by simp
  have t2 : (four (crc r) ++ t).take 4 = four (crc r) := by simp [four]
  rw [t1, t2, if_pos rfl, hl]
theorem next_cut {r : List Int} (h : isRec r.length = true) {k : Nat} (hk : k < (wr r).length) : next ((wr r).take k) = ([], 0, 0) := by
  have h' : 1 ≤ r.length ∧ r.length ≤ 20000 := by simpa [isRec] using h
  have hl : (wr r).length = (numB (r.length : Int)).length + r.length + 4 := by simp [wr, four]; omega
  have e : wr r = numB (r.length : Int) ++ (r ++ four (crc r)) := by simp [wr]
  unfold next
  dsimp only
  by_cases hn : k < (numB (r.length : Int)).length
  · have : (wr r).take k = (numB (r.length : Int)).take k := by rw [e, List.take_append_of_le_length (by omega)]
    rw [this, small_cut h'.2 k hn, if_pos rfl]
  · have : (wr r).take k = numB (r.length : Int) ++ (r ++ four (crc r)).take (k - (numB (r.length : Int)).length) := by
      rw [e, List.take_append, List.take_of_length_le (by omega)]
    have hlen : ((wr r).take k).length = k := by simp; omega
    have hs := small_back h'.2 ((r ++ four (crc r)).take (k - (numB (r.length : Int)).length))
    rw [← this] at hs
    rw [hs, if_neg (by simp), if_neg (fun hh => hh.elim (fun h => h rfl) fun h => by have : (r.length : Int) = 0 := h; omega), if_pos (by rw [hlen]; show (k : Int) - ((numB (r.length : Int)).length : Nat) < (((r.length : Int)).toNat : Nat) + 4; omega)]
theorem next_nil : next [] = ([], 0, 0) := by
  have := @small_cut 0 (by decide) 0 (by simp [numB])
  unfold next
  dsimp only
  rw [List.take_zero] at this
  rw [if_pos this]
def cat (l : List (List Int)) : List Int := (l.map wr).flatten
def whole : List (List Int) → Nat → Nat × Nat
  | [], _ => (0, 0)
  | r :: l, k => if (wr r).length ≤ k then let (a, b) := whole l (k - (wr r).length); (a + 1, (wr r).length + b) else (0, 0)
theorem wr_pos (r : List Int) : 0 < (wr r).length := by have := numB_pos (r.length : Int); simp only [wr, List.length_append]; omega
theorem read_cut : ∀ {l : List (List Int)} {k f : Nat}, (∀ r ∈ l, isRec r.length = true) → (whole l k).1 < f → read f ((cat l).take k) = (l.take (whole l k).1, (whole l k).2, 0)
  | [], k, f + 1, _, _ => by simp [cat, read, next_nil, whole]
  | r :: l, k, f + 1, h, hf => by
    have hr := h r (by simp)
    have hc : cat (r :: l) = wr r ++ cat l := by simp [cat]
    have hp := wr_pos r
    unfold whole at hf ⊢
    by_cases hk : (wr r).length ≤ k
    · have e : (cat (r :: l)).take k = wr r ++ (cat l).take (k - (wr r).length) := by
        rw [hc, List.take_append, List.take_of_length_le hk]
      rw [if_pos hk] at hf
      have ih := read_cut (l := l) (k := k - (wr r).length) (f := f) (fun r hr => h r (by simp [hr])) (by simp only at hf; omega)
      rw [if_pos hk, read, e, next_back hr]
      dsimp only
      rw [if_pos hp]
      have : (wr r ++ (cat l).take (k - (wr r).length)).drop (wr r).length = (cat l).take (k - (wr r).length) := by simp
      rw [this, ih]
      simp
    · have e : (cat (r :: l)).take k = (wr r).take k := by
        rw [hc, List.take_append_of_le_length (by omega)]
      rw [if_neg hk, read, e, next_cut hr (by omega)]
      simp
theorem whole_few : ∀ {l : List (List Int)} {k : Nat}, (whole l k).1 ≤ k
  | [], _ => by simp [whole]
  | r :: l, k => by
    have ih := whole_few (l := l) (k := k - (wr r).length)
    have hp := wr_pos r
    unfold whole
    split
    · simp only; omega
    · simp
def bits (d : Nat) : Nat → Nat
  | 0 => 0
  | i + 1 => if d / 2 ^ i % 2 = 1 then bits d i ^^^ 2 ^ i else bits d i
theorem cat_append (a b : List (List Int)) : cat (a ++ b) = cat a ++ cat b := by simp [cat]
theorem whole_all : ∀ {l : List (List Int)} {k : Nat}, (cat l).length ≤ k → whole l k = (l.length, (cat l).length)
  | [], k, _ => by simp [whole, cat]
  | r :: l, k, h => by
    have e : (cat (r :: l)).length = (wr r).length + (cat l).length := by simp [cat]
    unfold whole
    rw [if_pos (by omega), whole_all (l := l) (k := k - (wr r).length) (by omega), e]
    simp
theorem whole_le : ∀ {l : List (List Int)} {k : Nat}, (whole l k).1 ≤ l.length
  | [], _ => by simp [whole]
  | r :: l, k => by
    have := whole_le (l := l) (k := k - (wr r).length)
    unfold whole
    split
    · simp only [List.length_cons]; omega
    · simp
theorem cat_byt : ∀ {l : List (List Int)}, (∀ r ∈ l, Byt r) → Byt (cat l)
  | [], _ => by intro x hx; simp [cat] at hx
  | r :: l, h => by
    have e : cat (r :: l) = wr r ++ cat l := by simp [cat]
    rw [e]
    refine Byt.append (Byt.append (Byt.append (numB_byte _) (h r (by simp))) (four_byt _)) (cat_byt fun q hq => h q (by simp [hq]))
end Fr
end Go.E
namespace Go.E.YtcionccfgcnhoaaGreatDoor
open Go.Proofs
set_option maxRecDepth 100000
abbrev Kd := ByteArray × Ct
def isEn (e : En) : Bool := (decide (1 ≤ e.1) && decide (e.1 ≤ 60)) && decide (-1000 ≤ e.2.2.2) && decide (e.2.2.2 ≤ 1000)
def eAt (E : List En) (i : Nat) : En := E.getD i (0, 0, 0, 0)
theorem eAt_eq {E : List En} {i : Nat} (h : i < E.length) : E[i] = eAt E i := by rw [eAt, List.getD_eq_getElem?_getD, List.getElem?_eq_getElem h]; rfl
theorem eAt_mem {E : List En} {i : Nat} (h : i < E.length) : eAt E i ∈ E := by rw [← eAt_eq h]; exact List.getElem_mem h
def okE3 (u : List Int) (E : List En) (i : Nat) : Bool := isEn (eAt E i) && hasV u (enDot (eAt E i)) && (decide (i = 0) || eLess (eAt E (i - 1)) (eAt E i))
def liveC (E : List En) : List Dt := setF (E.map enDot)
def rightC (u : List Int) (E : List En) : Bool := decide (E.length ≤ 400) && (List.range E.length).all (okE3 u E) && decide ((liveC E).length = E.length)
def clashP (K : List En) (e : En) : Bool := K.any fun f => !decide (e = f) && decide (enDot e = enDot f)
def clashF (E K : List En) : Bool := E.any (clashP K)
def staysP (u : List Int) (K : List En) (both : Bool) (e : En) : Bool := (both && K.contains e) || !hasV u (enDot e)
def staysF (E : List En) (u : List Int) (K : List En) (both : Bool) : List En := E.filter (staysP u K both)
def joinL (u w : List Int) (E K : List En) : List En := staysF E w K true ++ staysF K u E false
def joinU (u w : List Int) : List Int := List.zipWith max (List.zipWith max (List.replicate 8 0) u) w
def twoF (a b : Ct) : Ct × Int :=
  if rightC a.1 a.2 = false ∨ rightC b.1 b.2 = false then ((zeros, []), 3)
  else if clashF a.2 b.2 then ((zeros, []), 14)
  else if 400 < (joinL a.1 b.1 a.2 b.2).length then ((zeros, []), 5)
  else ((joinU a.1 b.1, sortE (joinL a.1 b.1 a.2 b.2)), 0)
abbrev chI (s : ByteArray) : List Int := (chs s).map (fun (n : Nat) => (n : Int))
def entB (e : En) : List Int := numB e.1 ++ numB e.2.1 ++ numB e.2.2.1 ++ numB (intU e.2.2.2)
def entsB (E : List En) : List Int := (E.map entB).flatten
def cartB (c : Ct) : List Int := vecB c.1 ++ numB c.2.length ++ entsB c.2
def putB (c : Ct) : List Int := if rightC c.1 c.2 then cartB c else []
def kdB (x : Kd) : List Int := textB (chI x.1) ++ putB x.2
def kdsB (L : List Kd) : List Int := numB L.length ++ (L.map kdB).flatten
def entF (s : RS) : En × RS :=
  (((rSmall 60 s).1, (rSmall 8 (rSmall 60 s).2).1, (rNum (rSmall 8 (rSmall 60 s).2).2).1, (rInt (rNum (rSmall 8 (rSmall 60 s).2).2).2).1), (rInt (rNum (rSmall 8 (rSmall 60 s).2).2).2).2)
def entsF : Nat → List En → RS → List En × RS
  | 0, E, s => (E, s)
  | n + 1, E, s => if s.2 ≠ 0 then (E, s) else entsF n (E ++ [(entF s).1]) (entF s).2
def takeD (s : RS) : List En × RS := entsF (rSmall 400 (rVec s).2).1.toNat [] (rSmall 400 (rVec s).2).2
def takeS (s : RS) : RS := rMust (rightC (rVec s).1 (takeD s).1) (takeD s).2
def takeC (s : RS) : Ct × RS := (if (takeS s).2 ≠ 0 then (zeros, []) else ((rVec s).1, (takeD s).1), takeS s)
def strI (l : List Int) : ByteArray := ⟨(l.map fun x => UInt8.ofNat x.toNat).toArray⟩
def endR (s : RS) : Int := if s.2 ≠ 0 then s.2 else if s.1 = [] then 0 else 2
def readR (b : List Int) : Kd × Bool :=
  ((strI (rText 20 (b, 0)).1, (takeC (rText 20 (b, 0)).2).1), decide (endR (takeC (rText 20 (b, 0)).2).2 = 0) && keyOk (chs (strI (rText 20 (b, 0)).1)))
def sLess (a b : ByteArray) : Bool := Op.bytesLess a.toList b.toList
def findK (L : List Kd) (k : ByteArray) : Option Ct := (L.find? fun x => decide (x.1 = k)).map (·.2)
def getK (L : List Kd) (k : ByteArray) : Ct := (findK L k).getD (zeros, [])
def insK (k : ByteArray) (c : Ct) : List Kd → List Kd
  | [] => [(k, c)]
  | x :: L => if sLess k x.1 then (k, c) :: x :: L else x :: insK k c L
def withK (L : List Kd) (k : ByteArray) (c : Ct) : List Kd :=
  if L.any fun x => decide (x.1 = k) then L.map fun x => if x.1 = k then (k, c) else x else insK k c L
def withs (L : List Kd) (R : List Kd) : List Kd := R.foldl (fun L x => withK L x.1 x.2) L
theorem chI_byt (s : ByteArray) : Byt (chI s) := by
  intro x hx
  obtain ⟨n, hn, rfl⟩ := List.mem_map.1 hx
  obtain ⟨c, _, rfl⟩ := List.mem_map.1 hn
  have := c.toNat_lt
  omega
theorem strI_chI (s : ByteArray) : strI (chI s) = s := by
  obtain ⟨⟨l⟩⟩ := s
  simp [strI, chI, chs, Function.comp_def]
theorem hasV_rng {u : List Int} (hu : WV8 u) {d : Dt} (h : hasV u d = true) : 1 ≤ d.1 ∧ d.1 ≤ 8 ∧ 1 ≤ d.2 ∧ d.2 < 18446744073709551616 := by
  simp only [hasV, rightD, rightN, isN, Bool.and_eq_true, decide_eq_true_eq] at h
  obtain ⟨⟨⟨h1, h2⟩, h3⟩, h4⟩ := h
  refine ⟨h1, h2, by omega, ?_⟩
  have h5 : U64 (getN u d.1) := by
    unfold getN
    split
    · exact hu.at _
    · exact ⟨by omega, by omega⟩
  have := h5.2
  omega
structure GoodE (e : En) : Prop where
  i1 : 1 ≤ e.1
  i2 : e.1 ≤ 60
  n1 : 1 ≤ e.2.1
  n2 : e.2.1 ≤ 8
  k1 : 1 ≤ e.2.2.1
  k2 : e.2.2.1 < 18446744073709551616
  q1 : -1000 ≤ e.2.2.2
  q2 : e.2.2.2 ≤ 1000
theorem rightC_good {u : List Int} {E : List En} (hu : WV8 u) (h : rightC u E = true) : ∀ e ∈ E, GoodE e := by
  intro e he
  simp only [rightC, Bool.and_eq_true, List.all_eq_true, List.mem_range, decide_eq_true_eq] at h
  obtain ⟨i, hi, rfl⟩ := List.getElem_of_mem he
  have := h.1.2 i hi
  rw [eAt_eq hi]
  simp only [okE3, isEn, Bool.and_eq_true, decide_eq_true_eq] at this
  obtain ⟨⟨⟨⟨⟨h1, h2⟩, h3⟩, h4⟩, h5⟩, _⟩ := this
  obtain ⟨g1, g2, g3, g4⟩ := hasV_rng hu h5
  exact ⟨h1, h2, g1, g2, g3, g4, h3, h4⟩
theorem rightC_len {u : List Int} {E : List En} (h : rightC u E = true) : E.length ≤ 400 := by
  simp only [rightC, Bool.and_eq_true, decide_eq_true_eq] at h
  exact h.1.1
theorem entF_back {e : En} (h : GoodE e) (t : List Int) : entF (entB e ++ t, 0) = (e, (t, 0)) := by
  obtain ⟨i, n, k, q⟩ := e
  obtain ⟨h1, h2, h3, h4, h5, h6, h7, h8⟩ := h
  simp only at h1 h2 h3 h4 h5 h6 h7 h8
  simp only [entF, entB, List.append_assoc]
  rw [rSmall_back ⟨by omega, by omega⟩ h2]
  simp only
  rw [rSmall_back ⟨by omega, by omega⟩ h4]
  simp only
  rw [rNum_back ⟨by omega, h6⟩]
  simp only
  rw [rInt_back ⟨by omega, by omega⟩]
theorem entsF_back : ∀ (E : List En) (E0 : List En) (t : List Int), (∀ e ∈ E, GoodE e) → entsF E.length E0 (entsB E ++ t, 0) = (E0 ++ E, (t, 0))
  | [], E0, t, _ => by simp [entsF, entsB]
  | e :: E, E0, t, h => by
    have ih := entsF_back E (E0 ++ [e]) t fun x hx => h x (List.mem_cons_of_mem _ hx)
    have e1 : entsB (e :: E) ++ t = entB e ++ (entsB E ++ t) := by simp [entsB]
    rw [List.length_cons, entsF, if_neg (by simp), e1, entF_back (h e (by simp)), ih]
    simp
theorem takeC_back {c : Ct} (hu : WV8 c.1) (h : rightC c.1 c.2 = true) (t : List Int) : takeC (cartB c ++ t, 0) = (c, (t, 0)) := by
  obtain ⟨u, E⟩ := c
  have hl := rightC_len h
  simp only at hl h hu
  have e1 : rVec (cartB (u, E) ++ t, 0) = (u, (numB (E.length : Int) ++ (entsB E ++ t), 0)) := by
    simp only [cartB, List.append_assoc]
    exact rVec_back hu.1 hu.2 _
  have e2 : takeD (cartB (u, E) ++ t, 0) = (E, (t, 0)) := by
    unfold takeD
    rw [e1]
    simp only
    rw [rSmall_back (numB_U (by omega)) (by omega)]
    simp only [Int.toNat_natCast]
    rw [entsF_back E [] t (rightC_good hu h)]
    rfl
  have e3 : takeS (cartB (u, E) ++ t, 0) = (t, 0) := by
    unfold takeS
    rw [e1, e2, h]
    simp [rMust]
  unfold takeC
  rw [e3, e1, e2]
  simp
theorem readR_back {x : Kd} (hk : keyOk (chs x.1) = true) (hu : WV8 x.2.1) (h : rightC x.2.1 x.2.2 = true) : readR (kdB x) = (x, true) := by
  have hl : (chI x.1).length ≤ 20 := by
    simp only [keyOk, Bool.and_eq_true, decide_eq_true_eq] at hk
    rw [List.length_map]; exact hk.1.2
  unfold readR kdB putB
  rw [if_pos h, rText_back (by omega) (by omega)]
  simp only
  have := takeC_back hu h []
  rw [List.append_nil] at this
  rw [this]
  simp only [strI_chI, endR]
  rw [hk]
  simp
theorem hI : tt.get 3 = some ⟨.int .i64, 1, 8, [.one (.int .i64 0)], false⟩ := by rfl
theorem grow_spec {m : Mem} {n : Nat} (hn : n ≤ 100000000) :
    Spec Tryz.prog 169 [.v (.slice none 0 0), .v (.int .i64 n)] m fun r m' => ∃ v p, r = [.v v] ∧ Split m' [p, m] ∧ Bs p v [] := by
  refine en169 rfl (goY ?_)
  conv => whnf
  refine ⟨fun h => absurd h (by (simp; try omega)), fun _ => ?_⟩
  conv => whnf
  refine .mk _ (cap_spec tt_ok hBs rfl) ?_
  rintro _ _ ⟨rfl, rfl⟩
  conv => whnf
  have e : IntKind.i64.wrap ((n : Int) - IntKind.i64.wrap (((0 : Nat) : Int) - ((0 : Nat) : Int))) = (n : Int) := by rw [wi (n := ((0 : Nat) : Int) - ((0 : Nat) : Int)) (by omega) (by omega), wi (by omega) (by omega)]; omega
  rw [e]
  refine ⟨fun h => ?_, fun h => ?_⟩
  · have h' := of_decide_eq_true h
    conv => whnf
    refine .mk _ (cap_spec tt_ok hBs rfl) ?_
    rintro _ _ ⟨rfl, rfl⟩
    conv => whnf
    repeat (refine And.intro (by first | omega | (simp only [times]; omega)) ?_; conv => whnf)
    refine .mk _ (appendZeros_spec (n := 0) (c := 0) (a := none) (l := []) tt_ok hBs rfl hU8 hI rfl (by decide) rfl (.inl ⟨0, rfl, rfl⟩) (by omega) (by omega) (by simp only; omega) (by omega)) ?_
    rintro _ _ ⟨b, C, hb, hC, rfl, rfl⟩
    conv => whnf
    repeat (refine And.intro (by first | omega | (simp only [times]; omega)) ?_; conv => whnf)
    intro o' h1 h2
    obtain rfl : o' = 0 := by have := h1 (by omega); simpa using this
    conv => whnf
    refine ⟨_, blk1 b _, rfl, (Split.one m).new hb _, .inr ⟨b, 0, C, 0, _, rfl, blk1_same .., rfl, Nat.zero_le _, ?_, by intro j u hu; simp [bc] at hu, by simp [bc]⟩⟩
    simp only [Array.size_append, zeroCells_size, List.size_toArray, List.length_nil, LB.cells, Seg.cells, List.length_append, List.length_cons]
    omega
  · have h' := of_decide_eq_false h
    conv => whnf
    exact ⟨_, emp, rfl, (Split.one m).addEmp, Bs.nil _⟩
structure Lists (m : Mem) (v : Value) (ps : List (Value × List Int)) : Prop where
  lies : Lies m 1 v (ps.map (·.1))
  la : ∀ p ∈ ps, La m p.1 p.2
theorem Lists.shape {m : Mem} {v : Value} {ps : List (Value × List Int)} (h : Lists m v ps) : ∃ a c, v = .slice a ps.length c := by
  rcases h.lies with ⟨c, rfl, e⟩ | ⟨b, o, c, n, arr, t, fr, rfl, _, e, _⟩
  · have : ps.length = 0 := by simpa using congrArg List.length e
    exact ⟨none, c, by rw [this]⟩
  · have : ps.length = n := by simpa using e
    exact ⟨_, c, by rw [this]⟩
theorem Lists.real {m : Mem} {v : Value} {ps : List (Value × List Int)} (h : Lists m v ps) {i : Nat} (hi : i < ps.length) : ∃ b o c, v = .slice (some ⟨b, o, none⟩) ps.length c ∧ ∀ (i : Nat) (hi : i < ps.length), mcell m b (o + i) = some ps[i].1 := by
  rcases h.lies with ⟨c, rfl, e⟩ | ⟨b, o, c, n, arr, t, fr, rfl, g1, e, _, g2, _⟩
  · have : ps.length = 0 := by simpa using congrArg List.length e
    omega
  · have : ps.length = n := by simpa using e
    exact ⟨b, o, c, by rw [this], fun j hj => mcell_of g1 (g2 j _ (by simp [hj]))⟩
def catB (ps : List (Value × List Int)) : List Int := (ps.map (·.2)).flatten
theorem catB_take {ps : List (Value × List Int)} {i : Nat} (h : i < ps.length) : catB (ps.take i) ++ ps[i].2 = catB (ps.take (i + 1)) := by
  rw [List.take_succ_eq_append_getElem h, catB, catB, List.map_append, List.flatten_append]; simp
theorem catB_le {ps : List (Value × List Int)} (i : Nat) : (catB (ps.take i)).length ≤ (catB ps).length := by
  have e : catB ps = catB (ps.take i) ++ catB (ps.drop i) := by
    rw [catB, catB, catB, ← List.flatten_append, ← List.map_append, List.take_append_drop]
  rw [e, List.length_append]; omega
theorem iadd' {i : Nat} (h : i < 1000000000000) : IntKind.i64.wrap ((i : Int) + 1) = ((i + 1 : Nat) : Int) := by rw [wi (by omega) (by omega)]; omega
set_option maxHeartbeats 1000000 in
theorem concat_spec {m : Mem} {v : Value} {ps : List (Value × List Int)} (h : Lists m v ps) (hb : (catB ps).length ≤ 10000000) (hn : ps.length ≤ 10000000) :
    Spec Tryz.prog 125 [.v v] m fun r m' => ∃ v' p, r = [.v v'] ∧ Split m' [p, m] ∧ Bs p v' (catB ps) := by
  obtain ⟨a, c, rfl⟩ := h.shape
  refine en125 rfl (goY ?_)
  conv => whnf
  refine .mk (ι := Nat) (fun i => ps.length - i) (fun i mm => i ≤ ps.length ∧ mm = m) (fun i => [(0, .c (.v (.slice a ps.length c))), (3, .c (i64 (catB (ps.take i)).length)), (9, .c (.v (.slice a ps.length c))), (10, .c (i64 ps.length)), (11, .c (i64 i))]) (fun _ => []) 0 ⟨by omega, rfl⟩ ?_ ?_
  · conv => whnf
    repeat (refine And.intro (by first | with_reducible rfl | exact congrArg (Value.int _) (wi (by omega) (by omega)) | exact wi (by omega) (by omega) | rfl) ?_; conv => whnf)
    first | exact trivial | exact fun _ _ h => h
  rintro i mm ⟨hi, he⟩
  subst mm
  conv => whnf
  refine ⟨fun h1 => ?_, fun h1 => ?_⟩
  · have h1' := of_decide_eq_true h1
    have hlt : i < ps.length := by omega
    obtain ⟨b, o, c', e, hat⟩ := h.real hlt
    cases e
    have hla := h.la ps[i] (by simp)
    obtain ⟨ai, ci, hvi⟩ := hla.shape
    have hc := hat i hlt
    rw [hvi] at hc
    have hle := catB_le (ps := ps) (i + 1)
    rw [← catB_take hlt, List.length_append] at hle
    conv => whnf
    repeat (refine And.intro (by first | omega | (simp only [times]; omega)) ?_; conv => whnf)
    refine ⟨_, hc, rfl, ?_⟩
    conv => whnf
    have e3 : IntKind.i64.wrap (((catB (ps.take i)).length : Int) + (ps[i].2.length : Int)) = ((catB (ps.take (i + 1))).length : Int) := by
      rw [← catB_take hlt, List.length_append, wi (by omega) (by omega)]; omega
    rw [e3]
    refine ⟨fun h => absurd h (by (simp; try omega)), fun _ => ?_⟩
    conv => whnf
    refine ⟨i + 1, ⟨by omega, rfl⟩, by omega, ?_⟩
    conv => whnf
    repeat (refine And.intro (by first | with_reducible rfl | (exact congrArg (Value.int _) (iadd' (by omega))) | exact congrArg (Value.int _) (wi (by omega) (by omega)) | exact wi (by omega) (by omega) | rfl) ?_; conv => whnf)
    first | exact trivial | exact fun _ _ h => h
  · have h1' := of_decide_eq_false h1
    obtain rfl : i = ps.length := by omega
    rw [List.take_length]
    conv => whnf
    refine xcall (grow_spec (n := (catB ps).length) (by omega)) ?_
    rintro _ m2 ⟨v2, p2, rfl, hs2, hv2⟩
    conv => whnf
    refine .mk (ι := Nat × Value) (fun i => ps.length - i.1) (fun ⟨i, x⟩ mm => i ≤ ps.length ∧ ∃ p, Split mm [p, m] ∧ Bs p x (catB (ps.take i))) (fun ⟨i, x⟩ => [(6, .c (.v x)), (25, .c (.v (.slice a ps.length c))), (26, .c (i64 ps.length)), (27, .c (i64 i))]) (fun _ => []) (0, v2) ⟨by omega, p2, hs2, by simpa [catB] using hv2⟩ ?_ ?_
    · conv => whnf
      repeat (refine And.intro (by first | with_reducible rfl | exact congrArg (Value.int _) (wi (by omega) (by omega)) | exact wi (by omega) (by omega) | rfl) ?_; conv => whnf)
      first | exact trivial | exact fun _ _ h => h
    rintro ⟨i, x⟩ mm ⟨hi, p, hs, hx⟩
    conv => whnf
    refine ⟨fun h2 => ?_, fun h2 => ?_⟩
    · have h2' := of_decide_eq_true h2
      have hlt : i < ps.length := by omega
      obtain ⟨b, o, c', e, hat⟩ := h.real hlt
      cases e
      have hla := h.la ps[i] (by simp)
      have hle := catB_le (ps := ps) (i + 1)
      rw [← catB_take hlt, List.length_append] at hle
      have hc : mcell mm b (o + i) = some ps[i].1 := by
        have := hat i hlt
        unfold mcell at this ⊢
        split at this
        · rename_i arr t fr hm
          rw [hs.at (i := 1) rfl _ _ hm]; exact this
        · cases this
      conv => whnf
      repeat (refine And.intro (by first | omega | (simp only [times]; omega)) ?_; conv => whnf)
      refine ⟨_, hc, hla.one, ?_⟩
      conv => whnf
      refine .mk _ (appendBat (i := 0) hs rfl hx (hla.sub (hs.at (i := 1) rfl)) (by omega)) ?_
      rintro _ m3 ⟨v3, p3, rfl, hs3, hv3⟩
      conv => whnf
      refine ⟨(i + 1, v3), ⟨by omega, p3, hs3, ?_⟩, by simp only; omega, ?_⟩
      · have := hv3.own
        rw [catB_take hlt] at this; exact this
      · conv => whnf
        repeat (refine And.intro (by first | with_reducible rfl | (exact congrArg (Value.int _) (iadd' (by omega))) | exact congrArg (Value.int _) (wi (by omega) (by omega)) | exact wi (by omega) (by omega) | rfl) ?_; conv => whnf)
        first | exact trivial | exact fun _ _ h => h
    · have h2' := of_decide_eq_false h2
      obtain rfl : i = ps.length := by omega
      rw [List.take_length] at hx
      conv => whnf
      exact ⟨x, p, rfl, hs, hx⟩
theorem hLs : tt.get 69 = some ⟨.slice 80, 1, 24, [.one (.slice none 0 0)], false⟩ := by rfl
theorem buildL1 {m : Mem} {x : Value} : PrimSpec Tryz.prog (.buildSlice 69 1 [0]) [.v x] m fun r m' => ∃ b, m b = none ∧ r = [.v (.slice (some ⟨b, 0, none⟩) 1 1)] ∧ m' = m.set b (.cells #[x] 80) :=
  buildSlice_spec (n := 1) tt_ok hLs rfl hBs rfl rfl (by simp [CV.cs]) (by simp) (by simp)
theorem Lists.blk {m : Mem} {b n : Nat} {ps : List (Value × List Int)} {t : TypeId} {fr : Nat × Nat} (h : m b = some (.cells (ps.map (·.1)).toArray t fr)) (hn : ps.length = n) (hl : ∀ p ∈ ps, La m p.1 p.2) : Lists m (.slice (some ⟨b, 0, none⟩) n n) ps := by
  refine ⟨.inr ⟨b, 0, n, n, _, _, _, rfl, h, by simp [hn], Nat.le_refl _, fun j u hu => by simpa using hu, fun u hu => ?_⟩, fun p hp => hl p hp⟩
  obtain ⟨p, hp, rfl⟩ := List.mem_map.1 hu
  exact (hl p hp).one
theorem Lists.three {m : Mem} {b : Nat} {v w u : Value} {l k j : List Int} {t : TypeId} {fr : Nat × Nat} (h : m b = some (.cells #[v, w, u] t fr)) (hl : La m v l) (hk : La m w k) (hj : La m u j) : Lists m (.slice (some ⟨b, 0, none⟩) 3 3) [(v, l), (w, k), (u, j)] :=
  Lists.blk (ps := [(v, l), (w, k), (u, j)]) h rfl (by simpa using ⟨hl, hk, hj⟩)
theorem buildL3 {m : Mem} {x y z : Value} : PrimSpec Tryz.prog (.buildSlice 69 3 [0, 1, 2]) [.v x, .v y, .v z] m fun r m' => ∃ b, m b = none ∧ r = [.v (.slice (some ⟨b, 0, none⟩) 3 3)] ∧ m' = m.set b (.cells #[x, y, z] 80) :=
  buildSlice_spec (n := 3) tt_ok hLs rfl hBs rfl rfl (by simp [CV.cs]) (by simp) (by simp)
theorem pushL {m : Mem} {ls : List Mem} {p : Mem} {b' : Nat} {x y : Value} {vs : List Value} (hs : Split m (p :: ls)) (hb : m b' = none) (hx : x.oneCell' = true) (hy : Own p 80 1 y vs) (hl : vs.length ≤ 100000000) :
    PrimSpec Tryz.prog (.builtin .append [69, 69]) [.v y, .v (.slice (some ⟨b', 0, none⟩) 1 1)] (m.set b' (.cells #[x] 80)) fun r m' => ∃ y' p', r = [.v y'] ∧ Split m' (p' :: ls) ∧ Own p' 80 1 y' (vs ++ [x]) := by
  have hs1 := hs.new hb (.cells #[x] 80)
  have e1 := hy.lies.len
  have e2 : lenV (.slice (some ⟨b', 0, none⟩) 1 1) = 1 := rfl
  have g : Gives (m.set b' (.cells #[x] 80)) 1 (.slice 80) (.slice (some ⟨b', 0, none⟩) 1 1) [x] :=
    .inl ⟨_, rfl, .inl (.inr ⟨b', 0, 1, 1, _, _, _, rfl, Mem.set_same .., rfl, Nat.le_refl _, fun j u hu => by simpa using hu, by simpa using hx⟩)⟩
  refine (append_at tt_ok hLs rfl hBs hLs rfl hs1 (i := 1) rfl hy g (by rw [e2]; simp only; omega) (by rw [e2]; omega)).mono fun r m' ⟨v', p', h1, h2, h3⟩ => ⟨v', p', h1, h2.erase 0, h3.own⟩
theorem hIs : tt.get 23 = some ⟨.slice 3, 1, 24, [.one (.slice none 0 0)], false⟩ := by rfl
theorem hI' : tt.get 3 = some ⟨.int .i64, 1, 8, [.one (.int .i64 0)], false⟩ := by rfl
abbrev ic (l : List Int) : List Value := l.map (Value.int .i64)
theorem ic_one {l : List Int} : ∀ u ∈ ic l, u.oneCell' = true := by
  intro u hu; obtain ⟨a, _, rfl⟩ := List.mem_map.1 hu; rfl
def Il (m : Mem) (v : Value) (l : List Int) : Prop := Lies m 1 v (ic l)
def Io (m : Mem) (v : Value) (l : List Int) : Prop := Own m 3 1 v (ic l)
def Ia (m : Mem) (v : Value) (l : List Int) : Prop := Il m v l ∨ (l = [] ∧ ∃ a, v = .slice (some a) 0 0)
theorem Il.sub {m m' : Mem} {v : Value} {l : List Int} (h : Il m v l) (hs : Sub m m') : Il m' v l := Lies.sub h hs
theorem Io.il {m : Mem} {v : Value} {l : List Int} (h : Io m v l) : Il m v l := Own.lies h
theorem Il.ia {m : Mem} {v : Value} {l : List Int} (h : Il m v l) : Ia m v l := .inl h
theorem Ia.sub {m m' : Mem} {v : Value} {l : List Int} (h : Ia m v l) (hs : Sub m m') : Ia m' v l := h.imp (·.sub hs) id
theorem Io.nil (m : Mem) : Io m (.slice none 0 0) [] := .inl ⟨rfl, rfl⟩
theorem Il.shape {m : Mem} {v : Value} {l : List Int} (h : Il m v l) : ∃ a c, v = .slice a l.length c := by
  rcases h with ⟨c, rfl, e⟩ | ⟨b, o, c, n, arr, t, fr, rfl, _, e, _⟩
  · have : l.length = 0 := by simpa using congrArg List.length e
    exact ⟨none, c, by rw [this]⟩
  · have : l.length = n := by simpa using e
    exact ⟨_, c, by rw [this]⟩
theorem Ia.shape {m : Mem} {v : Value} {l : List Int} (h : Ia m v l) : ∃ a c, v = .slice a l.length c := by
  rcases h with h | ⟨rfl, a, rfl⟩
  · exact h.shape
  · exact ⟨_, _, rfl⟩
theorem Ia.one {m : Mem} {v : Value} {l : List Int} (h : Ia m v l) : v.oneCell' = true := by obtain ⟨a, c, rfl⟩ := h.shape; rfl
theorem Ia.il {m : Mem} {v : Value} {l : List Int} (h : Ia m v l) (hl : l ≠ []) : Il m v l := h.elim id fun h => absurd h.1 hl
theorem Il.real {m : Mem} {v : Value} {l : List Int} (h : Il m v l) {i : Nat} (hi : i < l.length) : ∃ b o c, v = .slice (some ⟨b, o, none⟩) l.length c ∧ ∀ j (hj : j < l.length), mcell m b (o + j) = some (.int .i64 l[j]) := by
  rcases h with ⟨c, rfl, e⟩ | ⟨b, o, c, n, arr, t, fr, rfl, g1, e, _, g2, _⟩
  · have : l.length = 0 := by simpa using congrArg List.length e
    omega
  · have : l.length = n := by simpa using e
    exact ⟨b, o, c, by rw [this], fun j hj => mcell_of g1 (g2 j _ (by simp [hj]))⟩
theorem Ia.real {m : Mem} {v : Value} {l : List Int} (h : Ia m v l) {i : Nat} (hi : i < l.length) : ∃ b o c, v = .slice (some ⟨b, o, none⟩) l.length c ∧ ∀ j (hj : j < l.length), mcell m b (o + j) = some (.int .i64 l[j]) :=
  (h.il (by rintro rfl; simp at hi)).real hi
theorem Ia.lenV {m : Mem} {v : Value} {l : List Int} (h : Ia m v l) : lenV v = l.length := by obtain ⟨a, c, rfl⟩ := h.shape; rfl
theorem buildI1 {m : Mem} {x : Int} : PrimSpec Tryz.prog (.buildSlice 23 1 [0]) [.v (.int .i64 x)] m fun r m' => ∃ b, m b = none ∧ r = [.v (.slice (some ⟨b, 0, none⟩) 1 1)] ∧ m' = m.set b (.cells #[.int .i64 x] 3) :=
  buildSlice_spec (n := 1) tt_ok hIs rfl hI' rfl rfl (by simp [CV.cs]) (by simp) (by simp)
theorem Ia.gives {m : Mem} {v : Value} {l : List Int} {e : TypeId} (h : Ia m v l) : Gives m 1 (.slice e) v (ic l) := .inl ⟨e, rfl, h.imp id fun ⟨h1, h2⟩ => ⟨by rw [h1]; rfl, h2⟩⟩
theorem appendIat {m p : Mem} {ls : List Mem} {i : Nat} {v x : Value} {l news : List Int} (hs : Split m ls) (hi : ls[i]? = some p) (hv : Io p v l) (hg : Ia m x news) (hb : l.length + news.length ≤ 1000000000) :
    PrimSpec Tryz.prog (.builtin .append [23, 23]) [.v v, .v x] m fun r m' => ∃ v' p', r = [.v v'] ∧ Split m' (ls.set i p') ∧ Io p' v' (l ++ news) := by
  have e1 := hv.il.ia.lenV
  have e2 := hg.lenV
  refine (append_at tt_ok hIs rfl hI' hIs rfl hs hi hv hg.gives (by rw [e1, e2]; simp only; omega) (by rw [e1, e2]; omega)).mono fun r m' ⟨v', p', h1, h2, h3⟩ => ⟨v', p', h1, h2, ?_⟩
  have := h3.own
  rw [show ic l ++ ic news = ic (l ++ news) by simp [ic]] at this
  exact this
theorem Il.blk1 {m : Mem} {b : Nat} {x : Int} {t : TypeId} {fr : Nat × Nat} (h : m b = some (.cells #[.int .i64 x] t fr)) : Il m (.slice (some ⟨b, 0, none⟩) 1 1) [x] :=
  .inr ⟨b, 0, 1, 1, _, _, _, rfl, h, rfl, Nat.le_refl _, fun j u hu => by simpa [ic] using hu, by simp [ic, Value.oneCell']⟩
theorem pushI {m p : Mem} {ls : List Mem} {b' : Nat} {x : Int} {y : Value} {l : List Int} (hs : Split m (p :: ls)) (hb : m b' = none) (hy : Io p y l) (hl : l.length ≤ 100000000) :
    PrimSpec Tryz.prog (.builtin .append [23, 23]) [.v y, .v (.slice (some ⟨b', 0, none⟩) 1 1)] (m.set b' (.cells #[.int .i64 x] 3)) fun r m' => ∃ y' p', r = [.v y'] ∧ Split m' (p' :: ls) ∧ Io p' y' (l ++ [x]) := by
  have hs1 := hs.new hb (.cells #[.int .i64 x] 3)
  refine (appendIat (i := 1) hs1 rfl hy (Il.blk1 (Mem.set_same ..)).ia (by simp; omega)).mono fun r m' ⟨v', p', h1, h2, h3⟩ => ⟨v', p', h1, h2.erase 0, h3⟩
theorem iadd1 {i : Nat} (h : i < 1000000000000) : IntKind.i64.wrap ((i : Int) + 1) = ((i + 1 : Nat) : Int) := by rw [wi (by omega) (by omega)]; omega
theorem isNaNi_spec {m : Mem} {x : Int} : Ret Tryz.prog 191 [i64 x] m [boolV false] := by
  refine en191 rfl (goY ?_)
  conv => whnf
  exact ⟨by simp, rfl⟩
theorem isNaNu_spec {m : Mem} {x : Int} : Ret Tryz.prog 192 [u64 x] m [boolV false] := by
  refine en192 rfl (goY ?_)
  conv => whnf
  exact ⟨by simp, rfl⟩
theorem cmpInt_spec {m : Mem} {x y : Int} : Ret Tryz.prog 166 [i64 x, i64 y] m [i64 (cmpI x y)] := by
  refine en166 rfl (goY ?_)
  conv => whnf
  first | refine xretk (isNaNi_spec) ?_ | refine xret (isNaNi_spec) ?_
  conv => whnf
  first | refine xretk (isNaNi_spec) ?_ | refine xret (isNaNi_spec) ?_
  conv => whnf
  refine ⟨fun h => absurd h (by first | decide | simp), fun _ => ?_⟩
  conv => whnf
  refine ⟨fun h => absurd h (by first | decide | simp), fun _ => ?_⟩
  conv => whnf
  refine ⟨fun h => ?_, fun h => ?_⟩
  · conv => whnf
    exact ⟨by rw [cmpI, if_pos (of_decide_eq_true h)], rfl⟩
  have h1 := of_decide_eq_false h
  conv => whnf
  refine ⟨fun h => ?_, fun h => ?_⟩
  · conv => whnf
    exact ⟨by rw [cmpI, if_neg h1, if_pos (of_decide_eq_true h)], rfl⟩
  · conv => whnf
    exact ⟨by rw [cmpI, if_neg h1, if_neg (of_decide_eq_false h)], rfl⟩
theorem cmpUint_spec {m : Mem} {x y : Int} : Ret Tryz.prog 167 [u64 x, u64 y] m [i64 (cmpI x y)] := by
  refine en167 rfl (goY ?_)
  conv => whnf
  first | refine xretk (isNaNu_spec) ?_ | refine xret (isNaNu_spec) ?_
  conv => whnf
  first | refine xretk (isNaNu_spec) ?_ | refine xret (isNaNu_spec) ?_
  conv => whnf
  refine ⟨fun h => absurd h (by first | decide | simp), fun _ => ?_⟩
  conv => whnf
  refine ⟨fun h => absurd h (by first | decide | simp), fun _ => ?_⟩
  conv => whnf
  refine ⟨fun h => ?_, fun h => ?_⟩
  · conv => whnf
    exact ⟨by rw [cmpI, if_pos (of_decide_eq_true h)], rfl⟩
  have h1 := of_decide_eq_false h
  conv => whnf
  refine ⟨fun h => ?_, fun h => ?_⟩
  · conv => whnf
    exact ⟨by rw [cmpI, if_neg h1, if_pos (of_decide_eq_true h)], rfl⟩
  · conv => whnf
    exact ⟨by rw [cmpI, if_neg h1, if_neg (of_decide_eq_false h)], rfl⟩
theorem orI_zero : ∀ {l : List Int}, (∀ x ∈ l, x = 0) → orI l = 0
  | [], _ => rfl
  | x :: r, h => by rw [orI, if_pos (h x (by simp)), orI_zero fun y hy => h y (by simp [hy])]
theorem orI_at : ∀ {l : List Int} {i : Nat} (hi : i < l.length), (∀ x ∈ l.take i, x = 0) → l[i] ≠ 0 → orI l = l[i]
  | x :: r, 0, _, _, hne => by
    have hne : x ≠ 0 := hne
    rw [orI, if_neg hne]; rfl
  | x :: r, i + 1, hi, h, hne => by
    rw [orI, if_pos (h x (by simp))]
    exact orI_at (l := r) (by simpa using hi) (fun y hy => h y (by simp [hy])) hne
theorem orInt_spec {m : Mem} {v : Value} {l : List Int} (hv : Il m v l) (hl : l.length ≤ 1000000) : Ret Tryz.prog 165 [.v v] m [i64 (orI l)] := by
  obtain ⟨a, c, rfl⟩ := hv.shape
  refine en165 rfl (goY ?_)
  conv => whnf
  refine .mk (ι := Nat) (fun i => l.length - i) (fun i mm => i ≤ l.length ∧ (∀ x ∈ l.take i, x = 0) ∧ mm = m) (fun i => [(3, .c (i64 0)), (6, .c (.v (.slice a l.length c))), (7, .c (i64 l.length)), (8, .c (i64 i))]) (fun _ => []) 0 ⟨by omega, by simp, rfl⟩ ?_ ?_
  · conv => whnf
    repeat (refine And.intro (by first | with_reducible rfl | exact congrArg (Value.int _) (wi (by omega) (by omega)) | exact wi (by omega) (by omega) | rfl) ?_; conv => whnf)
    first | exact trivial | exact fun _ _ h => h
  rintro i mm ⟨hi, hall, he⟩
  subst mm
  conv => whnf
  refine ⟨fun h => ?_, fun h => ?_⟩
  · have h' := of_decide_eq_true h
    have hlt : i < l.length := by omega
    obtain ⟨bl, ol, c', hh, hg⟩ := hv.real hlt
    injection hh with hh1 _ hh3
    subst hh1
    clear hh3 c'
    have hg := hg i hlt
    conv => whnf
    repeat (refine And.intro (by first | omega | (simp only [times]; omega)) ?_; conv => whnf)
    refine ⟨_, by simp only [times, Int.toNat_natCast, Nat.mul_one]; exact hg, rfl, ?_⟩
    conv => whnf
    have hst : l.take (i + 1) = l.take i ++ [l[i]] := List.take_succ_eq_append_getElem hlt
    refine ⟨fun h => ?_, fun h => ?_⟩
    · have hne : l[i] ≠ 0 := by simpa using h
      conv => whnf
      exact ⟨by rw [orI_at hlt hall hne], rfl⟩
    · have hz : l[i] = 0 := by simpa using h
      conv => whnf
      refine ⟨i + 1, ⟨by omega, fun x hx => ?_, rfl⟩, by omega, ?_⟩
      · rw [hst] at hx
        rcases List.mem_append.1 hx with hx | hx
        · exact hall x hx
        · rw [List.mem_singleton.1 hx]; exact hz
      · conv => whnf
        repeat (refine And.intro (by first | with_reducible rfl | (first | exact congrArg (Value.int _) (iadd1 (by omega))) | exact congrArg (Value.int _) (wi (by omega) (by omega)) | exact wi (by omega) (by omega) | rfl) ?_; conv => whnf)
        first | exact trivial | exact fun _ _ h => h
  · have h' := of_decide_eq_false h
    obtain rfl : i = l.length := by omega
    rw [List.take_length] at hall
    conv => whnf
    exact ⟨by rw [orI_zero hall], rfl⟩
theorem buildI_2 {m : Mem} {x y : Int} : PrimSpec Tryz.prog (.buildSlice 23 2 [0, 1]) [i64 x, i64 y] m fun r m' => ∃ b, m b = none ∧ r = [.v (.slice (some ⟨b, 0, none⟩) 2 2)] ∧ m' = m.set b (.cells (ic [x, y]).toArray 3) :=
  buildSlice_spec (n := 2) tt_ok hIs rfl hI' rfl rfl (by simp [CV.cs]) (by simp) (by simp)
theorem buildI_4 {m : Mem} {x y z u : Int} : PrimSpec Tryz.prog (.buildSlice 23 4 [0, 1, 2, 3]) [i64 x, i64 y, i64 z, i64 u] m fun r m' => ∃ b, m b = none ∧ r = [.v (.slice (some ⟨b, 0, none⟩) 4 4)] ∧ m' = m.set b (.cells (ic [x, y, z, u]).toArray 3) :=
  buildSlice_spec (n := 4) tt_ok hIs rfl hI' rfl rfl (by simp [CV.cs]) (by simp) (by simp)
theorem Il.blk {m : Mem} {b : Nat} {l : List Int} {t : TypeId} {fr : Nat × Nat} (h : m b = some (.cells (ic l).toArray t fr)) : Il m (.slice (some ⟨b, 0, none⟩) l.length l.length) l :=
  .inr ⟨b, 0, l.length, l.length, _, _, _, rfl, h, by simp, Nat.le_refl _, fun j u hu => by rw [Nat.zero_add, List.getElem?_toArray]; exact hu, ic_one⟩
end Go.E.YtcionccfgcnhoaaGreatDoor
namespace Go.E
abbrev fn0V (F : Nat) : CV := .v (.func (.func F) #[] #[])
abbrev fnP1V (F b : Nat) : CV := .v (.func (.func F) #[] #[.pointer (some ⟨b, 0, none⟩)])
theorem beqG (x y : Int) : (x == y) = decide (x = y) := by by_cases h : x = y <;> simp [h]
section
variable {α : Type}
def idxG (p : α → Bool) (E : List α) : Int := if E.any p then (E.findIdx p : Int) else -1
theorem idxG_at {p : α → Bool} {E : List α} {i : Nat} (hi : i < E.length) (hall : ∀ x ∈ E.take i, p x = false) (h : p E[i] = true) : idxG p E = i := by
  have h1 : E.any p = true := List.any_eq_true.2 ⟨_, List.getElem_mem hi, h⟩
  rw [idxG, if_pos h1]
  have : E.findIdx p = i := by
    rw [List.findIdx_eq hi]
    refine ⟨h, fun j hj => ?_⟩
    have := hall E[j] (List.mem_take_iff_getElem.2 ⟨j, by omega, rfl⟩)
    simpa using this
  rw [this]
theorem idxG_none {p : α → Bool} {E : List α} (hall : ∀ x ∈ E, p x = false) : idxG p E = -1 := by
  rw [idxG, if_neg]
  intro h
  obtain ⟨x, hx, hp⟩ := List.any_eq_true.1 h
  rw [hall x hx] at hp; cases hp
theorem idxG_nonneg (p : α → Bool) (E : List α) : decide (0 ≤ idxG p E) = E.any p := by
  unfold idxG
  split
  · rename_i h; rw [h]; exact decide_eq_true (by omega)
  · rename_i h
    have : E.any p = false := by simpa using h
    rw [this]; exact decide_eq_false (by omega)
theorem idxG_split (p : α → Bool) (E : List α) : (idxG p E = -1 ∧ ∀ x ∈ E, p x = false) ∨ ∃ (i : Nat) (h : i < E.length), idxG p E = i ∧ p E[i] = true ∧ ∀ x ∈ E.take i, p x = false := by
  by_cases h : E.any p = true
  · refine .inr ?_
    have hlt : E.findIdx p < E.length := List.findIdx_lt_length.2 (List.any_eq_true.1 h)
    refine ⟨E.findIdx p, hlt, by rw [idxG, if_pos h], List.findIdx_getElem, fun x hx => ?_⟩
    obtain ⟨j, hj, rfl⟩ := List.mem_take_iff_getElem.1 hx
    simpa using List.not_of_lt_findIdx (p := p) (xs := E) (i := j) (by omega)
  · refine .inl ⟨by rw [idxG, if_neg h], fun x hx => ?_⟩
    cases hp : p x with
    | false => rfl
    | true => exact absurd (List.any_eq_true.2 ⟨x, hx, hp⟩) h
end
theorem Spec.ret {P : Program} {f : FuncId} {args r : List CV} {m : Mem} {R : List CV → Mem → Prop} (h : Spec P f args m R) (k : ∀ r' m', R r' m' → r' = r ∧ Sub m m') : Ret P f args m r := by
  refine ⟨h.1, fun ha W hW => (h.2 ha W hW).mono fun e W' ⟨r', m', h1, h2, h3, h4⟩ => ?_⟩
  obtain ⟨rfl, hs⟩ := k _ _ h3
  exact ⟨_, m, h1, h2, ⟨rfl, rfl⟩, h4.forget hs⟩
end Go.E
namespace Go.E
open Go.Proofs Go.Shelf Go.RowKit Go.Lib Go.Sort
set_option maxRecDepth 100000
theorem After.grown {W W' : World} {m' : Mem} (h : After emp W m' W') (hd : W.drawn ≤ W'.drawn) : ∃ q os, W' = grow (W.drewN q) os := by
  refine ⟨W'.drawn - W.drawn, W'.heap.extract W.heap.size W'.heap.size, ?_⟩
  have e1 : W'.heap = W.heap ++ W'.heap.extract W.heap.size W'.heap.size := by
    refine Array.ext_getElem? fun i => ?_
    by_cases hi : i < W.heap.size
    · rw [Array.getElem?_append_left hi]; exact (h.frame i hi rfl).2
    · rw [Array.getElem?_append_right (by omega), Array.getElem?_extract]
      have := h.size
      split
      · congr 1; omega
      · rw [Array.getElem?_eq_none]; omega
  have e2 : W'.drawn = W.drawn + (W'.drawn - W.drawn) := by omega
  have h1 := h.tape
  have h2 := h.os
  have h3 := h.output
  cases W' with
  | mk heap tape drawn os output =>
    simp only at e1 e2 h1 h2 h3
    subst h1 h2 h3
    show World.mk _ _ _ _ _ = World.mk _ _ _ _ _
    rw [World.mk.injEq]
    exact ⟨e1, rfl, e2, rfl, rfl⟩
theorem after_sortedK {m : Mem} {W : World} (hW : Over m W) {b o k : Nat} {arr : Array Value} {T : TypeId} {fr : Nat × Nat} (hb : m b = some (.cells arr T fr)) (d : Array Value) (os : Array Obj) :
    After m W (m.set b (.cells (Sort.putCells id o d arr) T fr)) (Sort.grow (Sort.putRow id (Sort.ahead W k) b o d) os) := by
  have hWb := hW _ _ hb
  have hlt := hW.lt hb
  have hold : ∀ x, x < W.heap.size → (Sort.grow (Sort.putRow id (Sort.ahead W k) b o d) os).heap[x]? = if b = x then some (.cells (Sort.putCells id o d arr) T fr) else W.heap[x]? := fun x hx => by
    have e : (Sort.grow (Sort.putRow id (Sort.ahead W k) b o d) os).heap = W.heap.modify b (Sort.onCells (Sort.putCells id o d)) ++ os := rfl
    rw [e, Array.getElem?_append_left (by simpa using hx), Array.getElem?_modify]
    by_cases h : b = x
    · subst h; simp [hWb, Sort.onCells]
    · simp [h]
  refine ⟨fun x u hx => ?_, ?_, rfl, rfl, rfl, fun x hx hn => ?_, fun _ => Nat.le_add_right _ _⟩
  · by_cases h : x = b
    · subst h; rw [Mem.set_same] at hx; rw [hold _ hlt, if_pos rfl]; exact hx
    · rw [Mem.set_ne _ _ h] at hx
      rw [hold _ (hW.lt hx), if_neg (Ne.symm h)]; exact hW _ _ hx
  · show W.heap.size ≤ (W.heap.modify b (Sort.onCells (Sort.putCells id o d)) ++ os).size
    simp
  · have h : x ≠ b := fun e => by subst e; rw [hb] at hn; cases hn
    exact ⟨by rw [Mem.set_ne _ _ h]; exact hn, by rw [hold _ hx, if_neg (Ne.symm h)]⟩
theorem flatK_at {α : Type} [Inhabited α] {enc : α → List Value} {k : Nat} (h : EncOk enc k) {E : List α} {t : Nat} (ht : t < E.length * k) : (E.flatMap enc)[t]? = some (flatK enc k E.toArray)[t]! := by
  have hpos := h.pos
  have hq : t / k < E.length := Nat.div_lt_of_lt_mul (by rw [Nat.mul_comm]; exact ht)
  have hr := Nat.mod_lt t hpos
  have hl : t % k < (enc E[t / k]).length := by rw [h.len]; exact hr
  have e1 := h.at hq (List.getElem?_eq_getElem hl)
  rw [Nat.mul_comm, Nat.div_add_mod] at e1
  rw [e1, get_flatK _ _ _ _ (by simpa using ht)]
  congr 1
  have e2 : E.toArray[t / k]! = E[t / k] := by simp [hq]
  rw [e2]
  simp [hl]
section
variable {P : Program} {ρ : Ren} {α : Type} [Inhabited α]
theorem sortK_calls (L : SlLaysF0.n6 P ρ) {k : Nat} (aE : ∀ w, (isAgg (ρ.t 24)).run P w = .ok true w) (zE : ∀ w, (Go.sizeOf (ρ.t 24)).run P w = .ok k w) {enc : α → List Value} (hk : EncOk enc k) {cf : α → α → Int} (hO : SWO (ltOf cf)) (hT : ∀ x y, (ltOf cf) x y = false → (ltOf cf) y x = false → x = y) {g : Nat}
    {parts : α → LB} (hp : ∀ x, LB.cells (parts x) = enc x) (hpo : ∀ x, LB.ok (parts x)) (hcf : ∀ x y, Spec P g [.a (parts x), .a (parts y)] emp fun r _ => r = [i64 (cf x y)])
    {m : Mem} {W : World} (hW : Over m W) (hS : Strict emp W) {e : TypeId} {v : Value} {E : List α} (hv : Own m e k v (E.flatMap enc)) (hl : E.length ≤ 1000000000) :
    Calls P (ρ.f 6) ([CV.v v, fn0V g].map CV.val).toArray W fun ed W' => ∃ r m', ed = .returned (resVal r) ∧ (∀ x ∈ r, x.ok) ∧ (r = [] ∧ Own m' e k v ((E.mergeSort fun x y => !ltOf cf y x).flatMap enc)) ∧ After m W m' W' := by
  rcases hv with ⟨rfl, e0⟩ | ⟨b, o, c, n, arr, rfl, h1, h2, h3, h4, h5, h6⟩
  · have hE : E = [] := List.eq_nil_of_length_eq_zero (hk.count (n := 0) (by rw [e0]; simp))
    subst hE
    exact (AnyF.slices_SortFunc_none L none 0 _ W).mono fun e W' ⟨h1, h2⟩ => ⟨[], m, h1, by simp, ⟨rfl, .inl ⟨rfl, by simp⟩⟩, by subst h2; exact After.refl hW⟩
  · have hn : E.length = n := hk.count h2
    subst hn
    have hWb := hW _ _ h1
    have hlt : b < W.heap.size := hW.lt h1
    have hH : HoldsK enc k W b o E.toArray := fun j hj => by
      have hj' : j < E.length * k := by simpa [size_flatK] using hj
      refine ⟨?_, by simp [World.frozen?, hWb]⟩
      rw [cell_at hWb]
      exact h5 j _ (flatK_at hk hj')
    have hcmp : CmpLays P g #[] enc k cf b o E.toArray.size W := fun n1 os1 dk1 _ x y => by
      have hc := (hcf x y).2 (by intro z hz; simp at hz; rcases hz with rfl | rfl <;> exact hpo _) (sortWorldK enc k W b o n1 dk1 os1) (fun _ _ h => by cases h)
      simp only [List.map_cons, List.map_nil, CV.val, hp] at hc
      refine Calls.mono hc ?_
      rintro e W' ⟨r, m', rfl, _, rfl, ha⟩
      refine ⟨rfl, ha.grown (ha.drawn (hS.less ?_ fun _ _ => rfl))⟩
      show W.heap.size ≤ (W.heap.modify b (Sort.onCells (Sort.putCells id o (flatK enc k dk1))) ++ os1).size
      simp
    have hc := AnyQ.slices_SortFunc_total L k aE zE enc hk.len hk.one cf hO g #[] b o c E.toArray W (hcf default default).1 hcmp hH hlt (by simp; omega) hT
    simp only [List.size_toArray] at hc
    refine hc.mono fun e W' ⟨he, q, os, hw⟩ => ?_
    subst he
    subst hw
    have hsz : (flatK enc k (E.mergeSort fun x y => !ltOf cf y x).toArray).size = E.length * k := by rw [size_flatK]; simp [List.length_mergeSort]
    refine ⟨[], _, rfl, by simp, ⟨rfl, .inr ⟨b, o, c, E.length, _, rfl, Mem.set_same .., by rw [hk.flen, List.length_mergeSort], h3, ?_, fun j u hu => ?_, hk.fone⟩⟩, after_sortedK hW h1 _ _⟩
    · simp only [Sort.putCells, Array.size_mapIdx]; exact h4
    · have hjl : j < E.length * k := by have := (List.getElem?_eq_some_iff.1 hu).1; rw [hk.flen, List.length_mergeSort] at this; exact this
      have hmul : E.length * k ≤ c * k := Nat.mul_le_mul_right _ h3
      have hoj : o + j < arr.size := by omega
      rw [Sort.putCells, Array.getElem?_mapIdx, Array.getElem?_eq_getElem hoj, Option.map_some, if_pos ⟨by omega, by omega⟩, show o + j - o = j by omega]
      rw [flatK_at hk (by rw [List.length_mergeSort]; exact hjl)] at hu
      exact hu
theorem sortK_at (es : Enters P (ρ.f 6)) (L : SlLaysF0.n6 P ρ) {k : Nat} (aE : ∀ w, (isAgg (ρ.t 24)).run P w = .ok true w) (zE : ∀ w, (Go.sizeOf (ρ.t 24)).run P w = .ok k w) {enc : α → List Value} (hk : EncOk enc k) {cf : α → α → Int} (hO : SWO (ltOf cf)) (hT : ∀ x y, (ltOf cf) x y = false → (ltOf cf) y x = false → x = y) {g : Nat}
    {parts : α → LB} (hp : ∀ x, LB.cells (parts x) = enc x) (hpo : ∀ x, LB.ok (parts x)) (hcf : ∀ x y, Spec P g [.a (parts x), .a (parts y)] emp fun r _ => r = [i64 (cf x y)])
    {m p : Mem} {l : List Mem} {i : Nat} (hS : Strong m) (hs : Split m l) (hi : l[i]? = some p) {e : TypeId} {v : Value} {E : List α} (hv : Own p e k v (E.flatMap enc)) (hl : E.length ≤ 1000000000) :
    Spec P (ρ.f 6) [.v v, fn0V g] m fun r m' => ∃ p', r = [] ∧ Split m' (l.set i p') ∧ Own p' e k v ((E.mergeSort fun x y => !ltOf cf y x).flatMap enc) := by
  refine ⟨es, fun _ W hW => ?_⟩
  have hs1 := hs.pick hi
  refine (sortK_calls L aE zE hk hO hT hp hpo hcf (hW.sub (hs.at hi)) (hS W hW) hv hl).mono ?_
  rintro ed W' ⟨r, p', h1, h2, ⟨h3, h4⟩, h5⟩
  obtain ⟨m', h6, h7⟩ := h5.frame_rule hs1 hW
  exact ⟨r, m', h1, h2, ⟨p', h3, Split.unpick hi h6, h4⟩, h7⟩
end
end Go.E
namespace Go.E.YtcionccfgcnhoaaGreatDoor
open Go.Proofs
set_option maxRecDepth 100000
abbrev Nv (x : En) : CV := .a [.one (.int .i64 x.1), .one (.int .i64 x.2.1), .one (.int .u64 x.2.2.1), .one (.int .i64 x.2.2.2)]
theorem hNs : ∃ ti, tt.get 38 = some ti ∧ ti.k = .slice 57 := ⟨_, rfl, rfl⟩
theorem hNn : ∃ ti, tt.get 57 = some ti ∧ ti.size = 4 ∧ ti.bytes = 32 ∧ LB.cells ti.zero = encE (0, 0, 0, 0) := ⟨_, rfl, rfl, rfl, rfl⟩
def Nl (m : Mem) (v : Value) (E : List En) : Prop := Lies m 4 v (E.flatMap encE)
def No (m : Mem) (v : Value) (E : List En) : Prop := Own m 57 4 v (E.flatMap encE)
def Na (m : Mem) (v : Value) (E : List En) : Prop := Nl m v E ∨ (E = [] ∧ ∃ a, v = .slice (some a) 0 0)
theorem Nl.sub {m m' : Mem} {v : Value} {E : List En} (h : Nl m v E) (hs : Sub m m') : Nl m' v E := Lies.sub h hs
theorem No.el {m : Mem} {v : Value} {E : List En} (h : No m v E) : Nl m v E := Own.lies h
theorem Nl.ea {m : Mem} {v : Value} {E : List En} (h : Nl m v E) : Na m v E := .inl h
theorem No.ea {m : Mem} {v : Value} {E : List En} (h : No m v E) : Na m v E := h.el.ea
theorem Na.sub {m m' : Mem} {v : Value} {E : List En} (h : Na m v E) (hs : Sub m m') : Na m' v E := h.imp (·.sub hs) id
theorem No.nil (m : Mem) : No m (.slice none 0 0) [] := .inl ⟨rfl, rfl⟩
theorem Na.nil (m : Mem) : Na m (.slice none 0 0) [] := (No.nil m).ea
theorem Nl.shape {m : Mem} {v : Value} {E : List En} (h : Nl m v E) : ∃ a c, v = .slice a E.length c := encE_ok.shape h
theorem Na.shape {m : Mem} {v : Value} {E : List En} (h : Na m v E) : ∃ a c, v = .slice a E.length c := by
  rcases h with h | ⟨rfl, a, rfl⟩
  · exact h.shape
  · exact ⟨_, _, rfl⟩
theorem Na.real {m : Mem} {v : Value} {E : List En} (h : Na m v E) {i : Nat} (hi : i < E.length) : ∃ b o c, v = .slice (some ⟨b, o, none⟩) E.length c ∧ ∀ j (hj : j < E.length), MRange m b (o + j * 4) (encE E[j]) := by
  rcases h with h | ⟨rfl, _⟩
  · exact encE_ok.real h hi
  · simp at hi
theorem Na.lenV {m : Mem} {v : Value} {E : List En} (h : Na m v E) : lenV v = E.length := by obtain ⟨a, c, rfl⟩ := h.shape; rfl
theorem Na.one {m : Mem} {v : Value} {E : List En} (h : Na m v E) : v.oneCell' = true := by obtain ⟨a, c, rfl⟩ := h.shape; rfl
theorem Na.gives {m : Mem} {v : Value} {E : List En} {e : TypeId} (h : Na m v E) : Gives m 4 (.slice e) v (E.flatMap encE) := .inl ⟨e, rfl, h.imp id fun ⟨h1, h2⟩ => ⟨by rw [h1]; rfl, h2⟩⟩
theorem appendNat {m p : Mem} {ls : List Mem} {i : Nat} {v x : Value} {E news : List En} (hs : Split m ls) (hi : ls[i]? = some p) (hv : No p v E) (hg : Na m x news) (hb : E.length + news.length ≤ 100000000) :
    PrimSpec Tryz.prog (.builtin .append [38, 38]) [.v v, .v x] m fun r m' => ∃ v' p', r = [.v v'] ∧ Split m' (ls.set i p') ∧ No p' v' (E ++ news) := by
  obtain ⟨ti, h1, h2⟩ := hNs
  obtain ⟨ei, g1, g2, g3, g4⟩ := hNn
  have e1 := hv.el.ea.lenV
  have e2 := hg.lenV
  have hv' : Own p 57 ei.size v (E.flatMap encE) := by rw [g2]; exact hv
  refine (append_at (news := news.flatMap encE) tt_ok h1 h2 g1 h1 (by rw [g4, g2]; rfl) hs hi hv' (by rw [h2, g2]; exact hg.gives) (by rw [e1, e2, g3]; omega) (by rw [e1, e2]; omega)).mono fun r m' ⟨v', p', q1, q2, q3⟩ => ⟨v', p', q1, q2, ?_⟩
  have := q3.own
  rw [g2, ← List.flatMap_append] at this
  exact this
theorem buildN0 {m : Mem} : PrimSpec Tryz.prog (.buildSlice 38 0 []) [] m fun r m' => ∃ b, m b = none ∧ r = [.v (.slice (some ⟨b, 0, none⟩) 0 0)] ∧ m' = m.set b (.cells #[] 57) := by
  obtain ⟨ti, h1, h2⟩ := hNs
  obtain ⟨ei, g1, g2, g3, g4⟩ := hNn
  exact buildSlice0_spec tt_ok h1 h2 g1
theorem buildN1 {m : Mem} {e : En} : PrimSpec Tryz.prog (.buildSlice 38 1 [0]) [Nv e] m fun r m' => ∃ b, m b = none ∧ r = [.v (.slice (some ⟨b, 0, none⟩) 1 1)] ∧ m' = m.set b (.cells (encE e).toArray 57) := by
  obtain ⟨ti, h1, h2⟩ := hNs
  obtain ⟨ei, g1, g2, g3, g4⟩ := hNn
  exact (buildSlice_spec (n := 1) tt_ok h1 h2 g1 rfl rfl (by simp [CV.cs, LB.cells, Seg.cells, g2]) (by omega) (by omega)).mono fun r m' ⟨b, e1, e2, e3⟩ => ⟨b, e1, e2, e3⟩
theorem No.blk1 {m : Mem} {b : Nat} {e : En} (h : m b = some (.cells (encE e).toArray 57)) : No m (.slice (some ⟨b, 0, none⟩) 1 1) [e] :=
  .inr ⟨b, 0, 1, 1, _, rfl, h, rfl, Nat.le_refl _, Nat.le_refl _, fun j u hu => by rw [Nat.zero_add, List.getElem?_toArray]; simpa using hu, encE_ok.fone⟩
theorem No.blk0 {m : Mem} {b : Nat} (h : m b = some (.cells #[] 57)) : No m (.slice (some ⟨b, 0, none⟩) 0 0) [] :=
  .inr ⟨b, 0, 0, 0, _, rfl, h, rfl, Nat.le_refl _, Nat.le_refl _, fun j u hu => by simp at hu, encE_ok.fone⟩
theorem pushN {m p : Mem} {ls : List Mem} {i b' : Nat} {x : En} {y : Value} {E : List En} (hs : Split m ls) (hi : ls[i]? = some p) (hb : m b' = none) (hy : No p y E) (hl : E.length ≤ 10000000) :
    PrimSpec Tryz.prog (.builtin .append [38, 38]) [.v y, .v (.slice (some ⟨b', 0, none⟩) 1 1)] (m.set b' (.cells (encE x).toArray 57)) fun r m' => ∃ y' p', r = [.v y'] ∧ Split m' (ls.set i p') ∧ No p' y' (E ++ [x]) := by
  have hs1 := hs.new hb (.cells (encE x).toArray 57)
  exact (appendNat (i := i + 1) hs1 (by simpa using hi) hy (No.blk1 (Mem.set_same ..)).el.ea (by simp; omega)).mono fun r m' ⟨v', p', h1, h2, h3⟩ => ⟨v', p', h1, h2.erase 0, h3⟩
theorem cloneN_spec {m : Mem} {v : Value} {E : List En} (hv : Na m v E) (hl : E.length ≤ 10000000) : Spec Tryz.prog 41 [.v v] m fun r m' => ∃ v' p, r = [.v v'] ∧ Split m' [p, m] ∧ No p v' E := by
  obtain ⟨a, c, rfl⟩ := hv.shape
  cases a with
  | none =>
    have hE : E = [] := by
      rcases hv with (⟨c', e, h⟩ | ⟨b, o, c', n, arr, t, fr, e, _⟩) | ⟨h, _⟩
      · exact List.eq_nil_of_length_eq_zero (encE_ok.count (n := 0) (by rw [h]; rfl))
      · cases e
      · exact h
    subst hE
    refine en41 rfl (goY ?_)
    conv => whnf
    refine ⟨fun _ => ?_, fun h => absurd h (by first | decide | simp)⟩
    conv => whnf
    exact ⟨_, emp, rfl, (Split.one m).addEmp, No.nil _⟩
  | some a =>
    refine en41 rfl (goY ?_)
    conv => whnf
    refine ⟨fun h => absurd h (by first | decide | simp), fun _ => ?_⟩
    conv => whnf
    refine .mk _ (buildN0) ?_
    rintro _ _ ⟨b, hb, rfl, rfl⟩
    conv => whnf
    refine .mk _ (appendNat (i := 0) ((Split.one m).new hb _) rfl (No.blk0 (blk1_same ..)) (hv.sub (Mem.sub_set _ hb)) (by simp; omega)) ?_
    rintro _ m' ⟨v', p, rfl, hs, hv'⟩
    conv => whnf
    exact ⟨v', p, rfl, hs, hv'⟩
end Go.E.YtcionccfgcnhoaaGreatDoor
namespace Go.E.YtcionccfgcnhoaaGreatDoor
open Go.Proofs Go.Shelf Go.Sort Go.Lib
set_option maxRecDepth 100000
def renN : Go.Shelf.Ren := ⟨fun n => if n = 6 then 172 else if n = 14 then 195 else if n = 15 then 118 else if n = 20 then 210 else if n = 21 then 211 else if n = 22 then 212 else if n = 23 then 213 else if n = 24 then 214 else if n = 25 then 215 else if n = 26 then 216 else if n = 27 then 217 else if n = 28 then 161 else if n = 29 then 162 else if n = 46 then 225 else if n = 47 then 185 else if n = 48 then 186 else if n = 49 then 226 else if n = 50 then 227 else if n = 57 then 238 else 0, fun n => if n = 0 then 0 else if n = 3 then 3 else if n = 4 then 4 else if n = 5 then 5 else if n = 9 then 9 else if n = 22 then 38 else if n = 24 then 57 else if n = 25 then 188 else if n = 39 then 159 else if n = 45 then 216 else if n = 46 then 217 else if n = 50 then 151 else if n = 53 then 193 else if n = 55 then 35 else if n = 66 then 242 else if n = 70 then 245 else if n = 76 then 262 else if n = 77 then 263 else 0, fun n => n⟩
theorem laysN : SlLaysF0.n6 Tryz.prog renN where
  mixed := by kernel_rfl
  f6 := ⟨Tryz.f172.name, by kernel_rfl, by kernel_rfl⟩
  f14 := ⟨Tryz.f195.name, by kernel_rfl, by kernel_rfl⟩
  f15 := by kernel_rfl
  f20 := ⟨Tryz.f210.name, by kernel_rfl, by kernel_rfl⟩
  f21 := ⟨Tryz.f211.name, by kernel_rfl, by kernel_rfl⟩
  f22 := ⟨Tryz.f212.name, by kernel_rfl, by kernel_rfl⟩
  f23 := ⟨Tryz.f213.name, by kernel_rfl, by kernel_rfl⟩
  f24 := ⟨Tryz.f214.name, by kernel_rfl, by kernel_rfl⟩
  f25 := ⟨Tryz.f215.name, by kernel_rfl, by kernel_rfl⟩
  f26 := ⟨Tryz.f216.name, by kernel_rfl, by kernel_rfl⟩
  f27 := ⟨Tryz.f217.name, by kernel_rfl, by kernel_rfl⟩
  f28 := by kernel_rfl
  f29 := by kernel_rfl
  f46 := ⟨Tryz.f225.name, by kernel_rfl, by kernel_rfl⟩
  f47 := by kernel_rfl
  f48 := by kernel_rfl
  f49 := ⟨Tryz.f226.name, by kernel_rfl, by kernel_rfl⟩
  f50 := ⟨Tryz.f227.name, by kernel_rfl, by kernel_rfl⟩
  f57 := ⟨Tryz.f238.name, by kernel_rfl, by kernel_rfl⟩
  t0 := Tryz.underlying0
  a0 := Tryz.isAgg0
  z0 := Tryz.sizeOf0
  v0 := Tryz.zeroValue0
  t3 := Tryz.underlying3
  a3 := Tryz.isAgg3
  z3 := Tryz.sizeOf3
  v3 := Tryz.zeroValue3
  t4 := Tryz.underlying4
  a4 := Tryz.isAgg4
  z4 := Tryz.sizeOf4
  v4 := Tryz.zeroValue4
  t5 := Tryz.underlying5
  a5 := Tryz.isAgg5
  z5 := Tryz.sizeOf5
  v5 := Tryz.zeroValue5
  t9 := Tryz.underlying9
  a9 := Tryz.isAgg9
  z9 := Tryz.sizeOf9
  v9 := Tryz.zeroValue9
  t22 := Tryz.underlying38
  a22 := Tryz.isAgg38
  z22 := Tryz.sizeOf38
  v22 := Tryz.zeroValue38
  t25 := Tryz.underlying188
  a25 := Tryz.isAgg188
  z25 := Tryz.sizeOf188
  v25 := Tryz.zeroValue188
  t39 := Tryz.underlying159
  a39 := Tryz.isAgg159
  z39 := Tryz.sizeOf159
  v39 := Tryz.zeroValue159
  t45 := Tryz.underlying216
  a45 := Tryz.isAgg216
  z45 := Tryz.sizeOf216
  v45 := Tryz.zeroValue216
  t46 := Tryz.underlying217
  a46 := Tryz.isAgg217
  z46 := Tryz.sizeOf217
  v46 := Tryz.zeroValue217
  t50 := Tryz.underlying151
  a50 := Tryz.isAgg151
  z50 := Tryz.sizeOf151
  v50 := Tryz.zeroValue151
  t53 := Tryz.underlying193
  a53 := Tryz.isAgg193
  z53 := Tryz.sizeOf193
  v53 := Tryz.zeroValue193
  t55 := Tryz.underlying35
  a55 := Tryz.isAgg35
  z55 := Tryz.sizeOf35
  v55 := Tryz.zeroValue35
  t66 := Tryz.underlying242
  a66 := Tryz.isAgg242
  z66 := Tryz.sizeOf242
  v66 := Tryz.zeroValue242
  t70 := Tryz.underlying245
  a70 := Tryz.isAgg245
  z70 := Tryz.sizeOf245
  v70 := Tryz.zeroValue245
  t76 := Tryz.underlying262
  a76 := Tryz.isAgg262
  z76 := Tryz.sizeOf262
  v76 := Tryz.zeroValue262
  t77 := Tryz.underlying263
  a77 := Tryz.isAgg263
  z77 := Tryz.sizeOf263
  v77 := Tryz.zeroValue263
instance : Inhabited En := ⟨(0, 0, 0, 0)⟩
theorem enters_sortN : Enters Tryz.prog 172 := laysN.f6.enters rfl
theorem sortFN_at {cf : En → En → Int} (hO : SWO (ltOf cf)) (hT : ∀ x y, (ltOf cf) x y = false → (ltOf cf) y x = false → x = y) {g : Nat} (hcf : ∀ x y, Spec Tryz.prog g [Nv x, Nv y] emp fun r _ => r = [i64 (cf x y)])
    {m p : Mem} {l : List Mem} {i : Nat} (hS : Strong m) (hs : Split m l) (hi : l[i]? = some p) {v : Value} {E : List En} (hv : No p v E) (hl : E.length ≤ 1000000000) :
    Spec Tryz.prog 172 [.v v, fn0V g] m fun r m' => ∃ p', r = [] ∧ Split m' (l.set i p') ∧ No p' v (E.mergeSort fun x y => !ltOf cf y x) :=
  sortK_at (ρ := renN) enters_sortN laysN (k := 4) Tryz.isAgg57 Tryz.sizeOf57 encE_ok hO hT (parts := fun x => [.one (.int .i64 x.1), .one (.int .i64 x.2.1), .one (.int .u64 x.2.2.1), .one (.int .i64 x.2.2.2)]) (fun _ => rfl) (fun _ => ⟨rfl, rfl, rfl, rfl, trivial⟩) hcf hS hs hi hv hl
end Go.E.YtcionccfgcnhoaaGreatDoor
namespace Go.E.YtcionccfgcnhoaaGreatDoor
open Go.Proofs
set_option maxRecDepth 100000
set_option maxHeartbeats 1000000 in
theorem indexN1_spec {m : Mem} {v : Value} {E : List En} {F b : Nat} {p : En → Bool} (hv : Na m v E) (hF : ∀ e ∈ E, Ret Tryz.prog F [Nv e, ptrV b] m [boolV (p e)]) (hl : E.length ≤ 100000000) : Ret Tryz.prog 170 [.v v, (fnP1V F b)] m [i64 (idxG p E)] := by
  obtain ⟨a, c, rfl⟩ := hv.shape
  refine en170 rfl (goY ?_)
  conv => whnf
  refine .mk (ι := Nat) (fun i => E.length - i) (fun i mm => i ≤ E.length ∧ (∀ x ∈ E.take i, p x = false) ∧ mm = m) (fun i => [(0, .c (.v (.slice a E.length c))), (1, .c (fnP1V F b)), (7, .c (i64 E.length)), (8, .c (i64 i))]) (fun _ => []) 0 ⟨by omega, by simp, rfl⟩ ?_ ?_
  · conv => whnf
    repeat (refine And.intro (by first | with_reducible rfl | exact congrArg (Value.int _) (wi (by omega) (by omega)) | exact wi (by omega) (by omega) | rfl) ?_; conv => whnf)
    first | exact trivial | exact fun _ _ h => h
  rintro i mm ⟨hi, hall, he⟩
  subst mm
  conv => whnf
  refine ⟨fun h => ?_, fun h => ?_⟩
  · have h' := of_decide_eq_true h
    have hlt : i < E.length := by omega
    obtain ⟨bl, ol, c', hh, hg⟩ := hv.real hlt
    injection hh with hh1 _ hh3
    subst hh1
    clear hh3 c'
    have hg := hg i hlt
    conv => whnf
    repeat (refine And.intro (by first | omega | (simp only [times]; omega)) ?_; conv => whnf)
    refine ⟨[.one (.int .i64 E[i].1), .one (.int .i64 E[i].2.1), .one (.int .u64 E[i].2.2.1), .one (.int .i64 E[i].2.2.2)], ⟨rfl, rfl, rfl, rfl, trivial⟩, rfl, by simp only [times, Int.toNat_natCast]; exact hg, ?_⟩
    conv => whnf
    first | refine xretk ((hF E[i] (List.getElem_mem hlt))) ?_ | refine xret ((hF E[i] (List.getElem_mem hlt))) ?_
    conv => whnf
    have hst : E.take (i + 1) = E.take i ++ [E[i]] := List.take_succ_eq_append_getElem hlt
    refine ⟨fun h => ?_, fun h => ?_⟩
    · conv => whnf
      exact ⟨by rw [idxG_at hlt hall h], rfl⟩
    · conv => whnf
      refine ⟨i + 1, ⟨by omega, fun x hx => ?_, rfl⟩, by omega, ?_⟩
      · rw [hst] at hx
        rcases List.mem_append.1 hx with hx | hx
        · exact hall x hx
        · rw [List.mem_singleton.1 hx]; exact h
      · conv => whnf
        repeat (refine And.intro (by first | with_reducible rfl | (first | exact congrArg (Value.int _) (iadd (by omega))) | exact congrArg (Value.int _) (wi (by omega) (by omega)) | exact wi (by omega) (by omega) | rfl) ?_; conv => whnf)
        first | exact trivial | exact fun _ _ h => h
  · have h' := of_decide_eq_false h
    obtain rfl : i = E.length := by omega
    rw [List.take_length] at hall
    conv => whnf
    exact ⟨by rw [idxG_none hall], rfl⟩
theorem containsN1_spec {m : Mem} {v : Value} {E : List En} {F b : Nat} {p : En → Bool} (hv : Na m v E) (hF : ∀ e ∈ E, Ret Tryz.prog F [Nv e, ptrV b] m [boolV (p e)]) (hl : E.length ≤ 100000000) : Ret Tryz.prog 129 [.v v, (fnP1V F b)] m [boolV (E.any p)] := by
  obtain ⟨a, c, rfl⟩ := hv.shape
  refine en129 rfl (goY ?_)
  conv => whnf
  first | refine xretk (indexN1_spec hv hF hl) ?_ | refine xret (indexN1_spec hv hF hl) ?_
  conv => whnf
  exact ⟨by rw [idxG_nonneg], rfl⟩
theorem eqPN (x y : En) : eqLB [.one (.int .i64 x.1), .one (.int .i64 x.2.1), .one (.int .u64 x.2.2.1), .one (.int .i64 x.2.2.2)] [.one (.int .i64 y.1), .one (.int .i64 y.2.1), .one (.int .u64 y.2.2.1), .one (.int .i64 y.2.2.2)] = decide (x = y) := by
  have e : (x = y) ↔ x.1 = y.1 ∧ x.2.1 = y.2.1 ∧ x.2.2.1 = y.2.2.1 ∧ x.2.2.2 = y.2.2.2 := ⟨fun h => by subst h; simp, fun h => by obtain ⟨a0, a1, a2, a3⟩ := x; obtain ⟨b0, b1, b2, b3⟩ := y; simp only at h; simp only [Prod.mk.injEq]; exact h⟩
  rw [Bool.eq_iff_iff]
  simp only [eqLB, ceq, Bool.and_eq_true, beq_iff_eq, Bool.and_true, decide_eq_true_eq, e]
theorem eqPN' (x y : En) : (!eqLB [.one (.int .i64 x.1), .one (.int .i64 x.2.1), .one (.int .u64 x.2.2.1), .one (.int .i64 x.2.2.2)] [.one (.int .i64 y.1), .one (.int .i64 y.2.1), .one (.int .u64 y.2.2.1), .one (.int .i64 y.2.2.2)]) = decide (x ≠ y) := by rw [eqPN]; simp
set_option maxHeartbeats 1000000 in
theorem equalN_spec {m : Mem} {v w : Value} {E K : List En} (hv : Na m v E) (hw : Na m w K) (hl : E.length ≤ 100000000) : Ret Tryz.prog 46 [.v v, .v w] m [boolV (decide (E = K))] := by
  obtain ⟨a, c, rfl⟩ := hv.shape
  obtain ⟨aw, cw, rfl⟩ := hw.shape
  refine en46 rfl (goY ?_)
  conv => whnf
  refine ⟨fun h => ?_, fun h => ?_⟩
  · conv => whnf
    have : E ≠ K := by rintro rfl; simp at h
    rw [decide_eq_false this]
    exact ⟨rfl, rfl⟩
  have hlk : E.length = K.length := by simp at h; omega
  clear h
  rw [← hlk] at hw ⊢
  conv => whnf
  refine .mk (ι := Nat) (fun i => E.length - i) (fun i mm => i ≤ E.length ∧ E.take i = K.take i ∧ mm = m) (fun i => [(0, .c (.v (.slice a E.length c))), (1, .c (.v (.slice aw E.length cw))), (12, .c (i64 E.length)), (13, .c (i64 i))]) (fun _ => []) 0 ⟨by omega, by simp, rfl⟩ ?_ ?_
  · conv => whnf
    repeat (refine And.intro (by first | with_reducible rfl | exact congrArg (Value.int _) (wi (by omega) (by omega)) | exact wi (by omega) (by omega) | rfl) ?_; conv => whnf)
    first | exact trivial | exact fun _ _ h => h
  rintro i mm ⟨hi, htk, he⟩
  subst mm
  conv => whnf
  refine ⟨fun h1 => ?_, fun h1 => ?_⟩
  · have h1' := of_decide_eq_true h1
    have hlt : i < E.length := by omega
    have hltk : i < K.length := by omega
    obtain ⟨b, o, c', hh, hg⟩ := hv.real hlt
    injection hh with hh1 _ hh3
    subst hh1
    clear hh3 c'
    have hw' : Na m (.slice aw K.length cw) K := by rw [← hlk]; exact hw
    obtain ⟨bw, ow, c', hh, hgw⟩ := hw'.real hltk
    injection hh with hh1 _ hh3
    subst hh1
    clear hh3 c'
    have hg := hg i hlt
    have hgw := hgw i hltk
    conv => whnf
    repeat (refine And.intro (by first | omega | (simp only [times]; omega)) ?_; conv => whnf)
    refine ⟨[.one (.int .i64 E[i].1), .one (.int .i64 E[i].2.1), .one (.int .u64 E[i].2.2.1), .one (.int .i64 E[i].2.2.2)], ⟨rfl, rfl, rfl, rfl, trivial⟩, rfl, by simp only [times, Int.toNat_natCast]; exact hg, ?_⟩
    conv => whnf
    repeat (refine And.intro (by first | omega | (simp only [times]; omega)) ?_; conv => whnf)
    refine ⟨[.one (.int .i64 K[i].1), .one (.int .i64 K[i].2.1), .one (.int .u64 K[i].2.2.1), .one (.int .i64 K[i].2.2.2)], ⟨rfl, rfl, rfl, rfl, trivial⟩, rfl, by simp only [times, Int.toNat_natCast]; exact hgw, ?_⟩
    conv => whnf
    rw [eqPN']
    refine ⟨fun h2 => ?_, fun h2 => ?_⟩
    · conv => whnf
      have : E ≠ K := by rintro rfl; exact absurd rfl (of_decide_eq_true h2)
      rw [decide_eq_false this]
      exact ⟨rfl, rfl⟩
    · have h2' : E[i] = K[i] := by simpa using h2
      conv => whnf
      refine ⟨i + 1, ⟨by omega, by rw [List.take_succ_eq_append_getElem hlt, List.take_succ_eq_append_getElem hltk, htk, h2'], rfl⟩, by omega, ?_⟩
      conv => whnf
      repeat (refine And.intro (by first | with_reducible rfl | (first | exact congrArg (Value.int _) (iadd (by omega))) | exact congrArg (Value.int _) (wi (by omega) (by omega)) | exact wi (by omega) (by omega) | rfl) ?_; conv => whnf)
      first | exact trivial | exact fun _ _ h => h
  · have h1' := of_decide_eq_false h1
    obtain rfl : i = E.length := by omega
    rw [List.take_length, hlk, List.take_length] at htk
    conv => whnf
    rw [decide_eq_true htk]
    exact ⟨rfl, rfl⟩
abbrev Dv (x : Dt) : CV := .a [.one (.int .i64 x.1), .one (.int .u64 x.2)]
theorem hDs : ∃ ti, tt.get 189 = some ti ∧ ti.k = .slice 186 := ⟨_, rfl, rfl⟩
theorem hDn : ∃ ti, tt.get 186 = some ti ∧ ti.size = 2 ∧ ti.bytes = 16 ∧ LB.cells ti.zero = encD (0, 0) := ⟨_, rfl, rfl, rfl, rfl⟩
def Dl (m : Mem) (v : Value) (E : List Dt) : Prop := Lies m 2 v (E.flatMap encD)
def Do (m : Mem) (v : Value) (E : List Dt) : Prop := Own m 186 2 v (E.flatMap encD)
def Da (m : Mem) (v : Value) (E : List Dt) : Prop := Dl m v E ∨ (E = [] ∧ ∃ a, v = .slice (some a) 0 0)
theorem Dl.sub {m m' : Mem} {v : Value} {E : List Dt} (h : Dl m v E) (hs : Sub m m') : Dl m' v E := Lies.sub h hs
theorem Do.el {m : Mem} {v : Value} {E : List Dt} (h : Do m v E) : Dl m v E := Own.lies h
theorem Dl.ea {m : Mem} {v : Value} {E : List Dt} (h : Dl m v E) : Da m v E := .inl h
theorem Do.ea {m : Mem} {v : Value} {E : List Dt} (h : Do m v E) : Da m v E := h.el.ea
theorem Da.sub {m m' : Mem} {v : Value} {E : List Dt} (h : Da m v E) (hs : Sub m m') : Da m' v E := h.imp (·.sub hs) id
theorem Do.nil (m : Mem) : Do m (.slice none 0 0) [] := .inl ⟨rfl, rfl⟩
theorem Da.nil (m : Mem) : Da m (.slice none 0 0) [] := (Do.nil m).ea
theorem Dl.shape {m : Mem} {v : Value} {E : List Dt} (h : Dl m v E) : ∃ a c, v = .slice a E.length c := encD_ok.shape h
theorem Da.shape {m : Mem} {v : Value} {E : List Dt} (h : Da m v E) : ∃ a c, v = .slice a E.length c := by
  rcases h with h | ⟨rfl, a, rfl⟩
  · exact h.shape
  · exact ⟨_, _, rfl⟩
theorem Da.real {m : Mem} {v : Value} {E : List Dt} (h : Da m v E) {i : Nat} (hi : i < E.length) : ∃ b o c, v = .slice (some ⟨b, o, none⟩) E.length c ∧ ∀ j (hj : j < E.length), MRange m b (o + j * 2) (encD E[j]) := by
  rcases h with h | ⟨rfl, _⟩
  · exact encD_ok.real h hi
  · simp at hi
theorem Da.lenV {m : Mem} {v : Value} {E : List Dt} (h : Da m v E) : lenV v = E.length := by obtain ⟨a, c, rfl⟩ := h.shape; rfl
theorem Da.one {m : Mem} {v : Value} {E : List Dt} (h : Da m v E) : v.oneCell' = true := by obtain ⟨a, c, rfl⟩ := h.shape; rfl
theorem Da.gives {m : Mem} {v : Value} {E : List Dt} {e : TypeId} (h : Da m v E) : Gives m 2 (.slice e) v (E.flatMap encD) := .inl ⟨e, rfl, h.imp id fun ⟨h1, h2⟩ => ⟨by rw [h1]; rfl, h2⟩⟩
theorem appendDat {m p : Mem} {ls : List Mem} {i : Nat} {v x : Value} {E news : List Dt} (hs : Split m ls) (hi : ls[i]? = some p) (hv : Do p v E) (hg : Da m x news) (hb : E.length + news.length ≤ 100000000) :
    PrimSpec Tryz.prog (.builtin .append [189, 189]) [.v v, .v x] m fun r m' => ∃ v' p', r = [.v v'] ∧ Split m' (ls.set i p') ∧ Do p' v' (E ++ news) := by
  obtain ⟨ti, h1, h2⟩ := hDs
  obtain ⟨ei, g1, g2, g3, g4⟩ := hDn
  have e1 := hv.el.ea.lenV
  have e2 := hg.lenV
  have hv' : Own p 186 ei.size v (E.flatMap encD) := by rw [g2]; exact hv
  refine (append_at (news := news.flatMap encD) tt_ok h1 h2 g1 h1 (by rw [g4, g2]; rfl) hs hi hv' (by rw [h2, g2]; exact hg.gives) (by rw [e1, e2, g3]; omega) (by rw [e1, e2]; omega)).mono fun r m' ⟨v', p', q1, q2, q3⟩ => ⟨v', p', q1, q2, ?_⟩
  have := q3.own
  rw [g2, ← List.flatMap_append] at this
  exact this
theorem buildD1 {m : Mem} {e : Dt} : PrimSpec Tryz.prog (.buildSlice 189 1 [0]) [Dv e] m fun r m' => ∃ b, m b = none ∧ r = [.v (.slice (some ⟨b, 0, none⟩) 1 1)] ∧ m' = m.set b (.cells (encD e).toArray 186) := by
  obtain ⟨ti, h1, h2⟩ := hDs
  obtain ⟨ei, g1, g2, g3, g4⟩ := hDn
  exact (buildSlice_spec (n := 1) tt_ok h1 h2 g1 rfl rfl (by simp [CV.cs, LB.cells, Seg.cells, g2]) (by omega) (by omega)).mono fun r m' ⟨b, e1, e2, e3⟩ => ⟨b, e1, e2, e3⟩
theorem Do.blk1 {m : Mem} {b : Nat} {e : Dt} (h : m b = some (.cells (encD e).toArray 186)) : Do m (.slice (some ⟨b, 0, none⟩) 1 1) [e] :=
  .inr ⟨b, 0, 1, 1, _, rfl, h, rfl, Nat.le_refl _, Nat.le_refl _, fun j u hu => by rw [Nat.zero_add, List.getElem?_toArray]; simpa using hu, encD_ok.fone⟩
theorem pushD {m p : Mem} {ls : List Mem} {i b' : Nat} {x : Dt} {y : Value} {E : List Dt} (hs : Split m ls) (hi : ls[i]? = some p) (hb : m b' = none) (hy : Do p y E) (hl : E.length ≤ 10000000) :
    PrimSpec Tryz.prog (.builtin .append [189, 189]) [.v y, .v (.slice (some ⟨b', 0, none⟩) 1 1)] (m.set b' (.cells (encD x).toArray 186)) fun r m' => ∃ y' p', r = [.v y'] ∧ Split m' (ls.set i p') ∧ Do p' y' (E ++ [x]) := by
  have hs1 := hs.new hb (.cells (encD x).toArray 186)
  exact (appendDat (i := i + 1) hs1 (by simpa using hi) hy (Do.blk1 (Mem.set_same ..)).el.ea (by simp; omega)).mono fun r m' ⟨v', p', h1, h2, h3⟩ => ⟨v', p', h1, h2.erase 0, h3⟩
theorem eqPD (x y : Dt) : eqLB [.one (.int .i64 x.1), .one (.int .u64 x.2)] [.one (.int .i64 y.1), .one (.int .u64 y.2)] = decide (x = y) := by
  have e : (x = y) ↔ x.1 = y.1 ∧ x.2 = y.2 := ⟨fun h => by subst h; simp, fun h => by obtain ⟨a0, a1⟩ := x; obtain ⟨b0, b1⟩ := y; simp only at h; simp only [Prod.mk.injEq]; exact h⟩
  rw [Bool.eq_iff_iff]
  simp only [eqLB, ceq, Bool.and_eq_true, beq_iff_eq, Bool.and_true, decide_eq_true_eq, e]
theorem eqPD' (x y : Dt) : (!eqLB [.one (.int .i64 x.1), .one (.int .u64 x.2)] [.one (.int .i64 y.1), .one (.int .u64 y.2)]) = decide (x ≠ y) := by rw [eqPD]; simp
end Go.E.YtcionccfgcnhoaaGreatDoor
namespace Go.E.YtcionccfgcnhoaaGreatDoor
open Go.Proofs Go.Shelf Go.Sort Go.Lib
set_option maxRecDepth 100000
def renD : Go.Shelf.Ren := ⟨fun n => if n = 6 then 206 else if n = 14 then 223 else if n = 15 then 118 else if n = 20 then 230 else if n = 21 then 231 else if n = 22 then 232 else if n = 23 then 233 else if n = 24 then 234 else if n = 25 then 235 else if n = 26 then 236 else if n = 27 then 237 else if n = 28 then 161 else if n = 29 then 162 else if n = 46 then 239 else if n = 47 then 185 else if n = 48 then 186 else if n = 49 then 240 else if n = 50 then 241 else if n = 57 then 242 else 0, fun n => if n = 0 then 0 else if n = 3 then 3 else if n = 4 then 4 else if n = 5 then 5 else if n = 9 then 9 else if n = 22 then 189 else if n = 24 then 186 else if n = 25 then 266 else if n = 39 then 159 else if n = 45 then 216 else if n = 46 then 217 else if n = 50 then 151 else if n = 53 then 193 else if n = 55 then 35 else if n = 66 then 242 else if n = 70 then 245 else if n = 76 then 262 else if n = 77 then 263 else 0, fun n => n⟩
theorem laysD : SlLaysF0.n6 Tryz.prog renD where
  mixed := by kernel_rfl
  f6 := ⟨Tryz.f206.name, by kernel_rfl, by kernel_rfl⟩
  f14 := ⟨Tryz.f223.name, by kernel_rfl, by kernel_rfl⟩
  f15 := by kernel_rfl
  f20 := ⟨Tryz.f230.name, by kernel_rfl, by kernel_rfl⟩
  f21 := ⟨Tryz.f231.name, by kernel_rfl, by kernel_rfl⟩
  f22 := ⟨Tryz.f232.name, by kernel_rfl, by kernel_rfl⟩
  f23 := ⟨Tryz.f233.name, by kernel_rfl, by kernel_rfl⟩
  f24 := ⟨Tryz.f234.name, by kernel_rfl, by kernel_rfl⟩
  f25 := ⟨Tryz.f235.name, by kernel_rfl, by kernel_rfl⟩
  f26 := ⟨Tryz.f236.name, by kernel_rfl, by kernel_rfl⟩
  f27 := ⟨Tryz.f237.name, by kernel_rfl, by kernel_rfl⟩
  f28 := by kernel_rfl
  f29 := by kernel_rfl
  f46 := ⟨Tryz.f239.name, by kernel_rfl, by kernel_rfl⟩
  f47 := by kernel_rfl
  f48 := by kernel_rfl
  f49 := ⟨Tryz.f240.name, by kernel_rfl, by kernel_rfl⟩
  f50 := ⟨Tryz.f241.name, by kernel_rfl, by kernel_rfl⟩
  f57 := ⟨Tryz.f242.name, by kernel_rfl, by kernel_rfl⟩
  t0 := Tryz.underlying0
  a0 := Tryz.isAgg0
  z0 := Tryz.sizeOf0
  v0 := Tryz.zeroValue0
  t3 := Tryz.underlying3
  a3 := Tryz.isAgg3
  z3 := Tryz.sizeOf3
  v3 := Tryz.zeroValue3
  t4 := Tryz.underlying4
  a4 := Tryz.isAgg4
  z4 := Tryz.sizeOf4
  v4 := Tryz.zeroValue4
  t5 := Tryz.underlying5
  a5 := Tryz.isAgg5
  z5 := Tryz.sizeOf5
  v5 := Tryz.zeroValue5
  t9 := Tryz.underlying9
  a9 := Tryz.isAgg9
  z9 := Tryz.sizeOf9
  v9 := Tryz.zeroValue9
  t22 := Tryz.underlying189
  a22 := Tryz.isAgg189
  z22 := Tryz.sizeOf189
  v22 := Tryz.zeroValue189
  t25 := Tryz.underlying266
  a25 := Tryz.isAgg266
  z25 := Tryz.sizeOf266
  v25 := Tryz.zeroValue266
  t39 := Tryz.underlying159
  a39 := Tryz.isAgg159
  z39 := Tryz.sizeOf159
  v39 := Tryz.zeroValue159
  t45 := Tryz.underlying216
  a45 := Tryz.isAgg216
  z45 := Tryz.sizeOf216
  v45 := Tryz.zeroValue216
  t46 := Tryz.underlying217
  a46 := Tryz.isAgg217
  z46 := Tryz.sizeOf217
  v46 := Tryz.zeroValue217
  t50 := Tryz.underlying151
  a50 := Tryz.isAgg151
  z50 := Tryz.sizeOf151
  v50 := Tryz.zeroValue151
  t53 := Tryz.underlying193
  a53 := Tryz.isAgg193
  z53 := Tryz.sizeOf193
  v53 := Tryz.zeroValue193
  t55 := Tryz.underlying35
  a55 := Tryz.isAgg35
  z55 := Tryz.sizeOf35
  v55 := Tryz.zeroValue35
  t66 := Tryz.underlying242
  a66 := Tryz.isAgg242
  z66 := Tryz.sizeOf242
  v66 := Tryz.zeroValue242
  t70 := Tryz.underlying245
  a70 := Tryz.isAgg245
  z70 := Tryz.sizeOf245
  v70 := Tryz.zeroValue245
  t76 := Tryz.underlying262
  a76 := Tryz.isAgg262
  z76 := Tryz.sizeOf262
  v76 := Tryz.zeroValue262
  t77 := Tryz.underlying263
  a77 := Tryz.isAgg263
  z77 := Tryz.sizeOf263
  v77 := Tryz.zeroValue263
instance : Inhabited Dt := ⟨(0, 0)⟩
theorem enters_sortD : Enters Tryz.prog 206 := laysD.f6.enters rfl
theorem sortFD_at {cf : Dt → Dt → Int} (hO : SWO (ltOf cf)) (hT : ∀ x y, (ltOf cf) x y = false → (ltOf cf) y x = false → x = y) {g : Nat} (hcf : ∀ x y, Spec Tryz.prog g [Dv x, Dv y] emp fun r _ => r = [i64 (cf x y)])
    {m p : Mem} {l : List Mem} {i : Nat} (hS : Strong m) (hs : Split m l) (hi : l[i]? = some p) {v : Value} {E : List Dt} (hv : Do p v E) (hl : E.length ≤ 1000000000) :
    Spec Tryz.prog 206 [.v v, fn0V g] m fun r m' => ∃ p', r = [] ∧ Split m' (l.set i p') ∧ Do p' v (E.mergeSort fun x y => !ltOf cf y x) :=
  sortK_at (ρ := renD) enters_sortD laysD (k := 2) Tryz.isAgg186 Tryz.sizeOf186 encD_ok hO hT (parts := fun x => [.one (.int .i64 x.1), .one (.int .u64 x.2)]) (fun _ => rfl) (fun _ => ⟨rfl, rfl, trivial⟩) hcf hS hs hi hv hl
end Go.E.YtcionccfgcnhoaaGreatDoor
namespace Go.E.YtcionccfgcnhoaaGreatDoor
open Go.Proofs
set_option maxRecDepth 100000
theorem orI_two (a b : Dt) : decide (orI [cmpI a.1 b.1, cmpI a.2 b.2] < 0) = dLess a b := by
  unfold dLess
  refine decide_eq_decide.2 ?_
  simp only [orI, cmpI]
  by_cases h1 : a.1 < b.1
  · simp [h1]
  by_cases h2 : b.1 < a.1
  · simp [h1, h2]; omega
  by_cases h3 : a.2 < b.2
  · simp [h1, h2, h3]; omega
  by_cases h4 : b.2 < a.2
  · simp [h1, h2, h3, h4]
  · simp [h1, h2, h3, h4]
theorem less_spec {m : Mem} {a b : Dt} : Spec Tryz.prog 224 [Dv a, Dv b] m fun r m' => r = [boolV (dLess a b)] ∧ Sub m m' := by
  refine en224 rfl (goY ?_)
  conv => whnf
  first | refine xretk (cmpInt_spec) ?_ | refine xret (cmpInt_spec) ?_
  conv => whnf
  first | refine xretk (cmpUint_spec) ?_ | refine xret (cmpUint_spec) ?_
  conv => whnf
  refine .mk _ (buildI_2) ?_
  rintro _ _ ⟨b1, hb1, rfl, rfl⟩
  conv => whnf
  first | refine xretk (orInt_spec (Il.blk (Mem.set_same ..)) (by simp)) ?_ | refine xret (orInt_spec (Il.blk (Mem.set_same ..)) (by simp)) ?_
  conv => whnf
  rw [orI_two]
  exact ⟨rfl, Mem.sub_set _ hb1⟩
theorem order4_spec {m : Mem} {a b : Dt} : Spec Tryz.prog 207 [Dv a, Dv b] m fun r m' => r = [i64 (dOrd a b)] ∧ Sub m m' := by
  refine en207 rfl (goY ?_)
  conv => whnf
  refine xcall (less_spec (a := a) (b := b)) ?_
  rintro _ m1 ⟨rfl, h1⟩
  conv => whnf
  refine ⟨fun h => ?_, fun h => ?_⟩
  · conv => whnf
    exact ⟨by rw [dOrd, if_pos h], h1⟩
  have hn := h
  conv => whnf
  refine xcall (less_spec (a := b) (b := a)) ?_
  rintro _ m2 ⟨rfl, h2⟩
  conv => whnf
  refine ⟨fun h => ?_, fun h => ?_⟩
  · conv => whnf
    exact ⟨by rw [dOrd, if_neg (by rw [hn]; simp), if_pos h], h1.trans h2⟩
  · conv => whnf
    exact ⟨by rw [dOrd, if_neg (by rw [hn]; simp), if_neg (by rw [h]; simp)], h1.trans h2⟩
theorem valuesD_spec {m : Mem} {v : Value} (hv : v.oneCell' = true) : Spec Tryz.prog 194 [.v v] m fun r m' => ∃ b, m b = none ∧ r = [fnP1V 209 b] ∧ m' = m.set b (.cells #[v] 189) := by
  refine en194 rfl (goY ?_)
  conv => whnf
  intro b hb
  conv => whnf
  refine .mk _ (makeFunc_spec (cs := [.pointer (some ⟨b, 0, none⟩)]) (by simp [Value.oneCell'])) ?_
  rintro _ _ ⟨rfl, rfl⟩
  conv => whnf
  exact ⟨b, hb, rfl, rfl⟩
set_option maxHeartbeats 2000000 in
theorem valIterD_spec {I : Nat → Mem → Prop} {l b : Nat} {v : Value} {E : List Dt} (hn : E.length ≤ 1000000000) (hI : ∀ k m, I k m → m b = some (.cells #[v] 189) ∧ Da m v E)
    (hy : ∀ k m (hk : k < E.length), I k m → YSpec Tryz.prog l [Dv E[k]] m fun r m' => r = [.v (.bool true)] ∧ I (k + 1) m') {m : Mem} (h0 : I 0 m) :
    Spec Tryz.prog 209 [.v (.func (.yield l) #[] #[]), ptrV b] m fun r m' => r = [] ∧ I E.length m' := by
  obtain ⟨g1, g2⟩ := hI 0 m h0
  obtain ⟨a, c, rfl⟩ := g2.shape
  refine en209 rfl (goY ?_)
  conv => whnf
  refine ⟨_, mcell_of g1 rfl, rfl, ?_⟩
  conv => whnf
  refine .mk (ι := Nat) (fun k => E.length - k) (fun k mm => k ≤ E.length ∧ I k mm) (fun k => [(0, .c (.v (.func (.yield l) #[] #[]))), (5, .c (.v (.slice a E.length c))), (6, .c (i64 E.length)), (7, .c (i64 k))]) (fun _ => []) 0 ⟨by omega, h0⟩ ?_ ?_
  · conv => whnf
    repeat (refine And.intro (by first | with_reducible rfl | exact congrArg (Value.int _) (wi (by omega) (by omega)) | exact wi (by omega) (by omega) | rfl) ?_; conv => whnf)
    first | exact trivial | exact fun _ _ h => h
  rintro k mm ⟨hk, hi⟩
  conv => whnf
  refine ⟨fun h1 => ?_, fun h1 => ?_⟩
  · have h1' := of_decide_eq_true h1
    have hlt : k < E.length := by omega
    obtain ⟨bl, ol, c', hh, hg⟩ := (hI k mm hi).2.real hlt
    injection hh with hh1 _ hh3
    subst hh1
    clear hh3 c'
    have hg := hg k hlt
    have hy' := hy k mm hlt hi
    generalize E[k] = x at hg hy'
    conv => whnf
    repeat (refine And.intro (by first | omega | (simp only [times]; omega)) ?_; conv => whnf)
    refine ⟨[.one (.int .i64 x.1), .one (.int .u64 x.2)], ⟨rfl, rfl, trivial⟩, rfl, by simp only [times, Int.toNat_natCast]; exact hg, ?_⟩
    conv => whnf
    refine .mk _ hy' ?_
    rintro _ m' ⟨rfl, hi'⟩
    conv => whnf
    refine ⟨fun h => absurd h (by first | decide | simp), fun _ => ?_⟩
    conv => whnf
    refine ⟨k + 1, ⟨by omega, hi'⟩, by omega, ?_⟩
    conv => whnf
    repeat (refine And.intro (by first | with_reducible rfl | (first | exact congrArg (Value.int _) (iadd (by omega))) | exact congrArg (Value.int _) (wi (by omega) (by omega)) | exact wi (by omega) (by omega) | rfl) ?_; conv => whnf)
    first | exact trivial | exact fun _ _ h => h
  · have h1' := of_decide_eq_false h1
    obtain rfl : k = E.length := by omega
    conv => whnf
    exact ⟨rfl, hi⟩
end Go.E.YtcionccfgcnhoaaGreatDoor
namespace Go.E
theorem Split.restP {m q : Mem} {l : List Mem} (h : Split m (q :: l)) : Split m [allM l, q] ∧ Split (allM l) l := by
  obtain ⟨h1, h2⟩ := h
  obtain ⟨h3, h4⟩ := List.pairwise_cons.1 h2
  refine ⟨⟨fun x o hx => ?_, ?_⟩, Sub.refl _, h4⟩
  · obtain ⟨a, ha, hx2⟩ := allM_some hx
    simp only [List.mem_cons, List.not_mem_nil, or_false] at ha
    rcases ha with rfl | rfl
    · obtain ⟨b, hb, hx3⟩ := allM_some hx2
      exact h1 _ _ (allM_of h2 (List.mem_cons_of_mem _ hb) hx3)
    · exact h1 _ _ (allM_of h2 (List.mem_cons_self ..) hx2)
  · simp only [List.pairwise_cons, List.mem_singleton, forall_eq, List.not_mem_nil, false_implies, implies_true, List.Pairwise.nil, and_true]
    intro x
    cases hq : q x with
    | none => exact .inr rfl
    | some o =>
      refine .inl (allM_none.2 fun a ha => ?_)
      rcases h3 a ha x with h' | h'
      · rw [hq] at h'; cases h'
      · exact h'
theorem Split.pickP {mm p : Mem} {l : List Mem} (h : Split mm (p :: l)) : ∃ q, (∀ x ∈ l, Sub x q) ∧ Split mm [p, q] ∧ ∀ m' p', Split m' [p', q] → Split m' (p' :: l) := by
  obtain ⟨h2, h3⟩ := Split.restP h
  exact ⟨allM l, fun x hx => h3.sub hx, h2.perm (List.Perm.swap _ _ _), fun m' p' h4 => Split.under (a := [p']) h4 h3⟩
theorem Split.beside {m mm q : Mem} {l : List Mem} (h : Split m [q, mm]) (hs : Split mm l) : Split m (q :: l) := Split.under (a := [q]) h hs
end Go.E
