/-
  Frame, E16, E18, E24, FrameL, ByDat, ListsDat, Ints, FrameN, E26, E27, E28, E29
-/
import Derived.Test.YtcjmmhamnglmkaaLogBeginsZ6
import Derived.ProofKit
import Derived.OpenShut
import Derived.ChangeArms
import Derived.Lib.ConvBytes
import Derived.Laws.LoneSync
import Derived.Lib.Overlaps
/-
  Contracts of frame.
-/
namespace Go.E.Ytcjmmhamnglmkaa
open Go.Proofs
set_option maxRecDepth 100000
abbrev u32' (n : Int) : CV := .v (.int .u32 n)
theorem La.real {m : Mem} {v : Value} {l : List Int} (h : La m v l) (hl : l ≠ []) : ∃ b o c, v = .slice (some ⟨b, o, none⟩) l.length c := (h.lb hl).real hl
theorem Lb.at' {m : Mem} {b o n c j : Nat} {l : List Int} (h : Lb m (.slice (some ⟨b, o, none⟩) n c) l) {x : Int} (hj : l[j]? = some x) : mcell m b (o + j) = some (.int .u8 x) := by
  obtain ⟨arr, t, fr, h1, h2⟩ := h.range
  exact mcell_of h1 (h2 j _ (by simp [hj]))
theorem fold_take {l : List Int} {i : Nat} (h : i < l.length) : (l.take (i + 1)).foldl (fun s c => Fr.crc1 s c.toNat) 4294967295 = Fr.crc1 ((l.take i).foldl (fun s c => Fr.crc1 s c.toNat) 4294967295) (l[i]).toNat := by
  rw [List.take_succ_eq_append_getElem h, List.foldl_append]; rfl
theorem xor_byte {s : Nat} {x : Int} (hs : s < 2 ^ 32) (hx : 0 ≤ x ∧ x < 256) : bitsOf .xor .u32 (s : Int) (IntKind.u32.wrap x) = ((s ^^^ x.toNat : Nat) : Int) := by
  obtain ⟨k, rfl⟩ : ∃ k : Nat, x = k := ⟨x.toNat, by omega⟩
  rw [wu32 (by omega) (by omega), xor_u32 hs (by omega)]; rfl
theorem fsum_spec {m : Mem} {v : Value} {l : List Int} (hv : La m v l) (hb : Byt l) (hl : l.length ≤ 100000000) : Ret Try.prog 35 [.v v] m [u32' ((Fr.crc l : Nat) : Int)] := by
  obtain ⟨a, c, rfl⟩ := hv.shape
  refine en35 rfl (goY ?_)
  conv => whnf
  refine .mk (ι := Nat) (fun i => l.length - i) (fun i mm => i ≤ l.length ∧ mm = m) (fun i => [(3, .c (u32' (((l.take i).foldl (fun s c => Fr.crc1 s c.toNat) 4294967295 : Nat) : Int))), (7, .c (.v (.slice a l.length c))), (8, .c (i64 l.length)), (9, .c (i64 i))]) (fun _ => []) 0 ⟨by omega, rfl⟩ ?_ ?_
  · conv => whnf
    repeat (refine And.intro (by first | with_reducible rfl | exact congrArg (Value.int _) (wi (by omega) (by omega)) | exact wi (by omega) (by omega) | rfl) ?_; conv => whnf)
    first | exact trivial | exact fun _ _ h => h
  rintro i mm ⟨hi, he⟩
  subst mm
  conv => whnf
  refine ⟨fun h1 => ?_, fun h1 => ?_⟩
  · have h1' := of_decide_eq_true h1
    have hlt : i < l.length := by omega
    have hne : l ≠ [] := by intro e; subst e; simp at hlt
    obtain ⟨b, o, c', hh⟩ := La.real hv hne
    injection hh with hh1 _ hh3
    subst hh1
    clear hh3 c'
    have hx := hb l[i] (List.getElem_mem hlt)
    conv => whnf
    repeat (refine And.intro (by first | omega | (simp only [times]; omega)) ?_; conv => whnf)
    refine ⟨_, by have := Lb.at' (hv.lb hne) (List.getElem?_eq_getElem hlt); simp only [times, Int.toNat_natCast, Nat.mul_one]; exact this, rfl, ?_⟩
    have hs := Fr.fold_lt (l := l.take i) (s := 4294967295) (by decide) (hb.take i)
    have hft := fold_take hlt
    generalize (l.take i).foldl (fun s c => Fr.crc1 s c.toNat) 4294967295 = s0 at hs hft ⊢
    conv => whnf
    rw [xor_byte hs hx]
    have hs' : s0 ^^^ (l[i]).toNat < 2 ^ 32 := Nat.xor_lt_two_pow hs (by omega)
    have hc1 : Fr.crc1 s0 (l[i]).toNat = Fr.stps 8 (s0 ^^^ (l[i]).toNat) := rfl
    rw [hc1] at hft
    generalize s0 ^^^ (l[i]).toNat = s1 at hs' hft ⊢
    refine .mk (ι := Nat) (fun k => 8 - k) (fun k mm => k ≤ 8 ∧ mm = m) (fun k => [(3, .c (u32' ((Fr.stps k s1 : Nat) : Int))), (7, .c (.v (.slice (some ⟨b, o, none⟩) l.length c))), (8, .c (i64 l.length)), (9, .c (i64 i)), (17, .c (i64 k))]) (fun _ => []) 0 ⟨by omega, rfl⟩ ?_ ?_
    · conv => whnf
      repeat (refine And.intro (by first | with_reducible rfl | exact congrArg (Value.int _) (wi (by omega) (by omega)) | exact wi (by omega) (by omega) | rfl) ?_; conv => whnf)
      first | exact trivial | exact fun _ _ h => h
    rintro k mm ⟨hk, he⟩
    subst mm
    conv => whnf
    refine ⟨fun h2 => ?_, fun h2 => ?_⟩
    · have h2' := of_decide_eq_true h2
      have hlk : k < 8 := by omega
      have hsk := Fr.stps_lt (k := k) hs'
      have hsu := Fr.stps_succ k s1
      generalize Fr.stps k s1 = s2 at hsk hsu ⊢
      have ea : bitsOf .and .u32 (s2 : Int) 1 = ((s2 % 2 : Nat) : Int) := by
        have := and_u32 (a := s2) (b := 1) hsk (by decide)
        rw [show (1 : Int) = ((1 : Nat) : Int) from rfl, this, Nat.and_one_is_mod]
      have er : shrOf .u32 (s2 : Int) 1 = ((s2 / 2 : Nat) : Int) := by
        have := shr_nat (k := .u32) (x := s2) (n := 1) (by decide)
        rw [show (1 : Int) = ((1 : Nat) : Int) from rfl, this, Nat.pow_one]
      conv => whnf
      rw [ea, er]
      have hhalf : s2 / 2 < 2 ^ 32 := by omega
      refine ⟨fun h3 => ?_, fun h3 => ?_⟩
      · have h3' : s2 % 2 = 1 := by simp at h3; omega
        have est : Fr.stp s2 = (s2 / 2) ^^^ 3988292384 := by rw [Fr.stp, if_pos h3']
        have ex := xor_u32 (a := s2 / 2) (b := 3988292384) hhalf (by decide)
        conv => whnf
        refine ⟨k + 1, ⟨by omega, rfl⟩, by omega, ?_⟩
        rw [hsu, est]
        conv => whnf
        repeat (refine And.intro (by first | with_reducible rfl | (first | exact congrArg (Value.int _) (iadd (by omega)) | exact congrArg (Value.int _) ex) | exact congrArg (Value.int _) (wi (by omega) (by omega)) | exact wi (by omega) (by omega) | rfl) ?_; conv => whnf)
        first | exact trivial | exact fun _ _ h => h
      · have h3' : ¬ s2 % 2 = 1 := by simp at h3; omega
        have est : Fr.stp s2 = s2 / 2 := by rw [Fr.stp, if_neg h3']
        conv => whnf
        refine ⟨k + 1, ⟨by omega, rfl⟩, by omega, ?_⟩
        rw [hsu, est]
        conv => whnf
        repeat (refine And.intro (by first | with_reducible rfl | (first | exact congrArg (Value.int _) (iadd (by omega))) | exact congrArg (Value.int _) (wi (by omega) (by omega)) | exact wi (by omega) (by omega) | rfl) ?_; conv => whnf)
        first | exact trivial | exact fun _ _ h => h
    · have h2' := of_decide_eq_false h2
      obtain rfl : k = 8 := by omega
      conv => whnf
      refine ⟨i + 1, ⟨by omega, rfl⟩, by omega, ?_⟩
      rw [hft]
      conv => whnf
      repeat (refine And.intro (by first | with_reducible rfl | (first | exact congrArg (Value.int _) (iadd (by omega))) | exact congrArg (Value.int _) (wi (by omega) (by omega)) | exact wi (by omega) (by omega) | rfl) ?_; conv => whnf)
      first | exact trivial | exact fun _ _ h => h
  · have h1' := of_decide_eq_false h1
    obtain rfl : i = l.length := by omega
    rw [List.take_length]
    have hs := Fr.fold_lt (l := l) (s := 4294967295) (by decide) hb
    have hc : Fr.crc l = l.foldl (fun s c => Fr.crc1 s c.toNat) 4294967295 ^^^ 4294967295 := rfl
    rw [hc]
    generalize l.foldl (fun s c => Fr.crc1 s c.toNat) 4294967295 = s0 at hs ⊢
    conv => whnf
    exact ⟨by rw [show (4294967295 : Int) = ((4294967295 : Nat) : Int) from rfl, xor_u32 hs (by decide)], rfl⟩
theorem build4 {m : Mem} {x y z w : Int} : PrimSpec Try.prog (.buildSlice 23 4 [0, 1, 2, 3]) [.v (.int .u8 x), .v (.int .u8 y), .v (.int .u8 z), .v (.int .u8 w)] m fun r m' => ∃ b, m b = none ∧ r = [.v (.slice (some ⟨b, 0, none⟩) 4 4)] ∧ m' = m.set b (.cells (bc [x, y, z, w]).toArray 5) :=
  buildSlice_spec (n := 4) tt_ok hBs rfl hU8 rfl rfl (by simp [CV.cs]) (by simp) (by simp)
theorem four_spec {m : Mem} {s : Nat} (hs : s < 2 ^ 32) : Spec Try.prog 34 [u32' (s : Int)] m fun r m' => ∃ v p, r = [.v v] ∧ Split m' [p, m] ∧ Bs p v (Fr.four s) := by
  have e8 := shr_nat (k := .u32) (x := s) (n := 8) (by decide)
  have e16 := shr_nat (k := .u32) (x := s) (n := 16) (by decide)
  have e24 := shr_nat (k := .u32) (x := s) (n := 24) (by decide)
  refine en34 rfl (goY ?_)
  conv => whnf
  rw [show (8 : Int) = ((8 : Nat) : Int) from rfl, e8, show (16 : Int) = ((16 : Nat) : Int) from rfl, e16, show (24 : Int) = ((24 : Nat) : Int) from rfl, e24]
  refine .mk _ (build4) ?_
  rintro _ _ ⟨b, hb, rfl, rfl⟩
  conv => whnf
  refine ⟨_, _, rfl, (Split.one m).new hb _, ?_⟩
  refine Bs.blk (l := Fr.four s) ?_ rfl
  rw [blk1_same]
  simp only [IntKind.wrap_u8]
  have q8 : (2 : Nat) ^ 8 = 256 := rfl
  have q16 : (2 : Nat) ^ 16 = 65536 := rfl
  have q24 : (2 : Nat) ^ 24 = 16777216 := rfl
  rw [q8, q16, q24]
  rfl
theorem isRec_spec {m : Mem} {n : Nat} : Ret Try.prog 31 [i64 n] m [boolV (Fr.isRec n)] := by
  refine en31 rfl (goY ?_)
  conv => whnf
  repeat' (first | (refine ⟨fun h => ?_, fun h => ?_⟩ <;> conv => whnf) | fail)
  · have h' := of_decide_eq_true h
    have e1 : decide (1 ≤ n) = true := decide_eq_true (by omega)
    have e2 : decide ((n : Int) ≤ 20000) = decide (n ≤ 20000) := decide_eq_decide.2 (by omega)
    rw [Fr.isRec, e1, e2, Bool.true_and]; exact ⟨rfl, rfl⟩
  · have h' := of_decide_eq_false h
    have e1 : decide (1 ≤ n) = false := decide_eq_false (by omega)
    rw [Fr.isRec, e1, Bool.false_and]; exact ⟨rfl, rfl⟩
theorem head_spec {m : Mem} {n : Nat} (hn : n ≤ 1000000000) : Spec Try.prog 33 [i64 n] m fun r m' => ∃ v p, r = [.v v] ∧ Split m' [p, m] ∧ Bs p v (numB n) := by
  refine en33 rfl (goY ?_)
  conv => whnf
  intro b hb
  conv => whnf
  have hs0 := (Split.one m).new hb (.cells (LB.cells [.one (.slice none 0 0)]).toArray 97)
  have hw0 : Wr (blk1 b (.cells (LB.cells [.one (.slice none 0 0)]).toArray 97)) b [] := ⟨_, blk1_same .., Bs.nil _, by simp [blkV]⟩
  rw [wu (n := (n : Int)) (by omega) (by omega)]
  refine xcall ((wnum_spec hw0 (n := (n : Int)) ⟨by omega, by omega⟩ (by simp)).at hs0 (i := 0) rfl) ?_
  rintro _ m1 ⟨p1, ⟨rfl, hw1⟩, hs1⟩
  conv => whnf
  have h9 := numB_len (n : Int)
  refine xcall ((wbytes_spec hw1 (by simp; omega)).at hs1 (i := 0) rfl) ?_
  rintro _ m2 ⟨p2, ⟨v2, q, rfl, hs2, hv2⟩, hs3⟩
  conv => whnf
  have hs4 := (hs3.flat (i := 0) rfl hs2).erase 1
  exact ⟨v2, q, rfl, hs4, by simpa using hv2⟩
theorem write_bad {m : Mem} {v : Value} {l : List Int} (hv : La m v l) (h : Fr.isRec l.length = false) : Ret Try.prog 23 [.v v] m [.v (.slice none 0 0), i64 3] := by
  obtain ⟨a, c, rfl⟩ := hv.shape
  refine en23 rfl (goY ?_)
  conv => whnf
  first | refine xretk (isRec_spec) ?_ | refine xret (isRec_spec) ?_
  conv => whnf
  rw [h]
  refine ⟨fun _ => ?_, fun h => absurd h (by decide)⟩
  conv => whnf
  exact ⟨rfl, rfl⟩
theorem write_ok {m : Mem} {v : Value} {l : List Int} (hv : La m v l) (hb : Byt l) (h : Fr.isRec l.length = true) : Spec Try.prog 23 [.v v] m fun r m' => ∃ v' p, r = [.v v', i64 0] ∧ Split m' [p, m] ∧ Bs p v' (Fr.wr l) := by
  have h' : 1 ≤ l.length ∧ l.length ≤ 20000 := by simpa [Fr.isRec] using h
  obtain ⟨a, c, rfl⟩ := hv.shape
  have h9 := numB_len (l.length : Int)
  refine en23 rfl (goY ?_)
  conv => whnf
  first | refine xretk (isRec_spec) ?_ | refine xret (isRec_spec) ?_
  conv => whnf
  rw [h]
  refine ⟨fun h => absurd h (by decide), fun _ => ?_⟩
  conv => whnf
  refine xcall (head_spec (n := l.length) (by omega)) ?_
  rintro _ m1 ⟨v1, p1, rfl, hs1, hv1⟩
  conv => whnf
  first | refine xretk (fsum_spec (hv.sub (hs1.sub (by simp))) hb (by omega)) ?_ | refine xret (fsum_spec (hv.sub (hs1.sub (by simp))) hb (by omega)) ?_
  conv => whnf
  refine xcall (four_spec (Fr.crc_lt hb)) ?_
  rintro _ m2 ⟨v2, p2, rfl, hs2, hv2⟩
  conv => whnf
  have hs2 := hs2.under (a := [p2]) hs1
  refine .mk _ (buildL3) ?_
  rintro _ _ ⟨b3, hb3, rfl, rfl⟩
  conv => whnf
  have hs3 := hs2.new hb3 (.cells #[v1, .slice a l.length c, v2] 23)
  have q1 : Sub p1 m2 := hs2.sub (by simp)
  have q2 : Sub p2 m2 := hs2.sub (by simp)
  have q3 : Sub m m2 := hs2.sub (by simp)
  have q4 := Mem.sub_set (.cells #[v1, .slice a l.length c, v2] 23) hb3
  refine xcall (concat_spec (Lists.three (Mem.set_same ..) (hv1.lb.la.sub (q1.trans q4)) (hv.sub (q3.trans q4)) (hv2.lb.la.sub (q2.trans q4))) (by simp [catB, Fr.four]; omega) (by simp)) ?_
  rintro _ m4 ⟨v', p, rfl, hs4, hv'⟩
  conv => whnf
  have hs4 := hs4.under (a := [p]) hs3
  refine ⟨v', p, rfl, (((hs4.erase 1).erase 1).erase 1), ?_⟩
  simpa [catB, Fr.wr, List.append_assoc] using hv'
theorem equal_spec {m : Mem} {v w : Value} {l k : List Int} (hv : La m v l) (hw : La m w k) (hl : l.length ≤ 100000000) : Ret Try.prog 43 [.v v, .v w] m [boolV (decide (l = k))] := by
  obtain ⟨a, c, rfl⟩ := hv.shape
  obtain ⟨aw, cw, rfl⟩ := hw.shape
  refine en43 rfl (goY ?_)
  conv => whnf
  refine ⟨fun h => ?_, fun h => ?_⟩
  · conv => whnf
    have : l ≠ k := by rintro rfl; simp at h
    rw [decide_eq_false this]
    exact ⟨rfl, rfl⟩
  have hlk : l.length = k.length := by simp at h; omega
  clear h
  rw [← hlk] at hw ⊢
  conv => whnf
  refine .mk (ι := Nat) (fun i => l.length - i) (fun i mm => i ≤ l.length ∧ l.take i = k.take i ∧ mm = m) (fun i => [(0, .c (.v (.slice a l.length c))), (1, .c (.v (.slice aw l.length cw))), (12, .c (i64 l.length)), (13, .c (i64 i))]) (fun _ => []) 0 ⟨by omega, by simp, rfl⟩ ?_ ?_
  · conv => whnf
    repeat (refine And.intro (by first | with_reducible rfl | exact congrArg (Value.int _) (wi (by omega) (by omega)) | exact wi (by omega) (by omega) | rfl) ?_; conv => whnf)
    first | exact trivial | exact fun _ _ h => h
  rintro i mm ⟨hi, htk, he⟩
  subst mm
  conv => whnf
  refine ⟨fun h1 => ?_, fun h1 => ?_⟩
  · have h1' := of_decide_eq_true h1
    have hlt : i < l.length := by omega
    have hne : l ≠ [] := by intro e; subst e; simp at hlt
    have hne' : k ≠ [] := by intro e; rw [e] at hlk; simp only [List.length_nil] at hlk; omega
    obtain ⟨b, o, c', hh⟩ := La.real hv hne
    injection hh with hh1 _ hh3
    subst hh1
    clear hh3 c'
    have hw' : La m (.slice aw k.length cw) k := by rw [← hlk]; exact hw
    obtain ⟨bw, ow, c', hh⟩ := La.real hw' hne'
    injection hh with hh1 _ hh3
    subst hh1
    clear hh3 c'
    have hltk : i < k.length := by omega
    conv => whnf
    repeat (refine And.intro (by first | omega | (simp only [times]; omega)) ?_; conv => whnf)
    refine ⟨_, by have := Lb.at' (hv.lb hne) (List.getElem?_eq_getElem hlt); simp only [times, Int.toNat_natCast, Nat.mul_one]; exact this, rfl, ?_⟩
    conv => whnf
    repeat (refine And.intro (by first | omega | (simp only [times]; omega)) ?_; conv => whnf)
    refine ⟨_, by have := Lb.at' (hw.lb hne') (List.getElem?_eq_getElem hltk); simp only [times, Int.toNat_natCast, Nat.mul_one]; exact this, rfl, ?_⟩
    conv => whnf
    refine ⟨fun h2 => ?_, fun h2 => ?_⟩
    · conv => whnf
      have : l ≠ k := by rintro rfl; simp at h2
      rw [decide_eq_false this]
      exact ⟨rfl, rfl⟩
    · have h2' : l[i] = k[i] := by simpa using h2
      conv => whnf
      refine ⟨i + 1, ⟨by omega, by rw [List.take_succ_eq_append_getElem hlt, List.take_succ_eq_append_getElem hltk, htk, h2'], rfl⟩, by omega, ?_⟩
      conv => whnf
      repeat (refine And.intro (by first | with_reducible rfl | (first | exact congrArg (Value.int _) (iadd (by omega))) | exact congrArg (Value.int _) (wi (by omega) (by omega)) | exact wi (by omega) (by omega) | rfl) ?_; conv => whnf)
      first | exact trivial | exact fun _ _ h => h
  · have h1' := of_decide_eq_false h1
    obtain rfl : i = l.length := by omega
    rw [List.take_length, hlk, List.take_length] at htk
    conv => whnf
    rw [decide_eq_true htk]
    exact ⟨rfl, rfl⟩
theorem Lb.cap' {m : Mem} {b o n c : Nat} {l : List Int} (h : Lb m (.slice (some ⟨b, o, none⟩) n c) l) : l.length ≤ c := by
  rcases h.cases with ⟨c, h1, h2⟩ | ⟨b', o', c', arr, t, fr, h1, h2, h3, h4⟩
  · cases h1
  · cases h1; exact h3
theorem Lb.cut' {m : Mem} {b o n c c' : Nat} {l : List Int} (h : Lb m (.slice (some ⟨b, o, none⟩) n c) l) (i len : Nat) (hk : i + len ≤ l.length) (hc : len ≤ c') : Lb m (.slice (some ⟨b, o + i, none⟩) len c') ((l.drop i).take len) := by
  rcases h.cases with ⟨c, h1, h2⟩ | ⟨b', o', c', arr, t, fr, h1, h2, h3, h4⟩
  · cases h1
  · cases h1
    refine Lb.mk h2 (by simp; omega) hc (fun j x hj => ?_)
    rw [List.getElem?_take] at hj
    split at hj
    · rw [List.getElem?_drop] at hj
      rw [Nat.add_assoc]; exact h4 _ _ hj
    · cases hj
theorem next_spec {m : Mem} {v : Value} {l : List Int} (hv : La m v l) (hb : Byt l) (hl : l.length ≤ 10000000) : Spec Try.prog 29 [.v v] m fun r m' => ∃ v' p, r = [.v v', i64 ((Fr.next l).2.1 : Nat), i64 (Fr.next l).2.2] ∧ Split m' [p, m] ∧ Bs p v' (Fr.next l).1 := by
  obtain ⟨a, c, rfl⟩ := hv.shape
  refine en29 rfl (goY ?_)
  conv => whnf
  refine xcall (from_spec hv hb (by omega)) ?_
  rintro _ m1 ⟨bp, p1, rfl, hs1, h1⟩
  conv => whnf
  refine xcall ((small_spec h1 (most := 20000) ⟨by decide, by decide⟩).at hs1 (i := 0) rfl) ?_
  rintro _ m2 ⟨p2, ⟨rfl, h2, _⟩, hs2⟩
  conv => whnf
  have hk := rSmall_nat (most := 20000) (s := (l, 0)) hb ⟨by decide, by decide⟩
  have hsub : Sub m m2 := hs2.sub (by simp)
  rcases hr : rSmall 20000 (l, 0) with ⟨n, rest, e⟩
  rw [hr] at h2 hk
  simp only [hr]
  have hx : Fr.next l = (if e = 8 then ([], 0, 0) else if e ≠ 0 ∨ n = 0 then ([], 0, 3) else if (l.length : Int) - (numB n).length < n.toNat + 4 then ([], 0, 0) else
      if Fr.four (Fr.crc ((l.drop (numB n).length).take n.toNat)) = (l.drop ((numB n).length + n.toNat)).take 4 then ((l.drop (numB n).length).take n.toNat, (numB n).length + n.toNat + 4, 0) else ([], 0, 9)) := by
    unfold Fr.next; simp only [hr]
  simp only at hk
  obtain ⟨hk0, hk1⟩ := hk
  have hk1 : n ≤ 20000 := by omega
  have hnil : ∃ p, Split m2 [p, m] := ⟨_, hs2⟩
  have h3 := h2.mono (hs2.sub (by simp))
  clear h2 h1 hs1
  first | refine xretk (err_spec h3) ?_ | refine xret (err_spec h3) ?_
  conv => whnf
  refine ⟨fun h => ?_, fun h => ?_⟩
  · have h' : e = 8 := by simpa using h
    conv => whnf
    rw [hx, if_pos h']
    exact ⟨_, _, rfl, hs2, Bs.nil _⟩
  have h8 : ¬ e = 8 := by simpa using h
  clear h
  conv => whnf
  first | refine xretk (err_spec h3) ?_ | refine xret (err_spec h3) ?_
  conv => whnf
  refine ⟨fun h => ?_, fun h => ?_⟩
  · have h' : e ≠ 0 := by simpa using h
    conv => whnf
    rw [hx, if_neg h8, if_pos (.inl h')]
    exact ⟨_, _, rfl, hs2, Bs.nil _⟩
  have h0 : e = 0 := by simpa using h
  clear h
  conv => whnf
  refine ⟨fun h => ?_, fun h => ?_⟩
  · have h' : n = 0 := by simpa using h
    conv => whnf
    rw [hx, if_neg h8, if_pos (.inr h')]
    exact ⟨_, _, rfl, hs2, Bs.nil _⟩
  have hn0 : ¬ n = 0 := by simpa using h
  clear h
  rw [if_neg h8, if_neg (by omega)] at hx
  obtain ⟨k, rfl⟩ : ∃ k : Nat, n = k := ⟨n.toNat, by omega⟩
  rw [Int.toNat_natCast] at hx
  have h9 := numB_len (k : Int)
  conv => whnf
  refine xcall (head_spec (n := k) (by omega)) ?_
  rintro _ m3 ⟨v1, q1, rfl, hs3, hv1⟩
  conv => whnf
  obtain ⟨a1, c1, rfl⟩ := hv1.lb.shape
  have hs3 := hs3.under (a := [q1]) hs2
  have hsub3 : Sub m m3 := hs3.sub (by simp)
  clear hv1 h3
  generalize hat : (numB (k : Int)).length = at' at *
  have e1 : IntKind.i64.wrap ((l.length : Int) - (at' : Int)) = (l.length : Int) - at' := wi (by omega) (by omega)
  have e2 : IntKind.i64.wrap ((k : Int) + 4) = ((k + 4 : Nat) : Int) := by rw [wi (by omega) (by omega)]; omega
  conv => whnf
  rw [e1, e2]
  refine ⟨fun h => ?_, fun h => ?_⟩
  · have h' := of_decide_eq_true h
    conv => whnf
    rw [hx, if_pos (by omega)]
    exact ⟨_, _, rfl, hs3.erase 1, Bs.nil _⟩
  have h' := of_decide_eq_false h
  clear h
  rw [if_neg (by omega)] at hx
  have e3 : IntKind.i64.wrap ((at' : Int) + (k : Int)) = ((at' + k : Nat) : Int) := by rw [wi (by omega) (by omega)]; omega
  have hne : l ≠ [] := by rintro rfl; simp at h'; omega
  have hv0 := hv
  obtain ⟨b, o, c', hh⟩ := La.real hv hne
  injection hh with hh1 _ hh3
  subst hh1
  clear hh3 c'
  have hlb := (hv.lb hne).sub hsub3
  have hcap := Lb.cap' hlb
  conv => whnf
  rw [e3]
  repeat (refine And.intro (by first | omega | (simp only [times]; omega)) ?_; conv => whnf)
  intro o1 ho1 _
  obtain rfl : o1 = o + at' := by have := ho1 (by omega); rw [Int.toNat_natCast] at this; simpa using this
  simp only [Int.toNat_natCast]
  rw [show at' + k - at' = k by omega]
  conv => whnf
  have hd := Lb.cut' (c' := c - at') hlb at' k (by omega) (by omega)
  refine xcall (clone_spec hd.la (by simp; omega)) ?_
  rintro _ m4 ⟨v4, q4, rfl, hs4, hv4⟩
  conv => whnf
  have hs4 := hs4.under (a := [q4]) hs3
  have hsub4 : Sub m m4 := hs4.sub (by simp)
  have hbd : Byt ((l.drop at').take k) := (hb.drop _).take _
  have e4 : IntKind.i64.wrap (((at' + k : Nat) : Int) + 4) = ((at' + k + 4 : Nat) : Int) := by rw [wi (by omega) (by omega)]; omega
  rw [e3, e4]
  repeat (refine And.intro (by first | omega | (simp only [times]; omega)) ?_; conv => whnf)
  intro o2 ho2 _
  obtain rfl : o2 = o + (at' + k) := by have := ho2 (by omega); rw [Int.toNat_natCast] at this; simpa using this
  simp only [Int.toNat_natCast]
  rw [show at' + k + 4 - (at' + k) = 4 by omega]
  conv => whnf
  first | refine xretk (fsum_spec (hv4.lb.la.sub (hs4.sub (by simp))) hbd (by simp; omega)) ?_ | refine xret (fsum_spec (hv4.lb.la.sub (hs4.sub (by simp))) hbd (by simp; omega)) ?_
  conv => whnf
  refine xcall (four_spec (Fr.crc_lt hbd)) ?_
  rintro _ m5 ⟨v5, q5, rfl, hs5, hv5⟩
  conv => whnf
  have hs5 := hs5.under (a := [q5]) hs4
  have hsub5 : Sub m m5 := hs5.sub (by simp)
  have hd2 := Lb.cut' (c' := c - (at' + k)) ((hv.lb hne).sub hsub5) (at' + k) 4 (by omega) (by omega)
  first | refine xretk (equal_spec (hv5.lb.la.sub (hs5.sub (by simp))) hd2.la (by simp [Fr.four])) ?_ | refine xret (equal_spec (hv5.lb.la.sub (hs5.sub (by simp))) hd2.la (by simp [Fr.four])) ?_
  conv => whnf
  refine ⟨fun h => ?_, fun h => ?_⟩
  · have hq : ¬ Fr.four (Fr.crc ((l.drop at').take k)) = (l.drop (at' + k)).take 4 := by simpa using h
    conv => whnf
    rw [hx, if_neg hq]
    exact ⟨_, q5, rfl, ((hs5.erase 1).erase 1).erase 1, Bs.nil _⟩
  · have hq : Fr.four (Fr.crc ((l.drop at').take k)) = (l.drop (at' + k)).take 4 := by simpa using h
    conv => whnf
    rw [hx, if_pos hq]
    refine ⟨v4, q4, ?_, ((hs5.erase 2).erase 2).erase 0, hv4⟩
    rw [e3, e4]
theorem Lb.postA {m : Mem} {b o n c : Nat} {l : List Int} (hv : La m (.slice (some ⟨b, o, none⟩) n c) l) (hc : l.length ≤ c) (k : Nat) (hk : k ≤ l.length) (o' : Nat) (ho : c - k ≠ 0 → o' = o + k) : La m (.slice (some ⟨b, o', none⟩) (l.length - k) (c - k)) (l.drop k) := by
  by_cases hne : l.drop k = []
  · have h0 : l.length - k = 0 := by have := congrArg List.length hne; simpa using this
    rcases hv with h | ⟨rfl, a, h⟩
    · rcases h.cases with ⟨_, h1, _⟩ | ⟨b', o'', c', arr, t, fr, h1, h2, h3, h4⟩
      · cases h1
      · cases h1
        rw [hne, h0]
        exact (Lb.mk (l := []) (o := o') h2 rfl (Nat.zero_le _) (fun j x hj => by cases hj)).la
    · injection h with h1 h2 h3
      subst h3
      exact .inr ⟨by simp, ⟨b, o', none⟩, by simp⟩
  · have hl : l ≠ [] := by rintro rfl; simp at hne
    have hd : 0 < (l.drop k).length := List.length_pos_iff.2 hne
    rw [List.length_drop] at hd
    obtain rfl := ho (by omega)
    have := Lb.cut' (c' := c - k) (hv.lb hl) k (l.length - k) (by omega) (by omega)
    rw [List.take_of_length_le (by simp)] at this
    exact this.la
theorem Split.mid {m p a b : Mem} {l : List Mem} (h : Split m (p :: a :: b :: l)) : Split m (p :: joinM a b :: l) ∧ Sub a (joinM a b) ∧ Sub b (joinM a b) := by
  have h1 : Split m (a :: b :: p :: l) := h.perm ((List.Perm.swap a p (b :: l)).trans ((List.Perm.swap b p l).cons a))
  refine ⟨h1.pair.perm (List.Perm.swap p (joinM a b) l), fun x o hx => by simp [joinM, hx], fun x o hx => ?_⟩
  rcases h1.dj x with h' | h'
  · simp [joinM, h', hx]
  · rw [h'] at hx; cases hx
theorem read_step {f : Nat} {b : List Int} (h : 0 < (Fr.next b).2.1) : Fr.read (f + 1) b = ((Fr.next b).1 :: (Fr.read f (b.drop (Fr.next b).2.1)).1, (Fr.next b).2.1 + (Fr.read f (b.drop (Fr.next b).2.1)).2.1, (Fr.read f (b.drop (Fr.next b).2.1)).2.2) := by
  rw [Fr.read]; simp only [if_pos h]
theorem read_stop {f : Nat} {b : List Int} (h : ¬ 0 < (Fr.next b).2.1) : Fr.read (f + 1) b = ([], 0, (Fr.next b).2.2) := by
  rw [Fr.read]; simp only [if_neg h]
/-- what was read so far -/
structure Got (l : List Int) (f : Nat) (at' : Nat) (ls : List (List Int)) : Prop where
  le : at' ≤ l.length
  fuel : l.length - at' < f
  cnt : ls.length ≤ at'
  eq : Fr.read (l.length + 1) l = (ls ++ (Fr.read f (l.drop at')).1, at' + (Fr.read f (l.drop at')).2.1, (Fr.read f (l.drop at')).2.2)
theorem Got.start (l : List Int) : Got l (l.length + 1) 0 [] := ⟨by omega, by omega, by simp, by simp⟩
theorem Got.more {l : List Int} {f at' : Nat} {ls : List (List Int)} (h : Got l f at' ls) (hp : 0 < (Fr.next (l.drop at')).2.1) : ∃ f', f = f' + 1 ∧ Got l f' (at' + (Fr.next (l.drop at')).2.1) (ls ++ [(Fr.next (l.drop at')).1]) := by
  obtain ⟨f', rfl⟩ : ∃ f', f = f' + 1 := ⟨f - 1, by have := h.fuel; omega⟩
  have hl := Fr.next_le (l.drop at')
  rw [List.length_drop] at hl
  have := h.le; have := h.fuel; have := h.cnt
  refine ⟨f', rfl, by omega, by omega, by simp; omega, ?_⟩
  rw [h.eq, read_step hp, List.drop_drop]
  simp [Nat.add_assoc]
theorem Got.stop {l : List Int} {f at' : Nat} {ls : List (List Int)} (h : Got l f at' ls) (hp : ¬ 0 < (Fr.next (l.drop at')).2.1) : Fr.read (l.length + 1) l = (ls, at', (Fr.next (l.drop at')).2.2) := by
  obtain ⟨f', rfl⟩ : ∃ f', f = f' + 1 := ⟨f - 1, by have := h.fuel; omega⟩
  rw [h.eq, read_stop hp]; simp
set_option maxHeartbeats 2000000 in
theorem read_spec {m : Mem} {b o c : Nat} {l : List Int} (hv : La m (.slice (some ⟨b, o, none⟩) l.length c) l) (hb : Byt l) (hl : l.length ≤ 1000000) (hc : l.length ≤ c) : Spec Try.prog 19 [.v (.slice (some ⟨b, o, none⟩) l.length c)] m fun r m' => ∃ v' ps p, r = [.v v', i64 ((Fr.read (l.length + 1) l).2.1 : Nat), i64 (Fr.read (l.length + 1) l).2.2] ∧ Split m' [p, m] ∧ Lists p v' ps ∧ ps.map (·.2) = (Fr.read (l.length + 1) l).1 := by
  refine en19 rfl (goY ?_)
  conv => whnf
  refine .mk 0 _ rfl (ι := Nat × Value × Nat) (fun i => i.1) (fun ⟨f, x, k⟩ mm => ∃ (ps : List (Value × List Int)) (p q : Mem), Got l f k (ps.map (·.2)) ∧ Split mm [p, q, m] ∧ Own p 23 1 x (ps.map (·.1)) ∧ ∀ u ∈ ps, La q u.1 u.2)
    (fun ⟨f, x, k⟩ => [(0, .c (.v (.slice (some ⟨b, o, none⟩) l.length c))), (5, .c (.v x)), (6, .c (i64 k))]) (fun _ => []) ?_ ?_
  · conv => whnf
    repeat (refine And.intro (by first | omega | (simp only [times]; omega)) ?_; conv => whnf)
    intro o1 ho1 _
    have hpost := Lb.postA hv hc 0 (by omega) o1 (fun h => by have := ho1 (by simp only [Int.toNat_zero]; omega); simpa using this)
    have e0 : c - (0 : Int).toNat = c - 0 := rfl
    rw [e0, show l.length - (0 : Int).toNat = l.length - 0 from rfl]
    have hg := Got.start l
    refine xcall (next_spec hpost (hb.drop _) (by simp; omega)) ?_
    rintro _ m1 ⟨v1, p1, rfl, hs1, hv1⟩
    conv => whnf
    refine ⟨fun h1 => ?_, fun h1 => ?_⟩
    · have h1' : 0 < (Fr.next (l.drop 0)).2.1 := by have := of_decide_eq_true h1; omega
      obtain ⟨f', hf', hg'⟩ := hg.more h1'
      have hle := hg'.le
      have hs2 : Split m1 (emp :: [p1, m]) := hs1.addEmp
      conv => whnf
      refine .mk _ (buildL1) ?_
      rintro _ _ ⟨b1, hb1, rfl, rfl⟩
      conv => whnf
      refine .mk _ (pushL (p := emp) (y := .slice none 0 0) (vs := []) hs2 hb1 hv1.lb.one (.inl ⟨rfl, rfl⟩) (by simp)) ?_
      rintro _ m2 ⟨x', p', rfl, hs3, hx'⟩
      conv => whnf
      refine ⟨(f', x', 0 + (Fr.next (l.drop 0)).2.1), ⟨[(v1, (Fr.next (l.drop 0)).1)], p', p1, hg', hs3, hx', by simpa using hv1.lb.la⟩, ?_⟩
      conv => whnf
      repeat (refine And.intro (by first | with_reducible rfl | (first | exact congrArg (Value.int _) (by rw [wi (by omega) (by omega)]; omega)) | exact congrArg (Value.int _) (wi (by omega) (by omega)) | exact wi (by omega) (by omega) | rfl) ?_; conv => whnf)
      first | exact trivial | exact fun _ _ h => h
    · have h1' : ¬ 0 < (Fr.next (l.drop 0)).2.1 := by have := of_decide_eq_false h1; omega
      have hst := hg.stop h1'
      conv => whnf
      rw [hst]
      exact ⟨_, [], emp, rfl, (hs1.erase 0).addEmp, ⟨.inl ⟨_, rfl, rfl⟩, by simp⟩, rfl⟩
  · rintro ⟨f, x, k⟩ mm ⟨ps, p, q, hg, hs, hx, hq⟩
    have hle := hg.le
    have hsub : Sub m mm := hs.sub (by simp)
    conv => whnf
    repeat (refine And.intro (by first | omega | (simp only [times]; omega)) ?_; conv => whnf)
    intro o1 ho1 _
    have hpost := Lb.postA (hv.sub hsub) hc k hg.le o1 (fun h => by have := ho1 (by rw [Int.toNat_natCast]; omega); simpa using this)
    simp only [Int.toNat_natCast]
    refine xcall (next_spec hpost (hb.drop _) (by simp; omega)) ?_
    rintro _ m1 ⟨v1, p1, rfl, hs1, hv1⟩
    conv => whnf
    have hs1 := hs1.under (a := [p1]) hs
    have hcnt := hg.cnt
    rw [List.length_map] at hcnt
    refine ⟨fun h1 => ?_, fun h1 => ?_⟩
    · have h1' : 0 < (Fr.next (l.drop k)).2.1 := by have := of_decide_eq_true h1; omega
      obtain ⟨f', rfl, hg'⟩ := hg.more h1'
      have hle' := hg'.le
      have hs2 : Split m1 (p :: [p1, q, m]) := hs1.perm (List.Perm.swap _ _ _)
      conv => whnf
      refine .mk _ (buildL1) ?_
      rintro _ _ ⟨b1, hb1, rfl, rfl⟩
      conv => whnf
      refine .mk _ (pushL hs2 hb1 hv1.lb.one hx (by simp; omega)) ?_
      rintro _ m2 ⟨x', p', rfl, hs3, hx'⟩
      conv => whnf
      obtain ⟨hs4, hsa, hsb⟩ := Split.mid hs3
      refine ⟨(f', x', k + (Fr.next (l.drop k)).2.1), ⟨ps ++ [(v1, (Fr.next (l.drop k)).1)], p', _, by simpa using hg', hs4, by simpa using hx', ?_⟩, by simp only; omega, ?_⟩
      · intro u hu
        rcases List.mem_append.1 hu with hu | hu
        · exact (hq u hu).sub hsb
        · rw [List.mem_singleton.1 hu]; exact hv1.lb.la.sub hsa
      · conv => whnf
        repeat (refine And.intro (by first | with_reducible rfl | (first | exact congrArg (Value.int _) (by rw [wi (by omega) (by omega)]; omega)) | exact congrArg (Value.int _) (wi (by omega) (by omega)) | exact wi (by omega) (by omega) | rfl) ?_; conv => whnf)
        first | exact trivial | exact fun _ _ h => h
    · have h1' : ¬ 0 < (Fr.next (l.drop k)).2.1 := by have := of_decide_eq_false h1; omega
      have hst := hg.stop h1'
      conv => whnf
      rw [hst]
      have hs2 : Split m1 (p :: [q, m]) := hs1.drop
      have hd := hs2.dj
      have hs3 := hs2.pair
      refine ⟨x, ps, joinM p q, rfl, hs3, ⟨hx.lies.sub (fun y u hu => by simp [joinM, hu]), fun u hu => (hq u hu).sub (fun y w hw => ?_)⟩, rfl⟩
      rcases hd y with h' | h'
      · simp [joinM, h', hw]
      · rw [h'] at hw; cases hw
end Go.E.Ytcjmmhamnglmkaa

/-
  From a contract to a law's row: what arguments are that were read; that they read the same behind the call.
-/
namespace Go.E
open Go.ChangeShapes Go.WideShapes Go.RowKit

/-- a cell that was read: of the kind of z, and as such a cell may be -/
def KW : Value → Value → Prop
  | .int k _, .int k' n => k = k' ∧ (Lit.int k n).wf = true
  | .bool _, .bool _ => True
  | .string _, .string s => s.size ≤ maxLen
  | _, _ => False
def KWs : List Value → List Value → Prop
  | [], [] => True
  | z :: zs, x :: xs => KW z x ∧ KWs zs xs
  | _, _ => False
theorem KWs.length : ∀ {z x : List Value}, KWs z x → z.length = x.length
  | [], [], _ => rfl
  | _ :: _, _ :: _, h => by simp [KWs.length h.2]
  | [], _ :: _, h => h.elim
  | _ :: _, [], h => h.elim
theorem KWs.append : ∀ {z x z' x' : List Value}, KWs z x → KWs z' x' → KWs (z ++ z') (x ++ x')
  | [], [], _, _, _, h => h
  | _ :: _, _ :: _, _, _, h, h' => ⟨h.1, KWs.append h.2 h'⟩
  | [], _ :: _, _, _, h, _ => h.elim
  | _ :: _, [], _, _, h, _ => h.elim

section
variable {H : Type} {enc : TypeId × Value → H} {P : Program} {w : World} {base : Nat} {spare : Nat → Bool} {held : Bool}

theorem kws_items {D : Nat} {e : TypeId} {s : Nat} {z cs : List Value} (IH : ∀ i, goodB P D e ((z.drop (i * s)).take s) = true → KWs ((z.drop (i * s)).take s) ((cs.drop (i * s)).take s)) : ∀ (n k : Nat), (n + k) * s = z.length → cs.length = z.length →
    (∀ i, i < n + k → goodB P D e ((z.drop (i * s)).take s) = true) → KWs (z.drop (k * s)) (cs.drop (k * s))
  | 0, k, hl, hc, _ => by
    have h1 : z.drop (k * s) = [] := List.drop_eq_nil_of_le (by rw [← hl]; simp)
    have h2 : cs.drop (k * s) = [] := List.drop_eq_nil_of_le (by rw [hc, ← hl]; simp)
    rw [h1, h2]; trivial
  | n + 1, k, hl, hc, hg => by
    have ih := kws_items IH n (k + 1) (by rw [← hl]; congr 1; omega) hc (fun i hi => hg i (by omega))
    have := (IH k (hg k (by omega))).append ih
    have e1 : (k + 1) * s = k * s + s := by rw [Nat.add_mul, Nat.one_mul]
    rw [e1, ← List.drop_drop, ← List.drop_drop, List.take_append_drop, List.take_append_drop] at this
    exact this
theorem kws_fields {D : Nat} {z cs : List Value} (IH : ∀ (f : TypeId) (off : Nat), off + P.cellsOf f ≤ z.length → goodB P D f ((z.drop off).take (P.cellsOf f)) = true → (∃ fuel x, DataW.trod enc P w base spare held fuel f ((cs.drop off).take (P.cellsOf f)) = some x) → KWs ((z.drop off).take (P.cellsOf f)) ((cs.drop off).take (P.cellsOf f))) :
    ∀ (fs : List Field) (off : Nat), cs.length = z.length → goodF P (goodB P D) fs z off = true → (∀ f ∈ fs, ∃ fuel x, DataW.trod enc P w base spare held fuel f.type ((cs.drop f.offset).take (P.cellsOf f.type)) = some x) → KWs (z.drop off) (cs.drop off)
  | [], off, hc, hg, _ => by
    simp only [goodF, beq_iff_eq] at hg
    have h1 : z.drop off = [] := List.drop_eq_nil_of_le (by omega)
    have h2 : cs.drop off = [] := List.drop_eq_nil_of_le (by omega)
    rw [h1, h2]; trivial
  | f :: fs, off, hc, hg, ht => by
    simp only [goodF, Bool.and_eq_true, bne_iff_ne, ne_eq, beq_iff_eq] at hg
    obtain ⟨⟨⟨⟨_, ho⟩, hle⟩, hgf⟩, hr⟩ := hg
    have hle := of_decide_eq_true hle
    have h0 := ht f (by simp)
    rw [ho] at h0
    have := (IH f.type off hle hgf h0).append (kws_fields IH fs (off + P.cellsOf f.type) hc hr (fun f' hf => ht f' (by simp [hf])))
    rw [← List.drop_drop, ← List.drop_drop, List.take_append_drop, List.take_append_drop] at this
    exact this

theorem mapM_all {α β : Type} {f : α → Option β} : ∀ {l : List α} {r : List β}, l.mapM f = some r → ∀ x ∈ l, ∃ y, f x = some y
  | [], _, _, x, hx => by cases hx
  | a :: l, r, h, x, hx => by
    rw [List.mapM_cons] at h
    simp only [bind, Option.bind_eq_some_iff, pure, Option.some.injEq] at h
    obtain ⟨y, hy, ys, hys, _⟩ := h
    rcases List.mem_cons.1 hx with rfl | hx
    · exact ⟨y, hy⟩
    · exact mapM_all hys x hx

theorem trod_kw : ∀ (D : Nat) (t : TypeId) (z cs : List Value) (fuel : Nat) (x : DataW H × List MemPlace), goodB P D t z = true → z.length = P.cellsOf t → DataW.trod enc P w base spare held fuel t cs = some x → KWs z cs
  | 0, _, _, _, _, _, h, _, _ => by simp [goodB] at h
  | D + 1, t, z, cs, 0, x, h, hz, ht => by simp [DataW.trod] at ht
  | D + 1, t, z, cs, fuel + 1, x, h, hz, ht => by
    have IH := trod_kw D
    unfold goodB at h
    cases hu : P.underlying t with
    | none => simp [hu] at h
    | some kd =>
      rw [hu] at h
      cases kd with
      | bool =>
        simp only at h
        split at h
        · obtain ⟨b, rfl, _⟩ := DataW.trod_bool hu ht
          exact ⟨trivial, trivial⟩
        · cases h
      | int q =>
        simp only at h
        split at h
        · rename_i k' v
          have := kEq_eq h; subst this
          obtain ⟨n, rfl, _, hw⟩ := DataW.trod_int hu ht
          exact ⟨⟨rfl, hw⟩, trivial⟩
        · cases h
      | string =>
        simp only at h
        split at h
        · obtain ⟨s, rfl, _, hs⟩ := DataW.trod_string hu ht
          exact ⟨hs, trivial⟩
        · cases h
      | array n e =>
        simp only [Bool.and_eq_true, beq_iff_eq, List.all_eq_true, List.mem_range] at h
        obtain ⟨⟨hi, hlen⟩, hall⟩ := h
        obtain ⟨xs, k, hk, _, hl, hxl, hp⟩ := DataW.trod_array hu ht
        have := kws_items (P := P) (D := D) (e := e) (s := P.cellsOf e) (z := z) (cs := cs) (fun i hg => by
          by_cases hin : i < n
          · have hy := hp i hin
            rw [List.getElem?_eq_getElem (by omega)] at hy
            refine IH e _ _ k _ hg ?_ hy
            simp only [List.length_take, List.length_drop]
            have hle : i * P.cellsOf e + P.cellsOf e ≤ z.length := by
              rw [hlen, show i * P.cellsOf e + P.cellsOf e = (i + 1) * P.cellsOf e by rw [Nat.add_mul, Nat.one_mul]]
              exact Nat.mul_le_mul_right _ hin
            omega
          · have hge : z.length ≤ i * P.cellsOf e := by
              rw [hlen]; exact Nat.mul_le_mul_right _ (Nat.le_of_not_lt hin)
            rw [List.drop_eq_nil_of_le hge, List.drop_eq_nil_of_le (by omega)]
            simp [KWs]) n 0 (by simp; omega) (by omega) (fun i hi => hall i (by omega))
        simpa using this
      | struct fs =>
        simp only [Bool.and_eq_true, Bool.not_eq_true'] at h
        obtain ⟨_, hf⟩ := h
        obtain ⟨xs, k, hk, _, hl, hxl, hp⟩ := DataW.trod_struct hu ht
        have hfit : ∀ (f : TypeId) (off : Nat), off + P.cellsOf f ≤ z.length → goodB P D f ((z.drop off).take (P.cellsOf f)) = true → (∃ fuel x, DataW.trod enc P w base spare held fuel f ((cs.drop off).take (P.cellsOf f)) = some x) → KWs ((z.drop off).take (P.cellsOf f)) ((cs.drop off).take (P.cellsOf f)) := by
          intro f off hle hg ⟨fu, y, hy⟩
          exact IH f _ _ fu y hg (by simp only [List.length_take, List.length_drop]; omega) hy
        have := kws_fields hfit fs.toList 0 (by omega) hf (fun f hf' => by
          obtain ⟨i, hi, he⟩ := List.getElem_of_mem hf'
          have hy := hp i f (by rw [← Array.getElem?_toList, List.getElem?_eq_getElem hi, he])
          rw [List.getElem?_eq_getElem (by simp at hi; omega)] at hy
          exact ⟨k, _, hy⟩)
        simpa using this
      | _ => simp at h

def InLB : LB → LB → Prop
  | [], [] => True
  | .one z :: zs, .one x :: xs => KW z x ∧ InLB zs xs
  | .ints k n _ :: zs, .ints k' n' l :: xs => (k' = k ∧ n' = n ∧ l.length = n ∧ ∀ x ∈ l, (Lit.int k x).wf = true) ∧ InLB zs xs
  | _, _ => False
def plainLB : LB → Bool
  | [] => true
  | .one _ :: r => plainLB r
  | .ints _ _ _ :: r => plainLB r
  | .vals _ _ :: _ => false
theorem kws_ints {k : IntKind} : ∀ (l : List Int) (z' cs : List Value), KWs (l.map (Value.int k) ++ z') cs → ∃ (l' : List Int) (r : List Value), cs = l'.map (Value.int k) ++ r ∧ l'.length = l.length ∧ (∀ x ∈ l', (Lit.int k x).wf = true) ∧ KWs z' r
  | [], z', cs, h => ⟨[], cs, rfl, rfl, by simp, h⟩
  | a :: l, z', [], h => h.elim
  | a :: l, z', c :: cs, h => by
    obtain ⟨h1, h2⟩ := h
    obtain ⟨l', r, rfl, h3, h4, h5⟩ := kws_ints l z' cs h2
    cases c <;> simp only [KW] at h1
    obtain ⟨rfl, h1⟩ := h1
    rename_i n
    refine ⟨n :: l', r, rfl, by simp [h3], ?_, h5⟩
    intro x hx
    rcases List.mem_cons.1 hx with rfl | hx
    · exact h1
    · exact h4 x hx
theorem KW.one {z x : Value} (h : KW z x) : x.oneCell' = true := by
  cases z <;> cases x <;> simp only [KW] at h <;> rfl
theorem inLB_of : ∀ {z : LB} {cs : List Value}, plainLB z = true → LB.ok z → KWs (LB.cells z) cs → ∃ c, LB.cells c = cs ∧ LB.ok c ∧ InLB z c
  | [], [], _, _, _ => ⟨[], rfl, trivial, trivial⟩
  | [], _ :: _, _, _, h => h.elim
  | .one z :: zs, [], _, _, h => h.elim
  | .one z :: zs, x :: xs, hp, hz, h => by
    obtain ⟨h1, h2⟩ := h
    obtain ⟨c, rfl, hc, h3⟩ := inLB_of (z := zs) hp hz.2 h2
    exact ⟨.one x :: c, rfl, ⟨h1.one, hc⟩, h1, h3⟩
  | .ints k n l :: zs, cs, hp, hz, h => by
    obtain ⟨l', r, rfl, h1, h2, h3⟩ := kws_ints l (LB.cells zs) cs h
    obtain ⟨c, rfl, hc, h4⟩ := inLB_of (z := zs) hp hz.2 h3
    have hl : l.length = n := hz.1
    exact ⟨.ints k n l' :: c, rfl, ⟨(by show l'.length = n; omega), hc⟩, ⟨rfl, rfl, by omega, h2⟩, h4⟩
  | .vals _ _ :: _, _, hp, _, _ => by simp [plainLB] at hp

/-- an argument that is a struct or an array of plain cells -/
theorem open_flat {T : Tab} (hT : TabOk P T) {t : TypeId} {ti : TI} (ht : T t = some ti) (he : ti.eq = true) (hp : plainLB ti.zero = true) {r : Reach} {b0 : Nat} {v : Value} {d : DataW H} {ps : List MemPlace}
    (hval : Value.okWide P w r b0 t v) (hd : DataW.Trod enc P w base spare held t v d ps) : ∃ c, v = .agg (LB.cells c).toArray ∧ LB.ok c ∧ InLB ti.zero c := by
  have ho := hT t ti ht
  obtain ⟨ha, hg, _, hsz⟩ := ho.eqOk he
  obtain ⟨ds, hds, hk⟩ := ho.desc
  obtain ⟨j, hj, hjs, _, z, hz, hzc⟩ := ho.inf
  have hv : ∃ cs, v = .agg cs := by
    unfold Value.okWide at hval
    rw [← hk] at ha
    rw [hds] at hval
    cases ds <;> simp [TK.of, TK.agg] at ha <;> (obtain ⟨cs, h, _⟩ := hval; exact ⟨cs, h⟩)
  obtain ⟨cs, rfl⟩ := hv
  obtain ⟨fuel, hf⟩ := hd
  have hf' : DataW.trod enc P w base spare held fuel t cs.toList = some (d, ps) := hf
  have hlen : (LB.cells ti.zero).length = P.cellsOf t := by
    rw [hsz, ← hjs]; simp [Program.cellsOf, hj]
  obtain ⟨c, h1, h2, h3⟩ := inLB_of hp ho.zok (trod_kw 50 t _ _ fuel _ hg hlen hf')
  exact ⟨c, by rw [h1], h2, h3⟩

theorem trodAll_stays (hl : laidOutB P = true) {W W' : World} (hb : Below W.heap.size W W') {sp : Nat → Bool} : ∀ {ts : List TypeId} {vs : List Value} {ds : List (DataW H)} {ps : List MemPlace}, (∀ t ∈ ts, P.readableRec t = true ∧ t < P.types.size) →
    DataW.TrodAll enc P W 0 (fun _ => true) true ts vs ds ps → (∀ p ∈ ps, p.block < W.heap.size) → (∀ p ∈ ps, sp p.block = true) → DataW.TrodAll enc P W' 0 sp true ts vs ds ps
  | [], [], [], ps, _, h, _, _ => h
  | t :: ts, v :: vs, d :: ds, ps, hr, h, hlt, hs => by
    obtain ⟨p, q, h1, h2, rfl⟩ := h
    refine ⟨p, q, WideElems.Trod_stays hl (hr t (by simp)).1 (hr t (by simp)).2 h1 (fun x hx => hb.same (hlt x (by simp [hx]))) (fun x hx => hs x (by simp [hx])),
      trodAll_stays hl hb (fun t' ht' => hr t' (by simp [ht'])) h2 (fun x hx => hlt x (by simp [hx])) (fun x hx => hs x (by simp [hx])), rfl⟩
  | [], _ :: _, _, _, _, h, _, _ => h.elim
  | [], [], _ :: _, _, _, h, _, _ => h.elim
  | _ :: _, [], _, _, _, h, _, _ => h.elim
  | _ :: _, _ :: _, [], _, _, h, _, _ => h.elim

/-- THE LAW's ROW IS SHUT: it returned true, and below the heap's old size nothing has turned. -/
theorem lawPost (hl : laidOutB P = true) {f : Func} {s : ChangeSpec} {W W' : World} {args : Array Value} {ds gs : List (DataW H)} {before : List MemPlace} {tb : TypeId} (hvars : s.vars = [])
    (hfn : s.fn H (ds ++ gs) = { results := [.lit (.bool true)], args := ds }) (hres : f.resultTypes = #[tb]) (hbool : P.underlying tb = some .bool) (hread : f.params.toList.all (fun t => P.readableRec t && decide (t < P.types.size)) = true)
    (hW : DataW.Whole enc P f.params.toList s.vars false W args.toList ds gs before) (hb : Below W.heap.size W W') : s.post enc P f false true false false W args (.bool true) W' := by
  have hlt := hW.lt
  have hW' := hW
  obtain ⟨p, q, hA, hV, rfl, hfz, hnd⟩ := hW
  rw [hvars] at hV
  obtain ⟨rfl, rfl⟩ := trodVars_none hV
  have hread' : ∀ t ∈ f.params.toList, P.readableRec t = true ∧ t < P.types.size := fun t ht => by
    have := List.all_eq_true.1 hread t ht
    simpa using this
  have hA' : DataW.TrodAll enc P W' 0 (fun b => decide (b < W.heap.size)) true f.params.toList args.toList ds p :=
    trodAll_stays hl hb hread' hA (fun x hx => hlt x (by simp [hx])) (fun x hx => by simpa using hlt x (by simp [hx]))
  refine ⟨ds, [], p ++ [], [], p, [], hW', ?_, ?_, ?_, World.keptBut_mono (fun x hx => ⟨hx, .inr (.inl (by simpa using hx))⟩) (hb.frame _), fun h => by cases h⟩
  · rw [hfn, hres]
    exact trodAll_cons_mk (shut_bool hbool _) trodAll_mk0
  · rw [hfn]; exact hA'
  · rw [hfn, hvars]; rfl
end
end Go.E

/-
  What arguments that are slices of plain cells are.
-/
namespace Go.E
open Go.ChangeShapes Go.WideShapes Go.RowKit
section
variable {H : Type} {enc : TypeId × Value → H} {P : Program} {w : World} {base : Nat} {spare : Nat → Bool} {held : Bool}

theorem chunks_flat {α : Type} (l : List α) (s : Nat) : ∀ (n k : Nat), (k + n) * s ≤ l.length → ((List.range' k n).map (fun i => (l.drop (i * s)).take s)).flatten = (l.drop (k * s)).take (n * s)
  | 0, k, _ => by simp
  | n + 1, k, h => by
    have ih := chunks_flat l s n (k + 1) (by rw [show k + 1 + n = k + (n + 1) by omega]; exact h)
    simp only [List.range'_succ, List.map_cons, List.flatten_cons, ih]
    rw [show (n + 1) * s = s + n * s by rw [Nat.add_mul]; omega, show (k + 1) * s = k * s + s by rw [Nat.add_mul]; omega]
    rw [List.take_add, List.drop_drop]
/-- a slice whose elements are plain: each element's cells, as they were read -/
theorem open_slice {T : Tab} (hT : TabOk P T) {t e : TypeId} {ti ei : TI} (ht : T t = some ti) (hk : ti.k = .slice e) (he : T e = some ei) (hg : goodB P 50 e (LB.cells ei.zero) = true) (hsz : (LB.cells ei.zero).length = ei.size) (hpos : 0 < ei.size)
    (hall : ∀ z ∈ LB.cells ei.zero, ∀ x, KW z x → x.oneCell' = true) {r : Reach} {b0 : Nat} {v : Value} {d : DataW H} {ps : List MemPlace}
    (hval : Value.okWide P w r b0 t v) (hd : DataW.Trod enc P w base spare held t v d ps) :
    ∃ els : List (List Value), Lies (fun b => w.heap[b]?) ei.size v els.flatten ∧ lenV v = els.length ∧ (∀ c ∈ els, KWs (LB.cells ei.zero) c) ∧ els.length ≤ maxLen ∧ v.oneCell' = true := by
  have hsl := (hT t ti ht).slice hk
  obtain ⟨j, hj, hjs, _, z, hz, hzc⟩ := (hT e ei he).inf
  have hcell : P.cellsOf e = ei.size := by simp [Program.cellsOf, hj, hjs]
  obtain ⟨fuel, hf⟩ := hd
  have hvc : ∃ v', v = v' ∧ v.cells.toList = [v'] ∧ v.oneCell' = true := by
    unfold Value.okWide at hval
    rw [hsl] at hval
    simp only [Cell.okWide, hsl, Cell.ok] at hval
    cases v <;> simp at hval
    exact ⟨_, rfl, rfl, rfl⟩
  obtain ⟨v', rfl, hc1, hone⟩ := hvc
  have hf' : DataW.trod enc P w base spare held fuel t v.cells.toList = some (d, ps) := hf
  rw [hc1] at hf'
  rcases DataW.trod_slice hsl hf' with ⟨h0, _⟩ | ⟨a, len, cap, elems, rest, n, _, h0, _, hb, hl, hm, hlen, hel, _, _⟩
  · simp only [List.cons.injEq, and_true] at h0
    subst h0
    exact ⟨[], .inl ⟨0, rfl, rfl⟩, rfl, by simp, by simp, rfl⟩
  · simp only [List.cons.injEq, and_true] at h0
    subst h0
    have hw : w.has P r b0 a e cap := by
      unfold Value.okWide at hval
      rw [hsl] at hval
      simp only [Cell.okWide, hsl, Cell.ok] at hval
      exact hval.2.2
    obtain ⟨_, hspot, row, cells, hshape, _⟩ := hw
    obtain ⟨b, o, spot⟩ := a
    simp only at hspot
    subst hspot
    have hblk : ∃ arr t' fr, w.heap[b]? = some (.cells arr t' fr) := by
      unfold World.shape? at hshape
      simp only at hshape
      cases hx : w.heap[b]? with
      | none => simp [hx] at hshape
      | some ob => cases ob <;> simp [hx] at hshape <;> exact ⟨_, _, _, rfl⟩
    obtain ⟨arr, t', fr, harr⟩ := hblk
    rw [hcell] at hel
    have each : ∀ i, i < len → ∃ cs y, KWs (LB.cells ei.zero) cs ∧ cs = ((arr.toList.drop o).drop (i * ei.size)).take ei.size ∧ DataW.trod enc P w base spare held n e cs = some y ∧ o + i * ei.size + ei.size ≤ arr.size := by
      intro i hi
      have h1 := hel i hi
      have h2 : ∃ y, elems[i]? = some y := ⟨elems[i]'(by omega), by simp [show i < elems.length by omega]⟩
      obtain ⟨y, hy⟩ := h2
      rw [hy, Option.bind_eq_some_iff] at h1
      obtain ⟨cs, g1, g2⟩ := h1
      obtain ⟨_, g3, g4⟩ := World.cells?_some g1
      have g5 : ∀ k, k < ei.size → arr[o + i * ei.size + k]? = cs[k]? := by
        intro k hk'
        have := g4 k hk'
        rw [add_none, add_none, cell_at harr] at this
        exact this
      have hlast : o + i * ei.size + ei.size ≤ arr.size := by
        have := g5 (ei.size - 1) (by omega)
        rw [List.getElem?_eq_getElem (by omega)] at this
        have := (Array.getElem?_eq_some_iff.1 this).1
        omega
      refine ⟨cs, y, trod_kw 50 e _ _ n _ hg (by rw [hsz, hcell]) g2, ?_, g2, hlast⟩
      apply List.ext_getElem?
      intro k
      by_cases hk' : k < ei.size
      · rw [← g5 k hk', List.getElem?_take, if_pos hk', List.getElem?_drop, List.getElem?_drop, Array.getElem?_toList]
        congr 1; omega
      · rw [List.getElem?_eq_none (by omega), List.getElem?_eq_none (by simp; omega)]
    have hbound : len * ei.size ≤ (arr.toList.drop o).length ∨ len = 0 := by
      by_cases h0 : len = 0
      · exact .inr h0
      · obtain ⟨_, _, _, _, _, g⟩ := each (len - 1) (by omega)
        left
        have : len * ei.size = (len - 1) * ei.size + ei.size := by
          rw [← Nat.succ_mul]; congr 1; omega
        simp
        omega
    have hflat := chunks_flat (arr.toList.drop o) ei.size len 0 (by
      rw [Nat.zero_add]
      rcases hbound with h | h
      · exact h
      · rw [h]; simp)
    refine ⟨(List.range' 0 len).map (fun i => ((arr.toList.drop o).drop (i * ei.size)).take ei.size), .inr ⟨b, o, cap, len, arr, t', fr, rfl, harr, ?_, hl, ?_, ?_⟩, by simp [lenV], ?_, by simp; omega, rfl⟩
    · rw [hflat]
      simp only [Nat.zero_mul, List.drop_zero, List.length_take]
      rcases hbound with h | h
      · omega
      · rw [h]; simp
    · intro j' u hu
      rw [hflat] at hu
      simp only [Nat.zero_mul, List.drop_zero, List.getElem?_take] at hu
      split at hu
      · rw [List.getElem?_drop, Array.getElem?_toList] at hu; exact hu
      · simp at hu
    · intro u hu
      obtain ⟨c, hc, huc⟩ := List.mem_flatten.1 hu
      obtain ⟨i, hi, rfl⟩ := List.mem_map.1 hc
      simp at hi
      obtain ⟨cs, y, k1, k2, _⟩ := each i hi
      rw [← k2] at huc
      have : ∀ (zs cs : List Value), KWs zs cs → (∀ z ∈ zs, ∀ x, KW z x → x.oneCell' = true) → ∀ u ∈ cs, u.oneCell' = true := by
        intro zs
        induction zs with
        | nil => intro cs h _ u hu; cases cs with
          | nil => simp at hu
          | cons => exact h.elim
        | cons z zs ih => intro cs h h' u hu; cases cs with
          | nil => exact h.elim
          | cons c cs =>
            rcases List.mem_cons.1 hu with rfl | hu
            · exact h' z (by simp) _ h.1
            · exact ih cs h.2 (fun z hz => h' z (by simp [hz])) u hu
      exact this _ _ k1 hall u huc
    · intro c hc
      obtain ⟨i, hi, rfl⟩ := List.mem_map.1 hc
      simp at hi
      obtain ⟨cs, y, k1, k2, _⟩ := each i hi
      rw [← k2]; exact k1
/-- numbers -/
theorem kws_one {k : IntKind} {c : List Value} {z : Int} (h : KWs [.int k z] c) : ∃ n, c = [.int k n] ∧ (Lit.int k n).wf = true := by
  match c, h with
  | [.int k' n], h => obtain ⟨⟨rfl, h⟩, _⟩ := h; exact ⟨n, rfl, h⟩
theorem els_ints {k : IntKind} {z : Int} : ∀ {els : List (List Value)}, (∀ c ∈ els, KWs [.int k z] c) → ∃ l : List Int, els.flatten = l.map (Value.int k) ∧ l.length = els.length ∧ ∀ n ∈ l, (Lit.int k n).wf = true
  | [], _ => ⟨[], rfl, rfl, by simp⟩
  | c :: els, h => by
    obtain ⟨n, rfl, hn⟩ := kws_one (h c (by simp))
    obtain ⟨l, h1, h2, h3⟩ := els_ints (els := els) (fun c hc => h c (by simp [hc]))
    refine ⟨n :: l, by simp [h1], by simp [h2], ?_⟩
    intro x hx
    rcases List.mem_cons.1 hx with rfl | hx
    · exact hn
    · exact h3 x hx
theorem els_vecs {k : IntKind} {z : List Int} : ∀ {els : List (List Value)}, (∀ c ∈ els, KWs (z.map (Value.int k)) c) → ∃ ls : List (List Int), els = ls.map (fun l => l.map (Value.int k)) ∧ ∀ l ∈ ls, l.length = z.length ∧ ∀ n ∈ l, (Lit.int k n).wf = true
  | [], _ => ⟨[], rfl, by simp⟩
  | c :: els, h => by
    have hc := h c (by simp)
    obtain ⟨l', r, h1, h2, h3, h4⟩ := kws_ints z [] c (by simpa using hc)
    have hr : r = [] := by cases r with
      | nil => rfl
      | cons => exact h4.elim
    subst hr
    obtain ⟨ls, g1, g2⟩ := els_vecs (els := els) (fun c hc => h c (by simp [hc]))
    refine ⟨l' :: ls, by simp [h1, g1], ?_⟩
    intro x hx
    rcases List.mem_cons.1 hx with rfl | hx
    · exact ⟨h2, h3⟩
    · exact g2 x hx
end
end Go.E

/-
  What arguments are that were read, by their shapes: numbers, texts, structs, arrays, and slices of these, as deep as they go.
-/
namespace Go.E
open Go.ChangeShapes Go.WideShapes Go.RowKit

inductive Sh where
  | int (k : IntKind)
  | bool
  | str
  | slice (e : Sh)
  | unit
  | pair (a b : Sh)
  | rep (n : Nat) (e : Sh)
def Sh.size : Sh → Nat
  | .unit => 0
  | .pair a b => a.size + b.size
  | .rep n e => n * e.size
  | _ => 1
def Dat (m : Mem) : Sh → List Value → Prop
  | .int k, cs => ∃ n, cs = [.int k n] ∧ (Lit.int k n).wf = true
  | .bool, cs => ∃ b, cs = [.bool b]
  | .str, cs => ∃ s, cs = [.string s] ∧ s.size ≤ maxLen
  | .slice e, cs => ∃ (v : Value) (els : List (List Value)), cs = [v] ∧ (Lies m e.size v els.flatten ∨ (els = [] ∧ ∃ a, v = .slice (some a) 0 0)) ∧ lenV v = els.length ∧ (∀ c ∈ els, Dat m e c) ∧ els.length ≤ maxLen
  | .unit, cs => cs = []
  | .pair a b, cs => ∃ x y, cs = x ++ y ∧ Dat m a x ∧ Dat m b y
  | .rep n e, cs => ∃ els : List (List Value), cs = els.flatten ∧ els.length = n ∧ ∀ c ∈ els, Dat m e c
def intB : Option TypeDesc → IntKind → Bool
  | some (.int k), q => kEq k q
  | _, _ => false
/-- is it the type's shape? and: are these fields, from an offset on? -/
def chk (P : Program) : Sh → (TypeId → Bool) × (List Field → Nat → Bool)
  | .int k => (fun t => intB (P.underlying t) k, fun _ _ => false)
  | .bool => (fun t => match P.underlying t with | some .bool => true | _ => false, fun _ _ => false)
  | .str => (fun t => match P.underlying t with | some .string => true | _ => false, fun _ _ => false)
  | .slice e => (fun t => match P.underlying t with | some (.slice et) => (chk P e).1 et && (P.cellsOf et == e.size && Nat.blt 0 e.size) | _ => false, fun _ _ => false)
  | .unit => (fun _ => false, fun fs _ => fs.isEmpty)
  | .pair a b =>
    let F : List Field → Nat → Bool := fun fs off => match fs with
      | f :: fs => f.offset == off && ((chk P a).1 f.type && (P.cellsOf f.type == a.size && (chk P b).2 fs (off + a.size)))
      | [] => false
    (fun t => match P.underlying t with | some (.struct fs) => P.cellsOf t == a.size + b.size && F fs.toList 0 | _ => false, F)
  | .rep n e => (fun t => match P.underlying t with | some (.array k et) => Nat.beq k n && ((chk P e).1 et && (P.cellsOf et == e.size && P.cellsOf t == n * e.size)) | _ => false, fun _ _ => false)

section
variable {H : Type} {enc : TypeId × Value → H} {P : Program} {w : World} {base : Nat} {spare : Nat → Bool} {held : Bool}
theorem Dat.one {m : Mem} : ∀ {sh : Sh} {cs : List Value}, Dat m sh cs → ∀ u ∈ cs, u.oneCell' = true
  | .int k, cs, h, u, hu => by obtain ⟨n, rfl, _⟩ := h; simp at hu; subst hu; rfl
  | .bool, cs, h, u, hu => by obtain ⟨n, rfl⟩ := h; simp at hu; subst hu; rfl
  | .str, cs, h, u, hu => by obtain ⟨n, rfl, _⟩ := h; simp at hu; subst hu; rfl
  | .slice e, cs, h, u, hu => by
    obtain ⟨v, els, rfl, h1, _⟩ := h
    simp at hu; subst hu
    rcases h1 with h1 | ⟨_, a, rfl⟩
    · exact h1.one
    · rfl
  | .unit, cs, h, u, hu => by simp only [Dat] at h; subst h; cases hu
  | .pair a b, cs, h, u, hu => by
    obtain ⟨x, y, rfl, h1, h2⟩ := h
    rcases List.mem_append.1 hu with hu | hu
    · exact Dat.one h1 u hu
    · exact Dat.one h2 u hu
  | .rep n e, cs, h, u, hu => by
    obtain ⟨els, rfl, _, h1⟩ := h
    obtain ⟨c, hc, huc⟩ := List.mem_flatten.1 hu
    exact Dat.one (h1 c hc) u huc
theorem flat_len {els : List (List Value)} {s : Nat} (h : ∀ c ∈ els, c.length = s) : els.flatten.length = els.length * s := by
  induction els with
  | nil => simp
  | cons a els ih =>
    simp only [List.flatten_cons, List.length_append, List.length_cons]
    rw [ih (fun c hc => h c (by simp [hc])), h a (by simp), Nat.add_mul]; omega
theorem Dat.length {m : Mem} : ∀ {sh : Sh} {cs : List Value}, Dat m sh cs → cs.length = sh.size
  | .int k, cs, h => by obtain ⟨n, rfl, _⟩ := h; rfl
  | .bool, cs, h => by obtain ⟨n, rfl⟩ := h; rfl
  | .str, cs, h => by obtain ⟨n, rfl, _⟩ := h; rfl
  | .slice e, cs, h => by obtain ⟨v, els, rfl, _⟩ := h; rfl
  | .unit, cs, h => by simp only [Dat] at h; subst h; rfl
  | .pair a b, cs, h => by
    obtain ⟨x, y, rfl, h1, h2⟩ := h
    simp only [List.length_append, Sh.size, Dat.length h1, Dat.length h2]
  | .rep n e, cs, h => by
    obtain ⟨els, rfl, h2, h1⟩ := h
    rw [flat_len (fun c hc => Dat.length (h1 c hc)), h2]; rfl

theorem chunk_list {α : Type} (l : List α) (s n : Nat) (h : l.length = n * s) : ((List.range' 0 n).map (fun i => (l.drop (i * s)).take s)).flatten = l := by
  rw [chunks_flat l s n 0 (by rw [Nat.zero_add, h]; exact Nat.le_refl _)]
  simp [← h]
theorem cell_some {a : Addr} {v : Value} (h : w.cell? a = some v) : ∃ b o arr t fr, a = ⟨b, o, none⟩ ∧ w.heap[b]? = some (.cells arr t fr) ∧ arr[o]? = some v := by
  obtain ⟨b, o, sp⟩ := a
  unfold World.cell? at h
  simp only at h
  split at h
  · rename_i arr t fr hb
    cases sp with
    | some _ => simp at h
    | none => exact ⟨b, o, arr, t, fr, rfl, hb, by simpa using h⟩
  · cases h
theorem add_zero (a : Addr) : a.add 0 = a := by simp [Addr.add]
/-- THE OPENING -/
theorem trod_dat (hsp : ∀ b, spare b = true) : ∀ (sh : Sh), (∀ (t : TypeId) (cs : List Value) (fuel : Nat) (x : DataW H × List MemPlace), (chk P sh).1 t = true → DataW.trod enc P w base spare held fuel t cs = some x → Dat (fun b => w.heap[b]?) sh cs) ∧
    (∀ (fs : List Field) (off : Nat) (cs : List Value), (chk P sh).2 fs off = true → cs.length = off + sh.size → (∀ f ∈ fs, ∃ fuel x, DataW.trod enc P w base spare held fuel f.type ((cs.drop f.offset).take (P.cellsOf f.type)) = some x) → Dat (fun b => w.heap[b]?) sh (cs.drop off)) := by
  intro sh
  induction sh with
  | int k =>
    refine ⟨fun t cs fuel x h ht => ?_, fun fs off cs h => by simp [chk] at h⟩
    simp only [chk] at h
    cases hu : P.underlying t with
    | none => rw [hu] at h; cases h
    | some d =>
      rw [hu] at h
      cases d <;> simp only [intB] at h <;> try cases h
      rename_i q
      have := kEq_eq h; subst this
      obtain ⟨n, rfl, _, hw⟩ := DataW.trod_int hu ht
      exact ⟨n, rfl, hw⟩
  | bool =>
    refine ⟨fun t cs fuel x h ht => ?_, fun fs off cs h => by simp [chk] at h⟩
    simp only [chk] at h
    split at h
    · rename_i hu; obtain ⟨b, rfl, _⟩ := DataW.trod_bool hu ht; exact ⟨b, rfl⟩
    · cases h
  | str =>
    refine ⟨fun t cs fuel x h ht => ?_, fun fs off cs h => by simp [chk] at h⟩
    simp only [chk] at h
    split at h
    · rename_i hu; obtain ⟨s, rfl, _, hs⟩ := DataW.trod_string hu ht; exact ⟨s, rfl, hs⟩
    · cases h
  | unit =>
    refine ⟨fun t cs fuel x h ht => by simp [chk] at h, fun fs off cs h hl _ => ?_⟩
    simp only [Sh.size] at hl
    exact List.drop_eq_nil_of_le (by omega)
  | pair a b iha ihb =>
    have F : ∀ (fs : List Field) (off : Nat) (cs : List Value), (chk P (.pair a b)).2 fs off = true → cs.length = off + (Sh.pair a b).size → (∀ f ∈ fs, ∃ fuel x, DataW.trod enc P w base spare held fuel f.type ((cs.drop f.offset).take (P.cellsOf f.type)) = some x) → Dat (fun b => w.heap[b]?) (.pair a b) (cs.drop off) := by
      intro fs off cs h hl hf
      cases fs with
      | nil => simp [chk] at h
      | cons f fs =>
        simp only [chk, Bool.and_eq_true, beq_iff_eq] at h
        obtain ⟨ho, h1, h2, h3⟩ := h
        simp only [Sh.size] at hl
        obtain ⟨fu, x, hx⟩ := hf f (by simp)
        rw [ho, h2] at hx
        refine ⟨(cs.drop off).take a.size, cs.drop (off + a.size), ?_, iha.1 _ _ _ _ h1 hx, ihb.2 fs (off + a.size) cs h3 (by omega) (fun g hg => hf g (by simp [hg]))⟩
        rw [← List.drop_drop, List.take_append_drop]
    refine ⟨fun t cs fuel x h ht => ?_, F⟩
    have h' : (match P.underlying t with | some (.struct fs) => P.cellsOf t == a.size + b.size && (chk P (.pair a b)).2 fs.toList 0 | _ => false) = true := h
    split at h'
    · rename_i fs hu
      simp only [Bool.and_eq_true, beq_iff_eq] at h'
      obtain ⟨xs, k, hk, _, hl, hxl, hp⟩ := DataW.trod_struct hu ht
      have := F fs.toList 0 cs h'.2 (by simp only [Sh.size]; omega) (fun f hf => by
        obtain ⟨i, hi, he⟩ := List.getElem_of_mem hf
        have hy := hp i f (by rw [← Array.getElem?_toList, List.getElem?_eq_getElem hi, he])
        rw [List.getElem?_eq_getElem (by simp at hi; omega)] at hy
        exact ⟨k, _, hy⟩)
      simpa using this
    · cases h'
  | rep n e ih =>
    refine ⟨fun t cs fuel x h ht => ?_, fun fs off cs h => by simp [chk] at h⟩
    simp only [chk] at h
    split at h
    · rename_i k et hu
      simp only [Bool.and_eq_true, beq_iff_eq] at h
      obtain ⟨hkn, h1, h2, h3⟩ := h
      have hkn := Nat.eq_of_beq_eq_true hkn
      subst hkn
      obtain ⟨xs, fu, hfu, _, hl, hxl, hp⟩ := DataW.trod_array hu ht
      rw [h2] at hp
      refine ⟨(List.range' 0 k).map (fun i => (cs.drop (i * e.size)).take e.size), (chunk_list cs e.size k (by omega)).symm, by simp, ?_⟩
      intro c hc
      obtain ⟨i, hi, rfl⟩ := List.mem_map.1 hc
      simp at hi
      have hy := hp i hi
      rw [List.getElem?_eq_getElem (by omega)] at hy
      exact ih.1 _ _ _ _ h1 hy
    · cases h
  | slice e ih =>
    refine ⟨fun t cs fuel x h ht => ?_, fun fs off cs h => by simp [chk] at h⟩
    simp only [chk] at h
    split at h
    · rename_i et hu
      simp only [Bool.and_eq_true, beq_iff_eq] at h
      obtain ⟨h1, h2, h3⟩ := h
      have hpos : 0 < e.size := by rw [Nat.blt_eq] at h3; exact h3
      rcases DataW.trod_slice hu ht with ⟨rfl, _⟩ | ⟨a, len, cap, elems, rest, n, _, rfl, _, hb, hl, hm, hlen, hel, hrest, _⟩
      · exact ⟨_, [], rfl, .inl (.inl ⟨0, rfl, rfl⟩), rfl, by simp, by simp⟩
      · rw [h2] at hel hrest
        have first : ∀ i, (∃ cs y, (w.cells? base (a.add (i * e.size)) e.size).bind (DataW.trod enc P w base spare held n et) = some y ∧ cs = y) → ∃ cs y, w.cells? base (a.add (i * e.size)) e.size = some cs ∧ DataW.trod enc P w base spare held n et cs = some y := by
          rintro i ⟨_, y, hy, _⟩
          rw [Option.bind_eq_some_iff] at hy
          obtain ⟨cs, g1, g2⟩ := hy
          exact ⟨cs, y, g1, g2⟩
        have hel' : ∀ i, i < len → ∃ cs y, w.cells? base (a.add (i * e.size)) e.size = some cs ∧ DataW.trod enc P w base spare held n et cs = some y := by
          intro i hi
          have := hel i hi
          rw [List.getElem?_eq_getElem (by omega)] at this
          exact first i ⟨_, _, this, rfl⟩
        have hblk : cap = 0 ∨ ∃ b o arr t fr, a = ⟨b, o, none⟩ ∧ w.heap[b]? = some (.cells arr t fr) := by
          by_cases hc : cap = 0
          · exact .inl hc
          · right
            have : ∃ cs y, w.cells? base (a.add (0 * e.size)) e.size = some cs ∧ DataW.trod enc P w base spare held n et cs = some y := by
              by_cases hl0 : len = 0
              · obtain ⟨hr1, hr2⟩ := hrest (hsp _)
                have h0 := hr2 0 (by omega)
                obtain ⟨z, hz⟩ : ∃ z, rest[0]? = some z := ⟨_, List.getElem?_eq_getElem (by omega)⟩
                rw [hz, hl0] at h0
                exact first 0 ⟨_, _, h0, rfl⟩
              · exact hel' 0 (by omega)
            obtain ⟨cs, y, g1, _⟩ := this
            obtain ⟨_, g3, g4⟩ := World.cells?_some g1
            have := g4 0 hpos
            rw [Nat.zero_mul, add_zero, add_zero, List.getElem?_eq_getElem (by omega)] at this
            obtain ⟨b, o, arr, t, fr, e1, e2, _⟩ := cell_some this
            exact ⟨b, o, arr, t, fr, e1, e2⟩
        rcases hblk with rfl | ⟨b, o, arr, t', fr, rfl, harr⟩
        · obtain rfl : len = 0 := by omega
          exact ⟨_, [], rfl, .inr ⟨rfl, a, rfl⟩, rfl, by simp, by simp⟩
        · have each : ∀ i, i < len → ∃ cs y, cs = ((arr.toList.drop o).drop (i * e.size)).take e.size ∧ DataW.trod enc P w base spare held n et cs = some y ∧ o + i * e.size + e.size ≤ arr.size := by
            intro i hi
            obtain ⟨cs, y, g1, g2⟩ := hel' i hi
            obtain ⟨_, g3, g4⟩ := World.cells?_some g1
            have g5 : ∀ k, k < e.size → arr[o + i * e.size + k]? = cs[k]? := by
              intro k hk'
              have := g4 k hk'
              rw [add_none, add_none, cell_at harr] at this
              exact this
            have hlast : o + i * e.size + e.size ≤ arr.size := by
              have := g5 (e.size - 1) (by omega)
              rw [List.getElem?_eq_getElem (by omega)] at this
              have := (Array.getElem?_eq_some_iff.1 this).1
              omega
            refine ⟨cs, y, ?_, g2, hlast⟩
            apply List.ext_getElem?
            intro k
            by_cases hk' : k < e.size
            · rw [← g5 k hk', List.getElem?_take, if_pos hk', List.getElem?_drop, List.getElem?_drop, Array.getElem?_toList]
              congr 1; omega
            · rw [List.getElem?_eq_none (by omega), List.getElem?_eq_none (by simp; omega)]
          have hbound : len * e.size ≤ (arr.toList.drop o).length ∨ len = 0 := by
            by_cases h0 : len = 0
            · exact .inr h0
            · obtain ⟨_, _, _, _, g⟩ := each (len - 1) (by omega)
              left
              have : len * e.size = (len - 1) * e.size + e.size := by
                rw [← Nat.succ_mul]; congr 1; omega
              simp
              omega
          have hflat := chunks_flat (arr.toList.drop o) e.size len 0 (by
            rw [Nat.zero_add]
            rcases hbound with h | h
            · exact h
            · rw [h]; simp)
          have hdat : ∀ c ∈ (List.range' 0 len).map (fun i => ((arr.toList.drop o).drop (i * e.size)).take e.size), Dat (fun b => w.heap[b]?) e c := by
            intro c hc
            obtain ⟨i, hi, rfl⟩ := List.mem_map.1 hc
            simp at hi
            obtain ⟨cs, y, k1, k2, _⟩ := each i hi
            rw [← k1]
            exact ih.1 _ _ _ _ h1 k2
          refine ⟨_, (List.range' 0 len).map (fun i => ((arr.toList.drop o).drop (i * e.size)).take e.size), rfl, .inl (.inr ⟨b, o, cap, len, arr, t', fr, rfl, harr, ?_, hl, ?_, ?_⟩), by simp [lenV], hdat, by simp; omega⟩
          · rw [flat_len (fun c hc => (hdat c hc).length)]; simp
          · intro j' u hu
            rw [hflat] at hu
            simp only [Nat.zero_mul, List.drop_zero, List.getElem?_take] at hu
            split at hu
            · rw [List.getElem?_drop, Array.getElem?_toList] at hu; exact hu
            · simp at hu
          · intro u hu
            obtain ⟨c, hc, huc⟩ := List.mem_flatten.1 hu
            exact (hdat c hc).one u huc
    · cases h
theorem flat_at : ∀ {els : List (List Value)} {s i j : Nat} {c : List Value} {u : Value}, (∀ c ∈ els, c.length = s) → els[i]? = some c → c[j]? = some u → els.flatten[i * s + j]? = some u
  | [], _, _, _, _, _, _, hi, _ => by simp at hi
  | a :: els, s, 0, j, c, u, hl, hi, hj => by
    simp at hi; subst hi
    have := (List.getElem?_eq_some_iff.1 hj).1
    rw [Nat.zero_mul, Nat.zero_add, List.flatten_cons, List.getElem?_append_left this]; exact hj
  | a :: els, s, i + 1, j, c, u, hl, hi, hj => by
    have ha := hl a (by simp)
    have ih := flat_at (els := els) (s := s) (fun c hc => hl c (by simp [hc])) (by simpa using hi) hj
    rw [List.flatten_cons, List.getElem?_append_right (by rw [ha, Nat.add_mul]; omega), ha, show (i + 1) * s + j - s = i * s + j by rw [Nat.add_mul]; omega]
    exact ih
/-- an element of a slice of equal parts -/
theorem Lies.elem {m : Mem} {s : Nat} {v : Value} {els : List (List Value)} (h : Lies m s v els.flatten) (hl : ∀ c ∈ els, c.length = s) (hp : 0 < s) (hv : lenV v = els.length) {i : Nat} (hi : i < els.length) :
    ∃ b o c, v = .slice (some ⟨b, o, none⟩) els.length c ∧ ∀ i c, els[i]? = some c → MRange m b (o + i * s) c := by
  rcases h with ⟨c, rfl, h⟩ | ⟨b, o, c, n, arr, t, fr, rfl, h1, h2, h3, h4, h5⟩
  · simp [lenV] at hv; omega
  · simp only [lenV] at hv; subst hv
    refine ⟨b, o, c, rfl, fun i c hc => ⟨arr, t, fr, h1, fun j u hu => ?_⟩⟩
    have := h4 _ u (flat_at hl hc hu)
    rw [show o + i * s + j = o + (i * s + j) by omega]; exact this
theorem dat_ints {m : Mem} {k : IntKind} {n : Nat} {cs : List Value} (h : Dat m (.rep n (.int k)) cs) : ∃ l : List Int, cs = l.map (Value.int k) ∧ l.length = n ∧ ∀ x ∈ l, (Lit.int k x).wf = true := by
  obtain ⟨els, rfl, rfl, h⟩ := h
  have := @els_ints k 0 els (fun c hc => by obtain ⟨n, rfl, hw⟩ := h c hc; exact ⟨⟨rfl, hw⟩, trivial⟩)
  obtain ⟨l, h1, h2, h3⟩ := this
  exact ⟨l, h1, h2, h3⟩
/-- a slice of numbers -/
theorem dat_sints {m : Mem} {k : IntKind} {cs : List Value} (h : Dat m (.slice (.int k)) cs) : ∃ (v : Value) (l : List Int), cs = [v] ∧ (Lies m 1 v (l.map (Value.int k)) ∨ (l = [] ∧ ∃ a, v = .slice (some a) 0 0)) ∧ lenV v = l.length ∧ (∀ x ∈ l, (Lit.int k x).wf = true) ∧ l.length ≤ maxLen := by
  obtain ⟨v, els, rfl, h1, h2, h3, h4⟩ := h
  obtain ⟨l, g1, g2, g3⟩ := @els_ints k 0 els (fun c hc => by obtain ⟨n, rfl, hw⟩ := h3 c hc; exact ⟨⟨rfl, hw⟩, trivial⟩)
  refine ⟨v, l, rfl, ?_, by omega, g3, by omega⟩
  rcases h1 with h1 | ⟨rfl, a, rfl⟩
  · rw [g1] at h1; exact .inl h1
  · exact .inr ⟨by apply List.eq_nil_of_length_eq_zero; simpa using g2, a, rfl⟩
theorem open_dat (hsp : ∀ b, spare b = true) {sh : Sh} {t : TypeId} {v : Value} {d : DataW H} {ps : List MemPlace} (hc : (chk P sh).1 t = true) (hd : DataW.Trod enc P w base spare held t v d ps) : Dat (fun b => w.heap[b]?) sh v.cells.toList := by
  obtain ⟨fuel, hf⟩ := hd
  exact (trod_dat hsp sh).1 _ _ _ _ hc hf
theorem val_slice {r : Reach} {b0 : Nat} {t e : TypeId} {v : Value} (hu : P.underlying t = some (.slice e)) (h : Value.okWide P w r b0 t v) : v.cells.toList = [v] ∧ v.oneCell' = true := by
  unfold Value.okWide at h
  rw [hu] at h
  simp only [Cell.okWide, hu, Cell.ok] at h
  cases v <;> simp at h
  exact ⟨rfl, rfl⟩
theorem val_string {r : Reach} {b0 : Nat} {t : TypeId} {v : Value} (hu : P.underlying t = some .string) (h : Value.okWide P w r b0 t v) : v.cells.toList = [v] ∧ v.oneCell' = true := by
  unfold Value.okWide at h
  rw [hu] at h
  simp only [Cell.okWide, hu, Cell.ok] at h
  cases v <;> simp at h
  exact ⟨rfl, rfl⟩
theorem val_int {k : IntKind} {r : Reach} {b0 : Nat} {t : TypeId} {v : Value} (hu : P.underlying t = some (.int k)) (h : Value.okWide P w r b0 t v) : v.cells.toList = [v] ∧ v.oneCell' = true := by
  unfold Value.okWide at h
  rw [hu] at h
  simp only [Cell.okWide, hu, Cell.ok] at h
  cases v <;> simp at h
  exact ⟨rfl, rfl⟩
theorem wf_i64 {n : Int} (h : (Lit.int .i64 n).wf = true) : -9223372036854775808 ≤ n ∧ n ≤ 9223372036854775807 := by
  simpa [Lit.wf, IntKind.min, IntKind.max, IntKind.signed, IntKind.bits] using h
theorem wf_u64 {n : Int} (h : (Lit.int .u64 n).wf = true) : 0 ≤ n ∧ n < 18446744073709551616 := by
  have : 0 ≤ n ∧ n ≤ 18446744073709551615 := by simpa [Lit.wf, IntKind.min, IntKind.max, IntKind.signed, IntKind.bits] using h
  omega
theorem wf_u8 {n : Int} (h : (Lit.int .u8 n).wf = true) : 0 ≤ n ∧ n < 256 := by
  have : 0 ≤ n ∧ n ≤ 255 := by simpa [Lit.wf, IntKind.min, IntKind.max, IntKind.signed, IntKind.bits] using h
  omega
theorem wf_u32 {n : Int} (h : (Lit.int .u32 n).wf = true) : 0 ≤ n ∧ n < 4294967296 := by
  have : 0 ≤ n ∧ n ≤ 4294967295 := by simpa [Lit.wf, IntKind.min, IntKind.max, IntKind.signed, IntKind.bits] using h
  omega
end
end Go.E

/-
  Laws of chapter 15.
-/
namespace Go.E.Ytcjmmhamnglmkaa
open Go.Proofs
set_option maxRecDepth 100000
theorem read_nil {m : Mem} {c : Nat} : Spec Try.prog 19 [.v (.slice none 0 c)] m fun r m' => ∃ v' ps p, r = [.v v', i64 ((Fr.read (([] : List Int).length + 1) []).2.1 : Nat), i64 (Fr.read (([] : List Int).length + 1) []).2.2] ∧ Split m' [p, m] ∧ Lists p v' ps ∧ ps.map (·.2) = (Fr.read (([] : List Int).length + 1) []).1 := by
  have hst := (Got.start []).stop (by simp [Fr.next_nil])
  refine en19 rfl (goY ?_)
  conv => whnf
  refine .mk 0 _ rfl (ι := Nat) (fun i => i) (fun _ _ => False) (fun _ => []) (fun _ => []) ?_ ?_
  · conv => whnf
    repeat (refine And.intro (by first | omega | (simp only [times]; omega)) ?_; conv => whnf)
    refine xcall (next_spec (l := []) (.inl (Lb.nil _ _)) (fun x hx => by cases hx) (by simp)) ?_
    rintro _ m1 ⟨v1, p1, rfl, hs1, hv1⟩
    conv => whnf
    rw [Fr.next_nil]
    refine ⟨fun h => absurd h (by decide), fun _ => ?_⟩
    conv => whnf
    rw [hst]
    exact ⟨_, [], emp, rfl, (hs1.erase 0).addEmp, ⟨.inl ⟨_, rfl, rfl⟩, by simp⟩, rfl⟩
  · rintro i mm h; exact h.elim
theorem strOf_inj {a b : List Int} (ha : Byt a) (hb : Byt b) (h : strOf a = strOf b) : a = b := by
  have h1 := congrArg (fun s : ByteArray => s.data.toList) h
  simp only [strOf_data] at h1
  exact by8_inj ha hb h1
def Ls (m : Mem) (v : Value) (ls : List (List Int)) : Prop := ∃ ps, Lists m v ps ∧ ps.map (·.2) = ls
theorem mcell_sub {m m' : Mem} {b o : Nat} {v : Value} (h : mcell m b o = some v) (hs : Sub m m') : mcell m' b o = some v := by
  unfold mcell at h ⊢
  cases hb : m b with
  | none => simp [hb] at h
  | some u => rw [hb] at h; rw [hs _ _ hb]; exact h
theorem build9 {m : Mem} {x1 x2 x3 x4 x5 x6 x7 x8 x9 : Int} : PrimSpec Try.prog (.buildSlice 23 9 [0, 1, 2, 3, 4, 5, 6, 7, 8]) [.v (.int .u8 x1), .v (.int .u8 x2), .v (.int .u8 x3), .v (.int .u8 x4), .v (.int .u8 x5), .v (.int .u8 x6), .v (.int .u8 x7), .v (.int .u8 x8), .v (.int .u8 x9)] m fun r m' => ∃ b, m b = none ∧ r = [.v (.slice (some ⟨b, 0, none⟩) 9 9)] ∧ m' = m.set b (.cells (bc [x1, x2, x3, x4, x5, x6, x7, x8, x9]).toArray 5) :=
  buildSlice_spec (n := 9) tt_ok hBs rfl hU8 rfl rfl (by simp [CV.cs]) (by simp) (by simp)
end Go.E.Ytcjmmhamnglmkaa

/-
  Bytes that are arguments.
-/
namespace Go.E
theorem dat_la {m : Mem} {cs : List Value} (h : Dat m (.slice (.int .u8)) cs) : ∃ v l, cs = [v] ∧ La m v l ∧ Byt l ∧ l.length ≤ maxLen := by
  obtain ⟨v, l, rfl, h1, h2, h3, h4⟩ := dat_sints h
  exact ⟨v, l, rfl, h1, fun x hx => wf_u8 (h3 x hx), h4⟩
end Go.E

/-
  Lists of bytes that are arguments.
-/
namespace Go.E.Ytcjmmhamnglmkaa
open Go.Proofs
set_option maxRecDepth 100000
/-- a list of bytes; or none, wherever -/
def LsA (m : Mem) (v : Value) (ps : List (Value × List Int)) : Prop := Lists m v ps ∨ (ps = [] ∧ ∃ a, v = .slice (some a) 0 0)
theorem LsA.shape {m : Mem} {v : Value} {ps : List (Value × List Int)} (h : LsA m v ps) : ∃ a c, v = .slice a ps.length c := by
  rcases h with h | ⟨rfl, a, rfl⟩
  · exact h.shape
  · exact ⟨_, _, rfl⟩
theorem LsA.lists {m : Mem} {v : Value} {ps : List (Value × List Int)} (h : LsA m v ps) (hl : 0 < ps.length) : Lists m v ps := by
  rcases h with h | ⟨rfl, _⟩
  · exact h
  · simp at hl
theorem LsA.real {m : Mem} {v : Value} {ps : List (Value × List Int)} (h : LsA m v ps) {i : Nat} (hi : i < ps.length) : ∃ b o c, v = .slice (some ⟨b, o, none⟩) ps.length c ∧ ∀ (i : Nat) (hi : i < ps.length), mcell m b (o + i) = some ps[i].1 := (h.lists (by omega)).real hi
theorem LsA.la {m : Mem} {v : Value} {ps : List (Value × List Int)} (h : LsA m v ps) : ∀ p ∈ ps, La m p.1 p.2 := by
  rcases h with h | ⟨rfl, _⟩
  · exact h.la
  · simp
theorem dat_rows {m : Mem} : ∀ {els : List (List Value)}, (∀ c ∈ els, Dat m (.slice (.int .u8)) c) → ∃ ps : List (Value × List Int), els = ps.map (fun p => [p.1]) ∧ (∀ p ∈ ps, La m p.1 p.2) ∧ ∀ p ∈ ps, Byt p.2
  | [], _ => ⟨[], rfl, by simp, by simp⟩
  | c :: els, h => by
    obtain ⟨v, l, rfl, h1, h2, _⟩ := dat_la (h c (by simp))
    obtain ⟨ps, rfl, h3, h4⟩ := dat_rows (els := els) fun c hc => h c (by simp [hc])
    exact ⟨(v, l) :: ps, rfl, fun p hp => (List.mem_cons.1 hp).elim (fun e => e ▸ h1) (h3 p), fun p hp => (List.mem_cons.1 hp).elim (fun e => e ▸ h2) (h4 p)⟩
theorem dat_lists {m : Mem} {cs : List Value} (h : Dat m (.slice (.slice (.int .u8))) cs) : ∃ v ps, cs = [v] ∧ LsA m v ps ∧ (∀ p ∈ ps, Byt p.2) ∧ ps.length ≤ maxLen := by
  obtain ⟨v, els, rfl, h1, h2, h3, h4⟩ := h
  obtain ⟨ps, rfl, h5, h6⟩ := dat_rows h3
  refine ⟨v, ps, rfl, ?_, h6, by simpa using h4⟩
  rcases h1 with h1 | ⟨h1, a, rfl⟩
  · refine .inl ⟨?_, h5⟩
    have e : (ps.map fun p => [p.1]).flatten = ps.map (·.1) := by
      clear h1 h2 h3 h4 h5 h6
      induction ps with
      | nil => rfl
      | cons p ps ih => simp [ih]
    rw [e] at h1
    exact h1
  · exact .inr ⟨by simpa using h1, a, rfl⟩
end Go.E.Ytcjmmhamnglmkaa

/-
  Lists of whole numbers.
-/
namespace Go.E.Ytcjmmhamnglmkaa
open Go.Proofs
set_option maxRecDepth 100000
theorem hIs : tt.get 41 = some ⟨.slice 3, 1, 24, [.one (.slice none 0 0)], false⟩ := by rfl
theorem hI' : tt.get 3 = some ⟨.int .i64, 1, 8, [.one (.int .i64 0)], false⟩ := by rfl
abbrev ic (l : List Int) : List Value := l.map (Value.int .i64)
theorem ic_one {l : List Int} : ∀ u ∈ ic l, u.oneCell' = true := by
  intro u hu; obtain ⟨a, _, rfl⟩ := List.mem_map.1 hu; rfl
/-- numbers that lie somewhere; owned -/
def Il (m : Mem) (v : Value) (l : List Int) : Prop := Lies m 1 v (ic l)
def Io (m : Mem) (v : Value) (l : List Int) : Prop := Own m 3 1 v (ic l)
/-- numbers that lie somewhere; or none, wherever -/
def Ia (m : Mem) (v : Value) (l : List Int) : Prop := Il m v l ∨ (l = [] ∧ ∃ a, v = .slice (some a) 0 0)
theorem Il.sub {m m' : Mem} {v : Value} {l : List Int} (h : Il m v l) (hs : Sub m m') : Il m' v l := Lies.sub h hs
theorem Io.sub {m m' : Mem} {v : Value} {l : List Int} (h : Io m v l) (hs : Sub m m') : Io m' v l := Own.sub h hs
theorem Io.il {m : Mem} {v : Value} {l : List Int} (h : Io m v l) : Il m v l := Own.lies h
theorem Il.ia {m : Mem} {v : Value} {l : List Int} (h : Il m v l) : Ia m v l := .inl h
theorem Ia.sub {m m' : Mem} {v : Value} {l : List Int} (h : Ia m v l) (hs : Sub m m') : Ia m' v l := h.imp (·.sub hs) id
theorem Io.nil (m : Mem) : Io m (.slice none 0 0) [] := .inl ⟨rfl, rfl⟩
theorem Il.shape {m : Mem} {v : Value} {l : List Int} (h : Il m v l) : ∃ a c, v = .slice a l.length c := by
  rcases h with ⟨c, rfl, e⟩ | ⟨b, o, c, n, arr, t, fr, rfl, _, e, _⟩
  · have : l.length = 0 := by simpa using congrArg List.length e
    exact ⟨none, c, by rw [this]⟩
  · have : l.length = n := by simpa using e
    exact ⟨_, c, by rw [this]⟩
theorem Ia.shape {m : Mem} {v : Value} {l : List Int} (h : Ia m v l) : ∃ a c, v = .slice a l.length c := by
  rcases h with h | ⟨rfl, a, rfl⟩
  · exact h.shape
  · exact ⟨_, _, rfl⟩
theorem Ia.one {m : Mem} {v : Value} {l : List Int} (h : Ia m v l) : v.oneCell' = true := by obtain ⟨a, c, rfl⟩ := h.shape; rfl
theorem Ia.il {m : Mem} {v : Value} {l : List Int} (h : Ia m v l) (hl : l ≠ []) : Il m v l := h.elim id fun h => absurd h.1 hl
theorem Il.real {m : Mem} {v : Value} {l : List Int} (h : Il m v l) {i : Nat} (hi : i < l.length) : ∃ b o c, v = .slice (some ⟨b, o, none⟩) l.length c ∧ ∀ j (hj : j < l.length), mcell m b (o + j) = some (.int .i64 l[j]) := by
  rcases h with ⟨c, rfl, e⟩ | ⟨b, o, c, n, arr, t, fr, rfl, g1, e, _, g2, _⟩
  · have : l.length = 0 := by simpa using congrArg List.length e
    omega
  · have : l.length = n := by simpa using e
    exact ⟨b, o, c, by rw [this], fun j hj => mcell_of g1 (g2 j _ (by simp [hj]))⟩
theorem Ia.real {m : Mem} {v : Value} {l : List Int} (h : Ia m v l) {i : Nat} (hi : i < l.length) : ∃ b o c, v = .slice (some ⟨b, o, none⟩) l.length c ∧ ∀ j (hj : j < l.length), mcell m b (o + j) = some (.int .i64 l[j]) :=
  (h.il (by rintro rfl; simp at hi)).real hi
theorem Ia.lenV {m : Mem} {v : Value} {l : List Int} (h : Ia m v l) : lenV v = l.length := by obtain ⟨a, c, rfl⟩ := h.shape; rfl
theorem buildI1 {m : Mem} {x : Int} : PrimSpec Try.prog (.buildSlice 41 1 [0]) [.v (.int .i64 x)] m fun r m' => ∃ b, m b = none ∧ r = [.v (.slice (some ⟨b, 0, none⟩) 1 1)] ∧ m' = m.set b (.cells #[.int .i64 x] 3) :=
  buildSlice_spec (n := 1) tt_ok hIs rfl hI' rfl rfl (by simp [CV.cs]) (by simp) (by simp)
theorem Ia.gives {m : Mem} {v : Value} {l : List Int} {e : TypeId} (h : Ia m v l) : Gives m 1 (.slice e) v (ic l) := .inl ⟨e, rfl, h.imp id fun ⟨h1, h2⟩ => ⟨by rw [h1]; rfl, h2⟩⟩
/-- append of numbers onto the i-th part -/
theorem appendIat {m p : Mem} {ls : List Mem} {i : Nat} {v x : Value} {l news : List Int} (hs : Split m ls) (hi : ls[i]? = some p) (hv : Io p v l) (hg : Ia m x news) (hb : l.length + news.length ≤ 1000000000) :
    PrimSpec Try.prog (.builtin .append [41, 41]) [.v v, .v x] m fun r m' => ∃ v' p', r = [.v v'] ∧ Split m' (ls.set i p') ∧ Io p' v' (l ++ news) := by
  have e1 := hv.il.ia.lenV
  have e2 := hg.lenV
  refine (append_at tt_ok hIs rfl hI' hIs rfl hs hi hv hg.gives (by rw [e1, e2]; simp only; omega) (by rw [e1, e2]; omega)).mono fun r m' ⟨v', p', h1, h2, h3⟩ => ⟨v', p', h1, h2, ?_⟩
  have := h3.own
  rw [show ic l ++ ic news = ic (l ++ news) by simp [ic]] at this
  exact this
theorem Il.blk1 {m : Mem} {b : Nat} {x : Int} {t : TypeId} {fr : Nat × Nat} (h : m b = some (.cells #[.int .i64 x] t fr)) : Il m (.slice (some ⟨b, 0, none⟩) 1 1) [x] :=
  .inr ⟨b, 0, 1, 1, _, _, _, rfl, h, rfl, Nat.le_refl _, fun j u hu => by simpa [ic] using hu, by simp [ic, Value.oneCell']⟩
/-- one number more -/
theorem pushI {m p : Mem} {ls : List Mem} {b' : Nat} {x : Int} {y : Value} {l : List Int} (hs : Split m (p :: ls)) (hb : m b' = none) (hy : Io p y l) (hl : l.length ≤ 100000000) :
    PrimSpec Try.prog (.builtin .append [41, 41]) [.v y, .v (.slice (some ⟨b', 0, none⟩) 1 1)] (m.set b' (.cells #[.int .i64 x] 3)) fun r m' => ∃ y' p', r = [.v y'] ∧ Split m' (p' :: ls) ∧ Io p' y' (l ++ [x]) := by
  have hs1 := hs.new hb (.cells #[.int .i64 x] 3)
  refine (appendIat (i := 1) hs1 rfl hy (Il.blk1 (Mem.set_same ..)).ia (by simp; omega)).mono fun r m' ⟨v', p', h1, h2, h3⟩ => ⟨v', p', h1, h2.erase 0, h3⟩
theorem iadd1 {i : Nat} (h : i < 1000000000000) : IntKind.i64.wrap ((i : Int) + 1) = ((i + 1 : Nat) : Int) := by rw [wi (by omega) (by omega)]; omega
theorem mcell_rng {m : Mem} {b o j : Nat} {l : List Value} {y : Value} (h : MRange m b o l) (hj : l[j]? = some y) : mcell m b (o + j) = some y := by
  obtain ⟨arr, t, fr, h1, h2⟩ := h
  exact mcell_of h1 (h2 j y hj)
end Go.E.Ytcjmmhamnglmkaa

/-
  Law FrameTorn: behind the records.
-/
namespace Go.E.Ytcjmmhamnglmkaa
open Go.Proofs
set_option maxRecDepth 100000
/-- the ends of frames -/
def ends (rs : List (List Int)) : List Value := (List.range rs.length).map fun j => Value.int .i64 (((Fr.cat (rs.take (j + 1))).length : Nat) : Int)
theorem ends_snoc (rs : List (List Int)) (r : List Int) : ends (rs ++ [r]) = ends rs ++ [.int .i64 (((Fr.cat (rs ++ [r])).length : Nat) : Int)] := by
  simp only [ends, List.length_append, List.length_singleton, List.range_succ, List.map_append, List.map_singleton]
  congr 1
  · refine List.map_congr_left fun j hj => ?_
    have := List.mem_range.1 hj
    rw [List.take_append_of_le_length (by omega)]
  · rw [List.take_of_length_le (by simp)]
/-- what is known of the records told -/
structure Told (m : Mem) (n : Nat) (ts : List (Value × List Int)) : Prop where
  len : ts.length ≤ n
  la : ∀ q ∈ ts, La m q.1 q.2
  byt : ∀ q ∈ ts, Byt q.2
  isr : ∀ q ∈ ts, Fr.isRec q.2.length = true
  sm : ∀ q ∈ ts, q.2.length ≤ 600
theorem Told.catlen : ∀ {m : Mem} {n : Nat} {ts : List (Value × List Int)}, Told m n ts → (Fr.cat (ts.map (·.2))).length ≤ 613 * ts.length
  | _, _, [], _ => by simp [Fr.cat]
  | m, n, q :: ts, h => by
    have := Told.catlen (m := m) (n := n) (ts := ts) ⟨by have := h.len; simp at this; omega, fun q hq => h.la q (by simp [hq]), fun q hq => h.byt q (by simp [hq]), fun q hq => h.isr q (by simp [hq]), fun q hq => h.sm q (by simp [hq])⟩
    have h6 := h.sm q (by simp)
    have h9 := numB_len (q.2.length : Int)
    simp only [Fr.cat, List.map_cons, List.flatten_cons, List.length_append, List.length_cons, Fr.wr, Fr.four, List.length_nil] at this ⊢
    omega
theorem kept_of {m mx my : Mem} {b : Nat} {ob : Obj} (h : m b = some ob) (hx : Sub m mx) (hy : Sub m my) : Kept [b] mx my := fun x hx' => by
  rw [List.mem_singleton.1 hx', hx _ _ h, hy _ _ h]
theorem mcell_blk {m : Mem} {b o : Nat} {v : Value} (h : mcell m b o = some v) : ∃ ob, m b = some ob := by
  unfold mcell at h
  cases hb : m b with
  | none => simp [hb] at h
  | some u => exact ⟨u, rfl⟩
theorem pushIat {m : Mem} {ls : List Mem} {p : Mem} {b' i : Nat} {x : Int} {y : Value} {vs : List Value} (hs : Split m ls) (hi : ls[i]? = some p) (hb : m b' = some (.cells #[.int .i64 x] 3)) (hy : Own p 3 1 y vs) (hl : vs.length ≤ 100000000) :
    PrimSpec Try.prog (.builtin .append [41, 41]) [.v y, .v (.slice (some ⟨b', 0, none⟩) 1 1)] m fun r m' => ∃ y' p', r = [.v y'] ∧ Split m' (ls.set i p') ∧ Own p' 3 1 y' (vs ++ [.int .i64 x]) := by
  have e1 := hy.lies.len
  have e2 : lenV (.slice (some ⟨b', 0, none⟩) 1 1) = 1 := rfl
  have g : Gives m 1 (.slice 3) (.slice (some ⟨b', 0, none⟩) 1 1) [.int .i64 x] :=
    .inl ⟨_, rfl, .inl (.inr ⟨b', 0, 1, 1, _, _, _, rfl, hb, rfl, Nat.le_refl _, fun j u hu => by simpa using hu, by simp [Value.oneCell']⟩)⟩
  exact (append_at tt_ok hIs rfl hI hIs rfl hs hi hy g (by rw [e2]; simp only; omega) (by rw [e2]; omega)).mono fun r m' ⟨v', p', h1, h2, h3⟩ => ⟨v', p', h1, h2, h3.own⟩
theorem pushLat {m : Mem} {ls : List Mem} {p : Mem} {b' i : Nat} {x : Value} {y : Value} {vs : List Value} (hs : Split m ls) (hi : ls[i]? = some p) (hb : m b' = some (.cells #[x] 23)) (hx : x.oneCell' = true) (hy : Own p 23 1 y vs) (hl : vs.length ≤ 100000000) :
    PrimSpec Try.prog (.builtin .append [33, 33]) [.v y, .v (.slice (some ⟨b', 0, none⟩) 1 1)] m fun r m' => ∃ y' p', r = [.v y'] ∧ Split m' (ls.set i p') ∧ Own p' 23 1 y' (vs ++ [x]) := by
  have e1 := hy.lies.len
  have e2 : lenV (.slice (some ⟨b', 0, none⟩) 1 1) = 1 := rfl
  have g : Gives m 1 (.slice 23) (.slice (some ⟨b', 0, none⟩) 1 1) [x] :=
    .inl ⟨_, rfl, .inl (.inr ⟨b', 0, 1, 1, _, _, _, rfl, hb, rfl, Nat.le_refl _, fun j u hu => by simpa using hu, by simpa using hx⟩)⟩
  exact (append_at tt_ok hLs rfl hBs hLs rfl hs hi hy g (by rw [e2]; simp only; omega) (by rw [e2]; omega)).mono fun r m' ⟨v', p', h1, h2, h3⟩ => ⟨v', p', h1, h2, h3.own⟩
theorem read_spec' {m : Mem} {b o c n : Nat} {l : List Int} (hn : l.length = n) (hv : La m (.slice (some ⟨b, o, none⟩) n c) l) (hb : Byt l) (hl : n ≤ 1000000) (hc : n ≤ c) : Spec Try.prog 19 [.v (.slice (some ⟨b, o, none⟩) n c)] m fun r m' => ∃ v' ps p, r = [.v v', i64 ((Fr.read (l.length + 1) l).2.1 : Nat), i64 (Fr.read (l.length + 1) l).2.2] ∧ Split m' [p, m] ∧ Lists p v' ps ∧ ps.map (·.2) = (Fr.read (l.length + 1) l).1 := by
  subst hn; exact read_spec hv hb hl hc
end Go.E.Ytcjmmhamnglmkaa

/-
  More operations: the bytes of a text that is no constant.
-/
namespace Go.E
/-- the bytes of a text, as numbers -/
def chs (s : ByteArray) : List Nat := s.data.toList.map UInt8.toNat
theorem chs_len (s : ByteArray) : (chs s).length = s.size := by simp [chs]
theorem chs_lt (s : ByteArray) : ∀ x ∈ chs s, x < 256 := by
  intro x hx
  simp only [chs, List.mem_map] at hx
  obtain ⟨a, _, rfl⟩ := hx
  exact a.toNat_lt
section
variable {P : Program} {T : Tab}
theorem convStr_spec (hT : TabOk P T) {t t' e : TypeId} {ti' ti ei : TI} (ht' : T t' = some ti') (ht : T t = some ti) (hk : ti.k = .slice e) (he : T e = some ei) (hek : ei.k = .int .u8) {m : Mem} {s : ByteArray} :
    PrimSpec P (.conv t' t) [.v (.string s)] m fun r m' => ∃ b c o, m b = none ∧ r = [.v (.slice (some ⟨b, 0, none⟩) s.size c)] ∧ m' = m.set b o ∧ Lb m' (.slice (some ⟨b, 0, none⟩) s.size c) ((chs s).map fun (n : Nat) => (n : Int)) := by
  intro hok ty W hW
  have hu := (hT t ti ht).slice hk
  have hue : P.underlying e = some (.int .u8) := by
    obtain ⟨d, h1, h2⟩ := (hT e ei he).desc
    rw [hek] at h2
    cases d <;> simp [TK.of] at h2
    rw [h1, h2]
  obtain ⟨d', hs, _⟩ := (hT t' ti' ht').desc
  have hr := Lib.run_convert_string_bytes (P := P) W t' t e s hs hu hue
  have hsz := Lib.bytesWorld_size W e s
  refine ⟨_, m.set W.heap.size (.cells (Lib.bytesCells W e s) e ((Lib.bytesCells W e s).size, (Lib.bytesCells W e s).size + 1)), Lib.bytesWorld W e s, ?_, ?_, ⟨W.heap.size, grownCap W s.size 0 e, _, hW.none (Nat.le_refl _), rfl, rfl, ?_⟩, ?_⟩
  · simpa [Prim.run, Prim.out, Prim.tup, cond_false, resVal, CV.val] using hr
  · intro x hx
    simp at hx; subst hx; rfl
  · have hcap := grownCap_ge W s.size 0 e
    refine Lb.mk (Mem.set_same ..) (by simp [chs]) hcap (fun j n hj => ?_)
    rw [List.getElem?_map] at hj
    obtain ⟨x, hx, rfl⟩ := Option.map_eq_some_iff.1 hj
    simp only [chs, List.getElem?_map] at hx
    obtain ⟨y, hy, rfl⟩ := Option.map_eq_some_iff.1 hx
    have hl := (List.getElem?_eq_some_iff.1 hy).1
    rw [Nat.zero_add, Lib.bytesCells, Array.getElem?_append_left (by simpa using hl), Array.getElem?_map]
    rw [← Array.getElem?_toList, hy]; rfl
  · refine ⟨?_, by rw [hsz]; omega, rfl, rfl, rfl, ?_⟩
    · intro x u hx
      by_cases ex : x = W.heap.size
      · subst ex; rw [Mem.set_same] at hx; cases hx; exact Lib.bytesWorld_at_new W e s
      · rw [Mem.set_ne _ _ ex] at hx
        rw [Lib.bytesWorld_at_old W e s x (hW.lt hx)]; exact hW _ _ hx
    · intro x hx hm
      exact ⟨by rw [Mem.set_ne _ _ (by omega)]; exact hm, Lib.bytesWorld_at_old W e s x hx⟩
end
end Go.E

/-
  Calls that the model answers itself: numbers that are loaded and added to, whole.
-/
namespace Go.E
section
variable {P : Program} {f : FuncId} {fn : Func}
theorem xext {args : List CV} {m : Mem} {R K : List CV → Mem → Prop} (h : ExtSpec P f args m R) (k : ∀ r m', R r m' → K r m') : XCall P f args m K := .ext R h k
theorem ext_load (hf : P.funcs[f]? = some fn) (hname : (fn.name == "runtime.NumGoroutine") = false) (hb : fn.body.isNone = true) (hn : Extern.findNext fn = none) (k : IntKind)
    (he : Extern.find fn = some (Extern.Atomic.loadT (.int k))) {m : Mem} {b off : Nat} {x : Int} (hc : mcell m b off = some (.int k x)) :
    ExtSpec P f [.v (.pointer (some ⟨b, off, none⟩))] m fun r m' => r = [.v (.int k x)] ∧ m' = m := by
  intro _ W hW
  have hcell : W.cell? ⟨b, off, none⟩ = some (.int k x) := by
    unfold mcell at hc
    cases hm : m b with
    | none => simp [hm] at hc
    | some o =>
      cases o with
      | cells arr t fr =>
        simp only [hm] at hc
        rw [cell_at (hW _ _ hm)]; exact hc
      | _ => simp [hm] at hc
  exact ⟨[.v (.int k x)], m, W, run_call_load hf hname hb hn k he hcell, (by intro y hy; simp at hy; subst hy; rfl), ⟨rfl, rfl⟩, After.refl hW⟩
theorem ext_add (hf : P.funcs[f]? = some fn) (hname : (fn.name == "runtime.NumGoroutine") = false) (hb : fn.body.isNone = true) (hn : Extern.findNext fn = none)
    (he : Extern.find fn = some (Extern.Atomic.update (Op.intArith .add) .u64 true)) {m : Mem} {b off : Nat} {x y : Int} {arr : Array Value} {t : TypeId} (hm : m b = some (.cells arr t (0, 0))) (hx : arr[off]? = some (.int .u64 x)) :
    ExtSpec P f [.v (.pointer (some ⟨b, off, none⟩)), .v (.int .u64 y)] m fun r m' => r = [.v (.int .u64 (IntKind.u64.wrap (x + y)))] ∧ m' = m.set b (.cells (arr.setIfInBounds off (.int .u64 (IntKind.u64.wrap (x + y)))) t (0, 0)) := by
  intro _ W hW
  have hg := hW _ _ hm
  have hcell : W.cell? ⟨b, off, none⟩ = some (.int .u64 x) := by rw [cell_at hg]; exact hx
  have hz : W.frozen? ⟨b, off, none⟩ = false := by simp [World.frozen?, hg]
  have hset : W.setCell ⟨b, off, none⟩ (.int .u64 (IntKind.u64.wrap (x + y))) = W.setRow b (arr.setIfInBounds off (.int .u64 (IntKind.u64.wrap (x + y)))) := setCell_eq_setRow W b off arr t (0, 0) _ hg
  have hs : (Op.intArith .add .u64 x y).run P W = .ok (.int .u64 (IntKind.u64.wrap (x + y))) W := by simp [Op.intArith]
  have hr := run_call_add hf hname hb hn .u64 he hcell hz hs
  rw [hset] at hr
  exact ⟨[.v (.int .u64 (IntKind.u64.wrap (x + y)))], _, _, hr, (by intro y hy; simp at hy; subst hy; rfl), ⟨rfl, rfl⟩, (After.refl hW).setRow hm _⟩
end
end Go.E

/-
  More operations: copy and clear of elements of any size; slices.overlaps.
-/
namespace Go.E
section
variable {P : Program} {T : Tab}
theorem take_mul_len {α : Type} {l : List α} {k n s : Nat} (h : l.length = k * s) : (l.take (n * s)).length = min k n * s := by
  rw [List.length_take, h]
  rcases Nat.le_total k n with h1 | h1
  · rw [Nat.min_eq_left h1, Nat.min_eq_right (Nat.mul_le_mul_right _ h1)]
  · rw [Nat.min_eq_right h1, Nat.min_eq_left (Nat.mul_le_mul_right _ h1)]
/-- copy of whole elements -/
theorem copyN_spec (hT : TabOk P T) {t e tx : TypeId} {ti ei : TI} (ht : T t = some ti) (hk : ti.k = .slice e) (he : T e = some ei) {m : Mem} {b o n c : Nat} {arr : Array Value} {te : TypeId} (hb : m b = some (.cells arr te)) (hfit : o + n * ei.size ≤ arr.size)
    {x : Value} {news : List Value} (hx : Lies m ei.size x news) :
    PrimSpec P (.builtin .copy [t, tx]) [.v (.slice (some ⟨b, o, none⟩) n c), .v x] m fun r m' => r = [.v (.int .i64 ((min (lenV x) n : Nat) : Int))] ∧ m' = m.set b (.cells (arr.toList.take o ++ news.take (n * ei.size) ++ arr.toList.drop (o + (news.take (n * ei.size)).length)).toArray te) := by
  intro hok ty W hW
  obtain ⟨j, hj, hjs, _⟩ := (hT e ei he).inf
  have hu := (hT t ti ht).slice hk
  have hWb := hW _ _ hb
  rcases hx with ⟨c', rfl, rfl⟩ | ⟨b', o', c', n', arr', t', fr', rfl, h1, h2, h3, h4, h5⟩
  · refine ⟨[.v (.int .i64 0)], _, W, ?_, ?_, ⟨by simp [lenV], rfl⟩, ?_⟩
    · simp [Prim.run, Prim.out, Prim.tup, cond_false, CV.val, resVal, Builtin.copy_, run_underlying hu, Builtin.lenOf, Builtin.firstCells, sizeOf, typeInfo, hj, storeCells]
      rfl
    · intro y hy; simp at hy; subst hy; rfl
    · simp only [List.take_nil, List.append_nil, List.length_nil, Nat.add_zero, List.take_append_drop, Array.toArray_toList]
      rw [Mem.set_same_eq hb]
      exact After.refl hW
  · have hlen : (news.take (n * ei.size)).length = min n' n * ei.size := take_mul_len h2
    have hld := run_loadCells_list (P := P) W ⟨b', o', none⟩ (news.take (n * ei.size)) (fun j v hv => by
      rw [add_none, cell_at (hW _ _ h1)]
      refine h4 j v ?_
      have hl := (List.getElem?_eq_some_iff.1 hv).1
      rw [hlen] at hl
      rw [List.getElem?_take] at hv
      split at hv
      · exact hv
      · cases hv)
    rw [hlen] at hld
    have hst := run_storeCells_at P b o te (news.take (n * ei.size)) 0 arr W hWb (by rw [hlen]; have := Nat.mul_le_mul_right ei.size (Nat.min_le_right n' n); omega) (fun v hv => h5 v (List.mem_of_mem_take hv))
    refine ⟨[.v (.int .i64 ((min n' n : Nat) : Int))], _, _, ?_, ?_, ⟨rfl, rfl⟩, (After.refl hW).setRow hb _⟩
    · simp only [Prim.run, Prim.out, Prim.tup, cond_false, List.map_cons, List.map_nil, CV.val, resVal]
      have hm : Nat.min n' n = min n' n := rfl
      simp only [Nat.add_zero] at hst
      simp [Builtin.copy_, run_underlying hu, Builtin.lenOf, Builtin.firstCells, sizeOf, typeInfo, hj, hjs, hm, hld, hst]
      rfl
    · intro y hy; simp at hy; subst hy; rfl
/-- copy of whole elements, of which as many are known as are copied -/
theorem copyP_spec (hT : TabOk P T) {t e tx : TypeId} {ti ei : TI} (ht : T t = some ti) (hk : ti.k = .slice e) (he : T e = some ei) {m : Mem} {b o n c b' o' n' c' : Nat} {arr arr' : Array Value} {te t' : TypeId} {fr' : Nat × Nat} (hb : m b = some (.cells arr te)) (hfit : o + min n' n * ei.size ≤ arr.size)
    {news : List Value} (hb' : m b' = some (.cells arr' t' fr')) (hlen : news.length = min n' n * ei.size) (h4 : ∀ j u, news[j]? = some u → arr'[o' + j]? = some u) (h5 : ∀ u ∈ news, u.oneCell' = true) :
    PrimSpec P (.builtin .copy [t, tx]) [.v (.slice (some ⟨b, o, none⟩) n c), .v (.slice (some ⟨b', o', none⟩) n' c')] m fun r m' => r = [.v (.int .i64 ((min n' n : Nat) : Int))] ∧ m' = m.set b (.cells (arr.toList.take o ++ (news ++ arr.toList.drop (o + news.length))).toArray te) := by
  intro hok ty W hW
  obtain ⟨j, hj, hjs, _⟩ := (hT e ei he).inf
  have hu := (hT t ti ht).slice hk
  have hWb := hW _ _ hb
  have hld := run_loadCells_list (P := P) W ⟨b', o', none⟩ news (fun j v hv => by rw [add_none, cell_at (hW _ _ hb')]; exact h4 j v hv)
  rw [hlen] at hld
  have hst := run_storeCells_at P b o te news 0 arr W hWb (by rw [hlen]; omega) h5
  refine ⟨[.v (.int .i64 ((min n' n : Nat) : Int))], _, _, ?_, ?_, ⟨rfl, rfl⟩, (After.refl hW).setRow hb _⟩
  · simp only [Prim.run, Prim.out, Prim.tup, cond_false, List.map_cons, List.map_nil, CV.val, resVal]
    have hm : Nat.min n' n = min n' n := rfl
    simp only [Nat.add_zero, List.append_assoc] at hst
    simp [Builtin.copy_, run_underlying hu, Builtin.lenOf, Builtin.firstCells, sizeOf, typeInfo, hj, hjs, hm, hld, hst]
    rfl
  · intro y hy; simp at hy; subst hy; rfl
/-- clear of no elements -/
theorem clear0_spec (hT : TabOk P T) {t e : TypeId} {ti : TI} (ht : T t = some ti) (hk : ti.k = .slice e) {m : Mem} {a : Option Addr} {c : Nat} :
    PrimSpec P (.builtin .clear [t]) [.v (.slice a 0 c)] m fun r m' => r = [] ∧ m' = m := by
  intro hok ty W hW
  have hu := (hT t ti ht).slice hk
  refine ⟨[], m, W, ?_, (by intro y hy; cases hy), ⟨rfl, rfl⟩, After.refl hW⟩
  cases a <;> simp [Prim.run, Prim.out, Prim.tup, cond_false, CV.val, resVal, Builtin.clear_, run_underlying hu]
/-- clear of elements -/
theorem clearN_spec (hT : TabOk P T) {t e : TypeId} {ti ei : TI} (ht : T t = some ti) (hk : ti.k = .slice e) (he : T e = some ei) (hz : (LB.cells ei.zero).length = ei.size) (hone : ∀ u ∈ LB.cells ei.zero, u.oneCell' = true) {m : Mem} {b o n c : Nat} {arr : Array Value} {te : TypeId} (hb : m b = some (.cells arr te)) (hn : 0 < n) (hfit : o + n * ei.size ≤ arr.size) :
    PrimSpec P (.builtin .clear [t]) [.v (.slice (some ⟨b, o, none⟩) n c)] m fun r m' => r = [] ∧ ∃ zs, zs.length = n * ei.size ∧ (∀ u ∈ zs, u.oneCell' = true) ∧ m' = m.set b (.cells (arr.toList.take o ++ zs ++ arr.toList.drop (o + n * ei.size)).toArray te) := by
  intro hok ty W hW
  obtain ⟨j, hj, hjs, _, z, hjz, hzc⟩ := (hT e ei he).inf
  have hu := (hT t ti ht).slice hk
  have hWb := hW _ _ hb
  have hzsz : z.cells.size = ei.size := by rw [hzc]; simpa using hz
  have hzl : (Builtin.zeroCells z.cells n).toList.length = n * ei.size := by rw [Array.length_toList, zeroCells_size, hzsz]
  have hzo : ∀ u ∈ (Builtin.zeroCells z.cells n).toList, u.oneCell' = true := by
    intro u hu
    rw [Array.mem_toList_iff, Builtin.zeroCells, Array.mem_map] at hu
    obtain ⟨i, hi, rfl⟩ := hu
    have hi2 := Array.mem_range.1 hi
    have hlt : i % z.cells.size < z.cells.size := Nat.mod_lt _ (by rcases Nat.eq_zero_or_pos z.cells.size with h | h; simp [h] at hi2; exact h)
    refine hone _ ?_
    have : z.cells[i % z.cells.size]! ∈ z.cells.toList := by
      rw [Array.mem_toList_iff, getElem!_pos z.cells _ hlt]; exact Array.getElem_mem hlt
    rw [hzc] at this ⊢
    exact this
  have hst := run_storeCells_at P b o te (Builtin.zeroCells z.cells n).toList 0 arr W hWb (by rw [hzl]; omega) hzo
  simp only [Nat.add_zero] at hst
  obtain ⟨k, rfl⟩ : ∃ k, n = k + 1 := ⟨n - 1, by omega⟩
  have hzv : (zeroValue e).run P W = .ok z W := by simp [zeroValue, typeInfo, hj, hjz]
  rw [hzl] at hst
  refine ⟨[], _, _, ?_, (by intro y hy; cases hy), ⟨rfl, (Builtin.zeroCells z.cells (k + 1)).toList, hzl, hzo, rfl⟩, (After.refl hW).setRow hb _⟩
  simp only [Prim.run, Prim.out, Prim.tup, cond_false, List.map_cons, List.map_nil, CV.val, resVal]
  simp [Builtin.clear_, run_underlying hu, hzv, hst]
/-- slices.overlaps: two blocks, the first of which is plain -/
theorem ext_apart {f : FuncId} {fn : Func} (hT : TabOk P T) (hf : P.funcs[f]? = some fn) (hname : (fn.name == "runtime.NumGoroutine") = false) (hb : fn.body.isNone = true) (hn : Extern.findNext fn = none)
    {t tr e : TypeId} {ti ei : TI} (ht : T t = some ti) (hk : ti.k = .slice e) (he : T e = some ei) (hx : Extern.find fn = some (Extern.SlicesOverlaps.overlaps #[t, t] #[tr]))
    {m : Mem} {b b' o o' n n' c c' : Nat} {arr arr' : Array Value} {te te' : TypeId} {fr' : Nat × Nat} (h1 : m b = some (.cells arr te)) (h2 : m b' = some (.cells arr' te' fr')) (hne : b ≠ b') (hpos : arr'.size ≠ 0) :
    ExtSpec P f [.v (.slice (some ⟨b, o, none⟩) n c), .v (.slice (some ⟨b', o', none⟩) n' c')] m fun r m' => r = [.v (.bool false)] ∧ m' = m := by
  intro _ W hW
  obtain ⟨j, hj, hjs, _⟩ := (hT e ei he).inf
  have hu := (hT t ti ht).slice hk
  have g1 := hW _ _ h1
  have g2 := hW _ _ h2
  have hr := Lib.run_overlaps_apart (P := P) W t tr e hu j.size (fun w => by simp [sizeOf, typeInfo, hj]) ⟨b, o, none⟩ ⟨b', o', none⟩ n c n' c' hne te te' arr.size arr'.size
    (by unfold World.shape?; rw [g1]) (by unfold World.shape?; rw [g2]) hpos (by simp [World.frozen?, g1]) (by simp [World.frozen?, g1])
  exact ⟨[.v (.bool false)], m, W, by simp only [List.map_cons, List.map_nil, CV.val, resVal]; rw [run_callFunc_extern hf hname hb hn hx]; exact congrArg (fun r : Result Value => r.andThen fun v w' => Result.ok (Next.value v) w') hr, (by intro y hy; simp at hy; subst hy; rfl), ⟨rfl, rfl⟩, After.refl hW⟩
end
end Go.E

/-
  Lists of elements of any one size, laid one behind the other.
-/
namespace Go.E
section
variable {α : Type} {enc : α → List Value} {s : Nat}
/-- each element has this many cells, of one cell each -/
structure EncOk (enc : α → List Value) (s : Nat) : Prop where
  len : ∀ x, (enc x).length = s
  one : ∀ x, ∀ u ∈ enc x, u.oneCell' = true
  pos : 0 < s
theorem EncOk.flen (h : EncOk enc s) : ∀ (E : List α), (E.flatMap enc).length = E.length * s
  | [] => by simp
  | x :: E => by rw [List.flatMap_cons, List.length_append, h.len, h.flen E, List.length_cons, Nat.succ_mul]; omega
theorem EncOk.fone (h : EncOk enc s) {E : List α} : ∀ u ∈ E.flatMap enc, u.oneCell' = true := fun u hu => by
  obtain ⟨x, _, hx⟩ := List.mem_flatMap.1 hu
  exact h.one x u hx
theorem EncOk.at (h : EncOk enc s) : ∀ {E : List α} {i j : Nat} {u : Value} (hi : i < E.length), (enc E[i])[j]? = some u → (E.flatMap enc)[i * s + j]? = some u
  | x :: E, 0, j, u, _, hu => by
    have hl := (List.getElem?_eq_some_iff.1 hu).1
    rw [List.flatMap_cons, List.getElem?_append_left (by simpa using hl)]
    simpa using hu
  | x :: E, i + 1, j, u, hi, hu => by
    have ih := h.at (E := E) (i := i) (j := j) (u := u) (by simpa using hi) (by simpa using hu)
    rw [List.flatMap_cons, List.getElem?_append_right (by rw [h.len, Nat.succ_mul]; omega), h.len, Nat.succ_mul, show i * s + s + j - s = i * s + j by omega]
    exact ih
theorem EncOk.take (h : EncOk enc s) : ∀ (E : List α) (i : Nat), (E.flatMap enc).take (i * s) = (E.take i).flatMap enc
  | [], i => by simp
  | x :: E, 0 => by simp
  | x :: E, i + 1 => by
    rw [List.flatMap_cons, List.take_succ_cons, List.flatMap_cons, Nat.succ_mul, List.take_append, h.len, List.take_of_length_le (by rw [h.len]; omega), show i * s + s - s = i * s by omega, h.take E i]
theorem EncOk.drop (h : EncOk enc s) : ∀ (E : List α) (i : Nat), (E.flatMap enc).drop (i * s) = (E.drop i).flatMap enc
  | [], i => by simp
  | x :: E, 0 => by simp
  | x :: E, i + 1 => by
    rw [List.flatMap_cons, List.drop_succ_cons, Nat.succ_mul, List.drop_append, h.len, List.drop_of_length_le (by rw [h.len]; omega), List.nil_append, show i * s + s - s = i * s by omega, h.drop E i]
theorem EncOk.count (h : EncOk enc s) {E : List α} {n : Nat} (e : (E.flatMap enc).length = n * s) : E.length = n := by
  rw [h.flen] at e
  exact Nat.eq_of_mul_eq_mul_right h.pos e
theorem EncOk.shape (h : EncOk enc s) {m : Mem} {v : Value} {E : List α} (hl : Lies m s v (E.flatMap enc)) : ∃ a c, v = .slice a E.length c := by
  rcases hl with ⟨c, rfl, e⟩ | ⟨b, o, c, n, arr, t, fr, rfl, _, e, _⟩
  · have : E.length = 0 := h.count (n := 0) (by rw [e]; simp)
    exact ⟨none, c, by rw [this]⟩
  · exact ⟨_, c, by rw [h.count e]⟩
theorem EncOk.real (h : EncOk enc s) {m : Mem} {v : Value} {E : List α} (hl : Lies m s v (E.flatMap enc)) {i : Nat} (hi : i < E.length) : ∃ b o c, v = .slice (some ⟨b, o, none⟩) E.length c ∧ ∀ j (hj : j < E.length), MRange m b (o + j * s) (enc E[j]) := by
  rcases hl with ⟨c, rfl, e⟩ | ⟨b, o, c, n, arr, t, fr, rfl, g1, e, _, g2, _⟩
  · have : E.length = 0 := h.count (n := 0) (by rw [e]; simp)
    omega
  · refine ⟨b, o, c, by rw [h.count e], fun j hj => ⟨arr, t, fr, g1, fun k u hu => ?_⟩⟩
    rw [Nat.add_assoc]
    exact g2 _ _ (h.at hj hu)
/-- an owned slice that is not nil, and its row -/
theorem EncOk.row (h : EncOk enc s) {p : Mem} {T : TypeId} {b o n c : Nat} {E : List α} (hl : Own p T s (.slice (some ⟨b, o, none⟩) n c) (E.flatMap enc)) : ∃ arr, p b = some (.cells arr T (0, 0)) ∧ E.length = n ∧ n ≤ c ∧ o + c * s ≤ arr.size ∧ (∀ j u, (E.flatMap enc)[j]? = some u → arr[o + j]? = some u) := by
  rcases hl with ⟨e, _⟩ | ⟨b', o', c', n', arr, e, h1, h2, h3, h4, h5, _⟩
  · cases e
  · cases e
    exact ⟨arr, h1, h.count h2, h3, h4, h5⟩
theorem EncOk.mk' (h : EncOk enc s) {p : Mem} {T : TypeId} {b o n c : Nat} {arr : Array Value} {E : List α} (h1 : p b = some (.cells arr T (0, 0))) (h2 : E.length = n) (h3 : n ≤ c) (h4 : o + c * s ≤ arr.size) (h5 : ∀ j u, (E.flatMap enc)[j]? = some u → arr[o + j]? = some u) : Own p T s (.slice (some ⟨b, o, none⟩) n c) (E.flatMap enc) :=
  .inr ⟨b, o, c, n, arr, rfl, h1, by rw [h.flen, h2], h3, h4, h5, h.fone⟩
/-- a beginning of an owned slice -/
theorem EncOk.cut (h : EncOk enc s) {p : Mem} {T : TypeId} {b o n c : Nat} {E : List α} (hl : Own p T s (.slice (some ⟨b, o, none⟩) n c) (E.flatMap enc)) {i : Nat} (hi : i ≤ n) : Own p T s (.slice (some ⟨b, o, none⟩) i c) ((E.take i).flatMap enc) := by
  obtain ⟨arr, h1, h2, h3, h4, h5⟩ := h.row hl
  refine h.mk' h1 (by rw [List.length_take]; omega) (by omega) h4 fun j u hu => h5 j u ?_
  rw [← h.take] at hu
  rw [List.getElem?_take] at hu
  split at hu
  · exact hu
  · cases hu
/-- a beginning of a slice -/
theorem EncOk.pre (h : EncOk enc s) {m : Mem} {b o n c c' : Nat} {E : List α} (hl : Lies m s (.slice (some ⟨b, o, none⟩) n c) (E.flatMap enc)) {i : Nat} (hi : i ≤ n) (hc : i ≤ c' := by omega) : Lies m s (.slice (some ⟨b, o, none⟩) i c') ((E.take i).flatMap enc) := by
  rcases hl with ⟨c', e, _⟩ | ⟨b', o2, c2, n', arr, t, fr, e, g1, g2, g3, g4, g5⟩
  · cases e
  · cases e
    refine .inr ⟨b, o, c', i, arr, t, fr, rfl, g1, by rw [h.flen, List.length_take, h.count g2, Nat.min_eq_left hi], hc, fun j u hu => g4 j u ?_, h.fone⟩
    rw [← h.take, List.getElem?_take] at hu
    split at hu
    · exact hu
    · cases hu
/-- how much room there is, at least -/
theorem lies_cap {m : Mem} {a : Option Addr} {n c : Nat} {l : List Value} (hp : 0 < s) (hl : Lies m s (.slice a n c) l) : n ≤ c ∨ n = 0 := by
  rcases hl with ⟨c', e, h⟩ | ⟨b', o2, c2, n', arr, t, fr, e, g1, g2, g3, g4, g5⟩
  · cases e; exact .inr rfl
  · cases e; exact .inl g3
/-- what a store of one element's cells at a place leaves -/
theorem put_cells {arr : Array Value} {cs : List Value} {a j : Nat} {u : Value} (hfit : a + cs.length ≤ arr.size) : (arr.toList.take a ++ (cs ++ arr.toList.drop (a + cs.length))).toArray[j]? = some u ↔ if j < a then arr[j]? = some u else if j < a + cs.length then cs[j - a]? = some u else arr[j]? = some u := by
  rw [List.getElem?_toArray]
  have hl : (arr.toList.take a).length = a := by rw [List.length_take, Array.length_toList]; omega
  by_cases h1 : j < a
  · rw [if_pos h1, List.getElem?_append_left (by omega), List.getElem?_take, if_pos h1, Array.getElem?_toList]
  · rw [if_neg h1, List.getElem?_append_right (by omega), hl]
    by_cases h2 : j < a + cs.length
    · rw [if_pos h2, List.getElem?_append_left (by omega)]
    · rw [if_neg h2, List.getElem?_append_right (by omega), List.getElem?_drop, Array.getElem?_toList, show a + cs.length + (j - a - cs.length) = j by omega]
theorem EncOk.set (h : EncOk enc s) {p : Mem} {T : TypeId} {b o n c : Nat} {E : List α} (hl : Own p T s (.slice (some ⟨b, o, none⟩) n c) (E.flatMap enc)) {i : Nat} (hi : i < E.length) (x : α) :
    ∃ arr, p b = some (.cells arr T (0, 0)) ∧ o + i * s + s ≤ arr.size ∧ Own (p.set b (.cells (arr.toList.take (o + i * s) ++ (enc x ++ arr.toList.drop (o + i * s + s))).toArray T (0, 0))) T s (.slice (some ⟨b, o, none⟩) n c) ((E.set i x).flatMap enc) := by
  obtain ⟨arr, h1, h2, h3, h4, h5⟩ := h.row hl
  have hmul : i * s + s ≤ c * s := by rw [← Nat.succ_mul]; exact Nat.mul_le_mul_right _ (by omega)
  refine ⟨arr, h1, by omega, h.mk' (Mem.set_same ..) (by rw [List.length_set]; omega) h3 ?_ fun j u hu => ?_⟩
  · simp only [List.size_toArray, List.length_append, List.length_take, List.length_drop, Array.length_toList, h.len]; omega
  · have hp := put_cells (arr := arr) (cs := enc x) (a := o + i * s) (j := o + j) (u := u) (by rw [h.len]; omega)
    rw [h.len] at hp
    rw [hp]
    have hjl := (List.getElem?_eq_some_iff.1 hu).1
    rw [h.flen, List.length_set] at hjl
    -- the element in which j lies
    have hs := h.pos
    have hq : j / s < E.length := Nat.div_lt_of_lt_mul (by rw [Nat.mul_comm]; exact hjl)
    have hjd : j = j / s * s + j % s := by rw [Nat.mul_comm]; exact (Nat.div_add_mod j s).symm
    have hml := Nat.mod_lt j hs
    have key : ∀ (F : List α) (hF : j / s < F.length), (F.flatMap enc)[j]? = (enc F[j / s])[j % s]? := fun F hF => by
      cases hx : (enc F[j / s])[j % s]? with
      | none => have := List.getElem?_eq_none_iff.1 hx; rw [h.len] at this; omega
      | some w => have := h.at hF hx; rw [← hjd] at this; exact this
    rw [key _ (by rw [List.length_set]; exact hq)] at hu
    by_cases e : j / s = i
    · subst e
      rw [List.getElem_set_self] at hu
      rw [if_neg (by omega), if_pos (by omega), show o + j - (o + j / s * s) = j % s by omega]
      exact hu
    · rw [List.getElem_set_ne (Ne.symm e)] at hu
      have h5' := h5 j u (by rw [key _ hq]; exact hu)
      by_cases hlt : j / s < i
      · have : j / s * s + s ≤ i * s := by rw [← Nat.succ_mul]; exact Nat.mul_le_mul_right _ hlt
        rw [if_pos (by omega)]; exact h5'
      · have : i * s + s ≤ j / s * s := by rw [← Nat.succ_mul]; exact Nat.mul_le_mul_right _ (by omega)
        rw [if_neg (by omega), if_neg (by omega)]; exact h5'
/-- the rest of a slice, from an element on -/
theorem EncOk.post (h : EncOk enc s) {m : Mem} {b o n c : Nat} {E : List α} (hl : Lies m s (.slice (some ⟨b, o, none⟩) n c) (E.flatMap enc)) {i : Nat} (hi : i ≤ n) {o' : Nat} (ho : i < n → o' = o + i * s) : Lies m s (.slice (some ⟨b, o', none⟩) (n - i) (c - i)) ((E.drop i).flatMap enc) := by
  rcases hl with ⟨c', e, _⟩ | ⟨b', o2, c', n', arr, t, fr, e, g1, g2, g3, g4, g5⟩
  · cases e
  · cases e
    have hn := h.count g2
    refine .inr ⟨b, o', c - i, n - i, arr, t, fr, rfl, g1, by rw [h.flen, List.length_drop, hn], by omega, fun j u hu => ?_, h.fone⟩
    have hjl := (List.getElem?_eq_some_iff.1 hu).1
    rw [h.flen, List.length_drop, hn] at hjl
    have hlt : i < n := by
      by_cases e : i < n
      · exact e
      · rw [show n - i = 0 by omega] at hjl; simp at hjl
    rw [← h.drop, List.getElem?_drop] at hu
    have := g4 _ _ hu
    rw [ho hlt, Nat.add_assoc]; exact this
end
theorem Split.grow {m m' : Mem} {l : List Mem} (h : Split m l) (hs : Sub m m') : Split m' l := ⟨h.1.trans hs, h.2⟩
/-- a row has these cells from a place on -/
def RowHas (arr : Array Value) (o : Nat) (l : List Value) : Prop := ∀ j u, l[j]? = some u → arr[o + j]? = some u
theorem RowHas.append {arr : Array Value} {o : Nat} {a b : List Value} (ha : RowHas arr o a) (hb : RowHas arr (o + a.length) b) : RowHas arr o (a ++ b) := fun j u hu => by
  by_cases h : j < a.length
  · rw [List.getElem?_append_left h] at hu; exact ha j u hu
  · rw [List.getElem?_append_right (by omega)] at hu
    have := hb _ _ hu
    rw [show o + a.length + (j - a.length) = o + j by omega] at this
    exact this
theorem RowHas.left {arr : Array Value} {o : Nat} {a b : List Value} (h : RowHas arr o (a ++ b)) : RowHas arr o a := fun j u hu => h j u (by rw [List.getElem?_append_left (List.getElem?_eq_some_iff.1 hu).1]; exact hu)
theorem RowHas.right {arr : Array Value} {o : Nat} {a b : List Value} (h : RowHas arr o (a ++ b)) : RowHas arr (o + a.length) b := fun j u hu => by
  rw [Nat.add_assoc]
  exact h (a.length + j) u (by rw [List.getElem?_append_right (by omega), show a.length + j - a.length = j by omega]; exact hu)
theorem RowHas.putSame {arr : Array Value} {a : Nat} {cs : List Value} (hfit : a + cs.length ≤ arr.size) : RowHas (arr.toList.take a ++ (cs ++ arr.toList.drop (a + cs.length))).toArray a cs := fun j u hu => by
  have hl := (List.getElem?_eq_some_iff.1 hu).1
  rw [put_cells hfit, if_neg (by omega), if_pos (by omega), show a + j - a = j by omega]; exact hu
theorem RowHas.putOther {arr : Array Value} {a o : Nat} {cs l : List Value} (h : RowHas arr o l) (hfit : a + cs.length ≤ arr.size) (hd : o + l.length ≤ a ∨ a + cs.length ≤ o) : RowHas (arr.toList.take a ++ (cs ++ arr.toList.drop (a + cs.length))).toArray o l := fun j u hu => by
  have hl := (List.getElem?_eq_some_iff.1 hu).1
  rw [put_cells hfit]
  rcases hd with hd | hd
  · rw [if_pos (by omega)]; exact h j u hu
  · rw [if_neg (by omega), if_neg (by omega)]; exact h j u hu
theorem put_size {arr : Array Value} {a : Nat} {cs : List Value} (hfit : a + cs.length ≤ arr.size) : (arr.toList.take a ++ (cs ++ arr.toList.drop (a + cs.length))).toArray.size = arr.size := by
  simp only [List.size_toArray, List.length_append, List.length_take, List.length_drop, Array.length_toList]; omega
/-- a store over the whole of a new block -/
theorem storeAll {mm : Mem} {b : Nat} {old : Array Value} {t : TypeId} {fr : Nat × Nat} {v : LB} (hsz : LB.size v = old.size) :
    (mm.set b (.cells old t fr)).set b (.cells (old.toList.take 0 ++ (LB.cells v ++ old.toList.drop (0 + LB.size v))).toArray t fr) = mm.set b (.cells (LB.cells v).toArray t fr) := by
  rw [Mem.set_set]
  have e : (old.toList.take 0 ++ (LB.cells v ++ old.toList.drop (0 + LB.size v))).toArray = (LB.cells v).toArray := by
    rw [List.drop_of_length_le (by rw [Array.length_toList]; omega)]; simp
  rw [e]
theorem noFr {n k : Nat} : ∀ j, j < n → ¬ (((0, 0) : Nat × Nat).1 ≤ k + j ∧ k + j < ((0, 0) : Nat × Nat).2) := fun j _ h => by simp only at h; omega
end Go.E
