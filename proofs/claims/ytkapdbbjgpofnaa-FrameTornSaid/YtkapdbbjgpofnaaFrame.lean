/-
  Contracts of frame.
-/
import Derived.Test.YtkapdbbjgpofnaaFrameP
import Derived.Test.YtkapdbbjgpofnaaWireD
import Derived.Test.YtkapdbbjgpofnaaCat
namespace Go.E.Ytkapdbbjgpofnaa
open Go.Proofs
set_option maxRecDepth 100000
abbrev u32' (n : Int) : CV := .v (.int .u32 n)
theorem La.real {m : Mem} {v : Value} {l : List Int} (h : La m v l) (hl : l ≠ []) : ∃ b o c, v = .slice (some ⟨b, o, none⟩) l.length c := (h.lb hl).real hl
theorem Lb.at' {m : Mem} {b o n c j : Nat} {l : List Int} (h : Lb m (.slice (some ⟨b, o, none⟩) n c) l) {x : Int} (hj : l[j]? = some x) : mcell m b (o + j) = some (.int .u8 x) := by
  obtain ⟨arr, t, fr, h1, h2⟩ := h.range
  exact mcell_of h1 (h2 j _ (by simp [hj]))
theorem fold_take {l : List Int} {i : Nat} (h : i < l.length) : (l.take (i + 1)).foldl (fun s c => Fr.crc1 s c.toNat) 4294967295 = Fr.crc1 ((l.take i).foldl (fun s c => Fr.crc1 s c.toNat) 4294967295) (l[i]).toNat := by
  rw [List.take_succ_eq_append_getElem h, List.foldl_append]; rfl
theorem xor_byte {s : Nat} {x : Int} (hs : s < 2 ^ 32) (hx : 0 ≤ x ∧ x < 256) : bitsOf .xor .u32 (s : Int) (IntKind.u32.wrap x) = ((s ^^^ x.toNat : Nat) : Int) := by
  obtain ⟨k, rfl⟩ : ∃ k : Nat, x = k := ⟨x.toNat, by omega⟩
  rw [wu32 (by omega) (by omega), xor_u32 hs (by omega)]; rfl
theorem fsum_spec {m : Mem} {v : Value} {l : List Int} (hv : La m v l) (hb : Byt l) (hl : l.length ≤ 100000000) : Ret Try.prog 9 [.v v] m [u32' ((Fr.crc l : Nat) : Int)] := by
  obtain ⟨a, c, rfl⟩ := hv.shape
  refine en9 rfl (goY ?_)
  conv => whnf
  refine .mk (ι := Nat) (fun i => l.length - i) (fun i mm => i ≤ l.length ∧ mm = m) (fun i => [(3, .c (u32' (((l.take i).foldl (fun s c => Fr.crc1 s c.toNat) 4294967295 : Nat) : Int))), (7, .c (.v (.slice a l.length c))), (8, .c (i64 l.length)), (9, .c (i64 i))]) (fun _ => []) 0 ⟨by omega, rfl⟩ ?_ ?_
  · conv => whnf
    repeat (refine And.intro (by first | with_reducible rfl | exact congrArg (Value.int _) (wi (by omega) (by omega)) | exact wi (by omega) (by omega) | rfl) ?_; conv => whnf)
    first | exact trivial | exact fun _ _ h => h
  rintro i mm ⟨hi, he⟩
  subst mm
  conv => whnf
  refine ⟨fun h1 => ?_, fun h1 => ?_⟩
  · have h1' := of_decide_eq_true h1
    have hlt : i < l.length := by omega
    have hne : l ≠ [] := by intro e; subst e; simp at hlt
    obtain ⟨b, o, c', hh⟩ := La.real hv hne
    injection hh with hh1 _ hh3
    subst hh1
    clear hh3 c'
    have hx := hb l[i] (List.getElem_mem hlt)
    conv => whnf
    repeat (refine And.intro (by first | omega | (simp only [times]; omega)) ?_; conv => whnf)
    refine ⟨_, by have := Lb.at' (hv.lb hne) (List.getElem?_eq_getElem hlt); simp only [times, Int.toNat_natCast, Nat.mul_one]; exact this, rfl, ?_⟩
    have hs := Fr.fold_lt (l := l.take i) (s := 4294967295) (by decide) (hb.take i)
    have hft := fold_take hlt
    generalize (l.take i).foldl (fun s c => Fr.crc1 s c.toNat) 4294967295 = s0 at hs hft ⊢
    conv => whnf
    rw [xor_byte hs hx]
    have hs' : s0 ^^^ (l[i]).toNat < 2 ^ 32 := Nat.xor_lt_two_pow hs (by omega)
    have hc1 : Fr.crc1 s0 (l[i]).toNat = Fr.stps 8 (s0 ^^^ (l[i]).toNat) := rfl
    rw [hc1] at hft
    generalize s0 ^^^ (l[i]).toNat = s1 at hs' hft ⊢
    refine .mk (ι := Nat) (fun k => 8 - k) (fun k mm => k ≤ 8 ∧ mm = m) (fun k => [(3, .c (u32' ((Fr.stps k s1 : Nat) : Int))), (7, .c (.v (.slice (some ⟨b, o, none⟩) l.length c))), (8, .c (i64 l.length)), (9, .c (i64 i)), (17, .c (i64 k))]) (fun _ => []) 0 ⟨by omega, rfl⟩ ?_ ?_
    · conv => whnf
      repeat (refine And.intro (by first | with_reducible rfl | exact congrArg (Value.int _) (wi (by omega) (by omega)) | exact wi (by omega) (by omega) | rfl) ?_; conv => whnf)
      first | exact trivial | exact fun _ _ h => h
    rintro k mm ⟨hk, he⟩
    subst mm
    conv => whnf
    refine ⟨fun h2 => ?_, fun h2 => ?_⟩
    · have h2' := of_decide_eq_true h2
      have hlk : k < 8 := by omega
      have hsk := Fr.stps_lt (k := k) hs'
      have hsu := Fr.stps_succ k s1
      generalize Fr.stps k s1 = s2 at hsk hsu ⊢
      have ea : bitsOf .and .u32 (s2 : Int) 1 = ((s2 % 2 : Nat) : Int) := by
        have := and_u32 (a := s2) (b := 1) hsk (by decide)
        rw [show (1 : Int) = ((1 : Nat) : Int) from rfl, this, Nat.and_one_is_mod]
      have er : shrOf .u32 (s2 : Int) 1 = ((s2 / 2 : Nat) : Int) := by
        have := shr_nat (k := .u32) (x := s2) (n := 1) (by decide)
        rw [show (1 : Int) = ((1 : Nat) : Int) from rfl, this, Nat.pow_one]
      conv => whnf
      rw [ea, er]
      have hhalf : s2 / 2 < 2 ^ 32 := by omega
      refine ⟨fun h3 => ?_, fun h3 => ?_⟩
      · have h3' : s2 % 2 = 1 := by simp at h3; omega
        have est : Fr.stp s2 = (s2 / 2) ^^^ 3988292384 := by rw [Fr.stp, if_pos h3']
        have ex := xor_u32 (a := s2 / 2) (b := 3988292384) hhalf (by decide)
        conv => whnf
        refine ⟨k + 1, ⟨by omega, rfl⟩, by omega, ?_⟩
        rw [hsu, est]
        conv => whnf
        repeat (refine And.intro (by first | with_reducible rfl | (first | exact congrArg (Value.int _) (iadd (by omega)) | exact congrArg (Value.int _) ex) | exact congrArg (Value.int _) (wi (by omega) (by omega)) | exact wi (by omega) (by omega) | rfl) ?_; conv => whnf)
        first | exact trivial | exact fun _ _ h => h
      · have h3' : ¬ s2 % 2 = 1 := by simp at h3; omega
        have est : Fr.stp s2 = s2 / 2 := by rw [Fr.stp, if_neg h3']
        conv => whnf
        refine ⟨k + 1, ⟨by omega, rfl⟩, by omega, ?_⟩
        rw [hsu, est]
        conv => whnf
        repeat (refine And.intro (by first | with_reducible rfl | (first | exact congrArg (Value.int _) (iadd (by omega))) | exact congrArg (Value.int _) (wi (by omega) (by omega)) | exact wi (by omega) (by omega) | rfl) ?_; conv => whnf)
        first | exact trivial | exact fun _ _ h => h
    · have h2' := of_decide_eq_false h2
      obtain rfl : k = 8 := by omega
      conv => whnf
      refine ⟨i + 1, ⟨by omega, rfl⟩, by omega, ?_⟩
      rw [hft]
      conv => whnf
      repeat (refine And.intro (by first | with_reducible rfl | (first | exact congrArg (Value.int _) (iadd (by omega))) | exact congrArg (Value.int _) (wi (by omega) (by omega)) | exact wi (by omega) (by omega) | rfl) ?_; conv => whnf)
      first | exact trivial | exact fun _ _ h => h
  · have h1' := of_decide_eq_false h1
    obtain rfl : i = l.length := by omega
    rw [List.take_length]
    have hs := Fr.fold_lt (l := l) (s := 4294967295) (by decide) hb
    have hc : Fr.crc l = l.foldl (fun s c => Fr.crc1 s c.toNat) 4294967295 ^^^ 4294967295 := rfl
    rw [hc]
    generalize l.foldl (fun s c => Fr.crc1 s c.toNat) 4294967295 = s0 at hs ⊢
    conv => whnf
    exact ⟨by rw [show (4294967295 : Int) = ((4294967295 : Nat) : Int) from rfl, xor_u32 hs (by decide)], rfl⟩
theorem build4 {m : Mem} {x y z w : Int} : PrimSpec Try.prog (.buildSlice 23 4 [0, 1, 2, 3]) [.v (.int .u8 x), .v (.int .u8 y), .v (.int .u8 z), .v (.int .u8 w)] m fun r m' => ∃ b, m b = none ∧ r = [.v (.slice (some ⟨b, 0, none⟩) 4 4)] ∧ m' = m.set b (.cells (bc [x, y, z, w]).toArray 5) :=
  buildSlice_spec (n := 4) tt_ok hBs rfl hU8 rfl rfl (by simp [CV.cs]) (by simp) (by simp)
theorem four_spec {m : Mem} {s : Nat} (hs : s < 2 ^ 32) : Spec Try.prog 13 [u32' (s : Int)] m fun r m' => ∃ v p, r = [.v v] ∧ Split m' [p, m] ∧ Bs p v (Fr.four s) := by
  have e8 := shr_nat (k := .u32) (x := s) (n := 8) (by decide)
  have e16 := shr_nat (k := .u32) (x := s) (n := 16) (by decide)
  have e24 := shr_nat (k := .u32) (x := s) (n := 24) (by decide)
  refine en13 rfl (goY ?_)
  conv => whnf
  rw [show (8 : Int) = ((8 : Nat) : Int) from rfl, e8, show (16 : Int) = ((16 : Nat) : Int) from rfl, e16, show (24 : Int) = ((24 : Nat) : Int) from rfl, e24]
  refine .mk _ (build4) ?_
  rintro _ _ ⟨b, hb, rfl, rfl⟩
  conv => whnf
  refine ⟨_, _, rfl, (Split.one m).new hb _, ?_⟩
  refine Bs.blk (l := Fr.four s) ?_ rfl
  rw [blk1_same]
  simp only [IntKind.wrap_u8]
  have q8 : (2 : Nat) ^ 8 = 256 := rfl
  have q16 : (2 : Nat) ^ 16 = 65536 := rfl
  have q24 : (2 : Nat) ^ 24 = 16777216 := rfl
  rw [q8, q16, q24]
  rfl
theorem isRec_spec {m : Mem} {n : Nat} : Ret Try.prog 10 [i64 n] m [boolV (Fr.isRec n)] := by
  refine en10 rfl (goY ?_)
  conv => whnf
  repeat' (first | (refine ⟨fun h => ?_, fun h => ?_⟩ <;> conv => whnf) | fail)
  · have h' := of_decide_eq_true h
    have e1 : decide (1 ≤ n) = true := decide_eq_true (by omega)
    have e2 : decide ((n : Int) ≤ 20000) = decide (n ≤ 20000) := decide_eq_decide.2 (by omega)
    rw [Fr.isRec, e1, e2, Bool.true_and]; exact ⟨rfl, rfl⟩
  · have h' := of_decide_eq_false h
    have e1 : decide (1 ≤ n) = false := decide_eq_false (by omega)
    rw [Fr.isRec, e1, Bool.false_and]; exact ⟨rfl, rfl⟩
theorem head_spec {m : Mem} {n : Nat} (hn : n ≤ 1000000000) : Spec Try.prog 12 [i64 n] m fun r m' => ∃ v p, r = [.v v] ∧ Split m' [p, m] ∧ Bs p v (numB n) := by
  refine en12 rfl (goY ?_)
  conv => whnf
  intro b hb
  conv => whnf
  have hs0 := (Split.one m).new hb (.cells (LB.cells [.one (.slice none 0 0)]).toArray 46)
  have hw0 : Wr (blk1 b (.cells (LB.cells [.one (.slice none 0 0)]).toArray 46)) b [] := ⟨_, blk1_same .., Bs.nil _, by simp [blkV]⟩
  rw [wu (n := (n : Int)) (by omega) (by omega)]
  refine xcall ((wnum_spec hw0 (n := (n : Int)) ⟨by omega, by omega⟩ (by simp)).at hs0 (i := 0) rfl) ?_
  rintro _ m1 ⟨p1, ⟨rfl, hw1⟩, hs1⟩
  conv => whnf
  have h9 := numB_len (n : Int)
  refine xcall ((wbytes_spec hw1 (by simp; omega)).at hs1 (i := 0) rfl) ?_
  rintro _ m2 ⟨p2, ⟨v2, q, rfl, hs2, hv2⟩, hs3⟩
  conv => whnf
  have hs4 := (hs3.flat (i := 0) rfl hs2).erase 1
  exact ⟨v2, q, rfl, hs4, by simpa using hv2⟩
theorem write_bad {m : Mem} {v : Value} {l : List Int} (hv : La m v l) (h : Fr.isRec l.length = false) : Ret Try.prog 6 [.v v] m [.v (.slice none 0 0), i64 3] := by
  obtain ⟨a, c, rfl⟩ := hv.shape
  refine en6 rfl (goY ?_)
  conv => whnf
  first | refine xretk (isRec_spec) ?_ | refine xret (isRec_spec) ?_
  conv => whnf
  rw [h]
  refine ⟨fun _ => ?_, fun h => absurd h (by decide)⟩
  conv => whnf
  exact ⟨rfl, rfl⟩
theorem write_ok {m : Mem} {v : Value} {l : List Int} (hv : La m v l) (hb : Byt l) (h : Fr.isRec l.length = true) : Spec Try.prog 6 [.v v] m fun r m' => ∃ v' p, r = [.v v', i64 0] ∧ Split m' [p, m] ∧ Bs p v' (Fr.wr l) := by
  have h' : 1 ≤ l.length ∧ l.length ≤ 20000 := by simpa [Fr.isRec] using h
  obtain ⟨a, c, rfl⟩ := hv.shape
  have h9 := numB_len (l.length : Int)
  refine en6 rfl (goY ?_)
  conv => whnf
  first | refine xretk (isRec_spec) ?_ | refine xret (isRec_spec) ?_
  conv => whnf
  rw [h]
  refine ⟨fun h => absurd h (by decide), fun _ => ?_⟩
  conv => whnf
  refine xcall (head_spec (n := l.length) (by omega)) ?_
  rintro _ m1 ⟨v1, p1, rfl, hs1, hv1⟩
  conv => whnf
  first | refine xretk (fsum_spec (hv.sub (hs1.sub (by simp))) hb (by omega)) ?_ | refine xret (fsum_spec (hv.sub (hs1.sub (by simp))) hb (by omega)) ?_
  conv => whnf
  refine xcall (four_spec (Fr.crc_lt hb)) ?_
  rintro _ m2 ⟨v2, p2, rfl, hs2, hv2⟩
  conv => whnf
  have hs2 := hs2.under (a := [p2]) hs1
  refine .mk _ (buildL3) ?_
  rintro _ _ ⟨b3, hb3, rfl, rfl⟩
  conv => whnf
  have hs3 := hs2.new hb3 (.cells #[v1, .slice a l.length c, v2] 23)
  have q1 : Sub p1 m2 := hs2.sub (by simp)
  have q2 : Sub p2 m2 := hs2.sub (by simp)
  have q3 : Sub m m2 := hs2.sub (by simp)
  have q4 := Mem.sub_set (.cells #[v1, .slice a l.length c, v2] 23) hb3
  refine xcall (concat_spec (Lists.three (Mem.set_same ..) (hv1.lb.la.sub (q1.trans q4)) (hv.sub (q3.trans q4)) (hv2.lb.la.sub (q2.trans q4))) (by simp [catB, Fr.four]; omega) (by simp)) ?_
  rintro _ m4 ⟨v', p, rfl, hs4, hv'⟩
  conv => whnf
  have hs4 := hs4.under (a := [p]) hs3
  refine ⟨v', p, rfl, (((hs4.erase 1).erase 1).erase 1), ?_⟩
  simpa [catB, Fr.wr, List.append_assoc] using hv'
theorem equal_spec {m : Mem} {v w : Value} {l k : List Int} (hv : La m v l) (hw : La m w k) (hl : l.length ≤ 100000000) : Ret Try.prog 22 [.v v, .v w] m [boolV (decide (l = k))] := by
  obtain ⟨a, c, rfl⟩ := hv.shape
  obtain ⟨aw, cw, rfl⟩ := hw.shape
  refine en22 rfl (goY ?_)
  conv => whnf
  refine ⟨fun h => ?_, fun h => ?_⟩
  · conv => whnf
    have : l ≠ k := by rintro rfl; simp at h
    rw [decide_eq_false this]
    exact ⟨rfl, rfl⟩
  have hlk : l.length = k.length := by simp at h; omega
  clear h
  rw [← hlk] at hw ⊢
  conv => whnf
  refine .mk (ι := Nat) (fun i => l.length - i) (fun i mm => i ≤ l.length ∧ l.take i = k.take i ∧ mm = m) (fun i => [(0, .c (.v (.slice a l.length c))), (1, .c (.v (.slice aw l.length cw))), (12, .c (i64 l.length)), (13, .c (i64 i))]) (fun _ => []) 0 ⟨by omega, by simp, rfl⟩ ?_ ?_
  · conv => whnf
    repeat (refine And.intro (by first | with_reducible rfl | exact congrArg (Value.int _) (wi (by omega) (by omega)) | exact wi (by omega) (by omega) | rfl) ?_; conv => whnf)
    first | exact trivial | exact fun _ _ h => h
  rintro i mm ⟨hi, htk, he⟩
  subst mm
  conv => whnf
  refine ⟨fun h1 => ?_, fun h1 => ?_⟩
  · have h1' := of_decide_eq_true h1
    have hlt : i < l.length := by omega
    have hne : l ≠ [] := by intro e; subst e; simp at hlt
    have hne' : k ≠ [] := by intro e; rw [e] at hlk; simp only [List.length_nil] at hlk; omega
    obtain ⟨b, o, c', hh⟩ := La.real hv hne
    injection hh with hh1 _ hh3
    subst hh1
    clear hh3 c'
    have hw' : La m (.slice aw k.length cw) k := by rw [← hlk]; exact hw
    obtain ⟨bw, ow, c', hh⟩ := La.real hw' hne'
    injection hh with hh1 _ hh3
    subst hh1
    clear hh3 c'
    have hltk : i < k.length := by omega
    conv => whnf
    repeat (refine And.intro (by first | omega | (simp only [times]; omega)) ?_; conv => whnf)
    refine ⟨_, by have := Lb.at' (hv.lb hne) (List.getElem?_eq_getElem hlt); simp only [times, Int.toNat_natCast, Nat.mul_one]; exact this, rfl, ?_⟩
    conv => whnf
    repeat (refine And.intro (by first | omega | (simp only [times]; omega)) ?_; conv => whnf)
    refine ⟨_, by have := Lb.at' (hw.lb hne') (List.getElem?_eq_getElem hltk); simp only [times, Int.toNat_natCast, Nat.mul_one]; exact this, rfl, ?_⟩
    conv => whnf
    refine ⟨fun h2 => ?_, fun h2 => ?_⟩
    · conv => whnf
      have : l ≠ k := by rintro rfl; simp at h2
      rw [decide_eq_false this]
      exact ⟨rfl, rfl⟩
    · have h2' : l[i] = k[i] := by simpa using h2
      conv => whnf
      refine ⟨i + 1, ⟨by omega, by rw [List.take_succ_eq_append_getElem hlt, List.take_succ_eq_append_getElem hltk, htk, h2'], rfl⟩, by omega, ?_⟩
      conv => whnf
      repeat (refine And.intro (by first | with_reducible rfl | (first | exact congrArg (Value.int _) (iadd (by omega))) | exact congrArg (Value.int _) (wi (by omega) (by omega)) | exact wi (by omega) (by omega) | rfl) ?_; conv => whnf)
      first | exact trivial | exact fun _ _ h => h
  · have h1' := of_decide_eq_false h1
    obtain rfl : i = l.length := by omega
    rw [List.take_length, hlk, List.take_length] at htk
    conv => whnf
    rw [decide_eq_true htk]
    exact ⟨rfl, rfl⟩
theorem Lb.cap' {m : Mem} {b o n c : Nat} {l : List Int} (h : Lb m (.slice (some ⟨b, o, none⟩) n c) l) : l.length ≤ c := by
  rcases h.cases with ⟨c, h1, h2⟩ | ⟨b', o', c', arr, t, fr, h1, h2, h3, h4⟩
  · cases h1
  · cases h1; exact h3
theorem Lb.cut' {m : Mem} {b o n c c' : Nat} {l : List Int} (h : Lb m (.slice (some ⟨b, o, none⟩) n c) l) (i len : Nat) (hk : i + len ≤ l.length) (hc : len ≤ c') : Lb m (.slice (some ⟨b, o + i, none⟩) len c') ((l.drop i).take len) := by
  rcases h.cases with ⟨c, h1, h2⟩ | ⟨b', o', c', arr, t, fr, h1, h2, h3, h4⟩
  · cases h1
  · cases h1
    refine Lb.mk h2 (by simp; omega) hc (fun j x hj => ?_)
    rw [List.getElem?_take] at hj
    split at hj
    · rw [List.getElem?_drop] at hj
      rw [Nat.add_assoc]; exact h4 _ _ hj
    · cases hj
theorem next_spec {m : Mem} {v : Value} {l : List Int} (hv : La m v l) (hb : Byt l) (hl : l.length ≤ 10000000) : Spec Try.prog 14 [.v v] m fun r m' => ∃ v' p, r = [.v v', i64 ((Fr.next l).2.1 : Nat), i64 (Fr.next l).2.2] ∧ Split m' [p, m] ∧ Bs p v' (Fr.next l).1 := by
  obtain ⟨a, c, rfl⟩ := hv.shape
  refine en14 rfl (goY ?_)
  conv => whnf
  refine xcall (from_spec hv hb (by omega)) ?_
  rintro _ m1 ⟨bp, p1, rfl, hs1, h1⟩
  conv => whnf
  refine xcall ((small_spec h1 (most := 20000) ⟨by decide, by decide⟩).at hs1 (i := 0) rfl) ?_
  rintro _ m2 ⟨p2, ⟨rfl, h2, _⟩, hs2⟩
  conv => whnf
  have hk := rSmall_nat (most := 20000) (s := (l, 0)) hb ⟨by decide, by decide⟩
  have hsub : Sub m m2 := hs2.sub (by simp)
  rcases hr : rSmall 20000 (l, 0) with ⟨n, rest, e⟩
  rw [hr] at h2 hk
  simp only [hr]
  have hx : Fr.next l = (if e = 8 then ([], 0, 0) else if e ≠ 0 ∨ n = 0 then ([], 0, 3) else if (l.length : Int) - (numB n).length < n.toNat + 4 then ([], 0, 0) else
      if Fr.four (Fr.crc ((l.drop (numB n).length).take n.toNat)) = (l.drop ((numB n).length + n.toNat)).take 4 then ((l.drop (numB n).length).take n.toNat, (numB n).length + n.toNat + 4, 0) else ([], 0, 9)) := by
    unfold Fr.next; simp only [hr]
  simp only at hk
  obtain ⟨hk0, hk1⟩ := hk
  have hk1 : n ≤ 20000 := by omega
  have hnil : ∃ p, Split m2 [p, m] := ⟨_, hs2⟩
  have h3 := h2.mono (hs2.sub (by simp))
  clear h2 h1 hs1
  first | refine xretk (err_spec h3) ?_ | refine xret (err_spec h3) ?_
  conv => whnf
  refine ⟨fun h => ?_, fun h => ?_⟩
  · have h' : e = 8 := by simpa using h
    conv => whnf
    rw [hx, if_pos h']
    exact ⟨_, _, rfl, hs2, Bs.nil _⟩
  have h8 : ¬ e = 8 := by simpa using h
  clear h
  conv => whnf
  first | refine xretk (err_spec h3) ?_ | refine xret (err_spec h3) ?_
  conv => whnf
  refine ⟨fun h => ?_, fun h => ?_⟩
  · have h' : e ≠ 0 := by simpa using h
    conv => whnf
    rw [hx, if_neg h8, if_pos (.inl h')]
    exact ⟨_, _, rfl, hs2, Bs.nil _⟩
  have h0 : e = 0 := by simpa using h
  clear h
  conv => whnf
  refine ⟨fun h => ?_, fun h => ?_⟩
  · have h' : n = 0 := by simpa using h
    conv => whnf
    rw [hx, if_neg h8, if_pos (.inr h')]
    exact ⟨_, _, rfl, hs2, Bs.nil _⟩
  have hn0 : ¬ n = 0 := by simpa using h
  clear h
  rw [if_neg h8, if_neg (by omega)] at hx
  obtain ⟨k, rfl⟩ : ∃ k : Nat, n = k := ⟨n.toNat, by omega⟩
  rw [Int.toNat_natCast] at hx
  have h9 := numB_len (k : Int)
  conv => whnf
  refine xcall (head_spec (n := k) (by omega)) ?_
  rintro _ m3 ⟨v1, q1, rfl, hs3, hv1⟩
  conv => whnf
  obtain ⟨a1, c1, rfl⟩ := hv1.lb.shape
  have hs3 := hs3.under (a := [q1]) hs2
  have hsub3 : Sub m m3 := hs3.sub (by simp)
  clear hv1 h3
  generalize hat : (numB (k : Int)).length = at' at *
  have e1 : IntKind.i64.wrap ((l.length : Int) - (at' : Int)) = (l.length : Int) - at' := wi (by omega) (by omega)
  have e2 : IntKind.i64.wrap ((k : Int) + 4) = ((k + 4 : Nat) : Int) := by rw [wi (by omega) (by omega)]; omega
  conv => whnf
  rw [e1, e2]
  refine ⟨fun h => ?_, fun h => ?_⟩
  · have h' := of_decide_eq_true h
    conv => whnf
    rw [hx, if_pos (by omega)]
    exact ⟨_, _, rfl, hs3.erase 1, Bs.nil _⟩
  have h' := of_decide_eq_false h
  clear h
  rw [if_neg (by omega)] at hx
  have e3 : IntKind.i64.wrap ((at' : Int) + (k : Int)) = ((at' + k : Nat) : Int) := by rw [wi (by omega) (by omega)]; omega
  have hne : l ≠ [] := by rintro rfl; simp at h'; omega
  have hv0 := hv
  obtain ⟨b, o, c', hh⟩ := La.real hv hne
  injection hh with hh1 _ hh3
  subst hh1
  clear hh3 c'
  have hlb := (hv.lb hne).sub hsub3
  have hcap := Lb.cap' hlb
  conv => whnf
  rw [e3]
  repeat (refine And.intro (by first | omega | (simp only [times]; omega)) ?_; conv => whnf)
  intro o1 ho1 _
  obtain rfl : o1 = o + at' := by have := ho1 (by omega); rw [Int.toNat_natCast] at this; simpa using this
  simp only [Int.toNat_natCast]
  rw [show at' + k - at' = k by omega]
  conv => whnf
  have hd := Lb.cut' (c' := c - at') hlb at' k (by omega) (by omega)
  refine xcall (clone_spec hd.la (by simp; omega)) ?_
  rintro _ m4 ⟨v4, q4, rfl, hs4, hv4⟩
  conv => whnf
  have hs4 := hs4.under (a := [q4]) hs3
  have hsub4 : Sub m m4 := hs4.sub (by simp)
  have hbd : Byt ((l.drop at').take k) := (hb.drop _).take _
  have e4 : IntKind.i64.wrap (((at' + k : Nat) : Int) + 4) = ((at' + k + 4 : Nat) : Int) := by rw [wi (by omega) (by omega)]; omega
  rw [e3, e4]
  repeat (refine And.intro (by first | omega | (simp only [times]; omega)) ?_; conv => whnf)
  intro o2 ho2 _
  obtain rfl : o2 = o + (at' + k) := by have := ho2 (by omega); rw [Int.toNat_natCast] at this; simpa using this
  simp only [Int.toNat_natCast]
  rw [show at' + k + 4 - (at' + k) = 4 by omega]
  conv => whnf
  first | refine xretk (fsum_spec (hv4.lb.la.sub (hs4.sub (by simp))) hbd (by simp; omega)) ?_ | refine xret (fsum_spec (hv4.lb.la.sub (hs4.sub (by simp))) hbd (by simp; omega)) ?_
  conv => whnf
  refine xcall (four_spec (Fr.crc_lt hbd)) ?_
  rintro _ m5 ⟨v5, q5, rfl, hs5, hv5⟩
  conv => whnf
  have hs5 := hs5.under (a := [q5]) hs4
  have hsub5 : Sub m m5 := hs5.sub (by simp)
  have hd2 := Lb.cut' (c' := c - (at' + k)) ((hv.lb hne).sub hsub5) (at' + k) 4 (by omega) (by omega)
  first | refine xretk (equal_spec (hv5.lb.la.sub (hs5.sub (by simp))) hd2.la (by simp [Fr.four])) ?_ | refine xret (equal_spec (hv5.lb.la.sub (hs5.sub (by simp))) hd2.la (by simp [Fr.four])) ?_
  conv => whnf
  refine ⟨fun h => ?_, fun h => ?_⟩
  · have hq : ¬ Fr.four (Fr.crc ((l.drop at').take k)) = (l.drop (at' + k)).take 4 := by simpa using h
    conv => whnf
    rw [hx, if_neg hq]
    exact ⟨_, q5, rfl, ((hs5.erase 1).erase 1).erase 1, Bs.nil _⟩
  · have hq : Fr.four (Fr.crc ((l.drop at').take k)) = (l.drop (at' + k)).take 4 := by simpa using h
    conv => whnf
    rw [hx, if_pos hq]
    refine ⟨v4, q4, ?_, ((hs5.erase 2).erase 2).erase 0, hv4⟩
    rw [e3, e4]
theorem Lb.postA {m : Mem} {b o n c : Nat} {l : List Int} (hv : La m (.slice (some ⟨b, o, none⟩) n c) l) (hc : l.length ≤ c) (k : Nat) (hk : k ≤ l.length) (o' : Nat) (ho : c - k ≠ 0 → o' = o + k) : La m (.slice (some ⟨b, o', none⟩) (l.length - k) (c - k)) (l.drop k) := by
  by_cases hne : l.drop k = []
  · have h0 : l.length - k = 0 := by have := congrArg List.length hne; simpa using this
    rcases hv with h | ⟨rfl, a, h⟩
    · rcases h.cases with ⟨_, h1, _⟩ | ⟨b', o'', c', arr, t, fr, h1, h2, h3, h4⟩
      · cases h1
      · cases h1
        rw [hne, h0]
        exact (Lb.mk (l := []) (o := o') h2 rfl (Nat.zero_le _) (fun j x hj => by cases hj)).la
    · injection h with h1 h2 h3
      subst h3
      exact .inr ⟨by simp, ⟨b, o', none⟩, by simp⟩
  · have hl : l ≠ [] := by rintro rfl; simp at hne
    have hd : 0 < (l.drop k).length := List.length_pos_iff.2 hne
    rw [List.length_drop] at hd
    obtain rfl := ho (by omega)
    have := Lb.cut' (c' := c - k) (hv.lb hl) k (l.length - k) (by omega) (by omega)
    rw [List.take_of_length_le (by simp)] at this
    exact this.la
theorem Split.mid {m p a b : Mem} {l : List Mem} (h : Split m (p :: a :: b :: l)) : Split m (p :: joinM a b :: l) ∧ Sub a (joinM a b) ∧ Sub b (joinM a b) := by
  have h1 : Split m (a :: b :: p :: l) := h.perm ((List.Perm.swap a p (b :: l)).trans ((List.Perm.swap b p l).cons a))
  refine ⟨h1.pair.perm (List.Perm.swap p (joinM a b) l), fun x o hx => by simp [joinM, hx], fun x o hx => ?_⟩
  rcases h1.dj x with h' | h'
  · simp [joinM, h', hx]
  · rw [h'] at hx; cases hx
theorem read_step {f : Nat} {b : List Int} (h : 0 < (Fr.next b).2.1) : Fr.read (f + 1) b = ((Fr.next b).1 :: (Fr.read f (b.drop (Fr.next b).2.1)).1, (Fr.next b).2.1 + (Fr.read f (b.drop (Fr.next b).2.1)).2.1, (Fr.read f (b.drop (Fr.next b).2.1)).2.2) := by
  rw [Fr.read]; simp only [if_pos h]
theorem read_stop {f : Nat} {b : List Int} (h : ¬ 0 < (Fr.next b).2.1) : Fr.read (f + 1) b = ([], 0, (Fr.next b).2.2) := by
  rw [Fr.read]; simp only [if_neg h]
/-- what was read so far -/
structure Got (l : List Int) (f : Nat) (at' : Nat) (ls : List (List Int)) : Prop where
  le : at' ≤ l.length
  fuel : l.length - at' < f
  cnt : ls.length ≤ at'
  eq : Fr.read (l.length + 1) l = (ls ++ (Fr.read f (l.drop at')).1, at' + (Fr.read f (l.drop at')).2.1, (Fr.read f (l.drop at')).2.2)
theorem Got.start (l : List Int) : Got l (l.length + 1) 0 [] := ⟨by omega, by omega, by simp, by simp⟩
theorem Got.more {l : List Int} {f at' : Nat} {ls : List (List Int)} (h : Got l f at' ls) (hp : 0 < (Fr.next (l.drop at')).2.1) : ∃ f', f = f' + 1 ∧ Got l f' (at' + (Fr.next (l.drop at')).2.1) (ls ++ [(Fr.next (l.drop at')).1]) := by
  obtain ⟨f', rfl⟩ : ∃ f', f = f' + 1 := ⟨f - 1, by have := h.fuel; omega⟩
  have hl := Fr.next_le (l.drop at')
  rw [List.length_drop] at hl
  have := h.le; have := h.fuel; have := h.cnt
  refine ⟨f', rfl, by omega, by omega, by simp; omega, ?_⟩
  rw [h.eq, read_step hp, List.drop_drop]
  simp [Nat.add_assoc]
theorem Got.stop {l : List Int} {f at' : Nat} {ls : List (List Int)} (h : Got l f at' ls) (hp : ¬ 0 < (Fr.next (l.drop at')).2.1) : Fr.read (l.length + 1) l = (ls, at', (Fr.next (l.drop at')).2.2) := by
  obtain ⟨f', rfl⟩ : ∃ f', f = f' + 1 := ⟨f - 1, by have := h.fuel; omega⟩
  rw [h.eq, read_stop hp]; simp
set_option maxHeartbeats 2000000 in
theorem read_spec {m : Mem} {b o c : Nat} {l : List Int} (hv : La m (.slice (some ⟨b, o, none⟩) l.length c) l) (hb : Byt l) (hl : l.length ≤ 1000000) (hc : l.length ≤ c) : Spec Try.prog 7 [.v (.slice (some ⟨b, o, none⟩) l.length c)] m fun r m' => ∃ v' ps p, r = [.v v', i64 ((Fr.read (l.length + 1) l).2.1 : Nat), i64 (Fr.read (l.length + 1) l).2.2] ∧ Split m' [p, m] ∧ Lists p v' ps ∧ ps.map (·.2) = (Fr.read (l.length + 1) l).1 := by
  refine en7 rfl (goY ?_)
  conv => whnf
  refine .mk 0 _ rfl (ι := Nat × Value × Nat) (fun i => i.1) (fun ⟨f, x, k⟩ mm => ∃ (ps : List (Value × List Int)) (p q : Mem), Got l f k (ps.map (·.2)) ∧ Split mm [p, q, m] ∧ Own p 23 1 x (ps.map (·.1)) ∧ ∀ u ∈ ps, La q u.1 u.2)
    (fun ⟨f, x, k⟩ => [(0, .c (.v (.slice (some ⟨b, o, none⟩) l.length c))), (5, .c (.v x)), (6, .c (i64 k))]) (fun _ => []) ?_ ?_
  · conv => whnf
    repeat (refine And.intro (by first | omega | (simp only [times]; omega)) ?_; conv => whnf)
    intro o1 ho1 _
    have hpost := Lb.postA hv hc 0 (by omega) o1 (fun h => by have := ho1 (by simp only [Int.toNat_zero]; omega); simpa using this)
    have e0 : c - (0 : Int).toNat = c - 0 := rfl
    rw [e0, show l.length - (0 : Int).toNat = l.length - 0 from rfl]
    have hg := Got.start l
    refine xcall (next_spec hpost (hb.drop _) (by simp; omega)) ?_
    rintro _ m1 ⟨v1, p1, rfl, hs1, hv1⟩
    conv => whnf
    refine ⟨fun h1 => ?_, fun h1 => ?_⟩
    · have h1' : 0 < (Fr.next (l.drop 0)).2.1 := by have := of_decide_eq_true h1; omega
      obtain ⟨f', hf', hg'⟩ := hg.more h1'
      have hle := hg'.le
      have hs2 : Split m1 (emp :: [p1, m]) := hs1.addEmp
      conv => whnf
      refine .mk _ (buildL1) ?_
      rintro _ _ ⟨b1, hb1, rfl, rfl⟩
      conv => whnf
      refine .mk _ (pushL (p := emp) (y := .slice none 0 0) (vs := []) hs2 hb1 hv1.lb.one (.inl ⟨rfl, rfl⟩) (by simp)) ?_
      rintro _ m2 ⟨x', p', rfl, hs3, hx'⟩
      conv => whnf
      refine ⟨(f', x', 0 + (Fr.next (l.drop 0)).2.1), ⟨[(v1, (Fr.next (l.drop 0)).1)], p', p1, hg', hs3, hx', by simpa using hv1.lb.la⟩, ?_⟩
      conv => whnf
      repeat (refine And.intro (by first | with_reducible rfl | (first | exact congrArg (Value.int _) (by rw [wi (by omega) (by omega)]; omega)) | exact congrArg (Value.int _) (wi (by omega) (by omega)) | exact wi (by omega) (by omega) | rfl) ?_; conv => whnf)
      first | exact trivial | exact fun _ _ h => h
    · have h1' : ¬ 0 < (Fr.next (l.drop 0)).2.1 := by have := of_decide_eq_false h1; omega
      have hst := hg.stop h1'
      conv => whnf
      rw [hst]
      exact ⟨_, [], emp, rfl, (hs1.erase 0).addEmp, ⟨.inl ⟨_, rfl, rfl⟩, by simp⟩, rfl⟩
  · rintro ⟨f, x, k⟩ mm ⟨ps, p, q, hg, hs, hx, hq⟩
    have hle := hg.le
    have hsub : Sub m mm := hs.sub (by simp)
    conv => whnf
    repeat (refine And.intro (by first | omega | (simp only [times]; omega)) ?_; conv => whnf)
    intro o1 ho1 _
    have hpost := Lb.postA (hv.sub hsub) hc k hg.le o1 (fun h => by have := ho1 (by rw [Int.toNat_natCast]; omega); simpa using this)
    simp only [Int.toNat_natCast]
    refine xcall (next_spec hpost (hb.drop _) (by simp; omega)) ?_
    rintro _ m1 ⟨v1, p1, rfl, hs1, hv1⟩
    conv => whnf
    have hs1 := hs1.under (a := [p1]) hs
    have hcnt := hg.cnt
    rw [List.length_map] at hcnt
    refine ⟨fun h1 => ?_, fun h1 => ?_⟩
    · have h1' : 0 < (Fr.next (l.drop k)).2.1 := by have := of_decide_eq_true h1; omega
      obtain ⟨f', rfl, hg'⟩ := hg.more h1'
      have hle' := hg'.le
      have hs2 : Split m1 (p :: [p1, q, m]) := hs1.perm (List.Perm.swap _ _ _)
      conv => whnf
      refine .mk _ (buildL1) ?_
      rintro _ _ ⟨b1, hb1, rfl, rfl⟩
      conv => whnf
      refine .mk _ (pushL hs2 hb1 hv1.lb.one hx (by simp; omega)) ?_
      rintro _ m2 ⟨x', p', rfl, hs3, hx'⟩
      conv => whnf
      obtain ⟨hs4, hsa, hsb⟩ := Split.mid hs3
      refine ⟨(f', x', k + (Fr.next (l.drop k)).2.1), ⟨ps ++ [(v1, (Fr.next (l.drop k)).1)], p', _, by simpa using hg', hs4, by simpa using hx', ?_⟩, by simp only; omega, ?_⟩
      · intro u hu
        rcases List.mem_append.1 hu with hu | hu
        · exact (hq u hu).sub hsb
        · rw [List.mem_singleton.1 hu]; exact hv1.lb.la.sub hsa
      · conv => whnf
        repeat (refine And.intro (by first | with_reducible rfl | (first | exact congrArg (Value.int _) (by rw [wi (by omega) (by omega)]; omega)) | exact congrArg (Value.int _) (wi (by omega) (by omega)) | exact wi (by omega) (by omega) | rfl) ?_; conv => whnf)
        first | exact trivial | exact fun _ _ h => h
    · have h1' : ¬ 0 < (Fr.next (l.drop k)).2.1 := by have := of_decide_eq_false h1; omega
      have hst := hg.stop h1'
      conv => whnf
      rw [hst]
      have hs2 : Split m1 (p :: [q, m]) := hs1.drop
      have hd := hs2.dj
      have hs3 := hs2.pair
      refine ⟨x, ps, joinM p q, rfl, hs3, ⟨hx.lies.sub (fun y u hu => by simp [joinM, hu]), fun u hu => (hq u hu).sub (fun y w hw => ?_)⟩, rfl⟩
      rcases hd y with h' | h'
      · simp [joinM, h', hw]
      · rw [h'] at hw; cases hw
end Go.E.Ytkapdbbjgpofnaa
