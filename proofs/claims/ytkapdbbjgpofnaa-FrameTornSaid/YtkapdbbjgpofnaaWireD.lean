/-
  Contracts of wire's reader.
-/
import Derived.Test.YtkapdbbjgpofnaaWire
import Derived.Test.YtkapdbbjgpofnaaWireQ
namespace Go.E.Ytkapdbbjgpofnaa
open Go.Proofs
set_option maxRecDepth 100000

/-- a reader: its own block, and the bytes that are left -/
def Rd (m : Mem) (bp : Nat) (s : RS) : Prop := ∃ v, m bp = some (.cells #[.bool true, v, .int .i64 s.2] 57) ∧ Lb m v s.1 ∧ blkV v ≠ some bp ∧ Byt s.1 ∧ s.1.length ≤ 100000000
/-- bytes that are not in the reader's own block -/
def Lx (m : Mem) (bp : Nat) (v : Value) (l : List Int) : Prop := Lb m v l ∧ blkV v ≠ some bp
theorem Lies.setOther {m : Mem} {size : Nat} {v : Value} {l : List Value} {b : Nat} {o : Obj} (h : Lies m size v l) (hn : blkV v ≠ some b) : Lies (m.set b o) size v l :=
  h.keep fun x hx => Mem.set_ne _ _ fun e => hn (by rw [hx, e])
theorem from_spec {m : Mem} {v : Value} {l : List Int} (hv : La m v l) (hb : Byt l) (hl : l.length ≤ 100000000) :
    Spec Try.prog 18 [.v v] m fun r m' => ∃ bp p, r = [ptrV bp] ∧ Split m' [p, m] ∧ Rd p bp (l, 0) := by
  refine en18 rfl (goY ?_)
  conv => whnf
  refine xcall (clone_spec hv hl) ?_
  rintro _ m1 ⟨v1, p1, rfl, hs1, hv1⟩
  conv => whnf
  intro b hb1
  conv => whnf
  have hp : p1 b = none := hs1.none hb1 p1 (by simp)
  have hs2 := (hs1.new hb1 (.cells (LB.cells [.one (.bool true), .one v1, .one (.int .i64 0)]).toArray 57)).pair
  refine ⟨b, _, rfl, hs2, v1, ?_, ?_, ?_, hb, hl⟩
  · rw [joinM_blk1, Mem.set_same]; rfl
  · rw [joinM_blk1]; exact hv1.lb.sub (Mem.sub_set _ hp)
  · intro e
    rcases hv1 with ⟨rfl, _⟩ | ⟨b', o, c, n, arr, rfl, h1, _⟩
    · simp [blkV] at e
    · simp [blkV] at e; subst e; rw [h1] at hp; cases hp
theorem err_spec {m : Mem} {bp : Nat} {s : RS} (h : Rd m bp s) : Ret Try.prog 20 [ptrV bp] m [i64 s.2] := by
  obtain ⟨v, hb, hv, hn, _⟩ := h
  refine en20 rfl (goY ?_)
  conv => whnf
  refine ⟨fun h => absurd h (by decide), fun _ => ?_⟩
  conv => whnf
  refine ⟨_, mcell_of hb rfl, rfl, ?_⟩
  conv => whnf
  refine ⟨fun h => absurd h (by decide), fun _ => ?_⟩
  conv => whnf
  refine ⟨_, mcell_of hb rfl, rfl, ?_⟩
  conv => whnf
  exact ⟨rfl, rfl⟩
/-- no block but bp has changed -/
def Only (m m' : Mem) (bp : Nat) : Prop := ∀ b, b ≠ bp → m' b = m b
theorem Only.refl (m : Mem) (bp : Nat) : Only m m bp := fun _ _ => rfl
theorem Only.trans {m m' m'' : Mem} {bp : Nat} (h : Only m m' bp) (k : Only m' m'' bp) : Only m m'' bp := fun b hb => (k b hb).trans (h b hb)
theorem Only.set (m : Mem) (bp : Nat) (o : Obj) : Only m (m.set bp o) bp := fun _ hb => Mem.set_ne _ _ hb
theorem Lx.only {m m' : Mem} {bp : Nat} {v : Value} {l : List Int} (h : Lx m bp v l) (k : Only m m' bp) : Lx m' bp v l := ⟨h.1.keep fun b hb => k b fun e => h.2 (by rw [hb, e]), h.2⟩
theorem must_spec {m : Mem} {bp : Nat} {s : RS} {is : Bool} (h : Rd m bp s) :
    Spec Try.prog 24 [ptrV bp, boolV is] m fun r m' => r = [] ∧ Rd m' bp (rMust is s) ∧ Only m m' bp := by
  have h0 := h
  obtain ⟨v, hb, hv, hn, hby, hl⟩ := h
  refine en24 rfl (goY ?_)
  conv => whnf
  first | refine xretk (err_spec h0) ?_ | refine xret (err_spec h0) ?_
  conv => whnf
  refine ⟨fun h1 => ?_, fun h1 => ?_⟩
  · have h1' : s.2 = 0 := by simpa using h1
    conv => whnf
    refine ⟨fun h2 => ?_, fun h2 => ?_⟩
    · have h2' : is = false := by simpa using h2
      conv => whnf
      refine ⟨_, _, _, hb, ⟨by simp, by omega⟩, ?_⟩
      conv => whnf
      refine ⟨rfl, ?_, Only.set _ _ _⟩
      rw [rMust, if_pos ⟨h1', h2'⟩]
      exact ⟨v, Mem.set_same .., Lies.setOther hv hn, hn, hby, hl⟩
    · have h2' : is = true := by simpa using h2
      conv => whnf
      refine ⟨rfl, ?_, Only.refl _ _⟩
      rw [rMust, if_neg (by simp [h2'])]
      exact h0
  · have h1' : s.2 ≠ 0 := by simpa using h1
    conv => whnf
    refine ⟨rfl, ?_, Only.refl _ _⟩
    rw [rMust, if_neg (by simp [h1'])]
    exact h0
set_option maxHeartbeats 1000000 in
theorem take_spec {m : Mem} {bp : Nat} {s : RS} {n : Nat} (h : Rd m bp s) (hn1 : n < 9223372036854775808) :
    Spec Try.prog 25 [ptrV bp, i64 n] m fun r m' => ∃ v', r = [.v v'] ∧ Lx m' bp v' (rTake n s).1 ∧ Rd m' bp (rTake n s).2 ∧ Only m m' bp := by
  have h0 := h
  obtain ⟨l, e⟩ := s
  obtain ⟨v, hb, hv, hn, hby, hl⟩ := h
  simp only at hb hv hby hl
  refine en25 rfl (goY ?_)
  conv => whnf
  first | refine xretk (err_spec h0) ?_ | refine xret (err_spec h0) ?_
  conv => whnf
  refine ⟨fun h1 => ?_, fun h1 => ?_⟩
  · have h1' : e ≠ 0 := by simpa using h1
    conv => whnf
    rw [rTake, if_pos h1']
    exact ⟨_, rfl, ⟨Lb.nil .., by simp [blkV]⟩, h0, Only.refl _ _⟩
  · have h1' : e = 0 := by simpa using h1
    subst h1'
    conv => whnf
    refine ⟨v, mcell_of hb rfl, hv.one, ?_⟩
    obtain ⟨a, c, rfl⟩ := hv.shape
    conv => whnf
    refine ⟨fun h2 => ?_, fun h2 => ?_⟩
    · have h2' := of_decide_eq_true h2
      conv => whnf
      refine ⟨_, _, _, hb, ⟨by simp, by omega⟩, ?_⟩
      conv => whnf
      rw [rTake, if_neg (by simp), if_pos (by show l.length < n; omega)]
      exact ⟨_, rfl, ⟨Lb.nil .., by simp [blkV]⟩, ⟨_, Mem.set_same .., Lies.setOther hv hn, hn, hby, hl⟩, Only.set _ _ _⟩
    · have h2' := of_decide_eq_false h2
      have hln : n ≤ l.length := by omega
      conv => whnf
      refine ⟨.slice a l.length c, mcell_of hb rfl, hv.one, ?_⟩
      rw [rTake, if_neg (by simp), if_neg (by show ¬ (l.length < n); omega)]
      rcases hv.cases with ⟨c', e1, e2⟩ | ⟨b, o, c', arr, t, fr, e1, g1, g2, g3⟩
      · subst e2
        cases e1
        obtain rfl : n = 0 := by simpa using hln
        conv => whnf
        repeat (refine And.intro (by first | omega | (simp only [times]; omega)) ?_; conv => whnf)
        refine ⟨.slice none 0 c, mcell_of hb rfl, hv.one, ?_⟩
        conv => whnf
        repeat (refine And.intro (by first | omega | (simp only [times]; omega)) ?_; conv => whnf)
        refine ⟨_, _, _, hb, ⟨by simp, by omega⟩, ?_⟩
        conv => whnf
        exact ⟨_, rfl, ⟨Lb.nil .., by simp [blkV]⟩, ⟨_, Mem.set_same .., Lb.nil .., by simp [blkV], Byt.nil, by simp⟩, Only.set _ _ _⟩
      · cases e1
        have hbn : b ≠ bp := fun e => hn (by rw [e]; rfl)
        conv => whnf
        repeat (refine And.intro (by first | omega | (simp only [times]; omega)) ?_; conv => whnf)
        intro o1 ho1 ho1'
        obtain rfl : o1 = o := by
          rcases Nat.eq_zero_or_pos n with h | h
          · exact ho1' (by omega)
          · have := ho1 (by omega); simpa using this
        conv => whnf
        refine ⟨.slice (some ⟨b, o1, none⟩) l.length c, mcell_of hb rfl, hv.one, ?_⟩
        conv => whnf
        repeat (refine And.intro (by first | omega | (simp only [times]; omega)) ?_; conv => whnf)
        intro o2 ho2 ho2'
        conv => whnf
        refine ⟨_, _, _, hb, ⟨by simp, by omega⟩, ?_⟩
        conv => whnf
        refine ⟨_, rfl, ⟨Lb.mk (arr := arr) (t := t) (fr := fr) ?_ (by simp; omega) (by simp) ?_, ?_⟩, ⟨_, Mem.set_same .., Lb.mk (arr := arr) (t := t) (fr := fr) ?_ (by simp) (by omega) ?_, ?_, hby.drop n, by simp; omega⟩, Only.set _ _ _⟩
        · rw [Mem.set_ne _ _ hbn]; exact g1
        · intro j u hu
          have := (List.getElem?_eq_some_iff.1 hu).1
          simp only [List.length_take] at this
          rw [List.getElem?_take, if_pos (by omega)] at hu
          exact g3 j u hu
        · intro e; simp [blkV] at e; exact hbn e
        · rw [Mem.set_ne _ _ hbn]; exact g1
        · intro j u hu
          rw [List.getElem?_drop] at hu
          have : n + j < l.length := (List.getElem?_eq_some_iff.1 hu).1
          have e2 := ho2 (by omega)
          simp only [Nat.mul_one] at e2
          have := g3 _ u hu
          rw [show o2 + j = o1 + (n + j) by simp at e2; omega]
          exact this
        · intro e; simp [blkV] at e; exact hbn e
theorem Lx.head {m : Mem} {bp : Nat} {v : Value} {l : List Int} (h : Lx m bp v l) (hl : l ≠ []) : ∃ b o c arr t fr, v = .slice (some ⟨b, o, none⟩) l.length c ∧ b ≠ bp ∧ m b = some (.cells arr t fr) ∧ (∀ j n, l[j]? = some n → arr[o + j]? = some (.int .u8 n)) := by
  rcases h.1.cases with ⟨c, rfl, h'⟩ | ⟨b, o, c, arr, t, fr, rfl, g1, g2, g3⟩
  · exact absurd h' hl
  · exact ⟨b, o, c, arr, t, fr, rfl, fun e => h.2 (by rw [e]; rfl), g1, g3⟩
theorem shl8or {a c : Int} (ha : 0 ≤ a) (ha' : a < 72057594037927936) (hc : 0 ≤ c ∧ c < 256) : bitsOf .or .u64 (shlOf .u64 a 8) (IntKind.u64.wrap c) = 256 * a + c := by
  obtain ⟨a, rfl⟩ := Int.eq_ofNat_of_zero_le ha
  obtain ⟨c, rfl⟩ := Int.eq_ofNat_of_zero_le hc.1
  rw [wu (by omega) (by omega)]
  have e1 : shlOf .u64 (a : Int) 8 = ((a * 2 ^ 8 : Nat) : Int) := by
    show IntKind.u64.wrap ((a : Int) * 256) = _
    rw [wu (by omega) (by omega)]; omega
  rw [e1, or_u64 (by omega) (by omega), or_low 8 (by omega)]
  omega
set_option maxHeartbeats 2000000 in
theorem num_spec {m : Mem} {bp : Nat} {s : RS} (h : Rd m bp s) :
    Spec Try.prog 23 [ptrV bp] m fun r m' => r = [u64 (rNum s).1] ∧ Rd m' bp (rNum s).2 ∧ Only m m' bp := by
  have hbs : Byt s.1 := by obtain ⟨v, _, _, _, h, _⟩ := h; exact h
  have ht1 := rTake_byt (n := 1) hbs
  have hl1 := rTake_len (n := 1) (s := s)
  rcases hr1 : rTake 1 s with ⟨hd, s1⟩
  rw [hr1] at ht1 hl1
  simp only at ht1 hl1
  rcases hd with _ | ⟨c, _ | ⟨c', hd'⟩⟩
  · have e : rNum s = (0, s1) := by simp [rNum, hr1]
    refine en23 rfl (goY ?_)
    conv => whnf
    refine xcall (take_spec (n := 1) h (by omega)) ?_
    rintro _ m1 ⟨v1, rfl, hv1, h1, o1⟩
    conv => whnf
    rw [hr1] at hv1 h1
    simp only at hv1 h1
    obtain ⟨a1, c1, rfl⟩ := hv1.1.shape
    conv => whnf
    refine ⟨fun _ => ?_, fun h => absurd h (by decide)⟩
    conv => whnf
    rw [e]
    exact ⟨rfl, h1, o1⟩
  · have hc := ht1.1 c (by simp)
    have hcw : IntKind.i64.wrap c = (c.toNat : Int) := by rw [wi (by omega) (by omega)]; omega
    have ht2 := rTake_byt (n := c.toNat) (rMust_byt (b := decide (c ≤ 8)) ht1.2)
    have hl2 := rTake_len (n := c.toNat) (s := rMust (decide (c ≤ 8)) s1)
    have hc8 : c.toNat ≤ 8 ∨ (rTake c.toNat (rMust (decide (c ≤ 8)) s1)).1 = [] := by
      by_cases h8 : c ≤ 8
      · exact .inl (by omega)
      · refine .inr ?_
        have : (rMust (decide (c ≤ 8)) s1).2 ≠ 0 := by
          unfold rMust; split
          · simp
          · rename_i h; simp [h8] at h; exact h
        rw [rTake, if_pos this]
    rcases hr2 : rTake c.toNat (rMust (decide (c ≤ 8)) s1) with ⟨l, s3⟩
    rw [hr2] at ht2 hl2 hc8
    simp only at ht2 hl2 hc8
    have hl8 : l.length ≤ 8 := by
      rcases hc8 with h | h
      · omega
      · rw [h]; simp
    have e : rNum s = (if (rMust (l.isEmpty || decide (0 < hd0 l)) s3).2 ≠ 0 then 0 else beN l, rMust (l.isEmpty || decide (0 < hd0 l)) s3) := by
      unfold rNum; rw [hr1]; dsimp only; rw [if_neg (by simp), show hd0 [c] = c from rfl, hr2]
    rcases l with _ | ⟨x, l'⟩
    · refine en23 rfl (goY ?_)
      conv => whnf
      refine xcall (take_spec (n := 1) h (by omega)) ?_
      rintro _ m1 ⟨v1, rfl, hv1, h1, o1⟩
      conv => whnf
      rw [hr1] at hv1 h1
      simp only at hv1 h1
      obtain ⟨b, o, cc, arr, t, fr, rfl, hbn, hb1, hat⟩ := hv1.head (by simp)
      conv => whnf
      refine ⟨fun h => absurd h (by simp), fun _ => ?_⟩
      conv => whnf
      refine ⟨⟨by simp, by simp⟩, ?_⟩
      conv => whnf
      refine ⟨.int .u8 c, mcell_of hb1 (hat 0 c rfl), rfl, ?_⟩
      conv => whnf
      refine xcall (must_spec (is := decide (c ≤ 8)) h1) ?_
      rintro _ m2 ⟨rfl, h2, o2⟩
      conv => whnf
      have hb2 : m2 b = some (.cells arr t fr) := by rw [o2 b hbn]; exact hb1
      refine ⟨⟨by simp, by simp⟩, ?_⟩
      conv => whnf
      refine ⟨.int .u8 c, mcell_of hb2 (hat 0 c rfl), rfl, ?_⟩
      conv => whnf
      rw [hcw]
      refine xcall (take_spec (n := c.toNat) h2 (by omega)) ?_
      rintro _ m3 ⟨v3, rfl, hv3, h3, o3⟩
      conv => whnf
      rw [hr2] at hv3 h3
      simp only at hv3 h3
      obtain ⟨a3, c3, rfl⟩ := hv3.1.shape
      conv => whnf
      refine ⟨fun _ => ?_, fun h => absurd h (by decide)⟩
      conv => whnf
      refine xcall (must_spec (is := true) h3) ?_
      rintro _ m4 ⟨rfl, h4, o4⟩
      conv => whnf
      refine .mk (ι := Unit) (fun _ => 0) (fun _ mm => mm = m4) (fun _ => [(0, .c (ptrV bp)), (5, .c (u64 0)), (36, .c (.v (.slice a3 0 c3))), (37, .c (i64 0)), (38, .c (i64 0))]) (fun _ => []) () rfl ?_ ?_
      · conv => whnf
        repeat (refine And.intro (by first | with_reducible rfl | exact congrArg (Value.int _) (wi (by omega) (by omega)) | exact wi (by omega) (by omega) | rfl) ?_; conv => whnf)
        first | exact trivial | exact fun _ _ h => h
      rintro _ _ rfl
      conv => whnf
      refine ⟨fun h => absurd h (by decide), fun _ => ?_⟩
      conv => whnf
      have h4' := h4
      obtain ⟨v4, hb4, _⟩ := h4'
      refine ⟨_, mcell_of hb4 rfl, rfl, ?_⟩
      conv => whnf
      have fin : rNum s = (0, rMust true s3) := by rw [e]; simp [beN]
      rw [fin]
      refine ⟨fun h5 => ?_, fun h5 => ?_⟩
      · conv => whnf
        exact ⟨rfl, h4, ((o1.trans o2).trans o3).trans o4⟩
      · conv => whnf
        exact ⟨rfl, h4, ((o1.trans o2).trans o3).trans o4⟩
    · refine en23 rfl (goY ?_)
      conv => whnf
      refine xcall (take_spec (n := 1) h (by omega)) ?_
      rintro _ m1 ⟨v1, rfl, hv1, h1, o1⟩
      conv => whnf
      rw [hr1] at hv1 h1
      simp only at hv1 h1
      obtain ⟨b, o, cc, arr, t, fr, rfl, hbn, hb1, hat⟩ := hv1.head (by simp)
      conv => whnf
      refine ⟨fun h => absurd h (by simp), fun _ => ?_⟩
      conv => whnf
      refine ⟨⟨by simp, by simp⟩, ?_⟩
      conv => whnf
      refine ⟨.int .u8 c, mcell_of hb1 (hat 0 c rfl), rfl, ?_⟩
      conv => whnf
      refine xcall (must_spec (is := decide (c ≤ 8)) h1) ?_
      rintro _ m2 ⟨rfl, h2, o2⟩
      conv => whnf
      have hb2 : m2 b = some (.cells arr t fr) := by rw [o2 b hbn]; exact hb1
      refine ⟨⟨by simp, by simp⟩, ?_⟩
      conv => whnf
      refine ⟨.int .u8 c, mcell_of hb2 (hat 0 c rfl), rfl, ?_⟩
      conv => whnf
      rw [hcw]
      refine xcall (take_spec (n := c.toNat) h2 (by omega)) ?_
      rintro _ m3 ⟨v3, rfl, hv3, h3, o3⟩
      conv => whnf
      rw [hr2] at hv3 h3
      simp only at hv3 h3
      obtain ⟨b3, o3', cc3, arr3, t3, fr3, rfl, hbn3, hb3, hat3⟩ := hv3.head (by simp)
      conv => whnf
      refine ⟨fun h => absurd h (by simp; omega), fun _ => ?_⟩
      conv => whnf
      refine ⟨⟨by simp, by simp⟩, ?_⟩
      conv => whnf
      refine ⟨.int .u8 x, mcell_of hb3 (hat3 0 x rfl), rfl, ?_⟩
      conv => whnf
      refine xcall (must_spec (is := decide (0 < x)) h3) ?_
      rintro _ m4 ⟨rfl, h4, o4⟩
      conv => whnf
      have e4 : rMust ((x :: l').isEmpty || decide (0 < hd0 (x :: l'))) s3 = rMust (decide (0 < x)) s3 := rfl
      rw [e4] at e
      have hv4 := hv3.only o4
      refine .mk (ι := Nat) (fun i => (x :: l').length - i) (fun i mm => m4 = mm ∧ i ≤ (x :: l').length) (fun i => [(0, .c (ptrV bp)), (5, .c (u64 (beN ((x :: l').take i)))), (36, .c (.v (.slice (some ⟨b3, o3', none⟩) (x :: l').length cc3))), (37, .c (i64 (x :: l').length)), (38, .c (i64 i))]) (fun _ => []) 0 ⟨rfl, by simp⟩ ?_ ?_
      · conv => whnf
        repeat (refine And.intro (by first | with_reducible rfl | exact congrArg (Value.int _) (wi (by omega) (by omega)) | exact wi (by omega) (by omega) | rfl) ?_; conv => whnf)
        first | exact trivial | exact fun _ _ h => h
      rintro i _ ⟨rfl, hi⟩
      conv => whnf
      refine ⟨fun h5 => ?_, fun h5 => ?_⟩
      · have h5' := of_decide_eq_true h5
        have hlt : i < (x :: l').length := by omega
        conv => whnf
        repeat (refine And.intro (by first | omega | (simp only [times]; omega)) ?_; conv => whnf)
        have hb4' : m4 b3 = some (.cells arr3 t3 fr3) := by rw [o4 b3 hbn3]; exact hb3
        refine ⟨.int .u8 (x :: l')[i], mcell_of hb4' (hat3 i _ (by simp)), rfl, ?_⟩
        conv => whnf
        refine ⟨i + 1, ⟨rfl, by omega⟩, by omega, ?_⟩
        have hbt := beN_bound (ht2.1.take i)
        have hpw : (256 : Nat) ^ ((x :: l').take i).length ≤ 256 ^ 7 := Nat.pow_le_pow_right (by decide) (by rw [List.length_take]; omega)
        have hpe : ((256 ^ ((x :: l').take i).length : Nat) : Int) = (256 : Int) ^ ((x :: l').take i).length := by simp
        have hx := ht2.1 (x :: l')[i] (by simp)
        have hst : bitsOf .or .u64 (shlOf .u64 (beN ((x :: l').take i)) 8) (IntKind.u64.wrap (x :: l')[i]) = beN ((x :: l').take (i + 1)) := by
          rw [shl8or hbt.1 (by omega) hx, List.take_succ_eq_append_getElem hlt, beN_snoc]
        conv => whnf
        repeat (refine And.intro (by first | with_reducible rfl | (first | exact congrArg (Value.int _) (iadd (by omega)) | exact congrArg (Value.int _) hst) | exact congrArg (Value.int _) (wi (by omega) (by omega)) | exact wi (by omega) (by omega) | rfl) ?_; conv => whnf)
        first | exact trivial | exact fun _ _ h => h
      · have h5' := of_decide_eq_false h5
        obtain rfl : i = (x :: l').length := by omega
        conv => whnf
        have h4' := h4
        obtain ⟨v4, hb4, _⟩ := h4'
        refine ⟨_, mcell_of hb4 rfl, rfl, ?_⟩
        conv => whnf
        rw [e]
        refine ⟨fun h6 => ?_, fun h6 => ?_⟩
        · have h6' : (rMust (decide (0 < x)) s3).2 ≠ 0 := by simpa using h6
          conv => whnf
          rw [if_pos h6']
          exact ⟨rfl, h4, ((o1.trans o2).trans o3).trans o4⟩
        · have h6' : (rMust (decide (0 < x)) s3).2 = 0 := by simpa using h6
          conv => whnf
          rw [if_neg (by simp [h6']), List.take_length]
          exact ⟨rfl, h4, ((o1.trans o2).trans o3).trans o4⟩
  · simp at hl1
theorem rNum_U {s : RS} (h : Byt s.1) : U64 (rNum s).1 := by
  have z : U64 0 := ⟨by decide, by decide⟩
  unfold rNum
  rcases hr : rTake 1 s with ⟨hd, s1⟩
  have b1 := rTake_byt (n := 1) h
  rw [hr] at b1
  dsimp only
  split
  · exact z
  · rcases hr2 : rTake (hd0 hd).toNat (rMust (decide (hd0 hd ≤ 8)) s1) with ⟨l, s3⟩
    have b2 := rTake_byt (n := (hd0 hd).toNat) (rMust_byt (b := decide (hd0 hd ≤ 8)) b1.2)
    have l2 := rTake_len (n := (hd0 hd).toNat) (s := rMust (decide (hd0 hd ≤ 8)) s1)
    rw [hr2] at b2 l2
    dsimp only
    split
    · exact z
    · refine beN_U b2.1 ?_
      by_cases h8 : hd0 hd ≤ 8
      · exact Nat.le_trans l2 (by omega)
      · have : (rMust (decide (hd0 hd ≤ 8)) s1).2 ≠ 0 := by
          unfold rMust; split
          · simp
          · rename_i h; simp [h8] at h; exact h
        rw [rTake, if_pos this] at hr2
        cases hr2
        simp
theorem Rd.byt {m : Mem} {bp : Nat} {s : RS} (h : Rd m bp s) : Byt s.1 := by obtain ⟨v, _, _, _, h, _⟩ := h; exact h
theorem small_spec {m : Mem} {bp : Nat} {s : RS} {most : Int} (h : Rd m bp s) (hm : I64 most) :
    Spec Try.prog 19 [ptrV bp, i64 most] m fun r m' => r = [i64 (rSmall most s).1] ∧ Rd m' bp (rSmall most s).2 ∧ Only m m' bp := by
  have hU := rNum_U h.byt
  have hU0 := hU.1
  have hU1 := hU.2
  have hm0 := hm.1
  have hm1 := hm.2
  rcases hr : rNum s with ⟨n, s1⟩
  rw [hr] at hU0 hU1
  simp only at hU0 hU1
  have key : ∀ is : Bool, is = (decide (0 ≤ most) && decide (n ≤ max most 0)) → rSmall most s = (if (rMust is s1).2 ≠ 0 then 0 else n, rMust is s1) := by
    rintro is rfl; simp only [rSmall, hr]
  refine en19 rfl (goY ?_)
  conv => whnf
  refine xcall (num_spec h) ?_
  rintro _ m1 ⟨rfl, h1, o1⟩
  conv => whnf
  rw [hr] at h1
  simp only [hr] at h1
  refine ⟨fun h2 => ?_, fun h2 => ?_⟩
  · have h2' := of_decide_eq_true h2
    conv => whnf
    have k := key (decide (n ≤ max most 0)) (by simp [h2'])
    rw [hr]
    have ew : IntKind.u64.wrap (max most 0) = max most 0 := wu (by omega) (by omega)
    rw [ew]
    refine xcall (must_spec (is := decide (n ≤ max most 0)) h1) ?_
    rintro _ m3 ⟨rfl, h3, o3⟩
    conv => whnf
    first | refine xretk (err_spec h3) ?_ | refine xret (err_spec h3) ?_
    conv => whnf
    rw [k]
    refine ⟨fun h4 => ?_, fun h4 => ?_⟩
    · have h4' : (rMust (decide (n ≤ max most 0)) s1).2 ≠ 0 := by simpa using h4
      conv => whnf
      rw [if_pos h4']
      exact ⟨rfl, h3, o1.trans o3⟩
    · have h4' : (rMust (decide (n ≤ max most 0)) s1).2 = 0 := by simpa using h4
      conv => whnf
      have hle : n ≤ max most 0 := by
        unfold rMust at h4'
        split at h4'
        · simp at h4'
        · rename_i hh; simp [h4'] at hh; omega
      rw [if_neg (by simp [h4']), wi (by omega) (by omega)]
      exact ⟨rfl, h3, o1.trans o3⟩
  · have h2' := of_decide_eq_false h2
    conv => whnf
    have k := key false (by simp [h2'])
    refine xcall (must_spec (is := false) h1) ?_
    rintro _ m3 ⟨rfl, h3, o3⟩
    conv => whnf
    first | refine xretk (err_spec h3) ?_ | refine xret (err_spec h3) ?_
    conv => whnf
    rw [k]
    have hne : (rMust false s1).2 ≠ 0 := by
      unfold rMust; split
      · simp
      · rename_i hh; simpa using hh
    refine ⟨fun h4 => ?_, fun h4 => ?_⟩
    · conv => whnf
      rw [if_pos hne]
      exact ⟨rfl, h3, o1.trans o3⟩
    · exact absurd h4 (by simpa using hne)
theorem shr1 {n : Int} (h : U64 n) : shrOf .u64 n 1 = n / 2 := by
  show n.fdiv 2 = _
  rw [Int.fdiv_eq_ediv_of_nonneg _ (by decide)]
theorem and1 {n : Int} (h : U64 n) : bitsOf .and .u64 n 1 = n % 2 := by
  obtain ⟨k, rfl⟩ := Int.eq_ofNat_of_zero_le h.1
  have := h.2
  have e := and_u64 (a := k) (b := 1) (by omega) (by omega)
  refine e.trans ?_
  rw [Nat.and_one_is_mod]; rfl
theorem rMust_zero {b : Bool} {s : RS} (h : (rMust b s).2 = 0) : s.2 = 0 ∧ b = true := by
  unfold rMust at h
  split at h
  · simp at h
  · rename_i hh
    refine ⟨h, ?_⟩
    cases b with
    | true => rfl
    | false => exact absurd ⟨h, rfl⟩ hh
theorem rSmall_nat {most : Int} {s : RS} (h : Byt s.1) (hm : I64 most) : 0 ≤ (rSmall most s).1 ∧ (rSmall most s).1 ≤ max most 0 := by
  have hU := rNum_U h
  rcases hr : rNum s with ⟨n, s1⟩
  rw [hr] at hU
  have hU0 : 0 ≤ n := hU.1
  simp only [rSmall, hr]
  split
  · omega
  · rename_i hh
    have := (rMust_zero (by simpa using hh)).2
    simp at this
    omega
theorem rTake_big {n : Nat} {s : RS} (h : 1000000000 ≤ n) (hl : s.1.length ≤ 100000000) : rTake n s = ([], if s.2 ≠ 0 then s else (s.1, 8)) := by
  unfold rTake
  split
  · rfl
  · rw [if_pos (by omega)]
theorem Rd.mono {m m' : Mem} {bp : Nat} {s : RS} (h : Rd m bp s) (hs : Sub m m') : Rd m' bp s := by
  obtain ⟨v, h1, h2, h3⟩ := h
  exact ⟨v, hs _ _ h1, h2.sub hs, h3⟩
theorem Rd.other {m : Mem} {bp b : Nat} {s : RS} {o : Obj} (h : Rd m bp s) (hb : b ≠ bp) (hv : ∀ v t, m bp = some (.cells #[.bool true, v, .int .i64 s.2] t) → blkV v ≠ some b) : Rd (m.set b o) bp s := by
  obtain ⟨v, h1, h2, h3⟩ := h
  exact ⟨v, by rw [Mem.set_ne _ _ (Ne.symm hb)]; exact h1, Lies.setOther h2 (hv v _ h1), h3⟩
theorem rTake_32 {s : RS} : (rTake 32 s).1 = [] ∨ (rTake 32 s).1.length = 32 := by
  unfold rTake; split
  · exact .inl rfl
  · split
    · exact .inl rfl
    · exact .inr (by simp; omega)
theorem rNums_len : ∀ (k : Nat) (s : RS), (rNums k s).1.length = k
  | 0, _ => rfl
  | k + 1, s => by simp [rNums, rNums_len k s]
theorem rNums_set {k : Nat} {s : RS} (h : k < 8) : ((rNums k s).1 ++ List.replicate (8 - k) 0).set k (rNum (rNums k s).2).1 = (rNums (k + 1) s).1 ++ List.replicate (8 - (k + 1)) 0 := by
  have hl := rNums_len k s
  rw [List.set_append_right _ _ (by omega), hl, Nat.sub_self]
  obtain ⟨j, hj⟩ : ∃ j, 8 - k = j + 1 := ⟨8 - k - 1, by omega⟩
  rw [hj, List.replicate_succ, List.set_cons_zero, show 8 - (k + 1) = j by omega]
  simp [rNums]
end Go.E.Ytkapdbbjgpofnaa