/-
  Sn25, Door
-/
import Derived.Test.YtgjlajcebcmbaaaGreatDoorSnapLivesZ13
import Derived.Test.YtgjlajcebcmbaaaGreatDoorCards
import Derived.Lay
import Derived.OpenShut
import Derived.LaidLaws
import Derived.MakeChecks
/-
  The law of lives.
-/
namespace Go.E.YtgjlajcebcmbaaaGreatDoor
open Go.Proofs
set_option maxRecDepth 100000
/-- what the saves under way are, both ways -/
structure Sav (old m : Mem) (bf bx : Nat) (vs vy : Value) : Prop where
  ex : ∃ bs bY n st l v pv s, vs = .pointer (some ⟨bs, 0, none⟩) ∧ vy = .pointer (some ⟨bY, 0, none⟩) ∧ Split old [blk1 bs (saveO bf (n : Nat) v st), pv, blk1 bY (rsvO bx (n : Nat) s (st : Nat))] ∧ Bs pv v (nc l) ∧ chs s = l ∧ l.length ≤ 3000 ∧ (∀ x ∈ l, x < 256) ∧ 1 ≤ n ∧ n ≤ 999999 ∧ st ≤ 4
structure Rdd (mm m : Mem) (q : Int) (bf bx i : Nat) (vs vy : Value) (beg : Bool) : Prop where
  ex : ∃ pf px old nb ns A L, Split mm [pf, px, old, m] ∧ Both pf px bf bx q (6 * i) nb ns A L ∧ (beg = true → Sav old m bf bx vs vy)
theorem split_col2 {mm a b : Mem} {l : List Mem} (h : Split mm (a :: b :: l)) : ∃ J, Split mm (J :: l) ∧ Split J [a, b] := ⟨joinM a b, h.pair, (Split.one (joinM a b)).unpair h.dj⟩
theorem split_und0 {m J : Mem} {l k : List Mem} (h : Split m (J :: l)) (hJ : Split J k) : Split m (k ++ l) := by
  have h1 : Split m (l ++ [J]) := h.perm (List.perm_append_comm (l₁ := [J]) (l₂ := l))
  exact (h1.under hJ).perm List.perm_append_comm
theorem split_col3 {mm a b c : Mem} {l : List Mem} (h : Split mm (a :: b :: c :: l)) : ∃ J, Split mm (J :: l) ∧ Split J [a, b, c] := by
  obtain ⟨J1, h1, e1⟩ := split_col2 h
  obtain ⟨J, h2, e2⟩ := split_col2 h1
  exact ⟨J, h2, split_und0 e2 e1⟩
theorem split_col4 {mm a b c d : Mem} {l : List Mem} (h : Split mm (a :: b :: c :: d :: l)) : ∃ J, Split mm (J :: l) ∧ Split J [a, b, c, d] := by
  obtain ⟨J1, h1, e1⟩ := split_col3 h
  obtain ⟨J, h2, e2⟩ := split_col2 h1
  exact ⟨J, h2, split_und0 e2 e1⟩
set_option maxHeartbeats 8000000 in
theorem snapLives_spec {m : Mem} {v : Value} {q : Int} {O : List Sop} (hg : Glob m) (hq : q ≤ 9223372036854775807) (hv : Pa m v O) (hO : ∀ o ∈ O, o.Ok m) (hl : O.length ≤ 9223372036854775807) :
    Spec Tryz.prog 6 [i64 q, .v v] m fun r m' => r = [boolV true] ∧ Sub m m' := by
  have al : ∀ {m1 : Mem}, Sub m m1 → Spec Tryz.prog 7 [] m1 fun r m' => r = [boolV true] ∧ Sub m1 m' := fun hs => alive17_spec (hg.sub hs)
  obtain ⟨a, c, rfl⟩ := hv.shape
  refine en6 rfl (goY ?_)
  conv => whnf
  by_cases h0 : q < 0
  · first | refine xretk (new_neg h0) ?_ | refine xret (new_neg h0) ?_
    conv => whnf
    refine ⟨fun _ => ?_, fun h => absurd h (by first | decide | simp)⟩
    conv => whnf
    refine xcall (alive17_spec hg) ?_
    rintro _ m1 ⟨rfl, hs⟩
    conv => whnf
    refine ⟨fun _ => ?_, fun h => absurd h (by first | decide | simp)⟩
    conv => whnf
    refine ⟨fun _ => ?_, fun h => absurd h (by (simp [h0]))⟩
    conv => whnf
    exact ⟨rfl, hs⟩
  have h0 : 0 ≤ q := by omega
  refine xcall (new_spec h0) ?_
  rintro _ m0 ⟨bf, p, rfl, hs, h⟩
  conv => whnf
  refine ⟨fun h => absurd h (by first | decide | simp), fun _ => ?_⟩
  conv => whnf
  refine ⟨fun h => absurd h (by first | decide | simp), fun _ => ?_⟩
  conv => whnf
  intro bx hbx
  conv => whnf
  have hs := hs.new hbx (refO q (.slice none 0 0) 0 0)
  have hs := hs.perm (List.Perm.swap _ _ _)
  have hx0 : FR (blk1 bx (refO q (.slice none 0 0) 0 0)) bx q 0 0 [] := ⟨_, emp, (Split.one _).addEmp.perm (List.Perm.swap _ _ _), Ro.nil _⟩
  intro bz hbz
  conv => whnf
  have hs := (hs.new hbz saveZ).drop
  intro by0 hby0
  conv => whnf
  have hs := (hs.new hby0 (.cells #[.pointer none, .int .i64 0, .string ByteArray.empty, .int .i64 0] 64)).drop
  have hs : Split _ [p, blk1 bx (refO q (.slice none 0 0) 0 0), emp, m] := hs.addEmp.perm (by
    refine (List.Perm.swap _ _ _).trans (List.Perm.cons _ ?_)
    exact List.Perm.swap _ _ _)
  refine .mk (ι := Nat × Value × Value × Bool) (fun s => 40 - s.1) (fun s mm => s.1 ≤ O.length ∧ s.1 ≤ 40 ∧ Rdd mm m q bf bx s.1 s.2.1 s.2.2.1 s.2.2.2)
    (fun s => [(1, .c (.v (.slice a O.length c))), (5, .c (ptrB bf)), (7, .c (ptrB bx)), (8, .c (.v s.2.1)), (9, .c (.v s.2.2.1)), (10, .c (boolV s.2.2.2)), (11, .c (i64 s.1))]) (fun _ => []) (0, .pointer (some ⟨bz, 0, none⟩), .pointer (some ⟨by0, 0, none⟩), false) ⟨by simp, by simp, ⟨p, _, emp, 0, 0, [], [], hs, ⟨h, hx0, .nil, .none⟩, by simp⟩⟩ ?_ ?_
  · conv => whnf
    repeat (refine And.intro (by first | with_reducible rfl | exact congrArg (Value.int _) (wi (by omega) (by omega)) | exact wi (by omega) (by omega) | rfl) ?_; conv => whnf)
    first | exact trivial | exact fun _ _ h => h
  rintro ⟨i, vs, vy, beg⟩ mm ⟨hi, hi40, ⟨pf, px, old, nb, ns, A, L, hs, hB, hsv⟩⟩
  simp only at hi hi40 hs hB hsv
  have hsm : Sub m mm := hs.sub (by simp)
  conv => whnf
  refine ⟨fun h1 => ?_, fun h1 => ?_⟩
  rotate_left
  · conv => whnf
    refine xcall (al hsm) ?_
    rintro _ m2 ⟨rfl, hs2⟩
    conv => whnf
    refine ⟨fun _ => ?_, fun h => absurd h (by first | decide | simp)⟩
    conv => whnf
    refine xcall (nobody17_spec) ?_
    rintro _ m3 ⟨rfl, hs3⟩
    conv => whnf
    exact ⟨rfl, (hsm.trans hs2).trans hs3⟩
  have hi1 : i < O.length := by have := of_decide_eq_true h1; omega
  clear h1
  conv => whnf
  refine ⟨fun h1 => ?_, fun h1 => ?_⟩
  rotate_left
  · conv => whnf
    refine xcall (al hsm) ?_
    rintro _ m2 ⟨rfl, hs2⟩
    conv => whnf
    refine ⟨fun _ => ?_, fun h => absurd h (by first | decide | simp)⟩
    conv => whnf
    refine xcall (nobody17_spec) ?_
    rintro _ m3 ⟨rfl, hs3⟩
    conv => whnf
    exact ⟨rfl, (hsm.trans hs2).trans hs3⟩
  have hi2 : i < 40 := by have := of_decide_eq_true h1; omega
  clear h1
  conv => whnf
  obtain ⟨b, o, c', e, hgo⟩ := hv.real hi1
  cases e
  have hgi := hgo i hi1
  have hoi := hO O[i] (List.getElem_mem hi1)
  generalize ho : O[i] = op at hgi hoi
  repeat (refine And.intro (by first | omega | (simp only [times]; omega)) ?_; conv => whnf)
  refine ⟨sopS op.k op.n op.vv op.o, ⟨rfl, rfl, rfl, rfl, rfl, rfl, rfl, rfl, rfl, trivial⟩, rfl, by simp only [times, Int.toNat_natCast]; exact hgi.sub hsm, ?_⟩
  conv => whnf
  refine xcall (great17_spec (k := op.k) (n := op.n) (v := op.vv) (o := op.o) (hoi.v.sub hsm) (hoi.sub hsm).o) ?_
  rintro _ m1 ⟨gr, rfl, hs1, hsmall⟩
  conv => whnf
  have hs := Split.grow hs hs1
  have hsm := hsm.trans hs1
  cases gr with
  | true =>
    refine ⟨fun _ => ?_, fun h => absurd h (by first | decide | simp)⟩
    conv => whnf
    refine xcall (al hsm) ?_
    rintro _ m2 ⟨rfl, hs2⟩
    conv => whnf
    exact ⟨rfl, hsm.trans hs2⟩
  | false =>
  refine ⟨fun h => absurd h (by first | decide | simp), fun _ => ?_⟩
  conv => whnf
  have hsmall := hsmall rfl
  refine ⟨fun h1 => ?_, fun h1 => ?_⟩
  · clear h1
    conv => whnf
    have hsp := sml_sz hsmall.1
    have hl5 : op.ps.length ≤ 50 := by have := sml_len hsmall.1; omega
    have hnI := hoi.nI
    obtain ⟨z1, z2, z3, z4, z5⟩ := hB.lk.sizes hB.sm hB.f.safe
    obtain ⟨vx, hrm⟩ := hB.x.rm
    have same : ∀ {my : Mem}, Sub m1 my → ∃ hq : Split my [pf, px, old, m], Sub m my := fun h => ⟨hs.grow h, hsm.trans h⟩
    have rb : ∀ {my : Mem}, Sub m1 my → _ := fun {my} h => refBegin_spec (n := op.n) (v := op.vv) (hrm.sub ((same h).1.sub (a := px) (by simp))) hB.lk z1 hnI (hoi.v.sub (hsm.trans h)) hoi.byt hl5 hsp
    by_cases hmay : mayN A op.n = false
    · have rb' : ∀ {my : Mem}, Sub m1 my → Spec Tryz.prog 20 [ptrB bx, i64 op.n, .v op.vv] my fun r m' => r = [nilP, i64 1] ∧ Sub my m' := fun h => (rb h).mono fun r m' hr => by rw [if_pos hmay] at hr; exact hr
      refine xcall (begin_bad (n := op.n) (v := op.vv) (hg.sub hsm) (hB.f.grow (hs.sub (a := pf) (by simp))) hB.sm hB.lk.nms hmay) ?_
      rintro _ m8 ⟨rfl, hs8⟩
      conv => whnf
      refine xcall (rb' hs8) ?_
      rintro _ m9 ⟨rfl, hs9⟩
      conv => whnf
      refine ⟨fun _ => ?_, fun h => absurd h (by first | decide | simp)⟩
      conv => whnf
      refine ⟨fun h => absurd h (by first | decide | simp), fun _ => ?_⟩
      conv => whnf
      have hsQ : Split m9 [pf, px, old, m] := (hs.grow hs8).grow hs9
      have hBQ : Both pf px bf bx q (6 * (i + 1)) nb ns A L := ⟨hB.f, hB.x, hB.lk, hB.sm.up (j := 6) (by omega)⟩
      have hsvQ := hsv
      have hs := hsQ
      obtain ⟨z1, z2, z3, z4, z5⟩ := hBQ.lk.sizes hBQ.sm hBQ.f.safe
      obtain ⟨vx, hrm⟩ := hBQ.x.rm
      refine .at ?_
      conv => whnf
      refine xcall (numbers_A (hg.sub (hs.sub (a := m) (by simp))) (hBQ.f.grow (hs.sub (by simp))) hBQ.sm hBQ.lk.nms) ?_
      rintro _ m5 ⟨vn, pn, rfl, hsn, hvn⟩
      conv => whnf
      have hs := hsn.under (a := [pn]) hs
      refine xcall (refNumbers_spec (hrm.sub (hs.sub (by simp))) z1 hBQ.lk.n) ?_
      rintro _ m6 ⟨vr, pr, rfl, hsr, hvr⟩
      conv => whnf
      have hs := hsr.under (a := [pr]) hs
      rw [hBQ.lk.nums] at hvr
      have hs : Split m6 [pr, pn, pf, px, old, m] := hs
      obtain ⟨an, cn, rfl⟩ := hvn.il.shape
      obtain ⟨ar, cr, rfl⟩ := hvr.il.shape
      have hlN : (nc (numsA A)).length = (numsA A).length := nc_len _
      rw [hlN]
      refine ⟨fun h => absurd h (by first | decide | simp), fun _ => ?_⟩
      conv => whnf
      try (refine ⟨fun h => absurd h (by first | decide | simp), fun _ => ?_⟩; conv => whnf)
      refine xcall (sameF_spec (hBQ.f.grow (hs.sub (a := pf) (by simp))) (hrm.sub (hs.sub (a := px) (by simp))) hBQ.lk hBQ.sm) ?_
      rintro _ m7 ⟨rfl, hs7⟩
      conv => whnf
      refine ⟨fun h => absurd h (by first | decide | simp), fun _ => ?_⟩
      conv => whnf
      have hs := hs.grow hs7
      have hNN : (numsA A).length ≤ 10000 := by have h1 := numsA_len A; have h2 := hBQ.sm.n; omega
      generalize numsA A = NN at *
      refine .mk (ι := Nat) (fun j => NN.length - j) (fun j mm => j ≤ NN.length ∧ mm = m7) (fun j => [(1, .c (.v (.slice (some ⟨b, o, none⟩) O.length c))), (5, .c (ptrB bf)), (7, .c (ptrB bx)), (8, .c (.v vs)), (9, .c (.v vy)), (10, .c (boolV beg)), (11, .c (i64 i)), (28, .c (.v (.slice an NN.length cn))), (29, .c (.v (.slice ar NN.length cr))), (30, .c (i64 j))]) (fun _ => []) 0 ⟨by omega, rfl⟩ ?_ ?_
      · conv => whnf
        repeat (refine And.intro (by first | with_reducible rfl | exact congrArg (Value.int _) (wi (by omega) (by omega)) | exact wi (by omega) (by omega) | rfl) ?_; conv => whnf)
        first | exact trivial | exact fun _ _ h => h
      rintro j mj ⟨hj, rfl⟩
      conv => whnf
      refine ⟨fun hc => ?_, fun hc => ?_⟩
      · have hlt : j < NN.length := by have := of_decide_eq_true hc; omega
        clear hc
        obtain ⟨bn, on, cl, e1, hel⟩ := (hvn.il.sub (hs.sub (a := pn) (by simp))).real (i := j) (by omega)
        injection e1 with e1 e2 e3
        subst e1
        obtain ⟨br, or', cl', e1, her⟩ := (hvr.il.sub (hs.sub (a := pr) (by simp))).real (i := j) (by omega)
        injection e1 with e1 e2' e3'
        subst e1
        have hel := hel j (by omega)
        have her := her j (by omega)
        generalize (nc NN)[j]'(by omega) = x at *
        conv => whnf
        repeat (refine And.intro (by first | omega | (simp only [times]; omega)) ?_; conv => whnf)
        refine ⟨_, hel, rfl, ?_⟩
        conv => whnf
        repeat (refine And.intro (by first | omega | (simp only [times]; omega)) ?_; conv => whnf)
        refine ⟨_, her, rfl, ?_⟩
        conv => whnf
        refine ⟨fun h => absurd h (by first | decide | simp), fun _ => ?_⟩
        conv => whnf
        refine ⟨j + 1, ⟨by omega, rfl⟩, by first | omega | (simp only; omega), ?_⟩
        conv => whnf
        repeat (refine And.intro (by first | with_reducible rfl | (first | exact congrArg (Value.int _) (iadd1 (by omega))) | exact congrArg (Value.int _) (wi (by omega) (by omega)) | exact wi (by omega) (by omega) | rfl) ?_; conv => whnf)
        first | exact trivial | exact fun _ _ h => h
      · have hc' := of_decide_eq_false hc
        obtain rfl : j = NN.length := by omega
        conv => whnf
        refine ⟨(i + 1, vs, vy, beg), ⟨by simp only; omega, by simp only; omega, ⟨pf, px, old, nb, ns, A, L, hs.drop.drop, hBQ, hsvQ⟩⟩, by first | omega | (simp only; omega), ?_⟩
        conv => whnf
        repeat (refine And.intro (by first | with_reducible rfl | (first | exact congrArg (Value.int _) (iadd1 (by omega))) | exact congrArg (Value.int _) (wi (by omega) (by omega)) | exact wi (by omega) (by omega) | rfl) ?_; conv => whnf)
        first | exact trivial | exact fun _ _ h => h
    have hmt : mayN A op.n = true := by cases h : mayN A op.n with | true => rfl | false => exact absurd h hmay
    by_cases hall : allRec (op.ps.map (·.2)) = true
    rotate_left
    · have rb' : ∀ {my : Mem}, Sub m1 my → Spec Tryz.prog 20 [ptrB bx, i64 op.n, .v op.vv] my fun r m' => r = [nilP, i64 3] ∧ Sub my m' := fun h => (rb h).mono fun r m' hr => by rw [if_neg hmay, if_neg hall] at hr; exact hr
      have sb' : Spec Tryz.prog 16 [ptrB bf, i64 op.n, .v op.vv] m1 fun r m' => r = [nilP, i64 3] ∧ Sub m1 m' := (begin_ok (n := op.n) (v := op.vv) (hg.sub hsm) (hB.f.grow (hs.sub (a := pf) (by simp))) hB.sm hB.lk.nms hmt (hoi.v.sub hsm) hoi.byt hl5 hsp).mono fun r m' hr => by rw [if_neg hall] at hr; exact hr
      refine xcall (sb') ?_
      rintro _ m8 ⟨rfl, hs8⟩
      conv => whnf
      refine xcall (rb' hs8) ?_
      rintro _ m9 ⟨rfl, hs9⟩
      conv => whnf
      refine ⟨fun _ => ?_, fun h => absurd h (by first | decide | simp)⟩
      conv => whnf
      refine ⟨fun h => absurd h (by first | decide | simp), fun _ => ?_⟩
      conv => whnf
      have hsQ : Split m9 [pf, px, old, m] := (hs.grow hs8).grow hs9
      have hBQ : Both pf px bf bx q (6 * (i + 1)) nb ns A L := ⟨hB.f, hB.x, hB.lk, hB.sm.up (j := 6) (by omega)⟩
      have hsvQ := hsv
      have hs := hsQ
      obtain ⟨z1, z2, z3, z4, z5⟩ := hBQ.lk.sizes hBQ.sm hBQ.f.safe
      obtain ⟨vx, hrm⟩ := hBQ.x.rm
      refine .at ?_
      conv => whnf
      refine xcall (numbers_A (hg.sub (hs.sub (a := m) (by simp))) (hBQ.f.grow (hs.sub (by simp))) hBQ.sm hBQ.lk.nms) ?_
      rintro _ m5 ⟨vn, pn, rfl, hsn, hvn⟩
      conv => whnf
      have hs := hsn.under (a := [pn]) hs
      refine xcall (refNumbers_spec (hrm.sub (hs.sub (by simp))) z1 hBQ.lk.n) ?_
      rintro _ m6 ⟨vr, pr, rfl, hsr, hvr⟩
      conv => whnf
      have hs := hsr.under (a := [pr]) hs
      rw [hBQ.lk.nums] at hvr
      have hs : Split m6 [pr, pn, pf, px, old, m] := hs
      obtain ⟨an, cn, rfl⟩ := hvn.il.shape
      obtain ⟨ar, cr, rfl⟩ := hvr.il.shape
      have hlN : (nc (numsA A)).length = (numsA A).length := nc_len _
      rw [hlN]
      refine ⟨fun h => absurd h (by first | decide | simp), fun _ => ?_⟩
      conv => whnf
      try (refine ⟨fun h => absurd h (by first | decide | simp), fun _ => ?_⟩; conv => whnf)
      refine xcall (sameF_spec (hBQ.f.grow (hs.sub (a := pf) (by simp))) (hrm.sub (hs.sub (a := px) (by simp))) hBQ.lk hBQ.sm) ?_
      rintro _ m7 ⟨rfl, hs7⟩
      conv => whnf
      refine ⟨fun h => absurd h (by first | decide | simp), fun _ => ?_⟩
      conv => whnf
      have hs := hs.grow hs7
      have hNN : (numsA A).length ≤ 10000 := by have h1 := numsA_len A; have h2 := hBQ.sm.n; omega
      generalize numsA A = NN at *
      refine .mk (ι := Nat) (fun j => NN.length - j) (fun j mm => j ≤ NN.length ∧ mm = m7) (fun j => [(1, .c (.v (.slice (some ⟨b, o, none⟩) O.length c))), (5, .c (ptrB bf)), (7, .c (ptrB bx)), (8, .c (.v vs)), (9, .c (.v vy)), (10, .c (boolV beg)), (11, .c (i64 i)), (28, .c (.v (.slice an NN.length cn))), (29, .c (.v (.slice ar NN.length cr))), (30, .c (i64 j))]) (fun _ => []) 0 ⟨by omega, rfl⟩ ?_ ?_
      · conv => whnf
        repeat (refine And.intro (by first | with_reducible rfl | exact congrArg (Value.int _) (wi (by omega) (by omega)) | exact wi (by omega) (by omega) | rfl) ?_; conv => whnf)
        first | exact trivial | exact fun _ _ h => h
      rintro j mj ⟨hj, rfl⟩
      conv => whnf
      refine ⟨fun hc => ?_, fun hc => ?_⟩
      · have hlt : j < NN.length := by have := of_decide_eq_true hc; omega
        clear hc
        obtain ⟨bn, on, cl, e1, hel⟩ := (hvn.il.sub (hs.sub (a := pn) (by simp))).real (i := j) (by omega)
        injection e1 with e1 e2 e3
        subst e1
        obtain ⟨br, or', cl', e1, her⟩ := (hvr.il.sub (hs.sub (a := pr) (by simp))).real (i := j) (by omega)
        injection e1 with e1 e2' e3'
        subst e1
        have hel := hel j (by omega)
        have her := her j (by omega)
        generalize (nc NN)[j]'(by omega) = x at *
        conv => whnf
        repeat (refine And.intro (by first | omega | (simp only [times]; omega)) ?_; conv => whnf)
        refine ⟨_, hel, rfl, ?_⟩
        conv => whnf
        repeat (refine And.intro (by first | omega | (simp only [times]; omega)) ?_; conv => whnf)
        refine ⟨_, her, rfl, ?_⟩
        conv => whnf
        refine ⟨fun h => absurd h (by first | decide | simp), fun _ => ?_⟩
        conv => whnf
        refine ⟨j + 1, ⟨by omega, rfl⟩, by first | omega | (simp only; omega), ?_⟩
        conv => whnf
        repeat (refine And.intro (by first | with_reducible rfl | (first | exact congrArg (Value.int _) (iadd1 (by omega))) | exact congrArg (Value.int _) (wi (by omega) (by omega)) | exact wi (by omega) (by omega) | rfl) ?_; conv => whnf)
        first | exact trivial | exact fun _ _ h => h
      · have hc' := of_decide_eq_false hc
        obtain rfl : j = NN.length := by omega
        conv => whnf
        refine ⟨(i + 1, vs, vy, beg), ⟨by simp only; omega, by simp only; omega, ⟨pf, px, old, nb, ns, A, L, hs.drop.drop, hBQ, hsvQ⟩⟩, by first | omega | (simp only; omega), ?_⟩
        conv => whnf
        repeat (refine And.intro (by first | with_reducible rfl | (first | exact congrArg (Value.int _) (iadd1 (by omega))) | exact congrArg (Value.int _) (wi (by omega) (by omega)) | exact wi (by omega) (by omega) | rfl) ?_; conv => whnf)
        first | exact trivial | exact fun _ _ h => h
    have rb' : ∀ {my : Mem}, Sub m1 my → Spec Tryz.prog 20 [ptrB bx, i64 op.n, .v op.vv] my fun r m' => ∃ bs, r = [ptrB bs, i64 0] ∧ Split m' [blk1 bs (rsvO bx op.n (strOf (Fr.cat (op.ps.map (·.2)))) 1), my] := fun h => (rb h).mono fun r m' hr => by rw [if_neg hmay, if_pos hall] at hr; exact hr
    have sb' : Spec Tryz.prog 16 [ptrB bf, i64 op.n, .v op.vv] m1 fun r m' => ∃ bs v' pv, r = [ptrB bs, i64 0] ∧ Split m' [blk1 bs (saveO bf op.n v' 1), pv, m1] ∧ Bs pv v' (Fr.cat (op.ps.map (·.2))) := (begin_ok (n := op.n) (v := op.vv) (hg.sub hsm) (hB.f.grow (hs.sub (a := pf) (by simp))) hB.sm hB.lk.nms hmt (hoi.v.sub hsm) hoi.byt hl5 hsp).mono fun r m' hr => by rw [if_pos hall] at hr; exact hr
    refine xcall (sb') ?_
    rintro _ m8 ⟨bs, vw, pv, rfl, hs8, hvw⟩
    conv => whnf
    refine xcall (rb' (hs8.sub (by simp))) ?_
    rintro _ m9 ⟨bY, rfl, hs9⟩
    conv => whnf
    have hnum : 1 ≤ op.n ∧ op.n ≤ 999999 := by simp only [mayN, isNum, Bool.and_eq_true, decide_eq_true_eq] at hmt; exact hmt.1
    obtain ⟨nn, hnn⟩ : ∃ nn : Nat, op.n = nn := ⟨op.n.toNat, by omega⟩
    have hbyt : Byt (Fr.cat (op.ps.map (·.2))) := Fr.cat_byt fun r hr => by obtain ⟨x, hx, rfl⟩ := List.mem_map.1 hr; exact hoi.byt x hx
    have hlen3 : (Fr.cat (op.ps.map (·.2))).length ≤ 3000 := by
      have := cat_small (l := op.ps.map (·.2)) fun r hr => by obtain ⟨x, hx, rfl⟩ := List.mem_map.1 hr; exact sml_rec hsmall.1 hall x hx
      have h5 := sml_len hsmall.1
      rw [List.length_map] at this
      omega
    have hs91 : Split m9 [blk1 bY (rsvO bx op.n (strOf (Fr.cat (op.ps.map (·.2)))) 1), blk1 bs (saveO bf op.n vw 1), pv, m1] := hs9.under (a := [_]) hs8
    have hs92 : Split m9 [blk1 bY (rsvO bx op.n (strOf (Fr.cat (op.ps.map (·.2)))) 1), blk1 bs (saveO bf op.n vw 1), pv, pf, px, old, m] := hs91.under (a := [_, _, _]) hs
    obtain ⟨J, hs93, hJ⟩ := split_col3 (hs92.perm (l' := [blk1 bs (saveO bf op.n vw 1), pv, blk1 bY (rsvO bx op.n (strOf (Fr.cat (op.ps.map (·.2)))) 1), pf, px, old, m]) (by classical exact List.perm_iff_count.2 fun x => by simp only [List.cons_append, List.nil_append, List.count_cons, List.count_nil]; ac_rfl))
    rw [hnn] at hJ
    have hsQ : Split m9 [pf, px, J, m] := (hs93.perm (l' := [old, pf, px, J, m]) (by classical exact List.perm_iff_count.2 fun x => by simp only [List.cons_append, List.nil_append, List.count_cons, List.count_nil]; ac_rfl)).drop
    have hBQ : Both pf px bf bx q (6 * (i + 1)) nb ns A L := ⟨hB.f, hB.x, hB.lk, hB.sm.up (j := 6) (by omega)⟩
    have hsvQ : true = true → Sav J m bf bx (.pointer (some ⟨bs, 0, none⟩)) (.pointer (some ⟨bY, 0, none⟩)) := fun _ => ⟨bs, bY, nn, 1, toN (Fr.cat (op.ps.map (·.2))), vw, pv, _, rfl, rfl, hJ, by rw [nc_toN hbyt]; exact hvw, by rw [← nc_toN hbyt, chs_str (toN_byt hbyt), nc_toN hbyt], by rw [toN_len]; exact hlen3, toN_byt hbyt, by omega, by omega, by omega⟩
    refine ⟨fun _ => ?_, fun h => absurd h (by first | decide | simp)⟩
    conv => whnf
    refine ⟨fun _ => ?_, fun h => absurd h (by first | decide | simp)⟩
    conv => whnf
    have hs := hsQ
    obtain ⟨z1, z2, z3, z4, z5⟩ := hBQ.lk.sizes hBQ.sm hBQ.f.safe
    obtain ⟨vx, hrm⟩ := hBQ.x.rm
    refine .at ?_
    conv => whnf
    refine xcall (numbers_A (hg.sub (hs.sub (a := m) (by simp))) (hBQ.f.grow (hs.sub (by simp))) hBQ.sm hBQ.lk.nms) ?_
    rintro _ m5 ⟨vn, pn, rfl, hsn, hvn⟩
    conv => whnf
    have hs := hsn.under (a := [pn]) hs
    refine xcall (refNumbers_spec (hrm.sub (hs.sub (by simp))) z1 hBQ.lk.n) ?_
    rintro _ m6 ⟨vr, pr, rfl, hsr, hvr⟩
    conv => whnf
    have hs := hsr.under (a := [pr]) hs
    rw [hBQ.lk.nums] at hvr
    have hs : Split m6 [pr, pn, pf, px, J, m] := hs
    obtain ⟨an, cn, rfl⟩ := hvn.il.shape
    obtain ⟨ar, cr, rfl⟩ := hvr.il.shape
    have hlN : (nc (numsA A)).length = (numsA A).length := nc_len _
    rw [hlN]
    refine ⟨fun h => absurd h (by first | decide | simp), fun _ => ?_⟩
    conv => whnf
    try (refine ⟨fun h => absurd h (by first | decide | simp), fun _ => ?_⟩; conv => whnf)
    refine xcall (sameF_spec (hBQ.f.grow (hs.sub (a := pf) (by simp))) (hrm.sub (hs.sub (a := px) (by simp))) hBQ.lk hBQ.sm) ?_
    rintro _ m7 ⟨rfl, hs7⟩
    conv => whnf
    refine ⟨fun h => absurd h (by first | decide | simp), fun _ => ?_⟩
    conv => whnf
    have hs := hs.grow hs7
    have hNN : (numsA A).length ≤ 10000 := by have h1 := numsA_len A; have h2 := hBQ.sm.n; omega
    generalize numsA A = NN at *
    refine .mk (ι := Nat) (fun j => NN.length - j) (fun j mm => j ≤ NN.length ∧ mm = m7) (fun j => [(1, .c (.v (.slice (some ⟨b, o, none⟩) O.length c))), (5, .c (ptrB bf)), (7, .c (ptrB bx)), (8, .c (.v (.pointer (some ⟨bs, 0, none⟩)))), (9, .c (.v (.pointer (some ⟨bY, 0, none⟩)))), (10, .c (boolV true)), (11, .c (i64 i)), (28, .c (.v (.slice an NN.length cn))), (29, .c (.v (.slice ar NN.length cr))), (30, .c (i64 j))]) (fun _ => []) 0 ⟨by omega, rfl⟩ ?_ ?_
    · conv => whnf
      repeat (refine And.intro (by first | with_reducible rfl | exact congrArg (Value.int _) (wi (by omega) (by omega)) | exact wi (by omega) (by omega) | rfl) ?_; conv => whnf)
      first | exact trivial | exact fun _ _ h => h
    rintro j mj ⟨hj, rfl⟩
    conv => whnf
    refine ⟨fun hc => ?_, fun hc => ?_⟩
    · have hlt : j < NN.length := by have := of_decide_eq_true hc; omega
      clear hc
      obtain ⟨bn, on, cl, e1, hel⟩ := (hvn.il.sub (hs.sub (a := pn) (by simp))).real (i := j) (by omega)
      injection e1 with e1 e2 e3
      subst e1
      obtain ⟨br, or', cl', e1, her⟩ := (hvr.il.sub (hs.sub (a := pr) (by simp))).real (i := j) (by omega)
      injection e1 with e1 e2' e3'
      subst e1
      have hel := hel j (by omega)
      have her := her j (by omega)
      generalize (nc NN)[j]'(by omega) = x at *
      conv => whnf
      repeat (refine And.intro (by first | omega | (simp only [times]; omega)) ?_; conv => whnf)
      refine ⟨_, hel, rfl, ?_⟩
      conv => whnf
      repeat (refine And.intro (by first | omega | (simp only [times]; omega)) ?_; conv => whnf)
      refine ⟨_, her, rfl, ?_⟩
      conv => whnf
      refine ⟨fun h => absurd h (by first | decide | simp), fun _ => ?_⟩
      conv => whnf
      refine ⟨j + 1, ⟨by omega, rfl⟩, by first | omega | (simp only; omega), ?_⟩
      conv => whnf
      repeat (refine And.intro (by first | with_reducible rfl | (first | exact congrArg (Value.int _) (iadd1 (by omega))) | exact congrArg (Value.int _) (wi (by omega) (by omega)) | exact wi (by omega) (by omega) | rfl) ?_; conv => whnf)
      first | exact trivial | exact fun _ _ h => h
    · have hc' := of_decide_eq_false hc
      obtain rfl : j = NN.length := by omega
      conv => whnf
      refine ⟨(i + 1, (.pointer (some ⟨bs, 0, none⟩)), (.pointer (some ⟨bY, 0, none⟩)), true), ⟨by simp only; omega, by simp only; omega, ⟨pf, px, J, nb, ns, A, L, hs.drop.drop, hBQ, hsvQ⟩⟩, by first | omega | (simp only; omega), ?_⟩
      conv => whnf
      repeat (refine And.intro (by first | with_reducible rfl | (first | exact congrArg (Value.int _) (iadd1 (by omega))) | exact congrArg (Value.int _) (wi (by omega) (by omega)) | exact wi (by omega) (by omega) | rfl) ?_; conv => whnf)
      first | exact trivial | exact fun _ _ h => h
  clear h1
  conv => whnf
  refine ⟨fun h1 => ?_, fun h1 => ?_⟩
  · clear h1
    conv => whnf
    cases beg with
    | false =>
      refine ⟨fun h => absurd h (by first | decide | simp), fun _ => ?_⟩
      conv => whnf
      have hsQ : Split m1 [pf, px, old, m] := hs
      have hBQ : Both pf px bf bx q (6 * (i + 1)) nb ns A L := ⟨hB.f, hB.x, hB.lk, hB.sm.up (j := 6) (by omega)⟩
      have hsvQ := hsv
      have hs := hsQ
      obtain ⟨z1, z2, z3, z4, z5⟩ := hBQ.lk.sizes hBQ.sm hBQ.f.safe
      obtain ⟨vx, hrm⟩ := hBQ.x.rm
      refine .at ?_
      conv => whnf
      refine xcall (numbers_A (hg.sub (hs.sub (a := m) (by simp))) (hBQ.f.grow (hs.sub (by simp))) hBQ.sm hBQ.lk.nms) ?_
      rintro _ m5 ⟨vn, pn, rfl, hsn, hvn⟩
      conv => whnf
      have hs := hsn.under (a := [pn]) hs
      refine xcall (refNumbers_spec (hrm.sub (hs.sub (by simp))) z1 hBQ.lk.n) ?_
      rintro _ m6 ⟨vr, pr, rfl, hsr, hvr⟩
      conv => whnf
      have hs := hsr.under (a := [pr]) hs
      rw [hBQ.lk.nums] at hvr
      have hs : Split m6 [pr, pn, pf, px, old, m] := hs
      obtain ⟨an, cn, rfl⟩ := hvn.il.shape
      obtain ⟨ar, cr, rfl⟩ := hvr.il.shape
      have hlN : (nc (numsA A)).length = (numsA A).length := nc_len _
      rw [hlN]
      refine ⟨fun h => absurd h (by first | decide | simp), fun _ => ?_⟩
      conv => whnf
      try (refine ⟨fun h => absurd h (by first | decide | simp), fun _ => ?_⟩; conv => whnf)
      refine xcall (sameF_spec (hBQ.f.grow (hs.sub (a := pf) (by simp))) (hrm.sub (hs.sub (a := px) (by simp))) hBQ.lk hBQ.sm) ?_
      rintro _ m7 ⟨rfl, hs7⟩
      conv => whnf
      refine ⟨fun h => absurd h (by first | decide | simp), fun _ => ?_⟩
      conv => whnf
      have hs := hs.grow hs7
      have hNN : (numsA A).length ≤ 10000 := by have h1 := numsA_len A; have h2 := hBQ.sm.n; omega
      generalize numsA A = NN at *
      refine .mk (ι := Nat) (fun j => NN.length - j) (fun j mm => j ≤ NN.length ∧ mm = m7) (fun j => [(1, .c (.v (.slice (some ⟨b, o, none⟩) O.length c))), (5, .c (ptrB bf)), (7, .c (ptrB bx)), (8, .c (.v vs)), (9, .c (.v vy)), (10, .c (boolV false)), (11, .c (i64 i)), (28, .c (.v (.slice an NN.length cn))), (29, .c (.v (.slice ar NN.length cr))), (30, .c (i64 j))]) (fun _ => []) 0 ⟨by omega, rfl⟩ ?_ ?_
      · conv => whnf
        repeat (refine And.intro (by first | with_reducible rfl | exact congrArg (Value.int _) (wi (by omega) (by omega)) | exact wi (by omega) (by omega) | rfl) ?_; conv => whnf)
        first | exact trivial | exact fun _ _ h => h
      rintro j mj ⟨hj, rfl⟩
      conv => whnf
      refine ⟨fun hc => ?_, fun hc => ?_⟩
      · have hlt : j < NN.length := by have := of_decide_eq_true hc; omega
        clear hc
        obtain ⟨bn, on, cl, e1, hel⟩ := (hvn.il.sub (hs.sub (a := pn) (by simp))).real (i := j) (by omega)
        injection e1 with e1 e2 e3
        subst e1
        obtain ⟨br, or', cl', e1, her⟩ := (hvr.il.sub (hs.sub (a := pr) (by simp))).real (i := j) (by omega)
        injection e1 with e1 e2' e3'
        subst e1
        have hel := hel j (by omega)
        have her := her j (by omega)
        generalize (nc NN)[j]'(by omega) = x at *
        conv => whnf
        repeat (refine And.intro (by first | omega | (simp only [times]; omega)) ?_; conv => whnf)
        refine ⟨_, hel, rfl, ?_⟩
        conv => whnf
        repeat (refine And.intro (by first | omega | (simp only [times]; omega)) ?_; conv => whnf)
        refine ⟨_, her, rfl, ?_⟩
        conv => whnf
        refine ⟨fun h => absurd h (by first | decide | simp), fun _ => ?_⟩
        conv => whnf
        refine ⟨j + 1, ⟨by omega, rfl⟩, by first | omega | (simp only; omega), ?_⟩
        conv => whnf
        repeat (refine And.intro (by first | with_reducible rfl | (first | exact congrArg (Value.int _) (iadd1 (by omega))) | exact congrArg (Value.int _) (wi (by omega) (by omega)) | exact wi (by omega) (by omega) | rfl) ?_; conv => whnf)
        first | exact trivial | exact fun _ _ h => h
      · have hc' := of_decide_eq_false hc
        obtain rfl : j = NN.length := by omega
        conv => whnf
        refine ⟨(i + 1, vs, vy, false), ⟨by simp only; omega, by simp only; omega, ⟨pf, px, old, nb, ns, A, L, hs.drop.drop, hBQ, hsvQ⟩⟩, by first | omega | (simp only; omega), ?_⟩
        conv => whnf
        repeat (refine And.intro (by first | with_reducible rfl | (first | exact congrArg (Value.int _) (iadd1 (by omega))) | exact congrArg (Value.int _) (wi (by omega) (by omega)) | exact wi (by omega) (by omega) | rfl) ?_; conv => whnf)
        first | exact trivial | exact fun _ _ h => h
    | true =>
      refine ⟨fun _ => ?_, fun h => absurd h (by first | decide | simp)⟩
      conv => whnf
      obtain ⟨bs, bY, nn, st, lw, vw, pv, sw, rfl, rfl, hJ0, hvw, hch, hlw, h256, hn1, hn2, hst⟩ := (hsv rfl).ex
      have f1 := split_und0 (hs.perm (l' := [old, pf, px, m]) (by classical exact List.perm_iff_count.2 fun x => by simp only [List.cons_append, List.nil_append, List.count_cons, List.count_nil]; ac_rfl)) hJ0
      obtain ⟨J1, f2, hJ1⟩ := split_col3 (f1.perm (l' := [blk1 bY (rsvO bx (nn : Nat) sw (st : Nat)), px, m, blk1 bs (saveO bf (nn : Nat) vw st), pv, pf]) (by classical exact List.perm_iff_count.2 fun x => by simp only [List.cons_append, List.nil_append, List.count_cons, List.count_nil]; ac_rfl))
      have f3 : Split m1 [blk1 bs (saveO bf (nn : Nat) vw st), pv, pf, J1] := f2.perm (by classical exact List.perm_iff_count.2 fun x => by simp only [List.cons_append, List.nil_append, List.count_cons, List.count_nil]; ac_rfl)
      refine xcall (saveStepX_spec (hg.sub (hJ1.sub (a := m) (by simp))) f3 hvw hB.f hB.sm h256 (by omega) ⟨h0, hq⟩ hB.lk.nms hn1 hn2 hst) ?_
      rintro _ m8 ⟨pf', rfl, hs8, hf'⟩
      conv => whnf
      have g1 := split_und0 (hs8.perm (l' := [J1, _, pv, pf']) (by classical exact List.perm_iff_count.2 fun x => by simp only [List.cons_append, List.nil_append, List.count_cons, List.count_nil]; ac_rfl)) hJ1
      obtain ⟨J2, g2, hJ2⟩ := split_col4 (g1.perm (l' := [m, blk1 bs (saveO bf (nn : Nat) vw (stepA q nn lw st A).st), pv, pf', blk1 bY (rsvO bx (nn : Nat) sw (st : Nat)), px]) (by classical exact List.perm_iff_count.2 fun x => by simp only [List.cons_append, List.nil_append, List.count_cons, List.count_nil]; ac_rfl))
      have g3 : Split m8 [blk1 bY (rsvO bx (nn : Nat) sw (st : Nat)), px, J2] := g2.perm (by classical exact List.perm_iff_count.2 fun x => by simp only [List.cons_append, List.nil_append, List.count_cons, List.count_nil]; ac_rfl)
      refine xcall (refStep_spec g3 hB.x hB.lk hB.sm hB.f.safe hch (by omega) ⟨h0, hq⟩ hn1 hn2 hst) ?_
      rintro _ m9 ⟨px', L', rfl, hs9, hx', hlk'⟩
      conv => whnf
      have j1 := split_und0 (hs9.perm (l' := [J2, _, px']) (by classical exact List.perm_iff_count.2 fun x => by simp only [List.cons_append, List.nil_append, List.count_cons, List.count_nil]; ac_rfl)) hJ2
      obtain ⟨J3, j2, hJ3⟩ := split_col3 (j1.perm (l' := [blk1 bs (saveO bf (nn : Nat) vw (stepA q nn lw st A).st), pv, blk1 bY (rsvO bx (nn : Nat) sw ((stepA q nn lw st A).st : Nat)), pf', px', m]) (by classical exact List.perm_iff_count.2 fun x => by simp only [List.cons_append, List.nil_append, List.count_cons, List.count_nil]; ac_rfl))
      have hsQ : Split m9 [pf', px', J3, m] := j2.perm (by classical exact List.perm_iff_count.2 fun x => by simp only [List.cons_append, List.nil_append, List.count_cons, List.count_nil]; ac_rfl)
      have hBQ : Both pf' px' bf bx q (6 * (i + 1)) (stepNb q lw st A nb) (stepNs st A ns) (stepA q nn lw st A).A L' := ⟨hf', hx', hlk', by
        rw [show 6 * (i + 1) = 6 * i + 6 by omega]
        exact hB.sm.step hlw (by omega)⟩
      have hst' : (stepA q nn lw st A).st ≤ 4 := by
        unfold stepA
        repeat' split
        all_goals (simp only; omega)
      have hsvQ : true = true → Sav J3 m bf bx (.pointer (some ⟨bs, 0, none⟩)) (.pointer (some ⟨bY, 0, none⟩)) := fun _ => ⟨bs, bY, nn, _, lw, vw, pv, sw, rfl, rfl, hJ3, hvw, hch, hlw, h256, hn1, hn2, hst'⟩
      have hbs : m9 bs = some (saveO bf (nn : Nat) vw (stepA q nn lw st A).st) := (hJ3.sub (a := blk1 bs _) (by simp)).trans (hsQ.sub (a := J3) (by simp)) _ _ (blk1_same ..)
      have hbY : m9 bY = some (rsvO bx (nn : Nat) sw ((stepA q nn lw st A).st : Nat)) := (hJ3.sub (a := blk1 bY _) (by simp)).trans (hsQ.sub (a := J3) (by simp)) _ _ (blk1_same ..)
      refine ⟨fun _ => ?_, fun h => absurd h (by first | decide | simp)⟩
      conv => whnf
      refine ⟨fun _ => ?_, fun h => absurd h (by first | decide | simp)⟩
      conv => whnf
      refine ⟨_, mcell_of hbY rfl, rfl, ?_⟩
      conv => whnf
      first | refine xretk (stage_spec hbs) ?_ | refine xret (stage_spec hbs) ?_
      conv => whnf
      have hs := hsQ
      obtain ⟨z1, z2, z3, z4, z5⟩ := hBQ.lk.sizes hBQ.sm hBQ.f.safe
      obtain ⟨vx, hrm⟩ := hBQ.x.rm
      refine .at ?_
      conv => whnf
      refine xcall (numbers_A (hg.sub (hs.sub (a := m) (by simp))) (hBQ.f.grow (hs.sub (by simp))) hBQ.sm hBQ.lk.nms) ?_
      rintro _ m5 ⟨vn, pn, rfl, hsn, hvn⟩
      conv => whnf
      have hs := hsn.under (a := [pn]) hs
      refine xcall (refNumbers_spec (hrm.sub (hs.sub (by simp))) z1 hBQ.lk.n) ?_
      rintro _ m6 ⟨vr, pr, rfl, hsr, hvr⟩
      conv => whnf
      have hs := hsr.under (a := [pr]) hs
      rw [hBQ.lk.nums] at hvr
      have hs : Split m6 [pr, pn, pf', px', J3, m] := hs
      obtain ⟨an, cn, rfl⟩ := hvn.il.shape
      obtain ⟨ar, cr, rfl⟩ := hvr.il.shape
      have hlN : (nc (numsA (stepA q nn lw st A).A)).length = (numsA (stepA q nn lw st A).A).length := nc_len _
      rw [hlN]
      refine ⟨fun h => absurd h (by first | decide | simp), fun _ => ?_⟩
      conv => whnf
      try (refine ⟨fun h => absurd h (by first | decide | simp), fun _ => ?_⟩; conv => whnf)
      refine xcall (sameF_spec (hBQ.f.grow (hs.sub (a := pf') (by simp))) (hrm.sub (hs.sub (a := px') (by simp))) hBQ.lk hBQ.sm) ?_
      rintro _ m7 ⟨rfl, hs7⟩
      conv => whnf
      refine ⟨fun h => absurd h (by first | decide | simp), fun _ => ?_⟩
      conv => whnf
      have hs := hs.grow hs7
      have hNN : (numsA (stepA q nn lw st A).A).length ≤ 10000 := by have h1 := numsA_len (stepA q nn lw st A).A; have h2 := hBQ.sm.n; omega
      generalize numsA (stepA q nn lw st A).A = NN at *
      refine .mk (ι := Nat) (fun j => NN.length - j) (fun j mm => j ≤ NN.length ∧ mm = m7) (fun j => [(1, .c (.v (.slice (some ⟨b, o, none⟩) O.length c))), (5, .c (ptrB bf)), (7, .c (ptrB bx)), (8, .c (.v (.pointer (some ⟨bs, 0, none⟩)))), (9, .c (.v (.pointer (some ⟨bY, 0, none⟩)))), (10, .c (boolV true)), (11, .c (i64 i)), (28, .c (.v (.slice an NN.length cn))), (29, .c (.v (.slice ar NN.length cr))), (30, .c (i64 j))]) (fun _ => []) 0 ⟨by omega, rfl⟩ ?_ ?_
      · conv => whnf
        repeat (refine And.intro (by first | with_reducible rfl | exact congrArg (Value.int _) (wi (by omega) (by omega)) | exact wi (by omega) (by omega) | rfl) ?_; conv => whnf)
        first | exact trivial | exact fun _ _ h => h
      rintro j mj ⟨hj, rfl⟩
      conv => whnf
      refine ⟨fun hc => ?_, fun hc => ?_⟩
      · have hlt : j < NN.length := by have := of_decide_eq_true hc; omega
        clear hc
        obtain ⟨bn, on, cl, e1, hel⟩ := (hvn.il.sub (hs.sub (a := pn) (by simp))).real (i := j) (by omega)
        injection e1 with e1 e2 e3
        subst e1
        obtain ⟨br, or', cl', e1, her⟩ := (hvr.il.sub (hs.sub (a := pr) (by simp))).real (i := j) (by omega)
        injection e1 with e1 e2' e3'
        subst e1
        have hel := hel j (by omega)
        have her := her j (by omega)
        generalize (nc NN)[j]'(by omega) = x at *
        conv => whnf
        repeat (refine And.intro (by first | omega | (simp only [times]; omega)) ?_; conv => whnf)
        refine ⟨_, hel, rfl, ?_⟩
        conv => whnf
        repeat (refine And.intro (by first | omega | (simp only [times]; omega)) ?_; conv => whnf)
        refine ⟨_, her, rfl, ?_⟩
        conv => whnf
        refine ⟨fun h => absurd h (by first | decide | simp), fun _ => ?_⟩
        conv => whnf
        refine ⟨j + 1, ⟨by omega, rfl⟩, by first | omega | (simp only; omega), ?_⟩
        conv => whnf
        repeat (refine And.intro (by first | with_reducible rfl | (first | exact congrArg (Value.int _) (iadd1 (by omega))) | exact congrArg (Value.int _) (wi (by omega) (by omega)) | exact wi (by omega) (by omega) | rfl) ?_; conv => whnf)
        first | exact trivial | exact fun _ _ h => h
      · have hc' := of_decide_eq_false hc
        obtain rfl : j = NN.length := by omega
        conv => whnf
        refine ⟨(i + 1, (.pointer (some ⟨bs, 0, none⟩)), (.pointer (some ⟨bY, 0, none⟩)), true), ⟨by simp only; omega, by simp only; omega, ⟨pf', px', J3, (stepNb q lw st A nb), (stepNs st A ns), (stepA q nn lw st A).A, L', hs.drop.drop, hBQ, hsvQ⟩⟩, by first | omega | (simp only; omega), ?_⟩
        conv => whnf
        repeat (refine And.intro (by first | with_reducible rfl | (first | exact congrArg (Value.int _) (iadd1 (by omega))) | exact congrArg (Value.int _) (wi (by omega) (by omega)) | exact wi (by omega) (by omega) | rfl) ?_; conv => whnf)
        first | exact trivial | exact fun _ _ h => h
  clear h1
  conv => whnf
  refine ⟨fun h1 => ?_, fun h1 => ?_⟩
  · clear h1
    conv => whnf
    refine xcall (load_A (hg.sub hsm) (hB.f.grow (hs.sub (a := pf) (by simp))) hB.sm hB.lk.nms) ?_
    rintro _ m8 ⟨v1, ps1, p1, rfl, hs8, hls1, hpr1⟩
    conv => whnf
    obtain ⟨z1, z2, z3, z4, z5⟩ := hB.lk.sizes hB.sm hB.f.safe
    obtain ⟨vx, hrm⟩ := hB.x.rm
    have hs80 : Split m8 [p1, pf, px, old, m] := hs8.under (a := [p1]) hs
    refine xcall (refLoad_spec (hrm.sub (hs80.sub (a := px) (by simp))) hB.lk z1 hB.f.byt (fun a ha => by have := hB.sm.l a ha; omega)) ?_
    rintro _ m9 ⟨v2, ps2, rfl, hs9, hls2, hpr2⟩
    conv => whnf
    have hs81 := hs80.grow hs9
    refine ⟨fun _ => ?_, fun h => absurd h (by first | decide | simp)⟩
    conv => whnf
    have hlb := load_byt hB.f.byt (fun a ha => by have := hB.sm.l a ha; omega)
    first | refine xretk (same17_spec (.inl (hls1.sub (hs81.sub (a := p1) (by simp)))) (.inl hls2) (fun p hp => hlb.2 _ (by rw [← hpr1]; exact List.mem_map.2 ⟨p, hp, rfl⟩)) (fun p hp => hlb.2 _ (by rw [← hpr2]; exact List.mem_map.2 ⟨p, hp, rfl⟩)) (by have h1 := hlb.1; have h2 := congrArg List.length hpr1; rw [List.length_map] at h2; omega)) ?_ | refine xret (same17_spec (.inl (hls1.sub (hs81.sub (a := p1) (by simp)))) (.inl hls2) (fun p hp => hlb.2 _ (by rw [← hpr1]; exact List.mem_map.2 ⟨p, hp, rfl⟩)) (fun p hp => hlb.2 _ (by rw [← hpr2]; exact List.mem_map.2 ⟨p, hp, rfl⟩)) (by have h1 := hlb.1; have h2 := congrArg List.length hpr1; rw [List.length_map] at h2; omega)) ?_
    conv => whnf
    rw [decide_eq_true (hpr1.trans hpr2.symm)]
    refine ⟨fun _ => ?_, fun h => absurd h (by first | decide | simp)⟩
    conv => whnf
    have hsQ : Split m9 [pf, px, old, m] := (hs80.grow hs9).drop
    have hBQ : Both pf px bf bx q (6 * (i + 1)) nb ns A L := ⟨hB.f, hB.x, hB.lk, hB.sm.up (j := 6) (by omega)⟩
    have hsvQ := hsv
    have hs := hsQ
    obtain ⟨z1, z2, z3, z4, z5⟩ := hBQ.lk.sizes hBQ.sm hBQ.f.safe
    obtain ⟨vx, hrm⟩ := hBQ.x.rm
    refine .at ?_
    conv => whnf
    refine xcall (numbers_A (hg.sub (hs.sub (a := m) (by simp))) (hBQ.f.grow (hs.sub (by simp))) hBQ.sm hBQ.lk.nms) ?_
    rintro _ m5 ⟨vn, pn, rfl, hsn, hvn⟩
    conv => whnf
    have hs := hsn.under (a := [pn]) hs
    refine xcall (refNumbers_spec (hrm.sub (hs.sub (by simp))) z1 hBQ.lk.n) ?_
    rintro _ m6 ⟨vr, pr, rfl, hsr, hvr⟩
    conv => whnf
    have hs := hsr.under (a := [pr]) hs
    rw [hBQ.lk.nums] at hvr
    have hs : Split m6 [pr, pn, pf, px, old, m] := hs
    obtain ⟨an, cn, rfl⟩ := hvn.il.shape
    obtain ⟨ar, cr, rfl⟩ := hvr.il.shape
    have hlN : (nc (numsA A)).length = (numsA A).length := nc_len _
    rw [hlN]
    refine ⟨fun h => absurd h (by first | decide | simp), fun _ => ?_⟩
    conv => whnf
    try (refine ⟨fun h => absurd h (by first | decide | simp), fun _ => ?_⟩; conv => whnf)
    refine xcall (sameF_spec (hBQ.f.grow (hs.sub (a := pf) (by simp))) (hrm.sub (hs.sub (a := px) (by simp))) hBQ.lk hBQ.sm) ?_
    rintro _ m7 ⟨rfl, hs7⟩
    conv => whnf
    refine ⟨fun h => absurd h (by first | decide | simp), fun _ => ?_⟩
    conv => whnf
    have hs := hs.grow hs7
    have hNN : (numsA A).length ≤ 10000 := by have h1 := numsA_len A; have h2 := hBQ.sm.n; omega
    generalize numsA A = NN at *
    refine .mk (ι := Nat) (fun j => NN.length - j) (fun j mm => j ≤ NN.length ∧ mm = m7) (fun j => [(1, .c (.v (.slice (some ⟨b, o, none⟩) O.length c))), (5, .c (ptrB bf)), (7, .c (ptrB bx)), (8, .c (.v vs)), (9, .c (.v vy)), (10, .c (boolV beg)), (11, .c (i64 i)), (28, .c (.v (.slice an NN.length cn))), (29, .c (.v (.slice ar NN.length cr))), (30, .c (i64 j))]) (fun _ => []) 0 ⟨by omega, rfl⟩ ?_ ?_
    · conv => whnf
      repeat (refine And.intro (by first | with_reducible rfl | exact congrArg (Value.int _) (wi (by omega) (by omega)) | exact wi (by omega) (by omega) | rfl) ?_; conv => whnf)
      first | exact trivial | exact fun _ _ h => h
    rintro j mj ⟨hj, rfl⟩
    conv => whnf
    refine ⟨fun hc => ?_, fun hc => ?_⟩
    · have hlt : j < NN.length := by have := of_decide_eq_true hc; omega
      clear hc
      obtain ⟨bn, on, cl, e1, hel⟩ := (hvn.il.sub (hs.sub (a := pn) (by simp))).real (i := j) (by omega)
      injection e1 with e1 e2 e3
      subst e1
      obtain ⟨br, or', cl', e1, her⟩ := (hvr.il.sub (hs.sub (a := pr) (by simp))).real (i := j) (by omega)
      injection e1 with e1 e2' e3'
      subst e1
      have hel := hel j (by omega)
      have her := her j (by omega)
      generalize (nc NN)[j]'(by omega) = x at *
      conv => whnf
      repeat (refine And.intro (by first | omega | (simp only [times]; omega)) ?_; conv => whnf)
      refine ⟨_, hel, rfl, ?_⟩
      conv => whnf
      repeat (refine And.intro (by first | omega | (simp only [times]; omega)) ?_; conv => whnf)
      refine ⟨_, her, rfl, ?_⟩
      conv => whnf
      refine ⟨fun h => absurd h (by first | decide | simp), fun _ => ?_⟩
      conv => whnf
      refine ⟨j + 1, ⟨by omega, rfl⟩, by first | omega | (simp only; omega), ?_⟩
      conv => whnf
      repeat (refine And.intro (by first | with_reducible rfl | (first | exact congrArg (Value.int _) (iadd1 (by omega))) | exact congrArg (Value.int _) (wi (by omega) (by omega)) | exact wi (by omega) (by omega) | rfl) ?_; conv => whnf)
      first | exact trivial | exact fun _ _ h => h
    · have hc' := of_decide_eq_false hc
      obtain rfl : j = NN.length := by omega
      conv => whnf
      refine ⟨(i + 1, vs, vy, beg), ⟨by simp only; omega, by simp only; omega, ⟨pf, px, old, nb, ns, A, L, hs.drop.drop, hBQ, hsvQ⟩⟩, by first | omega | (simp only; omega), ?_⟩
      conv => whnf
      repeat (refine And.intro (by first | with_reducible rfl | (first | exact congrArg (Value.int _) (iadd1 (by omega))) | exact congrArg (Value.int _) (wi (by omega) (by omega)) | exact wi (by omega) (by omega) | rfl) ?_; conv => whnf)
      first | exact trivial | exact fun _ _ h => h
  clear h1
  conv => whnf
  refine ⟨fun h1 => ?_, fun h1 => ?_⟩
  · clear h1
    conv => whnf
    obtain ⟨J, hsJ, hJ⟩ := split_col2 (hs.perm (l' := [old, m, pf, px]) (by classical exact List.perm_iff_count.2 fun x => by simp only [List.cons_append, List.nil_append, List.count_cons, List.count_nil]; ac_rfl))
    have hsJ : Split m1 [pf, px, J] := hsJ.perm (by classical exact List.perm_iff_count.2 fun x => by simp only [List.cons_append, List.nil_append, List.count_cons, List.count_nil]; ac_rfl)
    refine xcall (other_spec (hoi.sub (hJ.sub (a := m) (by simp))).o hsmall.2 hB hsJ ⟨h0, hq⟩ (by omega)) ?_
    rintro _ m8 ⟨pf', px', nb', ns', A', L', rfl, hs8, hB8⟩
    conv => whnf
    have hsQ : Split m8 [pf', px', old, m] := hs8.under (a := [_, _]) hJ
    have hBQ : Both pf' px' bf bx q (6 * (i + 1)) nb' ns' A' L' := ⟨hB8.f, hB8.x, hB8.lk, hB8.sm.up (j := 5) (by omega)⟩
    have hsvQ := hsv
    have hs := hsQ
    obtain ⟨z1, z2, z3, z4, z5⟩ := hBQ.lk.sizes hBQ.sm hBQ.f.safe
    obtain ⟨vx, hrm⟩ := hBQ.x.rm
    refine .at ?_
    conv => whnf
    refine xcall (numbers_A (hg.sub (hs.sub (a := m) (by simp))) (hBQ.f.grow (hs.sub (by simp))) hBQ.sm hBQ.lk.nms) ?_
    rintro _ m5 ⟨vn, pn, rfl, hsn, hvn⟩
    conv => whnf
    have hs := hsn.under (a := [pn]) hs
    refine xcall (refNumbers_spec (hrm.sub (hs.sub (by simp))) z1 hBQ.lk.n) ?_
    rintro _ m6 ⟨vr, pr, rfl, hsr, hvr⟩
    conv => whnf
    have hs := hsr.under (a := [pr]) hs
    rw [hBQ.lk.nums] at hvr
    have hs : Split m6 [pr, pn, pf', px', old, m] := hs
    obtain ⟨an, cn, rfl⟩ := hvn.il.shape
    obtain ⟨ar, cr, rfl⟩ := hvr.il.shape
    have hlN : (nc (numsA A')).length = (numsA A').length := nc_len _
    rw [hlN]
    refine ⟨fun h => absurd h (by first | decide | simp), fun _ => ?_⟩
    conv => whnf
    try (refine ⟨fun h => absurd h (by first | decide | simp), fun _ => ?_⟩; conv => whnf)
    refine xcall (sameF_spec (hBQ.f.grow (hs.sub (a := pf') (by simp))) (hrm.sub (hs.sub (a := px') (by simp))) hBQ.lk hBQ.sm) ?_
    rintro _ m7 ⟨rfl, hs7⟩
    conv => whnf
    refine ⟨fun h => absurd h (by first | decide | simp), fun _ => ?_⟩
    conv => whnf
    have hs := hs.grow hs7
    have hNN : (numsA A').length ≤ 10000 := by have h1 := numsA_len A'; have h2 := hBQ.sm.n; omega
    generalize numsA A' = NN at *
    refine .mk (ι := Nat) (fun j => NN.length - j) (fun j mm => j ≤ NN.length ∧ mm = m7) (fun j => [(1, .c (.v (.slice (some ⟨b, o, none⟩) O.length c))), (5, .c (ptrB bf)), (7, .c (ptrB bx)), (8, .c (.v vs)), (9, .c (.v vy)), (10, .c (boolV beg)), (11, .c (i64 i)), (28, .c (.v (.slice an NN.length cn))), (29, .c (.v (.slice ar NN.length cr))), (30, .c (i64 j))]) (fun _ => []) 0 ⟨by omega, rfl⟩ ?_ ?_
    · conv => whnf
      repeat (refine And.intro (by first | with_reducible rfl | exact congrArg (Value.int _) (wi (by omega) (by omega)) | exact wi (by omega) (by omega) | rfl) ?_; conv => whnf)
      first | exact trivial | exact fun _ _ h => h
    rintro j mj ⟨hj, rfl⟩
    conv => whnf
    refine ⟨fun hc => ?_, fun hc => ?_⟩
    · have hlt : j < NN.length := by have := of_decide_eq_true hc; omega
      clear hc
      obtain ⟨bn, on, cl, e1, hel⟩ := (hvn.il.sub (hs.sub (a := pn) (by simp))).real (i := j) (by omega)
      injection e1 with e1 e2 e3
      subst e1
      obtain ⟨br, or', cl', e1, her⟩ := (hvr.il.sub (hs.sub (a := pr) (by simp))).real (i := j) (by omega)
      injection e1 with e1 e2' e3'
      subst e1
      have hel := hel j (by omega)
      have her := her j (by omega)
      generalize (nc NN)[j]'(by omega) = x at *
      conv => whnf
      repeat (refine And.intro (by first | omega | (simp only [times]; omega)) ?_; conv => whnf)
      refine ⟨_, hel, rfl, ?_⟩
      conv => whnf
      repeat (refine And.intro (by first | omega | (simp only [times]; omega)) ?_; conv => whnf)
      refine ⟨_, her, rfl, ?_⟩
      conv => whnf
      refine ⟨fun h => absurd h (by first | decide | simp), fun _ => ?_⟩
      conv => whnf
      refine ⟨j + 1, ⟨by omega, rfl⟩, by first | omega | (simp only; omega), ?_⟩
      conv => whnf
      repeat (refine And.intro (by first | with_reducible rfl | (first | exact congrArg (Value.int _) (iadd1 (by omega))) | exact congrArg (Value.int _) (wi (by omega) (by omega)) | exact wi (by omega) (by omega) | rfl) ?_; conv => whnf)
      first | exact trivial | exact fun _ _ h => h
    · have hc' := of_decide_eq_false hc
      obtain rfl : j = NN.length := by omega
      conv => whnf
      refine ⟨(i + 1, vs, vy, beg), ⟨by simp only; omega, by simp only; omega, ⟨pf', px', old, nb', ns', A', L', hs.drop.drop, hBQ, hsvQ⟩⟩, by first | omega | (simp only; omega), ?_⟩
      conv => whnf
      repeat (refine And.intro (by first | with_reducible rfl | (first | exact congrArg (Value.int _) (iadd1 (by omega))) | exact congrArg (Value.int _) (wi (by omega) (by omega)) | exact wi (by omega) (by omega) | rfl) ?_; conv => whnf)
      first | exact trivial | exact fun _ _ h => h
  clear h1
  conv => whnf
  have hsQ : Split m1 [pf, px, old, m] := hs
  have hBQ : Both pf px bf bx q (6 * (i + 1)) nb ns A L := ⟨hB.f, hB.x, hB.lk, hB.sm.up (j := 6) (by omega)⟩
  have hsvQ := hsv
  have hs := hsQ
  obtain ⟨z1, z2, z3, z4, z5⟩ := hBQ.lk.sizes hBQ.sm hBQ.f.safe
  obtain ⟨vx, hrm⟩ := hBQ.x.rm
  refine .at ?_
  conv => whnf
  refine xcall (numbers_A (hg.sub (hs.sub (a := m) (by simp))) (hBQ.f.grow (hs.sub (by simp))) hBQ.sm hBQ.lk.nms) ?_
  rintro _ m5 ⟨vn, pn, rfl, hsn, hvn⟩
  conv => whnf
  have hs := hsn.under (a := [pn]) hs
  refine xcall (refNumbers_spec (hrm.sub (hs.sub (by simp))) z1 hBQ.lk.n) ?_
  rintro _ m6 ⟨vr, pr, rfl, hsr, hvr⟩
  conv => whnf
  have hs := hsr.under (a := [pr]) hs
  rw [hBQ.lk.nums] at hvr
  have hs : Split m6 [pr, pn, pf, px, old, m] := hs
  obtain ⟨an, cn, rfl⟩ := hvn.il.shape
  obtain ⟨ar, cr, rfl⟩ := hvr.il.shape
  have hlN : (nc (numsA A)).length = (numsA A).length := nc_len _
  rw [hlN]
  refine ⟨fun h => absurd h (by first | decide | simp), fun _ => ?_⟩
  conv => whnf
  try (refine ⟨fun h => absurd h (by first | decide | simp), fun _ => ?_⟩; conv => whnf)
  refine xcall (sameF_spec (hBQ.f.grow (hs.sub (a := pf) (by simp))) (hrm.sub (hs.sub (a := px) (by simp))) hBQ.lk hBQ.sm) ?_
  rintro _ m7 ⟨rfl, hs7⟩
  conv => whnf
  refine ⟨fun h => absurd h (by first | decide | simp), fun _ => ?_⟩
  conv => whnf
  have hs := hs.grow hs7
  have hNN : (numsA A).length ≤ 10000 := by have h1 := numsA_len A; have h2 := hBQ.sm.n; omega
  generalize numsA A = NN at *
  refine .mk (ι := Nat) (fun j => NN.length - j) (fun j mm => j ≤ NN.length ∧ mm = m7) (fun j => [(1, .c (.v (.slice (some ⟨b, o, none⟩) O.length c))), (5, .c (ptrB bf)), (7, .c (ptrB bx)), (8, .c (.v vs)), (9, .c (.v vy)), (10, .c (boolV beg)), (11, .c (i64 i)), (28, .c (.v (.slice an NN.length cn))), (29, .c (.v (.slice ar NN.length cr))), (30, .c (i64 j))]) (fun _ => []) 0 ⟨by omega, rfl⟩ ?_ ?_
  · conv => whnf
    repeat (refine And.intro (by first | with_reducible rfl | exact congrArg (Value.int _) (wi (by omega) (by omega)) | exact wi (by omega) (by omega) | rfl) ?_; conv => whnf)
    first | exact trivial | exact fun _ _ h => h
  rintro j mj ⟨hj, rfl⟩
  conv => whnf
  refine ⟨fun hc => ?_, fun hc => ?_⟩
  · have hlt : j < NN.length := by have := of_decide_eq_true hc; omega
    clear hc
    obtain ⟨bn, on, cl, e1, hel⟩ := (hvn.il.sub (hs.sub (a := pn) (by simp))).real (i := j) (by omega)
    injection e1 with e1 e2 e3
    subst e1
    obtain ⟨br, or', cl', e1, her⟩ := (hvr.il.sub (hs.sub (a := pr) (by simp))).real (i := j) (by omega)
    injection e1 with e1 e2' e3'
    subst e1
    have hel := hel j (by omega)
    have her := her j (by omega)
    generalize (nc NN)[j]'(by omega) = x at *
    conv => whnf
    repeat (refine And.intro (by first | omega | (simp only [times]; omega)) ?_; conv => whnf)
    refine ⟨_, hel, rfl, ?_⟩
    conv => whnf
    repeat (refine And.intro (by first | omega | (simp only [times]; omega)) ?_; conv => whnf)
    refine ⟨_, her, rfl, ?_⟩
    conv => whnf
    refine ⟨fun h => absurd h (by first | decide | simp), fun _ => ?_⟩
    conv => whnf
    refine ⟨j + 1, ⟨by omega, rfl⟩, by first | omega | (simp only; omega), ?_⟩
    conv => whnf
    repeat (refine And.intro (by first | with_reducible rfl | (first | exact congrArg (Value.int _) (iadd1 (by omega))) | exact congrArg (Value.int _) (wi (by omega) (by omega)) | exact wi (by omega) (by omega) | rfl) ?_; conv => whnf)
    first | exact trivial | exact fun _ _ h => h
  · have hc' := of_decide_eq_false hc
    obtain rfl : j = NN.length := by omega
    conv => whnf
    refine ⟨(i + 1, vs, vy, beg), ⟨by simp only; omega, by simp only; omega, ⟨pf, px, old, nb, ns, A, L, hs.drop.drop, hBQ, hsvQ⟩⟩, by first | omega | (simp only; omega), ?_⟩
    conv => whnf
    repeat (refine And.intro (by first | with_reducible rfl | (first | exact congrArg (Value.int _) (iadd1 (by omega))) | exact congrArg (Value.int _) (wi (by omega) (by omega)) | exact wi (by omega) (by omega) | rfl) ?_; conv => whnf)
    first | exact trivial | exact fun _ _ h => h
end Go.E.YtgjlajcebcmbaaaGreatDoor

/-
  What the listed package variables hold, out of what the row says of them.
-/
namespace Go.E
theorem trod_ints {H : Type} {enc : TypeId × Value → H} {P : Program} {w : World} {base : Nat} {spare : Nat → Bool} {held : Bool} {fuel : Nat} {t e : TypeId} {cs : List Value} {n : Nat} {k : IntKind} {zs : List Int} {p : List MemPlace} (ht : P.underlying t = some (.array n e)) (he : P.underlying e = some (.int k)) (hc : P.cellsOf e = 1) (hct : P.cellsOf t = n)
    (h : DataW.trod enc P w base spare held fuel t cs = some (.agg (zs.map fun z => .lit (.int k z)), p)) : cs = zs.map fun z => Value.int k z := by
  obtain ⟨xs, m, _, ex, hl, hn, hel⟩ := DataW.trod_array ht h
  rw [hct] at hl
  have e1 : xs.map (·.1) = zs.map fun z => .lit (.int k z) := (DataW.agg.inj (Prod.mk.inj ex).1).symm
  have hz : zs.length = n := by have := congrArg List.length e1; simp at this; omega
  refine List.ext_getElem? fun i => ?_
  by_cases hi : i < n
  · have h1 := hel i hi
    rw [hc, Nat.mul_one, List.getElem?_eq_getElem (by omega)] at h1
    obtain ⟨z, f1, f2, _⟩ := DataW.trod_int he h1
    have e4 : (xs.map (·.1))[i]? = (zs.map fun z => (DataW.lit (.int k z) : DataW H))[i]? := by rw [e1]
    rw [List.getElem?_map, List.getElem?_map, List.getElem?_eq_getElem (by omega : i < xs.length), List.getElem?_eq_getElem (by omega : i < zs.length), f2] at e4
    have hzz : z = zs[i] := by simpa using e4
    have h0 : ((cs.drop i).take 1)[0]? = some (.int k z) := by rw [f1]; rfl
    rw [List.getElem?_map, List.getElem?_eq_getElem (by omega : i < zs.length), ← hzz]
    simpa using h0
  · rw [List.getElem?_eq_none (by omega), List.getElem?_eq_none (by simp; omega)]
theorem trod_iface {H : Type} {enc : TypeId × Value → H} {P : Program} {w : World} {base : Nat} {spare : Nat → Bool} {fuel : Nat} {t : TypeId} {cs : List Value} {ms : _} {name : String} {d : DataW H} {p : List MemPlace} (ht : P.underlying t = some (.interface ms))
    (h : DataW.trod enc P w base spare false fuel t cs = some (.iface name d, p)) : ∃ u v, cs = [.iface u v] := by
  cases fuel with
  | zero => simp [DataW.trod] at h
  | succ m =>
    unfold DataW.trod at h
    rw [ht] at h
    split at h <;> simp_all
theorem var_heap {P : Program} {W : World} {name : String} {g : Nat} {cs : Array Value} (hg : P.globalNamed name = some g) (h : W.var? P name = some cs) : ∃ T fr, W.heap[g]? = some (.cells cs T fr) := by
  unfold World.var? at h
  rw [hg] at h
  simp only [Option.bind_some] at h
  split at h
  · rename_i arr T fr hb
    injection h with h; subst h
    exact ⟨T, fr, hb⟩
  · cases h
end Go.E
namespace Go.E.YtgjlajcebcmbaaaGreatDoor
open Go.Proofs
set_option maxRecDepth 100000
theorem glob_met {W : World} (h : laidMetH Tryz.prog [("math/bits.deBruijn32tab", Go.Proofs.YtgjlajcebcmbaaaGreatDoor.Rows.laid_math_bits_deBruijn32tab), ("math/bits.deBruijn64tab", Go.Proofs.YtgjlajcebcmbaaaGreatDoor.Rows.laid_math_bits_deBruijn64tab), ("internal/strconv.uint64pow10", Go.Proofs.YtgjlajcebcmbaaaGreatDoor.Rows.laid_internal_strconv_uint64pow10), ("strconv.ErrRange", Go.Proofs.YtgjlajcebcmbaaaGreatDoor.Rows.laid_strconv_ErrRange), ("strconv.ErrSyntax", Go.Proofs.YtgjlajcebcmbaaaGreatDoor.Rows.laid_strconv_ErrSyntax)] W) : Glob (fun b => W.heap[b]?) := by
  rw [MakeChecks.laidMetH_plain _ _ _ (by kernel_rfl)] at h
  obtain ⟨ps, hl, _, _⟩ := h
  obtain ⟨g1, t1, c1, f1, p1, q1, hg1, ht1, hv1, hd1, hl, _⟩ := hl
  obtain ⟨g2, t2, c2, f2, p2, q2, hg2, ht2, hv2, hd2, hl, _⟩ := hl
  obtain ⟨g3, t3, c3, f3, p3, q3, hg3, ht3, hv3, hd3, hl, _⟩ := hl
  obtain ⟨g4, t4, c4, f4, p4, q4, hg4, ht4, hv4, hd4, hl, _⟩ := hl
  obtain ⟨g5, t5, c5, f5, p5, q5, hg5, ht5, hv5, hd5, hl, _⟩ := hl
  obtain rfl := Option.some.inj (gTab.symm.trans hg3)
  obtain rfl := Option.some.inj (gRng.symm.trans hg4)
  obtain rfl := Option.some.inj (gSyn.symm.trans hg5)
  obtain ⟨T3, r3, hh3⟩ := var_heap hg3 hv3
  obtain ⟨T4, r4, hh4⟩ := var_heap hg4 hv4
  obtain ⟨T5, r5, hh5⟩ := var_heap hg5 hv5
  obtain rfl := Option.some.inj ((show (Tryz.prog.globals[2]?).map (·.type) = some 199 by kernel_rfl).symm.trans ht3)
  obtain rfl := Option.some.inj ((show (Tryz.prog.globals[1]?).map (·.type) = some 80 by kernel_rfl).symm.trans ht4)
  obtain rfl := Option.some.inj ((show (Tryz.prog.globals[0]?).map (·.type) = some 80 by kernel_rfl).symm.trans ht5)
  have k3 := trod_ints (zs := Lib.pow10Tab) Tryz.underlying199 Tryz.underlying57 (by kernel_rfl) (by kernel_rfl) hd3
  obtain ⟨u4, w4, k4⟩ := trod_iface Tryz.underlying80 hd4
  obtain ⟨u5, w5, k5⟩ := trod_iface Tryz.underlying80 hd5
  refine ⟨⟨u5, w5, T5, r5, ?_⟩, ⟨u4, w4, T4, r4, ?_⟩, ⟨T3, r3, ?_⟩⟩
  · rw [hh5, ← Array.toArray_toList (xs := c5), k5]
  · rw [hh4, ← Array.toArray_toList (xs := c4), k4]
  · rw [hh3, ← Array.toArray_toList (xs := c3), k3]
end Go.E.YtgjlajcebcmbaaaGreatDoor
