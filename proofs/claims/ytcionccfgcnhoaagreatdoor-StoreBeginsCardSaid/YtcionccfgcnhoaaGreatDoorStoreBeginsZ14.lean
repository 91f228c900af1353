/-
  SoM, SoN, SoO, SoP, SoQ, Door
-/
import Derived.Test.YtcionccfgcnhoaaGreatDoorStoreBeginsZ13
import Derived.Test.YtcionccfgcnhoaaGreatDoorCards
import Derived.Lay
import Derived.OpenShut
import Derived.LaidLaws
import Derived.MakeChecks
namespace Go.E.YtcionccfgcnhoaaGreatDoor
open Go.Proofs
set_option maxRecDepth 100000
theorem Left.grow {m' m'' m : Mem} {bs bf nb ns : Nat} {q : Int} {A : List Af} {s : Sto} (h : Left m' m bs bf q nb ns A s) (hs : Sub m' m'') : Left m'' m bs bf q nb ns A s := by
  obtain ⟨p, pf, h1, h2, h3⟩ := h.ex
  exact ⟨p, pf, h1.grow hs, h2, h3⟩
theorem nms_crash {A : List Af} (hA : ∀ a ∈ A, a.safe ≤ a.l.length) (last : List Int) (h : NmS A) : NmS (crashA A last) := by
  obtain ⟨f, h1, h2⟩ := crash_map (last := last) hA
  rw [h1]
  exact nms_map (fun a ha => (h2 a ha).1.name) h
theorem Sz.crash {j nb ns : Nat} {A : List Af} (h : Sz j A nb ns) (hA : ∀ a ∈ A, a.safe ≤ a.l.length) (last : List Int) : Sz (j + 1) (crashA A last) nb ns := by
  have h1 := (crash_les A last).l (7000 * j) h.l
  have h2 := (crash_les A last).n
  have h3 := h.n
  have h4 := h.nb
  have h5 := h.ns
  exact ⟨fun a ha => by have := h1 a ha; omega, by omega, nms_crash hA last h.nm, by omega, by omega⟩
theorem Sz.opened {j nb ns ns' : Nat} {A A' : List Af} (h : Sz j A nb ns) (hg : Gr A A' 0) (hns : ns' ≤ ns + 1) (hj : j ≤ 60) : Sz (j + 1) A' nb ns' := h.gr hg (by omega) (by omega) hns hj
theorem cat_len {R : List Kd} (h : ∀ x ∈ R, GoodK x) : (Fr.cat (recs R)).length ≤ 6613 * R.length := by
  have := catK_small h
  rw [catK_len] at this
  exact this
set_option maxHeartbeats 8000000 in
theorem begins18_tail2 {mm m mq : Mem} {bt bf nb ns j : Nat} {q : Int} {A : List Af} {s : Sto} {vl : Value} {last : List Int} (hg : Glob m) (hL : Left mm mq bt bf q nb ns A s) (hmq : Sub m mq) (hfi : FI q A s) (hsz : Sz j A nb ns) (hj : j ≤ 50) (hs0 : s.st = 0) (hss : s.sure = s.R.length) (hpr : s.P.length + s.R.length ≤ 50) (hgb : s.g ≤ 60) (hv : Ia m vl last) (hlast : last.length ≤ 9223372036854775807) (hI : ∀ x ∈ last, -9223372036854775808 ≤ x ∧ x ≤ 9223372036854775807) (hq : 0 ≤ q ∧ q ≤ 9223372036854775807) :
    xwpY c3 (restAt 27 (bodyOf Tryz.f3)) (QRetY tt.get Tryz.f3.results.toList fun r m' => r = [boolV true] ∧ Sub m m')
      [(2, .c (.v vl)), (7, .c (ptrB bf)), (14, .c (ptrB bt)), (16, .c (boolV true))] [] mm [] := by
  obtain ⟨pf, mr, ht, hmr, hf, hrd⟩ := hL.cut
  have hA := hf.safe
  conv => whnf
  refine .at ?_
  conv => whnf
  refine xcall (crash_A (last := last) hf ht (hsz.sm (by omega)) (hv.sub (hmq.trans hmr)) hlast hI) ?_
  rintro _ m2 ⟨pf2, rfl, ht2, hf2⟩
  conv => whnf
  have hsz2 := hsz.crash hA last
  rcases hfi.crash hA last with ⟨_, K, hK, hc⟩ | ⟨h4, _⟩
  rotate_left
  · omega
  rw [hss, List.take_length] at hK
  have hKl : K ≤ (Fr.cat (recs s.R)).length := by
    rcases hc.lg with ⟨_, _, h0⟩ | ⟨_, _, h0⟩
    · omega
    · exact h0
  obtain rfl : K = (Fr.cat (recs s.R)).length := by omega
  have hcl := cat_len hfi.gr
  have hgq := hg.sub (hmq.trans hmr)
  refine xcall (sopen_spec hgq ht2 hf2 (hsz2.sm (by omega)) hsz2.nm hc (by omega) hq (by omega) (by omega)) ?_
  rintro _ m3 ⟨bu, ns3, A3, rfl, hL3, hfi3, _, _, _⟩
  conv => whnf
  rw [opened_all] at hL3
  have hs : (⟨s.g, s.P, s.R, s.R.length, 0⟩ : Sto) = s := by
    obtain ⟨sg, sP, sR, ssu, sst⟩ := s
    simp only at hs0 hss
    subst hs0 hss
    rfl
  rw [hs] at hL3
  obtain ⟨p3, pf3, ht3, hp3, _⟩ := hL3.ex
  have hm3 : Sub mr m3 := ht3.sub (by simp)
  refine xcall (alive18_spec (hgq.sub hm3)) ?_
  rintro _ m4 ⟨rfl, hs4⟩
  conv => whnf
  have hm4 : Sub mr m4 := hm3.trans hs4
  obtain ⟨bl4, lv4, sv4, hsr4⟩ := hp3.read ((ht3.sub (a := p3) (by simp)).trans hs4)
  have hll := sL_len s
  refine ⟨fun _ => ?_, fun h => absurd h (by first | decide | simp)⟩
  conv => whnf
  refine ⟨fun _ => ?_, fun h => absurd h (by first | decide | simp)⟩
  conv => whnf
  refine ⟨fun _ => ?_, fun h => absurd h (by first | decide | simp)⟩
  conv => whnf
  refine ⟨fun _ => ?_, fun h => absurd h (by first | decide | simp)⟩
  conv => whnf
  refine xcall (stext_spec (hgq.sub hm4).strong hsr4 hfi.gl (by omega)) ?_
  rintro _ m5 ⟨rfl, hs5⟩
  conv => whnf
  obtain ⟨bl5, lv5, sv5, hsr5⟩ := hrd m5 (hm4.trans hs5)
  refine xcall (stext_spec (hgq.sub (hm4.trans hs5)).strong hsr5 hfi.gl (by omega)) ?_
  rintro _ m6 ⟨rfl, hs6⟩
  conv => whnf
  obtain ⟨bl6, lv6, sv6, hsr6⟩ := hrd m6 ((hm4.trans hs5).trans hs6)
  rw [strEq]
  refine ⟨fun _ => ?_, fun h => absurd h (by first | decide | simp)⟩
  conv => whnf
  first | refine xretk (ssure_spec hsr6) ?_ | refine xret (ssure_spec hsr6) ?_
  conv => whnf
  refine ⟨by rw [decide_eq_true hss], (hmq.trans hmr).trans ((hm4.trans hs5).trans hs6)⟩
set_option maxHeartbeats 8000000 in
theorem begins18_tail1 {mm m mq pst : Mem} {bs bf j : Nat} {sure : Nat} {q : Int} {s : Sto} {vl vs : Value} {last : List Int} {ss : List ByteArray} (hg : Glob m) (hpl : Play mm mq bs bf q j s) (hmq : Split mq [pst, m]) (hS : So pst vs ss) (hist : Hist ss sure s) (hj : j ≤ 45) (hsl : ss.length ≤ 100) (hsu : sure < ss.length) (hv : Ia m vl last) (hlast : last.length ≤ 9223372036854775807) (hI : ∀ x ∈ last, -9223372036854775808 ≤ x ∧ x ≤ 9223372036854775807) (hq : 0 ≤ q ∧ q ≤ 9223372036854775807) :
    xwpY c3 (restAt 18 (bodyOf Tryz.f3)) (QRetY tt.get Tryz.f3.results.toList fun r m' => r = [boolV true] ∧ Sub m m')
      [(2, .c (.v vl)), (7, .c (ptrB bf)), (11, .c (.v vs)), (12, .c (i64 sure))] [] mm [] := by
  obtain ⟨av, cv, rfl⟩ := hS.sl.shape
  have hpr := hpl.pr
  have hpg := hpl.g
  obtain ⟨nb, ns, A, hL, hfi, hsz⟩ := hpl.ex
  obtain ⟨pf, mr, ht, hmr, hf, _⟩ := hL.cut
  have hA := hf.safe
  have hmm : Sub m mq := hmq.sub (by simp)
  obtain ⟨g, P, R, K, hc, hg1, hPR, hcl, hKl, k, hk1, hk2, hk3⟩ := hist.found hfi hA last
  have hsz2 := hsz.crash hA last
  have hcl2 := cat_len hfi.gr
  have hgq := hg.sub (hmm.trans hmr)
  have hSr : So mr (.slice av ss.length cv) ss := hS.sub ((hmq.sub (a := pst) (by simp)).trans hmr)
  have hopP : (opened g P R K).P = P := rfl
  have hopR : (opened g P R K).R.length ≤ R.length := by
    show (R.take _).length ≤ _
    rw [List.length_take]; omega
  have hops : (opened g P R K).sure = (opened g P R K).R.length := by
    show wholeK R K = (R.take (wholeK R K)).length
    have := wholeK_le R K
    rw [List.length_take]; omega
  conv => whnf
  refine .at ?_
  conv => whnf
  refine xcall (crash_A (last := last) hf ht (hsz.sm (by omega)) (hv.sub (hmm.trans hmr)) hlast hI) ?_
  rintro _ m2 ⟨pf2, rfl, ht2, hf2⟩
  conv => whnf
  refine xcall (sopen_spec hgq ht2 hf2 (hsz2.sm (by omega)) hsz2.nm hc (by omega) hq (by omega) (by omega)) ?_
  rintro _ m3 ⟨bt, ns3, A3, rfl, hL3, hfi3, hns3, hgr3, _⟩
  conv => whnf
  have hsz3 := hsz2.opened hgr3 hns3 (by omega)
  have hfin : ∀ m4, Sub m3 m4 → _ := fun m4 h4 => begins18_tail2 (mm := m4) (bt := bt) (bf := bf) (last := last) (vl := vl) hg (hL3.grow h4) (hmm.trans hmr) hfi3 hsz3 (by omega) rfl hops (by rw [hopP]; omega) (by show g ≤ 60; omega) hv hlast hI hq
  obtain ⟨p3, pf3, ht3, hp3, _⟩ := hL3.ex
  have hm3 : Sub mr m3 := ht3.sub (by simp)
  have hll := sL_len (opened g P R K)
  rw [hopP] at hll
  generalize hop : opened g P R K = s3 at *
  generalize hT : txt s3.L = T at *
  refine ⟨fun h => absurd h (by first | decide | simp), fun _ => ?_⟩
  conv => whnf
  refine ⟨fun h => absurd h (by first | decide | simp), fun _ => ?_⟩
  conv => whnf
  refine .mk (ι := Nat × Bool) (fun i => ss.length - i.1) (fun ⟨i, b⟩ m4 => i ≤ ss.length ∧ sure ≤ i ∧ (b = true ↔ ∃ j, sure ≤ j ∧ j < i ∧ ss[j]? = some T) ∧ Sub m3 m4) (fun ⟨i, b⟩ => [(2, .c (.v vl)), (7, .c (ptrB bf)), (11, .c (.v (.slice av ss.length cv))), (14, .c (ptrB bt)), (16, .c (boolV b)), (17, .c (i64 i))]) (fun _ => []) (sure, false) ⟨by omega, Nat.le_refl _, by simp; omega, Sub.refl _⟩ ?_ ?_
  · conv => whnf
    repeat (refine And.intro (by first | with_reducible rfl | exact congrArg (Value.int _) (wi (by omega) (by omega)) | exact wi (by omega) (by omega) | rfl) ?_; conv => whnf)
    first | exact trivial | exact fun _ _ h => h
  rintro ⟨i, b⟩ m4 ⟨hi, hsi, hb, h4⟩
  have fin := hfin m4 h4
  conv => whnf
  refine ⟨fun h => ?_, fun h => ?_⟩
  · have h' := of_decide_eq_true h
    have hlt : i < ss.length := by omega
    clear h fin
    conv => whnf
    refine ⟨fun hbt => ?_, fun hbf => ?_⟩
    · subst hbt
      have hb' : true = true ↔ ∃ j, sure ≤ j ∧ j < i + 1 ∧ ss[j]? = some T := ⟨fun _ => by
        obtain ⟨j, e1, e2, e3⟩ := hb.1 rfl
        exact ⟨j, e1, by omega, e3⟩, fun _ => rfl⟩
      conv => whnf
      refine ⟨(i + 1, true), ⟨by omega, by omega, hb', h4⟩, by simp only; omega, ?_⟩
      conv => whnf
      repeat (refine And.intro (by first | with_reducible rfl | (first | exact congrArg (Value.int _) (iadd (by omega))) | exact congrArg (Value.int _) (wi (by omega) (by omega)) | exact wi (by omega) (by omega) | rfl) ?_; conv => whnf)
      first | exact trivial | exact fun _ _ h => h
    · subst hbf
      obtain ⟨b2, o2, c2, e, hcell⟩ := hSr.real' hlt
      cases e
      have hcell := hcell i hlt
      conv => whnf
      repeat (refine And.intro (by first | omega | (simp only [times]; omega)) ?_; conv => whnf)
      refine ⟨_, by simp only [times, Int.toNat_natCast, Nat.mul_one]; exact mcell_sub hcell (hm3.trans h4), rfl, ?_⟩
      obtain ⟨bl5, lv5, sv5, hsr5⟩ := hp3.read ((ht3.sub (a := p3) (by simp)).trans h4)
      conv => whnf
      refine xcall (stext_spec (hgq.sub (hm3.trans h4)).strong hsr5 hfi3.gl (by omega)) ?_
      rintro _ m5 ⟨rfl, hs5⟩
      conv => whnf
      have hTT : strI (kdsB s3.L) = T := hT
      rw [hTT]
      have hb' : decide (ss[i] = T) = true ↔ ∃ j, sure ≤ j ∧ j < i + 1 ∧ ss[j]? = some T := by
        constructor
        · intro h
          exact ⟨i, hsi, by omega, by rw [List.getElem?_eq_getElem hlt, of_decide_eq_true h]⟩
        · rintro ⟨j, e1, e2, e3⟩
          by_cases hji : j = i
          · subst hji
            rw [List.getElem?_eq_getElem hlt, Option.some.injEq] at e3
            exact decide_eq_true e3
          · have := hb.2 ⟨j, e1, by omega, e3⟩
            cases this
      refine ⟨kept1 ((hs5 _ _ (mcell_blk (mcell_sub hcell (hm3.trans h4))).choose_spec).trans (mcell_blk (mcell_sub hcell (hm3.trans h4))).choose_spec.symm), ?_⟩
      conv => whnf
      rw [strEq]
      refine ⟨(i + 1, decide (ss[i] = T)), ⟨by omega, by omega, hb', h4.trans hs5⟩, by simp only; omega, ?_⟩
      conv => whnf
      repeat (refine And.intro (by first | with_reducible rfl | (first | exact congrArg (Value.int _) (iadd (by omega))) | exact congrArg (Value.int _) (wi (by omega) (by omega)) | exact wi (by omega) (by omega) | rfl) ?_; conv => whnf)
      first | exact trivial | exact fun _ _ h => h
  · have h' := of_decide_eq_false h
    obtain rfl : i = ss.length := by omega
    clear h h'
    have hbt : b = true := hb.2 ⟨k, hk1, hk2, hk3⟩
    subst hbt
    have tl := fin
    conv at tl => whnf
    conv => whnf
    refine .via _ _ ?_ tl
    conv => whnf
    repeat (refine And.intro (by first | with_reducible rfl | exact congrArg (Value.int _) (wi (by omega) (by omega)) | exact wi (by omega) (by omega) | rfl) ?_; conv => whnf)
    first | exact trivial | exact fun _ _ h => h
theorem Play.side {m' m mq pst : Mem} {bs bf j : Nat} {q : Int} {s : Sto} (h : Play m' mq bs bf q j s) (hq : Split mq [pst, m]) : ∃ x, Split m' [x, pst, m] ∧ ∀ m'' pst', Split m'' [x, pst', m] → ∃ mq', Play m'' mq' bs bf q j s ∧ Split mq' [pst', m] := by
  obtain ⟨nb, ns, A, hL, hfi, hsz⟩ := h.ex
  obtain ⟨p, pf, h1, h2, h3⟩ := hL.ex
  have h4 : Split m' ([p, pf] ++ [pst, m]) := Split.weld (a := [p, pf]) h1 hq
  obtain ⟨h5, h6⟩ := Split.group _ h4
  refine ⟨allM [p, pf], h5, fun m'' pst' h7 => ?_⟩
  have h8 : Split m'' ([pst', m] ++ [allM [p, pf]]) := h7.perm (List.perm_append_comm (l₁ := [allM [p, pf]]) (l₂ := [pst', m]))
  have h9 : Split m'' ([pst', m] ++ [p, pf]) := Split.weld (a := [pst', m]) h8 h6
  obtain ⟨h10, h11⟩ := Split.group _ h9
  exact ⟨allM [pst', m], ⟨⟨nb, ns, A, ⟨p, pf, h10.perm (List.perm_append_comm (l₁ := [_]) (l₂ := [p, pf])), h2, h3⟩, hfi, hsz⟩, h.pr, h.g⟩, h11⟩
theorem Play.grow {m' m'' mq : Mem} {bs bf j : Nat} {q : Int} {s : Sto} (h : Play m' mq bs bf q j s) (hs : Sub m' m'') : Play m'' mq bs bf q j s := by
  obtain ⟨nb, ns, A, hL, hfi, hsz⟩ := h.ex
  exact ⟨⟨nb, ns, A, hL.grow hs, hfi, hsz⟩, h.pr, h.g⟩
theorem Play.reads {m' mq : Mem} {bs bf j : Nat} {q : Int} {s : Sto} (h : Play m' mq bs bf q j s) : ∃ bl lv sv, SR m' bs bf s bl lv sv := by
  obtain ⟨nb, ns, A, hL, hfi, hsz⟩ := h.ex
  obtain ⟨p, pf, h1, h2, h3⟩ := hL.ex
  exact h2.read (h1.sub (by simp))
theorem Play.goods {m' mq : Mem} {bs bf j : Nat} {q : Int} {s : Sto} (h : Play m' mq bs bf q j s) : (∀ x ∈ s.L, GoodK x) ∧ s.sure ≤ s.R.length ∧ (0 < s.st → s.sure = s.R.length) := by
  obtain ⟨nb, ns, A, hL, hfi, hsz⟩ := h.ex
  exact ⟨hfi.gl, hfi.su, hfi.ss⟩
set_option maxHeartbeats 8000000 in
theorem storeBegins_spec {m : Mem} {q : Int} {v vl : Value} {O : List O18} {last : List Int} (hg : Glob m) (hv : O18s m v O) (hO : O.length ≤ 9223372036854775807) (hl : Ia m vl last) (hlast : last.length ≤ 9223372036854775807) (hI : ∀ x ∈ last, -9223372036854775808 ≤ x ∧ x ≤ 9223372036854775807) (hq : -9223372036854775808 ≤ q ∧ q ≤ 9223372036854775807) :
    Spec Tryz.prog 3 [i64 q, .v v, .v vl] m fun r m' => r = [boolV true] ∧ Sub m m' := by
  obtain ⟨av, cv, rfl⟩ := hv.shape
  refine en3 rfl (goY ?_)
  conv => whnf
  by_cases hq0 : q < 0
  · first | refine xretk (new_neg hq0) ?_ | refine xret (new_neg hq0) ?_
    conv => whnf
    refine ⟨fun _ => ?_, fun h => absurd h (by first | decide | simp)⟩
    conv => whnf
    refine xcall (alive18_spec hg) ?_
    rintro _ m1 ⟨rfl, hs1⟩
    conv => whnf
    refine ⟨fun _ => ?_, fun h => absurd h (by first | decide | simp)⟩
    conv => whnf
    exact ⟨by rw [decide_eq_true hq0], hs1⟩
  refine xcall (new_spec (q := q) (by omega)) ?_
  rintro _ m1 ⟨bf, pf, rfl, hs, hf⟩
  conv => whnf
  refine ⟨fun h => absurd h (by first | decide | simp), fun _ => ?_⟩
  conv => whnf
  refine ⟨fun h => absurd h (by first | decide | simp), fun _ => ?_⟩
  conv => whnf
  refine xcall (sopen_spec hg hs hf (Smj (by simp) (by simp) (by omega) (by omega)) (fun a ha => by simp at ha) (CI.nil q) (by omega) (by omega) (by omega) (by simp)) ?_
  rintro _ m2 ⟨bs, ns1, A1, rfl, hL1, hfi1, hns1, hgr1, hsame1⟩
  conv => whnf
  obtain rfl := hsame1 rfl
  rw [opened00] at hL1 hfi1
  have hp0 : Play m2 m bs bf q 1 s0A := ⟨⟨0, ns1, [], hL1, hfi1, ⟨by simp, by simp, fun a ha => by simp at ha, by omega, by omega⟩⟩, by simp [s0A], by simp [s0A]⟩
  have hsub2 : Sub m m2 := by
    obtain ⟨p, pf, h1, _⟩ := hL1.ex
    exact h1.sub (by simp)
  obtain ⟨bl, lv, sv, hsr⟩ := hp0.reads
  refine ⟨fun h => absurd h (by first | decide | simp), fun _ => ?_⟩
  conv => whnf
  refine ⟨fun h => absurd h (by first | decide | simp), fun _ => ?_⟩
  conv => whnf
  refine xcall (stext_spec (hg.sub hsub2).strong hsr hfi1.gl (by decide)) ?_
  rintro _ m3 ⟨rfl, hs3⟩
  conv => whnf
  refine .mk _ (buildS1 (x := strI (kdsB s0A.L))) ?_
  rintro _ _ ⟨b4, hb4, rfl, rfl⟩
  conv => whnf
  obtain ⟨x0, hx1, hx2⟩ := (hp0.grow hs3).side (Split.one m).addEmp
  have hx3 : Split _ [blk1 b4 (.cells #[.string (strI (kdsB s0A.L))] 9), x0, emp, m] := hx1.new hb4 _
  have hx4 : Split _ [blk1 b4 (.cells #[.string (strI (kdsB s0A.L))] 9), x0, m] := hx3.erase 2
  obtain ⟨mq0, hP0, hmq0⟩ := hx2 _ _ (hx4.perm (List.Perm.swap _ _ _))
  have hS0 : So (blk1 b4 (.cells #[.string (strI (kdsB s0A.L))] 9)) (.slice (some ⟨b4, 0, none⟩) 1 1) [txt s0A.L] := .inr ⟨b4, 0, 1, 1, _, rfl, blk1_same .., rfl, Nat.le_refl _, Nat.le_refl _, fun j u hu => by simpa [txt] using hu, fun u hu => by simp at hu; rw [hu]; rfl⟩
  refine .mk (ι := Nat × Value × Nat) (fun i => 40 - i.1) (fun ⟨i, vs, sure⟩ m' => i ≤ O.length ∧ i ≤ 40 ∧ ∃ mq pst s ss, Play m' mq bs bf q (i + 1) s ∧ Split mq [pst, m] ∧ So pst vs ss ∧ Hist ss sure s ∧ ss.length ≤ i + 1 ∧ sure < ss.length) (fun ⟨i, vs, sure⟩ => [(1, .c (.v (.slice av O.length cv))), (2, .c (.v vl)), (7, .c (ptrB bf)), (9, .c (ptrB bs)), (11, .c (.v vs)), (12, .c (i64 sure)), (13, .c (i64 i))]) (fun _ => []) (0, .slice (some ⟨b4, 0, none⟩) 1 1, 0) ⟨by omega, by omega, mq0, _, s0A, [txt s0A.L], hP0, hmq0, hS0, Hist.start s0A rfl, by simp, by simp⟩ ?_ ?_
  · conv => whnf
    repeat (refine And.intro (by first | with_reducible rfl | exact congrArg (Value.int _) (wi (by omega) (by omega)) | exact wi (by omega) (by omega) | rfl) ?_; conv => whnf)
    first | exact trivial | exact fun _ _ h => h
  rintro ⟨i, vs, sure⟩ m' ⟨hi, hi40, mq, pst, s, ss, hP, hmq, hS, hH, hsl, hsu⟩
  have fin := begins18_tail1 (vl := vl) (last := last) hg hP hmq hS hH (by omega) (by omega) hsu hl hlast hI ⟨by omega, hq.2⟩
  have hmm : Sub m mq := hmq.sub (by simp)
  have hmm' : Sub mq m' := by
    obtain ⟨_, _, _, hL, _, _⟩ := hP.ex
    obtain ⟨p, pf, h1, _⟩ := hL.ex
    exact h1.sub (by simp)
  conv => whnf
  refine ⟨fun h1 => ?_, fun h1 => ?_⟩
  rotate_left
  · have tl := fin
    conv at tl => whnf
    conv => whnf
    refine .via _ _ ?_ tl
    conv => whnf
    repeat (refine And.intro (by first | with_reducible rfl | exact congrArg (Value.int _) (wi (by omega) (by omega)) | exact wi (by omega) (by omega) | rfl) ?_; conv => whnf)
    first | exact trivial | exact fun _ _ h => h
  have hi1 : i < O.length := by have := of_decide_eq_true h1; omega
  clear h1
  conv => whnf
  refine ⟨fun h1 => ?_, fun h1 => ?_⟩
  rotate_left
  · have tl := fin
    conv at tl => whnf
    conv => whnf
    refine .via _ _ ?_ tl
    conv => whnf
    repeat (refine And.intro (by first | with_reducible rfl | exact congrArg (Value.int _) (wi (by omega) (by omega)) | exact wi (by omega) (by omega) | rfl) ?_; conv => whnf)
    first | exact trivial | exact fun _ _ h => h
  have hi2 : i < 40 := by have := of_decide_eq_true h1; omega
  clear h1 fin
  obtain ⟨bo, oo, co, e, hgo⟩ := hv.elem i hi1
  cases e
  have hgi := hgo i hi1
  have hoi := hv.ok O[i] (List.getElem_mem hi1)
  generalize O[i] = op at hgi hoi
  have hok : LB.ok (o18L op) := ⟨rfl, rfl, hoi.u.1, rfl, hoi.lv, trivial⟩
  conv => whnf
  repeat (refine And.intro (by first | omega | (simp only [times]; omega)) ?_; conv => whnf)
  refine ⟨o18L op, hok, rfl, by simp only [times, Int.toNat_natCast]; exact (hgi.sub hmm).sub hmm', ?_⟩
  conv => whnf
  first | refine xretk (great18_spec (k := op.kind) (key := op.key) (u := op.u) (a := op.a) (n := op.l.length) (c := op.c) (lv := op.lv)) ?_ | refine xret (great18_spec (k := op.kind) (key := op.key) (u := op.u) (a := op.a) (n := op.l.length) (c := op.c) (lv := op.lv)) ?_
  conv => whnf
  refine ⟨fun h1 => ?_, fun h1 => ?_⟩
  · conv => whnf
    refine xcall (alive18_spec (hg.sub (hmm.trans hmm'))) ?_
    rintro _ m5 ⟨rfl, hs5⟩
    conv => whnf
    exact ⟨rfl, (hmm.trans hmm').trans hs5⟩
  have hsm : op.l.length ≤ 60 ∧ op.key.size ≤ 100 := by
    simp only [Bool.or_eq_false_iff, decide_eq_false_iff_not] at h1
    omega
  clear h1
  conv => whnf
  repeat (refine And.intro (by first | omega | (simp only [times]; omega)) ?_; conv => whnf)
  refine ⟨o18L op, hok, rfl, by simp only [times, Int.toNat_natCast]; exact (hgi.sub hmm).sub hmm', ?_⟩
  conv => whnf
  obtain ⟨hgl, hsule, hss⟩ := hP.goods
  refine xcall (splay_spec (k := op.kind) (key := op.key) (u := op.u) (E := op.l) (hg.sub hmm) hP (by omega) (hoi.l.sub hmm) ⟨hoi.u, hoi.e, by simp only; omega⟩ (by omega) ⟨by omega, hq.2⟩ hoi.lv) ?_
  rintro _ m5 ⟨b, s', rfl, hP5, hD, _⟩
  conv => whnf
  refine ⟨fun hb => ?_, fun hb => ?_⟩
  · subst hb
    obtain ⟨x, rfl⟩ : ∃ x, s' = s.put x := by cases hD; exact ⟨_, rfl⟩
    obtain ⟨hgl5, _, _⟩ := hP5.goods
    have hll5 := hP5.L_len
    obtain ⟨bl5, lv5, sv5, hsr5⟩ := hP5.reads
    have hmm5 : Sub mq m5 := by
      obtain ⟨_, _, _, hL, _, _⟩ := hP5.ex
      obtain ⟨p, pf, h1, _⟩ := hL.ex
      exact h1.sub (by simp)
    conv => whnf
    refine xcall (stext_spec (hg.sub (hmm.trans hmm5)).strong hsr5 hgl5 (by omega)) ?_
    rintro _ m6 ⟨rfl, hs6⟩
    conv => whnf
    refine .mk _ (buildS1 (x := strI (kdsB (s.put x).L))) ?_
    rintro _ _ ⟨b7, hb7, rfl, rfl⟩
    conv => whnf
    obtain ⟨x7, hx71, hx72⟩ := (hP5.grow hs6).side hmq
    refine .mk _ (pushS (i := 1) hx71 rfl hb7 hS (by omega)) ?_
    rintro _ m7 ⟨vs6, pst6, rfl, ht7, hS6⟩
    conv => whnf
    obtain ⟨mq6, hP6, hmq6⟩ := hx72 _ _ ht7
    have hH6 : Hist (ss ++ [strI (kdsB (s.put x).L)]) sure (s.put x) := hH.put x
    have hss6l : (ss ++ [strI (kdsB (s.put x).L)]).length ≤ i + 1 + 1 := by rw [List.length_append]; simp; omega
    have hsu6 : sure < (ss ++ [strI (kdsB (s.put x).L)]).length := by rw [List.length_append]; omega
    generalize ss ++ [strI (kdsB (s.put x).L)] = ss6 at *
    generalize s.put x = s' at *
    obtain ⟨bl9, lv9, sv9, hsr9⟩ := hP6.reads
    first | refine xretk (ssure_spec hsr9) ?_ | refine xret (ssure_spec hsr9) ?_
    conv => whnf
    refine ⟨fun hsu => ?_, fun hsu => ?_⟩
    · have hsu' := of_decide_eq_true hsu
      have hpos := hH6.pos
      have ew : IntKind.i64.wrap ((ss6.length : Int) - 1) = ((ss6.length - 1 : Nat) : Int) := by rw [wi (by omega) (by omega)]; omega
      obtain ⟨av6, cv6, rfl⟩ := hS6.sl.shape
      conv => whnf
      rw [ew]
      refine ⟨(i + 1, .slice av6 ss6.length cv6, ss6.length - 1), ⟨by omega, by omega, mq6, pst6, s', ss6, hP6, hmq6, hS6, hH6.sure hsu', by omega, by omega⟩, by simp only; omega, ?_⟩
      conv => whnf
      repeat (refine And.intro (by first | with_reducible rfl | (first | exact congrArg (Value.int _) (iadd (by omega))) | exact congrArg (Value.int _) (wi (by omega) (by omega)) | exact wi (by omega) (by omega) | rfl) ?_; conv => whnf)
      first | exact trivial | exact fun _ _ h => h
    · conv => whnf
      refine ⟨(i + 1, vs6, sure), ⟨by omega, by omega, mq6, pst6, s', ss6, hP6, hmq6, hS6, hH6, by omega, by omega⟩, by simp only; omega, ?_⟩
      conv => whnf
      repeat (refine And.intro (by first | with_reducible rfl | (first | exact congrArg (Value.int _) (iadd (by omega))) | exact congrArg (Value.int _) (wi (by omega) (by omega)) | exact wi (by omega) (by omega) | rfl) ?_; conv => whnf)
      first | exact trivial | exact fun _ _ h => h
  · subst hb
    have hH6 := hH.done hD hsule hss
    conv => whnf
    obtain ⟨bl9, lv9, sv9, hsr9⟩ := hP5.reads
    first | refine xretk (ssure_spec hsr9) ?_ | refine xret (ssure_spec hsr9) ?_
    conv => whnf
    refine ⟨fun hsu => ?_, fun hsu => ?_⟩
    · have hsu' := of_decide_eq_true hsu
      have hpos := hH6.pos
      have ew : IntKind.i64.wrap ((ss.length : Int) - 1) = ((ss.length - 1 : Nat) : Int) := by rw [wi (by omega) (by omega)]; omega
      obtain ⟨av6, cv6, rfl⟩ := hS.sl.shape
      conv => whnf
      rw [ew]
      refine ⟨(i + 1, .slice av6 ss.length cv6, ss.length - 1), ⟨by omega, by omega, mq, pst, s', ss, hP5, hmq, hS, hH6.sure hsu', by omega, by omega⟩, by simp only; omega, ?_⟩
      conv => whnf
      repeat (refine And.intro (by first | with_reducible rfl | (first | exact congrArg (Value.int _) (iadd (by omega))) | exact congrArg (Value.int _) (wi (by omega) (by omega)) | exact wi (by omega) (by omega) | rfl) ?_; conv => whnf)
      first | exact trivial | exact fun _ _ h => h
    · conv => whnf
      refine ⟨(i + 1, vs, sure), ⟨by omega, by omega, mq, pst, s', ss, hP5, hmq, hS, hH6, by omega, by omega⟩, by simp only; omega, ?_⟩
      conv => whnf
      repeat (refine And.intro (by first | with_reducible rfl | (first | exact congrArg (Value.int _) (iadd (by omega))) | exact congrArg (Value.int _) (wi (by omega) (by omega)) | exact wi (by omega) (by omega) | rfl) ?_; conv => whnf)
      first | exact trivial | exact fun _ _ h => h
end Go.E.YtcionccfgcnhoaaGreatDoor
namespace Go.E
open Go.Proofs
end Go.E
namespace Go.E.YtcionccfgcnhoaaGreatDoor
open Go.Proofs
set_option maxRecDepth 100000
abbrev shEn : Sh := .pair (.int .i64) (.pair (.int .i64) (.pair (.int .u64) (.pair (.int .i64) .unit)))
abbrev shCa : Sh := .pair (.rep 8 (.int .u64)) (.pair (.slice shEn) .unit)
abbrev shO18 : Sh := .pair (.int .i64) (.pair .str (.pair shCa (.pair (.slice (.int .i64)) .unit)))
theorem wfI18 {n : Int} (h : (Lit.int .i64 n).wf = true) : I n := by
  have := wf_i64 h
  exact ⟨this.1, by omega⟩
theorem dat_en {m : Mem} {cs : List Value} (h : Dat m shEn cs) : ∃ e : En, cs = encE e ∧ okE e := by
  obtain ⟨_, _, rfl, ⟨n1, rfl, h1⟩, _, _, rfl, ⟨n2, rfl, h2⟩, _, _, rfl, ⟨n3, rfl, h3⟩, _, _, rfl, ⟨n4, rfl, h4⟩, h5⟩ := h
  simp only [Dat] at h5
  subst h5
  exact ⟨(n1, n2, n3, n4), rfl, wfI18 h1, wfI18 h2, wf_u64 h3, wfI18 h4⟩
theorem dat_en_rows {m : Mem} : ∀ {els : List (List Value)}, (∀ c ∈ els, Dat m shEn c) → ∃ E : List En, els.flatten = E.flatMap encE ∧ E.length = els.length ∧ ∀ e ∈ E, okE e
  | [], _ => ⟨[], rfl, rfl, by simp⟩
  | c :: els, h => by
    obtain ⟨e, rfl, he⟩ := dat_en (h c (by simp))
    obtain ⟨E, h1, h2, h3⟩ := dat_en_rows (els := els) fun c hc => h c (by simp [hc])
    refine ⟨e :: E, by rw [List.flatten_cons, List.flatMap_cons, h1], by simp [h2], fun d hd => ?_⟩
    rcases List.mem_cons.1 hd with rfl | hd
    · exact he
    · exact h3 d hd
theorem dat_ens {m : Mem} {cs : List Value} (h : Dat m (.slice shEn) cs) : ∃ a c E, cs = [.slice a (E : List En).length c] ∧ Na m (.slice a E.length c) E ∧ ∀ e ∈ E, okE e := by
  obtain ⟨v, els, rfl, h1, h2, h3, h4⟩ := h
  obtain ⟨E, e1, e2, e3⟩ := dat_en_rows h3
  have hna : Na m v E := by
    rcases h1 with h1 | ⟨rfl, a, rfl⟩
    · rw [e1] at h1; exact .inl h1
    · exact .inr ⟨List.eq_nil_of_length_eq_zero (by simpa using e2), a, rfl⟩
  obtain ⟨a, c, rfl⟩ := hna.shape
  exact ⟨a, c, E, rfl, hna, e3⟩
theorem dat_o18 {m : Mem} {cs : List Value} (h : Dat m shO18 cs) : ∃ o : O18, cs = LB.cells (o18L o) ∧ o.Ok m := by
  obtain ⟨_, _, rfl, ⟨n1, rfl, _⟩, _, _, rfl, ⟨k, rfl, _⟩, _, _, rfl, hc, _, _, rfl, hl, h5⟩ := h
  simp only [Dat] at h5
  subst h5
  obtain ⟨_, _, rfl, hu, _, _, rfl, he, h6⟩ := hc
  simp only [Dat] at h6
  subst h6
  obtain ⟨u, rfl, hu1, hu2⟩ := dat_ints hu
  obtain ⟨a, c, E, rfl, hE, hEo⟩ := dat_ens he
  obtain ⟨v, l, rfl, g1, _, _⟩ := dat_last hl
  exact ⟨⟨n1, k, u, a, c, E, v⟩, by simp [LB.cells, Seg.cells], ⟨hu1, fun x hx => wf_u64 (hu2 x hx)⟩, hEo, hE, g1.one⟩
theorem o18_len {m : Mem} {o : O18} (h : o.Ok m) : (LB.cells (o18L o)).length = 12 := by simp [LB.cells, Seg.cells, h.u.1]
theorem dat_o18_rows {m : Mem} : ∀ {els : List (List Value)}, (∀ c ∈ els, Dat m shO18 c) → ∃ O : List O18, els = O.map (fun o => LB.cells (o18L o)) ∧ ∀ o ∈ O, o.Ok m
  | [], _ => ⟨[], rfl, by simp⟩
  | c :: els, h => by
    obtain ⟨o, rfl, ho⟩ := dat_o18 (h c (by simp))
    obtain ⟨O, rfl, h2⟩ := dat_o18_rows (els := els) fun c hc => h c (by simp [hc])
    refine ⟨o :: O, rfl, fun d hd => ?_⟩
    rcases List.mem_cons.1 hd with rfl | hd
    · exact ho
    · exact h2 d hd
theorem dat_o18s {m : Mem} {cs : List Value} (h : Dat m (.slice shO18) cs) : ∃ v O, cs = [v] ∧ O18s m v O ∧ O.length ≤ 9223372036854775807 := by
  obtain ⟨v, els, rfl, h1, h2, h3, h4⟩ := h
  obtain ⟨O, rfl, hO⟩ := dat_o18_rows h3
  rw [List.length_map] at h2 h4
  refine ⟨v, O, rfl, ⟨hO, ?_, fun i hi => ?_⟩, h4⟩
  · rcases h1 with h1 | ⟨h1, a, rfl⟩
    · rcases h1 with ⟨c, rfl, _⟩ | ⟨b, o, c, n, arr, t, fr, rfl, _⟩
      · exact ⟨none, c, by rw [← h2]; rfl⟩
      · exact ⟨_, c, by rw [← h2]; rfl⟩
    · exact ⟨_, 0, by rw [← h2]; rfl⟩
  · rcases h1 with h1 | ⟨h1, a, rfl⟩
    · obtain ⟨b, o, c, e1, e2⟩ := Lies.elem (s := 12) h1 (fun c hc => by
        obtain ⟨o, ho, rfl⟩ := List.mem_map.1 hc
        exact o18_len (hO o ho)) (by decide) (by rw [List.length_map]; exact h2) (i := i) (by rw [List.length_map]; exact hi)
      rw [List.length_map] at e1
      exact ⟨b, o, c, e1, fun j hj => e2 j _ (by simp [hj])⟩
    · have : O = [] := by simpa using h1
      subst this
      simp at hi
end Go.E.YtcionccfgcnhoaaGreatDoor
namespace Go.E
theorem trod_ints {H : Type} {enc : TypeId × Value → H} {P : Program} {w : World} {base : Nat} {spare : Nat → Bool} {held : Bool} {fuel : Nat} {t e : TypeId} {cs : List Value} {n : Nat} {k : IntKind} {zs : List Int} {p : List MemPlace} (ht : P.underlying t = some (.array n e)) (he : P.underlying e = some (.int k)) (hc : P.cellsOf e = 1) (hct : P.cellsOf t = n)
    (h : DataW.trod enc P w base spare held fuel t cs = some (.agg (zs.map fun z => .lit (.int k z)), p)) : cs = zs.map fun z => Value.int k z := by
  obtain ⟨xs, m, _, ex, hl, hn, hel⟩ := DataW.trod_array ht h
  rw [hct] at hl
  have e1 : xs.map (·.1) = zs.map fun z => .lit (.int k z) := (DataW.agg.inj (Prod.mk.inj ex).1).symm
  have hz : zs.length = n := by have := congrArg List.length e1; simp at this; omega
  refine List.ext_getElem? fun i => ?_
  by_cases hi : i < n
  · have h1 := hel i hi
    rw [hc, Nat.mul_one, List.getElem?_eq_getElem (by omega)] at h1
    obtain ⟨z, f1, f2, _⟩ := DataW.trod_int he h1
    have e4 : (xs.map (·.1))[i]? = (zs.map fun z => (DataW.lit (.int k z) : DataW H))[i]? := by rw [e1]
    rw [List.getElem?_map, List.getElem?_map, List.getElem?_eq_getElem (by omega : i < xs.length), List.getElem?_eq_getElem (by omega : i < zs.length), f2] at e4
    have hzz : z = zs[i] := by simpa using e4
    have h0 : ((cs.drop i).take 1)[0]? = some (.int k z) := by rw [f1]; rfl
    rw [List.getElem?_map, List.getElem?_eq_getElem (by omega : i < zs.length), ← hzz]
    simpa using h0
  · rw [List.getElem?_eq_none (by omega), List.getElem?_eq_none (by simp; omega)]
theorem trod_iface {H : Type} {enc : TypeId × Value → H} {P : Program} {w : World} {base : Nat} {spare : Nat → Bool} {fuel : Nat} {t : TypeId} {cs : List Value} {ms : _} {name : String} {d : DataW H} {p : List MemPlace} (ht : P.underlying t = some (.interface ms))
    (h : DataW.trod enc P w base spare false fuel t cs = some (.iface name d, p)) : ∃ u v, cs = [.iface u v] := by
  cases fuel with
  | zero => simp [DataW.trod] at h
  | succ m =>
    unfold DataW.trod at h
    rw [ht] at h
    split at h <;> simp_all
theorem var_heap {P : Program} {W : World} {name : String} {g : Nat} {cs : Array Value} (hg : P.globalNamed name = some g) (h : W.var? P name = some cs) : ∃ T fr, W.heap[g]? = some (.cells cs T fr) := by
  unfold World.var? at h
  rw [hg] at h
  simp only [Option.bind_some] at h
  split at h
  · rename_i arr T fr hb
    injection h with h; subst h
    exact ⟨T, fr, hb⟩
  · cases h
end Go.E
namespace Go.E.YtcionccfgcnhoaaGreatDoor
open Go.Proofs
set_option maxRecDepth 100000
theorem glob_met {W : World} (h : laidMetH Tryz.prog [("math/bits.deBruijn32tab", Go.Proofs.YtcionccfgcnhoaaGreatDoor.Rows.laid_math_bits_deBruijn32tab), ("math/bits.deBruijn64tab", Go.Proofs.YtcionccfgcnhoaaGreatDoor.Rows.laid_math_bits_deBruijn64tab), ("internal/strconv.uint64pow10", Go.Proofs.YtcionccfgcnhoaaGreatDoor.Rows.laid_internal_strconv_uint64pow10), ("strconv.ErrRange", Go.Proofs.YtcionccfgcnhoaaGreatDoor.Rows.laid_strconv_ErrRange), ("strconv.ErrSyntax", Go.Proofs.YtcionccfgcnhoaaGreatDoor.Rows.laid_strconv_ErrSyntax)] W) : Glob (fun b => W.heap[b]?) := by
  rw [MakeChecks.laidMetH_plain _ _ _ (by kernel_rfl)] at h
  obtain ⟨ps, hl, _, _⟩ := h
  obtain ⟨g1, t1, c1, f1, p1, q1, hg1, ht1, hv1, hd1, hl, _⟩ := hl
  obtain ⟨g2, t2, c2, f2, p2, q2, hg2, ht2, hv2, hd2, hl, _⟩ := hl
  obtain ⟨g3, t3, c3, f3, p3, q3, hg3, ht3, hv3, hd3, hl, _⟩ := hl
  obtain ⟨g4, t4, c4, f4, p4, q4, hg4, ht4, hv4, hd4, hl, _⟩ := hl
  obtain ⟨g5, t5, c5, f5, p5, q5, hg5, ht5, hv5, hd5, hl, _⟩ := hl
  obtain rfl := Option.some.inj (gTab.symm.trans hg3)
  obtain rfl := Option.some.inj (gRng.symm.trans hg4)
  obtain rfl := Option.some.inj (gSyn.symm.trans hg5)
  obtain ⟨T3, r3, hh3⟩ := var_heap hg3 hv3
  obtain ⟨T4, r4, hh4⟩ := var_heap hg4 hv4
  obtain ⟨T5, r5, hh5⟩ := var_heap hg5 hv5
  obtain rfl := Option.some.inj ((show (Tryz.prog.globals[0]?).map (·.type) = some 260 by kernel_rfl).symm.trans ht3)
  obtain rfl := Option.some.inj ((show (Tryz.prog.globals[3]?).map (·.type) = some 167 by kernel_rfl).symm.trans ht4)
  obtain rfl := Option.some.inj ((show (Tryz.prog.globals[2]?).map (·.type) = some 167 by kernel_rfl).symm.trans ht5)
  have k3 := trod_ints (zs := Lib.pow10Tab) Tryz.underlying260 Tryz.underlying35 (by kernel_rfl) (by kernel_rfl) hd3
  obtain ⟨u4, w4, k4⟩ := trod_iface Tryz.underlying167 hd4
  obtain ⟨u5, w5, k5⟩ := trod_iface Tryz.underlying167 hd5
  refine ⟨⟨u5, w5, T5, r5, ?_⟩, ⟨u4, w4, T4, r4, ?_⟩, ⟨T3, r3, ?_⟩⟩
  · rw [hh5, ← Array.toArray_toList (xs := c5), k5]
  · rw [hh4, ← Array.toArray_toList (xs := c4), k4]
  · rw [hh3, ← Array.toArray_toList (xs := c3), k3]
end Go.E.YtcionccfgcnhoaaGreatDoor
