/-
  Laws of chapter 15.
-/
import Derived.Test.YtkapdbbjgpofnaaFrame
import Derived.Test.YtkapdbbjgpofnaaE21
import Derived.Test.YtkapdbbjgpofnaaE24
namespace Go.E.Ytkapdbbjgpofnaa
open Go.Proofs
set_option maxRecDepth 100000
theorem read_nil {m : Mem} {c : Nat} : Spec Try.prog 7 [.v (.slice none 0 c)] m fun r m' => ∃ v' ps p, r = [.v v', i64 ((Fr.read (([] : List Int).length + 1) []).2.1 : Nat), i64 (Fr.read (([] : List Int).length + 1) []).2.2] ∧ Split m' [p, m] ∧ Lists p v' ps ∧ ps.map (·.2) = (Fr.read (([] : List Int).length + 1) []).1 := by
  have hst := (Got.start []).stop (by simp [Fr.next_nil])
  refine en7 rfl (goY ?_)
  conv => whnf
  refine .mk 0 _ rfl (ι := Nat) (fun i => i) (fun _ _ => False) (fun _ => []) (fun _ => []) ?_ ?_
  · conv => whnf
    repeat (refine And.intro (by first | omega | (simp only [times]; omega)) ?_; conv => whnf)
    refine xcall (next_spec (l := []) (.inl (Lb.nil _ _)) (fun x hx => by cases hx) (by simp)) ?_
    rintro _ m1 ⟨v1, p1, rfl, hs1, hv1⟩
    conv => whnf
    rw [Fr.next_nil]
    refine ⟨fun h => absurd h (by decide), fun _ => ?_⟩
    conv => whnf
    rw [hst]
    exact ⟨_, [], emp, rfl, (hs1.erase 0).addEmp, ⟨.inl ⟨_, rfl, rfl⟩, by simp⟩, rfl⟩
  · rintro i mm h; exact h.elim
theorem strOf_inj {a b : List Int} (ha : Byt a) (hb : Byt b) (h : strOf a = strOf b) : a = b := by
  have h1 := congrArg (fun s : ByteArray => s.data.toList) h
  simp only [strOf_data] at h1
  exact by8_inj ha hb h1
def Ls (m : Mem) (v : Value) (ls : List (List Int)) : Prop := ∃ ps, Lists m v ps ∧ ps.map (·.2) = ls
set_option maxHeartbeats 1000000 in
theorem same_spec {m : Mem} {v w : Value} {ps qs : List (Value × List Int)} (hv : Lists m v ps) (hw : Lists m w qs) (hbp : ∀ p ∈ ps, Byt p.2) (hbq : ∀ p ∈ qs, Byt p.2) (hl : ps.length ≤ 100000000) (hlp : ∀ p ∈ ps, Lb m p.1 p.2) (hlq : ∀ p ∈ qs, Lb m p.1 p.2) : Ret Try.prog 8 [.v v, .v w] m [boolV (decide (ps.map (·.2) = qs.map (·.2)))] := by
  obtain ⟨a, c, rfl⟩ := hv.shape
  obtain ⟨aw, cw, rfl⟩ := hw.shape
  refine en8 rfl (goY ?_)
  conv => whnf
  refine ⟨fun h => ?_, fun h => ?_⟩
  · conv => whnf
    have : ps.map (·.2) ≠ qs.map (·.2) := fun e => by have := congrArg List.length e; simp at this; simp [this] at h
    rw [decide_eq_false this]
    exact ⟨rfl, rfl⟩
  have hlk : ps.length = qs.length := by simp at h; omega
  clear h
  conv => whnf
  refine .mk (ι := Nat) (fun i => ps.length - i) (fun i mm => i ≤ ps.length ∧ (ps.take i).map (·.2) = (qs.take i).map (·.2) ∧ mm = m) (fun i => [(0, .c (.v (.slice a ps.length c))), (1, .c (.v (.slice aw qs.length cw))), (5, .c (i64 i))]) (fun _ => []) 0 ⟨by omega, by simp, rfl⟩ ?_ ?_
  · conv => whnf
    repeat (refine And.intro (by first | with_reducible rfl | exact congrArg (Value.int _) (wi (by omega) (by omega)) | exact wi (by omega) (by omega) | rfl) ?_; conv => whnf)
    first | exact trivial | exact fun _ _ h => h
  rintro i mm ⟨hi, htk, he⟩
  subst mm
  conv => whnf
  refine ⟨fun h1 => ?_, fun h1 => ?_⟩
  · have h1' := of_decide_eq_true h1
    have hlt : i < ps.length := by omega
    have hltk : i < qs.length := by omega
    obtain ⟨b, o, c', hh, hg⟩ := hv.real hlt
    injection hh with hh1 _ hh3
    subst hh1
    clear hh3 c'
    obtain ⟨bw, ow, c', hh, hgw⟩ := hw.real hltk
    injection hh with hh1 _ hh3
    subst hh1
    clear hh3 c'
    have hla := hlp _ (List.getElem_mem hlt)
    have hlb := hlq _ (List.getElem_mem hltk)
    have hpb := hbp _ (List.getElem_mem hlt)
    have hqb := hbq _ (List.getElem_mem hltk)
    have hgi := hg i hlt
    have hgwi := hgw i hltk
    have hstep : (ps.take (i + 1)).map (·.2) = (qs.take (i + 1)).map (·.2) ↔ ps[i].2 = qs[i].2 := by
      rw [List.take_succ_eq_append_getElem hlt, List.take_succ_eq_append_getElem hltk, List.map_append, List.map_append, htk]
      simp
    have hall : ps[i].2 ≠ qs[i].2 → ps.map (·.2) ≠ qs.map (·.2) := fun hne e => hne (by
      have := congrArg (fun l => l[i]?) e
      simpa [List.getElem?_eq_getElem hlt, List.getElem?_eq_getElem hltk] using this)
    generalize ps[i] = pi at *
    generalize qs[i] = qi at *
    obtain ⟨pv, pl⟩ := pi
    obtain ⟨qv, ql⟩ := qi
    simp only at *
    rcases hla.cases with ⟨pc, rfl, rfl⟩ | ⟨pb, po, pc, parr, pt, pf, rfl, p1, p2, p3⟩ <;> rcases hlb.cases with ⟨qc, rfl, rfl⟩ | ⟨qb, qo, qc, qarr, qt, qf, rfl, q1, q2, q3⟩
    all_goals
      conv => whnf
      repeat (refine And.intro (by first | omega | (simp only [times]; omega)) ?_; conv => whnf)
      refine ⟨_, by simp only [times, Int.toNat_natCast, Nat.mul_one]; exact hgi, rfl, ?_⟩
      conv => whnf
      first | (refine ⟨pl, rfl, hla.range, ?_⟩; conv => whnf) | skip
      first | (refine And.intro (by omega) ?_; conv => whnf) | skip
      refine ⟨_, by simp only [times, Int.toNat_natCast, Nat.mul_one]; exact hgwi, rfl, ?_⟩
      conv => whnf
      first | (refine ⟨ql, rfl, hlb.range, ?_⟩; conv => whnf) | skip
      try rw [show ByteArray.empty.toList = by8 [] from by rw [ByteArray.toList_eq]; rfl]
      try rw [strOf_list]
      try rw [strOf_list]
      refine ⟨fun h2 => ?_, fun h2 => ?_⟩
      · conv => whnf
        refine ⟨?_, rfl⟩
        rw [decide_eq_false (hall (fun e => by have h3 := congrArg by8 e; rw [h3] at h2; simp at h2))]
      · conv => whnf
        refine ⟨i + 1, ⟨by omega, hstep.2 (by8_inj hpb hqb (by have h4 := h2; simp only [Bool.not_eq_eq_eq_not, Bool.not_false, beq_iff_eq] at h4; first | exact h4 | rfl)), rfl⟩, by omega, ?_⟩
        conv => whnf
        repeat (refine And.intro (by first | with_reducible rfl | (first | exact congrArg (Value.int _) (iadd (by omega))) | exact congrArg (Value.int _) (wi (by omega) (by omega)) | exact wi (by omega) (by omega) | rfl) ?_; conv => whnf)
        first | exact trivial | exact fun _ _ h => h
  · have h1' := of_decide_eq_false h1
    obtain rfl : i = ps.length := by omega
    rw [List.take_length, hlk, List.take_length] at htk
    conv => whnf
    rw [decide_eq_true htk]
    exact ⟨rfl, rfl⟩
theorem mcell_sub {m m' : Mem} {b o : Nat} {v : Value} (h : mcell m b o = some v) (hs : Sub m m') : mcell m' b o = some v := by
  unfold mcell at h ⊢
  cases hb : m b with
  | none => simp [hb] at h
  | some u => rw [hb] at h; rw [hs _ _ hb]; exact h
theorem build9 {m : Mem} {x1 x2 x3 x4 x5 x6 x7 x8 x9 : Int} : PrimSpec Try.prog (.buildSlice 23 9 [0, 1, 2, 3, 4, 5, 6, 7, 8]) [.v (.int .u8 x1), .v (.int .u8 x2), .v (.int .u8 x3), .v (.int .u8 x4), .v (.int .u8 x5), .v (.int .u8 x6), .v (.int .u8 x7), .v (.int .u8 x8), .v (.int .u8 x9)] m fun r m' => ∃ b, m b = none ∧ r = [.v (.slice (some ⟨b, 0, none⟩) 9 9)] ∧ m' = m.set b (.cells (bc [x1, x2, x3, x4, x5, x6, x7, x8, x9]).toArray 5) :=
  buildSlice_spec (n := 9) tt_ok hBs rfl hU8 rfl rfl (by simp [CV.cs]) (by simp) (by simp)
theorem alive15_spec {m : Mem} : Spec Try.prog 5 [] m fun r m' => r = [boolV true] ∧ Sub m m' := by
  have w1 : Fr.wr [97, 98] = [1, 2, 97, 98, 109, 72, 131, 158] := by decide +kernel
  refine en5 rfl (goY ?_)
  conv => whnf
  refine .mk _ (build2) ?_
  rintro _ _ ⟨b1, hb1, rfl, rfl⟩
  conv => whnf
  refine .mk _ (conv_spec (b := b1) (l := [97, 98]) (Mem.set_same ..)) ?_
  rintro _ _ ⟨rfl, rfl⟩
  conv => whnf
  have hla0 : ∀ o, La ((m.set b1 o).set b1 (.cells (bc [97, 98]).toArray 5 ((bc [97, 98]).toArray.size, (bc [97, 98]).toArray.size + 1))) (.slice (some ⟨b1, 0, none⟩) 2 2) [97, 98] := fun o => (Lb.blkf (l := [97, 98]) (Mem.set_same ..) rfl).la
  have hs0 := ((Split.one m).new hb1 (.cells (bc [97, 98]).toArray 5)).setAt (i := 0) rfl (blk1_same ..) (.cells (bc [97, 98]).toArray 5 ((bc [97, 98]).toArray.size, (bc [97, 98]).toArray.size + 1))
  refine xcall (write_ok (hla0 _) (by decide) (by decide)) ?_
  rintro _ m2 ⟨v2, p2, rfl, hs2, hv2⟩
  conv => whnf
  have hs2 := (hs2.under (a := [p2]) hs0).erase 1
  rw [w1] at hv2
  change Split m2 [p2, m] at hs2
  obtain ⟨ba, oa, ca, rfl⟩ := hv2.lb.real (by simp)
  have hca := Lb.cap' hv2.lb
  refine .mk _ (buildB0) ?_
  rintro _ _ ⟨b3, hb3, rfl, rfl⟩
  conv => whnf
  have hs3 := hs2.new hb3 (.cells #[] 5)
  refine .mk _ (appendBat (i := 0) hs3 rfl (Bs.none0 (blk1_same ..)) (hv2.lb.la.sub (hs3.sub (by simp))) (by simp)) ?_
  rintro _ m4 ⟨v4, p4, rfl, hs4, hv4⟩
  conv => whnf
  have hs4 : Split m4 [p4, p2, m] := hs4
  refine .mk _ (build1) ?_
  rintro _ _ ⟨b5, hb5, rfl, rfl⟩
  conv => whnf
  refine .mk _ (Bs.one hs4 hb5 hv4.own (by simp)) ?_
  rintro _ m6 ⟨v6, p6, rfl, hs6, hv6⟩
  conv => whnf
  obtain ⟨b6, o6, c6, rfl⟩ := hv6.lb.real (by simp)
  refine xcall (read_spec (hv6.lb.la.sub (hs6.sub (by simp))) (by decide) (by simp) (Lb.cap' hv6.lb)) ?_
  rintro _ m7 ⟨v7, ps7, p7, rfl, hs7, hl7, hps7⟩
  conv => whnf
  have hs7 := hs7.under (a := [p7]) hs6
  have e7 : Fr.read 10 [1, 2, 97, 98, 109, 72, 131, 158, 1] = ([[97, 98]], 8, 0) := by decide +kernel
  simp only [List.nil_append, List.cons_append, List.length_cons, List.length_nil, Nat.zero_add, Nat.reduceAdd, e7] at hps7 ⊢
  obtain ⟨pv, rfl⟩ : ∃ pv, ps7 = [(pv, [97, 98])] := by
    rcases ps7 with _ | ⟨⟨pv, pl⟩, _ | ⟨_, _⟩⟩ <;> simp at hps7
    exact ⟨pv, by rw [hps7]⟩
  obtain ⟨b7, o7, c7, rfl, hg7⟩ := hl7.real (i := 0) (by simp)
  have hg7 : mcell p7 b7 (o7 + 0) = some pv := hg7 0 (by simp)
  have hpv : La p7 pv [97, 98] := hl7.la (pv, [97, 98]) (by simp)
  obtain ⟨bv, ov, cv, rfl⟩ := La.real hpv (by simp)
  refine ⟨fun h => absurd h (by decide), fun _ => ?_⟩
  conv => whnf
  refine .mk _ (buildB0) ?_
  rintro _ _ ⟨b8, hb8, rfl, rfl⟩
  conv => whnf
  have hs8 := hs7.new hb8 (.cells #[] 5)
  refine .mk _ (appendBat (i := 0) hs8 rfl (Bs.none0 (blk1_same ..)) (hv2.lb.la.sub (hs8.sub (by simp))) (by simp)) ?_
  rintro _ m9 ⟨v9, p9, rfl, hs9, hv9⟩
  conv => whnf
  have hs9 : Split m9 [p9, p7, p6, p2, m] := hs9
  have hv9 := hv9.own
  obtain ⟨b9, o9, c9, rfl⟩ := hv9.lb.real (by simp)
  simp only [List.nil_append, List.length_cons, List.length_nil, Nat.zero_add, Nat.reduceAdd] at hv9 ⊢
  obtain ⟨arr, ha1, ha2, hv10⟩ := Bs.store (k := 2) (x := 120) hv9 (by simp)
  have hs10 := hs9.setAt (i := 0) rfl ha1 (.cells (arr.setIfInBounds (o9 + 2) (.int .u8 120)) 5 (0, 0))
  conv => whnf
  repeat (refine And.intro (by first | omega | (simp only [times]; omega)) ?_; conv => whnf)
  refine ⟨_, _, _, hs9.sub (a := p9) (by simp) _ _ ha1, ⟨ha2, by simp⟩, ?_⟩
  have hs10 : Split _ [_, p7, p6, p2, m] := hs10
  conv => whnf
  have hv10 : Bs _ (.slice (some ⟨b9, o9, none⟩) ([1, 2, 120, 98, 109, 72, 131, 158] : List Int).length c9) [1, 2, 120, 98, 109, 72, 131, 158] := hv10
  refine xcall (read_spec (l := [1, 2, 120, 98, 109, 72, 131, 158]) (hv10.lb.la.sub (hs10.sub (by simp))) (by decide) (by simp) (Lb.cap' hv10.lb)) ?_
  rintro _ m11 ⟨v11, ps11, p11, rfl, hs11, hl11, hps11⟩
  conv => whnf
  have hs11 := hs11.under (a := [p11]) hs10
  have e11 : Fr.read 9 [1, 2, 120, 98, 109, 72, 131, 158] = ([], 0, 9) := by decide +kernel
  simp only [List.length_cons, List.length_nil, Nat.zero_add, Nat.reduceAdd, e11] at hps11 ⊢
  have hca : 8 ≤ ca := hca
  repeat (refine And.intro (by first | omega | (simp only [times]; omega)) ?_; conv => whnf)
  intro o12 ho12 _
  obtain rfl : o12 = oa := by have := ho12 (by omega); simpa using this
  have hva : Bs p2 (.slice (some ⟨ba, o12, none⟩) 8 ca) [1, 2, 97, 98, 109, 72, 131, 158] := hv2
  have hcut := Lb.cut' (c' := ca) hva.lb 0 7 (by decide) (by omega)
  conv => whnf
  have hcut' : Lb p2 (.slice (some ⟨ba, o12, none⟩) ([1, 2, 97, 98, 109, 72, 131] : List Int).length ca) [1, 2, 97, 98, 109, 72, 131] := hcut
  refine xcall (read_spec (l := [1, 2, 97, 98, 109, 72, 131]) (hcut'.la.sub (hs11.sub (by simp))) (by decide) (by simp) (Lb.cap' hcut')) ?_
  rintro _ m12 ⟨v12, ps12, p12, rfl, hs12, hl12, hps12⟩
  conv => whnf
  have hs12 := hs12.under (a := [p12]) hs11
  have e12 : Fr.read 8 [1, 2, 97, 98, 109, 72, 131] = ([], 0, 0) := by decide +kernel
  simp only [List.length_cons, List.length_nil, Nat.zero_add, Nat.reduceAdd, e12] at hps12 ⊢
  obtain rfl : ps12 = [] := by simpa using hps12
  obtain ⟨a12, c12, rfl⟩ := hl12.shape
  first | refine xretk (write_bad (l := []) (.inl (Lb.nil _ _)) (by decide)) ?_ | refine xret (write_bad (l := []) (.inl (Lb.nil _ _)) (by decide)) ?_
  conv => whnf
  refine .mk _ (build1) ?_
  rintro _ _ ⟨b13, hb13, rfl, rfl⟩
  conv => whnf
  have hs13 := hs12.new hb13 (.cells (bc [0]).toArray 5)
  have hv13 : Lb _ (.slice (some ⟨b13, 0, none⟩) ([0] : List Int).length 1) [0] := Lb.blk (m := m12.set b13 (.cells (bc [0]).toArray 5)) (l := [0]) (Mem.set_same ..) rfl
  refine xcall (read_spec (l := [0]) hv13.la (by decide) (by simp) (by simp)) ?_
  rintro _ m14 ⟨v14, ps14, p14, rfl, hs14, hl14, hps14⟩
  conv => whnf
  have hs14 := hs14.under (a := [p14]) hs13
  have e14 : Fr.read 2 [0] = ([], 0, 3) := by decide +kernel
  simp only [List.length_cons, List.length_nil, Nat.zero_add, Nat.reduceAdd, e14] at hps14 ⊢
  refine .mk _ (build9) ?_
  rintro _ _ ⟨b15, hb15, rfl, rfl⟩
  conv => whnf
  have hs15 := hs14.new hb15 (.cells (bc [49, 50, 51, 52, 53, 54, 55, 56, 57]).toArray 5)
  refine .mk _ (conv_spec (b := b15) (l := [49, 50, 51, 52, 53, 54, 55, 56, 57]) (Mem.set_same ..)) ?_
  rintro _ _ ⟨rfl, rfl⟩
  conv => whnf
  have hs16 := hs15.setAt (i := 0) rfl (blk1_same ..) (.cells (bc [49, 50, 51, 52, 53, 54, 55, 56, 57]).toArray 5 ((bc [49, 50, 51, 52, 53, 54, 55, 56, 57]).toArray.size, (bc [49, 50, 51, 52, 53, 54, 55, 56, 57]).toArray.size + 1))
  have e16 : Fr.crc [49, 50, 51, 52, 53, 54, 55, 56, 57] = 3421780262 := by decide +kernel
  first | refine xretk (fsum_spec (l := [49, 50, 51, 52, 53, 54, 55, 56, 57]) (Lb.blkf (Mem.set_same ..) rfl).la (by decide) (by simp)) ?_ | refine xret (fsum_spec (l := [49, 50, 51, 52, 53, 54, 55, 56, 57]) (Lb.blkf (Mem.set_same ..) rfl).la (by decide) (by simp)) ?_
  conv => whnf
  rw [e16]
  refine ⟨fun _ => ?_, fun h => absurd h (by decide)⟩
  conv => whnf
  refine ⟨fun _ => ?_, fun h => absurd h (by decide)⟩
  conv => whnf
  repeat (refine And.intro (by first | omega | (simp only [times]; omega)) ?_; conv => whnf)
  intro o17 ho17 _
  obtain rfl : o17 = o12 := by have := ho17 (by omega); simpa using this
  have hcut4 : Lb p2 (.slice (some ⟨ba, o17, none⟩) 4 ca) [1, 2, 97, 98] := Lb.cut' (c' := ca) hva.lb 0 4 (by decide) (by omega)
  conv => whnf
  refine ⟨[1, 2, 97, 98], rfl, (hcut4.sub (hs16.sub (by simp))).range, ?_⟩
  conv => whnf
  refine ⟨fun _ => ?_, fun h => absurd h (by rw [strOf_list, ByteArray.toList_eq]; decide)⟩
  conv => whnf
  refine ⟨fun _ => ?_, fun h => absurd h (by decide)⟩
  conv => whnf
  repeat (refine And.intro (by first | omega | (simp only [times]; omega)) ?_; conv => whnf)
  refine ⟨_, mcell_sub hg7 (hs16.sub (a := p7) (by simp)), rfl, ?_⟩
  conv => whnf
  refine ⟨[97, 98], rfl, ((hpv.lb (by simp)).sub (hs16.sub (a := p7) (by simp))).range, ?_⟩
  conv => whnf
  refine ⟨fun _ => ?_, fun h => absurd h (by rw [strOf_list, ByteArray.toList_eq]; decide)⟩
  conv => whnf
  refine ⟨fun _ => ?_, fun h => absurd h (by decide)⟩
  conv => whnf
  refine ⟨fun _ => ?_, fun h => absurd h (by decide)⟩
  conv => whnf
  refine ⟨fun _ => ?_, fun h => absurd h (by decide)⟩
  conv => whnf
  refine ⟨fun _ => ?_, fun h => absurd h (by decide)⟩
  conv => whnf
  refine ⟨fun _ => ?_, fun h => absurd h (by decide)⟩
  conv => whnf
  refine ⟨fun _ => ?_, fun h => absurd h (by decide)⟩
  conv => whnf
  refine ⟨fun _ => ?_, fun h => absurd h (by decide)⟩
  conv => whnf
  refine ⟨fun _ => ?_, fun h => absurd h (by decide)⟩
  conv => whnf
  refine ⟨fun _ => ?_, fun h => absurd h (by decide)⟩
  conv => whnf
  exact ⟨rfl, hs16.sub (by simp)⟩
end Go.E.Ytkapdbbjgpofnaa
