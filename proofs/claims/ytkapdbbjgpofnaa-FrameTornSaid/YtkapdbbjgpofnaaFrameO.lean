/-
  Law FrameTorn.
-/
import Derived.Test.YtkapdbbjgpofnaaFrameN
namespace Go.E.Ytkapdbbjgpofnaa
open Go.Proofs
set_option maxRecDepth 100000
set_option maxHeartbeats 4000000 in
theorem frameTorn_spec {m : Mem} {v : Value} {ps : List (Value × List Int)} {n : Int} (hv : LsA m v ps) (hb : ∀ p ∈ ps, Byt p.2) (hn : -9223372036854775808 ≤ n ∧ n ≤ 9223372036854775807) : Spec Try.prog 3 [.v v, i64 n] m fun r m' => r = [boolV true] ∧ Sub m m' := by
  obtain ⟨a, c, rfl⟩ := hv.shape
  refine en3 rfl (goY ?_)
  conv => whnf
  have tail2 := @frameTorn_tail m
  have tail : ∀ mm va ve vt (ts : List (Value × List Int)) (pa pe pt : Mem), Split mm [pa, pe, pt, m] → Bs pa va (Fr.cat (ts.map (·.2))) → Own pe 3 1 ve (ends (ts.map (·.2))) → Own pt 23 1 vt (ts.map (·.1)) → Told m 12 ts →
      xwpY c3 (restAt 13 (bodyOf Try.f3)) (QRetY tt.get Try.f3.results.toList fun r m' => r = [boolV true] ∧ Sub m m')
        [(1, .c (i64 n)), (5, .c (.v va)), (6, .c (.v ve)), (7, .c (.v vt))] [] mm [] := by
    intro mm va ve vt ts pa pe pt hs ha he ht hT
    have hcl := hT.catlen
    have hTl := hT.len
    have hel : (ends (ts.map (·.2))).length = ts.length := by simp [ends]
    obtain ⟨aa, ca, rfl⟩ := ha.lb.shape
    have hva : Bs pa (.slice aa (Fr.cat (ts.map (·.2))).length ca) (Fr.cat (ts.map (·.2))) := ha
    generalize hlen : (Fr.cat (ts.map (·.2))).length = N at *
    have t2 : ∀ k : Nat, k ≤ N → xwpY c3 (restAt 15 (bodyOf Try.f3)) (QRetY tt.get Try.f3.results.toList fun r m' => r = [boolV true] ∧ Sub m m')
        [(1, .c (i64 k)), (5, .c (.v (.slice aa N ca))), (6, .c (.v ve)), (7, .c (.v vt))] [] mm [] := fun k hk => tail2 mm aa N ca ve vt ts pa pe pt k hlen hk hs hva he ht hT
    conv => whnf
    refine .at ?_
    conv => whnf
    refine ⟨fun h1 => ?_, fun h1 => ?_⟩
    · conv => whnf
      refine .via _ _ ?_ (t2 N (Nat.le_refl _))
      conv => whnf
      repeat (refine And.intro (by first | with_reducible rfl | exact congrArg (Value.int _) (wi (by omega) (by omega)) | exact wi (by omega) (by omega) | rfl) ?_; conv => whnf)
      first | exact trivial | exact fun _ _ h => h
    have h1' := of_decide_eq_false h1
    conv => whnf
    refine ⟨fun h2 => ?_, fun h2 => ?_⟩
    · conv => whnf
      refine .via _ _ ?_ (t2 N (Nat.le_refl _))
      conv => whnf
      repeat (refine And.intro (by first | with_reducible rfl | exact congrArg (Value.int _) (wi (by omega) (by omega)) | exact wi (by omega) (by omega) | rfl) ?_; conv => whnf)
      first | exact trivial | exact fun _ _ h => h
    have h2' := of_decide_eq_false h2
    obtain ⟨k, rfl⟩ : ∃ k : Nat, n = k := ⟨n.toNat, by omega⟩
    conv => whnf
    refine .via _ _ ?_ (t2 k (by omega))
    conv => whnf
    repeat (refine And.intro (by first | with_reducible rfl | exact congrArg (Value.int _) (wi (by omega) (by omega)) | exact wi (by omega) (by omega) | rfl) ?_; conv => whnf)
    first | exact trivial | exact fun _ _ h => h
  conv => whnf
  refine .mk (ι := Nat × Value × Value × Value) (fun i => 12 - i.1) (fun ⟨i, va, ve, vt⟩ mm => i ≤ ps.length ∧ i ≤ 12 ∧ ∃ (ts : List (Value × List Int)) (pa pe pt : Mem), Split mm [pa, pe, pt, m] ∧ Bs pa va (Fr.cat (ts.map (·.2))) ∧ Own pe 3 1 ve (ends (ts.map (·.2))) ∧ Own pt 23 1 vt (ts.map (·.1)) ∧ Told m i ts)
    (fun ⟨i, va, ve, vt⟩ => [(0, .c (.v (.slice a ps.length c))), (1, .c (i64 n)), (5, .c (.v va)), (6, .c (.v ve)), (7, .c (.v vt)), (8, .c (i64 i))]) (fun _ => []) (0, .slice none 0 0, .slice none 0 0, .slice none 0 0)
    ⟨by omega, by omega, [], emp, emp, emp, ((Split.one m).addEmp.addEmp.addEmp), Bs.nil _, .inl ⟨rfl, rfl⟩, .inl ⟨rfl, rfl⟩, ⟨by simp, by simp, by simp, by simp, by simp⟩⟩ ?_ ?_
  · conv => whnf
    repeat (refine And.intro (by first | with_reducible rfl | exact congrArg (Value.int _) (wi (by omega) (by omega)) | exact wi (by omega) (by omega) | rfl) ?_; conv => whnf)
    first | exact trivial | exact fun _ _ h => h
  rintro ⟨i, va, ve, vt⟩ mm ⟨hi, hi12, ts, pa, pe, pt, hs, ha, he, ht, hT⟩
  conv => whnf
  refine ⟨fun h1 => ?_, fun h1 => ?_⟩
  · have h1' := of_decide_eq_true h1
    conv => whnf
    refine ⟨fun h2 => ?_, fun h2 => ?_⟩
    · have h2' := of_decide_eq_true h2
      have hlt : i < ps.length := by omega
      obtain ⟨b, o, c', hh, hg⟩ := hv.real hlt
      injection hh with hh1 _ hh3
      subst hh1
      clear hh3 c'
      have hg := hg i hlt
      have hla := hv.la _ (List.getElem_mem hlt)
      have hpb := hb _ (List.getElem_mem hlt)
      generalize ps[i] = q at *
      obtain ⟨qv, ql⟩ := q
      simp only at hg hla hpb
      obtain ⟨qa, qc, rfl⟩ := hla.shape
      have hsub : Sub m mm := hs.sub (by simp)
      conv => whnf
      repeat (refine And.intro (by first | omega | (simp only [times]; omega)) ?_; conv => whnf)
      refine ⟨_, by simp only [times, Int.toNat_natCast, Nat.mul_one]; exact mcell_sub hg hsub, rfl, ?_⟩
      conv => whnf
      refine ⟨fun h3 => ?_, fun h3 => ?_⟩
      · conv => whnf
        refine xcall (alive15_spec) ?_
        rintro _ m2 ⟨rfl, hs2⟩
        conv => whnf
        exact ⟨rfl, hsub.trans hs2⟩
      have h3' := of_decide_eq_false h3
      conv => whnf
      repeat (refine And.intro (by first | omega | (simp only [times]; omega)) ?_; conv => whnf)
      refine ⟨_, by simp only [times, Int.toNat_natCast, Nat.mul_one]; exact mcell_sub hg hsub, rfl, ?_⟩
      conv => whnf
      by_cases hir : Fr.isRec ql.length = true
      · refine xcall (write_ok (hla.sub hsub) hpb hir) ?_
        rintro _ m2 ⟨vw, pw, rfl, hs2, hvw⟩
        conv => whnf
        have hs2 := hs2.under (a := [pw]) hs
        have hs2 : Split m2 [pw, pa, pe, pt, m] := hs2
        refine ⟨fun h => absurd h (by decide), fun _ => ?_⟩
        conv => whnf
        have hcl := hT.catlen
        have hTl := hT.len
        have h9 := numB_len (ql.length : Int)
        have hwl : (Fr.wr ql).length ≤ 613 := by simp [Fr.wr, Fr.four]; omega
        refine .mk _ (appendBat (i := 1) hs2 rfl ha (hvw.lb.la.sub (hs2.sub (by simp))) (by omega)) ?_
        rintro _ m3 ⟨va', pa', rfl, hs3, hva'⟩
        conv => whnf
        have hs3 := hs3.erase 0
        have hs3 : Split m3 [pa', pe, pt, m] := hs3
        have hva' := hva'.own
        obtain ⟨aa, ca, rfl⟩ := hva'.lb.shape
        conv => whnf
        repeat (refine And.intro (by first | omega | (simp only [times]; omega)) ?_; conv => whnf)
        refine ⟨_, by simp only [times, Int.toNat_natCast, Nat.mul_one]; exact mcell_sub hg (hs3.sub (a := m) (by simp)), rfl, ?_⟩
        conv => whnf
        have hcl' : (ends (ts.map (·.2))).length = ts.length := by simp [ends]
        have hcl2 : (ts.map (·.1)).length = ts.length := by simp
        have hT' : Told m (i + 1) (ts ++ [(Value.slice qa ql.length qc, ql)]) := by
          refine ⟨by simp; omega, ?_, ?_, ?_, ?_⟩ <;> intro q hq <;> rcases List.mem_append.1 hq with h | h
          · exact hT.la q h
          · rw [List.mem_singleton.1 h]; exact hla
          · exact hT.byt q h
          · rw [List.mem_singleton.1 h]; exact hpb
          · exact hT.isr q h
          · rw [List.mem_singleton.1 h]; exact hir
          · exact hT.sm q h
          · rw [List.mem_singleton.1 h]; simp only; omega
        have hcat : Fr.cat (ts.map (·.2)) ++ Fr.wr ql = Fr.cat ((ts ++ [(Value.slice qa ql.length qc, ql)]).map (·.2)) := by simp [Fr.cat]
        have hend : ends (ts.map (·.2)) ++ [.int .i64 (((Fr.cat (ts.map (·.2)) ++ Fr.wr ql).length : Nat) : Int)] = ends ((ts ++ [(Value.slice qa ql.length qc, ql)]).map (·.2)) := by
          rw [List.map_append, List.map_singleton, ends_snoc, Fr.cat_append]; simp [Fr.cat]
        have htl : ts.map (·.1) ++ [.slice qa ql.length qc] = (ts ++ [(Value.slice qa ql.length qc, ql)]).map (·.1) := by simp
        obtain ⟨ob, hob⟩ := mcell_blk hg
        have fin : ∀ m6 pe' pt' ve' vt', Split m6 [pa', pe', pt', m] → Own pe' 3 1 ve' (ends (ts.map (·.2)) ++ [.int .i64 (((Fr.cat (ts.map (·.2)) ++ Fr.wr ql).length : Nat) : Int)]) → Own pt' 23 1 vt' (ts.map (·.1) ++ [.slice qa ql.length qc]) →
            ∃ (ts' : List (Value × List Int)) (pa pe pt : Mem), Split m6 [pa, pe, pt, m] ∧ Bs pa (.slice aa (Fr.cat (ts.map (·.2)) ++ Fr.wr ql).length ca) (Fr.cat (ts'.map (·.2))) ∧ Own pe 3 1 ve' (ends (ts'.map (·.2))) ∧ Own pt 23 1 vt' (ts'.map (·.1)) ∧ Told m (i + 1) ts' :=
          fun m6 pe' pt' ve' vt' h1 h2 h3 => ⟨_, pa', pe', pt', h1, by rw [← hcat]; exact hva', by rw [← hend]; exact h2, by rw [← htl]; exact h3, hT'⟩
        refine ⟨?_, ?_⟩
        · conv => whnf
          refine .mk _ (buildI1) ?_
          rintro _ _ ⟨b4, hb4, rfl, rfl⟩
          conv => whnf
          have hs4 := hs3.new hb4 (.cells #[.int .i64 (((Fr.cat (ts.map (·.2)) ++ Fr.wr ql).length : Nat) : Int)] 3)
          refine ⟨kept_of hob (hs3.sub (by simp)) (hs4.sub (by simp)), ?_⟩
          refine ⟨?_, ?_⟩
          · conv => whnf
            refine .mk _ (pushIat (i := 2) hs4 rfl (Mem.set_same ..) he (by omega)) ?_
            rintro _ m5 ⟨ve', pe', rfl, hs5, he'⟩
            conv => whnf
            have hs5 : Split m5 [_, pa', pe', pt, m] := hs5
            refine ⟨kept_of hob (hs4.sub (by simp)) (hs5.sub (by simp)), ?_⟩
            conv => whnf
            refine .mk _ (buildL1) ?_
            rintro _ _ ⟨b6, hb6, rfl, rfl⟩
            conv => whnf
            have hs6 := hs5.new hb6 (.cells #[.slice qa ql.length qc] 23)
            first | refine ⟨fun _ h => (by cases h), ?_⟩ | skip
            conv => whnf
            refine .mk _ (pushLat (i := 4) hs6 rfl (Mem.set_same ..) rfl ht (by omega)) ?_
            rintro _ m7 ⟨vt', pt', rfl, hs7, ht'⟩
            conv => whnf
            have hs7 : Split m7 [_, _, pa', pe', pt', m] := hs7
            first | refine ⟨fun _ h => (by cases h), ?_⟩ | skip
            conv => whnf
            refine ⟨(i + 1, _, ve', vt'), ⟨by omega, by omega, fin _ pe' pt' ve' vt' ((hs7.erase 0).erase 0) he' ht'⟩, by simp only; omega, ?_⟩
            conv => whnf
            repeat (refine And.intro (by first | with_reducible rfl | (first | exact congrArg (Value.int _) (iadd (by omega))) | exact congrArg (Value.int _) (wi (by omega) (by omega)) | exact wi (by omega) (by omega) | rfl) ?_; conv => whnf)
            first | exact trivial | exact fun _ _ h => h
          · conv => whnf
            refine .mk _ (buildL1) ?_
            rintro _ _ ⟨b6, hb6, rfl, rfl⟩
            conv => whnf
            have hs6 := hs4.new hb6 (.cells #[.slice qa ql.length qc] 23)
            first | refine ⟨fun _ h => (by cases h), ?_⟩ | skip
            conv => whnf
            refine .mk _ (pushIat (i := 3) hs6 rfl (Mem.sub_set _ hb6 _ _ (Mem.set_same ..)) he (by omega)) ?_
            rintro _ m5 ⟨ve', pe', rfl, hs5, he'⟩
            conv => whnf
            have hs5 : Split m5 [_, _, pa', pe', pt, m] := hs5
            first | refine ⟨fun _ h => (by cases h), ?_⟩ | skip
            first | refine ⟨kept_of hob (hs6.sub (by simp)) (hs5.sub (by simp)), ?_⟩ | skip
            conv => whnf
            refine .mk _ (pushLat (i := 4) hs5 rfl (hs5.sub (a := blk1 b6 (.cells #[.slice qa ql.length qc] 23)) (by simp) _ _ (blk1_same ..)) rfl ht (by omega)) ?_
            rintro _ m7 ⟨vt', pt', rfl, hs7, ht'⟩
            conv => whnf
            have hs7 : Split m7 [_, _, pa', pe', pt', m] := hs7
            first | refine ⟨fun _ h => (by cases h), ?_⟩ | skip
            conv => whnf
            refine ⟨(i + 1, _, ve', vt'), ⟨by omega, by omega, fin _ pe' pt' ve' vt' ((hs7.erase 0).erase 0) he' ht'⟩, by simp only; omega, ?_⟩
            conv => whnf
            repeat (refine And.intro (by first | with_reducible rfl | (first | exact congrArg (Value.int _) (iadd (by omega))) | exact congrArg (Value.int _) (wi (by omega) (by omega)) | exact wi (by omega) (by omega) | rfl) ?_; conv => whnf)
            first | exact trivial | exact fun _ _ h => h
        · conv => whnf
          refine .mk _ (buildL1) ?_
          rintro _ _ ⟨b6, hb6, rfl, rfl⟩
          conv => whnf
          have hs6 := hs3.new hb6 (.cells #[.slice qa ql.length qc] 23)
          first | refine ⟨fun _ h => (by cases h), ?_⟩ | skip
          conv => whnf
          refine .mk _ (buildI1) ?_
          rintro _ _ ⟨b4, hb4, rfl, rfl⟩
          conv => whnf
          have hs4 := hs6.new hb4 (.cells #[.int .i64 (((Fr.cat (ts.map (·.2)) ++ Fr.wr ql).length : Nat) : Int)] 3)
          first | refine ⟨fun _ h => (by cases h), ?_⟩ | skip
          first | refine ⟨kept_of hob (hs6.sub (by simp)) (hs4.sub (by simp)), ?_⟩ | skip
          conv => whnf
          refine .mk _ (pushIat (i := 3) hs4 rfl (Mem.set_same ..) he (by omega)) ?_
          rintro _ m5 ⟨ve', pe', rfl, hs5, he'⟩
          conv => whnf
          have hs5 : Split m5 [_, _, pa', pe', pt, m] := hs5
          first | refine ⟨fun _ h => (by cases h), ?_⟩ | skip
          first | refine ⟨kept_of hob (hs4.sub (by simp)) (hs5.sub (by simp)), ?_⟩ | skip
          conv => whnf
          refine .mk _ (pushLat (i := 4) hs5 rfl (hs5.sub (a := blk1 b6 (.cells #[.slice qa ql.length qc] 23)) (by simp) _ _ (blk1_same ..)) rfl ht (by omega)) ?_
          rintro _ m7 ⟨vt', pt', rfl, hs7, ht'⟩
          conv => whnf
          have hs7 : Split m7 [_, _, pa', pe', pt', m] := hs7
          first | refine ⟨fun _ h => (by cases h), ?_⟩ | skip
          conv => whnf
          refine ⟨(i + 1, _, ve', vt'), ⟨by omega, by omega, fin _ pe' pt' ve' vt' ((hs7.erase 0).erase 0) he' ht'⟩, by simp only; omega, ?_⟩
          conv => whnf
          repeat (refine And.intro (by first | with_reducible rfl | (first | exact congrArg (Value.int _) (iadd (by omega))) | exact congrArg (Value.int _) (wi (by omega) (by omega)) | exact wi (by omega) (by omega) | rfl) ?_; conv => whnf)
          first | exact trivial | exact fun _ _ h => h
      · first | refine xretk (write_bad (hla.sub hsub) (by simpa using hir)) ?_ | refine xret (write_bad (hla.sub hsub) (by simpa using hir)) ?_
        conv => whnf
        refine ⟨fun _ => ?_, fun h => absurd h (by decide)⟩
        conv => whnf
        refine ⟨(i + 1, va, ve, vt), ⟨by omega, by omega, ts, pa, pe, pt, hs, ha, he, ht, ⟨by have := hT.len; omega, hT.la, hT.byt, hT.isr, hT.sm⟩⟩, by simp only; omega, ?_⟩
        conv => whnf
        repeat (refine And.intro (by first | with_reducible rfl | (first | exact congrArg (Value.int _) (iadd (by omega))) | exact congrArg (Value.int _) (wi (by omega) (by omega)) | exact wi (by omega) (by omega) | rfl) ?_; conv => whnf)
        first | exact trivial | exact fun _ _ h => h
    · conv => whnf
      refine .via _ _ ?_ (tail _ _ _ _ _ _ _ _ hs ha he ht ⟨by have := hT.len; omega, hT.la, hT.byt, hT.isr, hT.sm⟩)
      conv => whnf
      repeat (refine And.intro (by first | with_reducible rfl | exact congrArg (Value.int _) (wi (by omega) (by omega)) | exact wi (by omega) (by omega) | rfl) ?_; conv => whnf)
      first | exact trivial | exact fun _ _ h => h
  · conv => whnf
    refine .via _ _ ?_ (tail _ _ _ _ _ _ _ _ hs ha he ht ⟨by have := hT.len; omega, hT.la, hT.byt, hT.isr, hT.sm⟩)
    conv => whnf
    repeat (refine And.intro (by first | with_reducible rfl | exact congrArg (Value.int _) (wi (by omega) (by omega)) | exact wi (by omega) (by omega) | rfl) ?_; conv => whnf)
    first | exact trivial | exact fun _ _ h => h
end Go.E.Ytkapdbbjgpofnaa
