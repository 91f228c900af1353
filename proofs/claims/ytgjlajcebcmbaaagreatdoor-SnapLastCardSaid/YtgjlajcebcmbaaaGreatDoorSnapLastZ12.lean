/-
  Sn12, Sn13, Sn14, Sn15, Door
-/
import Derived.Test.YtgjlajcebcmbaaaGreatDoorSnapLastZ11
import Derived.Test.YtgjlajcebcmbaaaGreatDoorCards
import Derived.Lay
import Derived.OpenShut
import Derived.LaidLaws
import Derived.MakeChecks
/-
  Laws of snapshots: lists that are the same; what is too much.
-/
namespace Go.E.YtgjlajcebcmbaaaGreatDoor
open Go.Proofs
set_option maxRecDepth 100000
theorem La.cases' {m : Mem} {v : Value} {l : List Int} (h : La m v l) : (∃ c, v = .slice none 0 c ∧ l = []) ∨ (∃ b o c, v = .slice (some ⟨b, o, none⟩) l.length c ∧ MRange m b o (bc l)) ∨ (∃ a, v = .slice (some a) 0 0 ∧ l = []) := by
  rcases h with h | ⟨rfl, a, rfl⟩
  · rcases Lb.cases h with ⟨c, rfl, rfl⟩ | ⟨b, o, c, arr, t, fr, rfl, p1, p2, p3⟩
    · exact .inl ⟨c, rfl, rfl⟩
    · exact .inr (.inl ⟨b, o, c, rfl, h.range⟩)
  · exact .inr (.inr ⟨a, rfl, rfl⟩)
theorem by8_nil : ByteArray.empty.toList = by8 [] := by rw [ByteArray.toList_eq]; rfl
set_option maxHeartbeats 4000000 in
theorem same17_spec {m : Mem} {v w : Value} {ps qs : List (Value × List Int)} (hv : LsA m v ps) (hw : LsA m w qs) (hbp : ∀ p ∈ ps, Byt p.2) (hbq : ∀ p ∈ qs, Byt p.2) (hl : ps.length ≤ 100000000) : Ret Tryz.prog 17 [.v v, .v w] m [boolV (decide (ps.map (·.2) = qs.map (·.2)))] := by
  obtain ⟨a, c, rfl⟩ := hv.shape
  obtain ⟨aw, cw, rfl⟩ := hw.shape
  refine en17 rfl (goY ?_)
  conv => whnf
  refine ⟨fun h => ?_, fun h => ?_⟩
  · conv => whnf
    have : ps.map (·.2) ≠ qs.map (·.2) := fun e => by have := congrArg List.length e; simp at this; simp [this] at h
    rw [decide_eq_false this]
    exact ⟨rfl, rfl⟩
  have hlk : ps.length = qs.length := by simp at h; omega
  clear h
  conv => whnf
  refine .mk (ι := Nat) (fun i => ps.length - i) (fun i mm => i ≤ ps.length ∧ (ps.take i).map (·.2) = (qs.take i).map (·.2) ∧ mm = m) (fun i => [(0, .c (.v (.slice a ps.length c))), (1, .c (.v (.slice aw qs.length cw))), (5, .c (i64 i))]) (fun _ => []) 0 ⟨by omega, by simp, rfl⟩ ?_ ?_
  · conv => whnf
    repeat (refine And.intro (by first | with_reducible rfl | exact congrArg (Value.int _) (wi (by omega) (by omega)) | exact wi (by omega) (by omega) | rfl) ?_; conv => whnf)
    first | exact trivial | exact fun _ _ h => h
  rintro i mm ⟨hi, htk, he⟩
  subst mm
  conv => whnf
  refine ⟨fun h1 => ?_, fun h1 => ?_⟩
  · have h1' := of_decide_eq_true h1
    have hlt : i < ps.length := by omega
    have hltk : i < qs.length := by omega
    obtain ⟨b, o, c', hh, hg⟩ := hv.real hlt
    injection hh with hh1 _ hh3
    subst hh1
    clear hh3 c'
    obtain ⟨bw, ow, c', hh, hgw⟩ := hw.real hltk
    injection hh with hh1 _ hh3
    subst hh1
    clear hh3 c'
    have hla := hv.la _ (List.getElem_mem hlt)
    have hlb := hw.la _ (List.getElem_mem hltk)
    have hpb := hbp _ (List.getElem_mem hlt)
    have hqb := hbq _ (List.getElem_mem hltk)
    have hgi := hg i hlt
    have hgwi := hgw i hltk
    have hstep : (ps.take (i + 1)).map (·.2) = (qs.take (i + 1)).map (·.2) ↔ ps[i].2 = qs[i].2 := by
      rw [List.take_succ_eq_append_getElem hlt, List.take_succ_eq_append_getElem hltk, List.map_append, List.map_append, htk]
      simp
    have hall : ps[i].2 ≠ qs[i].2 → ps.map (·.2) ≠ qs.map (·.2) := fun hne e => hne (by
      have := congrArg (fun l => l[i]?) e
      simpa [List.getElem?_eq_getElem hlt, List.getElem?_eq_getElem hltk] using this)
    generalize ps[i] = pi at *
    generalize qs[i] = qi at *
    obtain ⟨pv, pl⟩ := pi
    obtain ⟨qv, ql⟩ := qi
    simp only at *
    rcases La.cases' hla with ⟨pc, rfl, rfl⟩ | ⟨pb, po, pc, rfl, p1⟩ | ⟨pa, rfl, rfl⟩ <;> rcases La.cases' hlb with ⟨qc, rfl, rfl⟩ | ⟨qb, qo, qc, rfl, q1⟩ | ⟨qa, rfl, rfl⟩
    all_goals
      conv => whnf
      repeat (refine And.intro (by first | omega | (simp only [times]; omega)) ?_; conv => whnf)
      refine ⟨_, by simp only [times, Int.toNat_natCast, Nat.mul_one]; exact hgi, rfl, ?_⟩
      conv => whnf
      first | (refine .inr ⟨pl, rfl, _, _, rfl, p1, ?_⟩; conv => whnf) | (refine .inl ⟨rfl, ?_⟩; conv => whnf) | skip
      first | (refine And.intro (by omega) ?_; conv => whnf) | skip
      refine ⟨_, by simp only [times, Int.toNat_natCast, Nat.mul_one]; exact hgwi, rfl, ?_⟩
      conv => whnf
      first | (refine .inr ⟨ql, rfl, _, _, rfl, q1, ?_⟩; conv => whnf) | (refine .inl ⟨rfl, ?_⟩; conv => whnf) | skip
      try rw [by8_nil]
      try rw [strOf_list]
      try rw [strOf_list]
      refine ⟨fun h2 => ?_, fun h2 => ?_⟩
      · conv => whnf
        refine ⟨?_, rfl⟩
        rw [decide_eq_false (hall (fun e => by have h3 := congrArg by8 e; rw [h3] at h2; simp at h2))]
      · conv => whnf
        refine ⟨i + 1, ⟨by omega, hstep.2 (by8_inj hpb hqb (by have h4 := h2; simp only [Bool.not_eq_eq_eq_not, Bool.not_false, beq_iff_eq] at h4; first | exact h4 | rfl)), rfl⟩, by omega, ?_⟩
        conv => whnf
        repeat (refine And.intro (by first | with_reducible rfl | (first | exact congrArg (Value.int _) (iadd1 (by omega))) | exact congrArg (Value.int _) (wi (by omega) (by omega)) | exact wi (by omega) (by omega) | rfl) ?_; conv => whnf)
        first | exact trivial | exact fun _ _ h => h
  · have h1' := of_decide_eq_false h1
    obtain rfl : i = ps.length := by omega
    rw [List.take_length, hlk, List.take_length] at htk
    conv => whnf
    rw [decide_eq_true htk]
    exact ⟨rfl, rfl⟩
/-- a list that is not too much -/
def SmL (ps : List (List Int)) : Prop := ps.length ≤ 5 ∧ ∀ r ∈ ps, r.length ≤ 500 ∨ (20000 < r.length ∧ r.length ≤ 20010)
abbrev sopS (k n : Int) (v : Value) (o : Opr) : LB := [.one (.int .i64 k), .one (.int .i64 n), .one v, .one (.int .i64 o.kind), .one (.int .i64 o.n), .one (.string o.name), .one (.string o.nto), .one (.slice o.ab o.b.length o.cb), .one (.slice o.al o.last.length o.cl)]
set_option maxHeartbeats 4000000 in
theorem great17_spec {m : Mem} {k n : Int} {v : Value} {ps : List (Value × List Int)} {o : Opr} (hv : LsA m v ps) (ho : o.Ok m) : Spec Tryz.prog 13 [.a (sopS k n v o)] m fun r m' => ∃ b, r = [boolV b] ∧ Sub m m' ∧ (b = false → SmL (ps.map (·.2)) ∧ o.Small) := by
  obtain ⟨a, c, rfl⟩ := hv.shape
  refine en13 rfl (goY ?_)
  conv => whnf
  refine .mk (ι := Nat) (fun i => ps.length - i) (fun i mm => i ≤ ps.length ∧ (0 < i → ps.length ≤ 5) ∧ (∀ r ∈ ps.take i, r.2.length ≤ 500 ∨ (20000 < r.2.length ∧ r.2.length ≤ 20010)) ∧ mm = m) (fun i => [(1, .p 0 0), (3, .c (i64 i))]) (fun _ => [(42, sopS k n (.slice a ps.length c) o)]) 0 ⟨by omega, by omega, by simp, rfl⟩ ?_ ?_
  · conv => whnf
    repeat (refine And.intro (by first | with_reducible rfl | exact congrArg (Value.int _) (wi (by omega) (by omega)) | exact wi (by omega) (by omega) | rfl) ?_; conv => whnf)
    first | exact trivial | exact fun _ _ h => h
  rintro i mm ⟨hi, h5, hall, he⟩
  subst mm
  conv => whnf
  refine ⟨fun hc => ?_, fun hc => ?_⟩
  · have hlt : i < ps.length := by have := of_decide_eq_true hc; omega
    clear hc
    obtain ⟨b, o', c', hh, hg⟩ := hv.real hlt
    injection hh with hh1 _ hh3
    subst hh1
    clear hh3 c'
    have hg := hg i hlt
    have hla := hv.la _ (List.getElem_mem hlt)
    obtain ⟨ae, ce, hshape⟩ := hla.shape
    rw [hshape] at hg
    have htk : ps.take (i + 1) = ps.take i ++ [ps[i]] := List.take_succ_eq_append_getElem hlt
    conv => whnf
    refine ⟨fun h1 => ?_, fun h1 => ?_⟩
    · conv => whnf
      exact ⟨_, rfl, Sub.refl _, fun h => (by cases h)⟩
    have h1' := of_decide_eq_false h1
    clear h1
    have fin : (ps[i].2.length ≤ 500 ∨ (20000 < ps[i].2.length ∧ ps[i].2.length ≤ 20010)) → ∀ r ∈ ps.take (i + 1), r.2.length ≤ 500 ∨ (20000 < r.2.length ∧ r.2.length ≤ 20010) := fun h r hr => by
      rw [htk] at hr
      rcases List.mem_append.1 hr with hr | hr
      · exact hall r hr
      · rw [List.mem_singleton.1 hr]; exact h
    generalize ps[i].2.length = z at hg fin
    conv => whnf
    repeat (refine And.intro (by first | omega | (simp only [times]; omega)) ?_; conv => whnf)
    refine ⟨_, by simp only [times, Int.toNat_natCast, Nat.mul_one]; exact hg, rfl, ?_⟩
    conv => whnf
    refine ⟨fun h2 => ?_, fun h2 => ?_⟩
    · have h2' := of_decide_eq_true h2
      clear h2
      conv => whnf
      repeat (refine And.intro (by first | omega | (simp only [times]; omega)) ?_; conv => whnf)
      refine ⟨_, by simp only [times, Int.toNat_natCast, Nat.mul_one]; exact hg, rfl, ?_⟩
      conv => whnf
      refine ⟨fun h3 => ?_, fun h3 => ?_⟩
      · conv => whnf
        exact ⟨_, rfl, Sub.refl _, fun h => (by cases h)⟩
      have h3' := of_decide_eq_false h3
      clear h3
      conv => whnf
      repeat (refine And.intro (by first | omega | (simp only [times]; omega)) ?_; conv => whnf)
      refine ⟨_, by simp only [times, Int.toNat_natCast, Nat.mul_one]; exact hg, rfl, ?_⟩
      conv => whnf
      refine ⟨fun h4 => ?_, fun h4 => ?_⟩
      · conv => whnf
        exact ⟨_, rfl, Sub.refl _, fun h => (by cases h)⟩
      have h4' := of_decide_eq_false h4
      clear h4
      conv => whnf
      refine ⟨i + 1, ⟨by omega, by omega, fin (by omega), rfl⟩, by first | omega | (simp only; omega), ?_⟩
      conv => whnf
      repeat (refine And.intro (by first | with_reducible rfl | (first | exact congrArg (Value.int _) (iadd1 (by omega))) | exact congrArg (Value.int _) (wi (by omega) (by omega)) | exact wi (by omega) (by omega) | rfl) ?_; conv => whnf)
      first | exact trivial | exact fun _ _ h => h
    · have h2' := of_decide_eq_false h2
      clear h2
      conv => whnf
      repeat (refine And.intro (by first | omega | (simp only [times]; omega)) ?_; conv => whnf)
      refine ⟨_, by simp only [times, Int.toNat_natCast, Nat.mul_one]; exact hg, rfl, ?_⟩
      conv => whnf
      refine ⟨fun h4 => ?_, fun h4 => ?_⟩
      · conv => whnf
        exact ⟨_, rfl, Sub.refl _, fun h => (by cases h)⟩
      clear h4
      conv => whnf
      refine ⟨i + 1, ⟨by omega, by omega, fin (by omega), rfl⟩, by first | omega | (simp only; omega), ?_⟩
      conv => whnf
      repeat (refine And.intro (by first | with_reducible rfl | (first | exact congrArg (Value.int _) (iadd1 (by omega))) | exact congrArg (Value.int _) (wi (by omega) (by omega)) | exact wi (by omega) (by omega) | rfl) ?_; conv => whnf)
      first | exact trivial | exact fun _ _ h => h
  · have hc' := of_decide_eq_false hc
    obtain rfl : i = ps.length := by omega
    rw [List.take_length] at hall
    clear hc
    conv => whnf
    refine xcall (great_spec (o := o) ho) ?_
    rintro _ m1 ⟨g, rfl, hs, hgs⟩
    conv => whnf
    refine ⟨g, rfl, hs, fun h => ⟨⟨by rw [List.length_map]; omega, fun r hr => ?_⟩, hgs h⟩⟩
    obtain ⟨x, hx, rfl⟩ := List.mem_map.1 hr
    exact hall x hx
end Go.E.YtgjlajcebcmbaaaGreatDoor

/-
  Law SnapWhole.
-/
namespace Go.E.YtgjlajcebcmbaaaGreatDoor
open Go.Proofs
set_option maxRecDepth 100000
/-- what must be of files ahead of a crash -/
structure Wh (A : List Af) (st : Int) (R1 R2 : List (List Int)) : Prop where
  low : Low (rmA A tmpN) 9
  len : A.length ≤ 9
  load : ∀ A', (∃ g : Af → Af, A' = A.map g ∧ ∀ a ∈ A, Cr a (g a)) → loadA A' = if st = 4 ∨ st = 0 then (5, R2, 0) else (3, R1, 0)
theorem Wh.crash {A : List Af} {st : Int} {R1 R2 : List (List Int)} (h : Wh A st R1 R2) (hA : ∀ a ∈ A, a.safe ≤ a.l.length) (last : List Int) : loadA (crashA A last) = (if st = 4 ∨ st = 0 then (5, R2, 0) else (3, R1, 0)) ∧ Low (rmA (crashA A last) tmpN) 9 ∧ (crashA A last).length ≤ 9 := by
  obtain ⟨g, h1, h2⟩ := crash_map (last := last) hA
  refine ⟨h.load _ ⟨g, h1, fun a ha => (h2 a ha).1⟩, ?_, by rw [h1, List.length_map]; exact h.len⟩
  intro b hb
  obtain ⟨hb1, hb2⟩ := List.mem_filter.1 hb
  rw [h1] at hb1
  obtain ⟨a, ha, rfl⟩ := List.mem_map.1 hb1
  have e := (h2 a ha).1.name
  rw [e] at hb2 ⊢
  exact h.low a (List.mem_filter.2 ⟨ha, hb2⟩)
theorem Smx.crash {A : List Af} {nb ns : Nat} (h : Smx A nb ns) (hA : ∀ a ∈ A, a.safe ≤ a.l.length) (last : List Int) : Smx (crashA A last) nb ns := by
  obtain ⟨g, h1, h2⟩ := crash_map (last := last) hA
  rw [h1]
  refine ⟨fun x hx => ?_, fun x hx => ?_, by rw [List.length_map]; exact h.n, h.nb, h.ns⟩
  · obtain ⟨a, ha, rfl⟩ := List.mem_map.1 hx
    exact Nat.le_trans (h2 a ha).1.len (h.l a ha)
  · obtain ⟨a, ha, rfl⟩ := List.mem_map.1 hx
    rw [(h2 a ha).1.name]; exact h.s a ha
theorem toN_cat_nums {n : Nat} {l : List Nat} {s : Nat} (h1 : 1 ≤ n) (h2 : n ≤ 999999) : numsA [⟨Sn.nm n, l, s⟩] = [n] := numsA_eq (by simp) (by simp [numsN, numOf_nm h1 h2])
theorem load_one {n : Nat} {R : List (List Int)} {s : Nat} (h1 : 1 ≤ n) (h2 : n ≤ 999999) (hR : allRec R = true) (hb : ∀ r ∈ R, Byt r) : loadA [⟨Sn.nm n, toN (Fr.cat R), s⟩] = (n, R, 0) :=
  load_of (s := s) (by rw [toN_cat_nums h1 h2]; rfl) (by simp [fileA]) hR hb
set_option maxHeartbeats 8000000 in
theorem whole_end {m mm p : Mem} {bf nb ns : Nat} {A : List Af} {va : Value} {pa : List (Value × List Int)} (hg : Glob m) (hs : Split mm [p, m]) (h : FA p bf 0 nb ns A) (hk : Smx A nb ns) (hnb : nb ≤ 200000) (hns : ns ≤ 400)
    (hva : LsA m va pa) (hba : ∀ r ∈ pa, Byt r.2) (hra : allRec (pa.map (·.2)) = true) (hla : pa.length ≤ 5) (hsa : ∀ r ∈ pa, r.2.length ≤ 500) (hlow : Low (rmA A tmpN) 9) (hlen : A.length ≤ 9) :
    xwpY c5 (restAt 18 (bodyOf Tryz.f5)) (QRetY tt.get Tryz.f5.results.toList fun r m' => r = [boolV true] ∧ Sub m m')
      [(0, .c (.v va)), (9, .c (ptrB bf))] [] mm [] := by
  have hR : ∀ r ∈ pa.map (·.2), Byt r := fun r hr => by obtain ⟨x, hx, rfl⟩ := List.mem_map.1 hr; exact hba x hx
  conv => whnf
  refine .at ?_
  conv => whnf
  refine xcall (saveL_ok (n := 9) (s := 4) (B := rmA A tmpN) hg hs h hk hnb hns (Nat.le_trans (List.length_filter_le _ _) hlen) rfl hlow (by decide) (by decide) hra hva hba hla hsa (by decide)) ?_
  rintro _ m1 ⟨p1, nb1, ns1, rfl, hs1, h1, hnb1, hns1⟩
  conv => whnf
  have hx : Smx (stA (rmA A tmpN) 9 (toN (Fr.cat (pa.map (·.2)))) A 4) nb1 ns1 := hk.st (Nat.le_trans (List.length_filter_le _ _) hlen) rfl (by
    rw [toN_len]
    have := cat_small (l := pa.map (·.2)) fun r hr => by obtain ⟨x, hx, rfl⟩ := List.mem_map.1 hr; exact hsa x hx
    rw [List.length_map] at this
    omega) (by omega) (by omega) 4
  rw [show stA (rmA A tmpN) 9 (toN (Fr.cat (pa.map (·.2)))) A 4 = [⟨Sn.nm 9, toN (Fr.cat (pa.map (·.2))), (toN (Fr.cat (pa.map (·.2)))).length⟩] from rfl] at hx h1
  rw [show stN 4 = 0 from rfl]
  refine ⟨fun h => absurd h (by first | decide | simp), fun _ => ?_⟩
  conv => whnf
  have hld := load_one (n := 9) (s := (toN (Fr.cat (pa.map (·.2)))).length) (by decide) (by decide) hra hR
  have hnu := toN_cat_nums (n := 9) (l := toN (Fr.cat (pa.map (·.2)))) (s := (toN (Fr.cat (pa.map (·.2)))).length) (by decide) (by decide)
  generalize ([⟨Sn.nm 9, toN (Fr.cat (pa.map (·.2))), (toN (Fr.cat (pa.map (·.2)))).length⟩] : List Af) = A1 at *
  have hg1 : Glob m1 := hg.sub (hs1.sub (a := m) (by simp))
  refine xcall (load_A hg1 (h1.grow (hs1.sub (a := p1) (by simp))) hx.sm hx.nms) ?_
  rintro _ m2 ⟨v2, ps2, p2, rfl, hs2, hls2, hpr2⟩
  conv => whnf
  have hs2 : Split m2 [p2, p1, m] := hs2.under (a := [p2]) hs1
  rw [hld] at hpr2 ⊢
  refine xcall (alive17_spec (hg.sub (hs2.sub (a := m) (by simp)))) ?_
  rintro _ m3 ⟨rfl, hs3⟩
  conv => whnf
  refine ⟨fun _ => ?_, fun h => absurd h (by first | decide | simp)⟩
  conv => whnf
  refine ⟨fun _ => ?_, fun h => absurd h (by first | decide | simp)⟩
  conv => whnf
  have hbp : ∀ p ∈ ps2, Byt p.2 := fun p hp => by
    have : p.2 ∈ ps2.map (·.2) := List.mem_map.2 ⟨p, hp, rfl⟩
    rw [hpr2] at this
    exact hR _ this
  have hlp : ps2.length ≤ 5 := by
    have := congrArg List.length hpr2
    simp only [List.length_map] at this
    omega
  first | refine xretk (same17_spec (.inl (hls2.sub ((hs2.sub (a := p2) (by simp)).trans hs3))) (hva.sub ((hs2.sub (a := m) (by simp)).trans hs3)) hbp hba (by omega)) ?_ | refine xret (same17_spec (.inl (hls2.sub ((hs2.sub (a := p2) (by simp)).trans hs3))) (hva.sub ((hs2.sub (a := m) (by simp)).trans hs3)) hbp hba (by omega)) ?_
  conv => whnf
  rw [decide_eq_true hpr2]
  refine ⟨fun _ => ?_, fun h => absurd h (by first | decide | simp)⟩
  conv => whnf
  refine ⟨fun _ => ?_, fun h => absurd h (by first | decide | simp)⟩
  conv => whnf
  have hp3 : Sub p1 m3 := (hs2.sub (a := p1) (by simp)).trans hs3
  have hm3 : Sub m m3 := (hs2.sub (a := m) (by simp)).trans hs3
  refine xcall (numbers_A (hg.sub hm3) (h1.grow hp3) hx.sm hx.nms) ?_
  rintro _ m4 ⟨vn, pn, rfl, hsn, hvn⟩
  conv => whnf
  rw [hnu] at hvn
  obtain ⟨an, cn, rfl⟩ := hvn.il.shape
  conv => whnf
  exact ⟨rfl, hm3.trans (hsn.sub (a := m3) (by simp))⟩
set_option maxHeartbeats 8000000 in
theorem whole_tail {m mm p : Mem} {bf nb ns : Nat} {A : List Af} {va vb vl : Value} {pa pb : List (Value × List Int)} {last : List Int} {st : Int} (hg : Glob m) (hs : Split mm [p, m]) (h : FA p bf 0 nb ns A) (hk : Smx A nb ns) (hnb : nb ≤ 150000) (hns : ns ≤ 300)
    (hva : LsA m va pa) (hvb : LsA m vb pb) (hba : ∀ r ∈ pa, Byt r.2) (hbb : ∀ r ∈ pb, Byt r.2) (hra : allRec (pa.map (·.2)) = true) (hla : pa.length ≤ 5) (hsa : ∀ r ∈ pa, r.2.length ≤ 500) (hlb : pb.length ≤ 5)
    (hw : Wh A st (pa.map (·.2)) (pb.map (·.2))) (hl : Ia m vl last) (hlast : last.length ≤ 9223372036854775807) (hI : ∀ x ∈ last, -9223372036854775808 ≤ x ∧ x ≤ 9223372036854775807) :
    xwpY c5 (restAt 9 (bodyOf Tryz.f5)) (QRetY tt.get Tryz.f5.results.toList fun r m' => r = [boolV true] ∧ Sub m m')
      [(0, .c (.v va)), (1, .c (.v vb)), (3, .c (.v vl)), (9, .c (ptrB bf)), (11, .c (i64 st))] [] mm [] := by
  have hpm : Sub p mm := hs.sub (by simp)
  have hmm : Sub m mm := hs.sub (by simp)
  have hcr := hw.crash h.safe last
  conv => whnf
  refine .at ?_
  conv => whnf
  refine xcall (crash_A (last := last) h hs hk.sm hl hlast hI) ?_
  rintro _ m1 ⟨p1, rfl, hs1, h1⟩
  conv => whnf
  obtain ⟨c1, c2, c3⟩ := hcr
  have hk1 := hk.crash h.safe last
  generalize crashA A last = A1 at *
  have hg1 : Glob m1 := hg.sub (hs1.sub (a := m) (by simp))
  have fin := fun mm hsm => whole_end (mm := mm) (bf := bf) hg hsm h1 hk1 (by omega) (by omega) hva hba hra hla hsa c2 c3
  refine xcall (load_A hg1 (h1.grow (hs1.sub (a := p1) (by simp))) hk1.sm hk1.nms) ?_
  rintro _ m2 ⟨v2, ps2, p2, rfl, hs2, hls2, hpr2⟩
  conv => whnf
  have hs2 : Split m2 [p2, p1, m] := hs2.under (a := [p2]) hs1
  have hm2 : Sub m m2 := hs2.sub (by simp)
  by_cases hst : st = 4 ∨ st = 0
  · rw [if_pos hst] at c1
    rw [c1] at hpr2 ⊢
    refine ⟨fun h => absurd h (by first | decide | simp), fun _ => ?_⟩
    conv => whnf
    have hlp : ps2.length ≤ 5 := by
      have := congrArg List.length hpr2
      simp only [List.length_map] at this
      omega
    have hbp : ∀ p ∈ ps2, Byt p.2 := fun p hp => by
      have : p.2 ∈ ps2.map (·.2) := List.mem_map.2 ⟨p, hp, rfl⟩
      rw [hpr2] at this
      obtain ⟨x, hx, e⟩ := List.mem_map.1 this
      rw [← e]; exact hbb x hx
    have hsame := same17_spec (.inl (hls2.sub (hs2.sub (a := p2) (by simp)))) (hvb.sub hm2) hbp hbb (by omega)
    rw [decide_eq_true hpr2] at hsame
    rcases hst with rfl | rfl
    · refine ⟨fun _ => ?_, fun h => absurd h (by first | decide | simp)⟩
      conv => whnf
      refine ⟨fun h => absurd h (by first | decide | simp), fun _ => ?_⟩
      conv => whnf
      first | refine xretk (hsame) ?_ | refine xret (hsame) ?_
      conv => whnf
      refine ⟨fun h => absurd h (by first | decide | simp), fun _ => ?_⟩
      conv => whnf
      have tl := fin m2 hs2.drop
      conv at tl => whnf
      refine .via _ _ ?_ tl
      conv => whnf
      repeat (refine And.intro (by first | with_reducible rfl | exact congrArg (Value.int _) (wi (by omega) (by omega)) | exact wi (by omega) (by omega) | rfl) ?_; conv => whnf)
      first | exact trivial | exact fun _ _ h => h
    · refine ⟨fun h => absurd h (by first | decide | simp), fun _ => ?_⟩
      conv => whnf
      refine ⟨fun _ => ?_, fun h => absurd h (by first | decide | simp)⟩
      conv => whnf
      refine ⟨fun h => absurd h (by first | decide | simp), fun _ => ?_⟩
      conv => whnf
      first | refine xretk (hsame) ?_ | refine xret (hsame) ?_
      conv => whnf
      refine ⟨fun h => absurd h (by first | decide | simp), fun _ => ?_⟩
      conv => whnf
      have tl := fin m2 hs2.drop
      conv at tl => whnf
      refine .via _ _ ?_ tl
      conv => whnf
      repeat (refine And.intro (by first | with_reducible rfl | exact congrArg (Value.int _) (wi (by omega) (by omega)) | exact wi (by omega) (by omega) | rfl) ?_; conv => whnf)
      first | exact trivial | exact fun _ _ h => h
  · rw [if_neg hst] at c1
    rw [c1] at hpr2 ⊢
    refine ⟨fun h => absurd h (by first | decide | simp), fun _ => ?_⟩
    conv => whnf
    have hlp : ps2.length ≤ 5 := by
      have := congrArg List.length hpr2
      simp only [List.length_map] at this
      omega
    have hbp : ∀ p ∈ ps2, Byt p.2 := fun p hp => by
      have : p.2 ∈ ps2.map (·.2) := List.mem_map.2 ⟨p, hp, rfl⟩
      rw [hpr2] at this
      obtain ⟨x, hx, e⟩ := List.mem_map.1 this
      rw [← e]; exact hba x hx
    have hsame := same17_spec (.inl (hls2.sub (hs2.sub (a := p2) (by simp)))) (hva.sub hm2) hbp hba (by omega)
    rw [decide_eq_true hpr2] at hsame
    refine ⟨fun h => absurd h (by (simp at h; omega)), fun _ => ?_⟩
    conv => whnf
    refine ⟨fun h => absurd h (by (simp at h; omega)), fun _ => ?_⟩
    conv => whnf
    refine ⟨fun h => absurd h (by first | decide | simp), fun _ => ?_⟩
    conv => whnf
    first | refine xretk (hsame) ?_ | refine xret (hsame) ?_
    conv => whnf
    refine ⟨fun h => absurd h (by first | decide | simp), fun _ => ?_⟩
    conv => whnf
    have tl := fin m2 hs2.drop
    conv at tl => whnf
    refine .via _ _ ?_ tl
    conv => whnf
    repeat (refine And.intro (by first | with_reducible rfl | exact congrArg (Value.int _) (wi (by omega) (by omega)) | exact wi (by omega) (by omega) | rfl) ?_; conv => whnf)
    first | exact trivial | exact fun _ _ h => h
end Go.E.YtgjlajcebcmbaaaGreatDoor

/-
  Law SnapWhole: whole.
-/
namespace Go.E.YtgjlajcebcmbaaaGreatDoor
open Go.Proofs
set_option maxRecDepth 100000
theorem map_keep {A : List Af} {g : Af → Af} (h : ∀ a ∈ A, Cr a (g a)) (hs : ∀ a ∈ A, a.safe = a.l.length) : A.map g = A := (List.map_congr_left fun a ha => (h a ha).all (hs a ha)).trans (List.map_id _)
section
variable {R1 R2 : List (List Int)} (h1 : allRec R1 = true) (h2 : allRec R2 = true) (b1 : ∀ r ∈ R1, Byt r) (b2 : ∀ r ∈ R2, Byt r)
abbrev sf (n : Nat) (R : List (List Int)) : Af := ⟨Sn.nm n, toN (Fr.cat R), (toN (Fr.cat R)).length⟩
theorem low_sf {n m : Nat} {R : List (List Int)} (h1 : 1 ≤ n) (h2 : n < m) : Low [sf n R] m := fun b hb => ⟨n, h1, h2, by rw [List.mem_singleton.1 hb]⟩
theorem rm_low {B : List Af} {n : Nat} (h : Low B n) : rmA B tmpN = B := rm_none h.tmp
include h1 b1 in
theorem wh_one {st : Int} (hst : ¬ (st = 4 ∨ st = 0)) : Wh [sf 3 R1] st R1 R2 := by
  refine ⟨by rw [rm_low (n := 9) (low_sf (by decide) (by decide))]; exact low_sf (by decide) (by decide), by simp, fun A' ⟨g, hA, hg⟩ => ?_⟩
  rw [if_neg hst, hA, map_keep hg (by simp)]
  exact load_one (by decide) (by decide) h1 b1
include h2 b2 in
theorem wh_five {st : Int} (hst : st = 4 ∨ st = 0) : Wh [sf 5 R2] st R1 R2 := by
  refine ⟨by rw [rm_low (n := 9) (low_sf (by decide) (by decide))]; exact low_sf (by decide) (by decide), by simp, fun A' ⟨g, hA, hg⟩ => ?_⟩
  rw [if_pos hst, hA, map_keep hg (by simp)]
  exact load_one (by decide) (by decide) h2 b2
include h1 b1 in
theorem wh_tmp {st : Int} (hst : ¬ (st = 4 ∨ st = 0)) {x : Af} (hx : x.name = tmpN) : Wh ([sf 3 R1] ++ [x]) st R1 R2 := by
  have hl : Low [sf 3 R1] 9 := low_sf (by decide) (by decide)
  have hr := rm_last (B := [sf 3 R1]) (x := x) (by rw [hx]; exact hl.tmp)
  rw [hx] at hr
  refine ⟨by rw [hr]; exact hl, by simp, fun A' ⟨g, hA, hg⟩ => ?_⟩
  have e3 : g (sf 3 R1) = sf 3 R1 := (hg _ (by simp)).all rfl
  have ex : (g x).name = tmpN := by rw [(hg x (by simp)).name, hx]
  have hA' : A' = [sf 3 R1] ++ [g x] := by rw [hA, List.map_append, List.map_singleton, List.map_singleton, e3]
  rw [if_neg hst, hA']
  refine load_of (n := 3) (s := (toN (Fr.cat R1)).length) ?_ ?_ h1 b1
  · rw [numsA_eq (l := [3]) (by simp) (by
      simp only [List.map_append, List.map_singleton, ex]
      simp [numsN, numOf_nm (n := 3) (by decide) (by decide), numOf_size (s := tmpN) (by decide)])]
    rfl
  · simp [fileA]
include h2 b2 in
theorem wh_two {st : Int} (hst : st = 4 ∨ st = 0) : Wh ([sf 3 R1] ++ [sf 5 R2]) st R1 R2 := by
  have hl : Low ([sf 3 R1] ++ [sf 5 R2]) 9 := fun b hb => by
    rcases List.mem_append.1 hb with hb | hb
    · exact low_sf (by decide) (by decide) b hb
    · exact low_sf (by decide) (by decide) b hb
  refine ⟨by rw [rm_low hl]; exact hl, by simp, fun A' ⟨g, hA, hg⟩ => ?_⟩
  rw [if_pos hst, hA, map_keep hg (by simp)]
  refine load_of (n := 5) (s := (toN (Fr.cat R2)).length) ?_ ?_ h2 b2
  · rw [numsA_eq (l := [3, 5]) (by simp) (by
      simp [numsN, numOf_nm (n := 3) (by decide) (by decide), numOf_nm (n := 5) (by decide) (by decide)])]
    rfl
  · have : Sn.nm 5 ≠ Sn.nm 3 := fun e => by have := nm_inj (by decide) (by decide) e; omega
    simp [fileA, this]
end
def o0 : Opr := ⟨0, 0, ByteArray.empty, ByteArray.empty, none, 0, [], none, 0, []⟩
theorem o0_ok (m : Mem) : o0.Ok m := ⟨(Lb.nil m 0).la, by simp [o0], .inl (.inl ⟨0, rfl, rfl⟩), by simp [o0], by simp [o0], by simp [o0]⟩
theorem sml_rec {ps : List (Value × List Int)} (h : SmL (ps.map (·.2))) (hr : allRec (ps.map (·.2)) = true) : ∀ r ∈ ps, r.2.length ≤ 500 := fun r hx => by
  have h1 := h.2 r.2 (List.mem_map.2 ⟨r, hx, rfl⟩)
  have h2 := List.all_eq_true.1 hr r.2 (List.mem_map.2 ⟨r, hx, rfl⟩)
  have h3 : 1 ≤ r.2.length ∧ r.2.length ≤ 20000 := by simpa [Fr.isRec] using h2
  omega
theorem sml_len {ps : List (Value × List Int)} (h : SmL (ps.map (·.2))) : ps.length ≤ 5 := by have := h.1; rwa [List.length_map] at this
theorem sml_sz {ps : List (Value × List Int)} (h : SmL (ps.map (·.2))) : ∀ r ∈ ps, r.2.length ≤ 1000000 := fun r hx => by
  have := h.2 r.2 (List.mem_map.2 ⟨r, hx, rfl⟩)
  omega
set_option maxHeartbeats 8000000 in
theorem snapWhole_spec {m : Mem} {va vb vl : Value} {pa pb : List (Value × List Int)} {last : List Int} {n : Int} (hg : Glob m) (hva : LsA m va pa) (hvb : LsA m vb pb) (hba : ∀ r ∈ pa, Byt r.2) (hbb : ∀ r ∈ pb, Byt r.2) (hl : Ia m vl last) (hlast : last.length ≤ 9223372036854775807) (hI : ∀ x ∈ last, -9223372036854775808 ≤ x ∧ x ≤ 9223372036854775807) :
    Spec Tryz.prog 5 [.v va, .v vb, i64 n, .v vl] m fun r m' => r = [boolV true] ∧ Sub m m' := by
  have al : ∀ {m1 : Mem}, Sub m m1 → Spec Tryz.prog 7 [] m1 fun r m' => r = [boolV true] ∧ Sub m1 m' := fun hs => alive17_spec (hg.sub hs)
  refine en5 rfl (goY ?_)
  conv => whnf
  refine xcall (great17_spec (k := 0) (n := 0) (o := o0) hva (o0_ok m)) ?_
  rintro _ m1 ⟨g1, rfl, hs1, hg1⟩
  conv => whnf
  cases g1 with
  | true =>
    refine ⟨fun _ => ?_, fun h => absurd h (by first | decide | simp)⟩
    conv => whnf
    refine xcall (al hs1) ?_
    rintro _ m2 ⟨rfl, hs2⟩
    conv => whnf
    exact ⟨rfl, hs1.trans hs2⟩
  | false =>
  refine ⟨fun h => absurd h (by first | decide | simp), fun _ => ?_⟩
  conv => whnf
  refine xcall (great17_spec (k := 0) (n := 0) (o := o0) (hvb.sub hs1) (o0_ok m1)) ?_
  rintro _ m2 ⟨g2, rfl, hs2, hg2⟩
  conv => whnf
  have hs2 := hs1.trans hs2
  cases g2 with
  | true =>
    refine ⟨fun _ => ?_, fun h => absurd h (by first | decide | simp)⟩
    conv => whnf
    refine xcall (al hs2) ?_
    rintro _ m3 ⟨rfl, hs3⟩
    conv => whnf
    exact ⟨rfl, hs2.trans hs3⟩
  | false =>
  refine ⟨fun h => absurd h (by first | decide | simp), fun _ => ?_⟩
  conv => whnf
  refine ⟨fun hc => ?_, fun hc => ?_⟩
  · conv => whnf
    refine xcall (al hs2) ?_
    rintro _ m3 ⟨rfl, hs3⟩
    conv => whnf
    exact ⟨rfl, hs2.trans hs3⟩
  have hn0 : 0 ≤ n := by have := of_decide_eq_false hc; omega
  clear hc
  conv => whnf
  refine ⟨fun hc => ?_, fun hc => ?_⟩
  · conv => whnf
    refine xcall (al hs2) ?_
    rintro _ m3 ⟨rfl, hs3⟩
    conv => whnf
    exact ⟨rfl, hs2.trans hs3⟩
  have hn4 : n ≤ 4 := by have := of_decide_eq_false hc; omega
  clear hc
  obtain ⟨s, rfl⟩ : ∃ s : Nat, n = s := ⟨n.toNat, by omega⟩
  have sa := (hg1 rfl).1
  have sb := (hg2 rfl).1
  have hRa : ∀ r ∈ pa.map (·.2), Byt r := fun r hr => by obtain ⟨x, hx, rfl⟩ := List.mem_map.1 hr; exact hba x hx
  have hRb : ∀ r ∈ pb.map (·.2), Byt r := fun r hr => by obtain ⟨x, hx, rfl⟩ := List.mem_map.1 hr; exact hbb x hx
  conv => whnf
  refine xcall (new_spec (q := 0) (by decide)) ?_
  rintro _ m3 ⟨bf, p, rfl, hs, h⟩
  conv => whnf
  have hs : Split m3 [p, m] := hs.under (a := [p]) ((Split.one m).grow hs2)
  refine ⟨fun h => absurd h (by first | decide | simp), fun _ => ?_⟩
  conv => whnf
  refine ⟨fun h => absurd h (by first | decide | simp), fun _ => ?_⟩
  conv => whnf
  have hm3 : Sub m m3 := hs.sub (by simp)
  cases hra : allRec (pa.map (·.2)) with
  | false =>
    refine xcall (saveL_bad (n := 3) (s := 4) (hg.sub hm3) (h.grow (hs.sub (a := p) (by simp))) smx_nil.sm smx_nil.nms (.inr hra) (hva.sub hm3) hba (by have := sml_len sa; omega) (sml_sz sa)) ?_
    rintro _ m4 ⟨rfl, hs4⟩
    conv => whnf
    refine ⟨fun _ => ?_, fun h => absurd h (by first | decide | simp)⟩
    conv => whnf
    refine xcall (al (hm3.trans hs4)) ?_
    rintro _ m5 ⟨rfl, hs5⟩
    conv => whnf
    refine ⟨fun _ => ?_, fun h => absurd h (by first | decide | simp)⟩
    conv => whnf
    have hp5 : Sub p m5 := ((hs.sub (a := p) (by simp)).trans hs4).trans hs5
    have hm5 : Sub m m5 := (hm3.trans hs4).trans hs5
    refine xcall (numbers_A (hg.sub hm5) (h.grow hp5) smx_nil.sm smx_nil.nms) ?_
    rintro _ m6 ⟨vn, pn, rfl, hsn, hvn⟩
    conv => whnf
    rw [show numsA [] = [] from numsA_eq (by simp) (by simp [numsN])] at hvn
    obtain ⟨an, cn, rfl⟩ := hvn.il.shape
    conv => whnf
    exact ⟨rfl, hm5.trans (hsn.sub (a := m5) (by simp))⟩
  | true =>
    refine xcall (saveL_ok (n := 3) (s := 4) (B := []) hg hs h smx_nil (by decide) (by decide) (by decide) rfl (low_nil 3) (by decide) (by decide) hra hva hba (sml_len sa) (sml_rec sa hra) (by decide)) ?_
    rintro _ m4 ⟨p4, nb4, ns4, rfl, hs4, h4, hnb4, hns4⟩
    conv => whnf
    have hla3 : (toN (Fr.cat (pa.map (·.2)))).length ≤ 3000 := by
      rw [toN_len]
      have := cat_small (l := pa.map (·.2)) fun r hr => by obtain ⟨x, hx, rfl⟩ := List.mem_map.1 hr; exact sml_rec sa hra x hx
      rw [List.length_map] at this
      have := sml_len sa
      omega
    have hx4 : Smx [sf 3 (pa.map (·.2))] nb4 ns4 := smx_nil.st (B := []) (n := 3) (by decide) rfl hla3 (by omega) (by omega) 4
    have h4 : FA p4 bf 0 nb4 ns4 [sf 3 (pa.map (·.2))] := h4
    rw [show stN 4 = 0 from rfl]
    refine ⟨fun h => absurd h (by first | decide | simp), fun _ => ?_⟩
    conv => whnf
    have hm4 : Sub m m4 := hs4.sub (by simp)
    cases hrb : allRec (pb.map (·.2)) with
    | false =>
      refine xcall (saveL_bad (n := 5) (s := s) (hg.sub hm4) (h4.grow (hs4.sub (a := p4) (by simp))) hx4.sm hx4.nms (.inr hrb) (hvb.sub hm4) hbb (by have := sml_len sb; omega) (sml_sz sb)) ?_
      rintro _ m5 ⟨rfl, hs5⟩
      conv => whnf
      have tl := whole_tail hg (hs4.grow hs5) h4 hx4 (by omega) (by omega) hva hvb hba hbb hra (sml_len sa) (sml_rec sa hra) (sml_len sb) (wh_one (st := -1) hra hRa (by omega)) hl hlast hI
      conv at tl => whnf
      refine .via _ _ ?_ tl
      conv => whnf
      repeat (refine And.intro (by first | with_reducible rfl | exact congrArg (Value.int _) (wi (by omega) (by omega)) | exact wi (by omega) (by omega) | rfl) ?_; conv => whnf)
      first | exact trivial | exact fun _ _ h => h
    | true =>
      have hl5 : Low [sf 3 (pa.map (·.2))] 5 := low_sf (by decide) (by decide)
      refine xcall (saveL_ok (n := 5) (s := s) (B := [sf 3 (pa.map (·.2))]) hg hs4 h4 hx4 (by omega) (by omega) (by simp) (rm_low hl5) hl5 (by decide) (by decide) hrb hvb hbb (sml_len sb) (sml_rec sb hrb) (by omega)) ?_
      rintro _ m5 ⟨p5, nb5, ns5, rfl, hs5, h5, hnb5, hns5⟩
      conv => whnf
      have hlb3 : (toN (Fr.cat (pb.map (·.2)))).length ≤ 3000 := by
        rw [toN_len]
        have := cat_small (l := pb.map (·.2)) fun r hr => by obtain ⟨x, hx, rfl⟩ := List.mem_map.1 hr; exact sml_rec sb hrb x hx
        rw [List.length_map] at this
        have := sml_len sb
        omega
      have hx5 : Smx (stA [sf 3 (pa.map (·.2))] 5 (toN (Fr.cat (pb.map (·.2)))) [sf 3 (pa.map (·.2))] s) nb5 ns5 := hx4.st (by simp) (rm_low hl5) hlb3 (by omega) (by omega) s
      have hW : Wh (stA [sf 3 (pa.map (·.2))] 5 (toN (Fr.cat (pb.map (·.2)))) [sf 3 (pa.map (·.2))] s) (stN s) (pa.map (·.2)) (pb.map (·.2)) := by
        have hc : s = 0 ∨ s = 1 ∨ s = 2 ∨ s = 3 ∨ s = 4 := by omega
        rcases hc with rfl | rfl | rfl | rfl | rfl
        · exact wh_one hra hRa (by decide)
        · exact wh_tmp hra hRa (by decide) rfl
        · exact wh_tmp hra hRa (by decide) rfl
        · exact wh_two hrb hRb (by decide)
        · exact wh_five hrb hRb (by decide)
      have tl := whole_tail hg hs5 h5 hx5 (by omega) (by omega) hva hvb hba hbb hra (sml_len sa) (sml_rec sa hra) (sml_len sb) hW hl hlast hI
      conv at tl => whnf
      refine .via _ _ ?_ tl
      conv => whnf
      repeat (refine And.intro (by first | with_reducible rfl | exact congrArg (Value.int _) (wi (by omega) (by omega)) | exact wi (by omega) (by omega) | rfl) ?_; conv => whnf)
      first | exact trivial | exact fun _ _ h => h
end Go.E.YtgjlajcebcmbaaaGreatDoor

/-
  Law SnapLast.
-/
namespace Go.E.YtgjlajcebcmbaaaGreatDoor
open Go.Proofs
set_option maxRecDepth 100000
theorem wf_u16 {n : Int} (h : (Lit.int .u16 n).wf = true) : 0 ≤ n ∧ n < 65536 := by
  simp [Lit.wf, IntKind.min, IntKind.max, IntKind.signed, IntKind.bits] at h
  omega
/-- lists of lists of bytes -/
def LssA (m : Mem) (v : Value) (qs : List (Value × List (Value × List Int))) : Prop := (Lies m 1 v (qs.map (·.1)) ∨ (qs = [] ∧ ∃ a, v = .slice (some a) 0 0)) ∧ ∀ q ∈ qs, LsA m q.1 q.2 ∧ ∀ r ∈ q.2, Byt r.2
theorem LssA.shape {m : Mem} {v : Value} {qs : List (Value × List (Value × List Int))} (h : LssA m v qs) : ∃ a c, v = .slice a qs.length c := by
  rcases h.1 with h | ⟨rfl, a, rfl⟩
  · rcases h with ⟨c, rfl, e⟩ | ⟨b, o, c, n, arr, t, fr, rfl, _, e, _⟩
    · have : qs.length = 0 := by simpa using congrArg List.length e
      exact ⟨none, c, by rw [this]⟩
    · have : qs.length = n := by simpa using e
      exact ⟨_, c, by rw [this]⟩
  · exact ⟨_, _, rfl⟩
theorem LssA.real {m : Mem} {v : Value} {qs : List (Value × List (Value × List Int))} (h : LssA m v qs) {i : Nat} (hi : i < qs.length) : ∃ b o c, v = .slice (some ⟨b, o, none⟩) qs.length c ∧ ∀ (i : Nat) (hi : i < qs.length), mcell m b (o + i) = some qs[i].1 := by
  rcases h.1 with h | ⟨rfl, a, rfl⟩
  · rcases h with ⟨c, rfl, e⟩ | ⟨b, o, c, n, arr, t, fr, rfl, g1, e, _, g2, _⟩
    · have : qs.length = 0 := by simpa using congrArg List.length e
      omega
    · have : qs.length = n := by simpa using e
      exact ⟨b, o, c, by rw [this], fun j hj => mcell_of g1 (g2 j _ (by simp [hj]))⟩
  · simp at hi
theorem dat_rows2 {m : Mem} : ∀ {els : List (List Value)}, (∀ c ∈ els, Dat m (.slice (.slice (.int .u8))) c) → ∃ qs : List (Value × List (Value × List Int)), els = qs.map (fun p => [p.1]) ∧ ∀ q ∈ qs, LsA m q.1 q.2 ∧ ∀ r ∈ q.2, Byt r.2
  | [], _ => ⟨[], rfl, by simp⟩
  | c :: els, h => by
    obtain ⟨v, l, rfl, h1, h2, _⟩ := dat_lists (h c (by simp))
    obtain ⟨ps, rfl, h3⟩ := dat_rows2 (els := els) fun c hc => h c (by simp [hc])
    exact ⟨(v, l) :: ps, rfl, fun p hp => (List.mem_cons.1 hp).elim (fun e => e ▸ ⟨h1, h2⟩) (h3 p)⟩
theorem dat_lists2 {m : Mem} {cs : List Value} (h : Dat m (.slice (.slice (.slice (.int .u8)))) cs) : ∃ v qs, cs = [v] ∧ LssA m v qs ∧ qs.length ≤ maxLen := by
  obtain ⟨v, els, rfl, h1, h2, h3, h4⟩ := h
  obtain ⟨ps, rfl, h5⟩ := dat_rows2 h3
  refine ⟨v, ps, rfl, ⟨?_, h5⟩, by simpa using h4⟩
  rcases h1 with h1 | ⟨h1, a, rfl⟩
  · refine .inl ?_
    have e : (ps.map fun p => [p.1]).flatten = ps.map (·.1) := by
      clear h1 h2 h3 h4 h5
      induction ps with
      | nil => rfl
      | cons p ps ih => simp [ih]
    rw [e] at h1
    exact h1
  · exact .inr ⟨by simpa using h1, a, rfl⟩
/-- the files behind some saves -/
def stL (n : Nat) (R : List (List Int)) : List Af := if n = 0 then [] else [sf n R]
theorem stL_low {n m : Nat} {R : List (List Int)} (h : n < m) : Low (stL n R) m := by
  unfold stL
  split
  · exact low_nil m
  · exact low_sf (by omega) h
theorem stL_len (n : Nat) (R : List (List Int)) : (stL n R).length = if 0 < n then 1 else 0 := by
  unfold stL
  by_cases h : n = 0
  · rw [if_pos h, if_neg (by omega)]; rfl
  · rw [if_neg h, if_pos (by omega)]; rfl
theorem stL_nums {n : Nat} {R : List (List Int)} (hn : n ≤ 999999) : numsA (stL n R) = if n = 0 then [] else [n] := by
  unfold stL
  split
  · exact numsA_eq (by simp) (by simp [numsN])
  · exact toN_cat_nums (by omega) hn
theorem stL_load {n : Nat} {R : List (List Int)} (hn : n ≤ 999999) (hR : allRec R = true) (hb : ∀ r ∈ R, Byt r) (h0 : n = 0 → R = []) : loadA (stL n R) = (n, R, 0) := by
  by_cases h : n = 0
  · rw [h0 h]
    rw [loadA_none (by rw [stL_nums hn, if_pos h]), h]
  · unfold stL
    rw [if_neg h]
    exact load_one (by omega) hn hR hb
theorem stL_may {n : Nat} {R : List (List Int)} (hn : n ≤ 999999) : mayN (stL n R) n = false := by
  unfold mayN
  rw [stL_nums hn]
  by_cases h : n = 0
  · subst h; rfl
  · rw [if_neg h]; simp
theorem stL_smx {n nb ns : Nat} {R : List (List Int)} (hR : (Fr.cat R).length ≤ 3000) (h1 : nb ≤ 300000) (h2 : ns ≤ 500) : Smx (stL n R) nb ns := by
  unfold stL
  split
  · exact ⟨by simp, by simp, by simp, h1, h2⟩
  · exact ⟨fun a ha => by rw [List.mem_singleton.1 ha]; show (toN _).length ≤ 3000; rw [toN_len]; exact hR, fun a ha => by rw [List.mem_singleton.1 ha]; show (Sn.nm n).size ≤ 20; rw [Sn.nm_size]; decide, by simp, h1, h2⟩
set_option maxHeartbeats 8000000 in
theorem last_tail {m mm p p2 : Mem} {bf nb ns n : Nat} {R : List (List Int)} {v v2 : Value} {ps ps2 : List (Value × List Int)} (hg : Glob m) (hs : Split mm [p2, p, m]) (h : FA p bf 0 nb ns (stL n R)) (hk : Smx (stL n R) nb ns) (hn : n ≤ 999999)
    (hv : LsA m v ps) (hv2 : Lists p2 v2 ps2) (hb : ∀ r ∈ ps, Byt r.2) (hR : ps.map (·.2) = R) (hR2 : ps2.map (·.2) = R) (hl : ps.length ≤ 5) :
    xwpY c4 (restAt 17 (bodyOf Tryz.f4)) (QRetY tt.get Tryz.f4.results.toList fun r m' => r = [boolV true] ∧ Sub m m')
      [(5, .c (ptrB bf)), (7, .c (i64 n)), (8, .c (.v v)), (10, .c (i64 n)), (11, .c (.v v2)), (12, .c (i64 0)), (13, .c (i64 ((stL n R).length : Nat)))] [] mm [] := by
  have hpm : Sub p mm := hs.sub (by simp)
  have hmm : Sub m mm := hs.sub (by simp)
  conv => whnf
  refine .at ?_
  conv => whnf
  refine xcall (begin_bad (hg.sub hmm) (h.grow hpm) hk.sm hk.nms (stL_may hn)) ?_
  rintro _ m1 ⟨rfl, hs1⟩
  conv => whnf
  refine xcall (alive17_spec (hg.sub (hmm.trans hs1))) ?_
  rintro _ m2 ⟨rfl, hs2⟩
  conv => whnf
  have hs12 := hs1.trans hs2
  have hbp : ∀ p ∈ ps2, Byt p.2 := fun p hp => by
    have : p.2 ∈ ps2.map (·.2) := List.mem_map.2 ⟨p, hp, rfl⟩
    rw [hR2, ← hR] at this
    obtain ⟨x, hx, e⟩ := List.mem_map.1 this
    rw [← e]; exact hb x hx
  have hlp : ps2.length ≤ 5 := by
    have := congrArg List.length (hR2.trans hR.symm)
    simp only [List.length_map] at this
    omega
  refine ⟨fun _ => ?_, fun h => absurd h (by first | decide | simp)⟩
  conv => whnf
  refine ⟨fun _ => ?_, fun h => absurd h (by first | decide | simp)⟩
  conv => whnf
  first | refine xretk (same17_spec (.inl (hv2.sub ((hs.sub (a := p2) (by simp)).trans hs12))) (hv.sub (hmm.trans hs12)) hbp hb (by omega)) ?_ | refine xret (same17_spec (.inl (hv2.sub ((hs.sub (a := p2) (by simp)).trans hs12))) (hv.sub (hmm.trans hs12)) hbp hb (by omega)) ?_
  conv => whnf
  rw [decide_eq_true (hR2.trans hR.symm)]
  refine ⟨fun _ => ?_, fun h => absurd h (by first | decide | simp)⟩
  conv => whnf
  refine ⟨fun _ => ?_, fun h => absurd h (by first | decide | simp)⟩
  conv => whnf
  refine xcall (numbers_A (hg.sub (hmm.trans hs12)) (h.grow (hpm.trans hs12)) hk.sm hk.nms) ?_
  rintro _ m4 ⟨vn, pn, rfl, hsn, hvn⟩
  conv => whnf
  have hnl : (numsA (stL n R)).length = (stL n R).length := by rw [stL_nums hn, stL]; split <;> rfl
  have hncl := nc_len (numsA (stL n R))
  obtain ⟨an, cn, rfl⟩ := hvn.il.shape
  rw [hncl, hnl]
  refine ⟨fun _ => ?_, fun h => absurd h (by first | decide | simp)⟩
  conv => whnf
  exact ⟨rfl, (hmm.trans hs12).trans (hsn.sub (by simp))⟩
set_option maxHeartbeats 8000000 in
theorem snapLast_spec {m : Mem} {v : Value} {qs : List (Value × List (Value × List Int))} {n : Int} (hg : Glob m) (hv : LssA m v qs) (hn : 0 ≤ n ∧ n < 65536) :
    Spec Tryz.prog 4 [.v v, .v (.int .u16 n)] m fun r m' => r = [boolV true] ∧ Sub m m' := by
  have al : ∀ {m1 : Mem}, Sub m m1 → Spec Tryz.prog 7 [] m1 fun r m' => r = [boolV true] ∧ Sub m1 m' := fun hs => alive17_spec (hg.sub hs)
  obtain ⟨a, c, rfl⟩ := hv.shape
  refine en4 rfl (goY ?_)
  conv => whnf
  refine xcall (new_spec (q := 0) (by decide)) ?_
  rintro _ m1 ⟨bf, p, rfl, hs, h⟩
  conv => whnf
  have hm1 : Sub m m1 := hs.sub (by simp)
  refine ⟨fun h => absurd h (by first | decide | simp), fun _ => ?_⟩
  conv => whnf
  refine ⟨fun h => absurd h (by first | decide | simp), fun _ => ?_⟩
  conv => whnf
  refine ⟨fun hc => ?_, fun hc => ?_⟩
  · conv => whnf
    refine ⟨fun _ => ?_, fun h => absurd h (by first | decide | simp)⟩
    conv => whnf
    refine ⟨fun _ => ?_, fun h => absurd h (by first | decide | simp)⟩
    conv => whnf
    refine xcall (al hm1) ?_
    rintro _ m2 ⟨rfl, hs2⟩
    conv => whnf
    exact ⟨rfl, hm1.trans hs2⟩
  have hq8 : qs.length ≤ 8 := by have := of_decide_eq_false hc; omega
  clear hc
  obtain ⟨k, rfl⟩ : ∃ k : Nat, n = k := ⟨n.toNat, by omega⟩
  conv => whnf
  refine .mk (ι := Nat × Nat × Value) (fun i => qs.length - i.1) (fun ⟨i, at', lv⟩ mm => i ≤ qs.length ∧ at' ≤ 6 * i ∧ ∃ (p : Mem) (nb ns : Nat) (ps : List (Value × List Int)), Split mm [p, m] ∧ FA p bf 0 nb ns (stL at' (ps.map (·.2))) ∧ nb ≤ 12000 * i ∧ ns ≤ 4 * i ∧ LsA m lv ps ∧ (∀ r ∈ ps, Byt r.2) ∧ allRec (ps.map (·.2)) = true ∧ (at' = 0 → ps.map (·.2) = []) ∧ ps.length ≤ 5 ∧ (Fr.cat (ps.map (·.2))).length ≤ 3000)
    (fun ⟨i, at', lv⟩ => [(0, .c (.v (.slice a qs.length c))), (1, .c (.v (.int .u16 (k : Int)))), (5, .c (ptrB bf)), (7, .c (i64 at')), (8, .c (.v lv)), (9, .c (i64 i))]) (fun _ => []) (0, 0, .slice none 0 0)
    ⟨by omega, by omega, p, 0, 0, [], hs, h, by omega, by omega, .inl ⟨.inl ⟨0, rfl, rfl⟩, by simp⟩, by simp, rfl, fun _ => rfl, by simp, by simp [Fr.cat]⟩ ?_ ?_
  · conv => whnf
    repeat (refine And.intro (by first | with_reducible rfl | exact congrArg (Value.int _) (wi (by omega) (by omega)) | exact wi (by omega) (by omega) | rfl) ?_; conv => whnf)
    first | exact trivial | exact fun _ _ h => h
  rintro ⟨i, at', lv⟩ mm ⟨hi, hat, p, nb, ns, ps, hs, h, hnb, hns, hlv, hpb, hpr, hp0, hp5, hpc⟩
  have hmm : Sub m mm := hs.sub (by simp)
  have hR : ∀ r ∈ ps.map (·.2), Byt r := fun r hr => by obtain ⟨x, hx, rfl⟩ := List.mem_map.1 hr; exact hpb x hx
  have hk : Smx (stL at' (ps.map (·.2))) nb ns := stL_smx hpc (by omega) (by omega)
  conv => whnf
  refine ⟨fun hc => ?_, fun hc => ?_⟩
  · have hlt : i < qs.length := by have := of_decide_eq_true hc; omega
    clear hc
    obtain ⟨b, o, c', hh, hgi⟩ := hv.real hlt
    injection hh with hh1 _ hh3
    subst hh1
    clear hh3 c'
    have hgi := hgi i hlt
    obtain ⟨hq1, hq2⟩ := hv.2 _ (List.getElem_mem hlt)
    generalize qs[i] = q at hgi hq1 hq2
    obtain ⟨qv, qp⟩ := q
    simp only at hgi hq1 hq2
    have hone : qv.oneCell' = true := by obtain ⟨a, c, e⟩ := hq1.shape; rw [e]; rfl
    conv => whnf
    repeat (refine And.intro (by first | omega | (simp only [times]; omega)) ?_; conv => whnf)
    refine ⟨_, mcell_sub hgi hmm, hone, ?_⟩
    conv => whnf
    refine xcall (great17_spec (k := 0) (n := 0) (o := o0) (hq1.sub hmm) (o0_ok mm)) ?_
    rintro _ m1 ⟨g1, rfl, hs1, hg1⟩
    conv => whnf
    have hmm1 := hmm.trans hs1
    cases g1 with
    | true =>
      refine ⟨fun _ => ?_, fun h => absurd h (by first | decide | simp)⟩
      conv => whnf
      refine xcall (al hmm1) ?_
      rintro _ m2 ⟨rfl, hs2⟩
      conv => whnf
      exact ⟨rfl, hmm1.trans hs2⟩
    | false =>
    have sq := (hg1 rfl).1
    have hs := hs.grow hs1
    refine ⟨fun h => absurd h (by first | decide | simp), fun _ => ?_⟩
    conv => whnf
    have ew : IntKind.i64.wrap (IntKind.i64.wrap ((at' : Int) + 1) + IntKind.i64.wrap ((k : Int).tmod 5)) = ((at' + 1 + k % 5 : Nat) : Int) := by
      have : (k : Int).tmod 5 = ((k % 5 : Nat) : Int) := rfl
      rw [this, wi (n := (at' : Int) + 1) (by omega) (by omega), wi (n := ((k % 5 : Nat) : Int)) (by omega) (by omega), wi (by omega) (by omega)]; omega
    rw [ew]
    repeat (refine And.intro (by first | omega | (simp only [times]; omega)) ?_; conv => whnf)
    refine ⟨_, mcell_sub hgi hmm1, hone, ?_⟩
    conv => whnf
    have hlow : Low (stL at' (ps.map (·.2))) (at' + 1 + k % 5) := stL_low (by omega)
    have hlen1 : (stL at' (ps.map (·.2))).length ≤ 9 := by rw [stL_len]; split <;> omega
    cases hrq : allRec (qp.map (·.2)) with
    | false =>
      refine xcall (saveL_bad (n := ((at' + 1 + k % 5 : Nat) : Int)) (s := 4) (hg.sub hmm1) (h.grow (hs.sub (by simp))) hk.sm hk.nms (.inr hrq) (hq1.sub hmm1) hq2 (by have := sml_len sq; omega) (sml_sz sq)) ?_
      rintro _ m2 ⟨rfl, hs2⟩
      conv => whnf
      refine ⟨fun h => absurd h (by first | decide | simp), fun _ => ?_⟩
      conv => whnf
      refine ⟨(i + 1, at', lv), ⟨by omega, by omega, p, nb, ns, ps, hs.grow hs2, h, by omega, by omega, hlv, hpb, hpr, hp0, hp5, hpc⟩, by first | omega | (simp only; omega), ?_⟩
      conv => whnf
      repeat (refine And.intro (by first | with_reducible rfl | (first | exact congrArg (Value.int _) (iadd1 (by omega))) | exact congrArg (Value.int _) (wi (by omega) (by omega)) | exact wi (by omega) (by omega) | rfl) ?_; conv => whnf)
      first | exact trivial | exact fun _ _ h => h
    | true =>
      refine xcall (saveL_ok (n := at' + 1 + k % 5) (s := 4) (B := stL at' (ps.map (·.2))) hg hs h hk (by omega) (by omega) hlen1 (rm_low hlow) hlow (by omega) (by omega) hrq hq1 hq2 (sml_len sq) (sml_rec sq hrq) (by decide)) ?_
      rintro _ m4 ⟨p4, nb4, ns4, rfl, hs4, h4, hnb4, hns4⟩
      conv => whnf
      have h4 : FA p4 bf 0 nb4 ns4 (stL (at' + 1 + k % 5) (qp.map (·.2))) := by
        unfold stL
        rw [if_neg (by omega)]
        exact h4
      have hqc : (Fr.cat (qp.map (·.2))).length ≤ 3000 := by
        have := cat_small (l := qp.map (·.2)) fun r hr => by obtain ⟨x, hx, rfl⟩ := List.mem_map.1 hr; exact sml_rec sq hrq x hx
        rw [List.length_map] at this
        have := sml_len sq
        omega
      have hm4 : Sub m m4 := hs4.sub (by simp)
      rw [show stN 4 = 0 from rfl]
      refine ⟨fun _ => ?_, fun h => absurd h (by first | decide | simp)⟩
      conv => whnf
      repeat (refine And.intro (by first | omega | (simp only [times]; omega)) ?_; conv => whnf)
      rw [ew]
      refine ⟨_, mcell_sub hgi hm4, hone, ?_⟩
      conv => whnf
      refine ⟨(i + 1, at' + 1 + k % 5, qv), ⟨by omega, by omega, p4, nb4, ns4, qp, hs4, h4, by omega, by omega, hq1, hq2, hrq, fun h => absurd h (by omega), sml_len sq, hqc⟩, by first | omega | (simp only; omega), ?_⟩
      conv => whnf
      repeat (refine And.intro (by first | with_reducible rfl | (first | exact congrArg (Value.int _) (iadd1 (by omega))) | exact congrArg (Value.int _) (wi (by omega) (by omega)) | exact wi (by omega) (by omega) | rfl) ?_; conv => whnf)
      first | exact trivial | exact fun _ _ h => h
  · have hc' := of_decide_eq_false hc
    obtain rfl : i = qs.length := by omega
    clear hc
    conv => whnf
    refine xcall (load_A (hg.sub hmm) (h.grow (hs.sub (by simp))) hk.sm hk.nms) ?_
    rintro _ m2 ⟨v2, ps2, p2, rfl, hs2, hls2, hpr2⟩
    conv => whnf
    rw [stL_load (by omega) hpr hR hp0] at hpr2 ⊢
    have hs2 : Split m2 [p2, p, m] := hs2.under (a := [p2]) hs
    have tl := last_tail hg hs2 h hk (by omega) hlv hls2 hpb rfl hpr2 hp5
    conv at tl => whnf
    have hln := stL_len at' (ps.map (·.2))
    refine ⟨fun hc => ?_, fun hc => ?_⟩
    · have : 0 < at' := by have := of_decide_eq_true hc; omega
      rw [if_pos this] at hln
      rw [hln] at tl
      conv => whnf
      refine .via _ _ ?_ tl
      conv => whnf
      repeat (refine And.intro (by first | with_reducible rfl | exact congrArg (Value.int _) (wi (by omega) (by omega)) | exact wi (by omega) (by omega) | rfl) ?_; conv => whnf)
      first | exact trivial | exact fun _ _ h => h
    · have : ¬ 0 < at' := by have := of_decide_eq_false hc; omega
      rw [if_neg this] at hln
      rw [hln] at tl
      conv => whnf
      refine .via _ _ ?_ tl
      conv => whnf
      repeat (refine And.intro (by first | with_reducible rfl | exact congrArg (Value.int _) (wi (by omega) (by omega)) | exact wi (by omega) (by omega) | rfl) ?_; conv => whnf)
      first | exact trivial | exact fun _ _ h => h
end Go.E.YtgjlajcebcmbaaaGreatDoor

/-
  What the listed package variables hold, out of what the row says of them.
-/
namespace Go.E
theorem trod_ints {H : Type} {enc : TypeId × Value → H} {P : Program} {w : World} {base : Nat} {spare : Nat → Bool} {held : Bool} {fuel : Nat} {t e : TypeId} {cs : List Value} {n : Nat} {k : IntKind} {zs : List Int} {p : List MemPlace} (ht : P.underlying t = some (.array n e)) (he : P.underlying e = some (.int k)) (hc : P.cellsOf e = 1) (hct : P.cellsOf t = n)
    (h : DataW.trod enc P w base spare held fuel t cs = some (.agg (zs.map fun z => .lit (.int k z)), p)) : cs = zs.map fun z => Value.int k z := by
  obtain ⟨xs, m, _, ex, hl, hn, hel⟩ := DataW.trod_array ht h
  rw [hct] at hl
  have e1 : xs.map (·.1) = zs.map fun z => .lit (.int k z) := (DataW.agg.inj (Prod.mk.inj ex).1).symm
  have hz : zs.length = n := by have := congrArg List.length e1; simp at this; omega
  refine List.ext_getElem? fun i => ?_
  by_cases hi : i < n
  · have h1 := hel i hi
    rw [hc, Nat.mul_one, List.getElem?_eq_getElem (by omega)] at h1
    obtain ⟨z, f1, f2, _⟩ := DataW.trod_int he h1
    have e4 : (xs.map (·.1))[i]? = (zs.map fun z => (DataW.lit (.int k z) : DataW H))[i]? := by rw [e1]
    rw [List.getElem?_map, List.getElem?_map, List.getElem?_eq_getElem (by omega : i < xs.length), List.getElem?_eq_getElem (by omega : i < zs.length), f2] at e4
    have hzz : z = zs[i] := by simpa using e4
    have h0 : ((cs.drop i).take 1)[0]? = some (.int k z) := by rw [f1]; rfl
    rw [List.getElem?_map, List.getElem?_eq_getElem (by omega : i < zs.length), ← hzz]
    simpa using h0
  · rw [List.getElem?_eq_none (by omega), List.getElem?_eq_none (by simp; omega)]
theorem trod_iface {H : Type} {enc : TypeId × Value → H} {P : Program} {w : World} {base : Nat} {spare : Nat → Bool} {fuel : Nat} {t : TypeId} {cs : List Value} {ms : _} {name : String} {d : DataW H} {p : List MemPlace} (ht : P.underlying t = some (.interface ms))
    (h : DataW.trod enc P w base spare false fuel t cs = some (.iface name d, p)) : ∃ u v, cs = [.iface u v] := by
  cases fuel with
  | zero => simp [DataW.trod] at h
  | succ m =>
    unfold DataW.trod at h
    rw [ht] at h
    split at h <;> simp_all
theorem var_heap {P : Program} {W : World} {name : String} {g : Nat} {cs : Array Value} (hg : P.globalNamed name = some g) (h : W.var? P name = some cs) : ∃ T fr, W.heap[g]? = some (.cells cs T fr) := by
  unfold World.var? at h
  rw [hg] at h
  simp only [Option.bind_some] at h
  split at h
  · rename_i arr T fr hb
    injection h with h; subst h
    exact ⟨T, fr, hb⟩
  · cases h
end Go.E
namespace Go.E.YtgjlajcebcmbaaaGreatDoor
open Go.Proofs
set_option maxRecDepth 100000
theorem glob_met {W : World} (h : laidMetH Tryz.prog [("math/bits.deBruijn32tab", Go.Proofs.YtgjlajcebcmbaaaGreatDoor.Rows.laid_math_bits_deBruijn32tab), ("math/bits.deBruijn64tab", Go.Proofs.YtgjlajcebcmbaaaGreatDoor.Rows.laid_math_bits_deBruijn64tab), ("internal/strconv.uint64pow10", Go.Proofs.YtgjlajcebcmbaaaGreatDoor.Rows.laid_internal_strconv_uint64pow10), ("strconv.ErrRange", Go.Proofs.YtgjlajcebcmbaaaGreatDoor.Rows.laid_strconv_ErrRange), ("strconv.ErrSyntax", Go.Proofs.YtgjlajcebcmbaaaGreatDoor.Rows.laid_strconv_ErrSyntax)] W) : Glob (fun b => W.heap[b]?) := by
  rw [MakeChecks.laidMetH_plain _ _ _ (by kernel_rfl)] at h
  obtain ⟨ps, hl, _, _⟩ := h
  obtain ⟨g1, t1, c1, f1, p1, q1, hg1, ht1, hv1, hd1, hl, _⟩ := hl
  obtain ⟨g2, t2, c2, f2, p2, q2, hg2, ht2, hv2, hd2, hl, _⟩ := hl
  obtain ⟨g3, t3, c3, f3, p3, q3, hg3, ht3, hv3, hd3, hl, _⟩ := hl
  obtain ⟨g4, t4, c4, f4, p4, q4, hg4, ht4, hv4, hd4, hl, _⟩ := hl
  obtain ⟨g5, t5, c5, f5, p5, q5, hg5, ht5, hv5, hd5, hl, _⟩ := hl
  obtain rfl := Option.some.inj (gTab.symm.trans hg3)
  obtain rfl := Option.some.inj (gRng.symm.trans hg4)
  obtain rfl := Option.some.inj (gSyn.symm.trans hg5)
  obtain ⟨T3, r3, hh3⟩ := var_heap hg3 hv3
  obtain ⟨T4, r4, hh4⟩ := var_heap hg4 hv4
  obtain ⟨T5, r5, hh5⟩ := var_heap hg5 hv5
  obtain rfl := Option.some.inj ((show (Tryz.prog.globals[2]?).map (·.type) = some 199 by kernel_rfl).symm.trans ht3)
  obtain rfl := Option.some.inj ((show (Tryz.prog.globals[1]?).map (·.type) = some 80 by kernel_rfl).symm.trans ht4)
  obtain rfl := Option.some.inj ((show (Tryz.prog.globals[0]?).map (·.type) = some 80 by kernel_rfl).symm.trans ht5)
  have k3 := trod_ints (zs := Lib.pow10Tab) Tryz.underlying199 Tryz.underlying57 (by kernel_rfl) (by kernel_rfl) hd3
  obtain ⟨u4, w4, k4⟩ := trod_iface Tryz.underlying80 hd4
  obtain ⟨u5, w5, k5⟩ := trod_iface Tryz.underlying80 hd5
  refine ⟨⟨u5, w5, T5, r5, ?_⟩, ⟨u4, w4, T4, r4, ?_⟩, ⟨T3, r3, ?_⟩⟩
  · rw [hh5, ← Array.toArray_toList (xs := c5), k5]
  · rw [hh4, ← Array.toArray_toList (xs := c4), k4]
  · rw [hh3, ← Array.toArray_toList (xs := c3), k3]
end Go.E.YtgjlajcebcmbaaaGreatDoor
