/-
  Law FrameTorn: behind the records.
-/
import Derived.Test.YtkapdbbjgpofnaaFrameL
import Derived.Test.YtkapdbbjgpofnaaListsDat
namespace Go.E.Ytkapdbbjgpofnaa
open Go.Proofs
set_option maxRecDepth 100000
theorem hIs : tt.get 24 = some ⟨.slice 3, 1, 24, [.one (.slice none 0 0)], false⟩ := by rfl
theorem buildI1 {m : Mem} {x : Int} : PrimSpec Try.prog (.buildSlice 24 1 [0]) [.v (.int .i64 x)] m fun r m' => ∃ b, m b = none ∧ r = [.v (.slice (some ⟨b, 0, none⟩) 1 1)] ∧ m' = m.set b (.cells #[.int .i64 x] 3) :=
  buildSlice_spec (n := 1) tt_ok hIs rfl hI rfl rfl (by simp [CV.cs]) (by simp) (by simp)
/-- the ends of frames -/
def ends (rs : List (List Int)) : List Value := (List.range rs.length).map fun j => Value.int .i64 (((Fr.cat (rs.take (j + 1))).length : Nat) : Int)
theorem ends_snoc (rs : List (List Int)) (r : List Int) : ends (rs ++ [r]) = ends rs ++ [.int .i64 (((Fr.cat (rs ++ [r])).length : Nat) : Int)] := by
  simp only [ends, List.length_append, List.length_singleton, List.range_succ, List.map_append, List.map_singleton]
  congr 1
  · refine List.map_congr_left fun j hj => ?_
    have := List.mem_range.1 hj
    rw [List.take_append_of_le_length (by omega)]
  · rw [List.take_of_length_le (by simp)]
/-- what is known of the records told -/
structure Told (m : Mem) (n : Nat) (ts : List (Value × List Int)) : Prop where
  len : ts.length ≤ n
  la : ∀ q ∈ ts, La m q.1 q.2
  byt : ∀ q ∈ ts, Byt q.2
  isr : ∀ q ∈ ts, Fr.isRec q.2.length = true
  sm : ∀ q ∈ ts, q.2.length ≤ 600
theorem Told.catlen : ∀ {m : Mem} {n : Nat} {ts : List (Value × List Int)}, Told m n ts → (Fr.cat (ts.map (·.2))).length ≤ 613 * ts.length
  | _, _, [], _ => by simp [Fr.cat]
  | m, n, q :: ts, h => by
    have := Told.catlen (m := m) (n := n) (ts := ts) ⟨by have := h.len; simp at this; omega, fun q hq => h.la q (by simp [hq]), fun q hq => h.byt q (by simp [hq]), fun q hq => h.isr q (by simp [hq]), fun q hq => h.sm q (by simp [hq])⟩
    have h6 := h.sm q (by simp)
    have h9 := numB_len (q.2.length : Int)
    simp only [Fr.cat, List.map_cons, List.flatten_cons, List.length_append, List.length_cons, Fr.wr, Fr.four, List.length_nil] at this ⊢
    omega
theorem kept_of {m mx my : Mem} {b : Nat} {ob : Obj} (h : m b = some ob) (hx : Sub m mx) (hy : Sub m my) : Kept [b] mx my := fun x hx' => by
  rw [List.mem_singleton.1 hx', hx _ _ h, hy _ _ h]
theorem mcell_blk {m : Mem} {b o : Nat} {v : Value} (h : mcell m b o = some v) : ∃ ob, m b = some ob := by
  unfold mcell at h
  cases hb : m b with
  | none => simp [hb] at h
  | some u => exact ⟨u, rfl⟩
theorem pushIat {m : Mem} {ls : List Mem} {p : Mem} {b' i : Nat} {x : Int} {y : Value} {vs : List Value} (hs : Split m ls) (hi : ls[i]? = some p) (hb : m b' = some (.cells #[.int .i64 x] 3)) (hy : Own p 3 1 y vs) (hl : vs.length ≤ 100000000) :
    PrimSpec Try.prog (.builtin .append [24, 24]) [.v y, .v (.slice (some ⟨b', 0, none⟩) 1 1)] m fun r m' => ∃ y' p', r = [.v y'] ∧ Split m' (ls.set i p') ∧ Own p' 3 1 y' (vs ++ [.int .i64 x]) := by
  have e1 := hy.lies.len
  have e2 : lenV (.slice (some ⟨b', 0, none⟩) 1 1) = 1 := rfl
  have g : Gives m 1 (.slice 3) (.slice (some ⟨b', 0, none⟩) 1 1) [.int .i64 x] :=
    .inl ⟨_, rfl, .inl (.inr ⟨b', 0, 1, 1, _, _, _, rfl, hb, rfl, Nat.le_refl _, fun j u hu => by simpa using hu, by simp [Value.oneCell']⟩)⟩
  exact (append_at tt_ok hIs rfl hI hIs rfl hs hi hy g (by rw [e2]; simp only; omega) (by rw [e2]; omega)).mono fun r m' ⟨v', p', h1, h2, h3⟩ => ⟨v', p', h1, h2, h3.own⟩
theorem pushLat {m : Mem} {ls : List Mem} {p : Mem} {b' i : Nat} {x : Value} {y : Value} {vs : List Value} (hs : Split m ls) (hi : ls[i]? = some p) (hb : m b' = some (.cells #[x] 23)) (hx : x.oneCell' = true) (hy : Own p 23 1 y vs) (hl : vs.length ≤ 100000000) :
    PrimSpec Try.prog (.builtin .append [22, 22]) [.v y, .v (.slice (some ⟨b', 0, none⟩) 1 1)] m fun r m' => ∃ y' p', r = [.v y'] ∧ Split m' (ls.set i p') ∧ Own p' 23 1 y' (vs ++ [x]) := by
  have e1 := hy.lies.len
  have e2 : lenV (.slice (some ⟨b', 0, none⟩) 1 1) = 1 := rfl
  have g : Gives m 1 (.slice 23) (.slice (some ⟨b', 0, none⟩) 1 1) [x] :=
    .inl ⟨_, rfl, .inl (.inr ⟨b', 0, 1, 1, _, _, _, rfl, hb, rfl, Nat.le_refl _, fun j u hu => by simpa using hu, by simpa using hx⟩)⟩
  exact (append_at tt_ok hLs rfl hBs hLs rfl hs hi hy g (by rw [e2]; simp only; omega) (by rw [e2]; omega)).mono fun r m' ⟨v', p', h1, h2, h3⟩ => ⟨v', p', h1, h2, h3.own⟩
theorem read_spec' {m : Mem} {b o c n : Nat} {l : List Int} (hn : l.length = n) (hv : La m (.slice (some ⟨b, o, none⟩) n c) l) (hb : Byt l) (hl : n ≤ 1000000) (hc : n ≤ c) : Spec Try.prog 7 [.v (.slice (some ⟨b, o, none⟩) n c)] m fun r m' => ∃ v' ps p, r = [.v v', i64 ((Fr.read (l.length + 1) l).2.1 : Nat), i64 (Fr.read (l.length + 1) l).2.2] ∧ Split m' [p, m] ∧ Lists p v' ps ∧ ps.map (·.2) = (Fr.read (l.length + 1) l).1 := by
  subst hn; exact read_spec hv hb hl hc
set_option maxHeartbeats 4000000 in
theorem frameTorn_tail {m : Mem} : ∀ mm aa N ca ve vt (ts : List (Value × List Int)) (pa pe pt : Mem) (k : Nat), (Fr.cat (ts.map (·.2))).length = N → k ≤ N → Split mm [pa, pe, pt, m] → Bs pa (.slice aa N ca) (Fr.cat (ts.map (·.2))) → Own pe 3 1 ve (ends (ts.map (·.2))) → Own pt 23 1 vt (ts.map (·.1)) → Told m 12 ts →
      xwpY c3 (restAt 15 (bodyOf Try.f3)) (QRetY tt.get Try.f3.results.toList fun r m' => r = [boolV true] ∧ Sub m m')
        [(1, .c (i64 k)), (5, .c (.v (.slice aa N ca))), (6, .c (.v ve)), (7, .c (.v vt))] [] mm [] := by
  intro mm aa N ca ve vt ts pa pe pt k hN hk hs ha he ht hT
  have hcl := hT.catlen
  have hTl := hT.len
  rw [hN] at hcl
  have hel : (ends (ts.map (·.2))).length = ts.length := by simp [ends]
  have hsub : Sub m mm := hs.sub (by simp)
  obtain ⟨ae, ce, rfl⟩ : ∃ a c, ve = .slice a ts.length c := by
    rcases he with ⟨rfl, h⟩ | ⟨b, o, c, n, arr, rfl, _, h, _⟩
    · rw [h] at hel; exact ⟨none, 0, by rw [← hel]; rfl⟩
    · rw [hel, Nat.mul_one] at h; exact ⟨_, _, by rw [h]⟩
  obtain ⟨at', ct, rfl⟩ : ∃ a c, vt = .slice a ts.length c := by
    rcases ht with ⟨rfl, h⟩ | ⟨b, o, c, n, arr, rfl, _, h, _⟩
    · have := congrArg List.length h; simp at this; exact ⟨none, 0, by rw [this]; rfl⟩
    · rw [List.length_map, Nat.mul_one] at h; exact ⟨_, _, by rw [h]⟩
  conv => whnf
  refine .at ?_
  conv => whnf
  refine .mk (ι := Nat) (fun i => ts.length - i) (fun i m' => i ≤ ts.length ∧ m' = mm) (fun i => [(1, .c (i64 k)), (5, .c (.v (.slice aa N ca))), (6, .c (.v (.slice ae ts.length ce))), (7, .c (.v (.slice at' ts.length ct))), (11, .c (i64 (Fr.whole ((ts.take i).map (·.2)) k).1)), (12, .c (i64 (Fr.whole ((ts.take i).map (·.2)) k).2)), (13, .c (i64 i))]) (fun _ => []) 0 ⟨by omega, rfl⟩ ?_ ?_
  · conv => whnf
    repeat (refine And.intro (by first | with_reducible rfl | exact congrArg (Value.int _) (wi (by omega) (by omega)) | exact wi (by omega) (by omega) | rfl) ?_; conv => whnf)
    first | exact trivial | exact fun _ _ h => h
  rintro i m' ⟨hi, he'⟩
  subst m'
  conv => whnf
  refine ⟨fun h1 => ?_, fun h1 => ?_⟩
  · have h1' := of_decide_eq_true h1
    have hlt : i < ts.length := by omega
    have hei : (ends (ts.map (·.2)))[i]? = some (.int .i64 (((Fr.cat ((ts.map (·.2)).take (i + 1))).length : Nat) : Int)) := by
      simp [ends, List.getElem?_range hlt]
    obtain ⟨b, o, c', hh, hc⟩ : ∃ b o c, (Value.slice ae ts.length ce) = .slice (some ⟨b, o, none⟩) ts.length c ∧ mcell mm b (o + i) = some (.int .i64 (((Fr.cat ((ts.map (·.2)).take (i + 1))).length : Nat) : Int)) := by
      rcases he with ⟨h, h'⟩ | ⟨b, o, c, n, arr, h, g1, g2, _, _, g5, _⟩
      · rw [h'] at hel; simp at hel; omega
      · have := h
        injection this with q1 q2 q3
        subst q2
        exact ⟨b, o, c, h, mcell_sub (mcell_of g1 (g5 i _ hei)) (hs.sub (by simp))⟩
    injection hh with hh1 _ hh3
    subst hh1
    clear hh3 c'
    have hst : (ts.take (i + 1)).map (·.2) = (ts.take i).map (·.2) ++ [ts[i].2] := by rw [List.take_succ_eq_append_getElem hlt, List.map_append]; rfl
    have hsn := Fr.whole_snoc (l := (ts.take i).map (·.2)) (r := ts[i].2) (k := k)
    rw [← hst] at hsn
    have hlti : ((ts.take i).map (·.2)).length = i := by simp; omega
    rw [hlti] at hsn
    have hmt : (ts.map (·.2)).take (i + 1) = (ts.take (i + 1)).map (·.2) := by rw [List.map_take]
    rw [hmt] at hc
    generalize (Fr.cat ((ts.take (i + 1)).map (·.2))).length = E at hc hsn
    conv => whnf
    repeat (refine And.intro (by first | omega | (simp only [times]; omega)) ?_; conv => whnf)
    refine ⟨_, by simp only [times, Int.toNat_natCast, Nat.mul_one]; exact hc, rfl, ?_⟩
    conv => whnf
    refine ⟨fun h2 => ?_, fun h2 => ?_⟩
    · have h2' := of_decide_eq_true h2
      rw [if_pos (by omega)] at hsn
      conv => whnf
      repeat (refine And.intro (by first | omega | (simp only [times]; omega)) ?_; conv => whnf)
      refine ⟨_, by simp only [times, Int.toNat_natCast, Nat.mul_one]; exact hc, rfl, ?_⟩
      conv => whnf
      refine ⟨i + 1, ⟨by omega, rfl⟩, by omega, ?_⟩
      rw [hsn]
      conv => whnf
      repeat (refine And.intro (by first | with_reducible rfl | (first | exact congrArg (Value.int _) (iadd (by omega))) | exact congrArg (Value.int _) (wi (by omega) (by omega)) | exact wi (by omega) (by omega) | rfl) ?_; conv => whnf)
      first | exact trivial | exact fun _ _ h => h
    · have h2' := of_decide_eq_false h2
      rw [if_neg (by omega)] at hsn
      conv => whnf
      refine ⟨i + 1, ⟨by omega, rfl⟩, by omega, ?_⟩
      rw [hsn]
      conv => whnf
      repeat (refine And.intro (by first | with_reducible rfl | (first | exact congrArg (Value.int _) (iadd (by omega))) | exact congrArg (Value.int _) (wi (by omega) (by omega)) | exact wi (by omega) (by omega) | rfl) ?_; conv => whnf)
      first | exact trivial | exact fun _ _ h => h
  · have h1' := of_decide_eq_false h1
    obtain rfl : i = ts.length := by omega
    rw [List.take_length]
    have hrc := Fr.read_cut (l := ts.map (·.2)) (k := k) (f := k + 1) (fun r hr => by obtain ⟨q, hq, rfl⟩ := List.mem_map.1 hr; exact hT.isr q hq) (by have := @Fr.whole_few (ts.map (·.2)) k; omega)
    have hwl := @Fr.whole_le (ts.map (·.2)) k
    rw [List.length_map] at hwl
    have hbyt : Byt (Fr.cat (ts.map (·.2))) := Fr.cat_byt fun r hr => by obtain ⟨q, hq, rfl⟩ := List.mem_map.1 hr; exact hT.byt q hq
    have hct : ts.length ≤ ct := by
      rcases ht with ⟨h, h'⟩ | ⟨b, o, c, n, arr, h, _, g2, g3, _⟩
      · have := congrArg List.length h'; simp at this; rw [this]; exact Nat.zero_le _
      · injection h with q1 q2 q3; omega
    have rest : ∀ (m1 : Mem) (v1 : Value) (ps1 : List (Value × List Int)) (p1 : Mem), Split m1 [p1, mm] → Lists p1 v1 ps1 → ps1.map (·.2) = (ts.map (·.2)).take (Fr.whole (ts.map (·.2)) k).1 →
        ∀ w, w = (Fr.whole (ts.map (·.2)) k).1 → ∀ (m2 : Mem), Sub m1 m2 → ∀ o', (∀ b o, at' = some ⟨b, o, none⟩ → o' = some ⟨b, o, none⟩) → (at' = none → o' = none) → Ret Try.prog 8 [.v v1, .v (.slice o' w ct)] m2 [boolV true] := by
      intro m1 v1 ps1 p1 hs1 hl1 hps1 w hw m2 hs2 o' ho1 ho2
      subst hw
      have hsubt : Sub pt m2 := (hs.sub (a := pt) (by simp)).trans ((hs1.sub (a := mm) (by simp)).trans hs2)
      have hsubp : Sub p1 m2 := (hs1.sub (a := p1) (by simp)).trans hs2
      have hsubm : Sub m m2 := hsub.trans ((hs1.sub (a := mm) (by simp)).trans hs2)
      have hL : Lists m2 (.slice o' (Fr.whole (ts.map (·.2)) k).1 ct) (ts.take (Fr.whole (ts.map (·.2)) k).1) := by
        refine ⟨?_, fun q hq => (hT.la q (List.mem_of_mem_take hq)).sub hsubm⟩
        rcases ht with ⟨h, h'⟩ | ⟨b, o, c, n, arr, h, g1, g2, g3, g4, g5, g6⟩
        · injection h with q1 q2 q3
          have h0 : ts = [] := by simpa using h'
          subst h0
          rw [ho2 q1, q3]
          exact .inl ⟨0, by simp [Fr.whole], by simp⟩
        · injection h with q1 q2 q3
          rw [ho1 b o q1]
          refine .inr ⟨b, o, ct, _, arr, _, _, rfl, hsubt _ _ g1, by simp; omega, by omega, fun j u hu => ?_, fun u hu => ?_⟩
          · rw [List.map_take, List.getElem?_take] at hu
            split at hu
            · exact g5 j u hu
            · cases hu
          · rw [List.map_take] at hu; exact g6 u (List.mem_of_mem_take hu)
      have hpos : ∀ q ∈ ts, q.2 ≠ [] := fun q hq e => by have := hT.isr q hq; rw [e] at this; simp [Fr.isRec] at this
      have hin : ∀ q ∈ ps1, ∃ q' ∈ ts, q'.2 = q.2 := fun q hq => by
        have : q.2 ∈ (ts.map (·.2)).take (Fr.whole (ts.map (·.2)) k).1 := by rw [← hps1]; exact List.mem_map_of_mem hq
        obtain ⟨q', h1, h2⟩ := List.mem_map.1 (List.mem_of_mem_take this)
        exact ⟨q', h1, h2⟩
      have := same_spec (hl1.sub hsubp) hL (fun q hq => by obtain ⟨q', h1, h2⟩ := hin q hq; rw [← h2]; exact hT.byt q' h1) (fun q hq => hT.byt q (List.mem_of_mem_take hq)) (by
          have := congrArg List.length hps1; simp at this; omega)
        (fun q hq => by obtain ⟨q', h1, h2⟩ := hin q hq; exact ((hl1.la q hq).sub hsubp).lb (by rw [← h2]; exact hpos q' h1)) (fun q hq => ((hT.la q (List.mem_of_mem_take hq)).sub hsubm).lb (hpos q (List.mem_of_mem_take hq)))
      rw [decide_eq_true (by rw [hps1, List.map_take])] at this
      exact this
    have e1 : ((Fr.cat (ts.map (·.2))).take k).length = k := by rw [List.length_take]; omega
    have hat : (at' = none ∧ ts = []) ∨ ∃ b o, at' = some ⟨b, o, none⟩ := by
      rcases ht with ⟨h, h'⟩ | ⟨b, o, c, n, arr, h, _⟩
      · injection h with q1 q2 q3
        exact .inl ⟨q1, by simpa using h'⟩
      · injection h with q1 q2 q3
        exact .inr ⟨b, o, q1⟩
    rcases ha with ⟨h, h'⟩ | ⟨ba, oa, c'', na, arra, h, ga⟩
    · injection h with q1 q2 q3
      subst q1 q2 q3
      obtain rfl : k = 0 := by omega
      rw [List.take_zero] at hrc
      conv => whnf
      repeat (refine And.intro (by first | omega | (simp only [times]; omega)) ?_; conv => whnf)
      refine xcall (read_nil) ?_
      rintro _ m1 ⟨v1, ps1, p1, rfl, hs1, hl1, hps1⟩
      conv => whnf
      have hrc' : Fr.read (([] : List Int).length + 1) [] = _ := hrc
      rw [hrc'] at hps1 ⊢
      refine xcall (alive15_spec) ?_
      rintro _ m2 ⟨rfl, hs2⟩
      conv => whnf
      refine ⟨fun _ => ?_, fun h => absurd h (by decide)⟩
      conv => whnf
      refine ⟨fun _ => ?_, fun h => absurd h (by simp at h)⟩
      conv => whnf
      refine ⟨fun _ => ?_, fun h => absurd h (by simp at h)⟩
      conv => whnf
      have hfin : Sub m m2 := hsub.trans ((hs1.sub (a := mm) (by simp)).trans hs2)
      rcases hat with ⟨rfl, hts⟩ | ⟨bt, ot, rfl⟩
      · conv => whnf
        repeat (refine And.intro (by first | omega | (simp only [times]; omega)) ?_; conv => whnf)
        first | refine xretk (rest m1 v1 ps1 p1 hs1 hl1 hps1 _ rfl m2 hs2 none (fun b o h => by cases h) (fun _ => rfl)) ?_ | refine xret (rest m1 v1 ps1 p1 hs1 hl1 hps1 _ rfl m2 hs2 none (fun b o h => by cases h) (fun _ => rfl)) ?_
        conv => whnf
        exact ⟨rfl, hfin⟩
      · conv => whnf
        repeat (refine And.intro (by first | omega | (simp only [times]; omega)) ?_; conv => whnf)
        intro o3 ho3 ho4
        obtain rfl : o3 = ot := by
          by_cases hc0 : ct = 0
          · exact ho4 hc0
          · have := ho3 hc0; simpa using this
        conv => whnf
        simp only [Int.toNat_natCast]
        first | refine xretk (rest m1 v1 ps1 p1 hs1 hl1 hps1 _ rfl m2 hs2 (some ⟨bt, o3, none⟩) (fun b o h => by cases h; rfl) (fun h => by cases h)) ?_ | refine xret (rest m1 v1 ps1 p1 hs1 hl1 hps1 _ rfl m2 hs2 (some ⟨bt, o3, none⟩) (fun b o h => by cases h; rfl) (fun h => by cases h)) ?_
        conv => whnf
        exact ⟨rfl, hfin⟩
    · injection h with q1 q2 q3
      subst q1
      subst q3
      have ha : Bs pa (.slice (some ⟨ba, oa, none⟩) N ca) (Fr.cat (ts.map (·.2))) := .inr ⟨ba, oa, ca, na, arra, by rw [q2], ga⟩
      have hcapa := Lb.cap' ha.lb
      conv => whnf
      repeat (refine And.intro (by first | omega | (simp only [times]; omega)) ?_; conv => whnf)
      intro o1 ho1 ho2
      obtain rfl : o1 = oa := by
        by_cases hc0 : ca = 0
        · exact ho2 hc0
        · have := ho1 hc0; simpa using this
      have hlk := Lb.cut' (c' := ca) (ha.lb.sub (hs.sub (a := pa) (by simp))) 0 k (by omega) (by omega)
      rw [List.drop_zero] at hlk
      conv => whnf
      simp only [Int.toNat_natCast]
      refine xcall (read_spec' e1 hlk.la (hbyt.take k) (by omega) (by omega)) ?_
      rintro _ m1 ⟨v1, ps1, p1, rfl, hs1, hl1, hps1⟩
      conv => whnf
      rw [e1, hrc] at hps1
      simp only [e1, hrc]
      refine xcall (alive15_spec) ?_
      rintro _ m2 ⟨rfl, hs2⟩
      conv => whnf
      refine ⟨fun _ => ?_, fun h => absurd h (by decide)⟩
      conv => whnf
      refine ⟨fun _ => ?_, fun h => absurd h (by simp at h)⟩
      conv => whnf
      refine ⟨fun _ => ?_, fun h => absurd h (by simp at h)⟩
      conv => whnf
      have hfin : Sub m m2 := hsub.trans ((hs1.sub (a := mm) (by simp)).trans hs2)
      rcases hat with ⟨rfl, hts⟩ | ⟨bt, ot, rfl⟩
      · conv => whnf
        repeat (refine And.intro (by first | omega | (simp only [times]; omega)) ?_; conv => whnf)
        first | refine xretk (rest m1 v1 ps1 p1 hs1 hl1 hps1 _ rfl m2 hs2 none (fun b o h => by cases h) (fun _ => rfl)) ?_ | refine xret (rest m1 v1 ps1 p1 hs1 hl1 hps1 _ rfl m2 hs2 none (fun b o h => by cases h) (fun _ => rfl)) ?_
        conv => whnf
        exact ⟨rfl, hfin⟩
      · conv => whnf
        repeat (refine And.intro (by first | omega | (simp only [times]; omega)) ?_; conv => whnf)
        intro o3 ho3 ho4
        obtain rfl : o3 = ot := by
          by_cases hc0 : ct = 0
          · exact ho4 hc0
          · have := ho3 hc0; simpa using this
        conv => whnf
        simp only [Int.toNat_natCast]
        first | refine xretk (rest m1 v1 ps1 p1 hs1 hl1 hps1 _ rfl m2 hs2 (some ⟨bt, o3, none⟩) (fun b o h => by cases h; rfl) (fun h => by cases h)) ?_ | refine xret (rest m1 v1 ps1 p1 hs1 hl1 hps1 _ rfl m2 hs2 (some ⟨bt, o3, none⟩) (fun b o h => by cases h; rfl) (fun h => by cases h)) ?_
        conv => whnf
        exact ⟨rfl, hfin⟩
end Go.E.Ytkapdbbjgpofnaa
