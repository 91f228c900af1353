/-
  ShaF2
-/
import Derived.Test.YtodgjanekjefbaaShaMetersZ7
/-
  Law ShaMeters: the law.
-/
namespace Go.E.Ytodgjanekjefbaa
open Go.Proofs
set_option maxRecDepth 100000
theorem mcellBlk {m : Mem} {b o : Nat} {v : Value} (h : mcell m b o = some v) : ∃ ob, m b = some ob := by
  unfold mcell at h
  cases hb : m b with
  | none => simp [hb] at h
  | some o => exact ⟨o, rfl⟩
theorem keptL {m mx my : Mem} {b : Nat} {ob : Obj} {l : List Nat} (hl : ∀ x ∈ l, x = b) (h : m b = some ob) (hx : Sub m mx) (hy : Sub m my) : Kept l mx my := fun x hx' => by
  rw [hl x hx', hx _ _ h, hy _ _ h]
theorem Rnd.at {mm m : Mem} {bm w : Nat} (h : Rnd mm m bm w) : mm bm = some (meterO w) := by
  obtain ⟨q, h1, _⟩ := h.sp
  exact h1.sub (a := blk1 bm (meterO w)) (by simp) _ _ (blk1_same ..)
theorem Rnd.sum0 {mm m : Mem} {bm w : Nat} (h : Rnd mm m bm w) (hw : w ≤ 1000000) :
    Spec Try.prog 14 [ptrV bm, .v (.slice none 0 0)] mm fun r m' => r = [.a [.ints .u8 32 (nc (Sha.sum []))]] ∧ Sub m m' := by
  obtain ⟨q, h1, h2⟩ := h.sp
  exact (msum_spec (ps := []) (l := []) h1 ⟨.inl ⟨0, rfl, rfl⟩, by simp⟩ (by simp [catB]) (by simp) (by simp) (by simp) (by omega)).mono fun r m' ⟨e1, e2⟩ => ⟨e1, h2.trans (e2.sub (by simp))⟩
set_option maxHeartbeats 4000000 in
theorem meters_end {mm m : Mem} {bm w : Nat} (hr : Rnd mm m bm w) (hw : w ≤ 1000) :
    xwpY c6 (restAt 14 (bodyOf Try.f6)) (QRetY tt.get Try.f6.results.toList fun r m' => r = [boolV true] ∧ Sub m m')
      [(3, .c (ptrV bm)), (4, .c (.v (.pointer none)))] [] mm [] := by
  conv => whnf
  refine .at ?_
  conv => whnf
  refine xcall (alive_in) ?_
  rintro _ m1 ⟨rfl, hs1⟩
  conv => whnf
  have hr := hr.grow hs1
  refine ⟨fun _ => ?_, fun h => absurd h (by decide)⟩
  conv => whnf
  first | refine xretk (mcount_nil) ?_ | refine xret (mcount_nil) ?_
  conv => whnf
  refine ⟨fun _ => ?_, fun h => absurd h (by decide)⟩
  conv => whnf
  refine xcall (hr.sum0 (by omega)) ?_
  rintro _ m2 ⟨rfl, hs2⟩
  conv => whnf
  refine .mk _ (buildL1) ?_
  rintro _ _ ⟨b, hb, rfl, rfl⟩
  conv => whnf
  refine xcall (sum_spec (l := []) (Lists.one (l := nc []) (Mem.set_same ..) (.inl (Lb.nil _ 0))) (by simp [catB]) (by simp) (by simp) (by simp)) ?_
  rintro _ m3 ⟨rfl, hs3⟩
  conv => whnf
  exact ⟨by simp [eqLB_dg], (hs2.trans (Mem.sub_set _ hb)).trans hs3⟩
set_option maxHeartbeats 4000000 in
theorem shaMeters_spec {m : Mem} {v : Value} {ps : List (Value × List Int)} (hv : LsA m v ps) (hb : ∀ p ∈ ps, Byt p.2) : Spec Try.prog 6 [.v v] m fun r m' => r = [boolV true] ∧ Sub m m' := by
  obtain ⟨a, c, rfl⟩ := hv.shape
  refine en6 rfl (goY ?_)
  conv => whnf
  intro bm hbm
  conv => whnf
  have hs0 := (Split.one m).new hbm (meterO 0)
  refine .mk (ι := Nat × Nat) (fun i => ps.length - i.1) (fun ⟨i, w⟩ mm => i ≤ ps.length ∧ i ≤ 12 ∧ w ≤ i * 10 ∧ Rnd mm m bm w) (fun ⟨i, w⟩ => [(0, .c (.v (.slice a ps.length c))), (3, .c (ptrV bm)), (4, .c (.v (.pointer none))), (5, .c (u64 w)), (6, .c (i64 i))]) (fun _ => []) (0, 0) ⟨by omega, by omega, by omega, .start hs0⟩ ?_ ?_
  · conv => whnf
    repeat (refine And.intro (by first | with_reducible rfl | exact congrArg (Value.int _) (wi (by omega) (by omega)) | exact wi (by omega) (by omega) | rfl) ?_; conv => whnf)
    first | exact trivial | exact fun _ _ h => h
  rintro ⟨i, w⟩ mm ⟨hi, hi12, hw, hr⟩
  have tl := meters_end hr (by omega)
  conv at tl => whnf
  conv => whnf
  refine ⟨fun h => ?_, fun h => ?_⟩
  rotate_left
  · conv => whnf
    refine .via _ _ ?_ tl
    conv => whnf
    repeat (refine And.intro (by first | with_reducible rfl | exact congrArg (Value.int _) (wi (by omega) (by omega)) | exact wi (by omega) (by omega) | rfl) ?_; conv => whnf)
    first | exact trivial | exact fun _ _ h => h
  have h1 : i < ps.length := by have := of_decide_eq_true h; omega
  clear h
  conv => whnf
  refine ⟨fun h => ?_, fun h => ?_⟩
  rotate_left
  · conv => whnf
    refine .via _ _ ?_ tl
    conv => whnf
    repeat (refine And.intro (by first | with_reducible rfl | exact congrArg (Value.int _) (wi (by omega) (by omega)) | exact wi (by omega) (by omega) | rfl) ?_; conv => whnf)
    first | exact trivial | exact fun _ _ h => h
  have h2 : i < 12 := by have := of_decide_eq_true h; omega
  clear h tl
  obtain ⟨ba, oa, c', hh, hg⟩ := hv.real h1
  injection hh with hh1 _ hh3
  subst hh1
  clear hh3 c'
  have hg := hg i h1
  have hla := hv.la _ (List.getElem_mem h1)
  have hbt := hb _ (List.getElem_mem h1)
  generalize ps[i] = p at hg hla hbt
  obtain ⟨pv, pl⟩ := p
  simp only at hg hla hbt
  obtain ⟨l, rfl, h256⟩ : ∃ l : List Nat, pl = nc l ∧ ∀ x ∈ l, x < 256 := by
    refine ⟨pl.map Int.toNat, ?_, fun x hx => ?_⟩
    · simp only [nc, List.map_map]
      refine ((List.map_congr_left fun x hx => ?_).trans (List.map_id _)).symm
      have := hbt x hx
      simp only [Function.comp, id]; omega
    · obtain ⟨y, hy, rfl⟩ := List.mem_map.1 hx
      have := hbt y hy; omega
  obtain ⟨va, vc, rfl⟩ := hla.shape
  have hnl : (nc l).length = l.length := by simp [nc]
  rw [hnl] at hg hla
  obtain ⟨ob, hob⟩ := mcellBlk hg
  have hcell : ∀ {mx}, Sub m mx → mcell mx ba (oa + i) = some (.slice va l.length vc) := fun hs => mcell_sub hg hs
  conv => whnf
  repeat (refine And.intro (by first | omega | (simp only [times]; omega)) ?_; conv => whnf)
  refine ⟨_, by simp only [times, Int.toNat_natCast, Nat.mul_one]; exact hcell hr.sub, rfl, ?_⟩
  conv => whnf
  refine ⟨fun h => ?_, fun h => ?_⟩
  · conv => whnf
    refine xcall (alive_in) ?_
    rintro _ m1 ⟨rfl, hs⟩
    conv => whnf
    exact ⟨rfl, hr.sub.trans hs⟩
  have hl3 : l.length ≤ 300 := by have := of_decide_eq_false h; omega
  clear h
  have hblk : blks l.length ≤ 10 := by unfold blks; omega
  conv => whnf
  repeat (refine And.intro (by first | omega | (simp only [times]; omega)) ?_; conv => whnf)
  refine ⟨_, by simp only [times, Int.toNat_natCast, Nat.mul_one]; exact hcell hr.sub, rfl, ?_⟩
  conv => whnf
  repeat (refine And.intro (by first | omega | (simp only [times]; omega)) ?_; conv => whnf)
  refine ⟨_, by simp only [times, Int.toNat_natCast, Nat.mul_one]; exact hcell hr.sub, rfl, ?_⟩
  conv => whnf
  -- the orders
  -- the orders
  -- the orders
  refine ⟨?_, ?_⟩
  · conv => whnf
    refine .mk _ (buildL1) ?_
    rintro _ _ ⟨b5, hb5, rfl, rfl⟩
    conv => whnf
    have hr0 := hr.sub
    have n5 : b5 ≠ bm := fun e => by rw [e, hr.at] at hb5; cases hb5
    have hr := hr.new hb5 (.cells #[.slice va l.length vc] 22)
    have c5 := Mem.set_same mm b5 (.cells #[.slice va l.length vc] 22)
    first | (refine ⟨keptL (by simp) hob hr0 hr.sub, ?_⟩; conv => whnf) | skip
    refine ⟨?_, ?_⟩
    · conv => whnf
      have hr0 := hr.sub
      refine xcall (hr.sum c5 n5 hla (by omega) h256 (by omega)) ?_
      rintro _ mx1 ⟨rfl, hr, hk⟩
      conv => whnf
      have c5 := hk _ n5 _ c5
      first | (refine ⟨keptL (by simp) hob hr0 hr.sub, ?_⟩; conv => whnf) | skip
      refine .mk _ (buildL1) ?_
      rintro _ _ ⟨b11, hb11, rfl, rfl⟩
      conv => whnf
      have hr0 := hr.sub
      have n11 : b11 ≠ bm := fun e => by rw [e, hr.at] at hb11; cases hb11
      have c5 := Mem.sub_set (.cells #[.slice va l.length vc] 22) hb11 _ _ c5
      have hr := hr.new hb11 (.cells #[.slice va l.length vc] 22)
      have c11 := Mem.set_same mx1 b11 (.cells #[.slice va l.length vc] 22)
      first | (refine ⟨keptL (by simp) hob hr0 hr.sub, ?_⟩; conv => whnf) | skip
      have hr0 := hr.sub
      refine xcall (sum_spec (Lists.one c11 (hla.sub hr.sub)) catB1 (by omega) (by simp) h256) ?_
      rintro _ mx2 ⟨rfl, hs⟩
      conv => whnf
      have hr := hr.grow hs
      have c5 := hs _ _ c5
      have c11 := hs _ _ c11
      first | (refine ⟨keptL (by simp) hob hr0 hr.sub, ?_⟩; conv => whnf) | skip
      refine ⟨fun h => absurd h (by simp [eqLB_dg]), fun _ => ?_⟩
      conv => whnf
      repeat (refine And.intro (by first | omega | (simp only [times]; omega)) ?_; conv => whnf)
      refine ⟨_, by simp only [times, Int.toNat_natCast, Nat.mul_one]; exact hcell hr.sub, rfl, ?_⟩
      conv => whnf
      repeat (refine And.intro (by first | omega | (simp only [times]; omega)) ?_; conv => whnf)
      refine ⟨_, by simp only [times, Int.toNat_natCast, Nat.mul_one]; exact hcell hr.sub, rfl, ?_⟩
      conv => whnf
      refine ⟨?_, ?_⟩
      · conv => whnf
        refine .mk _ (buildL1) ?_
        rintro _ _ ⟨b20, hb20, rfl, rfl⟩
        conv => whnf
        have hr0 := hr.sub
        have n20 : b20 ≠ bm := fun e => by rw [e, hr.at] at hb20; cases hb20
        have c5 := Mem.sub_set (.cells #[.slice va l.length vc] 22) hb20 _ _ c5
        have c11 := Mem.sub_set (.cells #[.slice va l.length vc] 22) hb20 _ _ c11
        have hr := hr.new hb20 (.cells #[.slice va l.length vc] 22)
        have c20 := Mem.set_same mx2 b20 (.cells #[.slice va l.length vc] 22)
        first | (refine ⟨keptL (by simp) hob hr0 hr.sub, ?_⟩; conv => whnf) | skip
        refine ⟨?_, ?_⟩
        · conv => whnf
          have hr0 := hr.sub
          refine xcall (msum_nil (Lists.one c20 (hla.sub hr.sub)) catB1 (by omega) (by simp) h256) ?_
          rintro _ mx3 ⟨rfl, hs⟩
          conv => whnf
          have hr := hr.grow hs
          have c5 := hs _ _ c5
          have c11 := hs _ _ c11
          have c20 := hs _ _ c20
          first | (refine ⟨keptL (by simp) hob hr0 hr.sub, ?_⟩; conv => whnf) | skip
          refine .mk _ (buildL1) ?_
          rintro _ _ ⟨b26, hb26, rfl, rfl⟩
          conv => whnf
          have hr0 := hr.sub
          have n26 : b26 ≠ bm := fun e => by rw [e, hr.at] at hb26; cases hb26
          have c5 := Mem.sub_set (.cells #[.slice va l.length vc] 22) hb26 _ _ c5
          have c11 := Mem.sub_set (.cells #[.slice va l.length vc] 22) hb26 _ _ c11
          have c20 := Mem.sub_set (.cells #[.slice va l.length vc] 22) hb26 _ _ c20
          have hr := hr.new hb26 (.cells #[.slice va l.length vc] 22)
          have c26 := Mem.set_same mx3 b26 (.cells #[.slice va l.length vc] 22)
          first | (refine ⟨keptL (by simp) hob hr0 hr.sub, ?_⟩; conv => whnf) | skip
          have hr0 := hr.sub
          refine xcall (sum_spec (Lists.one c26 (hla.sub hr.sub)) catB1 (by omega) (by simp) h256) ?_
          rintro _ mx4 ⟨rfl, hs⟩
          conv => whnf
          have hr := hr.grow hs
          have c5 := hs _ _ c5
          have c11 := hs _ _ c11
          have c20 := hs _ _ c20
          have c26 := hs _ _ c26
          first | (refine ⟨keptL (by simp) hob hr0 hr.sub, ?_⟩; conv => whnf) | skip
          refine ⟨fun h => absurd h (by simp [eqLB_dg]), fun _ => ?_⟩
          conv => whnf
          repeat (refine And.intro (by first | omega | (simp only [times]; omega)) ?_; conv => whnf)
          refine ⟨_, by simp only [times, Int.toNat_natCast, Nat.mul_one]; exact hcell hr.sub, rfl, ?_⟩
          conv => whnf
          have hwb : w + blks l.length ≤ (i + 1) * 10 := by omega
          first | refine xretk (refbn_spec (by omega)) ?_ | refine xret (refbn_spec (by omega)) ?_
          conv => whnf
          have ew : IntKind.u64.wrap ((w : Int) + ((blks l.length : Nat) : Int)) = ((w + blks l.length : Nat) : Int) := by rw [wu (by omega) (by omega)]; omega
          rw [ew]
          first | refine xretk (mcount_spec hr.at) ?_ | refine xret (mcount_spec hr.at) ?_
          conv => whnf
          refine ⟨fun h => absurd h (by simp), fun _ => ?_⟩
          conv => whnf
          refine ⟨(i + 1, w + blks l.length), ⟨by omega, by omega, hwb, hr⟩, by simp only; omega, ?_⟩
          conv => whnf
          repeat (refine And.intro (by first | with_reducible rfl | (first | exact congrArg (Value.int _) (iadd (by omega))) | exact congrArg (Value.int _) (wi (by omega) (by omega)) | exact wi (by omega) (by omega) | rfl) ?_; conv => whnf)
          first | exact trivial | exact fun _ _ h => h
        · conv => whnf
          refine .mk _ (buildL1) ?_
          rintro _ _ ⟨b26, hb26, rfl, rfl⟩
          conv => whnf
          have hr0 := hr.sub
          have n26 : b26 ≠ bm := fun e => by rw [e, hr.at] at hb26; cases hb26
          have c5 := Mem.sub_set (.cells #[.slice va l.length vc] 22) hb26 _ _ c5
          have c11 := Mem.sub_set (.cells #[.slice va l.length vc] 22) hb26 _ _ c11
          have c20 := Mem.sub_set (.cells #[.slice va l.length vc] 22) hb26 _ _ c20
          have hr := hr.new hb26 (.cells #[.slice va l.length vc] 22)
          have c26 := Mem.set_same (mx2.set b20 (.cells #[.slice va l.length vc] 22)) b26 (.cells #[.slice va l.length vc] 22)
          first | (refine ⟨keptL (by simp) hob hr0 hr.sub, ?_⟩; conv => whnf) | skip
          have hr0 := hr.sub
          refine xcall (msum_nil (Lists.one c20 (hla.sub hr.sub)) catB1 (by omega) (by simp) h256) ?_
          rintro _ mx3 ⟨rfl, hs⟩
          conv => whnf
          have hr := hr.grow hs
          have c5 := hs _ _ c5
          have c11 := hs _ _ c11
          have c20 := hs _ _ c20
          have c26 := hs _ _ c26
          first | (refine ⟨keptL (by simp) hob hr0 hr.sub, ?_⟩; conv => whnf) | skip
          have hr0 := hr.sub
          refine xcall (sum_spec (Lists.one c26 (hla.sub hr.sub)) catB1 (by omega) (by simp) h256) ?_
          rintro _ mx4 ⟨rfl, hs⟩
          conv => whnf
          have hr := hr.grow hs
          have c5 := hs _ _ c5
          have c11 := hs _ _ c11
          have c20 := hs _ _ c20
          have c26 := hs _ _ c26
          first | (refine ⟨keptL (by simp) hob hr0 hr.sub, ?_⟩; conv => whnf) | skip
          refine ⟨fun h => absurd h (by simp [eqLB_dg]), fun _ => ?_⟩
          conv => whnf
          repeat (refine And.intro (by first | omega | (simp only [times]; omega)) ?_; conv => whnf)
          refine ⟨_, by simp only [times, Int.toNat_natCast, Nat.mul_one]; exact hcell hr.sub, rfl, ?_⟩
          conv => whnf
          have hwb : w + blks l.length ≤ (i + 1) * 10 := by omega
          first | refine xretk (refbn_spec (by omega)) ?_ | refine xret (refbn_spec (by omega)) ?_
          conv => whnf
          have ew : IntKind.u64.wrap ((w : Int) + ((blks l.length : Nat) : Int)) = ((w + blks l.length : Nat) : Int) := by rw [wu (by omega) (by omega)]; omega
          rw [ew]
          first | refine xretk (mcount_spec hr.at) ?_ | refine xret (mcount_spec hr.at) ?_
          conv => whnf
          refine ⟨fun h => absurd h (by simp), fun _ => ?_⟩
          conv => whnf
          refine ⟨(i + 1, w + blks l.length), ⟨by omega, by omega, hwb, hr⟩, by simp only; omega, ?_⟩
          conv => whnf
          repeat (refine And.intro (by first | with_reducible rfl | (first | exact congrArg (Value.int _) (iadd (by omega))) | exact congrArg (Value.int _) (wi (by omega) (by omega)) | exact wi (by omega) (by omega) | rfl) ?_; conv => whnf)
          first | exact trivial | exact fun _ _ h => h
      · conv => whnf
        refine .mk _ (buildL1) ?_
        rintro _ _ ⟨b26, hb26, rfl, rfl⟩
        conv => whnf
        have hr0 := hr.sub
        have n26 : b26 ≠ bm := fun e => by rw [e, hr.at] at hb26; cases hb26
        have c5 := Mem.sub_set (.cells #[.slice va l.length vc] 22) hb26 _ _ c5
        have c11 := Mem.sub_set (.cells #[.slice va l.length vc] 22) hb26 _ _ c11
        have hr := hr.new hb26 (.cells #[.slice va l.length vc] 22)
        have c26 := Mem.set_same mx2 b26 (.cells #[.slice va l.length vc] 22)
        first | (refine ⟨keptL (by simp) hob hr0 hr.sub, ?_⟩; conv => whnf) | skip
        refine .mk _ (buildL1) ?_
        rintro _ _ ⟨b20, hb20, rfl, rfl⟩
        conv => whnf
        have hr0 := hr.sub
        have n20 : b20 ≠ bm := fun e => by rw [e, hr.at] at hb20; cases hb20
        have c5 := Mem.sub_set (.cells #[.slice va l.length vc] 22) hb20 _ _ c5
        have c11 := Mem.sub_set (.cells #[.slice va l.length vc] 22) hb20 _ _ c11
        have c26 := Mem.sub_set (.cells #[.slice va l.length vc] 22) hb20 _ _ c26
        have hr := hr.new hb20 (.cells #[.slice va l.length vc] 22)
        have c20 := Mem.set_same (mx2.set b26 (.cells #[.slice va l.length vc] 22)) b20 (.cells #[.slice va l.length vc] 22)
        first | (refine ⟨keptL (by simp) hob hr0 hr.sub, ?_⟩; conv => whnf) | skip
        have hr0 := hr.sub
        refine xcall (msum_nil (Lists.one c20 (hla.sub hr.sub)) catB1 (by omega) (by simp) h256) ?_
        rintro _ mx3 ⟨rfl, hs⟩
        conv => whnf
        have hr := hr.grow hs
        have c5 := hs _ _ c5
        have c11 := hs _ _ c11
        have c26 := hs _ _ c26
        have c20 := hs _ _ c20
        first | (refine ⟨keptL (by simp) hob hr0 hr.sub, ?_⟩; conv => whnf) | skip
        have hr0 := hr.sub
        refine xcall (sum_spec (Lists.one c26 (hla.sub hr.sub)) catB1 (by omega) (by simp) h256) ?_
        rintro _ mx4 ⟨rfl, hs⟩
        conv => whnf
        have hr := hr.grow hs
        have c5 := hs _ _ c5
        have c11 := hs _ _ c11
        have c26 := hs _ _ c26
        have c20 := hs _ _ c20
        first | (refine ⟨keptL (by simp) hob hr0 hr.sub, ?_⟩; conv => whnf) | skip
        refine ⟨fun h => absurd h (by simp [eqLB_dg]), fun _ => ?_⟩
        conv => whnf
        repeat (refine And.intro (by first | omega | (simp only [times]; omega)) ?_; conv => whnf)
        refine ⟨_, by simp only [times, Int.toNat_natCast, Nat.mul_one]; exact hcell hr.sub, rfl, ?_⟩
        conv => whnf
        have hwb : w + blks l.length ≤ (i + 1) * 10 := by omega
        first | refine xretk (refbn_spec (by omega)) ?_ | refine xret (refbn_spec (by omega)) ?_
        conv => whnf
        have ew : IntKind.u64.wrap ((w : Int) + ((blks l.length : Nat) : Int)) = ((w + blks l.length : Nat) : Int) := by rw [wu (by omega) (by omega)]; omega
        rw [ew]
        first | refine xretk (mcount_spec hr.at) ?_ | refine xret (mcount_spec hr.at) ?_
        conv => whnf
        refine ⟨fun h => absurd h (by simp), fun _ => ?_⟩
        conv => whnf
        refine ⟨(i + 1, w + blks l.length), ⟨by omega, by omega, hwb, hr⟩, by simp only; omega, ?_⟩
        conv => whnf
        repeat (refine And.intro (by first | with_reducible rfl | (first | exact congrArg (Value.int _) (iadd (by omega))) | exact congrArg (Value.int _) (wi (by omega) (by omega)) | exact wi (by omega) (by omega) | rfl) ?_; conv => whnf)
        first | exact trivial | exact fun _ _ h => h
    · conv => whnf
      refine .mk _ (buildL1) ?_
      rintro _ _ ⟨b11, hb11, rfl, rfl⟩
      conv => whnf
      have hr0 := hr.sub
      have n11 : b11 ≠ bm := fun e => by rw [e, hr.at] at hb11; cases hb11
      have c5 := Mem.sub_set (.cells #[.slice va l.length vc] 22) hb11 _ _ c5
      have hr := hr.new hb11 (.cells #[.slice va l.length vc] 22)
      have c11 := Mem.set_same (mm.set b5 (.cells #[.slice va l.length vc] 22)) b11 (.cells #[.slice va l.length vc] 22)
      first | (refine ⟨keptL (by simp) hob hr0 hr.sub, ?_⟩; conv => whnf) | skip
      have hr0 := hr.sub
      refine xcall (hr.sum c5 n5 hla (by omega) h256 (by omega)) ?_
      rintro _ mx1 ⟨rfl, hr, hk⟩
      conv => whnf
      have c5 := hk _ n5 _ c5
      have c11 := hk _ n11 _ c11
      first | (refine ⟨keptL (by simp) hob hr0 hr.sub, ?_⟩; conv => whnf) | skip
      have hr0 := hr.sub
      refine xcall (sum_spec (Lists.one c11 (hla.sub hr.sub)) catB1 (by omega) (by simp) h256) ?_
      rintro _ mx2 ⟨rfl, hs⟩
      conv => whnf
      have hr := hr.grow hs
      have c5 := hs _ _ c5
      have c11 := hs _ _ c11
      first | (refine ⟨keptL (by simp) hob hr0 hr.sub, ?_⟩; conv => whnf) | skip
      refine ⟨fun h => absurd h (by simp [eqLB_dg]), fun _ => ?_⟩
      conv => whnf
      repeat (refine And.intro (by first | omega | (simp only [times]; omega)) ?_; conv => whnf)
      refine ⟨_, by simp only [times, Int.toNat_natCast, Nat.mul_one]; exact hcell hr.sub, rfl, ?_⟩
      conv => whnf
      repeat (refine And.intro (by first | omega | (simp only [times]; omega)) ?_; conv => whnf)
      refine ⟨_, by simp only [times, Int.toNat_natCast, Nat.mul_one]; exact hcell hr.sub, rfl, ?_⟩
      conv => whnf
      refine ⟨?_, ?_⟩
      · conv => whnf
        refine .mk _ (buildL1) ?_
        rintro _ _ ⟨b20, hb20, rfl, rfl⟩
        conv => whnf
        have hr0 := hr.sub
        have n20 : b20 ≠ bm := fun e => by rw [e, hr.at] at hb20; cases hb20
        have c5 := Mem.sub_set (.cells #[.slice va l.length vc] 22) hb20 _ _ c5
        have c11 := Mem.sub_set (.cells #[.slice va l.length vc] 22) hb20 _ _ c11
        have hr := hr.new hb20 (.cells #[.slice va l.length vc] 22)
        have c20 := Mem.set_same mx2 b20 (.cells #[.slice va l.length vc] 22)
        first | (refine ⟨keptL (by simp) hob hr0 hr.sub, ?_⟩; conv => whnf) | skip
        refine ⟨?_, ?_⟩
        · conv => whnf
          have hr0 := hr.sub
          refine xcall (msum_nil (Lists.one c20 (hla.sub hr.sub)) catB1 (by omega) (by simp) h256) ?_
          rintro _ mx3 ⟨rfl, hs⟩
          conv => whnf
          have hr := hr.grow hs
          have c5 := hs _ _ c5
          have c11 := hs _ _ c11
          have c20 := hs _ _ c20
          first | (refine ⟨keptL (by simp) hob hr0 hr.sub, ?_⟩; conv => whnf) | skip
          refine .mk _ (buildL1) ?_
          rintro _ _ ⟨b26, hb26, rfl, rfl⟩
          conv => whnf
          have hr0 := hr.sub
          have n26 : b26 ≠ bm := fun e => by rw [e, hr.at] at hb26; cases hb26
          have c5 := Mem.sub_set (.cells #[.slice va l.length vc] 22) hb26 _ _ c5
          have c11 := Mem.sub_set (.cells #[.slice va l.length vc] 22) hb26 _ _ c11
          have c20 := Mem.sub_set (.cells #[.slice va l.length vc] 22) hb26 _ _ c20
          have hr := hr.new hb26 (.cells #[.slice va l.length vc] 22)
          have c26 := Mem.set_same mx3 b26 (.cells #[.slice va l.length vc] 22)
          first | (refine ⟨keptL (by simp) hob hr0 hr.sub, ?_⟩; conv => whnf) | skip
          have hr0 := hr.sub
          refine xcall (sum_spec (Lists.one c26 (hla.sub hr.sub)) catB1 (by omega) (by simp) h256) ?_
          rintro _ mx4 ⟨rfl, hs⟩
          conv => whnf
          have hr := hr.grow hs
          have c5 := hs _ _ c5
          have c11 := hs _ _ c11
          have c20 := hs _ _ c20
          have c26 := hs _ _ c26
          first | (refine ⟨keptL (by simp) hob hr0 hr.sub, ?_⟩; conv => whnf) | skip
          refine ⟨fun h => absurd h (by simp [eqLB_dg]), fun _ => ?_⟩
          conv => whnf
          repeat (refine And.intro (by first | omega | (simp only [times]; omega)) ?_; conv => whnf)
          refine ⟨_, by simp only [times, Int.toNat_natCast, Nat.mul_one]; exact hcell hr.sub, rfl, ?_⟩
          conv => whnf
          have hwb : w + blks l.length ≤ (i + 1) * 10 := by omega
          first | refine xretk (refbn_spec (by omega)) ?_ | refine xret (refbn_spec (by omega)) ?_
          conv => whnf
          have ew : IntKind.u64.wrap ((w : Int) + ((blks l.length : Nat) : Int)) = ((w + blks l.length : Nat) : Int) := by rw [wu (by omega) (by omega)]; omega
          rw [ew]
          first | refine xretk (mcount_spec hr.at) ?_ | refine xret (mcount_spec hr.at) ?_
          conv => whnf
          refine ⟨fun h => absurd h (by simp), fun _ => ?_⟩
          conv => whnf
          refine ⟨(i + 1, w + blks l.length), ⟨by omega, by omega, hwb, hr⟩, by simp only; omega, ?_⟩
          conv => whnf
          repeat (refine And.intro (by first | with_reducible rfl | (first | exact congrArg (Value.int _) (iadd (by omega))) | exact congrArg (Value.int _) (wi (by omega) (by omega)) | exact wi (by omega) (by omega) | rfl) ?_; conv => whnf)
          first | exact trivial | exact fun _ _ h => h
        · conv => whnf
          refine .mk _ (buildL1) ?_
          rintro _ _ ⟨b26, hb26, rfl, rfl⟩
          conv => whnf
          have hr0 := hr.sub
          have n26 : b26 ≠ bm := fun e => by rw [e, hr.at] at hb26; cases hb26
          have c5 := Mem.sub_set (.cells #[.slice va l.length vc] 22) hb26 _ _ c5
          have c11 := Mem.sub_set (.cells #[.slice va l.length vc] 22) hb26 _ _ c11
          have c20 := Mem.sub_set (.cells #[.slice va l.length vc] 22) hb26 _ _ c20
          have hr := hr.new hb26 (.cells #[.slice va l.length vc] 22)
          have c26 := Mem.set_same (mx2.set b20 (.cells #[.slice va l.length vc] 22)) b26 (.cells #[.slice va l.length vc] 22)
          first | (refine ⟨keptL (by simp) hob hr0 hr.sub, ?_⟩; conv => whnf) | skip
          have hr0 := hr.sub
          refine xcall (msum_nil (Lists.one c20 (hla.sub hr.sub)) catB1 (by omega) (by simp) h256) ?_
          rintro _ mx3 ⟨rfl, hs⟩
          conv => whnf
          have hr := hr.grow hs
          have c5 := hs _ _ c5
          have c11 := hs _ _ c11
          have c20 := hs _ _ c20
          have c26 := hs _ _ c26
          first | (refine ⟨keptL (by simp) hob hr0 hr.sub, ?_⟩; conv => whnf) | skip
          have hr0 := hr.sub
          refine xcall (sum_spec (Lists.one c26 (hla.sub hr.sub)) catB1 (by omega) (by simp) h256) ?_
          rintro _ mx4 ⟨rfl, hs⟩
          conv => whnf
          have hr := hr.grow hs
          have c5 := hs _ _ c5
          have c11 := hs _ _ c11
          have c20 := hs _ _ c20
          have c26 := hs _ _ c26
          first | (refine ⟨keptL (by simp) hob hr0 hr.sub, ?_⟩; conv => whnf) | skip
          refine ⟨fun h => absurd h (by simp [eqLB_dg]), fun _ => ?_⟩
          conv => whnf
          repeat (refine And.intro (by first | omega | (simp only [times]; omega)) ?_; conv => whnf)
          refine ⟨_, by simp only [times, Int.toNat_natCast, Nat.mul_one]; exact hcell hr.sub, rfl, ?_⟩
          conv => whnf
          have hwb : w + blks l.length ≤ (i + 1) * 10 := by omega
          first | refine xretk (refbn_spec (by omega)) ?_ | refine xret (refbn_spec (by omega)) ?_
          conv => whnf
          have ew : IntKind.u64.wrap ((w : Int) + ((blks l.length : Nat) : Int)) = ((w + blks l.length : Nat) : Int) := by rw [wu (by omega) (by omega)]; omega
          rw [ew]
          first | refine xretk (mcount_spec hr.at) ?_ | refine xret (mcount_spec hr.at) ?_
          conv => whnf
          refine ⟨fun h => absurd h (by simp), fun _ => ?_⟩
          conv => whnf
          refine ⟨(i + 1, w + blks l.length), ⟨by omega, by omega, hwb, hr⟩, by simp only; omega, ?_⟩
          conv => whnf
          repeat (refine And.intro (by first | with_reducible rfl | (first | exact congrArg (Value.int _) (iadd (by omega))) | exact congrArg (Value.int _) (wi (by omega) (by omega)) | exact wi (by omega) (by omega) | rfl) ?_; conv => whnf)
          first | exact trivial | exact fun _ _ h => h
      · conv => whnf
        refine .mk _ (buildL1) ?_
        rintro _ _ ⟨b26, hb26, rfl, rfl⟩
        conv => whnf
        have hr0 := hr.sub
        have n26 : b26 ≠ bm := fun e => by rw [e, hr.at] at hb26; cases hb26
        have c5 := Mem.sub_set (.cells #[.slice va l.length vc] 22) hb26 _ _ c5
        have c11 := Mem.sub_set (.cells #[.slice va l.length vc] 22) hb26 _ _ c11
        have hr := hr.new hb26 (.cells #[.slice va l.length vc] 22)
        have c26 := Mem.set_same mx2 b26 (.cells #[.slice va l.length vc] 22)
        first | (refine ⟨keptL (by simp) hob hr0 hr.sub, ?_⟩; conv => whnf) | skip
        refine .mk _ (buildL1) ?_
        rintro _ _ ⟨b20, hb20, rfl, rfl⟩
        conv => whnf
        have hr0 := hr.sub
        have n20 : b20 ≠ bm := fun e => by rw [e, hr.at] at hb20; cases hb20
        have c5 := Mem.sub_set (.cells #[.slice va l.length vc] 22) hb20 _ _ c5
        have c11 := Mem.sub_set (.cells #[.slice va l.length vc] 22) hb20 _ _ c11
        have c26 := Mem.sub_set (.cells #[.slice va l.length vc] 22) hb20 _ _ c26
        have hr := hr.new hb20 (.cells #[.slice va l.length vc] 22)
        have c20 := Mem.set_same (mx2.set b26 (.cells #[.slice va l.length vc] 22)) b20 (.cells #[.slice va l.length vc] 22)
        first | (refine ⟨keptL (by simp) hob hr0 hr.sub, ?_⟩; conv => whnf) | skip
        have hr0 := hr.sub
        refine xcall (msum_nil (Lists.one c20 (hla.sub hr.sub)) catB1 (by omega) (by simp) h256) ?_
        rintro _ mx3 ⟨rfl, hs⟩
        conv => whnf
        have hr := hr.grow hs
        have c5 := hs _ _ c5
        have c11 := hs _ _ c11
        have c26 := hs _ _ c26
        have c20 := hs _ _ c20
        first | (refine ⟨keptL (by simp) hob hr0 hr.sub, ?_⟩; conv => whnf) | skip
        have hr0 := hr.sub
        refine xcall (sum_spec (Lists.one c26 (hla.sub hr.sub)) catB1 (by omega) (by simp) h256) ?_
        rintro _ mx4 ⟨rfl, hs⟩
        conv => whnf
        have hr := hr.grow hs
        have c5 := hs _ _ c5
        have c11 := hs _ _ c11
        have c26 := hs _ _ c26
        have c20 := hs _ _ c20
        first | (refine ⟨keptL (by simp) hob hr0 hr.sub, ?_⟩; conv => whnf) | skip
        refine ⟨fun h => absurd h (by simp [eqLB_dg]), fun _ => ?_⟩
        conv => whnf
        repeat (refine And.intro (by first | omega | (simp only [times]; omega)) ?_; conv => whnf)
        refine ⟨_, by simp only [times, Int.toNat_natCast, Nat.mul_one]; exact hcell hr.sub, rfl, ?_⟩
        conv => whnf
        have hwb : w + blks l.length ≤ (i + 1) * 10 := by omega
        first | refine xretk (refbn_spec (by omega)) ?_ | refine xret (refbn_spec (by omega)) ?_
        conv => whnf
        have ew : IntKind.u64.wrap ((w : Int) + ((blks l.length : Nat) : Int)) = ((w + blks l.length : Nat) : Int) := by rw [wu (by omega) (by omega)]; omega
        rw [ew]
        first | refine xretk (mcount_spec hr.at) ?_ | refine xret (mcount_spec hr.at) ?_
        conv => whnf
        refine ⟨fun h => absurd h (by simp), fun _ => ?_⟩
        conv => whnf
        refine ⟨(i + 1, w + blks l.length), ⟨by omega, by omega, hwb, hr⟩, by simp only; omega, ?_⟩
        conv => whnf
        repeat (refine And.intro (by first | with_reducible rfl | (first | exact congrArg (Value.int _) (iadd (by omega))) | exact congrArg (Value.int _) (wi (by omega) (by omega)) | exact wi (by omega) (by omega) | rfl) ?_; conv => whnf)
        first | exact trivial | exact fun _ _ h => h
  · conv => whnf
    refine .mk _ (buildL1) ?_
    rintro _ _ ⟨b11, hb11, rfl, rfl⟩
    conv => whnf
    have hr0 := hr.sub
    have n11 : b11 ≠ bm := fun e => by rw [e, hr.at] at hb11; cases hb11
    have hr := hr.new hb11 (.cells #[.slice va l.length vc] 22)
    have c11 := Mem.set_same mm b11 (.cells #[.slice va l.length vc] 22)
    first | (refine ⟨keptL (by simp) hob hr0 hr.sub, ?_⟩; conv => whnf) | skip
    refine .mk _ (buildL1) ?_
    rintro _ _ ⟨b5, hb5, rfl, rfl⟩
    conv => whnf
    have hr0 := hr.sub
    have n5 : b5 ≠ bm := fun e => by rw [e, hr.at] at hb5; cases hb5
    have c11 := Mem.sub_set (.cells #[.slice va l.length vc] 22) hb5 _ _ c11
    have hr := hr.new hb5 (.cells #[.slice va l.length vc] 22)
    have c5 := Mem.set_same (mm.set b11 (.cells #[.slice va l.length vc] 22)) b5 (.cells #[.slice va l.length vc] 22)
    first | (refine ⟨keptL (by simp) hob hr0 hr.sub, ?_⟩; conv => whnf) | skip
    have hr0 := hr.sub
    refine xcall (hr.sum c5 n5 hla (by omega) h256 (by omega)) ?_
    rintro _ mx1 ⟨rfl, hr, hk⟩
    conv => whnf
    have c11 := hk _ n11 _ c11
    have c5 := hk _ n5 _ c5
    first | (refine ⟨keptL (by simp) hob hr0 hr.sub, ?_⟩; conv => whnf) | skip
    have hr0 := hr.sub
    refine xcall (sum_spec (Lists.one c11 (hla.sub hr.sub)) catB1 (by omega) (by simp) h256) ?_
    rintro _ mx2 ⟨rfl, hs⟩
    conv => whnf
    have hr := hr.grow hs
    have c11 := hs _ _ c11
    have c5 := hs _ _ c5
    first | (refine ⟨keptL (by simp) hob hr0 hr.sub, ?_⟩; conv => whnf) | skip
    refine ⟨fun h => absurd h (by simp [eqLB_dg]), fun _ => ?_⟩
    conv => whnf
    repeat (refine And.intro (by first | omega | (simp only [times]; omega)) ?_; conv => whnf)
    refine ⟨_, by simp only [times, Int.toNat_natCast, Nat.mul_one]; exact hcell hr.sub, rfl, ?_⟩
    conv => whnf
    repeat (refine And.intro (by first | omega | (simp only [times]; omega)) ?_; conv => whnf)
    refine ⟨_, by simp only [times, Int.toNat_natCast, Nat.mul_one]; exact hcell hr.sub, rfl, ?_⟩
    conv => whnf
    refine ⟨?_, ?_⟩
    · conv => whnf
      refine .mk _ (buildL1) ?_
      rintro _ _ ⟨b20, hb20, rfl, rfl⟩
      conv => whnf
      have hr0 := hr.sub
      have n20 : b20 ≠ bm := fun e => by rw [e, hr.at] at hb20; cases hb20
      have c11 := Mem.sub_set (.cells #[.slice va l.length vc] 22) hb20 _ _ c11
      have c5 := Mem.sub_set (.cells #[.slice va l.length vc] 22) hb20 _ _ c5
      have hr := hr.new hb20 (.cells #[.slice va l.length vc] 22)
      have c20 := Mem.set_same mx2 b20 (.cells #[.slice va l.length vc] 22)
      first | (refine ⟨keptL (by simp) hob hr0 hr.sub, ?_⟩; conv => whnf) | skip
      refine ⟨?_, ?_⟩
      · conv => whnf
        have hr0 := hr.sub
        refine xcall (msum_nil (Lists.one c20 (hla.sub hr.sub)) catB1 (by omega) (by simp) h256) ?_
        rintro _ mx3 ⟨rfl, hs⟩
        conv => whnf
        have hr := hr.grow hs
        have c11 := hs _ _ c11
        have c5 := hs _ _ c5
        have c20 := hs _ _ c20
        first | (refine ⟨keptL (by simp) hob hr0 hr.sub, ?_⟩; conv => whnf) | skip
        refine .mk _ (buildL1) ?_
        rintro _ _ ⟨b26, hb26, rfl, rfl⟩
        conv => whnf
        have hr0 := hr.sub
        have n26 : b26 ≠ bm := fun e => by rw [e, hr.at] at hb26; cases hb26
        have c11 := Mem.sub_set (.cells #[.slice va l.length vc] 22) hb26 _ _ c11
        have c5 := Mem.sub_set (.cells #[.slice va l.length vc] 22) hb26 _ _ c5
        have c20 := Mem.sub_set (.cells #[.slice va l.length vc] 22) hb26 _ _ c20
        have hr := hr.new hb26 (.cells #[.slice va l.length vc] 22)
        have c26 := Mem.set_same mx3 b26 (.cells #[.slice va l.length vc] 22)
        first | (refine ⟨keptL (by simp) hob hr0 hr.sub, ?_⟩; conv => whnf) | skip
        have hr0 := hr.sub
        refine xcall (sum_spec (Lists.one c26 (hla.sub hr.sub)) catB1 (by omega) (by simp) h256) ?_
        rintro _ mx4 ⟨rfl, hs⟩
        conv => whnf
        have hr := hr.grow hs
        have c11 := hs _ _ c11
        have c5 := hs _ _ c5
        have c20 := hs _ _ c20
        have c26 := hs _ _ c26
        first | (refine ⟨keptL (by simp) hob hr0 hr.sub, ?_⟩; conv => whnf) | skip
        refine ⟨fun h => absurd h (by simp [eqLB_dg]), fun _ => ?_⟩
        conv => whnf
        repeat (refine And.intro (by first | omega | (simp only [times]; omega)) ?_; conv => whnf)
        refine ⟨_, by simp only [times, Int.toNat_natCast, Nat.mul_one]; exact hcell hr.sub, rfl, ?_⟩
        conv => whnf
        have hwb : w + blks l.length ≤ (i + 1) * 10 := by omega
        first | refine xretk (refbn_spec (by omega)) ?_ | refine xret (refbn_spec (by omega)) ?_
        conv => whnf
        have ew : IntKind.u64.wrap ((w : Int) + ((blks l.length : Nat) : Int)) = ((w + blks l.length : Nat) : Int) := by rw [wu (by omega) (by omega)]; omega
        rw [ew]
        first | refine xretk (mcount_spec hr.at) ?_ | refine xret (mcount_spec hr.at) ?_
        conv => whnf
        refine ⟨fun h => absurd h (by simp), fun _ => ?_⟩
        conv => whnf
        refine ⟨(i + 1, w + blks l.length), ⟨by omega, by omega, hwb, hr⟩, by simp only; omega, ?_⟩
        conv => whnf
        repeat (refine And.intro (by first | with_reducible rfl | (first | exact congrArg (Value.int _) (iadd (by omega))) | exact congrArg (Value.int _) (wi (by omega) (by omega)) | exact wi (by omega) (by omega) | rfl) ?_; conv => whnf)
        first | exact trivial | exact fun _ _ h => h
      · conv => whnf
        refine .mk _ (buildL1) ?_
        rintro _ _ ⟨b26, hb26, rfl, rfl⟩
        conv => whnf
        have hr0 := hr.sub
        have n26 : b26 ≠ bm := fun e => by rw [e, hr.at] at hb26; cases hb26
        have c11 := Mem.sub_set (.cells #[.slice va l.length vc] 22) hb26 _ _ c11
        have c5 := Mem.sub_set (.cells #[.slice va l.length vc] 22) hb26 _ _ c5
        have c20 := Mem.sub_set (.cells #[.slice va l.length vc] 22) hb26 _ _ c20
        have hr := hr.new hb26 (.cells #[.slice va l.length vc] 22)
        have c26 := Mem.set_same (mx2.set b20 (.cells #[.slice va l.length vc] 22)) b26 (.cells #[.slice va l.length vc] 22)
        first | (refine ⟨keptL (by simp) hob hr0 hr.sub, ?_⟩; conv => whnf) | skip
        have hr0 := hr.sub
        refine xcall (msum_nil (Lists.one c20 (hla.sub hr.sub)) catB1 (by omega) (by simp) h256) ?_
        rintro _ mx3 ⟨rfl, hs⟩
        conv => whnf
        have hr := hr.grow hs
        have c11 := hs _ _ c11
        have c5 := hs _ _ c5
        have c20 := hs _ _ c20
        have c26 := hs _ _ c26
        first | (refine ⟨keptL (by simp) hob hr0 hr.sub, ?_⟩; conv => whnf) | skip
        have hr0 := hr.sub
        refine xcall (sum_spec (Lists.one c26 (hla.sub hr.sub)) catB1 (by omega) (by simp) h256) ?_
        rintro _ mx4 ⟨rfl, hs⟩
        conv => whnf
        have hr := hr.grow hs
        have c11 := hs _ _ c11
        have c5 := hs _ _ c5
        have c20 := hs _ _ c20
        have c26 := hs _ _ c26
        first | (refine ⟨keptL (by simp) hob hr0 hr.sub, ?_⟩; conv => whnf) | skip
        refine ⟨fun h => absurd h (by simp [eqLB_dg]), fun _ => ?_⟩
        conv => whnf
        repeat (refine And.intro (by first | omega | (simp only [times]; omega)) ?_; conv => whnf)
        refine ⟨_, by simp only [times, Int.toNat_natCast, Nat.mul_one]; exact hcell hr.sub, rfl, ?_⟩
        conv => whnf
        have hwb : w + blks l.length ≤ (i + 1) * 10 := by omega
        first | refine xretk (refbn_spec (by omega)) ?_ | refine xret (refbn_spec (by omega)) ?_
        conv => whnf
        have ew : IntKind.u64.wrap ((w : Int) + ((blks l.length : Nat) : Int)) = ((w + blks l.length : Nat) : Int) := by rw [wu (by omega) (by omega)]; omega
        rw [ew]
        first | refine xretk (mcount_spec hr.at) ?_ | refine xret (mcount_spec hr.at) ?_
        conv => whnf
        refine ⟨fun h => absurd h (by simp), fun _ => ?_⟩
        conv => whnf
        refine ⟨(i + 1, w + blks l.length), ⟨by omega, by omega, hwb, hr⟩, by simp only; omega, ?_⟩
        conv => whnf
        repeat (refine And.intro (by first | with_reducible rfl | (first | exact congrArg (Value.int _) (iadd (by omega))) | exact congrArg (Value.int _) (wi (by omega) (by omega)) | exact wi (by omega) (by omega) | rfl) ?_; conv => whnf)
        first | exact trivial | exact fun _ _ h => h
    · conv => whnf
      refine .mk _ (buildL1) ?_
      rintro _ _ ⟨b26, hb26, rfl, rfl⟩
      conv => whnf
      have hr0 := hr.sub
      have n26 : b26 ≠ bm := fun e => by rw [e, hr.at] at hb26; cases hb26
      have c11 := Mem.sub_set (.cells #[.slice va l.length vc] 22) hb26 _ _ c11
      have c5 := Mem.sub_set (.cells #[.slice va l.length vc] 22) hb26 _ _ c5
      have hr := hr.new hb26 (.cells #[.slice va l.length vc] 22)
      have c26 := Mem.set_same mx2 b26 (.cells #[.slice va l.length vc] 22)
      first | (refine ⟨keptL (by simp) hob hr0 hr.sub, ?_⟩; conv => whnf) | skip
      refine .mk _ (buildL1) ?_
      rintro _ _ ⟨b20, hb20, rfl, rfl⟩
      conv => whnf
      have hr0 := hr.sub
      have n20 : b20 ≠ bm := fun e => by rw [e, hr.at] at hb20; cases hb20
      have c11 := Mem.sub_set (.cells #[.slice va l.length vc] 22) hb20 _ _ c11
      have c5 := Mem.sub_set (.cells #[.slice va l.length vc] 22) hb20 _ _ c5
      have c26 := Mem.sub_set (.cells #[.slice va l.length vc] 22) hb20 _ _ c26
      have hr := hr.new hb20 (.cells #[.slice va l.length vc] 22)
      have c20 := Mem.set_same (mx2.set b26 (.cells #[.slice va l.length vc] 22)) b20 (.cells #[.slice va l.length vc] 22)
      first | (refine ⟨keptL (by simp) hob hr0 hr.sub, ?_⟩; conv => whnf) | skip
      have hr0 := hr.sub
      refine xcall (msum_nil (Lists.one c20 (hla.sub hr.sub)) catB1 (by omega) (by simp) h256) ?_
      rintro _ mx3 ⟨rfl, hs⟩
      conv => whnf
      have hr := hr.grow hs
      have c11 := hs _ _ c11
      have c5 := hs _ _ c5
      have c26 := hs _ _ c26
      have c20 := hs _ _ c20
      first | (refine ⟨keptL (by simp) hob hr0 hr.sub, ?_⟩; conv => whnf) | skip
      have hr0 := hr.sub
      refine xcall (sum_spec (Lists.one c26 (hla.sub hr.sub)) catB1 (by omega) (by simp) h256) ?_
      rintro _ mx4 ⟨rfl, hs⟩
      conv => whnf
      have hr := hr.grow hs
      have c11 := hs _ _ c11
      have c5 := hs _ _ c5
      have c26 := hs _ _ c26
      have c20 := hs _ _ c20
      first | (refine ⟨keptL (by simp) hob hr0 hr.sub, ?_⟩; conv => whnf) | skip
      refine ⟨fun h => absurd h (by simp [eqLB_dg]), fun _ => ?_⟩
      conv => whnf
      repeat (refine And.intro (by first | omega | (simp only [times]; omega)) ?_; conv => whnf)
      refine ⟨_, by simp only [times, Int.toNat_natCast, Nat.mul_one]; exact hcell hr.sub, rfl, ?_⟩
      conv => whnf
      have hwb : w + blks l.length ≤ (i + 1) * 10 := by omega
      first | refine xretk (refbn_spec (by omega)) ?_ | refine xret (refbn_spec (by omega)) ?_
      conv => whnf
      have ew : IntKind.u64.wrap ((w : Int) + ((blks l.length : Nat) : Int)) = ((w + blks l.length : Nat) : Int) := by rw [wu (by omega) (by omega)]; omega
      rw [ew]
      first | refine xretk (mcount_spec hr.at) ?_ | refine xret (mcount_spec hr.at) ?_
      conv => whnf
      refine ⟨fun h => absurd h (by simp), fun _ => ?_⟩
      conv => whnf
      refine ⟨(i + 1, w + blks l.length), ⟨by omega, by omega, hwb, hr⟩, by simp only; omega, ?_⟩
      conv => whnf
      repeat (refine And.intro (by first | with_reducible rfl | (first | exact congrArg (Value.int _) (iadd (by omega))) | exact congrArg (Value.int _) (wi (by omega) (by omega)) | exact wi (by omega) (by omega) | rfl) ?_; conv => whnf)
      first | exact trivial | exact fun _ _ h => h
end Go.E.Ytodgjanekjefbaa
