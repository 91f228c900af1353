/-
  What must come of fixed calls (chapter 01).
-/
import Derived.Test.YtodgjanekjefbaaSha7
import Derived.Test.YtodgjanekjefbaaE21
namespace Go.E.Ytodgjanekjefbaa
open Go.Proofs
set_option maxRecDepth 100000
theorem build2 {m : Mem} {x y : Int} : PrimSpec Try.prog (.buildSlice 22 2 [0, 1]) [.v (.int .u8 x), .v (.int .u8 y)] m fun r m' => ∃ b, m b = none ∧ r = [.v (.slice (some ⟨b, 0, none⟩) 2 2)] ∧ m' = m.set b (.cells (bc [x, y]).toArray 5) :=
  buildSlice_spec (n := 2) tt_ok hBs rfl hU8 rfl rfl (by simp [CV.cs]) (by simp) (by simp)
theorem build3 {m : Mem} {x y z : Int} : PrimSpec Try.prog (.buildSlice 22 3 [0, 1, 2]) [.v (.int .u8 x), .v (.int .u8 y), .v (.int .u8 z)] m fun r m' => ∃ b, m b = none ∧ r = [.v (.slice (some ⟨b, 0, none⟩) 3 3)] ∧ m' = m.set b (.cells (bc [x, y, z]).toArray 5) :=
  buildSlice_spec (n := 3) tt_ok hBs rfl hU8 rfl rfl (by simp [CV.cs]) (by simp) (by simp)
theorem abc_sum : Sha.sum [97, 98, 99] = [186, 120, 22, 191, 143, 1, 207, 234, 65, 65, 64, 222, 93, 174, 34, 35, 176, 3, 97, 163, 150, 23, 122, 156, 180, 16, 255, 97, 242, 0, 21, 173] := by
  rw [← Sha.sumK_eq]; decide +kernel
theorem Lists.one {m : Mem} {b : Nat} {v : Value} {l : List Int} {t : TypeId} {fr : Nat × Nat} (h : m b = some (.cells #[v] t fr)) (hl : La m v l) : Lists m (.slice (some ⟨b, 0, none⟩) 1 1) [(v, l)] :=
  Lists.blk (ps := [(v, l)]) h rfl (by simpa using hl)
theorem Lists.two {m : Mem} {b : Nat} {v w : Value} {l k : List Int} {t : TypeId} {fr : Nat × Nat} (h : m b = some (.cells #[v, w] t fr)) (hl : La m v l) (hk : La m w k) : Lists m (.slice (some ⟨b, 0, none⟩) 2 2) [(v, l), (w, k)] :=
  Lists.blk (ps := [(v, l), (w, k)]) h rfl (by simpa using ⟨hl, hk⟩)
def abcD : List Int := [186, 120, 22, 191, 143, 1, 207, 234, 65, 65, 64, 222, 93, 174, 34, 35, 176, 3, 97, 163, 150, 23, 122, 156, 180, 16, 255, 97, 242, 0, 21, 173]
theorem sum_abc {m : Mem} {v : Value} {ps : List (Value × List Int)} (h : Lists m v ps) (hcat : catB ps = [97, 98, 99]) (hn : ps.length ≤ 10000000) :
    Spec Try.prog 8 [.v v] m fun r m' => r = [.a [.ints .u8 32 [186, 120, 22, 191, 143, 1, 207, 234, 65, 65, 64, 222, 93, 174, 34, 35, 176, 3, 97, 163, 150, 23, 122, 156, 180, 16, 255, 97, 242, 0, 21, 173]]] ∧ Sub m m' := by
  refine (sum_spec (l := [97, 98, 99]) h hcat (by decide) hn (by decide)).mono ?_
  rintro r m' ⟨rfl, h⟩
  rw [abc_sum]
  exact ⟨rfl, h⟩
theorem conv_spec {m : Mem} {b n c : Nat} {l : List Int} (hb : m b = some (.cells (bc l).toArray 5)) : PrimSpec Try.prog (.conv 22 22) [.v (.slice (some ⟨b, 0, none⟩) n c)] m fun r m' => r = [.v (.slice (some ⟨b, 0, none⟩) n c)] ∧ m' = m.set b (.cells (bc l).toArray 5 ((bc l).toArray.size, (bc l).toArray.size + 1)) :=
  convConst_spec tt_ok hBs rfl hU8 rfl hb
theorem point_abc {m : Mem} {v : Value} (hv : La m v [97, 98, 99]) : Spec Try.prog 10 [.v v] m fun r m' => r = [.v (.int .u64 13436514500253700074)] ∧ Sub m m' := by
  refine (point_spec (l := [97, 98, 99]) hv (by decide) (by decide)).mono ?_
  rintro r m' ⟨rfl, h⟩
  have e : Sha.point [97, 98, 99] = 13436514500253700074 := by
    unfold Sha.point
    rw [abc_sum]; decide
  rw [e]
  exact ⟨rfl, h⟩
set_option maxHeartbeats 8000000 in
theorem alive_spec : Spec Try.prog 7 [] emp fun r _ => r = [boolV true] := by
  refine en7 rfl (goY ?_)
  conv => whnf
  refine .mk _ (build3) ?_
  rintro _ _ ⟨b1, hb1, rfl, rfl⟩
  conv => whnf
  refine .mk _ (convConst_spec tt_ok hBs rfl hU8 rfl (Mem.set_same ..)) ?_
  rintro _ _ ⟨rfl, rfl⟩
  conv => whnf
  rw [Mem.set_set]
  refine .mk _ (buildL1) ?_
  rintro _ _ ⟨b2, hb2, rfl, rfl⟩
  conv => whnf
  refine xcall (sum_abc (Lists.one (Mem.set_same ..) (Lb.blkf (l := [97, 98, 99]) (Mem.sub_set _ hb2 _ _ (Mem.set_same ..)) rfl).la) rfl (by simp)) ?_
  rintro _ m1 ⟨rfl, hs1⟩
  conv => whnf
  refine ⟨fun _ => ?_, fun h => absurd h (by decide)⟩
  conv => whnf
  refine ⟨fun _ => ?_, fun h => absurd h (by decide)⟩
  conv => whnf
  refine ⟨fun _ => ?_, fun h => absurd h (by decide)⟩
  conv => whnf
  refine ⟨fun _ => ?_, fun h => absurd h (by decide)⟩
  conv => whnf
  conv => whnf
  refine ⟨?_, ?_⟩
  · conv => whnf
    refine .mk _ (build1) ?_
    rintro _ _ ⟨b3, hb3, rfl, rfl⟩
    conv => whnf
    first | refine ⟨fun _ h => (by cases h), ?_⟩ | skip
    conv => whnf
    refine ⟨?_, ?_⟩
    · conv => whnf
      refine .mk _ (conv_spec (b := b3) (l := [97]) (by first | exact Mem.set_same .. | simp [Mem.set, hne, Ne.symm hne])) ?_
      rintro _ _ ⟨rfl, rfl⟩
      conv => whnf
      first | refine ⟨fun _ h => (by cases h), ?_⟩ | skip
      conv => whnf
      refine .mk _ (build2) ?_
      rintro _ _ ⟨b4, hb4, rfl, rfl⟩
      conv => whnf
      first | refine ⟨fun _ h => (by cases h), ?_⟩ | skip
      conv => whnf
      have hne : b4 ≠ b3 := by rintro rfl; first | simp [Mem.set] at hb4; done | simp [Mem.set] at hb3; done
      have hne' : b3 ≠ b4 := Ne.symm hne
      refine .mk _ (conv_spec (b := b4) (l := [98, 99]) (by first | exact Mem.set_same .. | simp [Mem.set, hne, Ne.symm hne])) ?_
      rintro _ _ ⟨rfl, rfl⟩
      conv => whnf
      first | refine ⟨fun _ h => (by cases h), ?_⟩ | skip
      conv => whnf
      refine .mk _ (buildL2) ?_
      rintro _ _ ⟨b5, hb5, rfl, rfl⟩
      conv => whnf
      first | refine ⟨fun _ h => (by cases h), ?_⟩ | skip
      conv => whnf
      have g3 := Mem.sub_set (.cells #[.slice (some ⟨b3, 0, none⟩) 1 1, .slice (some ⟨b4, 0, none⟩) 2 2] 22) hb5 b3 (.cells (bc [97]).toArray 5 (1, 2)) (by first | exact Mem.set_same .. | exact (Mem.set_ne _ _ hne').trans (Mem.set_same ..) | exact (Mem.set_ne _ _ hne').trans ((Mem.set_ne _ _ hne').trans (Mem.set_same ..)))
      have g4 := Mem.sub_set (.cells #[.slice (some ⟨b3, 0, none⟩) 1 1, .slice (some ⟨b4, 0, none⟩) 2 2] 22) hb5 b4 (.cells (bc [98, 99]).toArray 5 (2, 3)) (by first | exact Mem.set_same .. | exact (Mem.set_ne _ _ hne).trans (Mem.set_same ..) | exact (Mem.set_ne _ _ hne).trans ((Mem.set_ne _ _ hne).trans (Mem.set_same ..)))
      refine xcall (sum_abc (Lists.two (Mem.set_same ..) (Lb.blkf (l := [97]) g3 rfl).la (Lb.blkf (l := [98, 99]) g4 rfl).la) rfl (by simp)) ?_
      rintro _ m2 ⟨rfl, hs2⟩
      conv => whnf
      first | refine ⟨fun _ h => (by cases h), ?_⟩ | skip
      conv => whnf
      refine ⟨fun _ => ?_, fun h => absurd h (by decide)⟩
      conv => whnf
      refine .mk _ (build3) ?_
      rintro _ _ ⟨b6, hb6, rfl, rfl⟩
      conv => whnf
      first | refine ⟨fun _ h => (by cases h), ?_⟩ | skip
      conv => whnf
      refine .mk _ (conv_spec (b := b6) (l := [97, 98, 99]) (Mem.set_same ..)) ?_
      rintro _ _ ⟨rfl, rfl⟩
      conv => whnf
      first | refine ⟨fun _ h => (by cases h), ?_⟩ | skip
      conv => whnf
      refine xcall (point_abc (Lb.blkf (l := [97, 98, 99]) (fr := (3, 4)) (Mem.set_same ..) rfl).la) ?_
      rintro _ m3 ⟨rfl, hs3⟩
      conv => whnf
      first | refine ⟨fun _ h => (by cases h), ?_⟩ | skip
      conv => whnf
      refine ⟨fun _ => ?_, fun h => absurd h (by decide)⟩
      conv => whnf
      first | refine xretk (shab_spec (n := 55) (by decide)) ?_ | refine xret (shab_spec (n := 55) (by decide)) ?_
      conv => whnf
      refine ⟨fun _ => ?_, fun h => absurd h (by decide)⟩
      conv => whnf
      first | refine xretk (shab_spec (n := 56) (by decide)) ?_ | refine xret (shab_spec (n := 56) (by decide)) ?_
      conv => whnf
      rfl
    · conv => whnf
      refine .mk _ (build2) ?_
      rintro _ _ ⟨b4, hb4, rfl, rfl⟩
      conv => whnf
      first | refine ⟨fun _ h => (by cases h), ?_⟩ | skip
      conv => whnf
      have hne : b4 ≠ b3 := by rintro rfl; first | simp [Mem.set] at hb4; done | simp [Mem.set] at hb3; done
      have hne' : b3 ≠ b4 := Ne.symm hne
      refine ⟨?_, ?_⟩
      · conv => whnf
        refine .mk _ (conv_spec (b := b3) (l := [97]) (by first | exact Mem.set_same .. | simp [Mem.set, hne, Ne.symm hne])) ?_
        rintro _ _ ⟨rfl, rfl⟩
        conv => whnf
        first | refine ⟨fun _ h => (by cases h), ?_⟩ | skip
        conv => whnf
        refine .mk _ (conv_spec (b := b4) (l := [98, 99]) (by first | exact Mem.set_same .. | simp [Mem.set, hne, Ne.symm hne])) ?_
        rintro _ _ ⟨rfl, rfl⟩
        conv => whnf
        first | refine ⟨fun _ h => (by cases h), ?_⟩ | skip
        conv => whnf
        refine .mk _ (buildL2) ?_
        rintro _ _ ⟨b5, hb5, rfl, rfl⟩
        conv => whnf
        first | refine ⟨fun _ h => (by cases h), ?_⟩ | skip
        conv => whnf
        have g3 := Mem.sub_set (.cells #[.slice (some ⟨b3, 0, none⟩) 1 1, .slice (some ⟨b4, 0, none⟩) 2 2] 22) hb5 b3 (.cells (bc [97]).toArray 5 (1, 2)) (by first | exact Mem.set_same .. | exact (Mem.set_ne _ _ hne').trans (Mem.set_same ..) | exact (Mem.set_ne _ _ hne').trans ((Mem.set_ne _ _ hne').trans (Mem.set_same ..)))
        have g4 := Mem.sub_set (.cells #[.slice (some ⟨b3, 0, none⟩) 1 1, .slice (some ⟨b4, 0, none⟩) 2 2] 22) hb5 b4 (.cells (bc [98, 99]).toArray 5 (2, 3)) (by first | exact Mem.set_same .. | exact (Mem.set_ne _ _ hne).trans (Mem.set_same ..) | exact (Mem.set_ne _ _ hne).trans ((Mem.set_ne _ _ hne).trans (Mem.set_same ..)))
        refine xcall (sum_abc (Lists.two (Mem.set_same ..) (Lb.blkf (l := [97]) g3 rfl).la (Lb.blkf (l := [98, 99]) g4 rfl).la) rfl (by simp)) ?_
        rintro _ m2 ⟨rfl, hs2⟩
        conv => whnf
        first | refine ⟨fun _ h => (by cases h), ?_⟩ | skip
        conv => whnf
        refine ⟨fun _ => ?_, fun h => absurd h (by decide)⟩
        conv => whnf
        refine .mk _ (build3) ?_
        rintro _ _ ⟨b6, hb6, rfl, rfl⟩
        conv => whnf
        first | refine ⟨fun _ h => (by cases h), ?_⟩ | skip
        conv => whnf
        refine .mk _ (conv_spec (b := b6) (l := [97, 98, 99]) (Mem.set_same ..)) ?_
        rintro _ _ ⟨rfl, rfl⟩
        conv => whnf
        first | refine ⟨fun _ h => (by cases h), ?_⟩ | skip
        conv => whnf
        refine xcall (point_abc (Lb.blkf (l := [97, 98, 99]) (fr := (3, 4)) (Mem.set_same ..) rfl).la) ?_
        rintro _ m3 ⟨rfl, hs3⟩
        conv => whnf
        first | refine ⟨fun _ h => (by cases h), ?_⟩ | skip
        conv => whnf
        refine ⟨fun _ => ?_, fun h => absurd h (by decide)⟩
        conv => whnf
        first | refine xretk (shab_spec (n := 55) (by decide)) ?_ | refine xret (shab_spec (n := 55) (by decide)) ?_
        conv => whnf
        refine ⟨fun _ => ?_, fun h => absurd h (by decide)⟩
        conv => whnf
        first | refine xretk (shab_spec (n := 56) (by decide)) ?_ | refine xret (shab_spec (n := 56) (by decide)) ?_
        conv => whnf
        rfl
      · conv => whnf
        refine .mk _ (conv_spec (b := b4) (l := [98, 99]) (by first | exact Mem.set_same .. | simp [Mem.set, hne, Ne.symm hne])) ?_
        rintro _ _ ⟨rfl, rfl⟩
        conv => whnf
        first | refine ⟨fun _ h => (by cases h), ?_⟩ | skip
        conv => whnf
        refine .mk _ (conv_spec (b := b3) (l := [97]) (by first | exact Mem.set_same .. | simp [Mem.set, hne, Ne.symm hne])) ?_
        rintro _ _ ⟨rfl, rfl⟩
        conv => whnf
        first | refine ⟨fun _ h => (by cases h), ?_⟩ | skip
        conv => whnf
        refine .mk _ (buildL2) ?_
        rintro _ _ ⟨b5, hb5, rfl, rfl⟩
        conv => whnf
        first | refine ⟨fun _ h => (by cases h), ?_⟩ | skip
        conv => whnf
        have g3 := Mem.sub_set (.cells #[.slice (some ⟨b3, 0, none⟩) 1 1, .slice (some ⟨b4, 0, none⟩) 2 2] 22) hb5 b3 (.cells (bc [97]).toArray 5 (1, 2)) (by first | exact Mem.set_same .. | exact (Mem.set_ne _ _ hne').trans (Mem.set_same ..) | exact (Mem.set_ne _ _ hne').trans ((Mem.set_ne _ _ hne').trans (Mem.set_same ..)))
        have g4 := Mem.sub_set (.cells #[.slice (some ⟨b3, 0, none⟩) 1 1, .slice (some ⟨b4, 0, none⟩) 2 2] 22) hb5 b4 (.cells (bc [98, 99]).toArray 5 (2, 3)) (by first | exact Mem.set_same .. | exact (Mem.set_ne _ _ hne).trans (Mem.set_same ..) | exact (Mem.set_ne _ _ hne).trans ((Mem.set_ne _ _ hne).trans (Mem.set_same ..)))
        refine xcall (sum_abc (Lists.two (Mem.set_same ..) (Lb.blkf (l := [97]) g3 rfl).la (Lb.blkf (l := [98, 99]) g4 rfl).la) rfl (by simp)) ?_
        rintro _ m2 ⟨rfl, hs2⟩
        conv => whnf
        first | refine ⟨fun _ h => (by cases h), ?_⟩ | skip
        conv => whnf
        refine ⟨fun _ => ?_, fun h => absurd h (by decide)⟩
        conv => whnf
        refine .mk _ (build3) ?_
        rintro _ _ ⟨b6, hb6, rfl, rfl⟩
        conv => whnf
        first | refine ⟨fun _ h => (by cases h), ?_⟩ | skip
        conv => whnf
        refine .mk _ (conv_spec (b := b6) (l := [97, 98, 99]) (Mem.set_same ..)) ?_
        rintro _ _ ⟨rfl, rfl⟩
        conv => whnf
        first | refine ⟨fun _ h => (by cases h), ?_⟩ | skip
        conv => whnf
        refine xcall (point_abc (Lb.blkf (l := [97, 98, 99]) (fr := (3, 4)) (Mem.set_same ..) rfl).la) ?_
        rintro _ m3 ⟨rfl, hs3⟩
        conv => whnf
        first | refine ⟨fun _ h => (by cases h), ?_⟩ | skip
        conv => whnf
        refine ⟨fun _ => ?_, fun h => absurd h (by decide)⟩
        conv => whnf
        first | refine xretk (shab_spec (n := 55) (by decide)) ?_ | refine xret (shab_spec (n := 55) (by decide)) ?_
        conv => whnf
        refine ⟨fun _ => ?_, fun h => absurd h (by decide)⟩
        conv => whnf
        first | refine xretk (shab_spec (n := 56) (by decide)) ?_ | refine xret (shab_spec (n := 56) (by decide)) ?_
        conv => whnf
        rfl
  · conv => whnf
    refine .mk _ (build2) ?_
    rintro _ _ ⟨b4, hb4, rfl, rfl⟩
    conv => whnf
    first | refine ⟨fun _ h => (by cases h), ?_⟩ | skip
    conv => whnf
    refine ⟨?_, ?_⟩
    · conv => whnf
      refine .mk _ (build1) ?_
      rintro _ _ ⟨b3, hb3, rfl, rfl⟩
      conv => whnf
      first | refine ⟨fun _ h => (by cases h), ?_⟩ | skip
      conv => whnf
      have hne : b4 ≠ b3 := by rintro rfl; first | simp [Mem.set] at hb4; done | simp [Mem.set] at hb3; done
      have hne' : b3 ≠ b4 := Ne.symm hne
      refine ⟨?_, ?_⟩
      · conv => whnf
        refine .mk _ (conv_spec (b := b3) (l := [97]) (by first | exact Mem.set_same .. | simp [Mem.set, hne, Ne.symm hne])) ?_
        rintro _ _ ⟨rfl, rfl⟩
        conv => whnf
        first | refine ⟨fun _ h => (by cases h), ?_⟩ | skip
        conv => whnf
        refine .mk _ (conv_spec (b := b4) (l := [98, 99]) (by first | exact Mem.set_same .. | simp [Mem.set, hne, Ne.symm hne])) ?_
        rintro _ _ ⟨rfl, rfl⟩
        conv => whnf
        first | refine ⟨fun _ h => (by cases h), ?_⟩ | skip
        conv => whnf
        refine .mk _ (buildL2) ?_
        rintro _ _ ⟨b5, hb5, rfl, rfl⟩
        conv => whnf
        first | refine ⟨fun _ h => (by cases h), ?_⟩ | skip
        conv => whnf
        have g3 := Mem.sub_set (.cells #[.slice (some ⟨b3, 0, none⟩) 1 1, .slice (some ⟨b4, 0, none⟩) 2 2] 22) hb5 b3 (.cells (bc [97]).toArray 5 (1, 2)) (by first | exact Mem.set_same .. | exact (Mem.set_ne _ _ hne').trans (Mem.set_same ..) | exact (Mem.set_ne _ _ hne').trans ((Mem.set_ne _ _ hne').trans (Mem.set_same ..)))
        have g4 := Mem.sub_set (.cells #[.slice (some ⟨b3, 0, none⟩) 1 1, .slice (some ⟨b4, 0, none⟩) 2 2] 22) hb5 b4 (.cells (bc [98, 99]).toArray 5 (2, 3)) (by first | exact Mem.set_same .. | exact (Mem.set_ne _ _ hne).trans (Mem.set_same ..) | exact (Mem.set_ne _ _ hne).trans ((Mem.set_ne _ _ hne).trans (Mem.set_same ..)))
        refine xcall (sum_abc (Lists.two (Mem.set_same ..) (Lb.blkf (l := [97]) g3 rfl).la (Lb.blkf (l := [98, 99]) g4 rfl).la) rfl (by simp)) ?_
        rintro _ m2 ⟨rfl, hs2⟩
        conv => whnf
        first | refine ⟨fun _ h => (by cases h), ?_⟩ | skip
        conv => whnf
        refine ⟨fun _ => ?_, fun h => absurd h (by decide)⟩
        conv => whnf
        refine .mk _ (build3) ?_
        rintro _ _ ⟨b6, hb6, rfl, rfl⟩
        conv => whnf
        first | refine ⟨fun _ h => (by cases h), ?_⟩ | skip
        conv => whnf
        refine .mk _ (conv_spec (b := b6) (l := [97, 98, 99]) (Mem.set_same ..)) ?_
        rintro _ _ ⟨rfl, rfl⟩
        conv => whnf
        first | refine ⟨fun _ h => (by cases h), ?_⟩ | skip
        conv => whnf
        refine xcall (point_abc (Lb.blkf (l := [97, 98, 99]) (fr := (3, 4)) (Mem.set_same ..) rfl).la) ?_
        rintro _ m3 ⟨rfl, hs3⟩
        conv => whnf
        first | refine ⟨fun _ h => (by cases h), ?_⟩ | skip
        conv => whnf
        refine ⟨fun _ => ?_, fun h => absurd h (by decide)⟩
        conv => whnf
        first | refine xretk (shab_spec (n := 55) (by decide)) ?_ | refine xret (shab_spec (n := 55) (by decide)) ?_
        conv => whnf
        refine ⟨fun _ => ?_, fun h => absurd h (by decide)⟩
        conv => whnf
        first | refine xretk (shab_spec (n := 56) (by decide)) ?_ | refine xret (shab_spec (n := 56) (by decide)) ?_
        conv => whnf
        rfl
      · conv => whnf
        refine .mk _ (conv_spec (b := b4) (l := [98, 99]) (by first | exact Mem.set_same .. | simp [Mem.set, hne, Ne.symm hne])) ?_
        rintro _ _ ⟨rfl, rfl⟩
        conv => whnf
        first | refine ⟨fun _ h => (by cases h), ?_⟩ | skip
        conv => whnf
        refine .mk _ (conv_spec (b := b3) (l := [97]) (by first | exact Mem.set_same .. | simp [Mem.set, hne, Ne.symm hne])) ?_
        rintro _ _ ⟨rfl, rfl⟩
        conv => whnf
        first | refine ⟨fun _ h => (by cases h), ?_⟩ | skip
        conv => whnf
        refine .mk _ (buildL2) ?_
        rintro _ _ ⟨b5, hb5, rfl, rfl⟩
        conv => whnf
        first | refine ⟨fun _ h => (by cases h), ?_⟩ | skip
        conv => whnf
        have g3 := Mem.sub_set (.cells #[.slice (some ⟨b3, 0, none⟩) 1 1, .slice (some ⟨b4, 0, none⟩) 2 2] 22) hb5 b3 (.cells (bc [97]).toArray 5 (1, 2)) (by first | exact Mem.set_same .. | exact (Mem.set_ne _ _ hne').trans (Mem.set_same ..) | exact (Mem.set_ne _ _ hne').trans ((Mem.set_ne _ _ hne').trans (Mem.set_same ..)))
        have g4 := Mem.sub_set (.cells #[.slice (some ⟨b3, 0, none⟩) 1 1, .slice (some ⟨b4, 0, none⟩) 2 2] 22) hb5 b4 (.cells (bc [98, 99]).toArray 5 (2, 3)) (by first | exact Mem.set_same .. | exact (Mem.set_ne _ _ hne).trans (Mem.set_same ..) | exact (Mem.set_ne _ _ hne).trans ((Mem.set_ne _ _ hne).trans (Mem.set_same ..)))
        refine xcall (sum_abc (Lists.two (Mem.set_same ..) (Lb.blkf (l := [97]) g3 rfl).la (Lb.blkf (l := [98, 99]) g4 rfl).la) rfl (by simp)) ?_
        rintro _ m2 ⟨rfl, hs2⟩
        conv => whnf
        first | refine ⟨fun _ h => (by cases h), ?_⟩ | skip
        conv => whnf
        refine ⟨fun _ => ?_, fun h => absurd h (by decide)⟩
        conv => whnf
        refine .mk _ (build3) ?_
        rintro _ _ ⟨b6, hb6, rfl, rfl⟩
        conv => whnf
        first | refine ⟨fun _ h => (by cases h), ?_⟩ | skip
        conv => whnf
        refine .mk _ (conv_spec (b := b6) (l := [97, 98, 99]) (Mem.set_same ..)) ?_
        rintro _ _ ⟨rfl, rfl⟩
        conv => whnf
        first | refine ⟨fun _ h => (by cases h), ?_⟩ | skip
        conv => whnf
        refine xcall (point_abc (Lb.blkf (l := [97, 98, 99]) (fr := (3, 4)) (Mem.set_same ..) rfl).la) ?_
        rintro _ m3 ⟨rfl, hs3⟩
        conv => whnf
        first | refine ⟨fun _ h => (by cases h), ?_⟩ | skip
        conv => whnf
        refine ⟨fun _ => ?_, fun h => absurd h (by decide)⟩
        conv => whnf
        first | refine xretk (shab_spec (n := 55) (by decide)) ?_ | refine xret (shab_spec (n := 55) (by decide)) ?_
        conv => whnf
        refine ⟨fun _ => ?_, fun h => absurd h (by decide)⟩
        conv => whnf
        first | refine xretk (shab_spec (n := 56) (by decide)) ?_ | refine xret (shab_spec (n := 56) (by decide)) ?_
        conv => whnf
        rfl
    · conv => whnf
      refine .mk _ (conv_spec (b := b4) (l := [98, 99]) (by first | exact Mem.set_same .. | simp [Mem.set, hne, Ne.symm hne])) ?_
      rintro _ _ ⟨rfl, rfl⟩
      conv => whnf
      first | refine ⟨fun _ h => (by cases h), ?_⟩ | skip
      conv => whnf
      refine .mk _ (build1) ?_
      rintro _ _ ⟨b3, hb3, rfl, rfl⟩
      conv => whnf
      first | refine ⟨fun _ h => (by cases h), ?_⟩ | skip
      conv => whnf
      have hne : b4 ≠ b3 := by rintro rfl; first | simp [Mem.set] at hb4; done | simp [Mem.set] at hb3; done
      have hne' : b3 ≠ b4 := Ne.symm hne
      refine .mk _ (conv_spec (b := b3) (l := [97]) (by first | exact Mem.set_same .. | simp [Mem.set, hne, Ne.symm hne])) ?_
      rintro _ _ ⟨rfl, rfl⟩
      conv => whnf
      first | refine ⟨fun _ h => (by cases h), ?_⟩ | skip
      conv => whnf
      refine .mk _ (buildL2) ?_
      rintro _ _ ⟨b5, hb5, rfl, rfl⟩
      conv => whnf
      first | refine ⟨fun _ h => (by cases h), ?_⟩ | skip
      conv => whnf
      have g3 := Mem.sub_set (.cells #[.slice (some ⟨b3, 0, none⟩) 1 1, .slice (some ⟨b4, 0, none⟩) 2 2] 22) hb5 b3 (.cells (bc [97]).toArray 5 (1, 2)) (by first | exact Mem.set_same .. | exact (Mem.set_ne _ _ hne').trans (Mem.set_same ..) | exact (Mem.set_ne _ _ hne').trans ((Mem.set_ne _ _ hne').trans (Mem.set_same ..)))
      have g4 := Mem.sub_set (.cells #[.slice (some ⟨b3, 0, none⟩) 1 1, .slice (some ⟨b4, 0, none⟩) 2 2] 22) hb5 b4 (.cells (bc [98, 99]).toArray 5 (2, 3)) (by first | exact Mem.set_same .. | exact (Mem.set_ne _ _ hne).trans (Mem.set_same ..) | exact (Mem.set_ne _ _ hne).trans ((Mem.set_ne _ _ hne).trans (Mem.set_same ..)))
      refine xcall (sum_abc (Lists.two (Mem.set_same ..) (Lb.blkf (l := [97]) g3 rfl).la (Lb.blkf (l := [98, 99]) g4 rfl).la) rfl (by simp)) ?_
      rintro _ m2 ⟨rfl, hs2⟩
      conv => whnf
      first | refine ⟨fun _ h => (by cases h), ?_⟩ | skip
      conv => whnf
      refine ⟨fun _ => ?_, fun h => absurd h (by decide)⟩
      conv => whnf
      refine .mk _ (build3) ?_
      rintro _ _ ⟨b6, hb6, rfl, rfl⟩
      conv => whnf
      first | refine ⟨fun _ h => (by cases h), ?_⟩ | skip
      conv => whnf
      refine .mk _ (conv_spec (b := b6) (l := [97, 98, 99]) (Mem.set_same ..)) ?_
      rintro _ _ ⟨rfl, rfl⟩
      conv => whnf
      first | refine ⟨fun _ h => (by cases h), ?_⟩ | skip
      conv => whnf
      refine xcall (point_abc (Lb.blkf (l := [97, 98, 99]) (fr := (3, 4)) (Mem.set_same ..) rfl).la) ?_
      rintro _ m3 ⟨rfl, hs3⟩
      conv => whnf
      first | refine ⟨fun _ h => (by cases h), ?_⟩ | skip
      conv => whnf
      refine ⟨fun _ => ?_, fun h => absurd h (by decide)⟩
      conv => whnf
      first | refine xretk (shab_spec (n := 55) (by decide)) ?_ | refine xret (shab_spec (n := 55) (by decide)) ?_
      conv => whnf
      refine ⟨fun _ => ?_, fun h => absurd h (by decide)⟩
      conv => whnf
      first | refine xretk (shab_spec (n := 56) (by decide)) ?_ | refine xret (shab_spec (n := 56) (by decide)) ?_
      conv => whnf
      rfl
end Go.E.Ytodgjanekjefbaa
