/-
  The digest of 'abc'; builds.
-/
import Derived.Test.YtmfjdgdiccfecaaSha7
import Derived.Test.YtmfjdgdiccfecaaE21
namespace Go.E.Ytmfjdgdiccfecaa
open Go.Proofs
set_option maxRecDepth 100000
theorem build2 {m : Mem} {x y : Int} : PrimSpec Try.prog (.buildSlice 33 2 [0, 1]) [.v (.int .u8 x), .v (.int .u8 y)] m fun r m' => ∃ b, m b = none ∧ r = [.v (.slice (some ⟨b, 0, none⟩) 2 2)] ∧ m' = m.set b (.cells (bc [x, y]).toArray 5) :=
  buildSlice_spec (n := 2) tt_ok hBs rfl hU8 rfl rfl (by simp [CV.cs]) (by simp) (by simp)
theorem build3 {m : Mem} {x y z : Int} : PrimSpec Try.prog (.buildSlice 33 3 [0, 1, 2]) [.v (.int .u8 x), .v (.int .u8 y), .v (.int .u8 z)] m fun r m' => ∃ b, m b = none ∧ r = [.v (.slice (some ⟨b, 0, none⟩) 3 3)] ∧ m' = m.set b (.cells (bc [x, y, z]).toArray 5) :=
  buildSlice_spec (n := 3) tt_ok hBs rfl hU8 rfl rfl (by simp [CV.cs]) (by simp) (by simp)
theorem abc_sum : Sha.sum [97, 98, 99] = [186, 120, 22, 191, 143, 1, 207, 234, 65, 65, 64, 222, 93, 174, 34, 35, 176, 3, 97, 163, 150, 23, 122, 156, 180, 16, 255, 97, 242, 0, 21, 173] := by
  rw [← Sha.sumK_eq]; decide +kernel
theorem Lists.one {m : Mem} {b : Nat} {v : Value} {l : List Int} {t : TypeId} {fr : Nat × Nat} (h : m b = some (.cells #[v] t fr)) (hl : La m v l) : Lists m (.slice (some ⟨b, 0, none⟩) 1 1) [(v, l)] :=
  Lists.blk (ps := [(v, l)]) h rfl (by simpa using hl)
theorem Lists.two {m : Mem} {b : Nat} {v w : Value} {l k : List Int} {t : TypeId} {fr : Nat × Nat} (h : m b = some (.cells #[v, w] t fr)) (hl : La m v l) (hk : La m w k) : Lists m (.slice (some ⟨b, 0, none⟩) 2 2) [(v, l), (w, k)] :=
  Lists.blk (ps := [(v, l), (w, k)]) h rfl (by simpa using ⟨hl, hk⟩)
def abcD : List Int := [186, 120, 22, 191, 143, 1, 207, 234, 65, 65, 64, 222, 93, 174, 34, 35, 176, 3, 97, 163, 150, 23, 122, 156, 180, 16, 255, 97, 242, 0, 21, 173]
theorem sum_abc {m : Mem} {v : Value} {ps : List (Value × List Int)} (h : Lists m v ps) (hcat : catB ps = [97, 98, 99]) (hn : ps.length ≤ 10000000) :
    Spec Try.prog 22 [.v v] m fun r m' => r = [.a [.ints .u8 32 [186, 120, 22, 191, 143, 1, 207, 234, 65, 65, 64, 222, 93, 174, 34, 35, 176, 3, 97, 163, 150, 23, 122, 156, 180, 16, 255, 97, 242, 0, 21, 173]]] ∧ Sub m m' := by
  refine (sum_spec (l := [97, 98, 99]) h hcat (by decide) hn (by decide)).mono ?_
  rintro r m' ⟨rfl, h⟩
  rw [abc_sum]
  exact ⟨rfl, h⟩
theorem conv_spec {m : Mem} {b n c : Nat} {l : List Int} (hb : m b = some (.cells (bc l).toArray 5)) : PrimSpec Try.prog (.conv 33 33) [.v (.slice (some ⟨b, 0, none⟩) n c)] m fun r m' => r = [.v (.slice (some ⟨b, 0, none⟩) n c)] ∧ m' = m.set b (.cells (bc l).toArray 5 ((bc l).toArray.size, (bc l).toArray.size + 1)) :=
  convConst_spec tt_ok hBs rfl hU8 rfl hb
theorem point_abc {m : Mem} {v : Value} (hv : La m v [97, 98, 99]) : Spec Try.prog 19 [.v v] m fun r m' => r = [.v (.int .u64 13436514500253700074)] ∧ Sub m m' := by
  refine (point_spec (l := [97, 98, 99]) hv (by decide) (by decide)).mono ?_
  rintro r m' ⟨rfl, h⟩
  have e : Sha.point [97, 98, 99] = 13436514500253700074 := by
    unfold Sha.point
    rw [abc_sum]; decide
  rw [e]
  exact ⟨rfl, h⟩
end Go.E.Ytmfjdgdiccfecaa
