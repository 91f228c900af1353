/-
  Law ShaBlocks.
-/
import Derived.Test.YtodgjanekjefbaaSha8
namespace Go.E.Ytodgjanekjefbaa
open Go.Proofs
set_option maxRecDepth 100000
theorem alive_in {m : Mem} : Spec Try.prog 7 [] m fun r m' => r = [boolV true] ∧ Sub m m' :=
  (alive_spec.new (Split.one m)).mono fun _ _ ⟨p, h1, h2⟩ => ⟨h1, h2.sub (by simp)⟩
theorem shaBlocks_spec {m : Mem} {n : Int} (hn : -9223372036854775808 ≤ n ∧ n ≤ 9223372036854775807) : Spec Try.prog 4 [i64 n] m fun r m' => r = [boolV true] ∧ Sub m m' := by
  refine en4 rfl (goY ?_)
  conv => whnf
  refine xcall (alive_in) ?_
  rintro _ m1 ⟨rfl, hs⟩
  conv => whnf
  refine ⟨fun _ => ?_, fun h => absurd h (by decide)⟩
  conv => whnf
  first | refine xretk (shab_spec hn) ?_ | refine xret (shab_spec hn) ?_
  conv => whnf
  first | refine xretk (refb_spec hn) ?_ | refine xret (refb_spec hn) ?_
  conv => whnf
  exact ⟨by simp, hs⟩
end Go.E.Ytodgjanekjefbaa
