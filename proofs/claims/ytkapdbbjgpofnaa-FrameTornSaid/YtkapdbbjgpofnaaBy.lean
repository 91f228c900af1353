/-
  Bytes: cloned.
-/
import Derived.Test.YtkapdbbjgpofnaaByB
namespace Go.E.Ytkapdbbjgpofnaa
open Go.Proofs
set_option maxRecDepth 100000
/-- Clone: new bytes -/
theorem clone_spec {m : Mem} {v : Value} {l : List Int} (hv : La m v l) (hb : l.length ≤ 100000000) :
    Spec Try.prog 21 [.v v] m fun r m' => ∃ v' p, r = [.v v'] ∧ Split m' [p, m] ∧ Bs p v' l := by
  have key : (∃ c, v = .slice none 0 c ∧ l = []) ∨ ∃ a c, v = .slice (some a) l.length c := by
    rcases hv with hv | ⟨rfl, a, rfl⟩
    · rcases hv.cases with ⟨c, rfl, rfl⟩ | ⟨b, o, c, arr, t, fr, rfl, _⟩
      · exact .inl ⟨c, rfl, rfl⟩
      · exact .inr ⟨_, _, rfl⟩
    · exact .inr ⟨_, _, rfl⟩
  rcases key with ⟨c, rfl, rfl⟩ | ⟨a, c, rfl⟩
  · refine en21 rfl (goY ?_)
    conv => whnf
    refine ⟨fun _ => ?_, fun h => absurd h (by decide)⟩
    conv => whnf
    exact ⟨_, emp, rfl, (Split.one m).addEmp, Bs.nil _⟩
  · refine en21 rfl (goY ?_)
    conv => whnf
    refine ⟨fun h => absurd h (by decide), fun _ => ?_⟩
    conv => whnf
    refine .mk _ (buildSlice0_spec tt_ok hBs rfl hU8) ?_
    rintro _ _ ⟨b', hb', rfl, rfl⟩
    conv => whnf
    refine .mk _ (appendBat (i := 0) ((Split.one m).new hb' _) rfl (Bs.blk (l := []) (blk1_same ..) rfl) (hv.sub (Mem.sub_set _ hb')) (by simp; omega)) ?_
    rintro _ m' ⟨v', p', rfl, h1, h2⟩
    conv => whnf
    exact ⟨v', p', rfl, h1, h2.own⟩
end Go.E.Ytkapdbbjgpofnaa
