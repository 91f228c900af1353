/-
  Bytes that are arguments.
-/
import Derived.Test.YtkapdbbjgpofnaaE24
import Derived.Test.YtkapdbbjgpofnaaWireQ
import Derived.Test.YtkapdbbjgpofnaaE22
namespace Go.E
theorem dat_la {m : Mem} {cs : List Value} (h : Dat m (.slice (.int .u8)) cs) : ∃ v l, cs = [v] ∧ La m v l ∧ Byt l ∧ l.length ≤ maxLen := by
  obtain ⟨v, l, rfl, h1, h2, h3, h4⟩ := dat_sints h
  exact ⟨v, l, rfl, h1, fun x hx => wf_u8 (h3 x hx), h4⟩
end Go.E
