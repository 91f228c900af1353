/-
  Lists of bytes that are arguments.
-/
import Derived.Test.YtkapdbbjgpofnaaCat
import Derived.Test.YtkapdbbjgpofnaaByDat
namespace Go.E.Ytkapdbbjgpofnaa
open Go.Proofs
set_option maxRecDepth 100000
/-- a list of bytes; or none, wherever -/
def LsA (m : Mem) (v : Value) (ps : List (Value × List Int)) : Prop := Lists m v ps ∨ (ps = [] ∧ ∃ a, v = .slice (some a) 0 0)
theorem LsA.shape {m : Mem} {v : Value} {ps : List (Value × List Int)} (h : LsA m v ps) : ∃ a c, v = .slice a ps.length c := by
  rcases h with h | ⟨rfl, a, rfl⟩
  · exact h.shape
  · exact ⟨_, _, rfl⟩
theorem LsA.lists {m : Mem} {v : Value} {ps : List (Value × List Int)} (h : LsA m v ps) (hl : 0 < ps.length) : Lists m v ps := by
  rcases h with h | ⟨rfl, _⟩
  · exact h
  · simp at hl
theorem LsA.real {m : Mem} {v : Value} {ps : List (Value × List Int)} (h : LsA m v ps) {i : Nat} (hi : i < ps.length) : ∃ b o c, v = .slice (some ⟨b, o, none⟩) ps.length c ∧ ∀ (i : Nat) (hi : i < ps.length), mcell m b (o + i) = some ps[i].1 := (h.lists (by omega)).real hi
theorem LsA.la {m : Mem} {v : Value} {ps : List (Value × List Int)} (h : LsA m v ps) : ∀ p ∈ ps, La m p.1 p.2 := by
  rcases h with h | ⟨rfl, _⟩
  · exact h.la
  · simp
theorem dat_rows {m : Mem} : ∀ {els : List (List Value)}, (∀ c ∈ els, Dat m (.slice (.int .u8)) c) → ∃ ps : List (Value × List Int), els = ps.map (fun p => [p.1]) ∧ (∀ p ∈ ps, La m p.1 p.2) ∧ ∀ p ∈ ps, Byt p.2
  | [], _ => ⟨[], rfl, by simp, by simp⟩
  | c :: els, h => by
    obtain ⟨v, l, rfl, h1, h2, _⟩ := dat_la (h c (by simp))
    obtain ⟨ps, rfl, h3, h4⟩ := dat_rows (els := els) fun c hc => h c (by simp [hc])
    exact ⟨(v, l) :: ps, rfl, fun p hp => (List.mem_cons.1 hp).elim (fun e => e ▸ h1) (h3 p), fun p hp => (List.mem_cons.1 hp).elim (fun e => e ▸ h2) (h4 p)⟩
theorem dat_lists {m : Mem} {cs : List Value} (h : Dat m (.slice (.slice (.int .u8))) cs) : ∃ v ps, cs = [v] ∧ LsA m v ps ∧ (∀ p ∈ ps, Byt p.2) ∧ ps.length ≤ maxLen := by
  obtain ⟨v, els, rfl, h1, h2, h3, h4⟩ := h
  obtain ⟨ps, rfl, h5, h6⟩ := dat_rows h3
  refine ⟨v, ps, rfl, ?_, h6, by simpa using h4⟩
  rcases h1 with h1 | ⟨h1, a, rfl⟩
  · refine .inl ⟨?_, h5⟩
    have e : (ps.map fun p => [p.1]).flatten = ps.map (·.1) := by
      clear h1 h2 h3 h4 h5 h6
      induction ps with
      | nil => rfl
      | cons p ps ih => simp [ih]
    rw [e] at h1
    exact h1
  · exact .inr ⟨by simpa using h1, a, rfl⟩
end Go.E.Ytkapdbbjgpofnaa
