/-
  More operations: copy.
-/
import Derived.Test.YtkapdbbjgpofnaaE22
import Derived.Laws.CopyRow
namespace Go.E
section
variable {P : Program} {T : Tab}
theorem Mem.set_same_eq {m : Mem} {b : Nat} {o : Obj} (h : m b = some o) : m.set b o = m := by
  funext x; by_cases e : x = b
  · subst e; rw [Mem.set_same, h]
  · rw [Mem.set_ne _ _ e]
/-- copy of cells that are one each -/
theorem copy1_spec (hT : TabOk P T) {t e tx : TypeId} {ti ei : TI} (ht : T t = some ti) (hk : ti.k = .slice e) (he : T e = some ei) (hz : ei.size = 1) {m : Mem} {b o n c : Nat} {arr : Array Value} {te : TypeId} (hb : m b = some (.cells arr te)) (hfit : o + n ≤ arr.size)
    {x : Value} {news : List Value} (hx : Lies m 1 x news) :
    PrimSpec P (.builtin .copy [t, tx]) [.v (.slice (some ⟨b, o, none⟩) n c), .v x] m fun r m' => r = [.v (.int .i64 ((min news.length n : Nat) : Int))] ∧ m' = m.set b (.cells (arr.toList.take o ++ news.take n ++ arr.toList.drop (o + (news.take n).length)).toArray te) := by
  intro hok ty W hW
  obtain ⟨j, hj, hjs, _⟩ := (hT e ei he).inf
  have hu := (hT t ti ht).slice hk
  have hWb := hW _ _ hb
  rcases hx with ⟨c', rfl, rfl⟩ | ⟨b', o', c', n', arr', t', fr', rfl, h1, h2, h3, h4, h5⟩
  · refine ⟨_, _, W, ?_, ?_, ⟨rfl, rfl⟩, ?_⟩
    · simp [Prim.run, CV.val, resVal, Builtin.copy_, run_underlying hu, Builtin.lenOf, Builtin.firstCells, sizeOf, typeInfo, hj, storeCells]
      rfl
    · intro y hy; simp at hy; subst hy; rfl
    · simp only [List.take_nil, List.append_nil, List.length_nil, Nat.add_zero, List.take_append_drop, Array.toArray_toList]
      rw [Mem.set_same_eq hb]
      exact After.refl hW
  · have hln : n' = news.length := by omega
    subst hln
    have hr := run_copy_row (P := P) W t tx ty e b o n c ⟨b', o', none⟩ news.length c' arr te (news.take n) hu (by rw [hj]; simp [hjs, hz]) hWb (by simp [Nat.min_comm]) (fun j v hv => by
      rw [add_none, cell_at (hW _ _ h1)]
      refine h4 j v ?_
      have hl := (List.getElem?_eq_some_iff.1 hv).1
      simp only [List.length_take] at hl
      rw [List.getElem?_take, if_pos (by omega)] at hv
      exact hv) (by simp; omega) (fun v hv => h5 v (List.mem_of_mem_take hv))
    refine ⟨_, _, _, ?_, ?_, ⟨rfl, rfl⟩, (After.refl hW).setRow hb _⟩
    · simp only [Prim.run, List.map_cons, List.map_nil, CV.val, resVal]
      refine hr.trans ?_
      simp only [List.length_take, Nat.min_comm]
      rfl
    · intro y hy; simp at hy; subst hy; rfl
end
end Go.E
