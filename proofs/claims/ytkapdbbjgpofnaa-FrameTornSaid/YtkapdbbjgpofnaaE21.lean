/-
  More operations: bytes of a constant text; copies.
-/
import Derived.Test.YtkapdbbjgpofnaaE20
namespace Go.E
section
variable {P : Program} {T : Tab}
theorem After.setObj {m : Mem} {W : World} (hW : Over m W) {b : Nat} {o : Obj} (hb : m b = some o) {o' : Obj} {h : Array Obj} (hs : h.size = W.heap.size) (h1 : h[b]? = some o') (h2 : ∀ x, x ≠ b → h[x]? = W.heap[x]?) :
    After m W (m.set b o') { W with heap := h } := by
  refine ⟨fun x u hx => ?_, by show W.heap.size ≤ h.size; omega, rfl, rfl, rfl, fun x hx hm => ?_⟩
  · by_cases e : x = b
    · subst e; rw [Mem.set_same] at hx; cases hx; exact h1
    · rw [Mem.set_ne _ _ e] at hx; exact (h2 x e).trans (hW x u hx)
  · have e : x ≠ b := fun e => by subst e; rw [hb] at hm; cases hm
    exact ⟨by rw [Mem.set_ne _ _ e]; exact hm, h2 x e⟩
/-- the bytes of a constant text: a row that was laid, marked -/
theorem convConst_spec (hT : TabOk P T) {t e : TypeId} {ti ei : TI} (ht : T t = some ti) (hk : ti.k = .slice e) (he : T e = some ei) (hek : ei.k = .int .u8) {m : Mem} {b n c : Nat} {C : Array Value} (hb : m b = some (.cells C e)) :
    PrimSpec P (.conv t t) [.v (.slice (some ⟨b, 0, none⟩) n c)] m fun r m' => r = [.v (.slice (some ⟨b, 0, none⟩) n c)] ∧ m' = m.set b (.cells C e (C.size, C.size + 1)) := by
  intro hok ty W hW
  have hu := (hT t ti ht).slice hk
  have hue : P.underlying e = some (.int .u8) := by
    obtain ⟨d, h1, h2⟩ := (hT e ei he).desc
    rw [hek] at h2
    cases d <;> simp [TK.of] at h2
    rw [h1, h2]
  have hWb := hW _ _ hb
  have hlt : b < W.heap.size := hW.lt hb
  have hsh : W.shape? b = some (e, C.size) := by unfold World.shape?; rw [hWb]
  refine ⟨_, _, W.freeze ⟨b, C.size, none⟩ 1, ?_, ?_, ⟨rfl, rfl⟩, ?_⟩
  · simp [Prim.run, resVal, CV.val, convert, run_underlying hu, run_underlying hue, markStringish, hsh]
  · intro x hx
    simp at hx; subst hx; rfl
  · unfold World.freeze
    rw [if_neg (by decide)]
    refine After.setObj hW hb (by simp) ?_ ?_
    · rw [Array.getElem?_modify]; simp [hWb]
    · intro x hx
      rw [Array.getElem?_modify]; simp [Ne.symm hx]
end
end Go.E
