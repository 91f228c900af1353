/-
  More operations: the bytes of a text that is no constant.
-/
import Derived.Test.YtmfjdgdiccfecaaE25
import Derived.Lib.ConvBytes
namespace Go.E
/-- the bytes of a text, as numbers -/
def chs (s : ByteArray) : List Nat := s.data.toList.map UInt8.toNat
theorem chs_len (s : ByteArray) : (chs s).length = s.size := by simp [chs]
theorem chs_lt (s : ByteArray) : ∀ x ∈ chs s, x < 256 := by
  intro x hx
  simp only [chs, List.mem_map] at hx
  obtain ⟨a, _, rfl⟩ := hx
  exact a.toNat_lt
section
variable {P : Program} {T : Tab}
theorem convStr_spec (hT : TabOk P T) {t t' e : TypeId} {ti' ti ei : TI} (ht' : T t' = some ti') (ht : T t = some ti) (hk : ti.k = .slice e) (he : T e = some ei) (hek : ei.k = .int .u8) {m : Mem} {s : ByteArray} :
    PrimSpec P (.conv t' t) [.v (.string s)] m fun r m' => ∃ b c o, m b = none ∧ r = [.v (.slice (some ⟨b, 0, none⟩) s.size c)] ∧ m' = m.set b o ∧ Lb m' (.slice (some ⟨b, 0, none⟩) s.size c) ((chs s).map fun (n : Nat) => (n : Int)) := by
  intro hok ty W hW
  have hu := (hT t ti ht).slice hk
  have hue : P.underlying e = some (.int .u8) := by
    obtain ⟨d, h1, h2⟩ := (hT e ei he).desc
    rw [hek] at h2
    cases d <;> simp [TK.of] at h2
    rw [h1, h2]
  obtain ⟨d', hs, _⟩ := (hT t' ti' ht').desc
  have hr := Lib.run_convert_string_bytes (P := P) W t' t e s hs hu hue
  have hsz := Lib.bytesWorld_size W e s
  refine ⟨_, m.set W.heap.size (.cells (Lib.bytesCells W e s) e ((Lib.bytesCells W e s).size, (Lib.bytesCells W e s).size + 1)), Lib.bytesWorld W e s, ?_, ?_, ⟨W.heap.size, grownCap W s.size 0 e, _, hW.none (Nat.le_refl _), rfl, rfl, ?_⟩, ?_⟩
  · simpa [Prim.run, resVal, CV.val] using hr
  · intro x hx
    simp at hx; subst hx; rfl
  · have hcap := grownCap_ge W s.size 0 e
    refine Lb.mk (Mem.set_same ..) (by simp [chs]) hcap (fun j n hj => ?_)
    rw [List.getElem?_map] at hj
    obtain ⟨x, hx, rfl⟩ := Option.map_eq_some_iff.1 hj
    simp only [chs, List.getElem?_map] at hx
    obtain ⟨y, hy, rfl⟩ := Option.map_eq_some_iff.1 hx
    have hl := (List.getElem?_eq_some_iff.1 hy).1
    rw [Nat.zero_add, Lib.bytesCells, Array.getElem?_append_left (by simpa using hl), Array.getElem?_map]
    rw [← Array.getElem?_toList, hy]; rfl
  · refine ⟨?_, by rw [hsz]; omega, rfl, rfl, rfl, ?_⟩
    · intro x u hx
      by_cases ex : x = W.heap.size
      · subst ex; rw [Mem.set_same] at hx; cases hx; exact Lib.bytesWorld_at_new W e s
      · rw [Mem.set_ne _ _ ex] at hx
        rw [Lib.bytesWorld_at_old W e s x (hW.lt hx)]; exact hW _ _ hx
    · intro x hx hm
      exact ⟨by rw [Mem.set_ne _ _ (by omega)]; exact hm, Lib.bytesWorld_at_old W e s x hx⟩
end
end Go.E
