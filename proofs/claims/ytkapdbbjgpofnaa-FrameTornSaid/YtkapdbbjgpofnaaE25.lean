/-
  More operations: how much room there is; new room.
-/
import Derived.Test.YtkapdbbjgpofnaaE23
import Derived.Lib.AppendZerosOnto
namespace Go.E
section
variable {P : Program} {T : Tab}
theorem cap_spec (hT : TabOk P T) {t e : TypeId} {ti : TI} (ht : T t = some ti) (hk : ti.k = .slice e) {m : Mem} {a : Option Addr} {n c : Nat} :
    PrimSpec P (.builtin .cap [t]) [.v (.slice a n c)] m fun r m' => r = [.v (.int .i64 c)] ∧ m = m' := by
  intro _ ty W hW
  refine ⟨[.v (.int .i64 c)], m, W, ?_, ?_, ⟨rfl, rfl⟩, After.refl hW⟩
  · simp [Prim.run, CV.val, resVal, Builtin.cap_, run_underlying ((hT t ti ht).slice hk)]; rfl
  · intro x hx; simp at hx; subst hx; rfl
theorem makeFunc_spec {f : FuncId} {n : Nat} {cs : List Value} {m : Mem} (hone : ∀ x ∈ cs, x.oneCell' = true) :
    PrimSpec P (.makeFunc (.func f) n) (cs.map CV.v) m fun r m' => r = [.v (.func (.func f) (cs.take n).toArray (cs.drop n).toArray)] ∧ m = m' := by
  intro _ ty W hW
  refine ⟨[.v (.func (.func f) (cs.take n).toArray (cs.drop n).toArray)], m, W, ?_, ?_, ⟨rfl, rfl⟩, After.refl hW⟩
  · simp [Prim.run, CV.val, resVal, Instr.makeFunc, List.map_map, Function.comp_def]
  · intro x hx; simp at hx; subst hx; rfl
theorem int_desc {d : TypeDesc} {k : IntKind} (h : TK.of d = .int k) : d = .int k := by
  cases d <;> simp [TK.of] at h; subst h; rfl
/-- append of k zeros, where there is no room for them: a new row -/
theorem appendZeros_spec (hT : TabOk P T) {t e tn : TypeId} {ti ei ni : TI} {kn : IntKind} (ht : T t = some ti) (hk : ti.k = .slice e) (he : T e = some ei) (hn : T tn = some ni) (hkn : ni.k = .int kn) (hpos : 0 < ei.size) {m : Mem} {v : Value} {a : Option Addr} {n c k : Nat} {l : List Value}
    (hv : v = .slice a n c) (hl : Lies m ei.size v l) (h0 : 0 < k) (hg : c < n + k) (hb : (2 * (n + k) + 768) * ei.bytes ≤ 281474976710656) (hb1 : n + k ≤ 9223372036854775807) :
    PrimSpec P (.builtin .append [t, tn]) [.v v, .v (.int .i64 k)] m fun r m' => ∃ b C, m b = none ∧ n + k ≤ C ∧ r = [.v (.slice (some ⟨b, 0, none⟩) (n + k) C)] ∧
      m' = m.set b (.cells (l.toArray ++ Builtin.zeroCells (LB.cells ei.zero).toArray k ++ Builtin.zeroCells (LB.cells ei.zero).toArray (C - (n + k))) e) := by
  intro _ ty W hW
  subst hv
  obtain ⟨j, hj, hjs, hjb, z, hjz, hzc⟩ := (hT e ei he).inf
  have hsl := (hT t ti ht).slice hk
  obtain ⟨d, h1, h2⟩ := (hT tn ni hn).desc
  rw [hkn] at h2
  have hd := int_desc h2
  subst hd
  have hold : (Builtin.firstCells j.size n (.slice a n c)).run P W.drew = .ok l.toArray W.drew := by
    rw [hjs]
    rcases hl with ⟨c', e', rfl⟩ | ⟨b, o, c', n', arr, t', fr, e', g1, g2, _, g3, g4⟩
    · cases e'; simp [Builtin.firstCells]
    · cases e'
      refine run_firstCells_some W.drew ei.size n _ n c l g2 (fun i u hu => ?_)
      rw [add_none]
      have hW1 : W.drew.heap[b]? = some (.cells arr t' fr) := hW _ _ g1
      rw [cell_at hW1]
      exact g3 i u hu
  have hbk : k * ei.bytes ≤ 281474976710656 := Nat.le_trans (Nat.mul_le_mul_right _ (by omega)) hb
  have hrun := Lib.run_append_grow_zeros W t tn ty e j z .i64 kn hsl h1 hj hjz a n c l hold k h0 (by omega) hg (by omega) (by rw [hjb]; exact hbk) (by rw [hjb]; exact Nat.le_trans (Nat.mul_le_mul_right _ (nextcap_le hg)) hb)
  have hcap := grownCap_ge W (n + k) c e
  generalize grownCap W (n + k) c e = C at hrun hcap
  rw [hzc] at hrun
  exact ⟨[.v (.slice (some ⟨W.heap.size, 0, none⟩) (n + k) C)], _, _, hrun, (by intro y hy; simp at hy; subst hy; rfl), ⟨W.heap.size, C, hW.none (Nat.le_refl _), hcap, rfl, rfl⟩, (After.refl hW).drew.alloc _⟩
end
end Go.E
