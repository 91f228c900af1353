/-
  Door
-/
import Derived.Test.YtgjlajcebcmbaaaGreatDoorSnapNamesZ11
import Derived.Test.YtgjlajcebcmbaaaGreatDoorCards
import Derived.Lay
import Derived.OpenShut
import Derived.LaidLaws
import Derived.MakeChecks
/-
  What the listed package variables hold, out of what the row says of them.
-/
namespace Go.E
theorem trod_ints {H : Type} {enc : TypeId × Value → H} {P : Program} {w : World} {base : Nat} {spare : Nat → Bool} {held : Bool} {fuel : Nat} {t e : TypeId} {cs : List Value} {n : Nat} {k : IntKind} {zs : List Int} {p : List MemPlace} (ht : P.underlying t = some (.array n e)) (he : P.underlying e = some (.int k)) (hc : P.cellsOf e = 1) (hct : P.cellsOf t = n)
    (h : DataW.trod enc P w base spare held fuel t cs = some (.agg (zs.map fun z => .lit (.int k z)), p)) : cs = zs.map fun z => Value.int k z := by
  obtain ⟨xs, m, _, ex, hl, hn, hel⟩ := DataW.trod_array ht h
  rw [hct] at hl
  have e1 : xs.map (·.1) = zs.map fun z => .lit (.int k z) := (DataW.agg.inj (Prod.mk.inj ex).1).symm
  have hz : zs.length = n := by have := congrArg List.length e1; simp at this; omega
  refine List.ext_getElem? fun i => ?_
  by_cases hi : i < n
  · have h1 := hel i hi
    rw [hc, Nat.mul_one, List.getElem?_eq_getElem (by omega)] at h1
    obtain ⟨z, f1, f2, _⟩ := DataW.trod_int he h1
    have e4 : (xs.map (·.1))[i]? = (zs.map fun z => (DataW.lit (.int k z) : DataW H))[i]? := by rw [e1]
    rw [List.getElem?_map, List.getElem?_map, List.getElem?_eq_getElem (by omega : i < xs.length), List.getElem?_eq_getElem (by omega : i < zs.length), f2] at e4
    have hzz : z = zs[i] := by simpa using e4
    have h0 : ((cs.drop i).take 1)[0]? = some (.int k z) := by rw [f1]; rfl
    rw [List.getElem?_map, List.getElem?_eq_getElem (by omega : i < zs.length), ← hzz]
    simpa using h0
  · rw [List.getElem?_eq_none (by omega), List.getElem?_eq_none (by simp; omega)]
theorem trod_iface {H : Type} {enc : TypeId × Value → H} {P : Program} {w : World} {base : Nat} {spare : Nat → Bool} {fuel : Nat} {t : TypeId} {cs : List Value} {ms : _} {name : String} {d : DataW H} {p : List MemPlace} (ht : P.underlying t = some (.interface ms))
    (h : DataW.trod enc P w base spare false fuel t cs = some (.iface name d, p)) : ∃ u v, cs = [.iface u v] := by
  cases fuel with
  | zero => simp [DataW.trod] at h
  | succ m =>
    unfold DataW.trod at h
    rw [ht] at h
    split at h <;> simp_all
theorem var_heap {P : Program} {W : World} {name : String} {g : Nat} {cs : Array Value} (hg : P.globalNamed name = some g) (h : W.var? P name = some cs) : ∃ T fr, W.heap[g]? = some (.cells cs T fr) := by
  unfold World.var? at h
  rw [hg] at h
  simp only [Option.bind_some] at h
  split at h
  · rename_i arr T fr hb
    injection h with h; subst h
    exact ⟨T, fr, hb⟩
  · cases h
end Go.E
namespace Go.E.YtgjlajcebcmbaaaGreatDoor
open Go.Proofs
set_option maxRecDepth 100000
theorem glob_met {W : World} (h : laidMetH Tryz.prog [("math/bits.deBruijn32tab", Go.Proofs.YtgjlajcebcmbaaaGreatDoor.Rows.laid_math_bits_deBruijn32tab), ("math/bits.deBruijn64tab", Go.Proofs.YtgjlajcebcmbaaaGreatDoor.Rows.laid_math_bits_deBruijn64tab), ("internal/strconv.uint64pow10", Go.Proofs.YtgjlajcebcmbaaaGreatDoor.Rows.laid_internal_strconv_uint64pow10), ("strconv.ErrRange", Go.Proofs.YtgjlajcebcmbaaaGreatDoor.Rows.laid_strconv_ErrRange), ("strconv.ErrSyntax", Go.Proofs.YtgjlajcebcmbaaaGreatDoor.Rows.laid_strconv_ErrSyntax)] W) : Glob (fun b => W.heap[b]?) := by
  rw [MakeChecks.laidMetH_plain _ _ _ (by kernel_rfl)] at h
  obtain ⟨ps, hl, _, _⟩ := h
  obtain ⟨g1, t1, c1, f1, p1, q1, hg1, ht1, hv1, hd1, hl, _⟩ := hl
  obtain ⟨g2, t2, c2, f2, p2, q2, hg2, ht2, hv2, hd2, hl, _⟩ := hl
  obtain ⟨g3, t3, c3, f3, p3, q3, hg3, ht3, hv3, hd3, hl, _⟩ := hl
  obtain ⟨g4, t4, c4, f4, p4, q4, hg4, ht4, hv4, hd4, hl, _⟩ := hl
  obtain ⟨g5, t5, c5, f5, p5, q5, hg5, ht5, hv5, hd5, hl, _⟩ := hl
  obtain rfl := Option.some.inj (gTab.symm.trans hg3)
  obtain rfl := Option.some.inj (gRng.symm.trans hg4)
  obtain rfl := Option.some.inj (gSyn.symm.trans hg5)
  obtain ⟨T3, r3, hh3⟩ := var_heap hg3 hv3
  obtain ⟨T4, r4, hh4⟩ := var_heap hg4 hv4
  obtain ⟨T5, r5, hh5⟩ := var_heap hg5 hv5
  obtain rfl := Option.some.inj ((show (Tryz.prog.globals[2]?).map (·.type) = some 199 by kernel_rfl).symm.trans ht3)
  obtain rfl := Option.some.inj ((show (Tryz.prog.globals[1]?).map (·.type) = some 80 by kernel_rfl).symm.trans ht4)
  obtain rfl := Option.some.inj ((show (Tryz.prog.globals[0]?).map (·.type) = some 80 by kernel_rfl).symm.trans ht5)
  have k3 := trod_ints (zs := Lib.pow10Tab) Tryz.underlying199 Tryz.underlying57 (by kernel_rfl) (by kernel_rfl) hd3
  obtain ⟨u4, w4, k4⟩ := trod_iface Tryz.underlying80 hd4
  obtain ⟨u5, w5, k5⟩ := trod_iface Tryz.underlying80 hd5
  refine ⟨⟨u5, w5, T5, r5, ?_⟩, ⟨u4, w4, T4, r4, ?_⟩, ⟨T3, r3, ?_⟩⟩
  · rw [hh5, ← Array.toArray_toList (xs := c5), k5]
  · rw [hh4, ← Array.toArray_toList (xs := c4), k4]
  · rw [hh3, ← Array.toArray_toList (xs := c3), k3]
end Go.E.YtgjlajcebcmbaaaGreatDoor
