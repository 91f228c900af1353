/-
  Proved: for every input the law 'WalkBounds' returns true, and each argument reads behind the call as it read before. No condition.
-/
import Derived.Test.YtjmjikemaafnjaaWalkBoundsZ8
import Derived.Test.YtjmjikemaafnjaaRows
import Derived.WalkKit
import Derived.ProofKit
import Derived.OpenShut
namespace Go.Proofs.Ytjmjikemaafnjaa.walkBounds
open Go.ChangeShapes Go.WideShapes Go.ChangeAt Go.RowKit
set_option linter.unusedVariables false

theorem own : ownKnob Try.prog.godebug = none := by kernel_rfl
theorem laidOut : laidOutB Try.prog = true := by kernel_rfl

set_option maxRecDepth 100000 in
theorem contract (H : Type) (enc : TypeId × Value → H) (W : World) (base : Nat) (args : Array Value) (ds gs : List (DataW H)) (before : List MemPlace)
    (hval : ∀ (j : Nat) t v, Try.f5.params[j]? = some t → args[j]? = some v → Value.okWide Try.prog W .any base t v)
    (hW : DataW.Whole enc Try.prog Try.f5.params.toList Rows.walkBoundsSpec.vars false W args.toList ds gs before) :
    Calls Try.prog 5 args W fun e W' => ∃ v, e = .returned v ∧ Rows.walkBoundsSpec.post enc Try.prog Try.f5 false true false false W args v W' := by
  have hW' := hW
  obtain ⟨p, q, hA0, hV, rfl, hfz, hnd⟩ := hW
  have hA : DataW.TrodAll enc Try.prog W 0 (fun _ => true) true Try.f5.params.toList args.toList ds p := hA0
  rw [Try.params5] at hA hval
  obtain ⟨v0, vs0, d0, ds0, p0, q0, hargs, rfl, rfl, h0, r0⟩ := trodAll_cons hA
  obtain ⟨v1, vs1, d1, ds1, p1, q1, rfl, rfl, rfl, h1, r1⟩ := trodAll_cons r0
  obtain ⟨rfl, rfl, rfl⟩ := trodAll_nil r1
  obtain rfl : args = #[v0, v1] := by cases args; simp_all
  obtain ⟨rfl, rfl⟩ := trodVars_none hV
  have D0 := E.open_dat (fun _ => rfl) (sh := (.rep 16 (.slice (.int .u8)))) (by kernel_rfl) h0
  have D1 := E.open_dat (fun _ => rfl) (sh := (.rep 16 (.slice (.int .u8)))) (by kernel_rfl) h1
  have g0 : v0 = .agg (v0.cells.toList ++ []).toArray := E.Ytjmjikemaafnjaa.val_agg Try.underlying47 (hval 0 _ _ rfl rfl)
  have g1 : v1 = .agg (v1.cells.toList ++ []).toArray := E.Ytjmjikemaafnjaa.val_agg Try.underlying47 (hval 1 _ _ rfl rfl)
  obtain ⟨l0, hl0⟩ := E.Ytjmjikemaafnjaa.dat_t16 D0
  obtain ⟨l1, hl1⟩ := E.Ytjmjikemaafnjaa.dat_t16 D1
  generalize v0.cells.toList = w0 at g0 hl0
  generalize v1.cells.toList = w1 at g1 hl1
  subst g0
  subst g1
  have o0 : E.CV.ok (.a [.vals 16 w0]) := ⟨⟨hl0.vlen, hl0.one⟩, trivial⟩
  have o1 : E.CV.ok (.a [.vals 16 w1]) := ⟨⟨hl1.vlen, hl1.one⟩, trivial⟩
  refine (E.Spec.law W (args := [(.a [.vals 16 w0]), (.a [.vals 16 w1])]) ?_ (E.Ytjmjikemaafnjaa.walkBounds_spec hl0 hl1)).mono fun e W' ⟨he, hg⟩ => ?_
  · intro x hx
    simp only [List.mem_cons, List.not_mem_nil, or_false] at hx
    rcases hx with rfl | rfl
    · first | exact o0 | rfl | trivial
    · first | exact o1 | rfl | trivial
  subst he
  exact ⟨_, rfl, E.lawPost laidOut rfl rfl (by kernel_rfl) Try.underlying4 (by kernel_rfl) hW' hg⟩

set_option maxRecDepth 100000 in
theorem lifted (os : Os) (started : os.Started) (H : Type) (enc : TypeId × Value → H) :
    ReturnsInHanded {} Try.checked os 5 .any (Rows.walkBoundsSpec.pre6 enc Try.prog Try.f5 Rows.walkBoundsRow.domain false) (Rows.walkBoundsSpec.post enc Try.prog Try.f5 false true false false) := by
  refine returnsInHanded_of_change (C := Try.checked) own started (by kernel_rfl) Try.func5
    (ChangeSpec.witness6 (enc := enc) (C := Try.checked) false ⟨#[], #[.agg (List.replicate 16 (.slice none 0 0)).toArray, .agg (List.replicate 16 (.slice none 0 0)).toArray], []⟩ 8 (by kernel_rfl) (by kernel_rfl) (by kernel_rfl) (by kernel_rfl)) ?_
  intro W base args ds gs before hval0 hW hcnd _
  exact contract H enc W base args ds gs before hval0 hW

theorem over : Rows.walkBoundsRow.holds Try.pinned (OpenSpec.ofChange Rows.walkBoundsSpec) :=
  OpenClaim.holds_of_wide 5 Try.f5 rfl rfl rfl rfl rfl rfl rfl ⟨rfl, rfl, rfl, rfl, rfl⟩ rfl rfl rfl rfl rfl (by kernel_rfl) Try.func5 (by kernel_rfl)
    (of_decide_eq_true (by kernel_rfl)) (by unfold Func.isWrapper; first | (rw [if_pos (by decide +kernel)]; kernel_rfl) | (rw [if_neg (by decide +kernel)]; exact ⟨rfl, rfl⟩))
    (fun os started H enc _ => lifted os started H enc)

theorem proved : Rows.WalkBoundsSaid :=
  over
#print axioms proved
end Go.Proofs.Ytjmjikemaafnjaa.walkBounds
