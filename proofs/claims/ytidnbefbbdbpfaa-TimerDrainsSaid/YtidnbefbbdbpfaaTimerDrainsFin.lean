/-
  Proved: for every input the law 'TimerDrains' returns true, and each argument reads behind the call as it read before. No condition.
-/
import Derived.Test.YtidnbefbbdbpfaaTimerDrainsZ7
import Derived.Test.YtidnbefbbdbpfaaRows
import Derived.WalkKit
import Derived.ProofKit
import Derived.OpenShut
namespace Go.Proofs.Ytidnbefbbdbpfaa.timerDrains
open Go.ChangeShapes Go.WideShapes Go.ChangeAt Go.RowKit
set_option linter.unusedVariables false

theorem own : ownKnob Try.prog.godebug = none := by kernel_rfl
theorem laidOut : laidOutB Try.prog = true := by kernel_rfl

set_option maxRecDepth 100000 in
theorem contract (H : Type) (enc : TypeId × Value → H) (W : World) (base : Nat) (args : Array Value) (ds gs : List (DataW H)) (before : List MemPlace)
    (hval : ∀ (j : Nat) t v, Try.f5.params[j]? = some t → args[j]? = some v → Value.okWide Try.prog W .any base t v)
    (hW : DataW.Whole enc Try.prog Try.f5.params.toList Rows.timerDrainsSpec.vars false W args.toList ds gs before) :
    Calls Try.prog 5 args W fun e W' => ∃ v, e = .returned v ∧ Rows.timerDrainsSpec.post enc Try.prog Try.f5 false true false false W args v W' := by
  have hW' := hW
  obtain ⟨p, q, hA0, hV, rfl, hfz, hnd⟩ := hW
  have hA : DataW.TrodAll enc Try.prog W 0 (fun _ => true) true Try.f5.params.toList args.toList ds p := hA0
  rw [Try.params5] at hA hval
  obtain ⟨v0, vs0, d0, ds0, p0, q0, hargs, rfl, rfl, h0, r0⟩ := trodAll_cons hA
  obtain ⟨rfl, rfl, rfl⟩ := trodAll_nil r0
  obtain rfl : args = #[v0] := by cases args; simp_all
  obtain ⟨rfl, rfl⟩ := trodVars_none hV
  have D0 := E.open_dat (fun _ => rfl) (sh := (.slice (.pair (.int .i64) (.pair (.int .i64) .unit)))) (by kernel_rfl) h0
  obtain ⟨c0, o0⟩ := E.val_slice (v := v0) Try.underlying22 (hval 0 _ _ rfl rfl)
  rw [c0] at D0
  obtain ⟨w0, l0, e0, hl0⟩ := E.Ytidnbefbbdbpfaa.dat_ents D0
  simp only [List.cons.injEq, and_true] at e0
  subst e0
  refine (E.Spec.law W (args := [(.v v0)]) ?_ (E.Ytidnbefbbdbpfaa.timerDrains_spec hl0)).mono fun e W' ⟨he, hg⟩ => ?_
  · intro x hx
    simp only [List.mem_cons, List.not_mem_nil, or_false] at hx
    rcases hx with rfl
    · first | exact o0 | rfl | trivial
  subst he
  exact ⟨_, rfl, E.lawPost laidOut rfl rfl (by kernel_rfl) Try.underlying4 (by kernel_rfl) hW' hg⟩

set_option maxRecDepth 100000 in
theorem lifted (os : Os) (started : os.Started) (H : Type) (enc : TypeId × Value → H) :
    ReturnsInHanded {} Try.checked os 5 .any (Rows.timerDrainsSpec.pre6 enc Try.prog Try.f5 Rows.timerDrainsRow.domain false) (Rows.timerDrainsSpec.post enc Try.prog Try.f5 false true false false) := by
  refine returnsInHanded_of_change (C := Try.checked) own started (by kernel_rfl) Try.func5
    (ChangeSpec.witness6 (enc := enc) (C := Try.checked) false ⟨#[], #[.slice none 0 0], []⟩ 8 (by kernel_rfl) (by kernel_rfl) (by kernel_rfl) (by kernel_rfl)) ?_
  intro W base args ds gs before hval0 hW hcnd _
  exact contract H enc W base args ds gs before hval0 hW

theorem over : Rows.timerDrainsRow.holds Try.pinned (OpenSpec.ofChange Rows.timerDrainsSpec) :=
  OpenClaim.holds_of_wide 5 Try.f5 rfl rfl rfl rfl rfl rfl rfl ⟨rfl, rfl, rfl, rfl, rfl⟩ rfl rfl rfl rfl rfl (by kernel_rfl) Try.func5 (by kernel_rfl)
    (of_decide_eq_true (by kernel_rfl)) (by unfold Func.isWrapper; first | (rw [if_pos (by decide +kernel)]; kernel_rfl) | (rw [if_neg (by decide +kernel)]; exact ⟨rfl, rfl⟩))
    (fun os started H enc _ => lifted os started H enc)

theorem proved : Rows.TimerDrainsSaid :=
  over
#print axioms proved
end Go.Proofs.Ytidnbefbbdbpfaa.timerDrains
