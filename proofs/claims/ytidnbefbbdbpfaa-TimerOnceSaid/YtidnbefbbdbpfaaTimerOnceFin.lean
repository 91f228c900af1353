/-
  Proved: for every input the law 'TimerOnce' returns true, and each argument reads behind the call as it read before. No condition.
-/
import Derived.Test.YtidnbefbbdbpfaaTimerOnceZ7
import Derived.Test.YtidnbefbbdbpfaaRows
import Derived.WalkKit
import Derived.ProofKit
import Derived.OpenShut
namespace Go.Proofs.Ytidnbefbbdbpfaa.timerOnce
open Go.ChangeShapes Go.WideShapes Go.ChangeAt Go.RowKit
set_option linter.unusedVariables false

theorem own : ownKnob Try.prog.godebug = none := by kernel_rfl
theorem laidOut : laidOutB Try.prog = true := by kernel_rfl

set_option maxRecDepth 100000 in
theorem contract (H : Type) (enc : TypeId × Value → H) (W : World) (base : Nat) (args : Array Value) (ds gs : List (DataW H)) (before : List MemPlace)
    (hval : ∀ (j : Nat) t v, Try.f4.params[j]? = some t → args[j]? = some v → Value.okWide Try.prog W .any base t v)
    (hW : DataW.Whole enc Try.prog Try.f4.params.toList Rows.timerOnceSpec.vars false W args.toList ds gs before) :
    Calls Try.prog 4 args W fun e W' => ∃ v, e = .returned v ∧ Rows.timerOnceSpec.post enc Try.prog Try.f4 false true false false W args v W' := by
  have hW' := hW
  obtain ⟨p, q, hA0, hV, rfl, hfz, hnd⟩ := hW
  have hA : DataW.TrodAll enc Try.prog W 0 (fun _ => true) true Try.f4.params.toList args.toList ds p := hA0
  rw [Try.params4] at hA hval
  obtain ⟨v0, vs0, d0, ds0, p0, q0, hargs, rfl, rfl, h0, r0⟩ := trodAll_cons hA
  obtain ⟨v1, vs1, d1, ds1, p1, q1, rfl, rfl, rfl, h1, r1⟩ := trodAll_cons r0
  obtain ⟨v2, vs2, d2, ds2, p2, q2, rfl, rfl, rfl, h2, r2⟩ := trodAll_cons r1
  obtain ⟨v3, vs3, d3, ds3, p3, q3, rfl, rfl, rfl, h3, r3⟩ := trodAll_cons r2
  obtain ⟨rfl, rfl, rfl⟩ := trodAll_nil r3
  obtain rfl : args = #[v0, v1, v2, v3] := by cases args; simp_all
  obtain ⟨rfl, rfl⟩ := trodVars_none hV
  have D0 := E.open_dat (fun _ => rfl) (sh := (.slice (.pair (.int .i64) (.pair (.int .i64) .unit)))) (by kernel_rfl) h0
  obtain ⟨c0, o0⟩ := E.val_slice (v := v0) Try.underlying22 (hval 0 _ _ rfl rfl)
  rw [c0] at D0
  have D1 := E.open_dat (fun _ => rfl) (sh := (.int .i64)) (by kernel_rfl) h1
  obtain ⟨c1, o1⟩ := E.val_int (v := v1) Try.underlying3 (hval 1 _ _ rfl rfl)
  rw [c1] at D1
  have D2 := E.open_dat (fun _ => rfl) (sh := (.int .i64)) (by kernel_rfl) h2
  obtain ⟨c2, o2⟩ := E.val_int (v := v2) Try.underlying3 (hval 2 _ _ rfl rfl)
  rw [c2] at D2
  have D3 := E.open_dat (fun _ => rfl) (sh := (.int .i64)) (by kernel_rfl) h3
  obtain ⟨c3, o3⟩ := E.val_int (v := v3) Try.underlying3 (hval 3 _ _ rfl rfl)
  rw [c3] at D3
  obtain ⟨w0, l0, e0, hl0⟩ := E.Ytidnbefbbdbpfaa.dat_ents D0
  obtain ⟨n1, e1, hn1⟩ := D1
  obtain ⟨n2, e2, hn2⟩ := D2
  obtain ⟨n3, e3, hn3⟩ := D3
  simp only [List.cons.injEq, and_true] at e0 e1 e2 e3
  subst e0
  subst e1
  subst e2
  subst e3
  refine (E.Spec.law W (args := [(.v v0), (.v (.int .i64 n1)), (.v (.int .i64 n2)), (.v (.int .i64 n3))]) ?_ (E.Ytidnbefbbdbpfaa.timerOnce_spec hl0)).mono fun e W' ⟨he, hg⟩ => ?_
  · intro x hx
    simp only [List.mem_cons, List.not_mem_nil, or_false] at hx
    rcases hx with rfl | rfl | rfl | rfl
    · first | exact o0 | rfl | trivial
    · first | exact o1 | rfl | trivial
    · first | exact o2 | rfl | trivial
    · first | exact o3 | rfl | trivial
  subst he
  exact ⟨_, rfl, E.lawPost laidOut rfl rfl (by kernel_rfl) Try.underlying4 (by kernel_rfl) hW' hg⟩

set_option maxRecDepth 100000 in
theorem lifted (os : Os) (started : os.Started) (H : Type) (enc : TypeId × Value → H) :
    ReturnsInHanded {} Try.checked os 4 .any (Rows.timerOnceSpec.pre6 enc Try.prog Try.f4 Rows.timerOnceRow.domain false) (Rows.timerOnceSpec.post enc Try.prog Try.f4 false true false false) := by
  refine returnsInHanded_of_change (C := Try.checked) own started (by kernel_rfl) Try.func4
    (ChangeSpec.witness6 (enc := enc) (C := Try.checked) false ⟨#[], #[.slice none 0 0, .int .i64 0, .int .i64 0, .int .i64 0], []⟩ 8 (by kernel_rfl) (by kernel_rfl) (by kernel_rfl) (by kernel_rfl)) ?_
  intro W base args ds gs before hval0 hW hcnd _
  exact contract H enc W base args ds gs before hval0 hW

theorem over : Rows.timerOnceRow.holds Try.pinned (OpenSpec.ofChange Rows.timerOnceSpec) :=
  OpenClaim.holds_of_wide 4 Try.f4 rfl rfl rfl rfl rfl rfl rfl ⟨rfl, rfl, rfl, rfl, rfl⟩ rfl rfl rfl rfl rfl (by kernel_rfl) Try.func4 (by kernel_rfl)
    (of_decide_eq_true (by kernel_rfl)) (by unfold Func.isWrapper; first | (rw [if_pos (by decide +kernel)]; kernel_rfl) | (rw [if_neg (by decide +kernel)]; exact ⟨rfl, rfl⟩))
    (fun os started H enc _ => lifted os started H enc)

theorem proved : Rows.TimerOnceSaid :=
  over
#print axioms proved
end Go.Proofs.Ytidnbefbbdbpfaa.timerOnce
