/-
  Proved: for every input the law 'LogBegins' returns true, and each argument reads behind the call as it read before. No condition.
-/
import Derived.Test.YtcjmmhamnglmkaaLogBeginsZ10
import Derived.Test.YtcjmmhamnglmkaaRows
import Derived.WalkKit
import Derived.ProofKit
import Derived.OpenShut
namespace Go.Proofs.Ytcjmmhamnglmkaa.logBegins
open Go.ChangeShapes Go.WideShapes Go.ChangeAt Go.RowKit
set_option linter.unusedVariables false

theorem own : ownKnob Try.prog.godebug = none := by kernel_rfl
theorem laidOut : laidOutB Try.prog = true := by kernel_rfl

set_option maxRecDepth 100000 in
theorem contract (H : Type) (enc : TypeId × Value → H) (W : World) (base : Nat) (args : Array Value) (ds gs : List (DataW H)) (before : List MemPlace)
    (hval : ∀ (j : Nat) t v, Try.f3.params[j]? = some t → args[j]? = some v → Value.okWide Try.prog W .any base t v)
    (hW : DataW.Whole enc Try.prog Try.f3.params.toList Rows.logBeginsSpec.vars false W args.toList ds gs before) :
    Calls Try.prog 3 args W fun e W' => ∃ v, e = .returned v ∧ Rows.logBeginsSpec.post enc Try.prog Try.f3 false true false false W args v W' := by
  have hW' := hW
  obtain ⟨p, q, hA0, hV, rfl, hfz, hnd⟩ := hW
  have hA : DataW.TrodAll enc Try.prog W 0 (fun _ => true) true Try.f3.params.toList args.toList ds p := hA0
  rw [Try.params3] at hA hval
  obtain ⟨v0, vs0, d0, ds0, p0, q0, hargs, rfl, rfl, h0, r0⟩ := trodAll_cons hA
  obtain ⟨v1, vs1, d1, ds1, p1, q1, rfl, rfl, rfl, h1, r1⟩ := trodAll_cons r0
  obtain ⟨v2, vs2, d2, ds2, p2, q2, rfl, rfl, rfl, h2, r2⟩ := trodAll_cons r1
  obtain ⟨rfl, rfl, rfl⟩ := trodAll_nil r2
  obtain rfl : args = #[v0, v1, v2] := by cases args; simp_all
  obtain ⟨rfl, rfl⟩ := trodVars_none hV
  have D0 := E.open_dat (fun _ => rfl) (sh := (.slice E.Ytcjmmhamnglmkaa.shLop)) (by kernel_rfl) h0
  obtain ⟨c0, o0⟩ := E.val_slice (v := v0) Try.underlying22 (hval 0 _ _ rfl rfl)
  rw [c0] at D0
  have D1 := E.open_dat (fun _ => rfl) (sh := (.int .i64)) (by kernel_rfl) h1
  obtain ⟨c1, o1⟩ := E.val_int (v := v1) Try.underlying3 (hval 1 _ _ rfl rfl)
  rw [c1] at D1
  have D2 := E.open_dat (fun _ => rfl) (sh := (.slice (.int .u8))) (by kernel_rfl) h2
  obtain ⟨c2, o2⟩ := E.val_slice (v := v2) Try.underlying23 (hval 2 _ _ rfl rfl)
  rw [c2] at D2
  obtain ⟨w0, l0, e0, hl0, hb0, hc0⟩ := E.Ytcjmmhamnglmkaa.dat_lops D0
  obtain ⟨n1, e1, hn1⟩ := D1
  obtain ⟨w2, l2, e2, hl2, hb2, hc2⟩ := E.dat_la D2
  simp only [List.cons.injEq, and_true] at e0 e1 e2
  subst e0
  subst e1
  subst e2
  have hn1 := E.wf_i64 hn1
  refine (E.Spec.law W (args := [(.v v0), (.v (.int .i64 n1)), (.v v2)]) ?_ (E.Ytcjmmhamnglmkaa.logBegins_spec hl0 hb0 hc0 hn1 hl2 hb2)).mono fun e W' ⟨he, hg⟩ => ?_
  · intro x hx
    simp only [List.mem_cons, List.not_mem_nil, or_false] at hx
    rcases hx with rfl | rfl | rfl
    · first | exact o0 | rfl | trivial
    · first | exact o1 | rfl | trivial
    · first | exact o2 | rfl | trivial
  subst he
  exact ⟨_, rfl, E.lawPost laidOut rfl rfl (by kernel_rfl) Try.underlying4 (by kernel_rfl) hW' hg⟩

set_option maxRecDepth 100000 in
theorem lifted (os : Os) (started : os.Started) (H : Type) (enc : TypeId × Value → H) :
    ReturnsInHanded {} Try.checked os 3 .any (Rows.logBeginsSpec.pre6 enc Try.prog Try.f3 Rows.logBeginsRow.domain false) (Rows.logBeginsSpec.post enc Try.prog Try.f3 false true false false) := by
  refine returnsInHanded_of_change (C := Try.checked) own started (by kernel_rfl) Try.func3
    (ChangeSpec.witness6 (enc := enc) (C := Try.checked) false ⟨#[], #[.slice none 0 0, .int .i64 0, .slice none 0 0], []⟩ 8 (by kernel_rfl) (by kernel_rfl) (by kernel_rfl) (by kernel_rfl)) ?_
  intro W base args ds gs before hval0 hW hcnd _
  exact contract H enc W base args ds gs before hval0 hW

theorem over : Rows.logBeginsRow.holds Try.pinned (OpenSpec.ofChange Rows.logBeginsSpec) :=
  OpenClaim.holds_of_wide 3 Try.f3 rfl rfl rfl rfl rfl rfl rfl ⟨rfl, rfl, rfl, rfl, rfl⟩ rfl rfl rfl rfl rfl (by kernel_rfl) Try.func3 (by kernel_rfl)
    (of_decide_eq_true (by kernel_rfl)) (by unfold Func.isWrapper; first | (rw [if_pos (by decide +kernel)]; kernel_rfl) | (rw [if_neg (by decide +kernel)]; exact ⟨rfl, rfl⟩))
    (fun os started H enc _ => lifted os started H enc)

theorem proved : Rows.LogBeginsSaid :=
  over
#print axioms proved
end Go.Proofs.Ytcjmmhamnglmkaa.logBegins
