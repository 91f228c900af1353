/-
  Proved: for every input the law 'TallyOrder' returns true, and each argument reads behind the call as it read before. No condition.
-/
import Derived.Test.YtdhojpepdgdblaaRows
import Derived.Test.YtdhojpepdgdblaaTallyL4
import Derived.Test.YtdhojpepdgdblaaE18
import Derived.WalkKit
import Derived.ProofKit
import Derived.OpenShut
namespace Go.Proofs.Ytdhojpepdgdblaa.tallyOrder
open Go.ChangeShapes Go.WideShapes Go.ChangeAt Go.RowKit
set_option linter.unusedVariables false

theorem own : ownKnob Try.prog.godebug = none := by kernel_rfl
theorem laidOut : laidOutB Try.prog = true := by kernel_rfl

theorem u_of {n : Int} (h : (Lit.int .u64 n).wf = true) : E.Ytdhojpepdgdblaa.U n := by
  have : 0 ≤ n ∧ n ≤ 18446744073709551615 := by simpa [Lit.wf, IntKind.min, IntKind.max, IntKind.signed, IntKind.bits] using h
  exact ⟨this.1, by omega⟩
theorem i_of {n : Int} (h : (Lit.int .i64 n).wf = true) : E.Ytdhojpepdgdblaa.I n := by
  have : -9223372036854775808 ≤ n ∧ n ≤ 9223372036854775807 := by simpa [Lit.wf, IntKind.min, IntKind.max, IntKind.signed, IntKind.bits] using h
  exact ⟨this.1, by omega⟩
theorem v8_of {l : List Int} (hl : l.length = 8) (h : ∀ x ∈ l, (Lit.int .u64 x).wf = true) : E.Ytdhojpepdgdblaa.V8 l :=
  ⟨hl, E.Ytdhojpepdgdblaa.getD_of_all (p := E.Ytdhojpepdgdblaa.U) (fun x hx => u_of (h x hx)) ⟨by decide, by decide⟩⟩
set_option maxRecDepth 100000 in
theorem contract (H : Type) (enc : TypeId × Value → H) (W : World) (base : Nat) (args : Array Value) (ds gs : List (DataW H)) (before : List MemPlace)
    (hval : ∀ (j : Nat) t v, Try.f3.params[j]? = some t → args[j]? = some v → Value.okWide Try.prog W .any base t v)
    (hW : DataW.Whole enc Try.prog Try.f3.params.toList Rows.tallyOrderSpec.vars false W args.toList ds gs before) :
    Calls Try.prog 3 args W fun e W' => ∃ v, e = .returned v ∧ Rows.tallyOrderSpec.post enc Try.prog Try.f3 false true false false W args v W' := by
  have hW' := hW
  obtain ⟨p, q, hA0, hV, rfl, hfz, hnd⟩ := hW
  have hA : DataW.TrodAll enc Try.prog W 0 (fun _ => true) true Try.f3.params.toList args.toList ds p := hA0
  rw [Try.params3] at hA hval
  obtain ⟨v0, vs0, d0, ds0, p0, q0, hargs, rfl, rfl, h0, r0⟩ := trodAll_cons hA
  obtain ⟨v1, vs1, d1, ds1, p1, q1, rfl, rfl, rfl, h1, r1⟩ := trodAll_cons r0
  obtain ⟨v2, vs2, d2, ds2, p2, q2, rfl, rfl, rfl, h2, r2⟩ := trodAll_cons r1
  obtain ⟨rfl, rfl, rfl⟩ := trodAll_nil r2
  obtain rfl : args = #[v0, v1, v2] := by cases args; simp_all
  obtain ⟨rfl, rfl⟩ := trodVars_none hV
  obtain ⟨els0, y0, l0, q0, x0, o0⟩ := E.open_slice E.Ytdhojpepdgdblaa.tt_ok (v := v0) (t := 22) (e := 3) (ei := ⟨.int .i64, 1, 8, [.one (.int .i64 0)], false⟩) rfl rfl rfl (by kernel_rfl) rfl (by decide) (by intro z hz x hx; exact E.KW.one hx) (hval 0 _ _ rfl rfl) h0
  obtain ⟨ls0, e0, g0, f0⟩ := E.els_ints q0
  obtain ⟨n1, rfl, _, _, w1⟩ := open_int Try.underlying3 (hval 1 _ _ rfl rfl) h1
  obtain ⟨n2, rfl, _, _, w2⟩ := open_int Try.underlying3 (hval 2 _ _ rfl rfl) h2
  refine (E.Spec.law W (args := [(.v v0), (.v (.int .i64 n1)), (.v (.int .i64 n2))]) ?_ (E.Ytdhojpepdgdblaa.tallyOrder_spec (l := ls0) (fun n hn => i_of (f0 n hn)) (by have := y0; rw [e0] at this; exact this) (by rw [l0, g0]) (i_of w1) (i_of w2))).mono fun e W' ⟨he, hg⟩ => ?_
  · intro x hx
    simp only [List.mem_cons, List.not_mem_nil, or_false] at hx
    rcases hx with rfl | rfl | rfl
    · exact o0
    · rfl
    · rfl
  subst he
  exact ⟨_, rfl, E.lawPost laidOut rfl rfl (by kernel_rfl) Try.underlying4 (by kernel_rfl) hW' hg⟩

set_option maxRecDepth 100000 in
theorem lifted (os : Os) (started : os.Started) (H : Type) (enc : TypeId × Value → H) :
    ReturnsInHanded {} Try.checked os 3 .any (Rows.tallyOrderSpec.pre6 enc Try.prog Try.f3 Rows.tallyOrderRow.domain false) (Rows.tallyOrderSpec.post enc Try.prog Try.f3 false true false false) := by
  refine returnsInHanded_of_change (C := Try.checked) own started (by kernel_rfl) Try.func3
    (ChangeSpec.witness6 (enc := enc) (C := Try.checked) false ⟨#[], #[.slice none 0 0, .int .i64 0, .int .i64 0], []⟩ 8 (by kernel_rfl) (by kernel_rfl) (by kernel_rfl) (by kernel_rfl)) ?_
  intro W base args ds gs before hval0 hW hcnd _
  exact contract H enc W base args ds gs before hval0 hW

theorem over : Rows.tallyOrderRow.holds Try.pinned (OpenSpec.ofChange Rows.tallyOrderSpec) :=
  OpenClaim.holds_of_wide 3 Try.f3 rfl rfl rfl rfl rfl rfl rfl ⟨rfl, rfl, rfl, rfl, rfl⟩ rfl rfl rfl rfl rfl (by kernel_rfl) Try.func3 (by kernel_rfl)
    (of_decide_eq_true (by kernel_rfl)) (by unfold Func.isWrapper; first | (rw [if_pos (by decide +kernel)]; kernel_rfl) | (rw [if_neg (by decide +kernel)]; exact ⟨rfl, rfl⟩))
    (fun os started H enc _ => lifted os started H enc)

theorem proved : Rows.TallyOrderSaid :=
  over
#print axioms proved
end Go.Proofs.Ytdhojpepdgdblaa.tallyOrder
