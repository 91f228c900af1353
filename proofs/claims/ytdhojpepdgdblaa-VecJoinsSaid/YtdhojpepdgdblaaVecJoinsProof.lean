/-
  Proved: for every input the law 'VecJoins' returns true, and each argument reads behind the call as it read before. No condition.
-/
import Derived.Test.YtdhojpepdgdblaaRows
import Derived.Test.YtdhojpepdgdblaaVecL4
import Derived.Test.YtdhojpepdgdblaaE18
import Derived.WalkKit
import Derived.ProofKit
import Derived.OpenShut
namespace Go.Proofs.Ytdhojpepdgdblaa.vecJoins
open Go.ChangeShapes Go.WideShapes Go.ChangeAt Go.RowKit
set_option linter.unusedVariables false

theorem own : ownKnob Try.prog.godebug = none := by kernel_rfl
theorem laidOut : laidOutB Try.prog = true := by kernel_rfl

theorem u_of {n : Int} (h : (Lit.int .u64 n).wf = true) : E.Ytdhojpepdgdblaa.U n := by
  have : 0 ≤ n ∧ n ≤ 18446744073709551615 := by simpa [Lit.wf, IntKind.min, IntKind.max, IntKind.signed, IntKind.bits] using h
  exact ⟨this.1, by omega⟩
theorem i_of {n : Int} (h : (Lit.int .i64 n).wf = true) : E.Ytdhojpepdgdblaa.I n := by
  have : -9223372036854775808 ≤ n ∧ n ≤ 9223372036854775807 := by simpa [Lit.wf, IntKind.min, IntKind.max, IntKind.signed, IntKind.bits] using h
  exact ⟨this.1, by omega⟩
theorem v8_of {l : List Int} (hl : l.length = 8) (h : ∀ x ∈ l, (Lit.int .u64 x).wf = true) : E.Ytdhojpepdgdblaa.V8 l :=
  ⟨hl, E.Ytdhojpepdgdblaa.getD_of_all (p := E.Ytdhojpepdgdblaa.U) (fun x hx => u_of (h x hx)) ⟨by decide, by decide⟩⟩
set_option maxRecDepth 100000 in
theorem contract (H : Type) (enc : TypeId × Value → H) (W : World) (base : Nat) (args : Array Value) (ds gs : List (DataW H)) (before : List MemPlace)
    (hval : ∀ (j : Nat) t v, Try.f7.params[j]? = some t → args[j]? = some v → Value.okWide Try.prog W .any base t v)
    (hW : DataW.Whole enc Try.prog Try.f7.params.toList Rows.vecJoinsSpec.vars false W args.toList ds gs before) :
    Calls Try.prog 7 args W fun e W' => ∃ v, e = .returned v ∧ Rows.vecJoinsSpec.post enc Try.prog Try.f7 false true false false W args v W' := by
  have hW' := hW
  obtain ⟨p, q, hA0, hV, rfl, hfz, hnd⟩ := hW
  have hA : DataW.TrodAll enc Try.prog W 0 (fun _ => true) true Try.f7.params.toList args.toList ds p := hA0
  rw [Try.params7] at hA hval
  obtain ⟨v0, vs0, d0, ds0, p0, q0, hargs, rfl, rfl, h0, r0⟩ := trodAll_cons hA
  obtain ⟨rfl, rfl, rfl⟩ := trodAll_nil r0
  obtain rfl : args = #[v0] := by cases args; simp_all
  obtain ⟨rfl, rfl⟩ := trodVars_none hV
  obtain ⟨els0, y0, l0, q0, x0, o0⟩ := E.open_slice E.Ytdhojpepdgdblaa.tt_ok (v := v0) (t := 53) (e := 33) (ei := ⟨.array 8 24, 8, 64, [.ints .u64 8 (List.replicate 8 0)], true⟩) rfl rfl rfl (by kernel_rfl) rfl (by decide) (by intro z hz x hx; exact E.KW.one hx) (hval 0 _ _ rfl rfl) h0
  obtain ⟨ls0, e0, f0⟩ := E.els_vecs (z := List.replicate 8 0) q0
  refine (E.Spec.law W (args := [(.v v0)]) ?_ (E.Ytdhojpepdgdblaa.vecJoins_spec (ls := ls0) ⟨by rw [← e0]; exact y0, by rw [l0, e0]; simp, fun a ha => v8_of (f0 a ha).1 (f0 a ha).2⟩ (by have h1 : maxLen < 9223372036854775808 := (by decide); have h2 : els0.length = ls0.length := (by rw [e0, List.length_map]); omega))).mono fun e W' ⟨he, hg⟩ => ?_
  · intro x hx
    simp only [List.mem_cons, List.not_mem_nil, or_false] at hx
    rcases hx with rfl
    · exact o0
  subst he
  exact ⟨_, rfl, E.lawPost laidOut rfl rfl (by kernel_rfl) Try.underlying4 (by kernel_rfl) hW' hg⟩

set_option maxRecDepth 100000 in
theorem lifted (os : Os) (started : os.Started) (H : Type) (enc : TypeId × Value → H) :
    ReturnsInHanded {} Try.checked os 7 .any (Rows.vecJoinsSpec.pre6 enc Try.prog Try.f7 Rows.vecJoinsRow.domain false) (Rows.vecJoinsSpec.post enc Try.prog Try.f7 false true false false) := by
  refine returnsInHanded_of_change (C := Try.checked) own started (by kernel_rfl) Try.func7
    (ChangeSpec.witness6 (enc := enc) (C := Try.checked) false ⟨#[], #[.slice none 0 0], []⟩ 8 (by kernel_rfl) (by kernel_rfl) (by kernel_rfl) (by kernel_rfl)) ?_
  intro W base args ds gs before hval0 hW hcnd _
  exact contract H enc W base args ds gs before hval0 hW

theorem over : Rows.vecJoinsRow.holds Try.pinned (OpenSpec.ofChange Rows.vecJoinsSpec) :=
  OpenClaim.holds_of_wide 7 Try.f7 rfl rfl rfl rfl rfl rfl rfl ⟨rfl, rfl, rfl, rfl, rfl⟩ rfl rfl rfl rfl rfl (by kernel_rfl) Try.func7 (by kernel_rfl)
    (of_decide_eq_true (by kernel_rfl)) (by unfold Func.isWrapper; first | (rw [if_pos (by decide +kernel)]; kernel_rfl) | (rw [if_neg (by decide +kernel)]; exact ⟨rfl, rfl⟩))
    (fun os started H enc _ => lifted os started H enc)

theorem proved : Rows.VecJoinsSaid :=
  over
#print axioms proved
end Go.Proofs.Ytdhojpepdgdblaa.vecJoins
