/-
  Proved: for every input the law 'VecLattice' returns true, and each argument reads behind the call as it read before. No condition.
-/
import Derived.Test.YtdhojpepdgdblaaRows
import Derived.Test.YtdhojpepdgdblaaVecL6
import Derived.Test.YtdhojpepdgdblaaE18
import Derived.WalkKit
import Derived.ProofKit
import Derived.OpenShut
namespace Go.Proofs.Ytdhojpepdgdblaa.vecLattice
open Go.ChangeShapes Go.WideShapes Go.ChangeAt Go.RowKit
set_option linter.unusedVariables false

theorem own : ownKnob Try.prog.godebug = none := by kernel_rfl
theorem laidOut : laidOutB Try.prog = true := by kernel_rfl

theorem u_of {n : Int} (h : (Lit.int .u64 n).wf = true) : E.Ytdhojpepdgdblaa.U n := by
  have : 0 ≤ n ∧ n ≤ 18446744073709551615 := by simpa [Lit.wf, IntKind.min, IntKind.max, IntKind.signed, IntKind.bits] using h
  exact ⟨this.1, by omega⟩
theorem i_of {n : Int} (h : (Lit.int .i64 n).wf = true) : E.Ytdhojpepdgdblaa.I n := by
  have : -9223372036854775808 ≤ n ∧ n ≤ 9223372036854775807 := by simpa [Lit.wf, IntKind.min, IntKind.max, IntKind.signed, IntKind.bits] using h
  exact ⟨this.1, by omega⟩
theorem v8_of {l : List Int} (hl : l.length = 8) (h : ∀ x ∈ l, (Lit.int .u64 x).wf = true) : E.Ytdhojpepdgdblaa.V8 l :=
  ⟨hl, E.Ytdhojpepdgdblaa.getD_of_all (p := E.Ytdhojpepdgdblaa.U) (fun x hx => u_of (h x hx)) ⟨by decide, by decide⟩⟩
theorem vec_of {c : E.LB} (h : E.InLB [.ints .u64 8 (List.replicate 8 0)] c) : ∃ u, c = [.ints .u64 8 u] ∧ E.Ytdhojpepdgdblaa.V8 u := by
  match c, h with
  | [.ints k n u], h =>
    obtain ⟨⟨rfl, rfl, h1, h2⟩, _⟩ := h
    exact ⟨u, rfl, v8_of h1 h2⟩
set_option maxRecDepth 100000 in
theorem contract (H : Type) (enc : TypeId × Value → H) (W : World) (base : Nat) (args : Array Value) (ds gs : List (DataW H)) (before : List MemPlace)
    (hval : ∀ (j : Nat) t v, Try.f8.params[j]? = some t → args[j]? = some v → Value.okWide Try.prog W .any base t v)
    (hW : DataW.Whole enc Try.prog Try.f8.params.toList Rows.vecLatticeSpec.vars false W args.toList ds gs before) :
    Calls Try.prog 8 args W fun e W' => ∃ v, e = .returned v ∧ Rows.vecLatticeSpec.post enc Try.prog Try.f8 false true false false W args v W' := by
  have hW' := hW
  obtain ⟨p, q, hA0, hV, rfl, hfz, hnd⟩ := hW
  have hA : DataW.TrodAll enc Try.prog W 0 (fun _ => true) true Try.f8.params.toList args.toList ds p := hA0
  rw [Try.params8] at hA hval
  obtain ⟨v0, vs0, d0, ds0, p0, q0, hargs, rfl, rfl, h0, r0⟩ := trodAll_cons hA
  obtain ⟨v1, vs1, d1, ds1, p1, q1, rfl, rfl, rfl, h1, r1⟩ := trodAll_cons r0
  obtain ⟨v2, vs2, d2, ds2, p2, q2, rfl, rfl, rfl, h2, r2⟩ := trodAll_cons r1
  obtain ⟨rfl, rfl, rfl⟩ := trodAll_nil r2
  obtain rfl : args = #[v0, v1, v2] := by cases args; simp_all
  obtain ⟨rfl, rfl⟩ := trodVars_none hV
  obtain ⟨c0, rfl, k0, i0⟩ := E.open_flat E.Ytdhojpepdgdblaa.tt_ok (t := 33) rfl rfl rfl (hval 0 _ _ rfl rfl) h0
  obtain ⟨a0, rfl, ha0⟩ := vec_of i0
  obtain ⟨c1, rfl, k1, i1⟩ := E.open_flat E.Ytdhojpepdgdblaa.tt_ok (t := 33) rfl rfl rfl (hval 1 _ _ rfl rfl) h1
  obtain ⟨a1, rfl, ha1⟩ := vec_of i1
  obtain ⟨c2, rfl, k2, i2⟩ := E.open_flat E.Ytdhojpepdgdblaa.tt_ok (t := 33) rfl rfl rfl (hval 2 _ _ rfl rfl) h2
  obtain ⟨a2, rfl, ha2⟩ := vec_of i2
  refine (E.Spec.law W (args := [E.Ytdhojpepdgdblaa.vecV a0, E.Ytdhojpepdgdblaa.vecV a1, E.Ytdhojpepdgdblaa.vecV a2]) ?_ (E.Ytdhojpepdgdblaa.vecLattice_spec ha0 ha1 ha2)).mono fun e W' ⟨he, hg⟩ => ?_
  · intro x hx
    simp only [List.mem_cons, List.not_mem_nil, or_false] at hx
    rcases hx with rfl | rfl | rfl
    · exact k0
    · exact k1
    · exact k2
  subst he
  exact ⟨_, rfl, E.lawPost laidOut rfl rfl (by kernel_rfl) Try.underlying4 (by kernel_rfl) hW' hg⟩

set_option maxRecDepth 100000 in
theorem lifted (os : Os) (started : os.Started) (H : Type) (enc : TypeId × Value → H) :
    ReturnsInHanded {} Try.checked os 8 .any (Rows.vecLatticeSpec.pre6 enc Try.prog Try.f8 Rows.vecLatticeRow.domain false) (Rows.vecLatticeSpec.post enc Try.prog Try.f8 false true false false) := by
  refine returnsInHanded_of_change (C := Try.checked) own started (by kernel_rfl) Try.func8
    (ChangeSpec.witness6 (enc := enc) (C := Try.checked) false ⟨#[], #[.agg (Array.replicate 8 (.int .u64 0)), .agg (Array.replicate 8 (.int .u64 0)), .agg (Array.replicate 8 (.int .u64 0))], []⟩ 8 (by kernel_rfl) (by kernel_rfl) (by kernel_rfl) (by kernel_rfl)) ?_
  intro W base args ds gs before hval0 hW hcnd _
  exact contract H enc W base args ds gs before hval0 hW

theorem over : Rows.vecLatticeRow.holds Try.pinned (OpenSpec.ofChange Rows.vecLatticeSpec) :=
  OpenClaim.holds_of_wide 8 Try.f8 rfl rfl rfl rfl rfl rfl rfl ⟨rfl, rfl, rfl, rfl, rfl⟩ rfl rfl rfl rfl rfl (by kernel_rfl) Try.func8 (by kernel_rfl)
    (of_decide_eq_true (by kernel_rfl)) (by unfold Func.isWrapper; first | (rw [if_pos (by decide +kernel)]; kernel_rfl) | (rw [if_neg (by decide +kernel)]; exact ⟨rfl, rfl⟩))
    (fun os started H enc _ => lifted os started H enc)

theorem proved : Rows.VecLatticeSaid :=
  over
#print axioms proved
end Go.Proofs.Ytdhojpepdgdblaa.vecLattice
