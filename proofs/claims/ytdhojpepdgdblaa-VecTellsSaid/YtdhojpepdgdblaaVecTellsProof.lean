/-
  Proved: for every input the law 'VecTells' returns true, and each argument reads behind the call as it read before. No condition.
-/
import Derived.Test.YtdhojpepdgdblaaRows
import Derived.Test.YtdhojpepdgdblaaVecL4
import Derived.Test.YtdhojpepdgdblaaE18
import Derived.WalkKit
import Derived.ProofKit
import Derived.OpenShut
namespace Go.Proofs.Ytdhojpepdgdblaa.vecTells
open Go.ChangeShapes Go.WideShapes Go.ChangeAt Go.RowKit
set_option linter.unusedVariables false

theorem own : ownKnob Try.prog.godebug = none := by kernel_rfl
theorem laidOut : laidOutB Try.prog = true := by kernel_rfl

theorem u_of {n : Int} (h : (Lit.int .u64 n).wf = true) : E.Ytdhojpepdgdblaa.U n := by
  have : 0 ≤ n ∧ n ≤ 18446744073709551615 := by simpa [Lit.wf, IntKind.min, IntKind.max, IntKind.signed, IntKind.bits] using h
  exact ⟨this.1, by omega⟩
theorem i_of {n : Int} (h : (Lit.int .i64 n).wf = true) : E.Ytdhojpepdgdblaa.I n := by
  have : -9223372036854775808 ≤ n ∧ n ≤ 9223372036854775807 := by simpa [Lit.wf, IntKind.min, IntKind.max, IntKind.signed, IntKind.bits] using h
  exact ⟨this.1, by omega⟩
theorem v8_of {l : List Int} (hl : l.length = 8) (h : ∀ x ∈ l, (Lit.int .u64 x).wf = true) : E.Ytdhojpepdgdblaa.V8 l :=
  ⟨hl, E.Ytdhojpepdgdblaa.getD_of_all (p := E.Ytdhojpepdgdblaa.U) (fun x hx => u_of (h x hx)) ⟨by decide, by decide⟩⟩
theorem vec_of {c : E.LB} (h : E.InLB [.ints .u64 8 (List.replicate 8 0)] c) : ∃ u, c = [.ints .u64 8 u] ∧ E.Ytdhojpepdgdblaa.V8 u := by
  match c, h with
  | [.ints k n u], h =>
    obtain ⟨⟨rfl, rfl, h1, h2⟩, _⟩ := h
    exact ⟨u, rfl, v8_of h1 h2⟩
theorem dot_of {c : E.LB} (h : E.InLB [.one (.int .i64 0), .one (.int .u64 0)] c) : ∃ n k, c = [.one (.int .i64 n), .one (.int .u64 k)] ∧ E.Ytdhojpepdgdblaa.I n ∧ E.Ytdhojpepdgdblaa.U k := by
  match c, h with
  | [.one (.int k n), .one (.int k' n')], h =>
    obtain ⟨⟨rfl, h1⟩, ⟨rfl, h2⟩, _⟩ := h
    exact ⟨n, n', rfl, i_of h1, u_of h2⟩
set_option maxRecDepth 100000 in
theorem contract (H : Type) (enc : TypeId × Value → H) (W : World) (base : Nat) (args : Array Value) (ds gs : List (DataW H)) (before : List MemPlace)
    (hval : ∀ (j : Nat) t v, Try.f9.params[j]? = some t → args[j]? = some v → Value.okWide Try.prog W .any base t v)
    (hW : DataW.Whole enc Try.prog Try.f9.params.toList Rows.vecTellsSpec.vars false W args.toList ds gs before) :
    Calls Try.prog 9 args W fun e W' => ∃ v, e = .returned v ∧ Rows.vecTellsSpec.post enc Try.prog Try.f9 false true false false W args v W' := by
  have hW' := hW
  obtain ⟨p, q, hA0, hV, rfl, hfz, hnd⟩ := hW
  have hA : DataW.TrodAll enc Try.prog W 0 (fun _ => true) true Try.f9.params.toList args.toList ds p := hA0
  rw [Try.params9] at hA hval
  obtain ⟨v0, vs0, d0, ds0, p0, q0, hargs, rfl, rfl, h0, r0⟩ := trodAll_cons hA
  obtain ⟨v1, vs1, d1, ds1, p1, q1, rfl, rfl, rfl, h1, r1⟩ := trodAll_cons r0
  obtain ⟨v2, vs2, d2, ds2, p2, q2, rfl, rfl, rfl, h2, r2⟩ := trodAll_cons r1
  obtain ⟨v3, vs3, d3, ds3, p3, q3, rfl, rfl, rfl, h3, r3⟩ := trodAll_cons r2
  obtain ⟨v4, vs4, d4, ds4, p4, q4, rfl, rfl, rfl, h4, r4⟩ := trodAll_cons r3
  obtain ⟨rfl, rfl, rfl⟩ := trodAll_nil r4
  obtain rfl : args = #[v0, v1, v2, v3, v4] := by cases args; simp_all
  obtain ⟨rfl, rfl⟩ := trodVars_none hV
  obtain ⟨c0, rfl, k0, i0⟩ := E.open_flat E.Ytdhojpepdgdblaa.tt_ok (t := 33) rfl rfl rfl (hval 0 _ _ rfl rfl) h0
  obtain ⟨a0, rfl, ha0⟩ := vec_of i0
  obtain ⟨c1, rfl, k1, i1⟩ := E.open_flat E.Ytdhojpepdgdblaa.tt_ok (t := 33) rfl rfl rfl (hval 1 _ _ rfl rfl) h1
  obtain ⟨a1, rfl, ha1⟩ := vec_of i1
  obtain ⟨c2, rfl, k2, i2⟩ := E.open_flat E.Ytdhojpepdgdblaa.tt_ok (t := 60) rfl rfl rfl (hval 2 _ _ rfl rfl) h2
  obtain ⟨a2, b2, rfl, ha2, hb2⟩ := dot_of i2
  obtain ⟨c3, rfl, k3, i3⟩ := E.open_flat E.Ytdhojpepdgdblaa.tt_ok (t := 60) rfl rfl rfl (hval 3 _ _ rfl rfl) h3
  obtain ⟨a3, b3, rfl, ha3, hb3⟩ := dot_of i3
  obtain ⟨n4, rfl, _, _, w4⟩ := open_int Try.underlying3 (hval 4 _ _ rfl rfl) h4
  refine (E.Spec.law W (args := [E.Ytdhojpepdgdblaa.vecV a0, E.Ytdhojpepdgdblaa.vecV a1, E.Ytdhojpepdgdblaa.dotV a2 b2, E.Ytdhojpepdgdblaa.dotV a3 b3, (.v (.int .i64 n4))]) ?_ (E.Ytdhojpepdgdblaa.vecTells_spec ha0 ha1 ha2 hb2 ha3 hb3 (i_of w4))).mono fun e W' ⟨he, hg⟩ => ?_
  · intro x hx
    simp only [List.mem_cons, List.not_mem_nil, or_false] at hx
    rcases hx with rfl | rfl | rfl | rfl | rfl
    · exact k0
    · exact k1
    · exact k2
    · exact k3
    · rfl
  subst he
  exact ⟨_, rfl, E.lawPost laidOut rfl rfl (by kernel_rfl) Try.underlying4 (by kernel_rfl) hW' hg⟩

set_option maxRecDepth 100000 in
theorem lifted (os : Os) (started : os.Started) (H : Type) (enc : TypeId × Value → H) :
    ReturnsInHanded {} Try.checked os 9 .any (Rows.vecTellsSpec.pre6 enc Try.prog Try.f9 Rows.vecTellsRow.domain false) (Rows.vecTellsSpec.post enc Try.prog Try.f9 false true false false) := by
  refine returnsInHanded_of_change (C := Try.checked) own started (by kernel_rfl) Try.func9
    (ChangeSpec.witness6 (enc := enc) (C := Try.checked) false ⟨#[], #[.agg (Array.replicate 8 (.int .u64 0)), .agg (Array.replicate 8 (.int .u64 0)), .agg #[.int .i64 0, .int .u64 0], .agg #[.int .i64 0, .int .u64 0], .int .i64 0], []⟩ 8 (by kernel_rfl) (by kernel_rfl) (by kernel_rfl) (by kernel_rfl)) ?_
  intro W base args ds gs before hval0 hW hcnd _
  exact contract H enc W base args ds gs before hval0 hW

theorem over : Rows.vecTellsRow.holds Try.pinned (OpenSpec.ofChange Rows.vecTellsSpec) :=
  OpenClaim.holds_of_wide 9 Try.f9 rfl rfl rfl rfl rfl rfl rfl ⟨rfl, rfl, rfl, rfl, rfl⟩ rfl rfl rfl rfl rfl (by kernel_rfl) Try.func9 (by kernel_rfl)
    (of_decide_eq_true (by kernel_rfl)) (by unfold Func.isWrapper; first | (rw [if_pos (by decide +kernel)]; kernel_rfl) | (rw [if_neg (by decide +kernel)]; exact ⟨rfl, rfl⟩))
    (fun os started H enc _ => lifted os started H enc)

theorem proved : Rows.VecTellsSaid :=
  over
#print axioms proved
end Go.Proofs.Ytdhojpepdgdblaa.vecTells
