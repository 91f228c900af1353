/-
  Proved: for every input the law 'AuditCuts' returns true, and each argument reads behind the call as it read before. No condition.
-/
import Derived.Test.YtconjimbfhpfgaaDoorAuditCutsZ8
import Derived.Test.YtconjimbfhpfgaaDoorRows
import Derived.Test.YtconjimbfhpfgaaDoorTie
import Derived.SevenTiedAt
import Derived.LaidMore
import Derived.Stop.Joined
import Derived.WalkKit
import Derived.ProofKit
import Derived.OpenShut
namespace Go.Proofs.YtconjimbfhpfgaaDoor.auditCuts
open Go.ChangeShapes Go.WideShapes Go.ChangeAt Go.RowKit
set_option linter.unusedVariables false

theorem own : ownKnob Tryd.prog.godebug = none := by kernel_rfl
theorem laidOut : laidOutB Tryd.prog = true := by kernel_rfl

set_option maxRecDepth 100000 in
theorem contract (H : Type) (enc : TypeId × Value → H) (W : World) (base : Nat) (args : Array Value) (ds gs : List (DataW H)) (before : List MemPlace)
    (hval : ∀ (j : Nat) t v, Tryd.f3.params[j]? = some t → args[j]? = some v → Value.okWide Tryd.prog W .any base t v)
    (hSh : W.ShapedOpen Tryd.prog)
    (hL : laidMetH Tryd.prog Rows.auditCutsRow.laid W)
    (hW : DataW.Whole enc Tryd.prog Tryd.f3.params.toList Rows.auditCutsSpec.vars false W args.toList ds gs before) :
    Calls Tryd.prog 3 args W fun e W' => ∃ v, e = .returned v ∧ Rows.auditCutsSpec.post enc Tryd.prog Tryd.f3 false true false false W args v W' := by
  have hW' := hW
  obtain ⟨p, q, hA0, hV, rfl, hfz, hnd⟩ := hW
  have hA : DataW.TrodAll enc Tryd.prog W 0 (fun _ => true) true Tryd.f3.params.toList args.toList ds p := hA0
  rw [Tryd.params3] at hA hval
  obtain ⟨v0, vs0, d0, ds0, p0, q0, hargs, rfl, rfl, h0, r0⟩ := trodAll_cons hA
  obtain ⟨v1, vs1, d1, ds1, p1, q1, rfl, rfl, rfl, h1, r1⟩ := trodAll_cons r0
  obtain ⟨rfl, rfl, rfl⟩ := trodAll_nil r1
  obtain rfl : args = #[v0, v1] := by cases args; simp_all
  obtain ⟨rfl, rfl⟩ := trodVars_none hV
  have D0 := E.open_dat (fun _ => rfl) (sh := (.slice E.YtconjimbfhpfgaaDoor.shEnt)) (by kernel_rfl) h0
  obtain ⟨c0, o0⟩ := E.val_slice (v := v0) Tryd.underlying22 (hval 0 _ _ rfl rfl)
  rw [c0] at D0
  have D1 := E.open_dat (fun _ => rfl) (sh := (.int .i64)) (by kernel_rfl) h1
  obtain ⟨c1, o1⟩ := E.val_int (v := v1) Tryd.underlying3 (hval 1 _ _ rfl rfl)
  rw [c1] at D1
  have s0 := E.val_spot (v := v0) Tryd.underlying22 (hval 0 _ _ rfl rfl)
  obtain ⟨w0, l0, e0, hl0, hb0⟩ := E.YtconjimbfhpfgaaDoor.dat_ents D0
  obtain ⟨n1, e1, hn1⟩ := D1
  simp only [List.cons.injEq, and_true] at e0 e1
  subst e0
  subst e1
  refine (E.Spec.law W (args := [(.v v0), (.v (.int .i64 n1))]) ?_ (E.YtconjimbfhpfgaaDoor.auditCuts_spec (E.YtconjimbfhpfgaaDoor.glob_met7 hL) (E.YtconjimbfhpfgaaDoor.maxL_met hSh) hl0 hb0 s0)).mono fun e W' ⟨he, hg⟩ => ?_
  · intro x hx
    simp only [List.mem_cons, List.not_mem_nil, or_false] at hx
    rcases hx with rfl | rfl
    · first | exact o0 | rfl | trivial
    · first | exact o1 | rfl | trivial
  subst he
  exact ⟨_, rfl, E.lawPost laidOut rfl rfl (by kernel_rfl) Tryd.underlying4 (by kernel_rfl) hW' hg⟩

set_option maxRecDepth 100000 in
theorem lifted (os : Os) (started : os.Started) (H : Type) (enc : TypeId × Value → H) :
    ReturnsInHanded {} Tryd.checked os 3 .any (fun w args => (Rows.auditCutsSpec.pre enc Tryd.prog Tryd.f3 Rows.auditCutsRow.domain false w args ∧ laidMetH Tryd.prog Rows.auditCutsRow.laid w) ∧ sizedMet enc Tryd.prog Tryd.f3 (OpenSpec.ofChange Rows.auditCutsSpec) false w args)
      (Rows.auditCutsSpec.post enc Tryd.prog Tryd.f3 false true false false) := by
  refine E.returnsInHanded_of_shape_and (C := Tryd.checked) (X := fun w _ => laidMetH Tryd.prog Rows.auditCutsRow.laid w) (fun _ _ _ hh h => h.of_heap hh) own started (by kernel_rfl) Tryd.func3
    (ChangeSpec.witness_shaped (enc := enc) (C := Tryd.checked) (os := os) (X := fun w _ => laidMetH Tryd.prog Rows.auditCutsRow.laid w) false (World.laidAll Tryd.prog os Rows.auditCutsRow.laid) #[.slice none 0 0, .int .i64 0] 8 (World.laidAll_os _ _ _)
      (World.shaped_of_ZipB (by kernel_rfl) (by kernel_rfl)) (by kernel_rfl) (by kernel_rfl) (by kernel_rfl)
      (by rw [MakeChecks.laidMetH_plain _ _ _ (by kernel_rfl)]; exact laidMet_laidAll _ (by kernel_rfl) (by kernel_rfl))) ?_
  intro W base args ds gs before hval0 hW hSh hL
  exact contract H enc W base args ds gs before hval0 hSh hL hW

theorem over : Rows.AuditCutsSaid :=
  OpenClaim.holds_of_wide 3 Tryd.f3 rfl rfl rfl rfl rfl rfl rfl ⟨rfl, rfl, rfl, rfl, rfl⟩ rfl rfl rfl rfl rfl (by kernel_rfl) Tryd.func3 (by kernel_rfl)
    (of_decide_eq_true (by kernel_rfl)) (by unfold Func.isWrapper; first | (rw [if_pos (by decide +kernel)]; kernel_rfl) | (rw [if_neg (by decide +kernel)]; exact ⟨rfl, rfl⟩))
    (fun os started H enc _ => lifted os started H enc)

theorem proved : Rows.AuditCutsCardSaid :=
  Claim7.holds_tied_plain_at .later [] _ true _ true over (fun _ h => by cases h) (by kernel_rfl) (fun _ h => by cases h) auditCuts_row_tie rfl ⟨rfl, rfl⟩ (by kernel_rfl) rfl
    (fun f fn hf hfn => by
      obtain rfl : f = 3 := Option.some.inj ((show Tryd.prog.funcNamed "maund/maundlaw38.AuditCuts" = some 3 by kernel_rfl).symm.trans hf) |>.symm
      obtain rfl : fn = Tryd.f3 := (Option.some.inj (Tryd.func3.symm.trans hfn)).symm
      exact ⟨by kernel_rfl, fun j t ht => by
        rw [Tryd.params3] at ht
        have hm : t ∈ [22, 3] := by simpa using Array.mem_of_getElem? ht
        have hall : ([22, 3].all fun u => !Tryd.prog.wantsStandIn u) = true := by kernel_rfl
        exact (show Tryd.prog.wantsStandIn t = false by simpa using List.all_eq_true.1 hall t hm)⟩)
    (by kernel_rfl)
#print axioms proved
end Go.Proofs.YtconjimbfhpfgaaDoor.auditCuts
