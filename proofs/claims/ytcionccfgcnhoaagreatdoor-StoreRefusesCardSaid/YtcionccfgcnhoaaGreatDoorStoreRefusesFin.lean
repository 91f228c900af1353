import Derived.Test.YtcionccfgcnhoaaGreatDoorStoreRefusesZ14
import Derived.Test.YtcionccfgcnhoaaGreatDoorRows
import Derived.Test.YtcionccfgcnhoaaGreatDoorTie
import Derived.SevenTiedAt
import Derived.LaidMore
import Derived.Stop.Joined
import Derived.WalkKit
import Derived.ProofKit
import Derived.OpenShut
namespace Go.Proofs.YtcionccfgcnhoaaGreatDoor.storeRefuses
open Go.ChangeShapes Go.WideShapes Go.ChangeAt Go.RowKit
set_option linter.unusedVariables false
theorem own : ownKnob Tryz.prog.godebug = none := by kernel_rfl
theorem laidOut : laidOutB Tryz.prog = true := by kernel_rfl
set_option maxRecDepth 100000 in
theorem contract (H : Type) (enc : TypeId × Value → H) (W : World) (base : Nat) (args : Array Value) (ds gs : List (DataW H)) (before : List MemPlace)
    (hval : ∀ (j : Nat) t v, Tryz.f4.params[j]? = some t → args[j]? = some v → Value.okWide Tryz.prog W .any base t v)
    (hL : laidMetH Tryz.prog Rows.storeRefusesRow.laid W)
    (hW : DataW.Whole enc Tryz.prog Tryz.f4.params.toList Rows.storeRefusesSpec.vars false W args.toList ds gs before) :
    Calls Tryz.prog 4 args W fun e W' => ∃ v, e = .returned v ∧ Rows.storeRefusesSpec.post enc Tryz.prog Tryz.f4 false true false false W args v W' := by
  have hW' := hW
  obtain ⟨p, q, hA0, hV, rfl, hfz, hnd⟩ := hW
  have hA : DataW.TrodAll enc Tryz.prog W 0 (fun _ => true) true Tryz.f4.params.toList args.toList ds p := hA0
  rw [Tryz.params4] at hA hval
  obtain ⟨v0, vs0, d0, ds0, p0, q0, hargs, rfl, rfl, h0, r0⟩ := trodAll_cons hA
  obtain ⟨v1, vs1, d1, ds1, p1, q1, rfl, rfl, rfl, h1, r1⟩ := trodAll_cons r0
  obtain ⟨v2, vs2, d2, ds2, p2, q2, rfl, rfl, rfl, h2, r2⟩ := trodAll_cons r1
  obtain ⟨rfl, rfl, rfl⟩ := trodAll_nil r2
  obtain rfl : args = #[v0, v1, v2] := by cases args; simp_all
  obtain ⟨rfl, rfl⟩ := trodVars_none hV
  have D0 := E.open_dat (fun _ => rfl) (sh := (.int .i64)) (by kernel_rfl) h0
  obtain ⟨c0, o0⟩ := E.val_int (v := v0) Tryz.underlying3 (hval 0 _ _ rfl rfl)
  rw [c0] at D0
  have D1 := E.open_dat (fun _ => rfl) (sh := (.slice E.YtcionccfgcnhoaaGreatDoor.shO18)) (by kernel_rfl) h1
  obtain ⟨c1, o1⟩ := E.val_slice (v := v1) Tryz.underlying22 (hval 1 _ _ rfl rfl)
  rw [c1] at D1
  have D2 := E.open_dat (fun _ => rfl) (sh := E.YtcionccfgcnhoaaGreatDoor.shO18) (by kernel_rfl) h2
  obtain ⟨n0, e0, hn0⟩ := D0
  obtain ⟨w1, l1, e1, hl1, hc1⟩ := E.YtcionccfgcnhoaaGreatDoor.dat_o18s D1
  have g2 := E.val_struct18 (v := v2) (show Tryz.prog.underlying 42 = some (.struct (Tryz.prog.fieldsOf 42)) by kernel_rfl) (hval 2 _ _ rfl rfl)
  obtain ⟨p18, k2, ho2⟩ := E.YtcionccfgcnhoaaGreatDoor.dat_o18 D2
  rw [k2] at g2
  subst g2
  simp only [List.cons.injEq, and_true] at e0 e1
  subst e0
  subst e1
  have hn0 := E.wf_i64 hn0
  have o2 : E.CV.ok (.a (E.YtcionccfgcnhoaaGreatDoor.o18L p18)) := ⟨rfl, rfl, ho2.u.1, rfl, ho2.lv, trivial⟩
  refine (E.Spec.law W (args := [(.v (.int .i64 n0)), (.v v1), (.a (E.YtcionccfgcnhoaaGreatDoor.o18L p18))]) ?_ (E.YtcionccfgcnhoaaGreatDoor.storeRefuses_spec (E.YtcionccfgcnhoaaGreatDoor.glob_met hL) hl1 hc1 ho2 hn0)).mono fun e W' ⟨he, hg⟩ => ?_
  · intro x hx
    simp only [List.mem_cons, List.not_mem_nil, or_false] at hx
    rcases hx with rfl | rfl | rfl
    · first | exact o0 | rfl | trivial
    · first | exact o1 | rfl | trivial
    · first | exact o2 | rfl | trivial
  subst he
  exact ⟨_, rfl, E.lawPost laidOut rfl rfl (by kernel_rfl) Tryz.underlying4 (by kernel_rfl) hW' hg⟩
set_option maxRecDepth 100000 in
theorem lifted (os : Os) (started : os.Started) (H : Type) (enc : TypeId × Value → H) :
    ReturnsInHanded {} Tryz.checked os 4 .any (fun w args => (Rows.storeRefusesSpec.pre enc Tryz.prog Tryz.f4 Rows.storeRefusesRow.domain false w args ∧ laidMetH Tryz.prog Rows.storeRefusesRow.laid w) ∧ sizedMet enc Tryz.prog Tryz.f4 (OpenSpec.ofChange Rows.storeRefusesSpec) false w args)
      (Rows.storeRefusesSpec.post enc Tryz.prog Tryz.f4 false true false false) := by
  refine returnsInHanded_of_change_and (C := Tryz.checked) (X := fun w _ => laidMetH Tryz.prog Rows.storeRefusesRow.laid w) (fun _ _ _ hh h => h.of_heap hh) own started (by kernel_rfl) Tryz.func4
    (ChangeSpec.witness_shaped (enc := enc) (C := Tryz.checked) (os := os) (X := fun w _ => laidMetH Tryz.prog Rows.storeRefusesRow.laid w) false (World.laidAll Tryz.prog os Rows.storeRefusesRow.laid) #[.int .i64 0, .slice none 0 0, .agg #[.int .i64 0, .string ByteArray.empty, .int .u64 0, .int .u64 0, .int .u64 0, .int .u64 0, .int .u64 0, .int .u64 0, .int .u64 0, .int .u64 0, .slice none 0 0, .slice none 0 0]] 8 (World.laidAll_os _ _ _)
      (World.shaped_of_ZipB (by kernel_rfl) (by kernel_rfl)) (by kernel_rfl) (by kernel_rfl) (by kernel_rfl)
      (by rw [MakeChecks.laidMetH_plain _ _ _ (by kernel_rfl)]; exact laidMet_laidAll _ (by kernel_rfl) (by kernel_rfl))) ?_
  intro W base args ds gs before hval0 hW hc _ hL _
  exact contract H enc W base args ds gs before hval0 hL hW
theorem over : Rows.StoreRefusesSaid :=
  OpenClaim.holds_of_wide 4 Tryz.f4 rfl rfl rfl rfl rfl rfl rfl ⟨rfl, rfl, rfl, rfl, rfl⟩ rfl rfl rfl rfl rfl (by kernel_rfl) Tryz.func4 (by kernel_rfl)
    (of_decide_eq_true (by kernel_rfl)) (by unfold Func.isWrapper; first | (rw [if_pos (by decide +kernel)]; kernel_rfl) | (rw [if_neg (by decide +kernel)]; exact ⟨rfl, rfl⟩))
    (fun os started H enc _ => lifted os started H enc)
theorem proved : Rows.StoreRefusesCardSaid :=
  Claim7.holds_tied_plain_at .later [] _ true _ true over (fun _ h => by cases h) (by kernel_rfl) (fun _ h => by cases h) storeRefuses_row_tie rfl ⟨rfl, rfl⟩ (by kernel_rfl) rfl
    (fun f fn hf hfn => by
      obtain rfl : f = 4 := Option.some.inj ((show Tryz.prog.funcNamed "maund/maundlaw18.StoreRefuses" = some 4 by kernel_rfl).symm.trans hf) |>.symm
      obtain rfl : fn = Tryz.f4 := (Option.some.inj (Tryz.func4.symm.trans hfn)).symm
      exact ⟨by kernel_rfl, fun j t ht => by
        rw [Tryz.params4] at ht
        have hm : t ∈ [3, 22, 42] := by simpa using Array.mem_of_getElem? ht
        have hall : ([3, 22, 42].all fun u => !Tryz.prog.wantsStandIn u) = true := by kernel_rfl
        exact (show Tryz.prog.wantsStandIn t = false by simpa using List.all_eq_true.1 hall t hm)⟩)
    (by kernel_rfl)
end Go.Proofs.YtcionccfgcnhoaaGreatDoor.storeRefuses
