/-
  Cfg, H, ByB, E25, Cat, Ints, Tally, TallyL
-/
import Derived.Test.YtheiididldemmaaGreatWatchNothingZ5
import Derived.Lib.AppendZerosOnto
/-
  : how the functions named here are run: made by a program.
-/
namespace Go.E.YtheiididldemmaaGreat
open Go.Proofs
set_option maxRecDepth 100000
/- maund maundlaw35.WatchNothing -/
noncomputable def c3 : Cfg := ⟨Tryz.prog, tt.get, inL [], atL [(7, ⟨.op 0 .all (.op 1 .all (.op 2 .all (.op 3 .all (.op 4 .all (.op 5 .all (.op 6 .all (.op 7 .all (.op 8 .all (.op 9 .all (.op 10 .all (.op 11 .all (.op 12 .all (.op 13 .all (.op 14 .all (.op 15 .all (.op 16 .none (.nil))))))))))))))))), [0, 0, 0, 6, 14, 30, 0, 0, 192, 448, 960, 0, 0, 6144, 14336, 30720, 65535]⟩)], inL []⟩
theorem en3 {args : List CV} {m : Mem} {R : List CV → Mem → Prop} (hlen : Nat.ble args.length Tryz.f3.ntmps = true) (h : xwp c3 (bodyOf Tryz.f3) (QRet tt.get Tryz.f3.results.toList R) ⟨initF args, [], m, []⟩) : Spec Tryz.prog 3 args m R :=
  Spec.of_body (c := c3) Tryz.func3 (by kernel_rfl) (by kernel_rfl) tt_ok wide (by kernel_rfl) hlen h
/- maund maundlaw35.Great -/
noncomputable def c4 : Cfg := ⟨Tryz.prog, tt.get, inL [], atL [], inL []⟩
theorem en4 {args : List CV} {m : Mem} {R : List CV → Mem → Prop} (hlen : Nat.ble args.length Tryz.f4.ntmps = true) (h : xwp c4 (bodyOf Tryz.f4) (QRet tt.get Tryz.f4.results.toList R) ⟨initF args, [], m, []⟩) : Spec Tryz.prog 4 args m R :=
  Spec.of_body (c := c4) Tryz.func4 (by kernel_rfl) (by kernel_rfl) tt_ok wide (by kernel_rfl) hlen h
/- maund maundlaw35.alive -/
noncomputable def c5 : Cfg := ⟨Tryz.prog, tt.get, inL [], atL [(4, ⟨.op 0 .all (.op 1 .all (.op 3 .all (.op 4 .all (.op 6 .all (.op 7 .all (.op 2 .all (.op 5 .all (.op 8 .none (.op 9 .all (.op 10 .all (.op 11 .all (.nil)))))))))))), [0, 0, 3, 0, 0, 31, 0, 0, 255, 511, 1023, 2047]⟩)], inL []⟩
theorem en5 {args : List CV} {m : Mem} {R : List CV → Mem → Prop} (hlen : Nat.ble args.length Tryz.f5.ntmps = true) (h : xwp c5 (bodyOf Tryz.f5) (QRet tt.get Tryz.f5.results.toList R) ⟨initF args, [], m, []⟩) : Spec Tryz.prog 5 args m R :=
  Spec.of_body (c := c5) Tryz.func5 (by kernel_rfl) (by kernel_rfl) tt_ok wide (by kernel_rfl) hlen h
/- maund watch.New -/
noncomputable def c6 : Cfg := ⟨Tryz.prog, tt.get, inL [3], atL [], inL []⟩
theorem en6 {args : List CV} {m : Mem} {R : List CV → Mem → Prop} (hlen : Nat.ble args.length Tryz.f6.ntmps = true) (h : xwp c6 (bodyOf Tryz.f6) (QRet tt.get Tryz.f6.results.toList R) ⟨initF args, [], m, []⟩) : Spec Tryz.prog 6 args m R :=
  Spec.of_body (c := c6) Tryz.func6 (by kernel_rfl) (by kernel_rfl) tt_ok wide (by kernel_rfl) hlen h
/- (*maund watch.Watch).Wrote -/
noncomputable def c7 : Cfg := ⟨Tryz.prog, tt.get, inL [7], atL [(13, ⟨.op 0 .all (.op 1 .all (.op 2 .all (.op 3 .all (.op 4 .all (.op 5 .all (.op 6 .all (.op 7 .all (.op 8 .all (.op 9 .all (.op 11 .all (.op 12 .all (.op 13 .all (.or (.op 10 .all (.op 14 .all (.op 15 .all (.op 16 .none (.nil))))) (.op 14 .all (.op 10 .all (.op 15 .all (.op 16 .none (.nil)))))))))))))))))), [0, 1, 3, 7, 0, 0, 32, 96, 224, 0, 992, 0, 0, 6144, 14336, 32736, 65535]⟩)], inL []⟩
theorem en7 {args : List CV} {m : Mem} {R : List CV → Mem → Prop} (hlen : Nat.ble args.length Tryz.f7.ntmps = true) (h : xwp c7 (bodyOf Tryz.f7) (QRet tt.get Tryz.f7.results.toList R) ⟨initF args, [], m, []⟩) : Spec Tryz.prog 7 args m R :=
  Spec.of_body (c := c7) Tryz.func7 (by kernel_rfl) (by kernel_rfl) tt_ok wide (by kernel_rfl) hlen h
/- (*maund watch.Watch).Whole -/
noncomputable def c8 : Cfg := ⟨Tryz.prog, tt.get, inL [], atL [], inL []⟩
theorem en8 {args : List CV} {m : Mem} {R : List CV → Mem → Prop} (hlen : Nat.ble args.length Tryz.f8.ntmps = true) (h : xwp c8 (bodyOf Tryz.f8) (QRet tt.get Tryz.f8.results.toList R) ⟨initF args, [], m, []⟩) : Spec Tryz.prog 8 args m R :=
  Spec.of_body (c := c8) Tryz.func8 (by kernel_rfl) (by kernel_rfl) tt_ok wide (by kernel_rfl) hlen h
/- (*maund watch.Watch).Right -/
noncomputable def c9 : Cfg := ⟨Tryz.prog, tt.get, inL [], atL [], inL []⟩
theorem en9 {args : List CV} {m : Mem} {R : List CV → Mem → Prop} (hlen : Nat.ble args.length Tryz.f9.ntmps = true) (h : xwp c9 (bodyOf Tryz.f9) (QRet tt.get Tryz.f9.results.toList R) ⟨initF args, [], m, []⟩) : Spec Tryz.prog 9 args m R :=
  Spec.of_body (c := c9) Tryz.func9 (by kernel_rfl) (by kernel_rfl) tt_ok wide (by kernel_rfl) hlen h
/- (*maund watch.Watch).Keys -/
noncomputable def c10 : Cfg := ⟨Tryz.prog, tt.get, inL [], atL [], inL []⟩
theorem en10 {args : List CV} {m : Mem} {R : List CV → Mem → Prop} (hlen : Nat.ble args.length Tryz.f10.ntmps = true) (h : xwp c10 (bodyOf Tryz.f10) (QRet tt.get Tryz.f10.results.toList R) ⟨initF args, [], m, []⟩) : Spec Tryz.prog 10 args m R :=
  Spec.of_body (c := c10) Tryz.func10 (by kernel_rfl) (by kernel_rfl) tt_ok wide (by kernel_rfl) hlen h
/- maund cart.Same -/
noncomputable def c11 : Cfg := ⟨Tryz.prog, tt.get, inL [], atL [], inL []⟩
theorem en11 {args : List CV} {m : Mem} {R : List CV → Mem → Prop} (hlen : Nat.ble args.length Tryz.f11.ntmps = true) (h : xwp c11 (bodyOf Tryz.f11) (QRet tt.get Tryz.f11.results.toList R) ⟨initF args, [], m, []⟩) : Spec Tryz.prog 11 args m R :=
  Spec.of_body (c := c11) Tryz.func11 (by kernel_rfl) (by kernel_rfl) tt_ok wide (by kernel_rfl) hlen h
/- (*maund watch.Watch).Len -/
noncomputable def c12 : Cfg := ⟨Tryz.prog, tt.get, inL [], atL [], inL []⟩
theorem en12 {args : List CV} {m : Mem} {R : List CV → Mem → Prop} (hlen : Nat.ble args.length Tryz.f12.ntmps = true) (h : xwp c12 (bodyOf Tryz.f12) (QRet tt.get Tryz.f12.results.toList R) ⟨initF args, [], m, []⟩) : Spec Tryz.prog 12 args m R :=
  Spec.of_body (c := c12) Tryz.func12 (by kernel_rfl) (by kernel_rfl) tt_ok wide (by kernel_rfl) hlen h
/- (*maund watch.Watch).Knows -/
noncomputable def c13 : Cfg := ⟨Tryz.prog, tt.get, inL [5], atL [], inL []⟩
theorem en13 {args : List CV} {m : Mem} {R : List CV → Mem → Prop} (hlen : Nat.ble args.length Tryz.f13.ntmps = true) (h : xwp c13 (bodyOf Tryz.f13) (QRet tt.get Tryz.f13.results.toList R) ⟨initF args, [], m, []⟩) : Spec Tryz.prog 13 args m R :=
  Spec.of_body (c := c13) Tryz.func13 (by kernel_rfl) (by kernel_rfl) tt_ok wide (by kernel_rfl) hlen h
/- (*maund watch.Watch).Events -/
noncomputable def c14 : Cfg := ⟨Tryz.prog, tt.get, inL [], atL [], inL []⟩
theorem en14 {args : List CV} {m : Mem} {R : List CV → Mem → Prop} (hlen : Nat.ble args.length Tryz.f14.ntmps = true) (h : xwp c14 (bodyOf Tryz.f14) (QRet tt.get Tryz.f14.results.toList R) ⟨initF args, [], m, []⟩) : Spec Tryz.prog 14 args m R :=
  Spec.of_body (c := c14) Tryz.func14 (by kernel_rfl) (by kernel_rfl) tt_ok wide (by kernel_rfl) hlen h
/- (*maund watch.Watch).Wrote$1 -/
noncomputable def c15 : Cfg := ⟨Tryz.prog, tt.get, inL [], atL [], inL []⟩
theorem en15 {args : List CV} {m : Mem} {R : List CV → Mem → Prop} (hlen : Nat.ble args.length Tryz.f15.ntmps = true) (h : xwp c15 (bodyOf Tryz.f15) (QRet tt.get Tryz.f15.results.toList R) ⟨initF args, [], m, []⟩) : Spec Tryz.prog 15 args m R :=
  Spec.of_body (c := c15) Tryz.func15 (by kernel_rfl) (by kernel_rfl) tt_ok wide (by kernel_rfl) hlen h
/- maund watch.adds -/
noncomputable def c16 : Cfg := ⟨Tryz.prog, tt.get, inL [], atL [], inL []⟩
theorem en16 {args : List CV} {m : Mem} {R : List CV → Mem → Prop} (hlen : Nat.ble args.length Tryz.f16.ntmps = true) (h : xwp c16 (bodyOf Tryz.f16) (QRet tt.get Tryz.f16.results.toList R) ⟨initF args, [], m, []⟩) : Spec Tryz.prog 16 args m R :=
  Spec.of_body (c := c16) Tryz.func16 (by kernel_rfl) (by kernel_rfl) tt_ok wide (by kernel_rfl) hlen h
/- maund edit.Same -/
noncomputable def c17 : Cfg := ⟨Tryz.prog, tt.get, inL [], atL [], inL []⟩
theorem en17 {args : List CV} {m : Mem} {R : List CV → Mem → Prop} (hlen : Nat.ble args.length Tryz.f17.ntmps = true) (h : xwp c17 (bodyOf Tryz.f17) (QRet tt.get Tryz.f17.results.toList R) ⟨initF args, [], m, []⟩) : Spec Tryz.prog 17 args m R :=
  Spec.of_body (c := c17) Tryz.func17 (by kernel_rfl) (by kernel_rfl) tt_ok wide (by kernel_rfl) hlen h
/- (*maund watch.Watch).made -/
noncomputable def c18 : Cfg := ⟨Tryz.prog, tt.get, inL [], atL [], inL []⟩
theorem en18 {args : List CV} {m : Mem} {R : List CV → Mem → Prop} (hlen : Nat.ble args.length Tryz.f18.ntmps = true) (h : xwp c18 (bodyOf Tryz.f18) (QRet tt.get Tryz.f18.results.toList R) ⟨initF args, [], m, []⟩) : Spec Tryz.prog 18 args m R :=
  Spec.of_body (c := c18) Tryz.func18 (by kernel_rfl) (by kernel_rfl) tt_ok wide (by kernel_rfl) hlen h
/- maund key.Right -/
noncomputable def c19 : Cfg := ⟨Tryz.prog, tt.get, inL [], atL [], inL []⟩
theorem en19 {args : List CV} {m : Mem} {R : List CV → Mem → Prop} (hlen : Nat.ble args.length Tryz.f19.ntmps = true) (h : xwp c19 (bodyOf Tryz.f19) (QRet tt.get Tryz.f19.results.toList R) ⟨initF args, [], m, []⟩) : Spec Tryz.prog 19 args m R :=
  Spec.of_body (c := c19) Tryz.func19 (by kernel_rfl) (by kernel_rfl) tt_ok wide (by kernel_rfl) hlen h
/- maund model.Right -/
noncomputable def c20 : Cfg := ⟨Tryz.prog, tt.get, inL [], atL [], inL []⟩
theorem en20 {args : List CV} {m : Mem} {R : List CV → Mem → Prop} (hlen : Nat.ble args.length Tryz.f20.ntmps = true) (h : xwp c20 (bodyOf Tryz.f20) (QRet tt.get Tryz.f20.results.toList R) ⟨initF args, [], m, []⟩) : Spec Tryz.prog 20 args m R :=
  Spec.of_body (c := c20) Tryz.func20 (by kernel_rfl) (by kernel_rfl) tt_ok wide (by kernel_rfl) hlen h
/- slices.ContainsFunc[[]maund watch.told,maund watch.told] -/
noncomputable def c21 : Cfg := ⟨Tryz.prog, tt.get, inL [], atL [], inL []⟩
theorem en21 {args : List CV} {m : Mem} {R : List CV → Mem → Prop} (hlen : Nat.ble args.length Tryz.f21.ntmps = true) (h : xwp c21 (bodyOf Tryz.f21) (QRet tt.get Tryz.f21.results.toList R) ⟨initF args, [], m, []⟩) : Spec Tryz.prog 21 args m R :=
  Spec.of_body (c := c21) Tryz.func21 (by kernel_rfl) (by kernel_rfl) tt_ok wide (by kernel_rfl) hlen h
/- slices.Clone[[]maund vec.Dot,maund vec.Dot] -/
noncomputable def c22 : Cfg := ⟨Tryz.prog, tt.get, inL [], atL [], inL []⟩
theorem en22 {args : List CV} {m : Mem} {R : List CV → Mem → Prop} (hlen : Nat.ble args.length Tryz.f22.ntmps = true) (h : xwp c22 (bodyOf Tryz.f22) (QRet tt.get Tryz.f22.results.toList R) ⟨initF args, [], m, []⟩) : Spec Tryz.prog 22 args m R :=
  Spec.of_body (c := c22) Tryz.func22 (by kernel_rfl) (by kernel_rfl) tt_ok wide (by kernel_rfl) hlen h
/- maund model.Cart -/
noncomputable def c23 : Cfg := ⟨Tryz.prog, tt.get, inL [], atL [], inL []⟩
theorem en23 {args : List CV} {m : Mem} {R : List CV → Mem → Prop} (hlen : Nat.ble args.length Tryz.f23.ntmps = true) (h : xwp c23 (bodyOf Tryz.f23) (QRet tt.get Tryz.f23.results.toList R) ⟨initF args, [], m, []⟩) : Spec Tryz.prog 23 args m R :=
  Spec.of_body (c := c23) Tryz.func23 (by kernel_rfl) (by kernel_rfl) tt_ok wide (by kernel_rfl) hlen h
/- slices.Sort[[]string,string] -/
noncomputable def c24 : Cfg := ⟨Tryz.prog, tt.get, inL [], atL [], inL []⟩
theorem en24 {args : List CV} {m : Mem} {R : List CV → Mem → Prop} (hlen : Nat.ble args.length Tryz.f24.ntmps = true) (h : xwp c24 (bodyOf Tryz.f24) (QRet tt.get Tryz.f24.results.toList R) ⟨initF args, [], m, []⟩) : Spec Tryz.prog 24 args m R :=
  Spec.of_body (c := c24) Tryz.func24 (by kernel_rfl) (by kernel_rfl) tt_ok wide (by kernel_rfl) hlen h
/- slices.Equal[[]maund cart.Entry,maund cart.Entry] -/
noncomputable def c25 : Cfg := ⟨Tryz.prog, tt.get, inL [], atL [(6, ⟨.op 0 .all (.op 1 .all (.op 2 .all (.op 3 .all (.op 4 .all (.op 5 .all (.op 6 .all (.op 7 .all (.op 8 .all (.nil))))))))), [0, 0, 3, 7, 0, 0, 48, 112, 255]⟩)], inL []⟩
theorem en25 {args : List CV} {m : Mem} {R : List CV → Mem → Prop} (hlen : Nat.ble args.length Tryz.f25.ntmps = true) (h : xwp c25 (bodyOf Tryz.f25) (QRet tt.get Tryz.f25.results.toList R) ⟨initF args, [], m, []⟩) : Spec Tryz.prog 25 args m R :=
  Spec.of_body (c := c25) Tryz.func25 (by kernel_rfl) (by kernel_rfl) tt_ok wide (by kernel_rfl) hlen h
/- slices.DeleteFunc[[]maund edit.Event,maund edit.Event] -/
noncomputable def c26 : Cfg := ⟨Tryz.prog, tt.get, inL [], atL [], inL []⟩
theorem en26 {args : List CV} {m : Mem} {R : List CV → Mem → Prop} (hlen : Nat.ble args.length Tryz.f26.ntmps = true) (h : xwp c26 (bodyOf Tryz.f26) (QRet tt.get Tryz.f26.results.toList R) ⟨initF args, [], m, []⟩) : Spec Tryz.prog 26 args m R :=
  Spec.of_body (c := c26) Tryz.func26 (by kernel_rfl) (by kernel_rfl) tt_ok wide (by kernel_rfl) hlen h
/- (*maund watch.Watch).Knows$1 -/
noncomputable def c27 : Cfg := ⟨Tryz.prog, tt.get, inL [], atL [], inL []⟩
theorem en27 {args : List CV} {m : Mem} {R : List CV → Mem → Prop} (hlen : Nat.ble args.length Tryz.f27.ntmps = true) (h : xwp c27 (bodyOf Tryz.f27) (QRet tt.get Tryz.f27.results.toList R) ⟨initF args, [], m, []⟩) : Spec Tryz.prog 27 args m R :=
  Spec.of_body (c := c27) Tryz.func27 (by kernel_rfl) (by kernel_rfl) tt_ok wide (by kernel_rfl) hlen h
/- maund watch.knows -/
noncomputable def c28 : Cfg := ⟨Tryz.prog, tt.get, inL [2], atL [], inL []⟩
theorem en28 {args : List CV} {m : Mem} {R : List CV → Mem → Prop} (hlen : Nat.ble args.length Tryz.f28.ntmps = true) (h : xwp c28 (bodyOf Tryz.f28) (QRet tt.get Tryz.f28.results.toList R) ⟨initF args, [], m, []⟩) : Spec Tryz.prog 28 args m R :=
  Spec.of_body (c := c28) Tryz.func28 (by kernel_rfl) (by kernel_rfl) tt_ok wide (by kernel_rfl) hlen h
/- maund model.Union -/
noncomputable def c29 : Cfg := ⟨Tryz.prog, tt.get, inL [], atL [], inL []⟩
theorem en29 {args : List CV} {m : Mem} {R : List CV → Mem → Prop} (hlen : Nat.ble args.length Tryz.f29.ntmps = true) (h : xwp c29 (bodyOf Tryz.f29) (QRet tt.get Tryz.f29.results.toList R) ⟨initF args, [], m, []⟩) : Spec Tryz.prog 29 args m R :=
  Spec.of_body (c := c29) Tryz.func29 (by kernel_rfl) (by kernel_rfl) tt_ok wide (by kernel_rfl) hlen h
/- maund vec.Right -/
noncomputable def c30 : Cfg := ⟨Tryz.prog, tt.get, inL [], atL [], inL []⟩
theorem en30 {args : List CV} {m : Mem} {R : List CV → Mem → Prop} (hlen : Nat.ble args.length Tryz.f30.ntmps = true) (h : xwp c30 (bodyOf Tryz.f30) (QRet tt.get Tryz.f30.results.toList R) ⟨initF args, [], m, []⟩) : Spec Tryz.prog 30 args m R :=
  Spec.of_body (c := c30) Tryz.func30 (by kernel_rfl) (by kernel_rfl) tt_ok wide (by kernel_rfl) hlen h
/- slices.Equal[[]maund vec.Dot,maund vec.Dot] -/
noncomputable def c31 : Cfg := ⟨Tryz.prog, tt.get, inL [], atL [(6, ⟨.op 0 .all (.op 1 .all (.op 2 .all (.op 3 .all (.op 4 .all (.op 5 .all (.op 6 .all (.op 7 .all (.op 8 .all (.nil))))))))), [0, 0, 3, 7, 0, 0, 48, 112, 255]⟩)], inL []⟩
theorem en31 {args : List CV} {m : Mem} {R : List CV → Mem → Prop} (hlen : Nat.ble args.length Tryz.f31.ntmps = true) (h : xwp c31 (bodyOf Tryz.f31) (QRet tt.get Tryz.f31.results.toList R) ⟨initF args, [], m, []⟩) : Spec Tryz.prog 31 args m R :=
  Spec.of_body (c := c31) Tryz.func31 (by kernel_rfl) (by kernel_rfl) tt_ok wide (by kernel_rfl) hlen h
/- maund key.isByte -/
noncomputable def c32 : Cfg := ⟨Tryz.prog, tt.get, inL [], atL [], inL []⟩
theorem en32 {args : List CV} {m : Mem} {R : List CV → Mem → Prop} (hlen : Nat.ble args.length Tryz.f32.ntmps = true) (h : xwp c32 (bodyOf Tryz.f32) (QRet tt.get Tryz.f32.results.toList R) ⟨initF args, [], m, []⟩) : Spec Tryz.prog 32 args m R :=
  Spec.of_body (c := c32) Tryz.func32 (by kernel_rfl) (by kernel_rfl) tt_ok wide (by kernel_rfl) hlen h
/- maund dots.Right -/
noncomputable def c33 : Cfg := ⟨Tryz.prog, tt.get, inL [], atL [(4, ⟨.op 0 .all (.op 1 .none (.op 2 .all (.op 3 .all (.op 4 .all (.op 5 .all (.op 6 .all (.op 7 .all (.op 8 .all (.op 9 .all (.op 10 .all (.op 11 .all (.op 12 .all (.op 13 .none (.op 14 .all (.op 15 .all (.op 16 .all (.nil))))))))))))))))), [0, 1, 3, 7, 15, 31, 63, 127, 127, 383, 1023, 2047, 127, 8191, 16383, 32767, 65535]⟩)], inL []⟩
theorem en33 {args : List CV} {m : Mem} {R : List CV → Mem → Prop} (hlen : Nat.ble args.length Tryz.f33.ntmps = true) (h : xwp c33 (bodyOf Tryz.f33) (QRet tt.get Tryz.f33.results.toList R) ⟨initF args, [], m, []⟩) : Spec Tryz.prog 33 args m R :=
  Spec.of_body (c := c33) Tryz.func33 (by kernel_rfl) (by kernel_rfl) tt_ok wide (by kernel_rfl) hlen h
/- maund dots.Has -/
noncomputable def c34 : Cfg := ⟨Tryz.prog, tt.get, inL [], atL [], inL []⟩
theorem en34 {args : List CV} {m : Mem} {R : List CV → Mem → Prop} (hlen : Nat.ble args.length Tryz.f34.ntmps = true) (h : xwp c34 (bodyOf Tryz.f34) (QRet tt.get Tryz.f34.results.toList R) ⟨initF args, [], m, []⟩) : Spec Tryz.prog 34 args m R :=
  Spec.of_body (c := c34) Tryz.func34 (by kernel_rfl) (by kernel_rfl) tt_ok wide (by kernel_rfl) hlen h
/- maund model.adds -/
noncomputable def c35 : Cfg := ⟨Tryz.prog, tt.get, inL [], atL [], inL []⟩
theorem en35 {args : List CV} {m : Mem} {R : List CV → Mem → Prop} (hlen : Nat.ble args.length Tryz.f35.ntmps = true) (h : xwp c35 (bodyOf Tryz.f35) (QRet tt.get Tryz.f35.results.toList R) ⟨initF args, [], m, []⟩) : Spec Tryz.prog 35 args m R :=
  Spec.of_body (c := c35) Tryz.func35 (by kernel_rfl) (by kernel_rfl) tt_ok wide (by kernel_rfl) hlen h
/- maund edit.May -/
noncomputable def c36 : Cfg := ⟨Tryz.prog, tt.get, inL [], atL [], inL []⟩
theorem en36 {args : List CV} {m : Mem} {R : List CV → Mem → Prop} (hlen : Nat.ble args.length Tryz.f36.ntmps = true) (h : xwp c36 (bodyOf Tryz.f36) (QRet tt.get Tryz.f36.results.toList R) ⟨initF args, [], m, []⟩) : Spec Tryz.prog 36 args m R :=
  Spec.of_body (c := c36) Tryz.func36 (by kernel_rfl) (by kernel_rfl) tt_ok wide (by kernel_rfl) hlen h
/- slices.IndexFunc[[]maund watch.told,maund watch.told] -/
noncomputable def c37 : Cfg := ⟨Tryz.prog, tt.get, inL [], atL [], inL []⟩
theorem en37 {args : List CV} {m : Mem} {R : List CV → Mem → Prop} (hlen : Nat.ble args.length Tryz.f37.ntmps = true) (h : xwp c37 (bodyOf Tryz.f37) (QRet tt.get Tryz.f37.results.toList R) ⟨initF args, [], m, []⟩) : Spec Tryz.prog 37 args m R :=
  Spec.of_body (c := c37) Tryz.func37 (by kernel_rfl) (by kernel_rfl) tt_ok wide (by kernel_rfl) hlen h
/- maund model.Whole -/
noncomputable def c38 : Cfg := ⟨Tryz.prog, tt.get, inL [3], atL [], inL []⟩
theorem en38 {args : List CV} {m : Mem} {R : List CV → Mem → Prop} (hlen : Nat.ble args.length Tryz.f38.ntmps = true) (h : xwp c38 (bodyOf Tryz.f38) (QRet tt.get Tryz.f38.results.toList R) ⟨initF args, [], m, []⟩) : Spec Tryz.prog 38 args m R :=
  Spec.of_body (c := c38) Tryz.func38 (by kernel_rfl) (by kernel_rfl) tt_ok wide (by kernel_rfl) hlen h
/- maund model.off -/
noncomputable def c39 : Cfg := ⟨Tryz.prog, tt.get, inL [], atL [], inL []⟩
theorem en39 {args : List CV} {m : Mem} {R : List CV → Mem → Prop} (hlen : Nat.ble args.length Tryz.f39.ntmps = true) (h : xwp c39 (bodyOf Tryz.f39) (QRet tt.get Tryz.f39.results.toList R) ⟨initF args, [], m, []⟩) : Spec Tryz.prog 39 args m R :=
  Spec.of_body (c := c39) Tryz.func39 (by kernel_rfl) (by kernel_rfl) tt_ok wide (by kernel_rfl) hlen h
/- maund dots.Span -/
noncomputable def c40 : Cfg := ⟨Tryz.prog, tt.get, inL [], atL [], inL []⟩
theorem en40 {args : List CV} {m : Mem} {R : List CV → Mem → Prop} (hlen : Nat.ble args.length Tryz.f40.ntmps = true) (h : xwp c40 (bodyOf Tryz.f40) (QRet tt.get Tryz.f40.results.toList R) ⟨initF args, [], m, []⟩) : Spec Tryz.prog 40 args m R :=
  Spec.of_body (c := c40) Tryz.func40 (by kernel_rfl) (by kernel_rfl) tt_ok wide (by kernel_rfl) hlen h
/- maund model.Dots -/
noncomputable def c41 : Cfg := ⟨Tryz.prog, tt.get, inL [], atL [], inL []⟩
theorem en41 {args : List CV} {m : Mem} {R : List CV → Mem → Prop} (hlen : Nat.ble args.length Tryz.f41.ntmps = true) (h : xwp c41 (bodyOf Tryz.f41) (QRet tt.get Tryz.f41.results.toList R) ⟨initF args, [], m, []⟩) : Spec Tryz.prog 41 args m R :=
  Spec.of_body (c := c41) Tryz.func41 (by kernel_rfl) (by kernel_rfl) tt_ok wide (by kernel_rfl) hlen h
/- maund cart.Order -/
noncomputable def c42 : Cfg := ⟨Tryz.prog, tt.get, inL [], atL [], inL []⟩
theorem en42 {args : List CV} {m : Mem} {R : List CV → Mem → Prop} (hlen : Nat.ble args.length Tryz.f42.ntmps = true) (h : xwp c42 (bodyOf Tryz.f42) (QRet tt.get Tryz.f42.results.toList R) ⟨initF args, [], m, []⟩) : Spec Tryz.prog 42 args m R :=
  Spec.of_body (c := c42) Tryz.func42 (by kernel_rfl) (by kernel_rfl) tt_ok wide (by kernel_rfl) hlen h
/- slices.pdqsortOrdered[string] -/
noncomputable def c43 : Cfg := ⟨Tryz.prog, tt.get, inL [], atL [(17, ⟨.op 0 .all (.op 1 .all (.op 2 .all (.op 3 .all (.op 4 .all (.op 5 .all (.op 6 .all (.op 7 .all (.op 8 .all (.op 9 .all (.op 10 .all (.op 11 .all (.op 12 .none (.op 13 .all (.op 14 .all (.nil))))))))))))))), [0, 1, 3, 7, 7, 23, 63, 127, 7, 7, 775, 1799, 4095, 8191, 16383]⟩)], inL []⟩
theorem en43 {args : List CV} {m : Mem} {R : List CV → Mem → Prop} (hlen : Nat.ble args.length Tryz.f43.ntmps = true) (h : xwp c43 (bodyOf Tryz.f43) (QRet tt.get Tryz.f43.results.toList R) ⟨initF args, [], m, []⟩) : Spec Tryz.prog 43 args m R :=
  Spec.of_body (c := c43) Tryz.func43 (by kernel_rfl) (by kernel_rfl) tt_ok wide (by kernel_rfl) hlen h
/- math bits.Len -/
noncomputable def c44 : Cfg := ⟨Tryz.prog, tt.get, inL [], atL [], inL []⟩
theorem en44 {args : List CV} {m : Mem} {R : List CV → Mem → Prop} (hlen : Nat.ble args.length Tryz.f44.ntmps = true) (h : xwp c44 (bodyOf Tryz.f44) (QRet tt.get Tryz.f44.results.toList R) ⟨initF args, [], m, []⟩) : Spec Tryz.prog 44 args m R :=
  Spec.of_body (c := c44) Tryz.func44 (by kernel_rfl) (by kernel_rfl) tt_ok wide (by kernel_rfl) hlen h
/- slices.IndexFunc[[]maund edit.Event,maund edit.Event] -/
noncomputable def c45 : Cfg := ⟨Tryz.prog, tt.get, inL [], atL [], inL []⟩
theorem en45 {args : List CV} {m : Mem} {R : List CV → Mem → Prop} (hlen : Nat.ble args.length Tryz.f45.ntmps = true) (h : xwp c45 (bodyOf Tryz.f45) (QRet tt.get Tryz.f45.results.toList R) ⟨initF args, [], m, []⟩) : Spec Tryz.prog 45 args m R :=
  Spec.of_body (c := c45) Tryz.func45 (by kernel_rfl) (by kernel_rfl) tt_ok wide (by kernel_rfl) hlen h
/- maund vec.Has -/
noncomputable def c46 : Cfg := ⟨Tryz.prog, tt.get, inL [], atL [(1, ⟨.op 0 .all (.op 1 .none (.op 2 .all (.op 3 .all (.op 4 .all (.op 5 .all (.op 7 .all (.op 8 .all (.op 6 .all (.op 9 .all (.op 10 .all (.op 11 .all (.nil)))))))))))), [0, 1, 3, 7, 7, 23, 63, 7, 135, 511, 1023, 2047]⟩)], inL []⟩
theorem en46 {args : List CV} {m : Mem} {R : List CV → Mem → Prop} (hlen : Nat.ble args.length Tryz.f46.ntmps = true) (h : xwp c46 (bodyOf Tryz.f46) (QRet tt.get Tryz.f46.results.toList R) ⟨initF args, [], m, []⟩) : Spec Tryz.prog 46 args m R :=
  Spec.of_body (c := c46) Tryz.func46 (by kernel_rfl) (by kernel_rfl) tt_ok wide (by kernel_rfl) hlen h
/- maund watch.knows$1 -/
noncomputable def c47 : Cfg := ⟨Tryz.prog, tt.get, inL [], atL [], inL []⟩
theorem en47 {args : List CV} {m : Mem} {R : List CV → Mem → Prop} (hlen : Nat.ble args.length Tryz.f47.ntmps = true) (h : xwp c47 (bodyOf Tryz.f47) (QRet tt.get Tryz.f47.results.toList R) ⟨initF args, [], m, []⟩) : Spec Tryz.prog 47 args m R :=
  Spec.of_body (c := c47) Tryz.func47 (by kernel_rfl) (by kernel_rfl) tt_ok wide (by kernel_rfl) hlen h
/- maund cart.IsOff -/
noncomputable def c48 : Cfg := ⟨Tryz.prog, tt.get, inL [3], atL [], inL []⟩
theorem en48 {args : List CV} {m : Mem} {R : List CV → Mem → Prop} (hlen : Nat.ble args.length Tryz.f48.ntmps = true) (h : xwp c48 (bodyOf Tryz.f48) (QRet tt.get Tryz.f48.results.toList R) ⟨initF args, [], m, []⟩) : Spec Tryz.prog 48 args m R :=
  Spec.of_body (c := c48) Tryz.func48 (by kernel_rfl) (by kernel_rfl) tt_ok wide (by kernel_rfl) hlen h
/- slices.ContainsFunc[[]maund vec.Dot,maund vec.Dot] -/
noncomputable def c49 : Cfg := ⟨Tryz.prog, tt.get, inL [], atL [], inL []⟩
theorem en49 {args : List CV} {m : Mem} {R : List CV → Mem → Prop} (hlen : Nat.ble args.length Tryz.f49.ntmps = true) (h : xwp c49 (bodyOf Tryz.f49) (QRet tt.get Tryz.f49.results.toList R) ⟨initF args, [], m, []⟩) : Spec Tryz.prog 49 args m R :=
  Spec.of_body (c := c49) Tryz.func49 (by kernel_rfl) (by kernel_rfl) tt_ok wide (by kernel_rfl) hlen h
/- slices.Concat[[]maund edit.Event,maund edit.Event] -/
noncomputable def c50 : Cfg := ⟨Tryz.prog, tt.get, inL [], atL [], inL []⟩
theorem en50 {args : List CV} {m : Mem} {R : List CV → Mem → Prop} (hlen : Nat.ble args.length Tryz.f50.ntmps = true) (h : xwp c50 (bodyOf Tryz.f50) (QRet tt.get Tryz.f50.results.toList R) ⟨initF args, [], m, []⟩) : Spec Tryz.prog 50 args m R :=
  Spec.of_body (c := c50) Tryz.func50 (by kernel_rfl) (by kernel_rfl) tt_ok wide (by kernel_rfl) hlen h
/- maund model.Has -/
noncomputable def c51 : Cfg := ⟨Tryz.prog, tt.get, inL [3], atL [], inL []⟩
theorem en51 {args : List CV} {m : Mem} {R : List CV → Mem → Prop} (hlen : Nat.ble args.length Tryz.f51.ntmps = true) (h : xwp c51 (bodyOf Tryz.f51) (QRet tt.get Tryz.f51.results.toList R) ⟨initF args, [], m, []⟩) : Spec Tryz.prog 51 args m R :=
  Spec.of_body (c := c51) Tryz.func51 (by kernel_rfl) (by kernel_rfl) tt_ok wide (by kernel_rfl) hlen h
/- maund vec.isNode -/
noncomputable def c52 : Cfg := ⟨Tryz.prog, tt.get, inL [], atL [], inL []⟩
theorem en52 {args : List CV} {m : Mem} {R : List CV → Mem → Prop} (hlen : Nat.ble args.length Tryz.f52.ntmps = true) (h : xwp c52 (bodyOf Tryz.f52) (QRet tt.get Tryz.f52.results.toList R) ⟨initF args, [], m, []⟩) : Spec Tryz.prog 52 args m R :=
  Spec.of_body (c := c52) Tryz.func52 (by kernel_rfl) (by kernel_rfl) tt_ok wide (by kernel_rfl) hlen h
/- maund dots.order -/
noncomputable def c53 : Cfg := ⟨Tryz.prog, tt.get, inL [], atL [], inL []⟩
theorem en53 {args : List CV} {m : Mem} {R : List CV → Mem → Prop} (hlen : Nat.ble args.length Tryz.f53.ntmps = true) (h : xwp c53 (bodyOf Tryz.f53) (QRet tt.get Tryz.f53.results.toList R) ⟨initF args, [], m, []⟩) : Spec Tryz.prog 53 args m R :=
  Spec.of_body (c := c53) Tryz.func53 (by kernel_rfl) (by kernel_rfl) tt_ok wide (by kernel_rfl) hlen h
/- slices.Contains[[]maund vec.Dot,maund vec.Dot] -/
noncomputable def c54 : Cfg := ⟨Tryz.prog, tt.get, inL [], atL [], inL []⟩
theorem en54 {args : List CV} {m : Mem} {R : List CV → Mem → Prop} (hlen : Nat.ble args.length Tryz.f54.ntmps = true) (h : xwp c54 (bodyOf Tryz.f54) (QRet tt.get Tryz.f54.results.toList R) ⟨initF args, [], m, []⟩) : Spec Tryz.prog 54 args m R :=
  Spec.of_body (c := c54) Tryz.func54 (by kernel_rfl) (by kernel_rfl) tt_ok wide (by kernel_rfl) hlen h
/- maund edit.within -/
noncomputable def c55 : Cfg := ⟨Tryz.prog, tt.get, inL [], atL [], inL []⟩
theorem en55 {args : List CV} {m : Mem} {R : List CV → Mem → Prop} (hlen : Nat.ble args.length Tryz.f55.ntmps = true) (h : xwp c55 (bodyOf Tryz.f55) (QRet tt.get Tryz.f55.results.toList R) ⟨initF args, [], m, []⟩) : Spec Tryz.prog 55 args m R :=
  Spec.of_body (c := c55) Tryz.func55 (by kernel_rfl) (by kernel_rfl) tt_ok wide (by kernel_rfl) hlen h
/- slices.ContainsFunc[[]maund edit.Event,maund edit.Event] -/
noncomputable def c56 : Cfg := ⟨Tryz.prog, tt.get, inL [], atL [], inL []⟩
theorem en56 {args : List CV} {m : Mem} {R : List CV → Mem → Prop} (hlen : Nat.ble args.length Tryz.f56.ntmps = true) (h : xwp c56 (bodyOf Tryz.f56) (QRet tt.get Tryz.f56.results.toList R) ⟨initF args, [], m, []⟩) : Spec Tryz.prog 56 args m R :=
  Spec.of_body (c := c56) Tryz.func56 (by kernel_rfl) (by kernel_rfl) tt_ok wide (by kernel_rfl) hlen h
/- maund model.Whole$1 -/
noncomputable def c57 : Cfg := ⟨Tryz.prog, tt.get, inL [], atL [], inL []⟩
theorem en57 {args : List CV} {m : Mem} {R : List CV → Mem → Prop} (hlen : Nat.ble args.length Tryz.f57.ntmps = true) (h : xwp c57 (bodyOf Tryz.f57) (QRet tt.get Tryz.f57.results.toList R) ⟨initF args, [], m, []⟩) : Spec Tryz.prog 57 args m R :=
  Spec.of_body (c := c57) Tryz.func57 (by kernel_rfl) (by kernel_rfl) tt_ok wide (by kernel_rfl) hlen h
/- maund model.clash -/
noncomputable def c58 : Cfg := ⟨Tryz.prog, tt.get, inL [4], atL [], inL []⟩
theorem en58 {args : List CV} {m : Mem} {R : List CV → Mem → Prop} (hlen : Nat.ble args.length Tryz.f58.ntmps = true) (h : xwp c58 (bodyOf Tryz.f58) (QRet tt.get Tryz.f58.results.toList R) ⟨initF args, [], m, []⟩) : Spec Tryz.prog 58 args m R :=
  Spec.of_body (c := c58) Tryz.func58 (by kernel_rfl) (by kernel_rfl) tt_ok wide (by kernel_rfl) hlen h
/- maund dots.Whole -/
noncomputable def c59 : Cfg := ⟨Tryz.prog, tt.get, inL [], atL [], inL []⟩
theorem en59 {args : List CV} {m : Mem} {R : List CV → Mem → Prop} (hlen : Nat.ble args.length Tryz.f59.ntmps = true) (h : xwp c59 (bodyOf Tryz.f59) (QRet tt.get Tryz.f59.results.toList R) ⟨initF args, [], m, []⟩) : Spec Tryz.prog 59 args m R :=
  Spec.of_body (c := c59) Tryz.func59 (by kernel_rfl) (by kernel_rfl) tt_ok wide (by kernel_rfl) hlen h
/- maund model.Whole$2 -/
noncomputable def c60 : Cfg := ⟨Tryz.prog, tt.get, inL [], atL [], inL []⟩
theorem en60 {args : List CV} {m : Mem} {R : List CV → Mem → Prop} (hlen : Nat.ble args.length Tryz.f60.ntmps = true) (h : xwp c60 (bodyOf Tryz.f60) (QRet tt.get Tryz.f60.results.toList R) ⟨initF args, [], m, []⟩) : Spec Tryz.prog 60 args m R :=
  Spec.of_body (c := c60) Tryz.func60 (by kernel_rfl) (by kernel_rfl) tt_ok wide (by kernel_rfl) hlen h
/- maund vec.With -/
noncomputable def c61 : Cfg := ⟨Tryz.prog, tt.get, inL [], atL [(2, ⟨.op 0 .all (.op 1 .all (.op 2 .all (.op 3 .all (.op 4 .all (.op 5 .all (.op 6 .all (.op 7 .all (.op 8 .all (.op 9 .all (.op 10 .all (.op 11 .all (.op 12 .none (.nil))))))))))))), [0, 1, 3, 0, 8, 24, 56, 120, 0, 256, 1016, 2047, 4095]⟩)], inL []⟩
theorem en61 {args : List CV} {m : Mem} {R : List CV → Mem → Prop} (hlen : Nat.ble args.length Tryz.f61.ntmps = true) (h : xwp c61 (bodyOf Tryz.f61) (QRet tt.get Tryz.f61.results.toList R) ⟨initF args, [], m, []⟩) : Spec Tryz.prog 61 args m R :=
  Spec.of_body (c := c61) Tryz.func61 (by kernel_rfl) (by kernel_rfl) tt_ok wide (by kernel_rfl) hlen h
/- maund dots.Of -/
noncomputable def c62 : Cfg := ⟨Tryz.prog, tt.get, inL [], atL [], inL []⟩
theorem en62 {args : List CV} {m : Mem} {R : List CV → Mem → Prop} (hlen : Nat.ble args.length Tryz.f62.ntmps = true) (h : xwp c62 (bodyOf Tryz.f62) (QRet tt.get Tryz.f62.results.toList R) ⟨initF args, [], m, []⟩) : Spec Tryz.prog 62 args m R :=
  Spec.of_body (c := c62) Tryz.func62 (by kernel_rfl) (by kernel_rfl) tt_ok wide (by kernel_rfl) hlen h
/- slices.SortedFunc[maund cart.Entry] -/
noncomputable def c63 : Cfg := ⟨Tryz.prog, tt.get, inL [], atL [], inL []⟩
theorem en63 {args : List CV} {m : Mem} {R : List CV → Mem → Prop} (hlen : Nat.ble args.length Tryz.f63.ntmps = true) (h : xwp c63 (bodyOf Tryz.f63) (QRet tt.get Tryz.f63.results.toList R) ⟨initF args, [], m, []⟩) : Spec Tryz.prog 63 args m R :=
  Spec.of_body (c := c63) Tryz.func63 (by kernel_rfl) (by kernel_rfl) tt_ok wide (by kernel_rfl) hlen h
/- slices.Values[[]maund cart.Entry,maund cart.Entry] -/
noncomputable def c64 : Cfg := ⟨Tryz.prog, tt.get, inL [1], atL [], inL []⟩
theorem en64 {args : List CV} {m : Mem} {R : List CV → Mem → Prop} (hlen : Nat.ble args.length Tryz.f64.ntmps = true) (h : xwp c64 (bodyOf Tryz.f64) (QRet tt.get Tryz.f64.results.toList R) ⟨initF args, [], m, []⟩) : Spec Tryz.prog 64 args m R :=
  Spec.of_body (c := c64) Tryz.func64 (by kernel_rfl) (by kernel_rfl) tt_ok wide (by kernel_rfl) hlen h
/- maund cart.order -/
noncomputable def c65 : Cfg := ⟨Tryz.prog, tt.get, inL [], atL [(1, ⟨.op 0 .all (.op 1 .all (.op 2 .all (.op 3 .all (.op 5 .all (.op 6 .all (.op 7 .all (.op 8 .all (.op 10 .all (.op 11 .all (.op 12 .all (.op 13 .all (.op 15 .all (.op 16 .all (.op 17 .all (.op 18 .all (.op 4 .all (.op 9 .all (.op 14 .all (.op 19 .none (.op 20 .none (.op 21 .none (.op 22 .all (.nil))))))))))))))))))))))), [0, 1, 0, 4, 15, 0, 32, 0, 128, 511, 0, 1024, 0, 4096, 16383, 0, 32768, 0, 131072, 524287, 1048575, 2097151, 4194303]⟩)], inL []⟩
theorem en65 {args : List CV} {m : Mem} {R : List CV → Mem → Prop} (hlen : Nat.ble args.length Tryz.f65.ntmps = true) (h : xwp c65 (bodyOf Tryz.f65) (QRet tt.get Tryz.f65.results.toList R) ⟨initF args, [], m, []⟩) : Spec Tryz.prog 65 args m R :=
  Spec.of_body (c := c65) Tryz.func65 (by kernel_rfl) (by kernel_rfl) tt_ok wide (by kernel_rfl) hlen h
/- slices.insertionSortOrdered[string] -/
noncomputable def c66 : Cfg := ⟨Tryz.prog, tt.get, inL [], atL [(4, ⟨.op 0 .all (.op 1 .all (.op 2 .all (.op 3 .all (.op 4 .all (.op 5 .all (.op 6 .all (.op 7 .all (.op 8 .all (.op 9 .all (.op 10 .all (.op 11 .all (.op 12 .all (.op 13 .none (.op 14 .all (.nil))))))))))))))), [0, 0, 3, 7, 15, 15, 63, 127, 15, 15, 527, 1807, 3855, 8191, 16383]⟩),
  (6, ⟨.op 0 .all (.op 1 .all (.op 2 .all (.op 3 .all (.op 4 .all (.op 5 .all (.op 6 .all (.op 7 .all (.op 8 .all (.op 9 .all (.op 10 .all (.op 11 .all (.op 12 .all (.op 13 .all (.op 14 .all (.op 15 .none (.op 16 .all (.op 17 .none (.nil)))))))))))))))))), [0, 0, 0, 0, 8, 0, 0, 64, 224, 480, 0, 0, 3072, 7168, 16355, 32739, 65535, 131071]⟩)], inL []⟩
theorem en66 {args : List CV} {m : Mem} {R : List CV → Mem → Prop} (hlen : Nat.ble args.length Tryz.f66.ntmps = true) (h : xwp c66 (bodyOf Tryz.f66) (QRet tt.get Tryz.f66.results.toList R) ⟨initF args, [], m, []⟩) : Spec Tryz.prog 66 args m R :=
  Spec.of_body (c := c66) Tryz.func66 (by kernel_rfl) (by kernel_rfl) tt_ok wide (by kernel_rfl) hlen h
/- slices.heapSortOrdered[string] -/
noncomputable def c67 : Cfg := ⟨Tryz.prog, tt.get, inL [], atL [(10, ⟨.op 0 .all (.op 1 .all (.op 2 .all (.op 3 .all (.op 4 .all (.op 5 .all (.op 6 .all (.op 7 .all (.op 8 .all (.op 9 .all (.op 10 .all (.op 11 .all (.op 12 .all (.op 13 .all (.op 14 .all (.op 15 .all (.op 16 .all (.op 17 .none (.op 18 .all (.op 19 .none (.nil)))))))))))))))))))), [0, 0, 0, 0, 0, 24, 0, 0, 0, 384, 960, 1984, 0, 0, 12288, 28672, 65475, 131011, 262143, 524287]⟩)], inL []⟩
theorem en67 {args : List CV} {m : Mem} {R : List CV → Mem → Prop} (hlen : Nat.ble args.length Tryz.f67.ntmps = true) (h : xwp c67 (bodyOf Tryz.f67) (QRet tt.get Tryz.f67.results.toList R) ⟨initF args, [], m, []⟩) : Spec Tryz.prog 67 args m R :=
  Spec.of_body (c := c67) Tryz.func67 (by kernel_rfl) (by kernel_rfl) tt_ok wide (by kernel_rfl) hlen h
/- slices.breakPatternsOrdered[string] -/
noncomputable def c68 : Cfg := ⟨Tryz.prog, tt.get, inL [], atL [(10, ⟨.op 0 .all (.op 1 .all (.op 2 .all (.op 3 .all (.op 4 .all (.op 5 .all (.op 6 .all (.op 7 .all (.op 8 .all (.op 9 .all (.op 10 .all (.op 11 .all (.op 12 .all (.op 13 .all (.op 14 .all (.op 15 .all (.op 16 .all (.op 17 .none (.op 18 .all (.op 19 .none (.nil)))))))))))))))))))), [0, 0, 0, 0, 0, 24, 0, 0, 0, 384, 960, 1984, 0, 0, 12288, 28672, 65475, 131011, 262143, 524287]⟩)], inL []⟩
theorem en68 {args : List CV} {m : Mem} {R : List CV → Mem → Prop} (hlen : Nat.ble args.length Tryz.f68.ntmps = true) (h : xwp c68 (bodyOf Tryz.f68) (QRet tt.get Tryz.f68.results.toList R) ⟨initF args, [], m, []⟩) : Spec Tryz.prog 68 args m R :=
  Spec.of_body (c := c68) Tryz.func68 (by kernel_rfl) (by kernel_rfl) tt_ok wide (by kernel_rfl) hlen h
/- slices.choosePivotOrdered[string] -/
noncomputable def c69 : Cfg := ⟨Tryz.prog, tt.get, inL [], atL [], inL []⟩
theorem en69 {args : List CV} {m : Mem} {R : List CV → Mem → Prop} (hlen : Nat.ble args.length Tryz.f69.ntmps = true) (h : xwp c69 (bodyOf Tryz.f69) (QRet tt.get Tryz.f69.results.toList R) ⟨initF args, [], m, []⟩) : Spec Tryz.prog 69 args m R :=
  Spec.of_body (c := c69) Tryz.func69 (by kernel_rfl) (by kernel_rfl) tt_ok wide (by kernel_rfl) hlen h
/- slices.reverseRangeOrdered[string] -/
noncomputable def c70 : Cfg := ⟨Tryz.prog, tt.get, inL [], atL [(3, ⟨.op 0 .all (.op 1 .all (.op 2 .all (.op 3 .all (.op 4 .all (.op 5 .all (.op 6 .all (.op 7 .all (.op 8 .all (.op 9 .all (.op 10 .all (.op 11 .all (.op 12 .all (.op 13 .none (.op 14 .all (.op 15 .none (.nil)))))))))))))))), [0, 0, 0, 0, 0, 0, 48, 112, 0, 0, 768, 1792, 4083, 8179, 16383, 32767]⟩)], inL []⟩
theorem en70 {args : List CV} {m : Mem} {R : List CV → Mem → Prop} (hlen : Nat.ble args.length Tryz.f70.ntmps = true) (h : xwp c70 (bodyOf Tryz.f70) (QRet tt.get Tryz.f70.results.toList R) ⟨initF args, [], m, []⟩) : Spec Tryz.prog 70 args m R :=
  Spec.of_body (c := c70) Tryz.func70 (by kernel_rfl) (by kernel_rfl) tt_ok wide (by kernel_rfl) hlen h
/- slices.partialInsertionSortOrdered[string] -/
noncomputable def c71 : Cfg := ⟨Tryz.prog, tt.get, inL [], atL [(5, ⟨.op 0 .all (.op 1 .all (.op 2 .all (.op 3 .all (.op 4 .all (.op 5 .all (.op 6 .all (.op 7 .all (.op 8 .all (.op 9 .all (.op 10 .all (.op 11 .all (.op 12 .all (.op 13 .none (.op 14 .all (.op 15 .all (.nil)))))))))))))))), [0, 0, 3, 7, 15, 15, 63, 127, 15, 15, 527, 1807, 3855, 8191, 16383, 32767]⟩),
  (11, ⟨.op 0 .all (.op 1 .all (.op 2 .all (.op 3 .all (.op 4 .all (.op 5 .all (.op 6 .all (.op 7 .all (.op 8 .all (.op 9 .all (.op 10 .all (.op 11 .all (.op 12 .all (.op 13 .all (.op 14 .all (.op 15 .none (.op 16 .all (.op 17 .none (.nil)))))))))))))))))), [0, 0, 0, 0, 8, 0, 0, 64, 224, 480, 0, 0, 3072, 7168, 16355, 32739, 65535, 131071]⟩),
  (16, ⟨.op 0 .all (.op 1 .all (.op 2 .all (.op 3 .all (.op 4 .all (.op 5 .all (.op 6 .all (.op 7 .all (.op 8 .all (.op 9 .none (.op 10 .all (.nil))))))))))), [0, 0, 3, 7, 0, 0, 32, 112, 240, 511, 1023]⟩),
  (17, ⟨.op 0 .all (.op 1 .all (.op 2 .all (.op 3 .all (.op 4 .all (.op 5 .all (.op 6 .all (.op 7 .all (.op 8 .all (.op 9 .all (.op 10 .all (.op 11 .all (.op 12 .all (.op 13 .all (.op 14 .all (.op 15 .none (.op 16 .all (.op 17 .none (.nil)))))))))))))))))), [0, 0, 0, 0, 8, 0, 0, 64, 224, 480, 0, 0, 3072, 7168, 16355, 32739, 65535, 131071]⟩),
  (22, ⟨.op 0 .all (.op 1 .all (.op 2 .all (.op 3 .all (.op 4 .all (.op 5 .all (.op 6 .all (.op 7 .all (.op 8 .all (.op 9 .none (.op 10 .all (.nil))))))))))), [0, 0, 3, 7, 0, 0, 32, 112, 240, 511, 1023]⟩),
  (23, ⟨.op 0 .all (.op 1 .all (.op 2 .all (.op 3 .all (.op 4 .all (.op 5 .all (.op 6 .all (.op 7 .all (.op 8 .all (.op 9 .all (.op 10 .all (.op 11 .all (.op 12 .all (.op 13 .all (.op 14 .all (.op 15 .none (.op 16 .all (.op 17 .none (.nil)))))))))))))))))), [0, 0, 0, 0, 8, 0, 0, 64, 224, 480, 0, 0, 3072, 7168, 16355, 32739, 65535, 131071]⟩)], inL []⟩
theorem en71 {args : List CV} {m : Mem} {R : List CV → Mem → Prop} (hlen : Nat.ble args.length Tryz.f71.ntmps = true) (h : xwp c71 (bodyOf Tryz.f71) (QRet tt.get Tryz.f71.results.toList R) ⟨initF args, [], m, []⟩) : Spec Tryz.prog 71 args m R :=
  Spec.of_body (c := c71) Tryz.func71 (by kernel_rfl) (by kernel_rfl) tt_ok wide (by kernel_rfl) hlen h
/- cmp.Less[string] -/
noncomputable def c72 : Cfg := ⟨Tryz.prog, tt.get, inL [], atL [], inL []⟩
theorem en72 {args : List CV} {m : Mem} {R : List CV → Mem → Prop} (hlen : Nat.ble args.length Tryz.f72.ntmps = true) (h : xwp c72 (bodyOf Tryz.f72) (QRet tt.get Tryz.f72.results.toList R) ⟨initF args, [], m, []⟩) : Spec Tryz.prog 72 args m R :=
  Spec.of_body (c := c72) Tryz.func72 (by kernel_rfl) (by kernel_rfl) tt_ok wide (by kernel_rfl) hlen h
/- slices.partitionEqualOrdered[string] -/
noncomputable def c73 : Cfg := ⟨Tryz.prog, tt.get, inL [], atL [(1, ⟨.op 0 .all (.op 1 .all (.op 2 .all (.op 3 .all (.op 4 .all (.op 5 .all (.op 6 .all (.op 7 .all (.op 8 .all (.op 9 .all (.op 10 .all (.op 11 .all (.op 12 .all (.op 13 .none (.op 14 .all (.op 15 .none (.nil)))))))))))))))), [0, 0, 0, 0, 0, 0, 48, 112, 0, 0, 768, 1792, 4083, 8179, 16383, 32767]⟩),
  (3, ⟨.op 0 .all (.op 1 .all (.op 2 .all (.op 3 .all (.op 4 .all (.op 5 .all (.op 6 .all (.op 7 .all (.op 8 .all (.op 9 .all (.op 10 .all (.op 11 .all (.op 12 .none (.op 13 .all (.op 14 .all (.nil))))))))))))))), [0, 0, 3, 7, 15, 15, 63, 127, 15, 15, 783, 1807, 4095, 8191, 16383]⟩),
  (5, ⟨.op 0 .all (.op 1 .all (.op 2 .all (.op 3 .all (.op 4 .all (.op 5 .all (.op 6 .all (.op 7 .all (.op 8 .all (.op 9 .all (.op 10 .all (.op 11 .all (.op 12 .none (.op 13 .all (.nil)))))))))))))), [0, 0, 3, 7, 15, 15, 63, 127, 15, 15, 783, 1807, 4095, 8191]⟩),
  (8, ⟨.op 0 .all (.op 1 .all (.op 2 .all (.op 3 .all (.op 4 .all (.op 5 .all (.op 6 .all (.op 7 .all (.op 8 .all (.op 9 .all (.op 10 .all (.op 11 .all (.op 12 .all (.op 13 .none (.op 14 .all (.op 15 .none (.nil)))))))))))))))), [0, 0, 0, 0, 0, 0, 48, 112, 0, 0, 768, 1792, 4083, 8179, 16383, 32767]⟩)], inL []⟩
theorem en73 {args : List CV} {m : Mem} {R : List CV → Mem → Prop} (hlen : Nat.ble args.length Tryz.f73.ntmps = true) (h : xwp c73 (bodyOf Tryz.f73) (QRet tt.get Tryz.f73.results.toList R) ⟨initF args, [], m, []⟩) : Spec Tryz.prog 73 args m R :=
  Spec.of_body (c := c73) Tryz.func73 (by kernel_rfl) (by kernel_rfl) tt_ok wide (by kernel_rfl) hlen h
/- slices.partitionOrdered[string] -/
noncomputable def c74 : Cfg := ⟨Tryz.prog, tt.get, inL [], atL [(1, ⟨.op 0 .all (.op 1 .all (.op 2 .all (.op 3 .all (.op 4 .all (.op 5 .all (.op 6 .all (.op 7 .all (.op 8 .all (.op 9 .all (.op 10 .all (.op 11 .all (.op 12 .all (.op 13 .none (.op 14 .all (.op 15 .none (.nil)))))))))))))))), [0, 0, 0, 0, 0, 0, 48, 112, 0, 0, 768, 1792, 4083, 8179, 16383, 32767]⟩),
  (3, ⟨.op 0 .all (.op 1 .all (.op 2 .all (.op 3 .all (.op 4 .all (.op 5 .all (.op 6 .all (.op 7 .all (.op 8 .all (.op 9 .all (.op 10 .all (.op 11 .all (.op 12 .none (.op 13 .all (.nil)))))))))))))), [0, 0, 3, 7, 15, 15, 63, 127, 15, 15, 783, 1807, 4095, 8191]⟩),
  (5, ⟨.op 0 .all (.op 1 .all (.op 2 .all (.op 3 .all (.op 4 .all (.op 5 .all (.op 6 .all (.op 7 .all (.op 8 .all (.op 9 .all (.op 10 .all (.op 11 .all (.op 12 .none (.op 13 .all (.op 14 .all (.nil))))))))))))))), [0, 0, 3, 7, 15, 15, 63, 127, 15, 15, 783, 1807, 4095, 8191, 16383]⟩),
  (8, ⟨.op 0 .all (.op 1 .all (.op 2 .all (.op 3 .all (.op 4 .all (.op 5 .all (.op 6 .all (.op 7 .all (.op 8 .all (.op 9 .all (.op 10 .all (.op 11 .all (.op 12 .all (.op 13 .none (.op 14 .all (.op 15 .none (.nil)))))))))))))))), [0, 0, 0, 0, 0, 0, 48, 112, 0, 0, 768, 1792, 4083, 8179, 16383, 32767]⟩),
  (10, ⟨.op 0 .all (.op 1 .all (.op 2 .all (.op 3 .all (.op 4 .all (.op 5 .all (.op 6 .all (.op 7 .all (.op 8 .all (.op 9 .all (.op 10 .all (.op 11 .all (.op 12 .all (.op 13 .none (.op 14 .all (.op 15 .none (.nil)))))))))))))))), [0, 0, 0, 0, 0, 0, 48, 112, 0, 0, 768, 1792, 4083, 8179, 16383, 32767]⟩),
  (13, ⟨.op 0 .all (.op 1 .all (.op 2 .all (.op 3 .all (.op 4 .all (.op 5 .all (.op 6 .all (.op 7 .all (.op 8 .all (.op 9 .all (.op 10 .all (.op 11 .all (.op 12 .none (.op 13 .all (.nil)))))))))))))), [0, 0, 3, 7, 15, 15, 63, 127, 15, 15, 783, 1807, 4095, 8191]⟩),
  (15, ⟨.op 0 .all (.op 1 .all (.op 2 .all (.op 3 .all (.op 4 .all (.op 5 .all (.op 6 .all (.op 7 .all (.op 8 .all (.op 9 .all (.op 10 .all (.op 11 .all (.op 12 .none (.op 13 .all (.op 14 .all (.nil))))))))))))))), [0, 0, 3, 7, 15, 15, 63, 127, 15, 15, 783, 1807, 4095, 8191, 16383]⟩),
  (18, ⟨.op 0 .all (.op 1 .all (.op 2 .all (.op 3 .all (.op 4 .all (.op 5 .all (.op 6 .all (.op 7 .all (.op 8 .all (.op 9 .all (.op 10 .all (.op 11 .all (.op 12 .all (.op 13 .none (.op 14 .all (.op 15 .none (.nil)))))))))))))))), [0, 0, 0, 0, 0, 0, 48, 112, 0, 0, 768, 1792, 4083, 8179, 16383, 32767]⟩),
  (21, ⟨.op 0 .all (.op 1 .all (.op 2 .all (.op 3 .all (.op 4 .all (.op 5 .all (.op 6 .all (.op 7 .all (.op 8 .all (.op 9 .all (.op 10 .all (.op 11 .all (.op 12 .all (.op 13 .none (.op 14 .all (.op 15 .none (.nil)))))))))))))))), [0, 0, 0, 0, 0, 0, 48, 112, 0, 0, 768, 1792, 4083, 8179, 16383, 32767]⟩)], inL []⟩
theorem en74 {args : List CV} {m : Mem} {R : List CV → Mem → Prop} (hlen : Nat.ble args.length Tryz.f74.ntmps = true) (h : xwp c74 (bodyOf Tryz.f74) (QRet tt.get Tryz.f74.results.toList R) ⟨initF args, [], m, []⟩) : Spec Tryz.prog 74 args m R :=
  Spec.of_body (c := c74) Tryz.func74 (by kernel_rfl) (by kernel_rfl) tt_ok wide (by kernel_rfl) hlen h
/- math bits.Len32 -/
noncomputable def c75 : Cfg := ⟨Tryz.prog, tt.get, inL [], atL [], inL []⟩
theorem en75 {args : List CV} {m : Mem} {R : List CV → Mem → Prop} (hlen : Nat.ble args.length Tryz.f75.ntmps = true) (h : xwp c75 (bodyOf Tryz.f75) (QRet tt.get Tryz.f75.results.toList R) ⟨initF args, [], m, []⟩) : Spec Tryz.prog 75 args m R :=
  Spec.of_body (c := c75) Tryz.func75 (by kernel_rfl) (by kernel_rfl) tt_ok wide (by kernel_rfl) hlen h
/- math bits.Len64 -/
noncomputable def c76 : Cfg := ⟨Tryz.prog, tt.get, inL [], atL [], inL []⟩
theorem en76 {args : List CV} {m : Mem} {R : List CV → Mem → Prop} (hlen : Nat.ble args.length Tryz.f76.ntmps = true) (h : xwp c76 (bodyOf Tryz.f76) (QRet tt.get Tryz.f76.results.toList R) ⟨initF args, [], m, []⟩) : Spec Tryz.prog 76 args m R :=
  Spec.of_body (c := c76) Tryz.func76 (by kernel_rfl) (by kernel_rfl) tt_ok wide (by kernel_rfl) hlen h
/- maund vec.Get -/
noncomputable def c77 : Cfg := ⟨Tryz.prog, tt.get, inL [], atL [], inL []⟩
theorem en77 {args : List CV} {m : Mem} {R : List CV → Mem → Prop} (hlen : Nat.ble args.length Tryz.f77.ntmps = true) (h : xwp c77 (bodyOf Tryz.f77) (QRet tt.get Tryz.f77.results.toList R) ⟨initF args, [], m, []⟩) : Spec Tryz.prog 77 args m R :=
  Spec.of_body (c := c77) Tryz.func77 (by kernel_rfl) (by kernel_rfl) tt_ok wide (by kernel_rfl) hlen h
/- maund cart.IsOff$1 -/
noncomputable def c78 : Cfg := ⟨Tryz.prog, tt.get, inL [], atL [(1, ⟨.op 0 .all (.op 2 .all (.op 1 .all (.op 3 .all (.op 4 .all (.nil))))), [0, 1, 0, 7, 15]⟩)], inL []⟩
theorem en78 {args : List CV} {m : Mem} {R : List CV → Mem → Prop} (hlen : Nat.ble args.length Tryz.f78.ntmps = true) (h : xwp c78 (bodyOf Tryz.f78) (QRet tt.get Tryz.f78.results.toList R) ⟨initF args, [], m, []⟩) : Spec Tryz.prog 78 args m R :=
  Spec.of_body (c := c78) Tryz.func78 (by kernel_rfl) (by kernel_rfl) tt_ok wide (by kernel_rfl) hlen h
/- maund cart.Dot -/
noncomputable def c79 : Cfg := ⟨Tryz.prog, tt.get, inL [], atL [], inL []⟩
theorem en79 {args : List CV} {m : Mem} {R : List CV → Mem → Prop} (hlen : Nat.ble args.length Tryz.f79.ntmps = true) (h : xwp c79 (bodyOf Tryz.f79) (QRet tt.get Tryz.f79.results.toList R) ⟨initF args, [], m, []⟩) : Spec Tryz.prog 79 args m R :=
  Spec.of_body (c := c79) Tryz.func79 (by kernel_rfl) (by kernel_rfl) tt_ok wide (by kernel_rfl) hlen h
/- slices.ContainsFunc[[]maund cart.Entry,maund cart.Entry] -/
noncomputable def c80 : Cfg := ⟨Tryz.prog, tt.get, inL [], atL [], inL []⟩
theorem en80 {args : List CV} {m : Mem} {R : List CV → Mem → Prop} (hlen : Nat.ble args.length Tryz.f80.ntmps = true) (h : xwp c80 (bodyOf Tryz.f80) (QRet tt.get Tryz.f80.results.toList R) ⟨initF args, [], m, []⟩) : Spec Tryz.prog 80 args m R :=
  Spec.of_body (c := c80) Tryz.func80 (by kernel_rfl) (by kernel_rfl) tt_ok wide (by kernel_rfl) hlen h
/- slices.IndexFunc[[]maund vec.Dot,maund vec.Dot] -/
noncomputable def c81 : Cfg := ⟨Tryz.prog, tt.get, inL [], atL [], inL []⟩
theorem en81 {args : List CV} {m : Mem} {R : List CV → Mem → Prop} (hlen : Nat.ble args.length Tryz.f81.ntmps = true) (h : xwp c81 (bodyOf Tryz.f81) (QRet tt.get Tryz.f81.results.toList R) ⟨initF args, [], m, []⟩) : Spec Tryz.prog 81 args m R :=
  Spec.of_body (c := c81) Tryz.func81 (by kernel_rfl) (by kernel_rfl) tt_ok wide (by kernel_rfl) hlen h
/- slices.Grow[[]maund edit.Event,maund edit.Event] -/
noncomputable def c82 : Cfg := ⟨Tryz.prog, tt.get, inL [], atL [], inL []⟩
theorem en82 {args : List CV} {m : Mem} {R : List CV → Mem → Prop} (hlen : Nat.ble args.length Tryz.f82.ntmps = true) (h : xwp c82 (bodyOf Tryz.f82) (QRet tt.get Tryz.f82.results.toList R) ⟨initF args, [], m, []⟩) : Spec Tryz.prog 82 args m R :=
  Spec.of_body (c := c82) Tryz.func82 (by kernel_rfl) (by kernel_rfl) tt_ok wide (by kernel_rfl) hlen h
/- maund model.Has$1 -/
noncomputable def c83 : Cfg := ⟨Tryz.prog, tt.get, inL [], atL [], inL []⟩
theorem en83 {args : List CV} {m : Mem} {R : List CV → Mem → Prop} (hlen : Nat.ble args.length Tryz.f83.ntmps = true) (h : xwp c83 (bodyOf Tryz.f83) (QRet tt.get Tryz.f83.results.toList R) ⟨initF args, [], m, []⟩) : Spec Tryz.prog 83 args m R :=
  Spec.of_body (c := c83) Tryz.func83 (by kernel_rfl) (by kernel_rfl) tt_ok wide (by kernel_rfl) hlen h
/- maund vec.Less -/
noncomputable def c84 : Cfg := ⟨Tryz.prog, tt.get, inL [], atL [(1, ⟨.op 0 .all (.op 1 .all (.op 2 .all (.op 3 .all (.op 5 .all (.op 6 .all (.op 7 .all (.op 8 .all (.op 4 .all (.op 9 .none (.op 10 .none (.op 11 .none (.op 12 .all (.op 13 .all (.nil)))))))))))))), [0, 1, 0, 4, 15, 0, 32, 0, 128, 511, 1023, 2047, 4095, 8191]⟩)], inL []⟩
theorem en84 {args : List CV} {m : Mem} {R : List CV → Mem → Prop} (hlen : Nat.ble args.length Tryz.f84.ntmps = true) (h : xwp c84 (bodyOf Tryz.f84) (QRet tt.get Tryz.f84.results.toList R) ⟨initF args, [], m, []⟩) : Spec Tryz.prog 84 args m R :=
  Spec.of_body (c := c84) Tryz.func84 (by kernel_rfl) (by kernel_rfl) tt_ok wide (by kernel_rfl) hlen h
/- slices.Index[[]maund vec.Dot,maund vec.Dot] -/
noncomputable def c85 : Cfg := ⟨Tryz.prog, tt.get, inL [], atL [(4, ⟨.op 0 .all (.op 1 .all (.op 2 .all (.op 3 .all (.op 4 .all (.op 5 .all (.nil)))))), [0, 0, 0, 6, 14, 31]⟩)], inL []⟩
theorem en85 {args : List CV} {m : Mem} {R : List CV → Mem → Prop} (hlen : Nat.ble args.length Tryz.f85.ntmps = true) (h : xwp c85 (bodyOf Tryz.f85) (QRet tt.get Tryz.f85.results.toList R) ⟨initF args, [], m, []⟩) : Spec Tryz.prog 85 args m R :=
  Spec.of_body (c := c85) Tryz.func85 (by kernel_rfl) (by kernel_rfl) tt_ok wide (by kernel_rfl) hlen h
/- maund model.clash$1 -/
noncomputable def c86 : Cfg := ⟨Tryz.prog, tt.get, inL [], atL [], inL []⟩
theorem en86 {args : List CV} {m : Mem} {R : List CV → Mem → Prop} (hlen : Nat.ble args.length Tryz.f86.ntmps = true) (h : xwp c86 (bodyOf Tryz.f86) (QRet tt.get Tryz.f86.results.toList R) ⟨initF args, [], m, []⟩) : Spec Tryz.prog 86 args m R :=
  Spec.of_body (c := c86) Tryz.func86 (by kernel_rfl) (by kernel_rfl) tt_ok wide (by kernel_rfl) hlen h
/- maund vec.Next -/
noncomputable def c87 : Cfg := ⟨Tryz.prog, tt.get, inL [], atL [], inL []⟩
theorem en87 {args : List CV} {m : Mem} {R : List CV → Mem → Prop} (hlen : Nat.ble args.length Tryz.f87.ntmps = true) (h : xwp c87 (bodyOf Tryz.f87) (QRet tt.get Tryz.f87.results.toList R) ⟨initF args, [], m, []⟩) : Spec Tryz.prog 87 args m R :=
  Spec.of_body (c := c87) Tryz.func87 (by kernel_rfl) (by kernel_rfl) tt_ok wide (by kernel_rfl) hlen h
/- maund dots.set -/
noncomputable def c88 : Cfg := ⟨Tryz.prog, tt.get, inL [3, 4], atL [], inL []⟩
theorem en88 {args : List CV} {m : Mem} {R : List CV → Mem → Prop} (hlen : Nat.ble args.length Tryz.f88.ntmps = true) (h : xwp c88 (bodyOf Tryz.f88) (QRet tt.get Tryz.f88.results.toList R) ⟨initF args, [], m, []⟩) : Spec Tryz.prog 88 args m R :=
  Spec.of_body (c := c88) Tryz.func88 (by kernel_rfl) (by kernel_rfl) tt_ok wide (by kernel_rfl) hlen h
/- slices.Values[[]maund vec.Dot,maund vec.Dot] -/
noncomputable def c89 : Cfg := ⟨Tryz.prog, tt.get, inL [1], atL [], inL []⟩
theorem en89 {args : List CV} {m : Mem} {R : List CV → Mem → Prop} (hlen : Nat.ble args.length Tryz.f89.ntmps = true) (h : xwp c89 (bodyOf Tryz.f89) (QRet tt.get Tryz.f89.results.toList R) ⟨initF args, [], m, []⟩) : Spec Tryz.prog 89 args m R :=
  Spec.of_body (c := c89) Tryz.func89 (by kernel_rfl) (by kernel_rfl) tt_ok wide (by kernel_rfl) hlen h
/- slices.Collect[maund cart.Entry] -/
noncomputable def c90 : Cfg := ⟨Tryz.prog, tt.get, inL [], atL [], inL []⟩
theorem en90 {args : List CV} {m : Mem} {R : List CV → Mem → Prop} (hlen : Nat.ble args.length Tryz.f90.ntmps = true) (h : xwp c90 (bodyOf Tryz.f90) (QRet tt.get Tryz.f90.results.toList R) ⟨initF args, [], m, []⟩) : Spec Tryz.prog 90 args m R :=
  Spec.of_body (c := c90) Tryz.func90 (by kernel_rfl) (by kernel_rfl) tt_ok wide (by kernel_rfl) hlen h
/- slices.SortFunc[[]maund cart.Entry,maund cart.Entry] -/
noncomputable def c91 : Cfg := ⟨Tryz.prog, tt.get, inL [], atL [], inL []⟩
theorem en91 {args : List CV} {m : Mem} {R : List CV → Mem → Prop} (hlen : Nat.ble args.length Tryz.f91.ntmps = true) (h : xwp c91 (bodyOf Tryz.f91) (QRet tt.get Tryz.f91.results.toList R) ⟨initF args, [], m, []⟩) : Spec Tryz.prog 91 args m R :=
  Spec.of_body (c := c91) Tryz.func91 (by kernel_rfl) (by kernel_rfl) tt_ok wide (by kernel_rfl) hlen h
/- slices.Values[[]maund cart.Entry,maund cart.Entry]$1 -/
noncomputable def c92 : Cfg := ⟨Tryz.prog, tt.get, inL [], atL [], inL []⟩
theorem en92 {args : List CV} {m : Mem} {R : List CV → Mem → Prop} (hlen : Nat.ble args.length Tryz.f92.ntmps = true) (h : xwp c92 (bodyOf Tryz.f92) (QRet tt.get Tryz.f92.results.toList R) ⟨initF args, [], m, []⟩) : Spec Tryz.prog 92 args m R :=
  Spec.of_body (c := c92) Tryz.func92 (by kernel_rfl) (by kernel_rfl) tt_ok wide (by kernel_rfl) hlen h
/- cmp.Or[int] -/
noncomputable def c93 : Cfg := ⟨Tryz.prog, tt.get, inL [], atL [], inL []⟩
theorem en93 {args : List CV} {m : Mem} {R : List CV → Mem → Prop} (hlen : Nat.ble args.length Tryz.f93.ntmps = true) (h : xwp c93 (bodyOf Tryz.f93) (QRet tt.get Tryz.f93.results.toList R) ⟨initF args, [], m, []⟩) : Spec Tryz.prog 93 args m R :=
  Spec.of_body (c := c93) Tryz.func93 (by kernel_rfl) (by kernel_rfl) tt_ok wide (by kernel_rfl) hlen h
/- cmp.Compare[int] -/
noncomputable def c94 : Cfg := ⟨Tryz.prog, tt.get, inL [], atL [], inL []⟩
theorem en94 {args : List CV} {m : Mem} {R : List CV → Mem → Prop} (hlen : Nat.ble args.length Tryz.f94.ntmps = true) (h : xwp c94 (bodyOf Tryz.f94) (QRet tt.get Tryz.f94.results.toList R) ⟨initF args, [], m, []⟩) : Spec Tryz.prog 94 args m R :=
  Spec.of_body (c := c94) Tryz.func94 (by kernel_rfl) (by kernel_rfl) tt_ok wide (by kernel_rfl) hlen h
/- cmp.Compare[uint64] -/
noncomputable def c95 : Cfg := ⟨Tryz.prog, tt.get, inL [], atL [], inL []⟩
theorem en95 {args : List CV} {m : Mem} {R : List CV → Mem → Prop} (hlen : Nat.ble args.length Tryz.f95.ntmps = true) (h : xwp c95 (bodyOf Tryz.f95) (QRet tt.get Tryz.f95.results.toList R) ⟨initF args, [], m, []⟩) : Spec Tryz.prog 95 args m R :=
  Spec.of_body (c := c95) Tryz.func95 (by kernel_rfl) (by kernel_rfl) tt_ok wide (by kernel_rfl) hlen h
/- slices.siftDownOrdered[string] -/
noncomputable def c96 : Cfg := ⟨Tryz.prog, tt.get, inL [], atL [(3, ⟨.op 0 .all (.op 1 .all (.op 2 .all (.op 3 .all (.op 4 .all (.op 5 .all (.op 6 .all (.op 7 .all (.op 8 .all (.op 9 .all (.op 10 .all (.op 11 .all (.op 12 .all (.op 13 .all (.op 14 .all (.op 15 .all (.op 16 .all (.op 17 .all (.op 18 .none (.op 19 .all (.nil)))))))))))))))))))), [0, 1, 0, 7, 15, 31, 31, 31, 223, 511, 1023, 31, 31, 31, 12319, 28703, 63519, 129055, 262143, 524287]⟩),
  (5, ⟨.op 0 .all (.op 1 .all (.op 2 .all (.op 3 .all (.op 4 .all (.op 5 .all (.op 6 .all (.op 7 .all (.op 8 .all (.op 9 .all (.op 10 .all (.op 11 .all (.op 12 .none (.op 13 .all (.nil)))))))))))))), [0, 0, 0, 6, 15, 31, 0, 0, 0, 384, 960, 1984, 4095, 8191]⟩),
  (6, ⟨.op 0 .all (.op 1 .all (.op 2 .all (.op 3 .all (.op 4 .all (.op 5 .all (.op 6 .all (.op 7 .all (.op 8 .all (.op 9 .all (.op 10 .all (.op 11 .all (.op 12 .all (.op 13 .all (.op 14 .all (.op 15 .all (.op 16 .all (.op 17 .all (.op 18 .all (.op 19 .all (.op 20 .all (.op 21 .none (.op 22 .all (.op 23 .none (.nil)))))))))))))))))))))))), [0, 0, 0, 6, 0, 0, 0, 96, 0, 0, 0, 1536, 3840, 7936, 0, 0, 0, 98304, 245760, 507904, 1048335, 2096911, 4194303, 8388607]⟩)], inL []⟩
theorem en96 {args : List CV} {m : Mem} {R : List CV → Mem → Prop} (hlen : Nat.ble args.length Tryz.f96.ntmps = true) (h : xwp c96 (bodyOf Tryz.f96) (QRet tt.get Tryz.f96.results.toList R) ⟨initF args, [], m, []⟩) : Spec Tryz.prog 96 args m R :=
  Spec.of_body (c := c96) Tryz.func96 (by kernel_rfl) (by kernel_rfl) tt_ok wide (by kernel_rfl) hlen h
/- slices.nextPowerOfTwo -/
noncomputable def c97 : Cfg := ⟨Tryz.prog, tt.get, inL [], atL [], inL []⟩
theorem en97 {args : List CV} {m : Mem} {R : List CV → Mem → Prop} (hlen : Nat.ble args.length Tryz.f97.ntmps = true) (h : xwp c97 (bodyOf Tryz.f97) (QRet tt.get Tryz.f97.results.toList R) ⟨initF args, [], m, []⟩) : Spec Tryz.prog 97 args m R :=
  Spec.of_body (c := c97) Tryz.func97 (by kernel_rfl) (by kernel_rfl) tt_ok wide (by kernel_rfl) hlen h
/- (*slices.xorshift).Next -/
noncomputable def c98 : Cfg := ⟨Tryz.prog, tt.get, inL [], atL [(1, ⟨.op 0 .all (.op 1 .all (.op 2 .all (.op 3 .all (.op 4 .all (.op 5 .all (.op 6 .all (.op 7 .all (.op 8 .all (.op 9 .none (.nil)))))))))), [0, 1, 3, 0, 8, 24, 56, 127, 255, 511]⟩),
  (2, ⟨.op 0 .all (.op 1 .all (.op 2 .all (.op 3 .all (.op 4 .all (.op 5 .all (.op 6 .all (.op 7 .all (.op 8 .all (.op 9 .none (.nil)))))))))), [0, 1, 3, 0, 8, 24, 56, 127, 255, 511]⟩),
  (3, ⟨.op 0 .all (.op 1 .all (.op 2 .all (.op 3 .all (.op 4 .all (.op 5 .all (.op 6 .all (.op 7 .all (.op 8 .all (.op 9 .none (.nil)))))))))), [0, 1, 3, 0, 8, 24, 56, 127, 255, 511]⟩)], inL []⟩
theorem en98 {args : List CV} {m : Mem} {R : List CV → Mem → Prop} (hlen : Nat.ble args.length Tryz.f98.ntmps = true) (h : xwp c98 (bodyOf Tryz.f98) (QRet tt.get Tryz.f98.results.toList R) ⟨initF args, [], m, []⟩) : Spec Tryz.prog 98 args m R :=
  Spec.of_body (c := c98) Tryz.func98 (by kernel_rfl) (by kernel_rfl) tt_ok wide (by kernel_rfl) hlen h
/- slices.medianAdjacentOrdered[string] -/
noncomputable def c99 : Cfg := ⟨Tryz.prog, tt.get, inL [], atL [], inL []⟩
theorem en99 {args : List CV} {m : Mem} {R : List CV → Mem → Prop} (hlen : Nat.ble args.length Tryz.f99.ntmps = true) (h : xwp c99 (bodyOf Tryz.f99) (QRet tt.get Tryz.f99.results.toList R) ⟨initF args, [], m, []⟩) : Spec Tryz.prog 99 args m R :=
  Spec.of_body (c := c99) Tryz.func99 (by kernel_rfl) (by kernel_rfl) tt_ok wide (by kernel_rfl) hlen h
/- slices.medianOrdered[string] -/
noncomputable def c100 : Cfg := ⟨Tryz.prog, tt.get, inL [], atL [], inL []⟩
theorem en100 {args : List CV} {m : Mem} {R : List CV → Mem → Prop} (hlen : Nat.ble args.length Tryz.f100.ntmps = true) (h : xwp c100 (bodyOf Tryz.f100) (QRet tt.get Tryz.f100.results.toList R) ⟨initF args, [], m, []⟩) : Spec Tryz.prog 100 args m R :=
  Spec.of_body (c := c100) Tryz.func100 (by kernel_rfl) (by kernel_rfl) tt_ok wide (by kernel_rfl) hlen h
/- cmp.isNaN[string] -/
noncomputable def c101 : Cfg := ⟨Tryz.prog, tt.get, inL [], atL [], inL []⟩
theorem en101 {args : List CV} {m : Mem} {R : List CV → Mem → Prop} (hlen : Nat.ble args.length Tryz.f101.ntmps = true) (h : xwp c101 (bodyOf Tryz.f101) (QRet tt.get Tryz.f101.results.toList R) ⟨initF args, [], m, []⟩) : Spec Tryz.prog 101 args m R :=
  Spec.of_body (c := c101) Tryz.func101 (by kernel_rfl) (by kernel_rfl) tt_ok wide (by kernel_rfl) hlen h
/- slices.IndexFunc[[]maund cart.Entry,maund cart.Entry] -/
noncomputable def c102 : Cfg := ⟨Tryz.prog, tt.get, inL [], atL [], inL []⟩
theorem en102 {args : List CV} {m : Mem} {R : List CV → Mem → Prop} (hlen : Nat.ble args.length Tryz.f102.ntmps = true) (h : xwp c102 (bodyOf Tryz.f102) (QRet tt.get Tryz.f102.results.toList R) ⟨initF args, [], m, []⟩) : Spec Tryz.prog 102 args m R :=
  Spec.of_body (c := c102) Tryz.func102 (by kernel_rfl) (by kernel_rfl) tt_ok wide (by kernel_rfl) hlen h
/- slices.SortFunc[[]maund vec.Dot,maund vec.Dot] -/
noncomputable def c103 : Cfg := ⟨Tryz.prog, tt.get, inL [], atL [], inL []⟩
theorem en103 {args : List CV} {m : Mem} {R : List CV → Mem → Prop} (hlen : Nat.ble args.length Tryz.f103.ntmps = true) (h : xwp c103 (bodyOf Tryz.f103) (QRet tt.get Tryz.f103.results.toList R) ⟨initF args, [], m, []⟩) : Spec Tryz.prog 103 args m R :=
  Spec.of_body (c := c103) Tryz.func103 (by kernel_rfl) (by kernel_rfl) tt_ok wide (by kernel_rfl) hlen h
/- slices.Compact[[]maund vec.Dot,maund vec.Dot] -/
noncomputable def c104 : Cfg := ⟨Tryz.prog, tt.get, inL [], atL [(6, ⟨.op 0 .all (.op 1 .all (.op 2 .all (.op 3 .all (.op 4 .all (.op 5 .all (.op 6 .all (.op 7 .all (.op 8 .all (.op 9 .all (.nil)))))))))), [0, 0, 3, 7, 0, 0, 32, 112, 240, 511]⟩),
  (11, ⟨.op 0 .all (.op 1 .all (.op 2 .all (.op 3 .all (.op 4 .all (.op 5 .all (.op 6 .all (.op 7 .all (.op 8 .all (.op 9 .all (.nil)))))))))), [0, 0, 3, 7, 0, 0, 32, 112, 240, 511]⟩)], inL []⟩
theorem en104 {args : List CV} {m : Mem} {R : List CV → Mem → Prop} (hlen : Nat.ble args.length Tryz.f104.ntmps = true) (h : xwp c104 (bodyOf Tryz.f104) (QRet tt.get Tryz.f104.results.toList R) ⟨initF args, [], m, []⟩) : Spec Tryz.prog 104 args m R :=
  Spec.of_body (c := c104) Tryz.func104 (by kernel_rfl) (by kernel_rfl) tt_ok wide (by kernel_rfl) hlen h
/- slices.Values[[]maund vec.Dot,maund vec.Dot]$1 -/
noncomputable def c105 : Cfg := ⟨Tryz.prog, tt.get, inL [], atL [], inL []⟩
theorem en105 {args : List CV} {m : Mem} {R : List CV → Mem → Prop} (hlen : Nat.ble args.length Tryz.f105.ntmps = true) (h : xwp c105 (bodyOf Tryz.f105) (QRet tt.get Tryz.f105.results.toList R) ⟨initF args, [], m, []⟩) : Spec Tryz.prog 105 args m R :=
  Spec.of_body (c := c105) Tryz.func105 (by kernel_rfl) (by kernel_rfl) tt_ok wide (by kernel_rfl) hlen h
/- slices.AppendSeq[[]maund cart.Entry,maund cart.Entry] -/
noncomputable def c106 : Cfg := ⟨Tryz.prog, tt.get, inL [2, 5], atL [], inL []⟩
theorem en106 {args : List CV} {m : Mem} {R : List CV → Mem → Prop} (hlen : Nat.ble args.length Tryz.f106.ntmps = true) (h : xwp c106 (bodyOf Tryz.f106) (QRet tt.get Tryz.f106.results.toList R) ⟨initF args, [], m, []⟩) : Spec Tryz.prog 106 args m R :=
  Spec.of_body (c := c106) Tryz.func106 (by kernel_rfl) (by kernel_rfl) tt_ok wide (by kernel_rfl) hlen h
/- slices.pdqsortCmpFunc[maund cart.Entry] -/
noncomputable def c107 : Cfg := ⟨Tryz.prog, tt.get, inL [], atL [(17, ⟨.op 0 .all (.op 1 .all (.op 2 .all (.op 3 .all (.op 4 .all (.op 5 .all (.op 6 .all (.op 7 .all (.op 8 .all (.op 9 .all (.op 10 .all (.op 11 .all (.op 12 .all (.op 13 .none (.op 14 .all (.op 15 .all (.op 16 .all (.nil))))))))))))))))), [0, 1, 3, 7, 7, 7, 39, 119, 247, 7, 7, 1543, 3591, 8191, 16383, 32767, 65535]⟩)], inL []⟩
theorem en107 {args : List CV} {m : Mem} {R : List CV → Mem → Prop} (hlen : Nat.ble args.length Tryz.f107.ntmps = true) (h : xwp c107 (bodyOf Tryz.f107) (QRet tt.get Tryz.f107.results.toList R) ⟨initF args, [], m, []⟩) : Spec Tryz.prog 107 args m R :=
  Spec.of_body (c := c107) Tryz.func107 (by kernel_rfl) (by kernel_rfl) tt_ok wide (by kernel_rfl) hlen h
/- cmp.isNaN[int] -/
noncomputable def c108 : Cfg := ⟨Tryz.prog, tt.get, inL [], atL [], inL []⟩
theorem en108 {args : List CV} {m : Mem} {R : List CV → Mem → Prop} (hlen : Nat.ble args.length Tryz.f108.ntmps = true) (h : xwp c108 (bodyOf Tryz.f108) (QRet tt.get Tryz.f108.results.toList R) ⟨initF args, [], m, []⟩) : Spec Tryz.prog 108 args m R :=
  Spec.of_body (c := c108) Tryz.func108 (by kernel_rfl) (by kernel_rfl) tt_ok wide (by kernel_rfl) hlen h
/- cmp.isNaN[uint64] -/
noncomputable def c109 : Cfg := ⟨Tryz.prog, tt.get, inL [], atL [], inL []⟩
theorem en109 {args : List CV} {m : Mem} {R : List CV → Mem → Prop} (hlen : Nat.ble args.length Tryz.f109.ntmps = true) (h : xwp c109 (bodyOf Tryz.f109) (QRet tt.get Tryz.f109.results.toList R) ⟨initF args, [], m, []⟩) : Spec Tryz.prog 109 args m R :=
  Spec.of_body (c := c109) Tryz.func109 (by kernel_rfl) (by kernel_rfl) tt_ok wide (by kernel_rfl) hlen h
/- slices.order2Ordered[string] -/
noncomputable def c110 : Cfg := ⟨Tryz.prog, tt.get, inL [], atL [(1, ⟨.op 0 .all (.op 1 .all (.op 2 .all (.op 3 .all (.op 4 .all (.op 5 .all (.op 6 .all (.op 7 .all (.op 8 .none (.nil))))))))), [0, 0, 3, 7, 0, 0, 48, 112, 255]⟩)], inL []⟩
theorem en110 {args : List CV} {m : Mem} {R : List CV → Mem → Prop} (hlen : Nat.ble args.length Tryz.f110.ntmps = true) (h : xwp c110 (bodyOf Tryz.f110) (QRet tt.get Tryz.f110.results.toList R) ⟨initF args, [], m, []⟩) : Spec Tryz.prog 110 args m R :=
  Spec.of_body (c := c110) Tryz.func110 (by kernel_rfl) (by kernel_rfl) tt_ok wide (by kernel_rfl) hlen h
/- slices.pdqsortCmpFunc[maund vec.Dot] -/
noncomputable def c111 : Cfg := ⟨Tryz.prog, tt.get, inL [], atL [(17, ⟨.op 0 .all (.op 1 .all (.op 2 .all (.op 3 .all (.op 4 .all (.op 5 .all (.op 6 .all (.op 7 .all (.op 8 .all (.op 9 .all (.op 10 .all (.op 11 .all (.op 12 .all (.op 13 .none (.op 14 .all (.op 15 .all (.op 16 .all (.nil))))))))))))))))), [0, 1, 3, 7, 7, 7, 39, 119, 247, 7, 7, 1543, 3591, 8191, 16383, 32767, 65535]⟩)], inL []⟩
theorem en111 {args : List CV} {m : Mem} {R : List CV → Mem → Prop} (hlen : Nat.ble args.length Tryz.f111.ntmps = true) (h : xwp c111 (bodyOf Tryz.f111) (QRet tt.get Tryz.f111.results.toList R) ⟨initF args, [], m, []⟩) : Spec Tryz.prog 111 args m R :=
  Spec.of_body (c := c111) Tryz.func111 (by kernel_rfl) (by kernel_rfl) tt_ok wide (by kernel_rfl) hlen h
/- slices.insertionSortCmpFunc[maund cart.Entry] -/
noncomputable def c112 : Cfg := ⟨Tryz.prog, tt.get, inL [], atL [(4, ⟨.op 0 .all (.op 1 .all (.op 2 .all (.op 3 .all (.op 4 .all (.op 5 .all (.op 6 .all (.op 7 .all (.op 8 .all (.op 9 .all (.op 10 .all (.op 11 .all (.op 12 .all (.op 13 .all (.op 14 .none (.op 15 .all (.op 16 .all (.nil))))))))))))))))), [0, 0, 3, 7, 15, 15, 15, 111, 239, 15, 15, 1039, 3599, 7695, 16383, 32767, 65535]⟩),
  (6, ⟨.op 0 .all (.op 1 .all (.op 2 .all (.op 3 .all (.op 4 .all (.op 5 .all (.op 6 .all (.op 7 .all (.op 8 .all (.op 9 .all (.op 10 .all (.op 11 .all (.op 12 .all (.op 13 .all (.op 14 .all (.op 15 .none (.op 16 .all (.op 17 .none (.nil)))))))))))))))))), [0, 0, 0, 0, 8, 0, 0, 64, 224, 480, 0, 0, 3072, 7168, 16355, 32739, 65535, 131071]⟩)], inL []⟩
theorem en112 {args : List CV} {m : Mem} {R : List CV → Mem → Prop} (hlen : Nat.ble args.length Tryz.f112.ntmps = true) (h : xwp c112 (bodyOf Tryz.f112) (QRet tt.get Tryz.f112.results.toList R) ⟨initF args, [], m, []⟩) : Spec Tryz.prog 112 args m R :=
  Spec.of_body (c := c112) Tryz.func112 (by kernel_rfl) (by kernel_rfl) tt_ok wide (by kernel_rfl) hlen h
/- slices.heapSortCmpFunc[maund cart.Entry] -/
noncomputable def c113 : Cfg := ⟨Tryz.prog, tt.get, inL [], atL [(10, ⟨.op 0 .all (.op 1 .all (.op 2 .all (.op 3 .all (.op 4 .all (.op 5 .all (.op 6 .all (.op 7 .all (.op 8 .all (.op 9 .all (.op 10 .all (.op 11 .all (.op 12 .all (.op 13 .all (.op 14 .all (.op 15 .all (.op 16 .all (.op 17 .none (.op 18 .all (.op 19 .none (.nil)))))))))))))))))))), [0, 0, 0, 0, 0, 24, 0, 0, 0, 384, 960, 1984, 0, 0, 12288, 28672, 65475, 131011, 262143, 524287]⟩)], inL []⟩
theorem en113 {args : List CV} {m : Mem} {R : List CV → Mem → Prop} (hlen : Nat.ble args.length Tryz.f113.ntmps = true) (h : xwp c113 (bodyOf Tryz.f113) (QRet tt.get Tryz.f113.results.toList R) ⟨initF args, [], m, []⟩) : Spec Tryz.prog 113 args m R :=
  Spec.of_body (c := c113) Tryz.func113 (by kernel_rfl) (by kernel_rfl) tt_ok wide (by kernel_rfl) hlen h
/- slices.breakPatternsCmpFunc[maund cart.Entry] -/
noncomputable def c114 : Cfg := ⟨Tryz.prog, tt.get, inL [], atL [(10, ⟨.op 0 .all (.op 1 .all (.op 2 .all (.op 3 .all (.op 4 .all (.op 5 .all (.op 6 .all (.op 7 .all (.op 8 .all (.op 9 .all (.op 10 .all (.op 11 .all (.op 12 .all (.op 13 .all (.op 14 .all (.op 15 .all (.op 16 .all (.op 17 .none (.op 18 .all (.op 19 .none (.nil)))))))))))))))))))), [0, 0, 0, 0, 0, 24, 0, 0, 0, 384, 960, 1984, 0, 0, 12288, 28672, 65475, 131011, 262143, 524287]⟩)], inL []⟩
theorem en114 {args : List CV} {m : Mem} {R : List CV → Mem → Prop} (hlen : Nat.ble args.length Tryz.f114.ntmps = true) (h : xwp c114 (bodyOf Tryz.f114) (QRet tt.get Tryz.f114.results.toList R) ⟨initF args, [], m, []⟩) : Spec Tryz.prog 114 args m R :=
  Spec.of_body (c := c114) Tryz.func114 (by kernel_rfl) (by kernel_rfl) tt_ok wide (by kernel_rfl) hlen h
/- slices.choosePivotCmpFunc[maund cart.Entry] -/
noncomputable def c115 : Cfg := ⟨Tryz.prog, tt.get, inL [], atL [], inL []⟩
theorem en115 {args : List CV} {m : Mem} {R : List CV → Mem → Prop} (hlen : Nat.ble args.length Tryz.f115.ntmps = true) (h : xwp c115 (bodyOf Tryz.f115) (QRet tt.get Tryz.f115.results.toList R) ⟨initF args, [], m, []⟩) : Spec Tryz.prog 115 args m R :=
  Spec.of_body (c := c115) Tryz.func115 (by kernel_rfl) (by kernel_rfl) tt_ok wide (by kernel_rfl) hlen h
/- slices.reverseRangeCmpFunc[maund cart.Entry] -/
noncomputable def c116 : Cfg := ⟨Tryz.prog, tt.get, inL [], atL [(3, ⟨.op 0 .all (.op 1 .all (.op 2 .all (.op 3 .all (.op 4 .all (.op 5 .all (.op 6 .all (.op 7 .all (.op 8 .all (.op 9 .all (.op 10 .all (.op 11 .all (.op 12 .all (.op 13 .none (.op 14 .all (.op 15 .none (.nil)))))))))))))))), [0, 0, 0, 0, 0, 0, 48, 112, 0, 0, 768, 1792, 4083, 8179, 16383, 32767]⟩)], inL []⟩
theorem en116 {args : List CV} {m : Mem} {R : List CV → Mem → Prop} (hlen : Nat.ble args.length Tryz.f116.ntmps = true) (h : xwp c116 (bodyOf Tryz.f116) (QRet tt.get Tryz.f116.results.toList R) ⟨initF args, [], m, []⟩) : Spec Tryz.prog 116 args m R :=
  Spec.of_body (c := c116) Tryz.func116 (by kernel_rfl) (by kernel_rfl) tt_ok wide (by kernel_rfl) hlen h
/- slices.partialInsertionSortCmpFunc[maund cart.Entry] -/
noncomputable def c117 : Cfg := ⟨Tryz.prog, tt.get, inL [], atL [(5, ⟨.op 0 .all (.op 1 .all (.op 2 .all (.op 3 .all (.op 4 .all (.op 5 .all (.op 6 .all (.op 7 .all (.op 8 .all (.op 9 .all (.op 10 .all (.op 11 .all (.op 12 .all (.op 13 .all (.op 14 .none (.op 15 .all (.op 16 .all (.op 17 .all (.nil)))))))))))))))))), [0, 0, 3, 7, 15, 15, 15, 111, 239, 15, 15, 1039, 3599, 7695, 16383, 32767, 65535, 131071]⟩),
  (11, ⟨.op 0 .all (.op 1 .all (.op 2 .all (.op 3 .all (.op 4 .all (.op 5 .all (.op 6 .all (.op 7 .all (.op 8 .all (.op 9 .all (.op 10 .all (.op 11 .all (.op 12 .all (.op 13 .all (.op 14 .all (.op 15 .none (.op 16 .all (.op 17 .none (.nil)))))))))))))))))), [0, 0, 0, 0, 8, 0, 0, 64, 224, 480, 0, 0, 3072, 7168, 16355, 32739, 65535, 131071]⟩),
  (16, ⟨.op 0 .all (.op 1 .all (.op 2 .all (.op 3 .all (.op 4 .all (.op 5 .all (.op 6 .all (.op 7 .all (.op 8 .all (.op 9 .all (.op 10 .none (.op 11 .all (.op 12 .all (.nil))))))))))))), [0, 0, 0, 6, 14, 0, 0, 64, 224, 480, 1023, 2047, 4095]⟩),
  (17, ⟨.op 0 .all (.op 1 .all (.op 2 .all (.op 3 .all (.op 4 .all (.op 5 .all (.op 6 .all (.op 7 .all (.op 8 .all (.op 9 .all (.op 10 .all (.op 11 .all (.op 12 .all (.op 13 .all (.op 14 .all (.op 15 .none (.op 16 .all (.op 17 .none (.nil)))))))))))))))))), [0, 0, 0, 0, 8, 0, 0, 64, 224, 480, 0, 0, 3072, 7168, 16355, 32739, 65535, 131071]⟩),
  (22, ⟨.op 0 .all (.op 1 .all (.op 2 .all (.op 3 .all (.op 4 .all (.op 5 .all (.op 6 .all (.op 7 .all (.op 8 .all (.op 9 .all (.op 10 .none (.op 11 .all (.op 12 .all (.nil))))))))))))), [0, 0, 0, 6, 14, 0, 0, 64, 224, 480, 1023, 2047, 4095]⟩),
  (23, ⟨.op 0 .all (.op 1 .all (.op 2 .all (.op 3 .all (.op 4 .all (.op 5 .all (.op 6 .all (.op 7 .all (.op 8 .all (.op 9 .all (.op 10 .all (.op 11 .all (.op 12 .all (.op 13 .all (.op 14 .all (.op 15 .none (.op 16 .all (.op 17 .none (.nil)))))))))))))))))), [0, 0, 0, 0, 8, 0, 0, 64, 224, 480, 0, 0, 3072, 7168, 16355, 32739, 65535, 131071]⟩)], inL []⟩
theorem en117 {args : List CV} {m : Mem} {R : List CV → Mem → Prop} (hlen : Nat.ble args.length Tryz.f117.ntmps = true) (h : xwp c117 (bodyOf Tryz.f117) (QRet tt.get Tryz.f117.results.toList R) ⟨initF args, [], m, []⟩) : Spec Tryz.prog 117 args m R :=
  Spec.of_body (c := c117) Tryz.func117 (by kernel_rfl) (by kernel_rfl) tt_ok wide (by kernel_rfl) hlen h
/- slices.partitionEqualCmpFunc[maund cart.Entry] -/
noncomputable def c118 : Cfg := ⟨Tryz.prog, tt.get, inL [], atL [(1, ⟨.op 0 .all (.op 1 .all (.op 2 .all (.op 3 .all (.op 4 .all (.op 5 .all (.op 6 .all (.op 7 .all (.op 8 .all (.op 9 .all (.op 10 .all (.op 11 .all (.op 12 .all (.op 13 .none (.op 14 .all (.op 15 .none (.nil)))))))))))))))), [0, 0, 0, 0, 0, 0, 48, 112, 0, 0, 768, 1792, 4083, 8179, 16383, 32767]⟩),
  (3, ⟨.op 0 .all (.op 1 .all (.op 2 .all (.op 3 .all (.op 4 .all (.op 5 .all (.op 6 .all (.op 7 .all (.op 8 .all (.op 9 .all (.op 10 .all (.op 11 .all (.op 12 .all (.op 13 .none (.op 14 .all (.op 15 .all (.op 16 .all (.nil))))))))))))))))), [0, 0, 3, 7, 15, 15, 15, 111, 239, 15, 15, 1551, 3599, 8191, 16383, 32767, 65535]⟩),
  (5, ⟨.op 0 .all (.op 1 .all (.op 2 .all (.op 3 .all (.op 4 .all (.op 5 .all (.op 6 .all (.op 7 .all (.op 8 .all (.op 9 .all (.op 10 .all (.op 11 .all (.op 12 .all (.op 13 .none (.op 14 .all (.op 15 .all (.nil)))))))))))))))), [0, 0, 3, 7, 15, 15, 15, 111, 239, 15, 15, 1551, 3599, 8191, 16383, 32767]⟩),
  (8, ⟨.op 0 .all (.op 1 .all (.op 2 .all (.op 3 .all (.op 4 .all (.op 5 .all (.op 6 .all (.op 7 .all (.op 8 .all (.op 9 .all (.op 10 .all (.op 11 .all (.op 12 .all (.op 13 .none (.op 14 .all (.op 15 .none (.nil)))))))))))))))), [0, 0, 0, 0, 0, 0, 48, 112, 0, 0, 768, 1792, 4083, 8179, 16383, 32767]⟩)], inL []⟩
theorem en118 {args : List CV} {m : Mem} {R : List CV → Mem → Prop} (hlen : Nat.ble args.length Tryz.f118.ntmps = true) (h : xwp c118 (bodyOf Tryz.f118) (QRet tt.get Tryz.f118.results.toList R) ⟨initF args, [], m, []⟩) : Spec Tryz.prog 118 args m R :=
  Spec.of_body (c := c118) Tryz.func118 (by kernel_rfl) (by kernel_rfl) tt_ok wide (by kernel_rfl) hlen h
/- slices.partitionCmpFunc[maund cart.Entry] -/
noncomputable def c119 : Cfg := ⟨Tryz.prog, tt.get, inL [], atL [(1, ⟨.op 0 .all (.op 1 .all (.op 2 .all (.op 3 .all (.op 4 .all (.op 5 .all (.op 6 .all (.op 7 .all (.op 8 .all (.op 9 .all (.op 10 .all (.op 11 .all (.op 12 .all (.op 13 .none (.op 14 .all (.op 15 .none (.nil)))))))))))))))), [0, 0, 0, 0, 0, 0, 48, 112, 0, 0, 768, 1792, 4083, 8179, 16383, 32767]⟩),
  (3, ⟨.op 0 .all (.op 1 .all (.op 2 .all (.op 3 .all (.op 4 .all (.op 5 .all (.op 6 .all (.op 7 .all (.op 8 .all (.op 9 .all (.op 10 .all (.op 11 .all (.op 12 .all (.op 13 .none (.op 14 .all (.op 15 .all (.nil)))))))))))))))), [0, 0, 3, 7, 15, 15, 15, 111, 239, 15, 15, 1551, 3599, 8191, 16383, 32767]⟩),
  (5, ⟨.op 0 .all (.op 1 .all (.op 2 .all (.op 3 .all (.op 4 .all (.op 5 .all (.op 6 .all (.op 7 .all (.op 8 .all (.op 9 .all (.op 10 .all (.op 11 .all (.op 12 .all (.op 13 .none (.op 14 .all (.op 15 .all (.op 16 .all (.nil))))))))))))))))), [0, 0, 3, 7, 15, 15, 15, 111, 239, 15, 15, 1551, 3599, 8191, 16383, 32767, 65535]⟩),
  (8, ⟨.op 0 .all (.op 1 .all (.op 2 .all (.op 3 .all (.op 4 .all (.op 5 .all (.op 6 .all (.op 7 .all (.op 8 .all (.op 9 .all (.op 10 .all (.op 11 .all (.op 12 .all (.op 13 .none (.op 14 .all (.op 15 .none (.nil)))))))))))))))), [0, 0, 0, 0, 0, 0, 48, 112, 0, 0, 768, 1792, 4083, 8179, 16383, 32767]⟩),
  (10, ⟨.op 0 .all (.op 1 .all (.op 2 .all (.op 3 .all (.op 4 .all (.op 5 .all (.op 6 .all (.op 7 .all (.op 8 .all (.op 9 .all (.op 10 .all (.op 11 .all (.op 12 .all (.op 13 .none (.op 14 .all (.op 15 .none (.nil)))))))))))))))), [0, 0, 0, 0, 0, 0, 48, 112, 0, 0, 768, 1792, 4083, 8179, 16383, 32767]⟩),
  (13, ⟨.op 0 .all (.op 1 .all (.op 2 .all (.op 3 .all (.op 4 .all (.op 5 .all (.op 6 .all (.op 7 .all (.op 8 .all (.op 9 .all (.op 10 .all (.op 11 .all (.op 12 .all (.op 13 .none (.op 14 .all (.op 15 .all (.nil)))))))))))))))), [0, 0, 3, 7, 15, 15, 15, 111, 239, 15, 15, 1551, 3599, 8191, 16383, 32767]⟩),
  (15, ⟨.op 0 .all (.op 1 .all (.op 2 .all (.op 3 .all (.op 4 .all (.op 5 .all (.op 6 .all (.op 7 .all (.op 8 .all (.op 9 .all (.op 10 .all (.op 11 .all (.op 12 .all (.op 13 .none (.op 14 .all (.op 15 .all (.op 16 .all (.nil))))))))))))))))), [0, 0, 3, 7, 15, 15, 15, 111, 239, 15, 15, 1551, 3599, 8191, 16383, 32767, 65535]⟩),
  (18, ⟨.op 0 .all (.op 1 .all (.op 2 .all (.op 3 .all (.op 4 .all (.op 5 .all (.op 6 .all (.op 7 .all (.op 8 .all (.op 9 .all (.op 10 .all (.op 11 .all (.op 12 .all (.op 13 .none (.op 14 .all (.op 15 .none (.nil)))))))))))))))), [0, 0, 0, 0, 0, 0, 48, 112, 0, 0, 768, 1792, 4083, 8179, 16383, 32767]⟩),
  (21, ⟨.op 0 .all (.op 1 .all (.op 2 .all (.op 3 .all (.op 4 .all (.op 5 .all (.op 6 .all (.op 7 .all (.op 8 .all (.op 9 .all (.op 10 .all (.op 11 .all (.op 12 .all (.op 13 .none (.op 14 .all (.op 15 .none (.nil)))))))))))))))), [0, 0, 0, 0, 0, 0, 48, 112, 0, 0, 768, 1792, 4083, 8179, 16383, 32767]⟩)], inL []⟩
theorem en119 {args : List CV} {m : Mem} {R : List CV → Mem → Prop} (hlen : Nat.ble args.length Tryz.f119.ntmps = true) (h : xwp c119 (bodyOf Tryz.f119) (QRet tt.get Tryz.f119.results.toList R) ⟨initF args, [], m, []⟩) : Spec Tryz.prog 119 args m R :=
  Spec.of_body (c := c119) Tryz.func119 (by kernel_rfl) (by kernel_rfl) tt_ok wide (by kernel_rfl) hlen h
/- slices.insertionSortCmpFunc[maund vec.Dot] -/
noncomputable def c120 : Cfg := ⟨Tryz.prog, tt.get, inL [], atL [(4, ⟨.op 0 .all (.op 1 .all (.op 2 .all (.op 3 .all (.op 4 .all (.op 5 .all (.op 6 .all (.op 7 .all (.op 8 .all (.op 9 .all (.op 10 .all (.op 11 .all (.op 12 .all (.op 13 .all (.op 14 .none (.op 15 .all (.op 16 .all (.nil))))))))))))))))), [0, 0, 3, 7, 15, 15, 15, 111, 239, 15, 15, 1039, 3599, 7695, 16383, 32767, 65535]⟩),
  (6, ⟨.op 0 .all (.op 1 .all (.op 2 .all (.op 3 .all (.op 4 .all (.op 5 .all (.op 6 .all (.op 7 .all (.op 8 .all (.op 9 .all (.op 10 .all (.op 11 .all (.op 12 .all (.op 13 .all (.op 14 .all (.op 15 .none (.op 16 .all (.op 17 .none (.nil)))))))))))))))))), [0, 0, 0, 0, 8, 0, 0, 64, 224, 480, 0, 0, 3072, 7168, 16355, 32739, 65535, 131071]⟩)], inL []⟩
theorem en120 {args : List CV} {m : Mem} {R : List CV → Mem → Prop} (hlen : Nat.ble args.length Tryz.f120.ntmps = true) (h : xwp c120 (bodyOf Tryz.f120) (QRet tt.get Tryz.f120.results.toList R) ⟨initF args, [], m, []⟩) : Spec Tryz.prog 120 args m R :=
  Spec.of_body (c := c120) Tryz.func120 (by kernel_rfl) (by kernel_rfl) tt_ok wide (by kernel_rfl) hlen h
/- slices.heapSortCmpFunc[maund vec.Dot] -/
noncomputable def c121 : Cfg := ⟨Tryz.prog, tt.get, inL [], atL [(10, ⟨.op 0 .all (.op 1 .all (.op 2 .all (.op 3 .all (.op 4 .all (.op 5 .all (.op 6 .all (.op 7 .all (.op 8 .all (.op 9 .all (.op 10 .all (.op 11 .all (.op 12 .all (.op 13 .all (.op 14 .all (.op 15 .all (.op 16 .all (.op 17 .none (.op 18 .all (.op 19 .none (.nil)))))))))))))))))))), [0, 0, 0, 0, 0, 24, 0, 0, 0, 384, 960, 1984, 0, 0, 12288, 28672, 65475, 131011, 262143, 524287]⟩)], inL []⟩
theorem en121 {args : List CV} {m : Mem} {R : List CV → Mem → Prop} (hlen : Nat.ble args.length Tryz.f121.ntmps = true) (h : xwp c121 (bodyOf Tryz.f121) (QRet tt.get Tryz.f121.results.toList R) ⟨initF args, [], m, []⟩) : Spec Tryz.prog 121 args m R :=
  Spec.of_body (c := c121) Tryz.func121 (by kernel_rfl) (by kernel_rfl) tt_ok wide (by kernel_rfl) hlen h
/- slices.breakPatternsCmpFunc[maund vec.Dot] -/
noncomputable def c122 : Cfg := ⟨Tryz.prog, tt.get, inL [], atL [(10, ⟨.op 0 .all (.op 1 .all (.op 2 .all (.op 3 .all (.op 4 .all (.op 5 .all (.op 6 .all (.op 7 .all (.op 8 .all (.op 9 .all (.op 10 .all (.op 11 .all (.op 12 .all (.op 13 .all (.op 14 .all (.op 15 .all (.op 16 .all (.op 17 .none (.op 18 .all (.op 19 .none (.nil)))))))))))))))))))), [0, 0, 0, 0, 0, 24, 0, 0, 0, 384, 960, 1984, 0, 0, 12288, 28672, 65475, 131011, 262143, 524287]⟩)], inL []⟩
theorem en122 {args : List CV} {m : Mem} {R : List CV → Mem → Prop} (hlen : Nat.ble args.length Tryz.f122.ntmps = true) (h : xwp c122 (bodyOf Tryz.f122) (QRet tt.get Tryz.f122.results.toList R) ⟨initF args, [], m, []⟩) : Spec Tryz.prog 122 args m R :=
  Spec.of_body (c := c122) Tryz.func122 (by kernel_rfl) (by kernel_rfl) tt_ok wide (by kernel_rfl) hlen h
/- slices.choosePivotCmpFunc[maund vec.Dot] -/
noncomputable def c123 : Cfg := ⟨Tryz.prog, tt.get, inL [], atL [], inL []⟩
theorem en123 {args : List CV} {m : Mem} {R : List CV → Mem → Prop} (hlen : Nat.ble args.length Tryz.f123.ntmps = true) (h : xwp c123 (bodyOf Tryz.f123) (QRet tt.get Tryz.f123.results.toList R) ⟨initF args, [], m, []⟩) : Spec Tryz.prog 123 args m R :=
  Spec.of_body (c := c123) Tryz.func123 (by kernel_rfl) (by kernel_rfl) tt_ok wide (by kernel_rfl) hlen h
/- slices.reverseRangeCmpFunc[maund vec.Dot] -/
noncomputable def c124 : Cfg := ⟨Tryz.prog, tt.get, inL [], atL [(3, ⟨.op 0 .all (.op 1 .all (.op 2 .all (.op 3 .all (.op 4 .all (.op 5 .all (.op 6 .all (.op 7 .all (.op 8 .all (.op 9 .all (.op 10 .all (.op 11 .all (.op 12 .all (.op 13 .none (.op 14 .all (.op 15 .none (.nil)))))))))))))))), [0, 0, 0, 0, 0, 0, 48, 112, 0, 0, 768, 1792, 4083, 8179, 16383, 32767]⟩)], inL []⟩
theorem en124 {args : List CV} {m : Mem} {R : List CV → Mem → Prop} (hlen : Nat.ble args.length Tryz.f124.ntmps = true) (h : xwp c124 (bodyOf Tryz.f124) (QRet tt.get Tryz.f124.results.toList R) ⟨initF args, [], m, []⟩) : Spec Tryz.prog 124 args m R :=
  Spec.of_body (c := c124) Tryz.func124 (by kernel_rfl) (by kernel_rfl) tt_ok wide (by kernel_rfl) hlen h
/- slices.partialInsertionSortCmpFunc[maund vec.Dot] -/
noncomputable def c125 : Cfg := ⟨Tryz.prog, tt.get, inL [], atL [(5, ⟨.op 0 .all (.op 1 .all (.op 2 .all (.op 3 .all (.op 4 .all (.op 5 .all (.op 6 .all (.op 7 .all (.op 8 .all (.op 9 .all (.op 10 .all (.op 11 .all (.op 12 .all (.op 13 .all (.op 14 .none (.op 15 .all (.op 16 .all (.op 17 .all (.nil)))))))))))))))))), [0, 0, 3, 7, 15, 15, 15, 111, 239, 15, 15, 1039, 3599, 7695, 16383, 32767, 65535, 131071]⟩),
  (11, ⟨.op 0 .all (.op 1 .all (.op 2 .all (.op 3 .all (.op 4 .all (.op 5 .all (.op 6 .all (.op 7 .all (.op 8 .all (.op 9 .all (.op 10 .all (.op 11 .all (.op 12 .all (.op 13 .all (.op 14 .all (.op 15 .none (.op 16 .all (.op 17 .none (.nil)))))))))))))))))), [0, 0, 0, 0, 8, 0, 0, 64, 224, 480, 0, 0, 3072, 7168, 16355, 32739, 65535, 131071]⟩),
  (16, ⟨.op 0 .all (.op 1 .all (.op 2 .all (.op 3 .all (.op 4 .all (.op 5 .all (.op 6 .all (.op 7 .all (.op 8 .all (.op 9 .all (.op 10 .none (.op 11 .all (.op 12 .all (.nil))))))))))))), [0, 0, 0, 6, 14, 0, 0, 64, 224, 480, 1023, 2047, 4095]⟩),
  (17, ⟨.op 0 .all (.op 1 .all (.op 2 .all (.op 3 .all (.op 4 .all (.op 5 .all (.op 6 .all (.op 7 .all (.op 8 .all (.op 9 .all (.op 10 .all (.op 11 .all (.op 12 .all (.op 13 .all (.op 14 .all (.op 15 .none (.op 16 .all (.op 17 .none (.nil)))))))))))))))))), [0, 0, 0, 0, 8, 0, 0, 64, 224, 480, 0, 0, 3072, 7168, 16355, 32739, 65535, 131071]⟩),
  (22, ⟨.op 0 .all (.op 1 .all (.op 2 .all (.op 3 .all (.op 4 .all (.op 5 .all (.op 6 .all (.op 7 .all (.op 8 .all (.op 9 .all (.op 10 .none (.op 11 .all (.op 12 .all (.nil))))))))))))), [0, 0, 0, 6, 14, 0, 0, 64, 224, 480, 1023, 2047, 4095]⟩),
  (23, ⟨.op 0 .all (.op 1 .all (.op 2 .all (.op 3 .all (.op 4 .all (.op 5 .all (.op 6 .all (.op 7 .all (.op 8 .all (.op 9 .all (.op 10 .all (.op 11 .all (.op 12 .all (.op 13 .all (.op 14 .all (.op 15 .none (.op 16 .all (.op 17 .none (.nil)))))))))))))))))), [0, 0, 0, 0, 8, 0, 0, 64, 224, 480, 0, 0, 3072, 7168, 16355, 32739, 65535, 131071]⟩)], inL []⟩
theorem en125 {args : List CV} {m : Mem} {R : List CV → Mem → Prop} (hlen : Nat.ble args.length Tryz.f125.ntmps = true) (h : xwp c125 (bodyOf Tryz.f125) (QRet tt.get Tryz.f125.results.toList R) ⟨initF args, [], m, []⟩) : Spec Tryz.prog 125 args m R :=
  Spec.of_body (c := c125) Tryz.func125 (by kernel_rfl) (by kernel_rfl) tt_ok wide (by kernel_rfl) hlen h
/- slices.partitionEqualCmpFunc[maund vec.Dot] -/
noncomputable def c126 : Cfg := ⟨Tryz.prog, tt.get, inL [], atL [(1, ⟨.op 0 .all (.op 1 .all (.op 2 .all (.op 3 .all (.op 4 .all (.op 5 .all (.op 6 .all (.op 7 .all (.op 8 .all (.op 9 .all (.op 10 .all (.op 11 .all (.op 12 .all (.op 13 .none (.op 14 .all (.op 15 .none (.nil)))))))))))))))), [0, 0, 0, 0, 0, 0, 48, 112, 0, 0, 768, 1792, 4083, 8179, 16383, 32767]⟩),
  (3, ⟨.op 0 .all (.op 1 .all (.op 2 .all (.op 3 .all (.op 4 .all (.op 5 .all (.op 6 .all (.op 7 .all (.op 8 .all (.op 9 .all (.op 10 .all (.op 11 .all (.op 12 .all (.op 13 .none (.op 14 .all (.op 15 .all (.op 16 .all (.nil))))))))))))))))), [0, 0, 3, 7, 15, 15, 15, 111, 239, 15, 15, 1551, 3599, 8191, 16383, 32767, 65535]⟩),
  (5, ⟨.op 0 .all (.op 1 .all (.op 2 .all (.op 3 .all (.op 4 .all (.op 5 .all (.op 6 .all (.op 7 .all (.op 8 .all (.op 9 .all (.op 10 .all (.op 11 .all (.op 12 .all (.op 13 .none (.op 14 .all (.op 15 .all (.nil)))))))))))))))), [0, 0, 3, 7, 15, 15, 15, 111, 239, 15, 15, 1551, 3599, 8191, 16383, 32767]⟩),
  (8, ⟨.op 0 .all (.op 1 .all (.op 2 .all (.op 3 .all (.op 4 .all (.op 5 .all (.op 6 .all (.op 7 .all (.op 8 .all (.op 9 .all (.op 10 .all (.op 11 .all (.op 12 .all (.op 13 .none (.op 14 .all (.op 15 .none (.nil)))))))))))))))), [0, 0, 0, 0, 0, 0, 48, 112, 0, 0, 768, 1792, 4083, 8179, 16383, 32767]⟩)], inL []⟩
theorem en126 {args : List CV} {m : Mem} {R : List CV → Mem → Prop} (hlen : Nat.ble args.length Tryz.f126.ntmps = true) (h : xwp c126 (bodyOf Tryz.f126) (QRet tt.get Tryz.f126.results.toList R) ⟨initF args, [], m, []⟩) : Spec Tryz.prog 126 args m R :=
  Spec.of_body (c := c126) Tryz.func126 (by kernel_rfl) (by kernel_rfl) tt_ok wide (by kernel_rfl) hlen h
/- slices.partitionCmpFunc[maund vec.Dot] -/
noncomputable def c127 : Cfg := ⟨Tryz.prog, tt.get, inL [], atL [(1, ⟨.op 0 .all (.op 1 .all (.op 2 .all (.op 3 .all (.op 4 .all (.op 5 .all (.op 6 .all (.op 7 .all (.op 8 .all (.op 9 .all (.op 10 .all (.op 11 .all (.op 12 .all (.op 13 .none (.op 14 .all (.op 15 .none (.nil)))))))))))))))), [0, 0, 0, 0, 0, 0, 48, 112, 0, 0, 768, 1792, 4083, 8179, 16383, 32767]⟩),
  (3, ⟨.op 0 .all (.op 1 .all (.op 2 .all (.op 3 .all (.op 4 .all (.op 5 .all (.op 6 .all (.op 7 .all (.op 8 .all (.op 9 .all (.op 10 .all (.op 11 .all (.op 12 .all (.op 13 .none (.op 14 .all (.op 15 .all (.nil)))))))))))))))), [0, 0, 3, 7, 15, 15, 15, 111, 239, 15, 15, 1551, 3599, 8191, 16383, 32767]⟩),
  (5, ⟨.op 0 .all (.op 1 .all (.op 2 .all (.op 3 .all (.op 4 .all (.op 5 .all (.op 6 .all (.op 7 .all (.op 8 .all (.op 9 .all (.op 10 .all (.op 11 .all (.op 12 .all (.op 13 .none (.op 14 .all (.op 15 .all (.op 16 .all (.nil))))))))))))))))), [0, 0, 3, 7, 15, 15, 15, 111, 239, 15, 15, 1551, 3599, 8191, 16383, 32767, 65535]⟩),
  (8, ⟨.op 0 .all (.op 1 .all (.op 2 .all (.op 3 .all (.op 4 .all (.op 5 .all (.op 6 .all (.op 7 .all (.op 8 .all (.op 9 .all (.op 10 .all (.op 11 .all (.op 12 .all (.op 13 .none (.op 14 .all (.op 15 .none (.nil)))))))))))))))), [0, 0, 0, 0, 0, 0, 48, 112, 0, 0, 768, 1792, 4083, 8179, 16383, 32767]⟩),
  (10, ⟨.op 0 .all (.op 1 .all (.op 2 .all (.op 3 .all (.op 4 .all (.op 5 .all (.op 6 .all (.op 7 .all (.op 8 .all (.op 9 .all (.op 10 .all (.op 11 .all (.op 12 .all (.op 13 .none (.op 14 .all (.op 15 .none (.nil)))))))))))))))), [0, 0, 0, 0, 0, 0, 48, 112, 0, 0, 768, 1792, 4083, 8179, 16383, 32767]⟩),
  (13, ⟨.op 0 .all (.op 1 .all (.op 2 .all (.op 3 .all (.op 4 .all (.op 5 .all (.op 6 .all (.op 7 .all (.op 8 .all (.op 9 .all (.op 10 .all (.op 11 .all (.op 12 .all (.op 13 .none (.op 14 .all (.op 15 .all (.nil)))))))))))))))), [0, 0, 3, 7, 15, 15, 15, 111, 239, 15, 15, 1551, 3599, 8191, 16383, 32767]⟩),
  (15, ⟨.op 0 .all (.op 1 .all (.op 2 .all (.op 3 .all (.op 4 .all (.op 5 .all (.op 6 .all (.op 7 .all (.op 8 .all (.op 9 .all (.op 10 .all (.op 11 .all (.op 12 .all (.op 13 .none (.op 14 .all (.op 15 .all (.op 16 .all (.nil))))))))))))))))), [0, 0, 3, 7, 15, 15, 15, 111, 239, 15, 15, 1551, 3599, 8191, 16383, 32767, 65535]⟩),
  (18, ⟨.op 0 .all (.op 1 .all (.op 2 .all (.op 3 .all (.op 4 .all (.op 5 .all (.op 6 .all (.op 7 .all (.op 8 .all (.op 9 .all (.op 10 .all (.op 11 .all (.op 12 .all (.op 13 .none (.op 14 .all (.op 15 .none (.nil)))))))))))))))), [0, 0, 0, 0, 0, 0, 48, 112, 0, 0, 768, 1792, 4083, 8179, 16383, 32767]⟩),
  (21, ⟨.op 0 .all (.op 1 .all (.op 2 .all (.op 3 .all (.op 4 .all (.op 5 .all (.op 6 .all (.op 7 .all (.op 8 .all (.op 9 .all (.op 10 .all (.op 11 .all (.op 12 .all (.op 13 .none (.op 14 .all (.op 15 .none (.nil)))))))))))))))), [0, 0, 0, 0, 0, 0, 48, 112, 0, 0, 768, 1792, 4083, 8179, 16383, 32767]⟩)], inL []⟩
theorem en127 {args : List CV} {m : Mem} {R : List CV → Mem → Prop} (hlen : Nat.ble args.length Tryz.f127.ntmps = true) (h : xwp c127 (bodyOf Tryz.f127) (QRet tt.get Tryz.f127.results.toList R) ⟨initF args, [], m, []⟩) : Spec Tryz.prog 127 args m R :=
  Spec.of_body (c := c127) Tryz.func127 (by kernel_rfl) (by kernel_rfl) tt_ok wide (by kernel_rfl) hlen h
/- slices.siftDownCmpFunc[maund cart.Entry] -/
noncomputable def c128 : Cfg := ⟨Tryz.prog, tt.get, inL [], atL [(3, ⟨.op 0 .all (.op 1 .all (.op 2 .all (.op 3 .all (.op 4 .all (.op 5 .all (.op 6 .all (.op 7 .all (.op 8 .all (.op 9 .all (.op 10 .all (.op 11 .all (.op 12 .all (.op 13 .all (.op 14 .all (.op 15 .all (.op 16 .all (.op 17 .all (.op 18 .all (.op 19 .none (.op 20 .all (.op 21 .all (.nil)))))))))))))))))))))), [0, 1, 0, 7, 15, 31, 31, 31, 31, 415, 991, 2015, 31, 31, 31, 24607, 57375, 127007, 258079, 524287, 1048575, 2097151]⟩),
  (5, ⟨.op 0 .all (.op 1 .all (.op 2 .all (.op 3 .all (.op 4 .all (.op 5 .all (.op 6 .all (.op 7 .all (.op 8 .all (.op 9 .all (.op 10 .all (.op 11 .all (.op 12 .all (.op 13 .none (.op 14 .all (.op 15 .all (.nil)))))))))))))))), [0, 0, 0, 0, 12, 30, 62, 0, 0, 0, 768, 1920, 3968, 8191, 16383, 32767]⟩),
  (6, ⟨.op 0 .all (.op 1 .all (.op 2 .all (.op 3 .all (.op 4 .all (.op 5 .all (.op 6 .all (.op 7 .all (.op 8 .all (.op 9 .all (.op 10 .all (.op 11 .all (.op 12 .all (.op 13 .all (.op 14 .all (.op 15 .all (.op 16 .all (.op 17 .all (.op 18 .all (.op 19 .all (.op 20 .all (.op 21 .none (.op 22 .all (.op 23 .none (.nil)))))))))))))))))))))))), [0, 0, 0, 6, 0, 0, 0, 96, 0, 0, 0, 1536, 3840, 7936, 0, 0, 0, 98304, 245760, 507904, 1048335, 2096911, 4194303, 8388607]⟩)], inL []⟩
theorem en128 {args : List CV} {m : Mem} {R : List CV → Mem → Prop} (hlen : Nat.ble args.length Tryz.f128.ntmps = true) (h : xwp c128 (bodyOf Tryz.f128) (QRet tt.get Tryz.f128.results.toList R) ⟨initF args, [], m, []⟩) : Spec Tryz.prog 128 args m R :=
  Spec.of_body (c := c128) Tryz.func128 (by kernel_rfl) (by kernel_rfl) tt_ok wide (by kernel_rfl) hlen h
/- slices.medianAdjacentCmpFunc[maund cart.Entry] -/
noncomputable def c129 : Cfg := ⟨Tryz.prog, tt.get, inL [], atL [], inL []⟩
theorem en129 {args : List CV} {m : Mem} {R : List CV → Mem → Prop} (hlen : Nat.ble args.length Tryz.f129.ntmps = true) (h : xwp c129 (bodyOf Tryz.f129) (QRet tt.get Tryz.f129.results.toList R) ⟨initF args, [], m, []⟩) : Spec Tryz.prog 129 args m R :=
  Spec.of_body (c := c129) Tryz.func129 (by kernel_rfl) (by kernel_rfl) tt_ok wide (by kernel_rfl) hlen h
/- slices.medianCmpFunc[maund cart.Entry] -/
noncomputable def c130 : Cfg := ⟨Tryz.prog, tt.get, inL [], atL [], inL []⟩
theorem en130 {args : List CV} {m : Mem} {R : List CV → Mem → Prop} (hlen : Nat.ble args.length Tryz.f130.ntmps = true) (h : xwp c130 (bodyOf Tryz.f130) (QRet tt.get Tryz.f130.results.toList R) ⟨initF args, [], m, []⟩) : Spec Tryz.prog 130 args m R :=
  Spec.of_body (c := c130) Tryz.func130 (by kernel_rfl) (by kernel_rfl) tt_ok wide (by kernel_rfl) hlen h
/- slices.siftDownCmpFunc[maund vec.Dot] -/
noncomputable def c131 : Cfg := ⟨Tryz.prog, tt.get, inL [], atL [(3, ⟨.op 0 .all (.op 1 .all (.op 2 .all (.op 3 .all (.op 4 .all (.op 5 .all (.op 6 .all (.op 7 .all (.op 8 .all (.op 9 .all (.op 10 .all (.op 11 .all (.op 12 .all (.op 13 .all (.op 14 .all (.op 15 .all (.op 16 .all (.op 17 .all (.op 18 .all (.op 19 .none (.op 20 .all (.op 21 .all (.nil)))))))))))))))))))))), [0, 1, 0, 7, 15, 31, 31, 31, 31, 415, 991, 2015, 31, 31, 31, 24607, 57375, 127007, 258079, 524287, 1048575, 2097151]⟩),
  (5, ⟨.op 0 .all (.op 1 .all (.op 2 .all (.op 3 .all (.op 4 .all (.op 5 .all (.op 6 .all (.op 7 .all (.op 8 .all (.op 9 .all (.op 10 .all (.op 11 .all (.op 12 .all (.op 13 .none (.op 14 .all (.op 15 .all (.nil)))))))))))))))), [0, 0, 0, 0, 12, 30, 62, 0, 0, 0, 768, 1920, 3968, 8191, 16383, 32767]⟩),
  (6, ⟨.op 0 .all (.op 1 .all (.op 2 .all (.op 3 .all (.op 4 .all (.op 5 .all (.op 6 .all (.op 7 .all (.op 8 .all (.op 9 .all (.op 10 .all (.op 11 .all (.op 12 .all (.op 13 .all (.op 14 .all (.op 15 .all (.op 16 .all (.op 17 .all (.op 18 .all (.op 19 .all (.op 20 .all (.op 21 .none (.op 22 .all (.op 23 .none (.nil)))))))))))))))))))))))), [0, 0, 0, 6, 0, 0, 0, 96, 0, 0, 0, 1536, 3840, 7936, 0, 0, 0, 98304, 245760, 507904, 1048335, 2096911, 4194303, 8388607]⟩)], inL []⟩
theorem en131 {args : List CV} {m : Mem} {R : List CV → Mem → Prop} (hlen : Nat.ble args.length Tryz.f131.ntmps = true) (h : xwp c131 (bodyOf Tryz.f131) (QRet tt.get Tryz.f131.results.toList R) ⟨initF args, [], m, []⟩) : Spec Tryz.prog 131 args m R :=
  Spec.of_body (c := c131) Tryz.func131 (by kernel_rfl) (by kernel_rfl) tt_ok wide (by kernel_rfl) hlen h
/- slices.medianAdjacentCmpFunc[maund vec.Dot] -/
noncomputable def c132 : Cfg := ⟨Tryz.prog, tt.get, inL [], atL [], inL []⟩
theorem en132 {args : List CV} {m : Mem} {R : List CV → Mem → Prop} (hlen : Nat.ble args.length Tryz.f132.ntmps = true) (h : xwp c132 (bodyOf Tryz.f132) (QRet tt.get Tryz.f132.results.toList R) ⟨initF args, [], m, []⟩) : Spec Tryz.prog 132 args m R :=
  Spec.of_body (c := c132) Tryz.func132 (by kernel_rfl) (by kernel_rfl) tt_ok wide (by kernel_rfl) hlen h
/- slices.medianCmpFunc[maund vec.Dot] -/
noncomputable def c133 : Cfg := ⟨Tryz.prog, tt.get, inL [], atL [], inL []⟩
theorem en133 {args : List CV} {m : Mem} {R : List CV → Mem → Prop} (hlen : Nat.ble args.length Tryz.f133.ntmps = true) (h : xwp c133 (bodyOf Tryz.f133) (QRet tt.get Tryz.f133.results.toList R) ⟨initF args, [], m, []⟩) : Spec Tryz.prog 133 args m R :=
  Spec.of_body (c := c133) Tryz.func133 (by kernel_rfl) (by kernel_rfl) tt_ok wide (by kernel_rfl) hlen h
/- slices.order2CmpFunc[maund cart.Entry] -/
noncomputable def c134 : Cfg := ⟨Tryz.prog, tt.get, inL [], atL [(1, ⟨.op 0 .all (.op 1 .all (.op 2 .all (.op 3 .all (.op 4 .all (.op 5 .all (.op 6 .all (.op 7 .all (.op 8 .all (.op 9 .none (.op 10 .all (.nil))))))))))), [0, 0, 0, 6, 14, 0, 0, 96, 224, 511, 1023]⟩)], inL []⟩
theorem en134 {args : List CV} {m : Mem} {R : List CV → Mem → Prop} (hlen : Nat.ble args.length Tryz.f134.ntmps = true) (h : xwp c134 (bodyOf Tryz.f134) (QRet tt.get Tryz.f134.results.toList R) ⟨initF args, [], m, []⟩) : Spec Tryz.prog 134 args m R :=
  Spec.of_body (c := c134) Tryz.func134 (by kernel_rfl) (by kernel_rfl) tt_ok wide (by kernel_rfl) hlen h
/- slices.order2CmpFunc[maund vec.Dot] -/
noncomputable def c135 : Cfg := ⟨Tryz.prog, tt.get, inL [], atL [(1, ⟨.op 0 .all (.op 1 .all (.op 2 .all (.op 3 .all (.op 4 .all (.op 5 .all (.op 6 .all (.op 7 .all (.op 8 .all (.op 9 .none (.op 10 .all (.nil))))))))))), [0, 0, 0, 6, 14, 0, 0, 96, 224, 511, 1023]⟩)], inL []⟩
theorem en135 {args : List CV} {m : Mem} {R : List CV → Mem → Prop} (hlen : Nat.ble args.length Tryz.f135.ntmps = true) (h : xwp c135 (bodyOf Tryz.f135) (QRet tt.get Tryz.f135.results.toList R) ⟨initF args, [], m, []⟩) : Spec Tryz.prog 135 args m R :=
  Spec.of_body (c := c135) Tryz.func135 (by kernel_rfl) (by kernel_rfl) tt_ok wide (by kernel_rfl) hlen h
end Go.E.YtheiididldemmaaGreat

/-
  Small things for the contracts.
-/
namespace Go.E
abbrev u64 (n : Int) : CV := .v (.int .u64 n)
abbrev i64 (n : Int) : CV := .v (.int .i64 n)
abbrev boolV (b : Bool) : CV := .v (.bool b)
theorem xretk {P : Program} {f : FuncId} {args : List CV} {m : Mem} {r : List CV} {x : List Nat} {K : List CV → Mem → Prop} (h : Ret P f args m r) (k : K r m) : XCall P f args m fun r' m' => Kept x m m' ∧ K r' m' :=
  xret h ⟨fun _ _ => rfl, k⟩
theorem wu {n : Int} (h0 : 0 ≤ n) (h1 : n < 18446744073709551616) : IntKind.u64.wrap n = n := by rw [IntKind.wrap_u64, Int.emod_eq_of_lt h0 h1]
theorem wi {n : Int} (h0 : -9223372036854775808 ≤ n) (h1 : n < 9223372036854775808) : IntKind.i64.wrap n = n := by rw [IntKind.wrap_i64]; omega
theorem iadd {i : Nat} (h : i < 1000000000000) : IntKind.i64.wrap ((i : Int) + 1) = ((i + 1 : Nat) : Int) := by rw [wi (by omega) (by omega)]; omega
end Go.E

/-
  Bytes: what is owned, appended.
-/
namespace Go.E.YtheiididldemmaaGreat
open Go.Proofs
set_option maxRecDepth 100000

theorem Own.store {p : Mem} {e : TypeId} {b o n c k : Nat} {l : List Value} {x : Value} (h : Own p e 1 (.slice (some ⟨b, o, none⟩) n c) l) (hk : k < l.length) (hx : x.oneCell' = true) :
    ∃ arr, p b = some (.cells arr e (0, 0)) ∧ o + k < arr.size ∧ Own (p.set b (.cells (arr.setIfInBounds (o + k) x) e (0, 0))) e 1 (.slice (some ⟨b, o, none⟩) n c) (l.set k x) := by
  rcases h with ⟨h, _⟩ | ⟨b', o', c', n', arr, h, h1, h2, h3, h4, h5, h6⟩
  · cases h
  · cases h
    rw [Nat.mul_one] at h2 h4
    refine ⟨arr, h1, by omega, .inr ⟨b, o, c, n, _, rfl, Mem.set_same .., by simp; omega, h3, by simp; omega, fun j u hu => ?_, fun u hu => ?_⟩⟩
    · rw [List.getElem?_set] at hu
      rw [Array.getElem?_setIfInBounds]
      by_cases e : k = j
      · subst e
        rw [if_pos rfl, if_pos hk] at hu
        cases hu
        rw [if_pos rfl, if_pos (by omega)]
      · rw [if_neg e] at hu
        rw [if_neg (by omega)]
        exact h5 j u hu
    · rcases List.mem_or_eq_of_mem_set hu with hu | rfl
      · exact h6 u hu
      · exact hx
/-- bytes that are owned -/
def Bs (m : Mem) (v : Value) (l : List Int) : Prop := Own m 5 1 v (bc l)
theorem Bs.lb {p : Mem} {v : Value} {l : List Int} (h : Bs p v l) : Lb p v l := Own.lies h
theorem Bs.len {p : Mem} {v : Value} {l : List Int} (h : Bs p v l) : lenV v = l.length := h.lb.len
theorem Bs.sub {m m' : Mem} {v : Value} {l : List Int} (h : Bs m v l) (hs : Sub m m') : Bs m' v l := Own.sub h hs
theorem Bs.keep {m m' : Mem} {v : Value} {l : List Int} (h : Bs m v l) (hs : ∀ b, blkV v = some b → m' b = m b) : Bs m' v l := Own.keep h hs
theorem Bs.store {p : Mem} {b o n c k : Nat} {l : List Int} {x : Int} (h : Bs p (.slice (some ⟨b, o, none⟩) n c) l) (hk : k < l.length) :
    ∃ arr, p b = some (.cells arr 5 (0, 0)) ∧ o + k < arr.size ∧ Bs (p.set b (.cells (arr.setIfInBounds (o + k) (.int .u8 x)) 5 (0, 0))) (.slice (some ⟨b, o, none⟩) n c) (l.set k x) := by
  obtain ⟨arr, h1, h2, h3⟩ := Own.store (k := k) (x := .int .u8 x) h (by simpa [bc] using hk) rfl
  refine ⟨arr, h1, h2, ?_⟩
  rw [show (bc l).set k (.int .u8 x) = bc (l.set k x) by simp [bc, List.map_set]] at h3
  exact h3
theorem Bs.nil (m : Mem) : Bs m (.slice none 0 0) [] := .inl ⟨rfl, rfl⟩
theorem Bs.blk {m : Mem} {b : Nat} {l : List Int} {n : Nat} (hb : m b = some (.cells (bc l).toArray 5)) (hn : l.length = n) : Bs m (.slice (some ⟨b, 0, none⟩) n n) l := by
  subst hn
  refine .inr ⟨b, 0, l.length, l.length, _, rfl, hb, by simp [bc], Nat.le_refl _, by simp [bc], ?_, bc_one⟩
  intro j u hu; rw [Nat.zero_add, List.getElem?_toArray]; exact hu
theorem hU8 : tt.get 5 = some ⟨.int .u8, 1, 1, [.one (.int .u8 0)], false⟩ := by rfl
/-- what an append of bytes leaves -/
structure BApd (m : Mem) (v : Value) (l : List Int) (v' : Value) (m' : Mem) : Prop where
  own : Bs m' v' l
  keep : ∀ b o, m b = some o → blkV v ≠ some b → m' b = some o
  new : ∀ b, blkV v' = some b → blkV v = some b ∨ m b = none
theorem Bs.none0 {m : Mem} {b : Nat} (hb : m b = some (.cells #[] 5)) : Bs m (.slice (some ⟨b, 0, none⟩) 0 0) [] := Bs.blk (l := []) (by simpa [bc] using hb) rfl
theorem Lb.blk {m : Mem} {b : Nat} {l : List Int} {n : Nat} (hb : m b = some (.cells (bc l).toArray 5)) (hn : l.length = n) : Lb m (.slice (some ⟨b, 0, none⟩) n n) l := (Bs.blk hb hn).lb
/-- one byte, onto a slice: both operations' memory -/
theorem push_mem {m m' : Mem} {b' : Nat} {o : Obj} {v v' : Value} {l : List Int} (hb : m b' = none) (h : BApd (m.set b' o) v l v' m') : BApd m v l v' m' :=
  ⟨h.own, fun b u hm hn => h.keep b u (Mem.sub_set _ hb _ _ hm) hn, fun b hv => (h.new b hv).imp id fun hx => by
    by_cases e : b = b'
    · subst e; exact hb
    · rw [Mem.set_ne _ _ e] at hx; exact hx⟩
theorem Lb.own {m : Mem} {v : Value} {l : List Int} (h : Lb m v l) : (∃ c, v = .slice none 0 c) ∨ ∃ a c, v = .slice (some a) l.length c := by
  rcases h.cases with ⟨c, rfl, _⟩ | ⟨b, o, c, arr, t, fr, rfl, _⟩
  · exact .inl ⟨c, rfl⟩
  · exact .inr ⟨_, c, rfl⟩
end Go.E.YtheiididldemmaaGreat

/-
  More operations: how much room there is; new room.
-/
namespace Go.E
section
variable {P : Program} {T : Tab}
theorem cap_spec (hT : TabOk P T) {t e : TypeId} {ti : TI} (ht : T t = some ti) (hk : ti.k = .slice e) {m : Mem} {a : Option Addr} {n c : Nat} :
    PrimSpec P (.builtin .cap [t]) [.v (.slice a n c)] m fun r m' => r = [.v (.int .i64 c)] ∧ m = m' := by
  intro _ ty W hW
  refine ⟨[.v (.int .i64 c)], m, W, ?_, ?_, ⟨rfl, rfl⟩, After.refl hW⟩
  · simp [Prim.run, Prim.out, Prim.tup, cond_false, CV.val, resVal, Builtin.cap_, run_underlying ((hT t ti ht).slice hk)]; rfl
  · intro x hx; simp at hx; subst hx; rfl
theorem makeFunc_spec {f : FuncId} {n : Nat} {cs : List Value} {m : Mem} (hone : ∀ x ∈ cs, x.oneCell' = true) :
    PrimSpec P (.makeFunc (.func f) n) (cs.map CV.v) m fun r m' => r = [.v (.func (.func f) (cs.take n).toArray (cs.drop n).toArray)] ∧ m = m' := by
  intro _ ty W hW
  refine ⟨[.v (.func (.func f) (cs.take n).toArray (cs.drop n).toArray)], m, W, ?_, ?_, ⟨rfl, rfl⟩, After.refl hW⟩
  · simp [Prim.run, Prim.out, Prim.tup, cond_false, CV.val, resVal, Instr.makeFunc, List.map_map, Function.comp_def]
  · intro x hx; simp at hx; subst hx; rfl
theorem int_desc {d : TypeDesc} {k : IntKind} (h : TK.of d = .int k) : d = .int k := by
  cases d <;> simp [TK.of] at h; subst h; rfl
/-- append of k zeros, where there is no room for them: a new row -/
theorem appendZeros_spec (hT : TabOk P T) {t e tn : TypeId} {ti ei ni : TI} {kn : IntKind} (ht : T t = some ti) (hk : ti.k = .slice e) (he : T e = some ei) (hn : T tn = some ni) (hkn : ni.k = .int kn) (hpos : 0 < ei.size) {m : Mem} {v : Value} {a : Option Addr} {n c k : Nat} {l : List Value}
    (hv : v = .slice a n c) (hl : Lies m ei.size v l) (h0 : 0 < k) (hg : c < n + k) (hb : (2 * (n + k) + 768) * ei.bytes ≤ 281474976710656) (hb1 : n + k ≤ 9223372036854775807) :
    PrimSpec P (.builtin .append [t, tn]) [.v v, .v (.int .i64 k)] m fun r m' => ∃ b C, m b = none ∧ n + k ≤ C ∧ r = [.v (.slice (some ⟨b, 0, none⟩) (n + k) C)] ∧
      m' = m.set b (.cells (l.toArray ++ Builtin.zeroCells (LB.cells ei.zero).toArray k ++ Builtin.zeroCells (LB.cells ei.zero).toArray (C - (n + k))) e) := by
  intro _ ty W hW
  subst hv
  obtain ⟨j, hj, hjs, hjb, z, hjz, hzc⟩ := (hT e ei he).inf
  have hsl := (hT t ti ht).slice hk
  obtain ⟨d, h1, h2⟩ := (hT tn ni hn).desc
  rw [hkn] at h2
  have hd := int_desc h2
  subst hd
  have hold : (Builtin.firstCells j.size n (.slice a n c)).run P W.drew = .ok l.toArray W.drew := by
    rw [hjs]
    rcases hl with ⟨c', e', rfl⟩ | ⟨b, o, c', n', arr, t', fr, e', g1, g2, _, g3, g4⟩
    · cases e'; simp [Builtin.firstCells]
    · cases e'
      refine run_firstCells_some W.drew ei.size n _ n c l g2 (fun i u hu => ?_)
      rw [add_none]
      have hW1 : W.drew.heap[b]? = some (.cells arr t' fr) := hW _ _ g1
      rw [cell_at hW1]
      exact g3 i u hu
  have hbk : k * ei.bytes ≤ 281474976710656 := Nat.le_trans (Nat.mul_le_mul_right _ (by omega)) hb
  have hrun := Lib.run_append_grow_zeros W t tn ty e j z .i64 kn hsl h1 hj hjz a n c l hold k h0 (by omega) hg (by omega) (by rw [hjb]; exact hbk) (by rw [hjb]; exact Nat.le_trans (Nat.mul_le_mul_right _ (nextcap_le hg)) hb)
  have hcap := grownCap_ge W (n + k) c e
  generalize grownCap W (n + k) c e = C at hrun hcap
  rw [hzc] at hrun
  exact ⟨[.v (.slice (some ⟨W.heap.size, 0, none⟩) (n + k) C)], _, _, hrun, (by intro y hy; simp at hy; subst hy; rfl), ⟨W.heap.size, C, hW.none (Nat.le_refl _), hcap, rfl, rfl⟩, (After.refl hW).drew.alloc _⟩
end
end Go.E

/-
  Bytes: room made; lists of bytes, one behind the other.
-/
namespace Go.E.YtheiididldemmaaGreat
open Go.Proofs
set_option maxRecDepth 100000
theorem hI : tt.get 3 = some ⟨.int .i64, 1, 8, [.one (.int .i64 0)], false⟩ := by rfl
/-- a list of bytes -/
structure Lists (m : Mem) (v : Value) (ps : List (Value × List Int)) : Prop where
  lies : Lies m 1 v (ps.map (·.1))
  la : ∀ p ∈ ps, La m p.1 p.2
theorem Lists.sub {m m' : Mem} {v : Value} {ps : List (Value × List Int)} (h : Lists m v ps) (hs : Sub m m') : Lists m' v ps := ⟨h.lies.sub hs, fun p hp => (h.la p hp).sub hs⟩
theorem Lists.shape {m : Mem} {v : Value} {ps : List (Value × List Int)} (h : Lists m v ps) : ∃ a c, v = .slice a ps.length c := by
  rcases h.lies with ⟨c, rfl, e⟩ | ⟨b, o, c, n, arr, t, fr, rfl, _, e, _⟩
  · have : ps.length = 0 := by simpa using congrArg List.length e
    exact ⟨none, c, by rw [this]⟩
  · have : ps.length = n := by simpa using e
    exact ⟨_, c, by rw [this]⟩
theorem Lists.real {m : Mem} {v : Value} {ps : List (Value × List Int)} (h : Lists m v ps) {i : Nat} (hi : i < ps.length) : ∃ b o c, v = .slice (some ⟨b, o, none⟩) ps.length c ∧ ∀ (i : Nat) (hi : i < ps.length), mcell m b (o + i) = some ps[i].1 := by
  rcases h.lies with ⟨c, rfl, e⟩ | ⟨b, o, c, n, arr, t, fr, rfl, g1, e, _, g2, _⟩
  · have : ps.length = 0 := by simpa using congrArg List.length e
    omega
  · have : ps.length = n := by simpa using e
    exact ⟨b, o, c, by rw [this], fun j hj => mcell_of g1 (g2 j _ (by simp [hj]))⟩
def catB (ps : List (Value × List Int)) : List Int := (ps.map (·.2)).flatten
theorem catB_take {ps : List (Value × List Int)} {i : Nat} (h : i < ps.length) : catB (ps.take i) ++ ps[i].2 = catB (ps.take (i + 1)) := by
  rw [List.take_succ_eq_append_getElem h, catB, catB, List.map_append, List.flatten_append]; simp
theorem catB_le {ps : List (Value × List Int)} (i : Nat) : (catB (ps.take i)).length ≤ (catB ps).length := by
  have e : catB ps = catB (ps.take i) ++ catB (ps.drop i) := by
    rw [catB, catB, catB, ← List.flatten_append, ← List.map_append, List.take_append_drop]
  rw [e, List.length_append]; omega
theorem iadd' {i : Nat} (h : i < 1000000000000) : IntKind.i64.wrap ((i : Int) + 1) = ((i + 1 : Nat) : Int) := by rw [wi (by omega) (by omega)]; omega
theorem Lists.blk {m : Mem} {b n : Nat} {ps : List (Value × List Int)} {t : TypeId} {fr : Nat × Nat} (h : m b = some (.cells (ps.map (·.1)).toArray t fr)) (hn : ps.length = n) (hl : ∀ p ∈ ps, La m p.1 p.2) : Lists m (.slice (some ⟨b, 0, none⟩) n n) ps := by
  refine ⟨.inr ⟨b, 0, n, n, _, _, _, rfl, h, by simp [hn], Nat.le_refl _, fun j u hu => by simpa using hu, fun u hu => ?_⟩, fun p hp => hl p hp⟩
  obtain ⟨p, hp, rfl⟩ := List.mem_map.1 hu
  exact (hl p hp).one
theorem Lists.one {m : Mem} {b : Nat} {v : Value} {l : List Int} {t : TypeId} {fr : Nat × Nat} (h : m b = some (.cells #[v] t fr)) (hl : La m v l) : Lists m (.slice (some ⟨b, 0, none⟩) 1 1) [(v, l)] :=
  Lists.blk (ps := [(v, l)]) h rfl (by simpa using hl)
theorem Lists.two {m : Mem} {b : Nat} {v w : Value} {l k : List Int} {t : TypeId} {fr : Nat × Nat} (h : m b = some (.cells #[v, w] t fr)) (hl : La m v l) (hk : La m w k) : Lists m (.slice (some ⟨b, 0, none⟩) 2 2) [(v, l), (w, k)] :=
  Lists.blk (ps := [(v, l), (w, k)]) h rfl (by simpa using ⟨hl, hk⟩)
theorem Lists.three {m : Mem} {b : Nat} {v w u : Value} {l k j : List Int} {t : TypeId} {fr : Nat × Nat} (h : m b = some (.cells #[v, w, u] t fr)) (hl : La m v l) (hk : La m w k) (hj : La m u j) : Lists m (.slice (some ⟨b, 0, none⟩) 3 3) [(v, l), (w, k), (u, j)] :=
  Lists.blk (ps := [(v, l), (w, k), (u, j)]) h rfl (by simpa using ⟨hl, hk, hj⟩)
end Go.E.YtheiididldemmaaGreat

/-
  Lists of whole numbers.
-/
namespace Go.E.YtheiididldemmaaGreat
open Go.Proofs
set_option maxRecDepth 100000
theorem hIs : tt.get 148 = some ⟨.slice 3, 1, 24, [.one (.slice none 0 0)], false⟩ := by rfl
theorem hI' : tt.get 3 = some ⟨.int .i64, 1, 8, [.one (.int .i64 0)], false⟩ := by rfl
abbrev ic (l : List Int) : List Value := l.map (Value.int .i64)
theorem ic_one {l : List Int} : ∀ u ∈ ic l, u.oneCell' = true := by
  intro u hu; obtain ⟨a, _, rfl⟩ := List.mem_map.1 hu; rfl
/-- numbers that lie somewhere; owned -/
def Il (m : Mem) (v : Value) (l : List Int) : Prop := Lies m 1 v (ic l)
def Io (m : Mem) (v : Value) (l : List Int) : Prop := Own m 3 1 v (ic l)
/-- numbers that lie somewhere; or none, wherever -/
def Ia (m : Mem) (v : Value) (l : List Int) : Prop := Il m v l ∨ (l = [] ∧ ∃ a, v = .slice (some a) 0 0)
theorem Il.sub {m m' : Mem} {v : Value} {l : List Int} (h : Il m v l) (hs : Sub m m') : Il m' v l := Lies.sub h hs
theorem Io.sub {m m' : Mem} {v : Value} {l : List Int} (h : Io m v l) (hs : Sub m m') : Io m' v l := Own.sub h hs
theorem Io.il {m : Mem} {v : Value} {l : List Int} (h : Io m v l) : Il m v l := Own.lies h
theorem Il.ia {m : Mem} {v : Value} {l : List Int} (h : Il m v l) : Ia m v l := .inl h
theorem Ia.sub {m m' : Mem} {v : Value} {l : List Int} (h : Ia m v l) (hs : Sub m m') : Ia m' v l := h.imp (·.sub hs) id
theorem Io.nil (m : Mem) : Io m (.slice none 0 0) [] := .inl ⟨rfl, rfl⟩
theorem Il.shape {m : Mem} {v : Value} {l : List Int} (h : Il m v l) : ∃ a c, v = .slice a l.length c := by
  rcases h with ⟨c, rfl, e⟩ | ⟨b, o, c, n, arr, t, fr, rfl, _, e, _⟩
  · have : l.length = 0 := by simpa using congrArg List.length e
    exact ⟨none, c, by rw [this]⟩
  · have : l.length = n := by simpa using e
    exact ⟨_, c, by rw [this]⟩
theorem Ia.shape {m : Mem} {v : Value} {l : List Int} (h : Ia m v l) : ∃ a c, v = .slice a l.length c := by
  rcases h with h | ⟨rfl, a, rfl⟩
  · exact h.shape
  · exact ⟨_, _, rfl⟩
theorem Ia.one {m : Mem} {v : Value} {l : List Int} (h : Ia m v l) : v.oneCell' = true := by obtain ⟨a, c, rfl⟩ := h.shape; rfl
theorem Ia.il {m : Mem} {v : Value} {l : List Int} (h : Ia m v l) (hl : l ≠ []) : Il m v l := h.elim id fun h => absurd h.1 hl
theorem Il.real {m : Mem} {v : Value} {l : List Int} (h : Il m v l) {i : Nat} (hi : i < l.length) : ∃ b o c, v = .slice (some ⟨b, o, none⟩) l.length c ∧ ∀ j (hj : j < l.length), mcell m b (o + j) = some (.int .i64 l[j]) := by
  rcases h with ⟨c, rfl, e⟩ | ⟨b, o, c, n, arr, t, fr, rfl, g1, e, _, g2, _⟩
  · have : l.length = 0 := by simpa using congrArg List.length e
    omega
  · have : l.length = n := by simpa using e
    exact ⟨b, o, c, by rw [this], fun j hj => mcell_of g1 (g2 j _ (by simp [hj]))⟩
theorem Ia.real {m : Mem} {v : Value} {l : List Int} (h : Ia m v l) {i : Nat} (hi : i < l.length) : ∃ b o c, v = .slice (some ⟨b, o, none⟩) l.length c ∧ ∀ j (hj : j < l.length), mcell m b (o + j) = some (.int .i64 l[j]) :=
  (h.il (by rintro rfl; simp at hi)).real hi
theorem Ia.lenV {m : Mem} {v : Value} {l : List Int} (h : Ia m v l) : lenV v = l.length := by obtain ⟨a, c, rfl⟩ := h.shape; rfl
theorem buildI1 {m : Mem} {x : Int} : PrimSpec Tryz.prog (.buildSlice 148 1 [0]) [.v (.int .i64 x)] m fun r m' => ∃ b, m b = none ∧ r = [.v (.slice (some ⟨b, 0, none⟩) 1 1)] ∧ m' = m.set b (.cells #[.int .i64 x] 3) :=
  buildSlice_spec (n := 1) tt_ok hIs rfl hI' rfl rfl (by simp [CV.cs]) (by simp) (by simp)
theorem Ia.gives {m : Mem} {v : Value} {l : List Int} {e : TypeId} (h : Ia m v l) : Gives m 1 (.slice e) v (ic l) := .inl ⟨e, rfl, h.imp id fun ⟨h1, h2⟩ => ⟨by rw [h1]; rfl, h2⟩⟩
/-- append of numbers onto the i-th part -/
theorem appendIat {m p : Mem} {ls : List Mem} {i : Nat} {v x : Value} {l news : List Int} (hs : Split m ls) (hi : ls[i]? = some p) (hv : Io p v l) (hg : Ia m x news) (hb : l.length + news.length ≤ 1000000000) :
    PrimSpec Tryz.prog (.builtin .append [148, 148]) [.v v, .v x] m fun r m' => ∃ v' p', r = [.v v'] ∧ Split m' (ls.set i p') ∧ Io p' v' (l ++ news) := by
  have e1 := hv.il.ia.lenV
  have e2 := hg.lenV
  refine (append_at tt_ok hIs rfl hI' hIs rfl hs hi hv hg.gives (by rw [e1, e2]; simp only; omega) (by rw [e1, e2]; omega)).mono fun r m' ⟨v', p', h1, h2, h3⟩ => ⟨v', p', h1, h2, ?_⟩
  have := h3.own
  rw [show ic l ++ ic news = ic (l ++ news) by simp [ic]] at this
  exact this
theorem Il.blk1 {m : Mem} {b : Nat} {x : Int} {t : TypeId} {fr : Nat × Nat} (h : m b = some (.cells #[.int .i64 x] t fr)) : Il m (.slice (some ⟨b, 0, none⟩) 1 1) [x] :=
  .inr ⟨b, 0, 1, 1, _, _, _, rfl, h, rfl, Nat.le_refl _, fun j u hu => by simpa [ic] using hu, by simp [ic, Value.oneCell']⟩
/-- one number more -/
theorem pushI {m p : Mem} {ls : List Mem} {b' : Nat} {x : Int} {y : Value} {l : List Int} (hs : Split m (p :: ls)) (hb : m b' = none) (hy : Io p y l) (hl : l.length ≤ 100000000) :
    PrimSpec Tryz.prog (.builtin .append [148, 148]) [.v y, .v (.slice (some ⟨b', 0, none⟩) 1 1)] (m.set b' (.cells #[.int .i64 x] 3)) fun r m' => ∃ y' p', r = [.v y'] ∧ Split m' (p' :: ls) ∧ Io p' y' (l ++ [x]) := by
  have hs1 := hs.new hb (.cells #[.int .i64 x] 3)
  refine (appendIat (i := 1) hs1 rfl hy (Il.blk1 (Mem.set_same ..)).ia (by simp; omega)).mono fun r m' ⟨v', p', h1, h2, h3⟩ => ⟨v', p', h1, h2.erase 0, h3⟩
theorem iadd1 {i : Nat} (h : i < 1000000000000) : IntKind.i64.wrap ((i : Int) + 1) = ((i + 1 : Nat) : Int) := by rw [wi (by omega) (by omega)]; omega
theorem mcell_rng {m : Mem} {b o j : Nat} {l : List Value} {y : Value} (h : MRange m b o l) (hj : l[j]? = some y) : mcell m b (o + j) = some y := by
  obtain ⟨arr, t, fr, h1, h2⟩ := h
  exact mcell_of h1 (h2 j y hj)
end Go.E.YtheiididldemmaaGreat

/-
  Contracts of the functions of tally, of the document's, and of the law's own.
-/
namespace Go.E.YtheiididldemmaaGreat
open Go.Proofs
set_option maxRecDepth 100000

abbrev M62 : Int := 4611686018427387904
def U (n : Int) : Prop := 0 ≤ n ∧ n < 18446744073709551616
def I (n : Int) : Prop := -9223372036854775808 ≤ n ∧ n < 9223372036854775808
def more (a b : Int) : Int := min (min a M62 + min b M62) M62
abbrev tal (a b : Int) : CV := .a [.one (.int .u64 a), .one (.int .u64 b)]
abbrev cnt2 (u d : List Int) : CV := .a [.ints .u64 8 u, .ints .u64 8 d]
def V8 (l : List Int) : Prop := l.length = 8 ∧ ∀ i, U (l.getD i 0)
def ofUp (n : Int) : Int := if n < 0 then 0 else n
def ofDown (n : Int) : Int := if n < 0 then -n else 0

def zipTo (f : Int → Int → Int) : Nat → List Int → List Int → List Int
  | n + 1, a :: u, b :: v => f a b :: zipTo f n u v
  | _, u, _ => u
theorem zipTo_zero (f : Int → Int → Int) (u v : List Int) : zipTo f 0 u v = u := by cases u <;> rfl
theorem zipTo_set (f : Int → Int → Int) : ∀ (i : Nat) (u v : List Int), i < u.length → u.length = v.length → (zipTo f i u v).set i (f ((zipTo f i u v).getD i 0) (v.getD i 0)) = zipTo f (i + 1) u v
  | 0, a :: u, b :: v, _, _ => by cases u <;> cases v <;> simp [zipTo]
  | i + 1, a :: u, b :: v, h, h' => by simpa [zipTo] using zipTo_set f i u v (by simpa using h) (by simpa using h')
  | _, [], _, h, _ => by simp at h
  | _, _ :: _, [], _, h => by simp at h
theorem zipTo_getD (f : Int → Int → Int) : ∀ (i : Nat) (u v : List Int), (zipTo f i u v).getD i 0 = u.getD i 0
  | 0, u, v => by rw [zipTo_zero]
  | i + 1, [], v => by simp [zipTo]
  | i + 1, a :: u, [] => by simp [zipTo]
  | i + 1, a :: u, b :: v => by simpa [zipTo] using zipTo_getD f i u v
theorem zipTo_all (f : Int → Int → Int) : ∀ (i : Nat) (u v : List Int), u.length ≤ i → u.length = v.length → zipTo f i u v = List.zipWith f u v
  | 0, [], [], _, _ => rfl
  | i + 1, [], [], _, _ => rfl
  | i + 1, a :: u, b :: v, h, h' => by simp [zipTo, zipTo_all f i u v (by simpa using h) (by simpa using h')]
  | 0, _ :: _, _, h, _ => by simp at h
  | _, [], _ :: _, _, h => by simp at h
  | _ + 1, _ :: _, [], _, h => by simp at h
/-- the sum of the first i -/
def sumTo : Nat → List Int → Int
  | 0, _ => 0
  | i + 1, l => more (sumTo i l) (l.getD i 0)
theorem sumTo_U {l : List Int} (h : ∀ i, U (l.getD i 0)) : ∀ i, U (sumTo i l)
  | 0 => ⟨by simp [sumTo], by simp [sumTo]⟩
  | i + 1 => by
    obtain ⟨h1, _⟩ := sumTo_U h i
    obtain ⟨h3, _⟩ := h i
    simp only [sumTo, more, U, M62]
    omega
theorem ofUp_U {n : Int} (hn : I n) : U (ofUp n) := by unfold ofUp U; obtain ⟨_, _⟩ := hn; split <;> omega
theorem ofDown_U {n : Int} (hn : I n) : U (ofDown n) := by unfold ofDown U; obtain ⟨_, _⟩ := hn; split <;> omega
abbrev X64 : Int := 18446744073709551616
/-- what Count answers -/
def countR (u d : List Int) (node n : Int) : List CV :=
  if node < 1 ∨ 8 < node then [cnt2 (List.replicate 8 0) (List.replicate 8 0), i64 11]
  else if X64 ≤ u.getD (node - 1).toNat 0 + ofUp n ∨ X64 ≤ d.getD (node - 1).toNat 0 + ofDown n then [cnt2 (List.replicate 8 0) (List.replicate 8 0), i64 13]
  else [cnt2 (u.set (node - 1).toNat (u.getD (node - 1).toNat 0 + ofUp n)) (d.set (node - 1).toNat (d.getD (node - 1).toNat 0 + ofDown n)), i64 0]
theorem over_iff {a b : Int} (ha : U a) (hb : U b) : decide (IntKind.u64.wrap (a + b) < b) = decide (X64 ≤ a + b) := by
  obtain ⟨_, _⟩ := ha; obtain ⟨_, _⟩ := hb
  rw [IntKind.wrap_u64]
  by_cases h : X64 ≤ a + b
  · rw [decide_eq_true h, decide_eq_true]
    simp only [X64] at h; omega
  · rw [decide_eq_false h, decide_eq_false]
    simp only [X64] at h; omega
/-- a slice of numbers that lie in memory -/
def Ints (m : Mem) (v : Value) (l : List Int) : Prop :=
  (∃ c, v = .slice none 0 c ∧ l = []) ∨ ∃ b o c, v = .slice (some ⟨b, o, none⟩) l.length c ∧ ∀ j, j < l.length → mcell m b (o + j) = some (.int .i64 (l.getD j 0))
def addTo (f : Int → Int) : Nat → List Int → Int
  | 0, _ => 0
  | i + 1, l => more (addTo f i l) (f (l.getD i 0))
theorem addTo_U {f : Int → Int} {l : List Int} (h : ∀ i, U (f (l.getD i 0))) : ∀ i, U (addTo f i l)
  | 0 => ⟨by simp [addTo], by simp [addTo]⟩
  | i + 1 => by
    obtain ⟨h1, _⟩ := addTo_U h i
    obtain ⟨h3, _⟩ := h i
    simp only [addTo, more, U, M62]
    omega
theorem set_self : ∀ (l : List Int) (i : Nat), l.set i (l.getD i 0) = l
  | [], _ => rfl
  | a :: l, 0 => by simp
  | a :: l, i + 1 => by simp only [List.set_cons_succ]; congr 1; simpa using set_self l i
theorem set_max {i : Nat} {u v : List Int} (hi : i < u.length) (h : u.length = v.length) : zipTo max (i + 1) u v = if u.getD i 0 < v.getD i 0 then (zipTo max i u v).set i (v.getD i 0) else zipTo max i u v := by
  rw [← zipTo_set max i u v hi h, zipTo_getD]
  by_cases hlt : u.getD i 0 < v.getD i 0
  · rw [if_pos hlt, show max (u.getD i 0) (v.getD i 0) = v.getD i 0 by omega]
  · rw [if_neg hlt, show max (u.getD i 0) (v.getD i 0) = u.getD i 0 by omega]
    have : ∀ (l : List Int) (i : Nat) (x : Int), l.getD i 0 = x → l.set i x = l := by
      intro l
      induction l with
      | nil => intro i x _; rfl
      | cons a l ih =>
        intro i x hx
        cases i with
        | zero => simp at hx; simp [hx]
        | succ i => simp only [List.set_cons_succ]; rw [ih i x (by simpa using hx)]
    exact this _ _ _ (zipTo_getD max i u v)
end Go.E.YtheiididldemmaaGreat

/-
  The laws of tally.
-/
namespace Go.E.YtheiididldemmaaGreat
open Go.Proofs
set_option maxRecDepth 100000

theorem getD_of_all {p : Int → Prop} : ∀ {l : List Int}, (∀ x ∈ l, p x) → p 0 → ∀ i, p (l.getD i 0)
  | [], _, h0, i => by simpa using h0
  | a :: l, h, h0, 0 => by simpa using h a (by simp)
  | a :: l, h, h0, i + 1 => by simpa using getD_of_all (fun x hx => h x (by simp [hx])) h0 i
theorem V8.of {l : List Int} (h : l.length = 8) (h2 : l.all (fun x => decide (0 ≤ x) && decide (x < 18446744073709551616)) = true) : V8 l := by
  refine ⟨h, getD_of_all (p := U) (fun x hx => ?_) ⟨by decide, by decide⟩⟩
  have := List.all_eq_true.1 h2 x hx
  simpa [U] using this
theorem Ret.cast {P : Program} {f : FuncId} {args : List CV} {m : Mem} {r r' : List CV} (h : Ret P f args m r) (e : r = r') : Ret P f args m r' := e ▸ h
theorem ii {n : Int} (h : decide (-9223372036854775808 ≤ n) && decide (n < 9223372036854775808) = true) : I n := by simpa [I] using h
theorem uu {n : Int} (h : (decide (0 ≤ n) && decide (n < 18446744073709551616)) = true) : U n := by simpa [U] using h
theorem V8.zip {u u' : List Int} (h : V8 u) (h' : V8 u') : V8 (List.zipWith max u u') := by
  obtain ⟨h1, h2⟩ := h
  obtain ⟨h1', h2'⟩ := h'
  refine ⟨by simp [h1, h1'], fun i => ?_⟩
  by_cases hi : i < 8
  · have e : (List.zipWith max u u').getD i 0 = max (u.getD i 0) (u'.getD i 0) := by
      simp [List.getD_eq_getElem?_getD, List.getElem?_zipWith, h1, h1', hi]
    rw [e]
    obtain ⟨_, _⟩ := h2 i
    obtain ⟨_, _⟩ := h2' i
    exact ⟨by omega, by omega⟩
  · have e : (List.zipWith max u u').getD i 0 = 0 := by
      simp [List.getD_eq_getElem?_getD, List.getElem?_zipWith, h1, h1', hi]
    rw [e]; exact ⟨by decide, by decide⟩
theorem countR_is {u d : List Int} (hu : V8 u) (hd : V8 d) (node n : Int) : ∃ a b e, countR u d node n = [cnt2 a b, i64 e] := by
  unfold countR
  split
  · exact ⟨_, _, _, rfl⟩
  · split
    · exact ⟨_, _, _, rfl⟩
    · exact ⟨_, _, _, rfl⟩
theorem eqLB_refl_cnt (u d : List Int) : eqLB [.ints .u64 8 u, .ints .u64 8 d] [.ints .u64 8 u, .ints .u64 8 d] = true := by simp [eqLB]
end Go.E.YtheiididldemmaaGreat
