/-
  : how the functions named here are run: made by a program.
-/
import Derived.Test.YtkapdbbjgpofnaaTab
namespace Go.E.Ytkapdbbjgpofnaa
open Go.Proofs
set_option maxRecDepth 100000
/- maund maundlaw15.FrameTorn -/
noncomputable def c3 : Cfg := ⟨Try.prog, tt.get, inL [], atL [(12, ⟨.op 0 .all (.op 1 .all (.op 2 .all (.op 5 .all (.op 6 .all (.op 7 .all (.op 8 .all (.op 9 .all (.or (.op 3 .all (.or (.op 4 .all (.op 10 .none (.op 11 .none (.op 12 .all (.op 13 .all (.nil)))))) (.op 10 .none (.op 4 .all (.op 11 .none (.op 12 .all (.op 13 .all (.nil)))))))) (.op 10 .none (.op 3 .all (.op 4 .all (.op 11 .none (.op 12 .all (.op 13 .all (.nil))))))))))))))), [0, 0, 2, 6, 15, 0, 0, 0, 192, 448, 960, 2047, 4095, 8191]⟩),
  (20, ⟨.op 0 .all (.op 1 .all (.op 2 .all (.op 3 .all (.op 4 .all (.op 5 .all (.op 6 .all (.op 7 .all (.nil)))))))), [0, 1, 0, 0, 12, 28, 3, 127]⟩)], inL [13, 15]⟩
theorem en3 {args : List CV} {m : Mem} {R : List CV → Mem → Prop} (hlen : Nat.ble args.length Try.f3.ntmps = true) (h : xwp c3 (bodyOf Try.f3) (QRet tt.get Try.f3.results.toList R) ⟨initF args, [], m, []⟩) : Spec Try.prog 3 args m R :=
  Spec.of_body (c := c3) Try.func3 (by kernel_rfl) (by kernel_rfl) tt_ok wide (by kernel_rfl) hlen h
/- maund maundlaw15.FrameBursts -/
noncomputable def c4 : Cfg := ⟨Try.prog, tt.get, inL [], atL [(8, ⟨.op 0 .all (.op 1 .all (.op 2 .all (.op 3 .all (.op 4 .all (.op 5 .all (.op 6 .all (.op 7 .all (.op 8 .all (.op 9 .all (.op 10 .all (.op 11 .all (.op 12 .all (.op 13 .all (.op 14 .all (.op 15 .all (.op 16 .all (.op 17 .all (.op 18 .all (.op 19 .none (.nil)))))))))))))))))))), [0, 0, 0, 6, 14, 0, 0, 0, 192, 448, 992, 2016, 0, 0, 12288, 28672, 61440, 131040, 262143, 524287]⟩)], inL []⟩
theorem en4 {args : List CV} {m : Mem} {R : List CV → Mem → Prop} (hlen : Nat.ble args.length Try.f4.ntmps = true) (h : xwp c4 (bodyOf Try.f4) (QRet tt.get Try.f4.results.toList R) ⟨initF args, [], m, []⟩) : Spec Try.prog 4 args m R :=
  Spec.of_body (c := c4) Try.func4 (by kernel_rfl) (by kernel_rfl) tt_ok wide (by kernel_rfl) hlen h
/- maund maundlaw15.alive -/
noncomputable def c5 : Cfg := ⟨Try.prog, tt.get, inL [], atL [], inL []⟩
theorem en5 {args : List CV} {m : Mem} {R : List CV → Mem → Prop} (hlen : Nat.ble args.length Try.f5.ntmps = true) (h : xwp c5 (bodyOf Try.f5) (QRet tt.get Try.f5.results.toList R) ⟨initF args, [], m, []⟩) : Spec Try.prog 5 args m R :=
  Spec.of_body (c := c5) Try.func5 (by kernel_rfl) (by kernel_rfl) tt_ok wide (by kernel_rfl) hlen h
/- maund frame.Write -/
noncomputable def c6 : Cfg := ⟨Try.prog, tt.get, inL [], atL [], inL []⟩
theorem en6 {args : List CV} {m : Mem} {R : List CV → Mem → Prop} (hlen : Nat.ble args.length Try.f6.ntmps = true) (h : xwp c6 (bodyOf Try.f6) (QRet tt.get Try.f6.results.toList R) ⟨initF args, [], m, []⟩) : Spec Try.prog 6 args m R :=
  Spec.of_body (c := c6) Try.func6 (by kernel_rfl) (by kernel_rfl) tt_ok wide (by kernel_rfl) hlen h
/- maund frame.Read -/
noncomputable def c7 : Cfg := ⟨Try.prog, tt.get, inL [], atL [], inL []⟩
theorem en7 {args : List CV} {m : Mem} {R : List CV → Mem → Prop} (hlen : Nat.ble args.length Try.f7.ntmps = true) (h : xwp c7 (bodyOf Try.f7) (QRet tt.get Try.f7.results.toList R) ⟨initF args, [], m, []⟩) : Spec Try.prog 7 args m R :=
  Spec.of_body (c := c7) Try.func7 (by kernel_rfl) (by kernel_rfl) tt_ok wide (by kernel_rfl) hlen h
/- maund maundlaw15.same -/
noncomputable def c8 : Cfg := ⟨Try.prog, tt.get, inL [], atL [(6, ⟨.op 0 .all (.op 1 .all (.op 2 .all (.op 3 .all (.op 4 .all (.op 5 .all (.op 6 .all (.op 7 .all (.op 8 .all (.op 9 .all (.op 10 .all (.nil))))))))))), [0, 0, 3, 7, 15, 0, 0, 96, 224, 480, 1023]⟩)], inL []⟩
theorem en8 {args : List CV} {m : Mem} {R : List CV → Mem → Prop} (hlen : Nat.ble args.length Try.f8.ntmps = true) (h : xwp c8 (bodyOf Try.f8) (QRet tt.get Try.f8.results.toList R) ⟨initF args, [], m, []⟩) : Spec Try.prog 8 args m R :=
  Spec.of_body (c := c8) Try.func8 (by kernel_rfl) (by kernel_rfl) tt_ok wide (by kernel_rfl) hlen h
/- maund frame.Sum -/
noncomputable def c9 : Cfg := ⟨Try.prog, tt.get, inL [], atL [], inL []⟩
theorem en9 {args : List CV} {m : Mem} {R : List CV → Mem → Prop} (hlen : Nat.ble args.length Try.f9.ntmps = true) (h : xwp c9 (bodyOf Try.f9) (QRet tt.get Try.f9.results.toList R) ⟨initF args, [], m, []⟩) : Spec Try.prog 9 args m R :=
  Spec.of_body (c := c9) Try.func9 (by kernel_rfl) (by kernel_rfl) tt_ok wide (by kernel_rfl) hlen h
/- maund frame.isRecord -/
noncomputable def c10 : Cfg := ⟨Try.prog, tt.get, inL [], atL [], inL []⟩
theorem en10 {args : List CV} {m : Mem} {R : List CV → Mem → Prop} (hlen : Nat.ble args.length Try.f10.ntmps = true) (h : xwp c10 (bodyOf Try.f10) (QRet tt.get Try.f10.results.toList R) ⟨initF args, [], m, []⟩) : Spec Try.prog 10 args m R :=
  Spec.of_body (c := c10) Try.func10 (by kernel_rfl) (by kernel_rfl) tt_ok wide (by kernel_rfl) hlen h
/- slices.Concat[[]byte,byte] -/
noncomputable def c11 : Cfg := ⟨Try.prog, tt.get, inL [], atL [], inL []⟩
theorem en11 {args : List CV} {m : Mem} {R : List CV → Mem → Prop} (hlen : Nat.ble args.length Try.f11.ntmps = true) (h : xwp c11 (bodyOf Try.f11) (QRet tt.get Try.f11.results.toList R) ⟨initF args, [], m, []⟩) : Spec Try.prog 11 args m R :=
  Spec.of_body (c := c11) Try.func11 (by kernel_rfl) (by kernel_rfl) tt_ok wide (by kernel_rfl) hlen h
/- maund frame.head -/
noncomputable def c12 : Cfg := ⟨Try.prog, tt.get, inL [5], atL [], inL []⟩
theorem en12 {args : List CV} {m : Mem} {R : List CV → Mem → Prop} (hlen : Nat.ble args.length Try.f12.ntmps = true) (h : xwp c12 (bodyOf Try.f12) (QRet tt.get Try.f12.results.toList R) ⟨initF args, [], m, []⟩) : Spec Try.prog 12 args m R :=
  Spec.of_body (c := c12) Try.func12 (by kernel_rfl) (by kernel_rfl) tt_ok wide (by kernel_rfl) hlen h
/- maund frame.four -/
noncomputable def c13 : Cfg := ⟨Try.prog, tt.get, inL [], atL [], inL []⟩
theorem en13 {args : List CV} {m : Mem} {R : List CV → Mem → Prop} (hlen : Nat.ble args.length Try.f13.ntmps = true) (h : xwp c13 (bodyOf Try.f13) (QRet tt.get Try.f13.results.toList R) ⟨initF args, [], m, []⟩) : Spec Try.prog 13 args m R :=
  Spec.of_body (c := c13) Try.func13 (by kernel_rfl) (by kernel_rfl) tt_ok wide (by kernel_rfl) hlen h
/- maund frame.next -/
noncomputable def c14 : Cfg := ⟨Try.prog, tt.get, inL [], atL [(11, ⟨.op 0 .all (.op 3 .all (.op 4 .all (.op 5 .all (.op 6 .all (.op 7 .all (.op 8 .all (.op 9 .all (.op 10 .all (.op 11 .all (.op 1 .none (.op 2 .none (.op 12 .none (.op 13 .all (.nil)))))))))))))), [0, 1, 3, 0, 0, 0, 48, 0, 0, 384, 896, 2040, 4095, 8191]⟩)], inL []⟩
theorem en14 {args : List CV} {m : Mem} {R : List CV → Mem → Prop} (hlen : Nat.ble args.length Try.f14.ntmps = true) (h : xwp c14 (bodyOf Try.f14) (QRet tt.get Try.f14.results.toList R) ⟨initF args, [], m, []⟩) : Spec Try.prog 14 args m R :=
  Spec.of_body (c := c14) Try.func14 (by kernel_rfl) (by kernel_rfl) tt_ok wide (by kernel_rfl) hlen h
/- slices.Grow[[]byte,byte] -/
noncomputable def c15 : Cfg := ⟨Try.prog, tt.get, inL [], atL [], inL []⟩
theorem en15 {args : List CV} {m : Mem} {R : List CV → Mem → Prop} (hlen : Nat.ble args.length Try.f15.ntmps = true) (h : xwp c15 (bodyOf Try.f15) (QRet tt.get Try.f15.results.toList R) ⟨initF args, [], m, []⟩) : Spec Try.prog 15 args m R :=
  Spec.of_body (c := c15) Try.func15 (by kernel_rfl) (by kernel_rfl) tt_ok wide (by kernel_rfl) hlen h
/- (*maund wire.Writer).Num -/
noncomputable def c16 : Cfg := ⟨Try.prog, tt.get, inL [], atL [(10, ⟨.op 0 .all (.op 1 .all (.op 2 .all (.op 3 .all (.op 4 .all (.op 5 .all (.op 6 .all (.op 7 .all (.op 8 .all (.op 9 .all (.op 10 .all (.op 11 .none (.op 12 .all (.op 13 .all (.op 14 .none (.nil))))))))))))))), [0, 0, 2, 6, 14, 0, 0, 64, 224, 480, 992, 2046, 4095, 8191, 16383]⟩)], inL []⟩
theorem en16 {args : List CV} {m : Mem} {R : List CV → Mem → Prop} (hlen : Nat.ble args.length Try.f16.ntmps = true) (h : xwp c16 (bodyOf Try.f16) (QRet tt.get Try.f16.results.toList R) ⟨initF args, [], m, []⟩) : Spec Try.prog 16 args m R :=
  Spec.of_body (c := c16) Try.func16 (by kernel_rfl) (by kernel_rfl) tt_ok wide (by kernel_rfl) hlen h
/- (*maund wire.Writer).Bytes -/
noncomputable def c17 : Cfg := ⟨Try.prog, tt.get, inL [], atL [], inL []⟩
theorem en17 {args : List CV} {m : Mem} {R : List CV → Mem → Prop} (hlen : Nat.ble args.length Try.f17.ntmps = true) (h : xwp c17 (bodyOf Try.f17) (QRet tt.get Try.f17.results.toList R) ⟨initF args, [], m, []⟩) : Spec Try.prog 17 args m R :=
  Spec.of_body (c := c17) Try.func17 (by kernel_rfl) (by kernel_rfl) tt_ok wide (by kernel_rfl) hlen h
/- maund wire.From -/
noncomputable def c18 : Cfg := ⟨Try.prog, tt.get, inL [6], atL [], inL []⟩
theorem en18 {args : List CV} {m : Mem} {R : List CV → Mem → Prop} (hlen : Nat.ble args.length Try.f18.ntmps = true) (h : xwp c18 (bodyOf Try.f18) (QRet tt.get Try.f18.results.toList R) ⟨initF args, [], m, []⟩) : Spec Try.prog 18 args m R :=
  Spec.of_body (c := c18) Try.func18 (by kernel_rfl) (by kernel_rfl) tt_ok wide (by kernel_rfl) hlen h
/- (*maund wire.Reader).Small -/
noncomputable def c19 : Cfg := ⟨Try.prog, tt.get, inL [], atL [], inL []⟩
theorem en19 {args : List CV} {m : Mem} {R : List CV → Mem → Prop} (hlen : Nat.ble args.length Try.f19.ntmps = true) (h : xwp c19 (bodyOf Try.f19) (QRet tt.get Try.f19.results.toList R) ⟨initF args, [], m, []⟩) : Spec Try.prog 19 args m R :=
  Spec.of_body (c := c19) Try.func19 (by kernel_rfl) (by kernel_rfl) tt_ok wide (by kernel_rfl) hlen h
/- (*maund wire.Reader).Err -/
noncomputable def c20 : Cfg := ⟨Try.prog, tt.get, inL [], atL [], inL []⟩
theorem en20 {args : List CV} {m : Mem} {R : List CV → Mem → Prop} (hlen : Nat.ble args.length Try.f20.ntmps = true) (h : xwp c20 (bodyOf Try.f20) (QRet tt.get Try.f20.results.toList R) ⟨initF args, [], m, []⟩) : Spec Try.prog 20 args m R :=
  Spec.of_body (c := c20) Try.func20 (by kernel_rfl) (by kernel_rfl) tt_ok wide (by kernel_rfl) hlen h
/- slices.Clone[[]byte,byte] -/
noncomputable def c21 : Cfg := ⟨Try.prog, tt.get, inL [], atL [], inL []⟩
theorem en21 {args : List CV} {m : Mem} {R : List CV → Mem → Prop} (hlen : Nat.ble args.length Try.f21.ntmps = true) (h : xwp c21 (bodyOf Try.f21) (QRet tt.get Try.f21.results.toList R) ⟨initF args, [], m, []⟩) : Spec Try.prog 21 args m R :=
  Spec.of_body (c := c21) Try.func21 (by kernel_rfl) (by kernel_rfl) tt_ok wide (by kernel_rfl) hlen h
/- slices.Equal[[]byte,byte] -/
noncomputable def c22 : Cfg := ⟨Try.prog, tt.get, inL [], atL [(6, ⟨.op 0 .all (.op 1 .all (.op 2 .all (.op 3 .all (.op 4 .all (.op 5 .all (.op 6 .all (.op 7 .all (.op 8 .all (.nil))))))))), [0, 0, 3, 7, 0, 0, 48, 112, 255]⟩)], inL []⟩
theorem en22 {args : List CV} {m : Mem} {R : List CV → Mem → Prop} (hlen : Nat.ble args.length Try.f22.ntmps = true) (h : xwp c22 (bodyOf Try.f22) (QRet tt.get Try.f22.results.toList R) ⟨initF args, [], m, []⟩) : Spec Try.prog 22 args m R :=
  Spec.of_body (c := c22) Try.func22 (by kernel_rfl) (by kernel_rfl) tt_ok wide (by kernel_rfl) hlen h
/- (*maund wire.Reader).Num -/
noncomputable def c23 : Cfg := ⟨Try.prog, tt.get, inL [], atL [], inL []⟩
theorem en23 {args : List CV} {m : Mem} {R : List CV → Mem → Prop} (hlen : Nat.ble args.length Try.f23.ntmps = true) (h : xwp c23 (bodyOf Try.f23) (QRet tt.get Try.f23.results.toList R) ⟨initF args, [], m, []⟩) : Spec Try.prog 23 args m R :=
  Spec.of_body (c := c23) Try.func23 (by kernel_rfl) (by kernel_rfl) tt_ok wide (by kernel_rfl) hlen h
/- (*maund wire.Reader).Must -/
noncomputable def c24 : Cfg := ⟨Try.prog, tt.get, inL [], atL [], inL []⟩
theorem en24 {args : List CV} {m : Mem} {R : List CV → Mem → Prop} (hlen : Nat.ble args.length Try.f24.ntmps = true) (h : xwp c24 (bodyOf Try.f24) (QRet tt.get Try.f24.results.toList R) ⟨initF args, [], m, []⟩) : Spec Try.prog 24 args m R :=
  Spec.of_body (c := c24) Try.func24 (by kernel_rfl) (by kernel_rfl) tt_ok wide (by kernel_rfl) hlen h
/- (*maund wire.Reader).take -/
noncomputable def c25 : Cfg := ⟨Try.prog, tt.get, inL [], atL [], inL []⟩
theorem en25 {args : List CV} {m : Mem} {R : List CV → Mem → Prop} (hlen : Nat.ble args.length Try.f25.ntmps = true) (h : xwp c25 (bodyOf Try.f25) (QRet tt.get Try.f25.results.toList R) ⟨initF args, [], m, []⟩) : Spec Try.prog 25 args m R :=
  Spec.of_body (c := c25) Try.func25 (by kernel_rfl) (by kernel_rfl) tt_ok wide (by kernel_rfl) hlen h
end Go.E.Ytkapdbbjgpofnaa
