/-
  Cfg, H, Nc, E15, E17
-/
import Derived.Test.YtgjlajcebcmbaaaGreatDoorSnapLivesZ4
import Derived.Great.BuildSlice
import Derived.Deep.AppendSrc
/-
  : how the functions named here are run: made by a program.
-/
namespace Go.E.YtgjlajcebcmbaaaGreatDoor
open Go.Proofs
set_option maxRecDepth 100000
/- maund maundlaw17.SnapNames -/
noncomputable def c3 : Cfg := ⟨Tryz.prog, tt.get, inL [], atL [], inL []⟩
theorem en3 {args : List CV} {m : Mem} {R : List CV → Mem → Prop} (hlen : Nat.ble args.length Tryz.f3.ntmps = true) (h : xwp c3 (bodyOf Tryz.f3) (QRet tt.get Tryz.f3.results.toList R) ⟨initF args, [], m, []⟩) : Spec Tryz.prog 3 args m R :=
  Spec.of_body (c := c3) Tryz.func3 (by kernel_rfl) (by kernel_rfl) tt_ok wide (by kernel_rfl) hlen h
/- maund maundlaw17.SnapLast -/
noncomputable def c4 : Cfg := ⟨Tryz.prog, tt.get, inL [], atL [(12, ⟨.op 0 .all (.op 1 .all (.op 2 .all (.op 3 .all (.op 4 .all (.op 5 .all (.op 6 .all (.op 7 .all (.op 8 .all (.op 9 .all (.op 10 .all (.op 11 .all (.nil)))))))))))), [0, 1, 0, 4, 12, 31, 0, 0, 192, 448, 63, 2047]⟩)], inL [17]⟩
theorem en4 {args : List CV} {m : Mem} {R : List CV → Mem → Prop} (hlen : Nat.ble args.length Tryz.f4.ntmps = true) (h : xwp c4 (bodyOf Tryz.f4) (QRet tt.get Tryz.f4.results.toList R) ⟨initF args, [], m, []⟩) : Spec Tryz.prog 4 args m R :=
  Spec.of_body (c := c4) Tryz.func4 (by kernel_rfl) (by kernel_rfl) tt_ok wide (by kernel_rfl) hlen h
/- maund maundlaw17.SnapWhole -/
noncomputable def c5 : Cfg := ⟨Tryz.prog, tt.get, inL [], atL [], inL [9, 18]⟩
theorem en5 {args : List CV} {m : Mem} {R : List CV → Mem → Prop} (hlen : Nat.ble args.length Tryz.f5.ntmps = true) (h : xwp c5 (bodyOf Tryz.f5) (QRet tt.get Tryz.f5.results.toList R) ⟨initF args, [], m, []⟩) : Spec Tryz.prog 5 args m R :=
  Spec.of_body (c := c5) Tryz.func5 (by kernel_rfl) (by kernel_rfl) tt_ok wide (by kernel_rfl) hlen h
/- maund maundlaw17.SnapLives -/
noncomputable def c6 : Cfg := ⟨Tryz.prog, tt.get, inL [53, 55, 57], atL [(25, ⟨.op 0 .all (.op 1 .all (.op 2 .all (.op 3 .all (.op 4 .all (.op 5 .all (.op 6 .all (.op 7 .all (.op 8 .all (.op 9 .all (.op 11 .all (.op 12 .all (.op 13 .all (.op 14 .all (.op 10 .all (.op 15 .all (.op 16 .all (.op 17 .all (.nil)))))))))))))))))), [0, 0, 3, 7, 15, 15, 63, 127, 255, 511, 1023, 511, 2559, 6655, 14847, 32767, 65535, 131071]⟩),
  (38, ⟨.op 0 .all (.op 1 .all (.op 2 .all (.op 3 .all (.op 4 .all (.op 5 .all (.op 6 .all (.op 7 .all (.op 8 .all (.nil))))))))), [0, 0, 3, 7, 0, 0, 48, 112, 255]⟩)], inL [32]⟩
theorem en6 {args : List CV} {m : Mem} {R : List CV → Mem → Prop} (hlen : Nat.ble args.length Tryz.f6.ntmps = true) (h : xwp c6 (bodyOf Tryz.f6) (QRet tt.get Tryz.f6.results.toList R) ⟨initF args, [], m, []⟩) : Spec Tryz.prog 6 args m R :=
  Spec.of_body (c := c6) Tryz.func6 (by kernel_rfl) (by kernel_rfl) tt_ok wide (by kernel_rfl) hlen h
/- maund maundlaw17.alive -/
noncomputable def c7 : Cfg := ⟨Tryz.prog, tt.get, inL [], atL [], inL []⟩
theorem en7 {args : List CV} {m : Mem} {R : List CV → Mem → Prop} (hlen : Nat.ble args.length Tryz.f7.ntmps = true) (h : xwp c7 (bodyOf Tryz.f7) (QRet tt.get Tryz.f7.results.toList R) ⟨initF args, [], m, []⟩) : Spec Tryz.prog 7 args m R :=
  Spec.of_body (c := c7) Tryz.func7 (by kernel_rfl) (by kernel_rfl) tt_ok wide (by kernel_rfl) hlen h
/- maund snap.Name -/
noncomputable def c8 : Cfg := ⟨Tryz.prog, tt.get, inL [], atL [], inL []⟩
theorem en8 {args : List CV} {m : Mem} {R : List CV → Mem → Prop} (hlen : Nat.ble args.length Tryz.f8.ntmps = true) (h : xwp c8 (bodyOf Tryz.f8) (QRet tt.get Tryz.f8.results.toList R) ⟨initF args, [], m, []⟩) : Spec Tryz.prog 8 args m R :=
  Spec.of_body (c := c8) Tryz.func8 (by kernel_rfl) (by kernel_rfl) tt_ok wide (by kernel_rfl) hlen h
/- maund snap.Number -/
noncomputable def c9 : Cfg := ⟨Tryz.prog, tt.get, inL [], atL [], inL []⟩
theorem en9 {args : List CV} {m : Mem} {R : List CV → Mem → Prop} (hlen : Nat.ble args.length Tryz.f9.ntmps = true) (h : xwp c9 (bodyOf Tryz.f9) (QRet tt.get Tryz.f9.results.toList R) ⟨initF args, [], m, []⟩) : Spec Tryz.prog 9 args m R :=
  Spec.of_body (c := c9) Tryz.func9 (by kernel_rfl) (by kernel_rfl) tt_ok wide (by kernel_rfl) hlen h
/- maund maundref17.Number -/
noncomputable def c10 : Cfg := ⟨Tryz.prog, tt.get, inL [], atL [], inL []⟩
theorem en10 {args : List CV} {m : Mem} {R : List CV → Mem → Prop} (hlen : Nat.ble args.length Tryz.f10.ntmps = true) (h : xwp c10 (bodyOf Tryz.f10) (QRet tt.get Tryz.f10.results.toList R) ⟨initF args, [], m, []⟩) : Spec Tryz.prog 10 args m R :=
  Spec.of_body (c := c10) Tryz.func10 (by kernel_rfl) (by kernel_rfl) tt_ok wide (by kernel_rfl) hlen h
/- maund maundref17.Name -/
noncomputable def c11 : Cfg := ⟨Tryz.prog, tt.get, inL [], atL [], inL []⟩
theorem en11 {args : List CV} {m : Mem} {R : List CV → Mem → Prop} (hlen : Nat.ble args.length Tryz.f11.ntmps = true) (h : xwp c11 (bodyOf Tryz.f11) (QRet tt.get Tryz.f11.results.toList R) ⟨initF args, [], m, []⟩) : Spec Tryz.prog 11 args m R :=
  Spec.of_body (c := c11) Tryz.func11 (by kernel_rfl) (by kernel_rfl) tt_ok wide (by kernel_rfl) hlen h
/- maund files.New -/
noncomputable def c12 : Cfg := ⟨Tryz.prog, tt.get, inL [9], atL [], inL []⟩
theorem en12 {args : List CV} {m : Mem} {R : List CV → Mem → Prop} (hlen : Nat.ble args.length Tryz.f12.ntmps = true) (h : xwp c12 (bodyOf Tryz.f12) (QRet tt.get Tryz.f12.results.toList R) ⟨initF args, [], m, []⟩) : Spec Tryz.prog 12 args m R :=
  Spec.of_body (c := c12) Tryz.func12 (by kernel_rfl) (by kernel_rfl) tt_ok wide (by kernel_rfl) hlen h
/- maund maundlaw17.Great -/
noncomputable def c13 : Cfg := ⟨Tryz.prog, tt.get, inL [], atL [], inL []⟩
theorem en13 {args : List CV} {m : Mem} {R : List CV → Mem → Prop} (hlen : Nat.ble args.length Tryz.f13.ntmps = true) (h : xwp c13 (bodyOf Tryz.f13) (QRet tt.get Tryz.f13.results.toList R) ⟨initF args, [], m, []⟩) : Spec Tryz.prog 13 args m R :=
  Spec.of_body (c := c13) Tryz.func13 (by kernel_rfl) (by kernel_rfl) tt_ok wide (by kernel_rfl) hlen h
/- maund maundlaw17.save -/
noncomputable def c14 : Cfg := ⟨Tryz.prog, tt.get, inL [], atL [], inL []⟩
theorem en14 {args : List CV} {m : Mem} {R : List CV → Mem → Prop} (hlen : Nat.ble args.length Tryz.f14.ntmps = true) (h : xwp c14 (bodyOf Tryz.f14) (QRet tt.get Tryz.f14.results.toList R) ⟨initF args, [], m, []⟩) : Spec Tryz.prog 14 args m R :=
  Spec.of_body (c := c14) Tryz.func14 (by kernel_rfl) (by kernel_rfl) tt_ok wide (by kernel_rfl) hlen h
/- maund snap.Load -/
noncomputable def c15 : Cfg := ⟨Tryz.prog, tt.get, inL [], atL [], inL []⟩
theorem en15 {args : List CV} {m : Mem} {R : List CV → Mem → Prop} (hlen : Nat.ble args.length Tryz.f15.ntmps = true) (h : xwp c15 (bodyOf Tryz.f15) (QRet tt.get Tryz.f15.results.toList R) ⟨initF args, [], m, []⟩) : Spec Tryz.prog 15 args m R :=
  Spec.of_body (c := c15) Tryz.func15 (by kernel_rfl) (by kernel_rfl) tt_ok wide (by kernel_rfl) hlen h
/- maund snap.Begin -/
noncomputable def c16 : Cfg := ⟨Tryz.prog, tt.get, inL [4, 32], atL [], inL []⟩
theorem en16 {args : List CV} {m : Mem} {R : List CV → Mem → Prop} (hlen : Nat.ble args.length Tryz.f16.ntmps = true) (h : xwp c16 (bodyOf Tryz.f16) (QRet tt.get Tryz.f16.results.toList R) ⟨initF args, [], m, []⟩) : Spec Tryz.prog 16 args m R :=
  Spec.of_body (c := c16) Tryz.func16 (by kernel_rfl) (by kernel_rfl) tt_ok wide (by kernel_rfl) hlen h
/- maund maundlaw17.same -/
noncomputable def c17 : Cfg := ⟨Tryz.prog, tt.get, inL [], atL [(6, ⟨.op 0 .all (.op 1 .all (.op 2 .all (.op 3 .all (.op 4 .all (.op 5 .all (.op 6 .all (.op 7 .all (.op 8 .all (.op 9 .all (.op 10 .all (.nil))))))))))), [0, 0, 3, 7, 15, 0, 0, 96, 224, 480, 1023]⟩)], inL []⟩
theorem en17 {args : List CV} {m : Mem} {R : List CV → Mem → Prop} (hlen : Nat.ble args.length Tryz.f17.ntmps = true) (h : xwp c17 (bodyOf Tryz.f17) (QRet tt.get Tryz.f17.results.toList R) ⟨initF args, [], m, []⟩) : Spec Tryz.prog 17 args m R :=
  Spec.of_body (c := c17) Tryz.func17 (by kernel_rfl) (by kernel_rfl) tt_ok wide (by kernel_rfl) hlen h
/- maund snap.Numbers -/
noncomputable def c18 : Cfg := ⟨Tryz.prog, tt.get, inL [], atL [], inL []⟩
theorem en18 {args : List CV} {m : Mem} {R : List CV → Mem → Prop} (hlen : Nat.ble args.length Tryz.f18.ntmps = true) (h : xwp c18 (bodyOf Tryz.f18) (QRet tt.get Tryz.f18.results.toList R) ⟨initF args, [], m, []⟩) : Spec Tryz.prog 18 args m R :=
  Spec.of_body (c := c18) Tryz.func18 (by kernel_rfl) (by kernel_rfl) tt_ok wide (by kernel_rfl) hlen h
/- (*maund files.Files).Crash -/
noncomputable def c19 : Cfg := ⟨Tryz.prog, tt.get, inL [], atL [(6, ⟨.op 0 .all (.op 1 .all (.op 2 .all (.op 3 .all (.op 4 .all (.op 5 .all (.op 6 .all (.op 7 .all (.op 8 .all (.op 9 .all (.op 10 .all (.op 11 .all (.op 12 .all (.op 13 .all (.op 14 .all (.op 15 .all (.op 16 .all (.nil))))))))))))))))), [0, 0, 3, 7, 15, 0, 32, 96, 224, 480, 0, 1024, 3072, 7168, 16352, 32767, 65535]⟩),
  (8, ⟨.op 0 .all (.op 1 .all (.op 2 .all (.op 3 .all (.op 4 .all (.op 5 .all (.op 6 .all (.op 7 .all (.op 8 .all (.op 9 .all (.op 10 .all (.op 11 .all (.op 12 .all (.op 13 .all (.op 14 .all (.op 15 .all (.op 16 .none (.nil))))))))))))))))), [0, 0, 2, 6, 14, 0, 32, 96, 224, 0, 512, 1536, 3584, 8190, 16383, 32767, 65535]⟩)], inL []⟩
theorem en19 {args : List CV} {m : Mem} {R : List CV → Mem → Prop} (hlen : Nat.ble args.length Tryz.f19.ntmps = true) (h : xwp c19 (bodyOf Tryz.f19) (QRet tt.get Tryz.f19.results.toList R) ⟨initF args, [], m, []⟩) : Spec Tryz.prog 19 args m R :=
  Spec.of_body (c := c19) Tryz.func19 (by kernel_rfl) (by kernel_rfl) tt_ok wide (by kernel_rfl) hlen h
/- maund maundref17.Begin -/
noncomputable def c20 : Cfg := ⟨Tryz.prog, tt.get, inL [37], atL [(10, ⟨.op 0 .all (.op 1 .all (.op 2 .all (.op 3 .all (.op 4 .all (.op 5 .all (.op 6 .all (.op 7 .all (.op 8 .all (.op 9 .all (.op 10 .all (.op 11 .all (.op 12 .all (.op 13 .all (.op 14 .none (.nil))))))))))))))), [0, 0, 2, 6, 14, 0, 0, 96, 224, 480, 992, 2046, 4095, 8191, 16383]⟩)], inL [4]⟩
theorem en20 {args : List CV} {m : Mem} {R : List CV → Mem → Prop} (hlen : Nat.ble args.length Tryz.f20.ntmps = true) (h : xwp c20 (bodyOf Tryz.f20) (QRet tt.get Tryz.f20.results.toList R) ⟨initF args, [], m, []⟩) : Spec Tryz.prog 20 args m R :=
  Spec.of_body (c := c20) Tryz.func20 (by kernel_rfl) (by kernel_rfl) tt_ok wide (by kernel_rfl) hlen h
/- (*maund snap.Save).Step -/
noncomputable def c21 : Cfg := ⟨Tryz.prog, tt.get, inL [], atL [], inL []⟩
theorem en21 {args : List CV} {m : Mem} {R : List CV → Mem → Prop} (hlen : Nat.ble args.length Tryz.f21.ntmps = true) (h : xwp c21 (bodyOf Tryz.f21) (QRet tt.get Tryz.f21.results.toList R) ⟨initF args, [], m, []⟩) : Spec Tryz.prog 21 args m R :=
  Spec.of_body (c := c21) Tryz.func21 (by kernel_rfl) (by kernel_rfl) tt_ok wide (by kernel_rfl) hlen h
/- (*maund maundref17.Save).Step -/
noncomputable def c22 : Cfg := ⟨Tryz.prog, tt.get, inL [], atL [(6, ⟨.op 0 .all (.op 1 .all (.op 2 .all (.op 3 .all (.op 4 .all (.op 5 .all (.op 6 .all (.op 7 .all (.op 8 .none (.op 9 .all (.nil)))))))))), [0, 1, 3, 7, 0, 16, 48, 112, 255, 511]⟩),
  (12, ⟨.op 0 .all (.op 1 .all (.op 2 .all (.op 3 .all (.op 4 .all (.op 5 .all (.op 6 .all (.op 7 .all (.op 8 .all (.op 9 .none (.nil)))))))))), [0, 1, 3, 7, 0, 16, 48, 112, 240, 511]⟩),
  (18, ⟨.op 0 .all (.op 1 .all (.op 2 .all (.op 3 .all (.op 4 .all (.op 5 .all (.op 6 .all (.op 7 .all (.op 8 .all (.nil))))))))), [0, 0, 3, 7, 0, 16, 48, 112, 255]⟩),
  (19, ⟨.op 0 .all (.op 1 .all (.op 2 .all (.op 3 .all (.op 4 .all (.op 5 .all (.op 6 .all (.op 7 .all (.op 8 .all (.op 9 .none (.nil)))))))))), [0, 1, 3, 7, 0, 0, 48, 112, 240, 511]⟩)], inL []⟩
theorem en22 {args : List CV} {m : Mem} {R : List CV → Mem → Prop} (hlen : Nat.ble args.length Tryz.f22.ntmps = true) (h : xwp c22 (bodyOf Tryz.f22) (QRet tt.get Tryz.f22.results.toList R) ⟨initF args, [], m, []⟩) : Spec Tryz.prog 22 args m R :=
  Spec.of_body (c := c22) Tryz.func22 (by kernel_rfl) (by kernel_rfl) tt_ok wide (by kernel_rfl) hlen h
/- (*maund snap.Save).Stage -/
noncomputable def c23 : Cfg := ⟨Tryz.prog, tt.get, inL [], atL [], inL []⟩
theorem en23 {args : List CV} {m : Mem} {R : List CV → Mem → Prop} (hlen : Nat.ble args.length Tryz.f23.ntmps = true) (h : xwp c23 (bodyOf Tryz.f23) (QRet tt.get Tryz.f23.results.toList R) ⟨initF args, [], m, []⟩) : Spec Tryz.prog 23 args m R :=
  Spec.of_body (c := c23) Tryz.func23 (by kernel_rfl) (by kernel_rfl) tt_ok wide (by kernel_rfl) hlen h
/- maund maundref17.Load -/
noncomputable def c24 : Cfg := ⟨Tryz.prog, tt.get, inL [], atL [], inL []⟩
theorem en24 {args : List CV} {m : Mem} {R : List CV → Mem → Prop} (hlen : Nat.ble args.length Tryz.f24.ntmps = true) (h : xwp c24 (bodyOf Tryz.f24) (QRet tt.get Tryz.f24.results.toList R) ⟨initF args, [], m, []⟩) : Spec Tryz.prog 24 args m R :=
  Spec.of_body (c := c24) Tryz.func24 (by kernel_rfl) (by kernel_rfl) tt_ok wide (by kernel_rfl) hlen h
/- maund maundlaw17.other -/
noncomputable def c25 : Cfg := ⟨Tryz.prog, tt.get, inL [], atL [(3, ⟨.op 0 .all (.op 1 .all (.op 2 .all (.op 3 .all (.op 4 .all (.op 6 .all (.op 7 .all (.op 8 .all (.op 9 .all (.op 10 .all (.op 11 .all (.op 5 .all (.op 12 .none (.op 13 .all (.op 14 .all (.nil))))))))))))))), [0, 0, 2, 0, 8, 31, 0, 0, 128, 0, 512, 1536, 4095, 8191, 16383]⟩),
  (5, ⟨.op 0 .all (.op 1 .all (.op 2 .all (.op 4 .all (.op 5 .all (.op 6 .all (.op 3 .all (.op 7 .none (.op 8 .all (.op 9 .all (.nil)))))))))), [0, 0, 2, 7, 0, 0, 32, 127, 255, 511]⟩),
  (7, ⟨.op 0 .all (.op 1 .all (.op 2 .all (.op 3 .all (.op 4 .all (.op 6 .all (.op 7 .all (.op 8 .all (.op 9 .all (.op 10 .all (.op 5 .all (.op 11 .none (.op 12 .all (.op 13 .all (.nil)))))))))))))), [0, 0, 2, 0, 8, 31, 0, 0, 128, 0, 512, 2047, 4095, 8191]⟩),
  (9, ⟨.op 0 .all (.op 1 .all (.op 2 .all (.op 4 .all (.op 5 .all (.op 6 .all (.op 3 .all (.op 7 .none (.op 8 .all (.op 9 .all (.nil)))))))))), [0, 0, 2, 7, 0, 0, 32, 127, 255, 511]⟩),
  (14, ⟨.op 0 .all (.op 1 .all (.op 2 .all (.op 3 .all (.op 4 .all (.op 6 .all (.op 7 .all (.op 8 .all (.op 9 .all (.op 10 .all (.op 5 .all (.op 11 .none (.op 12 .all (.op 13 .all (.nil)))))))))))))), [0, 0, 2, 0, 8, 31, 0, 0, 128, 0, 512, 2047, 4095, 8191]⟩)], inL []⟩
theorem en25 {args : List CV} {m : Mem} {R : List CV → Mem → Prop} (hlen : Nat.ble args.length Tryz.f25.ntmps = true) (h : xwp c25 (bodyOf Tryz.f25) (QRet tt.get Tryz.f25.results.toList R) ⟨initF args, [], m, []⟩) : Spec Tryz.prog 25 args m R :=
  Spec.of_body (c := c25) Tryz.func25 (by kernel_rfl) (by kernel_rfl) tt_ok wide (by kernel_rfl) hlen h
/- maund maundref17.Numbers -/
noncomputable def c26 : Cfg := ⟨Tryz.prog, tt.get, inL [], atL [], inL []⟩
theorem en26 {args : List CV} {m : Mem} {R : List CV → Mem → Prop} (hlen : Nat.ble args.length Tryz.f26.ntmps = true) (h : xwp c26 (bodyOf Tryz.f26) (QRet tt.get Tryz.f26.results.toList R) ⟨initF args, [], m, []⟩) : Spec Tryz.prog 26 args m R :=
  Spec.of_body (c := c26) Tryz.func26 (by kernel_rfl) (by kernel_rfl) tt_ok wide (by kernel_rfl) hlen h
/- maund maundlaw14.Same -/
noncomputable def c27 : Cfg := ⟨Tryz.prog, tt.get, inL [], atL [(9, ⟨.op 0 .all (.op 1 .all (.op 2 .all (.op 3 .all (.op 4 .all (.op 5 .all (.op 6 .all (.op 7 .all (.op 8 .all (.op 9 .all (.op 10 .all (.op 11 .all (.op 12 .all (.op 13 .all (.op 14 .all (.op 15 .all (.op 16 .all (.op 17 .all (.op 18 .all (.op 19 .all (.op 20 .all (.op 21 .all (.op 22 .all (.op 23 .all (.op 24 .all (.op 25 .all (.op 26 .all (.op 27 .all (.op 28 .all (.op 29 .all (.op 30 .all (.op 31 .all (.op 32 .all (.op 33 .all (.op 34 .all (.op 35 .all (.op 37 .all (.op 38 .all (.op 39 .all (.op 40 .all (.op 41 .all (.op 42 .all (.op 43 .all (.op 44 .all (.op 36 .all (.op 45 .all (.op 46 .all (.nil))))))))))))))))))))))))))))))))))))))))))))))), [0, 0, 3, 7, 0, 16, 48, 112, 0, 496, 1008, 2032, 4095, 8191, 16383, 32767, 16383, 81919, 212991, 475135, 16383, 2047999, 4145151, 8339455, 16777215, 33554431, 67108863, 134217727, 268435455, 536870911, 1073741823, 2147483647, 2147483647, 2147483647, 15032385535, 32212254719, 68719476735, 2147483647, 139586437119, 414464344063, 964220157951, 2147483647, 4262755041279, 8660801552383, 17456894574591, 35184372088831, 70368744177663]⟩)], inL []⟩
theorem en27 {args : List CV} {m : Mem} {R : List CV → Mem → Prop} (hlen : Nat.ble args.length Tryz.f27.ntmps = true) (h : xwp c27 (bodyOf Tryz.f27) (QRet tt.get Tryz.f27.results.toList R) ⟨initF args, [], m, []⟩) : Spec Tryz.prog 27 args m R :=
  Spec.of_body (c := c27) Tryz.func27 (by kernel_rfl) (by kernel_rfl) tt_ok wide (by kernel_rfl) hlen h
/- maund maundlaw17.nobody -/
noncomputable def c28 : Cfg := ⟨Tryz.prog, tt.get, inL [2], atL [], inL []⟩
theorem en28 {args : List CV} {m : Mem} {R : List CV → Mem → Prop} (hlen : Nat.ble args.length Tryz.f28.ntmps = true) (h : xwp c28 (bodyOf Tryz.f28) (QRet tt.get Tryz.f28.results.toList R) ⟨initF args, [], m, []⟩) : Spec Tryz.prog 28 args m R :=
  Spec.of_body (c := c28) Tryz.func28 (by kernel_rfl) (by kernel_rfl) tt_ok wide (by kernel_rfl) hlen h
/- maund snap.isNumber -/
noncomputable def c29 : Cfg := ⟨Tryz.prog, tt.get, inL [], atL [], inL []⟩
theorem en29 {args : List CV} {m : Mem} {R : List CV → Mem → Prop} (hlen : Nat.ble args.length Tryz.f29.ntmps = true) (h : xwp c29 (bodyOf Tryz.f29) (QRet tt.get Tryz.f29.results.toList R) ⟨initF args, [], m, []⟩) : Spec Tryz.prog 29 args m R :=
  Spec.of_body (c := c29) Tryz.func29 (by kernel_rfl) (by kernel_rfl) tt_ok wide (by kernel_rfl) hlen h
/- strconv.Itoa -/
noncomputable def c30 : Cfg := ⟨Tryz.prog, tt.get, inL [], atL [], inL []⟩
theorem en30 {args : List CV} {m : Mem} {R : List CV → Mem → Prop} (hlen : Nat.ble args.length Tryz.f30.ntmps = true) (h : xwp c30 (bodyOf Tryz.f30) (QRet tt.get Tryz.f30.results.toList R) ⟨initF args, [], m, []⟩) : Spec Tryz.prog 30 args m R :=
  Spec.of_body (c := c30) Tryz.func30 (by kernel_rfl) (by kernel_rfl) tt_ok wide (by kernel_rfl) hlen h
/- strings.Repeat -/
noncomputable def c31 : Cfg := ⟨Tryz.prog, tt.get, inL [], atL [], inL []⟩
theorem en31 {args : List CV} {m : Mem} {R : List CV → Mem → Prop} (hlen : Nat.ble args.length Tryz.f31.ntmps = true) (h : xwp c31 (bodyOf Tryz.f31) (QRet tt.get Tryz.f31.results.toList R) ⟨initF args, [], m, []⟩) : Spec Tryz.prog 31 args m R :=
  Spec.of_body (c := c31) Tryz.func31 (by kernel_rfl) (by kernel_rfl) tt_ok wide (by kernel_rfl) hlen h
/- strings.CutPrefix -/
noncomputable def c32 : Cfg := ⟨Tryz.prog, tt.get, inL [], atL [], inL []⟩
theorem en32 {args : List CV} {m : Mem} {R : List CV → Mem → Prop} (hlen : Nat.ble args.length Tryz.f32.ntmps = true) (h : xwp c32 (bodyOf Tryz.f32) (QRet tt.get Tryz.f32.results.toList R) ⟨initF args, [], m, []⟩) : Spec Tryz.prog 32 args m R :=
  Spec.of_body (c := c32) Tryz.func32 (by kernel_rfl) (by kernel_rfl) tt_ok wide (by kernel_rfl) hlen h
/- strconv.Atoi -/
noncomputable def c33 : Cfg := ⟨Tryz.prog, tt.get, inL [], atL [], inL []⟩
theorem en33 {args : List CV} {m : Mem} {R : List CV → Mem → Prop} (hlen : Nat.ble args.length Tryz.f33.ntmps = true) (h : xwp c33 (bodyOf Tryz.f33) (QRet tt.get Tryz.f33.results.toList R) ⟨initF args, [], m, []⟩) : Spec Tryz.prog 33 args m R :=
  Spec.of_body (c := c33) Tryz.func33 (by kernel_rfl) (by kernel_rfl) tt_ok wide (by kernel_rfl) hlen h
/- maund maundlaw14.Great -/
noncomputable def c34 : Cfg := ⟨Tryz.prog, tt.get, inL [], atL [], inL []⟩
theorem en34 {args : List CV} {m : Mem} {R : List CV → Mem → Prop} (hlen : Nat.ble args.length Tryz.f34.ntmps = true) (h : xwp c34 (bodyOf Tryz.f34) (QRet tt.get Tryz.f34.results.toList R) ⟨initF args, [], m, []⟩) : Spec Tryz.prog 34 args m R :=
  Spec.of_body (c := c34) Tryz.func34 (by kernel_rfl) (by kernel_rfl) tt_ok wide (by kernel_rfl) hlen h
/- maund snap.made -/
noncomputable def c35 : Cfg := ⟨Tryz.prog, tt.get, inL [], atL [], inL []⟩
theorem en35 {args : List CV} {m : Mem} {R : List CV → Mem → Prop} (hlen : Nat.ble args.length Tryz.f35.ntmps = true) (h : xwp c35 (bodyOf Tryz.f35) (QRet tt.get Tryz.f35.results.toList R) ⟨initF args, [], m, []⟩) : Spec Tryz.prog 35 args m R :=
  Spec.of_body (c := c35) Tryz.func35 (by kernel_rfl) (by kernel_rfl) tt_ok wide (by kernel_rfl) hlen h
/- (*maund files.Files).Read -/
noncomputable def c36 : Cfg := ⟨Tryz.prog, tt.get, inL [], atL [], inL []⟩
theorem en36 {args : List CV} {m : Mem} {R : List CV → Mem → Prop} (hlen : Nat.ble args.length Tryz.f36.ntmps = true) (h : xwp c36 (bodyOf Tryz.f36) (QRet tt.get Tryz.f36.results.toList R) ⟨initF args, [], m, []⟩) : Spec Tryz.prog 36 args m R :=
  Spec.of_body (c := c36) Tryz.func36 (by kernel_rfl) (by kernel_rfl) tt_ok wide (by kernel_rfl) hlen h
/- maund frame.Read -/
noncomputable def c37 : Cfg := ⟨Tryz.prog, tt.get, inL [], atL [], inL []⟩
theorem en37 {args : List CV} {m : Mem} {R : List CV → Mem → Prop} (hlen : Nat.ble args.length Tryz.f37.ntmps = true) (h : xwp c37 (bodyOf Tryz.f37) (QRet tt.get Tryz.f37.results.toList R) ⟨initF args, [], m, []⟩) : Spec Tryz.prog 37 args m R :=
  Spec.of_body (c := c37) Tryz.func37 (by kernel_rfl) (by kernel_rfl) tt_ok wide (by kernel_rfl) hlen h
/- maund snap.Begin$1 -/
noncomputable def c38 : Cfg := ⟨Tryz.prog, tt.get, inL [], atL [], inL []⟩
theorem en38 {args : List CV} {m : Mem} {R : List CV → Mem → Prop} (hlen : Nat.ble args.length Tryz.f38.ntmps = true) (h : xwp c38 (bodyOf Tryz.f38) (QRet tt.get Tryz.f38.results.toList R) ⟨initF args, [], m, []⟩) : Spec Tryz.prog 38 args m R :=
  Spec.of_body (c := c38) Tryz.func38 (by kernel_rfl) (by kernel_rfl) tt_ok wide (by kernel_rfl) hlen h
/- slices.ContainsFunc[[]int,int] -/
noncomputable def c39 : Cfg := ⟨Tryz.prog, tt.get, inL [], atL [], inL []⟩
theorem en39 {args : List CV} {m : Mem} {R : List CV → Mem → Prop} (hlen : Nat.ble args.length Tryz.f39.ntmps = true) (h : xwp c39 (bodyOf Tryz.f39) (QRet tt.get Tryz.f39.results.toList R) ⟨initF args, [], m, []⟩) : Spec Tryz.prog 39 args m R :=
  Spec.of_body (c := c39) Tryz.func39 (by kernel_rfl) (by kernel_rfl) tt_ok wide (by kernel_rfl) hlen h
/- maund frame.Write -/
noncomputable def c40 : Cfg := ⟨Tryz.prog, tt.get, inL [], atL [], inL []⟩
theorem en40 {args : List CV} {m : Mem} {R : List CV → Mem → Prop} (hlen : Nat.ble args.length Tryz.f40.ntmps = true) (h : xwp c40 (bodyOf Tryz.f40) (QRet tt.get Tryz.f40.results.toList R) ⟨initF args, [], m, []⟩) : Spec Tryz.prog 40 args m R :=
  Spec.of_body (c := c40) Tryz.func40 (by kernel_rfl) (by kernel_rfl) tt_ok wide (by kernel_rfl) hlen h
/- (*maund files.Files).Names -/
noncomputable def c41 : Cfg := ⟨Tryz.prog, tt.get, inL [], atL [], inL []⟩
theorem en41 {args : List CV} {m : Mem} {R : List CV → Mem → Prop} (hlen : Nat.ble args.length Tryz.f41.ntmps = true) (h : xwp c41 (bodyOf Tryz.f41) (QRet tt.get Tryz.f41.results.toList R) ⟨initF args, [], m, []⟩) : Spec Tryz.prog 41 args m R :=
  Spec.of_body (c := c41) Tryz.func41 (by kernel_rfl) (by kernel_rfl) tt_ok wide (by kernel_rfl) hlen h
/- maund maundref15.Write -/
noncomputable def c42 : Cfg := ⟨Tryz.prog, tt.get, inL [], atL [], inL []⟩
theorem en42 {args : List CV} {m : Mem} {R : List CV → Mem → Prop} (hlen : Nat.ble args.length Tryz.f42.ntmps = true) (h : xwp c42 (bodyOf Tryz.f42) (QRet tt.get Tryz.f42.results.toList R) ⟨initF args, [], m, []⟩) : Spec Tryz.prog 42 args m R :=
  Spec.of_body (c := c42) Tryz.func42 (by kernel_rfl) (by kernel_rfl) tt_ok wide (by kernel_rfl) hlen h
/- (*maund snap.Save).write -/
noncomputable def c43 : Cfg := ⟨Tryz.prog, tt.get, inL [], atL [(2, ⟨.op 0 .all (.op 1 .all (.op 2 .all (.op 3 .all (.op 4 .all (.op 5 .all (.op 6 .all (.op 7 .all (.op 8 .none (.op 9 .all (.nil)))))))))), [0, 1, 3, 7, 0, 16, 48, 112, 255, 511]⟩)], inL []⟩
theorem en43 {args : List CV} {m : Mem} {R : List CV → Mem → Prop} (hlen : Nat.ble args.length Tryz.f43.ntmps = true) (h : xwp c43 (bodyOf Tryz.f43) (QRet tt.get Tryz.f43.results.toList R) ⟨initF args, [], m, []⟩) : Spec Tryz.prog 43 args m R :=
  Spec.of_body (c := c43) Tryz.func43 (by kernel_rfl) (by kernel_rfl) tt_ok wide (by kernel_rfl) hlen h
/- (*maund files.Files).Sync -/
noncomputable def c44 : Cfg := ⟨Tryz.prog, tt.get, inL [], atL [], inL []⟩
theorem en44 {args : List CV} {m : Mem} {R : List CV → Mem → Prop} (hlen : Nat.ble args.length Tryz.f44.ntmps = true) (h : xwp c44 (bodyOf Tryz.f44) (QRet tt.get Tryz.f44.results.toList R) ⟨initF args, [], m, []⟩) : Spec Tryz.prog 44 args m R :=
  Spec.of_body (c := c44) Tryz.func44 (by kernel_rfl) (by kernel_rfl) tt_ok wide (by kernel_rfl) hlen h
/- (*maund files.Files).Rename -/
noncomputable def c45 : Cfg := ⟨Tryz.prog, tt.get, inL [], atL [], inL []⟩
theorem en45 {args : List CV} {m : Mem} {R : List CV → Mem → Prop} (hlen : Nat.ble args.length Tryz.f45.ntmps = true) (h : xwp c45 (bodyOf Tryz.f45) (QRet tt.get Tryz.f45.results.toList R) ⟨initF args, [], m, []⟩) : Spec Tryz.prog 45 args m R :=
  Spec.of_body (c := c45) Tryz.func45 (by kernel_rfl) (by kernel_rfl) tt_ok wide (by kernel_rfl) hlen h
/- (*maund snap.Save).sweep -/
noncomputable def c46 : Cfg := ⟨Tryz.prog, tt.get, inL [], atL [], inL []⟩
theorem en46 {args : List CV} {m : Mem} {R : List CV → Mem → Prop} (hlen : Nat.ble args.length Tryz.f46.ntmps = true) (h : xwp c46 (bodyOf Tryz.f46) (QRet tt.get Tryz.f46.results.toList R) ⟨initF args, [], m, []⟩) : Spec Tryz.prog 46 args m R :=
  Spec.of_body (c := c46) Tryz.func46 (by kernel_rfl) (by kernel_rfl) tt_ok wide (by kernel_rfl) hlen h
/- (*maund maundref14.Files).Remove -/
noncomputable def c47 : Cfg := ⟨Tryz.prog, tt.get, inL [], atL [], inL []⟩
theorem en47 {args : List CV} {m : Mem} {R : List CV → Mem → Prop} (hlen : Nat.ble args.length Tryz.f47.ntmps = true) (h : xwp c47 (bodyOf Tryz.f47) (QRet tt.get Tryz.f47.results.toList R) ⟨initF args, [], m, []⟩) : Spec Tryz.prog 47 args m R :=
  Spec.of_body (c := c47) Tryz.func47 (by kernel_rfl) (by kernel_rfl) tt_ok wide (by kernel_rfl) hlen h
/- (*maund maundref14.Files).Append -/
noncomputable def c48 : Cfg := ⟨Tryz.prog, tt.get, inL [], atL [(3, ⟨.op 0 .all (.op 1 .all (.op 2 .all (.op 3 .all (.op 4 .all (.op 5 .all (.op 6 .all (.op 8 .all (.op 9 .all (.op 11 .all (.op 12 .all (.op 13 .all (.op 14 .all (.op 7 .all (.op 10 .all (.op 15 .all (.op 16 .all (.nil))))))))))))))))), [0, 1, 3, 7, 15, 31, 63, 127, 63, 319, 1023, 63, 2111, 6207, 14399, 32767, 65535]⟩),
  (8, ⟨.op 0 .all (.op 1 .all (.op 2 .all (.op 3 .all (.op 4 .all (.op 5 .all (.op 6 .all (.op 7 .all (.op 8 .all (.op 9 .all (.op 10 .all (.op 11 .all (.op 12 .all (.op 13 .all (.op 14 .all (.op 15 .all (.op 16 .all (.op 17 .none (.nil)))))))))))))))))), [0, 1, 3, 7, 0, 0, 32, 96, 224, 0, 992, 2016, 4064, 0, 16352, 32767, 65535, 131071]⟩)], inL [5, 7]⟩
theorem en48 {args : List CV} {m : Mem} {R : List CV → Mem → Prop} (hlen : Nat.ble args.length Tryz.f48.ntmps = true) (h : xwp c48 (bodyOf Tryz.f48) (QRet tt.get Tryz.f48.results.toList R) ⟨initF args, [], m, []⟩) : Spec Tryz.prog 48 args m R :=
  Spec.of_body (c := c48) Tryz.func48 (by kernel_rfl) (by kernel_rfl) tt_ok wide (by kernel_rfl) hlen h
/- (*maund maundref14.Files).Sync -/
noncomputable def c49 : Cfg := ⟨Tryz.prog, tt.get, inL [], atL [(4, ⟨.op 0 .all (.op 1 .all (.op 2 .all (.op 3 .all (.op 4 .all (.op 5 .all (.op 6 .all (.op 7 .all (.op 8 .all (.op 9 .all (.op 10 .all (.op 11 .all (.op 12 .all (.op 13 .all (.op 14 .all (.op 15 .all (.op 16 .none (.nil))))))))))))))))), [0, 1, 3, 7, 0, 0, 32, 96, 224, 0, 992, 2016, 4064, 8160, 16383, 32767, 65535]⟩)], inL []⟩
theorem en49 {args : List CV} {m : Mem} {R : List CV → Mem → Prop} (hlen : Nat.ble args.length Tryz.f49.ntmps = true) (h : xwp c49 (bodyOf Tryz.f49) (QRet tt.get Tryz.f49.results.toList R) ⟨initF args, [], m, []⟩) : Spec Tryz.prog 49 args m R :=
  Spec.of_body (c := c49) Tryz.func49 (by kernel_rfl) (by kernel_rfl) tt_ok wide (by kernel_rfl) hlen h
/- (*maund maundref14.Files).Rename -/
noncomputable def c50 : Cfg := ⟨Tryz.prog, tt.get, inL [], atL [], inL [11]⟩
theorem en50 {args : List CV} {m : Mem} {R : List CV → Mem → Prop} (hlen : Nat.ble args.length Tryz.f50.ntmps = true) (h : xwp c50 (bodyOf Tryz.f50) (QRet tt.get Tryz.f50.results.toList R) ⟨initF args, [], m, []⟩) : Spec Tryz.prog 50 args m R :=
  Spec.of_body (c := c50) Tryz.func50 (by kernel_rfl) (by kernel_rfl) tt_ok wide (by kernel_rfl) hlen h
/- (*maund maundref14.Files).Read -/
noncomputable def c51 : Cfg := ⟨Tryz.prog, tt.get, inL [], atL [], inL []⟩
theorem en51 {args : List CV} {m : Mem} {R : List CV → Mem → Prop} (hlen : Nat.ble args.length Tryz.f51.ntmps = true) (h : xwp c51 (bodyOf Tryz.f51) (QRet tt.get Tryz.f51.results.toList R) ⟨initF args, [], m, []⟩) : Spec Tryz.prog 51 args m R :=
  Spec.of_body (c := c51) Tryz.func51 (by kernel_rfl) (by kernel_rfl) tt_ok wide (by kernel_rfl) hlen h
/- maund maundref15.Read -/
noncomputable def c52 : Cfg := ⟨Tryz.prog, tt.get, inL [19], atL [(12, ⟨.op 0 .all (.op 1 .all (.op 2 .all (.op 3 .all (.op 4 .all (.op 5 .all (.op 6 .all (.op 7 .all (.op 8 .all (.op 9 .all (.op 10 .all (.op 11 .all (.op 12 .all (.op 13 .all (.op 14 .all (.op 15 .all (.op 16 .all (.nil))))))))))))))))), [0, 0, 0, 4, 12, 28, 62, 0, 0, 256, 768, 1792, 3968, 0, 16256, 32767, 65535]⟩),
  (14, ⟨.op 0 .all (.op 1 .all (.op 2 .all (.op 3 .all (.op 4 .all (.op 5 .all (.op 6 .all (.op 7 .all (.op 8 .all (.op 9 .all (.op 10 .all (.nil))))))))))), [0, 1, 0, 0, 0, 0, 32, 112, 252, 508, 1023]⟩)], inL []⟩
theorem en52 {args : List CV} {m : Mem} {R : List CV → Mem → Prop} (hlen : Nat.ble args.length Tryz.f52.ntmps = true) (h : xwp c52 (bodyOf Tryz.f52) (QRet tt.get Tryz.f52.results.toList R) ⟨initF args, [], m, []⟩) : Spec Tryz.prog 52 args m R :=
  Spec.of_body (c := c52) Tryz.func52 (by kernel_rfl) (by kernel_rfl) tt_ok wide (by kernel_rfl) hlen h
/- (*maund files.Files).Append -/
noncomputable def c53 : Cfg := ⟨Tryz.prog, tt.get, inL [45], atL [(6, ⟨.op 0 .all (.op 1 .all (.op 2 .all (.op 3 .all (.op 4 .all (.op 5 .all (.op 6 .all (.op 8 .all (.op 9 .all (.op 10 .all (.op 11 .all (.op 12 .all (.op 13 .all (.op 14 .all (.op 7 .all (.op 15 .all (.op 16 .all (.op 17 .all (.nil)))))))))))))))))), [0, 1, 3, 7, 15, 31, 63, 127, 63, 319, 831, 1855, 63, 4159, 16191, 32767, 65535, 131071]⟩)], inL [11]⟩
theorem en53 {args : List CV} {m : Mem} {R : List CV → Mem → Prop} (hlen : Nat.ble args.length Tryz.f53.ntmps = true) (h : xwp c53 (bodyOf Tryz.f53) (QRet tt.get Tryz.f53.results.toList R) ⟨initF args, [], m, []⟩) : Spec Tryz.prog 53 args m R :=
  Spec.of_body (c := c53) Tryz.func53 (by kernel_rfl) (by kernel_rfl) tt_ok wide (by kernel_rfl) hlen h
/- (*maund files.Files).Remove -/
noncomputable def c54 : Cfg := ⟨Tryz.prog, tt.get, inL [], atL [], inL []⟩
theorem en54 {args : List CV} {m : Mem} {R : List CV → Mem → Prop} (hlen : Nat.ble args.length Tryz.f54.ntmps = true) (h : xwp c54 (bodyOf Tryz.f54) (QRet tt.get Tryz.f54.results.toList R) ⟨initF args, [], m, []⟩) : Spec Tryz.prog 54 args m R :=
  Spec.of_body (c := c54) Tryz.func54 (by kernel_rfl) (by kernel_rfl) tt_ok wide (by kernel_rfl) hlen h
/- (*maund maundref14.Files).Crash -/
noncomputable def c55 : Cfg := ⟨Tryz.prog, tt.get, inL [], atL [(6, ⟨.op 0 .all (.op 1 .all (.op 2 .all (.op 3 .all (.op 4 .all (.op 5 .all (.op 6 .all (.op 7 .all (.op 8 .all (.op 9 .all (.op 10 .all (.op 11 .all (.op 12 .all (.op 13 .all (.op 14 .all (.op 15 .all (.op 16 .all (.op 17 .all (.op 18 .all (.op 19 .all (.nil)))))))))))))))))))), [0, 0, 2, 6, 14, 0, 62, 126, 254, 510, 0, 1024, 3072, 7168, 0, 31744, 64512, 130048, 262142, 524287]⟩),
  (7, ⟨.op 0 .all (.op 1 .all (.op 2 .all (.op 3 .all (.op 4 .all (.op 5 .all (.op 6 .all (.op 7 .all (.op 8 .all (.op 9 .all (.op 10 .all (.op 11 .all (.op 12 .all (.op 13 .all (.op 14 .all (.op 15 .all (.op 16 .all (.op 17 .all (.op 18 .all (.nil))))))))))))))))))), [0, 1, 3, 7, 0, 31, 63, 127, 255, 0, 512, 1536, 3584, 0, 15872, 32256, 65024, 131071, 262143]⟩),
  (8, ⟨.op 0 .all (.op 1 .all (.op 2 .all (.op 3 .all (.op 4 .all (.op 5 .all (.op 6 .all (.op 7 .all (.op 8 .all (.op 9 .all (.op 10 .all (.op 11 .all (.op 12 .all (.op 13 .all (.op 14 .all (.op 15 .all (.op 16 .all (.op 17 .none (.nil)))))))))))))))))), [0, 1, 3, 7, 0, 0, 32, 96, 224, 0, 992, 2016, 4064, 0, 16352, 32767, 65535, 131071]⟩),
  (9, ⟨.op 0 .all (.op 1 .all (.op 2 .all (.op 3 .all (.op 4 .all (.op 5 .all (.op 6 .all (.op 7 .all (.op 8 .all (.op 9 .all (.op 10 .all (.op 11 .all (.op 12 .all (.op 13 .all (.op 14 .all (.op 15 .all (.op 16 .all (.op 17 .all (.op 18 .all (.op 19 .all (.op 20 .all (.op 21 .all (.op 22 .all (.op 23 .all (.op 24 .none (.nil))))))))))))))))))))))))), [0, 1, 3, 7, 0, 0, 32, 96, 224, 0, 992, 2016, 4064, 0, 8192, 24576, 57344, 0, 253952, 516096, 1040384, 2097120, 4194303, 8388607, 16777215]⟩)], inL []⟩
theorem en55 {args : List CV} {m : Mem} {R : List CV → Mem → Prop} (hlen : Nat.ble args.length Tryz.f55.ntmps = true) (h : xwp c55 (bodyOf Tryz.f55) (QRet tt.get Tryz.f55.results.toList R) ⟨initF args, [], m, []⟩) : Spec Tryz.prog 55 args m R :=
  Spec.of_body (c := c55) Tryz.func55 (by kernel_rfl) (by kernel_rfl) tt_ok wide (by kernel_rfl) hlen h
/- (*maund files.Files).Cut -/
noncomputable def c56 : Cfg := ⟨Tryz.prog, tt.get, inL [], atL [(6, ⟨.op 0 .all (.op 1 .all (.op 2 .all (.op 3 .all (.op 4 .all (.op 5 .all (.op 6 .all (.op 7 .all (.op 8 .all (.op 9 .all (.op 10 .all (.op 11 .all (.op 12 .all (.op 13 .all (.op 14 .all (.op 15 .all (.op 16 .all (.op 17 .none (.op 18 .all (.op 19 .all (.op 20 .none (.nil))))))))))))))))))))), [0, 0, 0, 4, 12, 28, 0, 0, 252, 0, 512, 1536, 3584, 0, 15872, 8189, 40957, 106493, 262143, 524287, 1048575]⟩)], inL []⟩
theorem en56 {args : List CV} {m : Mem} {R : List CV → Mem → Prop} (hlen : Nat.ble args.length Tryz.f56.ntmps = true) (h : xwp c56 (bodyOf Tryz.f56) (QRet tt.get Tryz.f56.results.toList R) ⟨initF args, [], m, []⟩) : Spec Tryz.prog 56 args m R :=
  Spec.of_body (c := c56) Tryz.func56 (by kernel_rfl) (by kernel_rfl) tt_ok wide (by kernel_rfl) hlen h
/- (*maund maundref14.Files).Cut -/
noncomputable def c57 : Cfg := ⟨Tryz.prog, tt.get, inL [], atL [(6, ⟨.op 0 .all (.op 1 .all (.op 2 .all (.op 3 .all (.op 4 .all (.op 5 .all (.op 6 .all (.op 7 .all (.op 8 .all (.op 9 .all (.op 10 .all (.op 11 .all (.op 12 .all (.op 13 .all (.op 14 .all (.op 15 .all (.op 16 .all (.op 17 .none (.nil)))))))))))))))))), [0, 1, 3, 7, 0, 0, 32, 96, 224, 0, 992, 2016, 4064, 0, 16352, 32767, 65535, 131071]⟩)], inL []⟩
theorem en57 {args : List CV} {m : Mem} {R : List CV → Mem → Prop} (hlen : Nat.ble args.length Tryz.f57.ntmps = true) (h : xwp c57 (bodyOf Tryz.f57) (QRet tt.get Tryz.f57.results.toList R) ⟨initF args, [], m, []⟩) : Spec Tryz.prog 57 args m R :=
  Spec.of_body (c := c57) Tryz.func57 (by kernel_rfl) (by kernel_rfl) tt_ok wide (by kernel_rfl) hlen h
/- (*maund files.Files).Counts -/
noncomputable def c58 : Cfg := ⟨Tryz.prog, tt.get, inL [], atL [(3, ⟨.op 0 .all (.op 1 .all (.op 2 .all (.op 4 .all (.op 5 .all (.op 6 .all (.op 3 .none (.op 7 .none (.op 8 .all (.op 9 .all (.nil)))))))))), [0, 1, 3, 7, 0, 16, 48, 127, 255, 511]⟩)], inL []⟩
theorem en58 {args : List CV} {m : Mem} {R : List CV → Mem → Prop} (hlen : Nat.ble args.length Tryz.f58.ntmps = true) (h : xwp c58 (bodyOf Tryz.f58) (QRet tt.get Tryz.f58.results.toList R) ⟨initF args, [], m, []⟩) : Spec Tryz.prog 58 args m R :=
  Spec.of_body (c := c58) Tryz.func58 (by kernel_rfl) (by kernel_rfl) tt_ok wide (by kernel_rfl) hlen h
/- (*maund files.Files).Used -/
noncomputable def c59 : Cfg := ⟨Tryz.prog, tt.get, inL [], atL [], inL []⟩
theorem en59 {args : List CV} {m : Mem} {R : List CV → Mem → Prop} (hlen : Nat.ble args.length Tryz.f59.ntmps = true) (h : xwp c59 (bodyOf Tryz.f59) (QRet tt.get Tryz.f59.results.toList R) ⟨initF args, [], m, []⟩) : Spec Tryz.prog 59 args m R :=
  Spec.of_body (c := c59) Tryz.func59 (by kernel_rfl) (by kernel_rfl) tt_ok wide (by kernel_rfl) hlen h
/- (*maund maundref14.Files).Used -/
noncomputable def c60 : Cfg := ⟨Tryz.prog, tt.get, inL [], atL [], inL []⟩
theorem en60 {args : List CV} {m : Mem} {R : List CV → Mem → Prop} (hlen : Nat.ble args.length Tryz.f60.ntmps = true) (h : xwp c60 (bodyOf Tryz.f60) (QRet tt.get Tryz.f60.results.toList R) ⟨initF args, [], m, []⟩) : Spec Tryz.prog 60 args m R :=
  Spec.of_body (c := c60) Tryz.func60 (by kernel_rfl) (by kernel_rfl) tt_ok wide (by kernel_rfl) hlen h
/- (*maund files.Files).Safe -/
noncomputable def c61 : Cfg := ⟨Tryz.prog, tt.get, inL [], atL [], inL []⟩
theorem en61 {args : List CV} {m : Mem} {R : List CV → Mem → Prop} (hlen : Nat.ble args.length Tryz.f61.ntmps = true) (h : xwp c61 (bodyOf Tryz.f61) (QRet tt.get Tryz.f61.results.toList R) ⟨initF args, [], m, []⟩) : Spec Tryz.prog 61 args m R :=
  Spec.of_body (c := c61) Tryz.func61 (by kernel_rfl) (by kernel_rfl) tt_ok wide (by kernel_rfl) hlen h
/- math bits.Mul -/
noncomputable def c63 : Cfg := ⟨Tryz.prog, tt.get, inL [], atL [], inL []⟩
theorem en63 {args : List CV} {m : Mem} {R : List CV → Mem → Prop} (hlen : Nat.ble args.length Tryz.f63.ntmps = true) (h : xwp c63 (bodyOf Tryz.f63) (QRet tt.get Tryz.f63.results.toList R) ⟨initF args, [], m, []⟩) : Spec Tryz.prog 63 args m R :=
  Spec.of_body (c := c63) Tryz.func63 (by kernel_rfl) (by kernel_rfl) tt_ok wide (by kernel_rfl) hlen h
/- strings.HasPrefix -/
noncomputable def c64 : Cfg := ⟨Tryz.prog, tt.get, inL [], atL [], inL []⟩
theorem en64 {args : List CV} {m : Mem} {R : List CV → Mem → Prop} (hlen : Nat.ble args.length Tryz.f64.ntmps = true) (h : xwp c64 (bodyOf Tryz.f64) (QRet tt.get Tryz.f64.results.toList R) ⟨initF args, [], m, []⟩) : Spec Tryz.prog 64 args m R :=
  Spec.of_body (c := c64) Tryz.func64 (by kernel_rfl) (by kernel_rfl) tt_ok wide (by kernel_rfl) hlen h
/- (*strings.Builder).Grow -/
noncomputable def c65 : Cfg := ⟨Tryz.prog, tt.get, inL [], atL [(3, ⟨.op 0 .all (.op 1 .all (.op 2 .all (.op 3 .all (.op 5 .all (.op 6 .all (.op 7 .all (.op 8 .all (.op 9 .all (.op 11 .all (.op 4 .all (.op 10 .all (.op 12 .all (.nil))))))))))))), [0, 1, 3, 7, 15, 0, 32, 96, 224, 480, 1023, 0, 4095]⟩)], inL []⟩
theorem en65 {args : List CV} {m : Mem} {R : List CV → Mem → Prop} (hlen : Nat.ble args.length Tryz.f65.ntmps = true) (h : xwp c65 (bodyOf Tryz.f65) (QRet tt.get Tryz.f65.results.toList R) ⟨initF args, [], m, []⟩) : Spec Tryz.prog 65 args m R :=
  Spec.of_body (c := c65) Tryz.func65 (by kernel_rfl) (by kernel_rfl) tt_ok wide (by kernel_rfl) hlen h
/- (*strings.Builder).WriteString -/
noncomputable def c66 : Cfg := ⟨Tryz.prog, tt.get, inL [], atL [], inL []⟩
theorem en66 {args : List CV} {m : Mem} {R : List CV → Mem → Prop} (hlen : Nat.ble args.length Tryz.f66.ntmps = true) (h : xwp c66 (bodyOf Tryz.f66) (QRet tt.get Tryz.f66.results.toList R) ⟨initF args, [], m, []⟩) : Spec Tryz.prog 66 args m R :=
  Spec.of_body (c := c66) Tryz.func66 (by kernel_rfl) (by kernel_rfl) tt_ok wide (by kernel_rfl) hlen h
/- (*strings.Builder).Len -/
noncomputable def c67 : Cfg := ⟨Tryz.prog, tt.get, inL [], atL [], inL []⟩
theorem en67 {args : List CV} {m : Mem} {R : List CV → Mem → Prop} (hlen : Nat.ble args.length Tryz.f67.ntmps = true) (h : xwp c67 (bodyOf Tryz.f67) (QRet tt.get Tryz.f67.results.toList R) ⟨initF args, [], m, []⟩) : Spec Tryz.prog 67 args m R :=
  Spec.of_body (c := c67) Tryz.func67 (by kernel_rfl) (by kernel_rfl) tt_ok wide (by kernel_rfl) hlen h
/- (*strings.Builder).String -/
noncomputable def c68 : Cfg := ⟨Tryz.prog, tt.get, inL [], atL [(1, ⟨.op 0 .all (.op 1 .all (.op 2 .all (.op 3 .all (.op 5 .all (.op 6 .all (.op 7 .all (.op 8 .all (.op 9 .all (.op 4 .all (.op 10 .none (.op 11 .all (.nil)))))))))))), [0, 1, 3, 7, 15, 0, 32, 96, 224, 480, 1023, 2047]⟩)], inL []⟩
theorem en68 {args : List CV} {m : Mem} {R : List CV → Mem → Prop} (hlen : Nat.ble args.length Tryz.f68.ntmps = true) (h : xwp c68 (bodyOf Tryz.f68) (QRet tt.get Tryz.f68.results.toList R) ⟨initF args, [], m, []⟩) : Spec Tryz.prog 68 args m R :=
  Spec.of_body (c := c68) Tryz.func68 (by kernel_rfl) (by kernel_rfl) tt_ok wide (by kernel_rfl) hlen h
/- strconv.toError -/
noncomputable def c71 : Cfg := ⟨Tryz.prog, tt.get, inL [], atL [], inL []⟩
theorem en71 {args : List CV} {m : Mem} {R : List CV → Mem → Prop} (hlen : Nat.ble args.length Tryz.f71.ntmps = true) (h : xwp c71 (bodyOf Tryz.f71) (QRet tt.get Tryz.f71.results.toList R) ⟨initF args, [], m, []⟩) : Spec Tryz.prog 71 args m R :=
  Spec.of_body (c := c71) Tryz.func71 (by kernel_rfl) (by kernel_rfl) tt_ok wide (by kernel_rfl) hlen h
/- (*maund files.Files).find -/
noncomputable def c72 : Cfg := ⟨Tryz.prog, tt.get, inL [], atL [], inL []⟩
theorem en72 {args : List CV} {m : Mem} {R : List CV → Mem → Prop} (hlen : Nat.ble args.length Tryz.f72.ntmps = true) (h : xwp c72 (bodyOf Tryz.f72) (QRet tt.get Tryz.f72.results.toList R) ⟨initF args, [], m, []⟩) : Spec Tryz.prog 72 args m R :=
  Spec.of_body (c := c72) Tryz.func72 (by kernel_rfl) (by kernel_rfl) tt_ok wide (by kernel_rfl) hlen h
/- slices.Clone[[]byte,byte] -/
noncomputable def c73 : Cfg := ⟨Tryz.prog, tt.get, inL [], atL [], inL []⟩
theorem en73 {args : List CV} {m : Mem} {R : List CV → Mem → Prop} (hlen : Nat.ble args.length Tryz.f73.ntmps = true) (h : xwp c73 (bodyOf Tryz.f73) (QRet tt.get Tryz.f73.results.toList R) ⟨initF args, [], m, []⟩) : Spec Tryz.prog 73 args m R :=
  Spec.of_body (c := c73) Tryz.func73 (by kernel_rfl) (by kernel_rfl) tt_ok wide (by kernel_rfl) hlen h
/- maund frame.next -/
noncomputable def c74 : Cfg := ⟨Tryz.prog, tt.get, inL [], atL [(11, ⟨.op 0 .all (.op 3 .all (.op 4 .all (.op 5 .all (.op 6 .all (.op 7 .all (.op 8 .all (.op 9 .all (.op 10 .all (.op 11 .all (.op 1 .none (.op 2 .none (.op 12 .none (.op 13 .all (.nil)))))))))))))), [0, 1, 3, 0, 0, 0, 48, 0, 0, 384, 896, 2040, 4095, 8191]⟩)], inL []⟩
theorem en74 {args : List CV} {m : Mem} {R : List CV → Mem → Prop} (hlen : Nat.ble args.length Tryz.f74.ntmps = true) (h : xwp c74 (bodyOf Tryz.f74) (QRet tt.get Tryz.f74.results.toList R) ⟨initF args, [], m, []⟩) : Spec Tryz.prog 74 args m R :=
  Spec.of_body (c := c74) Tryz.func74 (by kernel_rfl) (by kernel_rfl) tt_ok wide (by kernel_rfl) hlen h
/- slices.IndexFunc[[]int,int] -/
noncomputable def c75 : Cfg := ⟨Tryz.prog, tt.get, inL [], atL [], inL []⟩
theorem en75 {args : List CV} {m : Mem} {R : List CV → Mem → Prop} (hlen : Nat.ble args.length Tryz.f75.ntmps = true) (h : xwp c75 (bodyOf Tryz.f75) (QRet tt.get Tryz.f75.results.toList R) ⟨initF args, [], m, []⟩) : Spec Tryz.prog 75 args m R :=
  Spec.of_body (c := c75) Tryz.func75 (by kernel_rfl) (by kernel_rfl) tt_ok wide (by kernel_rfl) hlen h
/- maund frame.isRecord -/
noncomputable def c76 : Cfg := ⟨Tryz.prog, tt.get, inL [], atL [], inL []⟩
theorem en76 {args : List CV} {m : Mem} {R : List CV → Mem → Prop} (hlen : Nat.ble args.length Tryz.f76.ntmps = true) (h : xwp c76 (bodyOf Tryz.f76) (QRet tt.get Tryz.f76.results.toList R) ⟨initF args, [], m, []⟩) : Spec Tryz.prog 76 args m R :=
  Spec.of_body (c := c76) Tryz.func76 (by kernel_rfl) (by kernel_rfl) tt_ok wide (by kernel_rfl) hlen h
/- slices.Concat[[]byte,byte] -/
noncomputable def c77 : Cfg := ⟨Tryz.prog, tt.get, inL [], atL [], inL []⟩
theorem en77 {args : List CV} {m : Mem} {R : List CV → Mem → Prop} (hlen : Nat.ble args.length Tryz.f77.ntmps = true) (h : xwp c77 (bodyOf Tryz.f77) (QRet tt.get Tryz.f77.results.toList R) ⟨initF args, [], m, []⟩) : Spec Tryz.prog 77 args m R :=
  Spec.of_body (c := c77) Tryz.func77 (by kernel_rfl) (by kernel_rfl) tt_ok wide (by kernel_rfl) hlen h
/- maund frame.head -/
noncomputable def c78 : Cfg := ⟨Tryz.prog, tt.get, inL [5], atL [], inL []⟩
theorem en78 {args : List CV} {m : Mem} {R : List CV → Mem → Prop} (hlen : Nat.ble args.length Tryz.f78.ntmps = true) (h : xwp c78 (bodyOf Tryz.f78) (QRet tt.get Tryz.f78.results.toList R) ⟨initF args, [], m, []⟩) : Spec Tryz.prog 78 args m R :=
  Spec.of_body (c := c78) Tryz.func78 (by kernel_rfl) (by kernel_rfl) tt_ok wide (by kernel_rfl) hlen h
/- maund frame.four -/
noncomputable def c79 : Cfg := ⟨Tryz.prog, tt.get, inL [], atL [], inL []⟩
theorem en79 {args : List CV} {m : Mem} {R : List CV → Mem → Prop} (hlen : Nat.ble args.length Tryz.f79.ntmps = true) (h : xwp c79 (bodyOf Tryz.f79) (QRet tt.get Tryz.f79.results.toList R) ⟨initF args, [], m, []⟩) : Spec Tryz.prog 79 args m R :=
  Spec.of_body (c := c79) Tryz.func79 (by kernel_rfl) (by kernel_rfl) tt_ok wide (by kernel_rfl) hlen h
/- maund frame.Sum -/
noncomputable def c80 : Cfg := ⟨Tryz.prog, tt.get, inL [], atL [], inL []⟩
theorem en80 {args : List CV} {m : Mem} {R : List CV → Mem → Prop} (hlen : Nat.ble args.length Tryz.f80.ntmps = true) (h : xwp c80 (bodyOf Tryz.f80) (QRet tt.get Tryz.f80.results.toList R) ⟨initF args, [], m, []⟩) : Spec Tryz.prog 80 args m R :=
  Spec.of_body (c := c80) Tryz.func80 (by kernel_rfl) (by kernel_rfl) tt_ok wide (by kernel_rfl) hlen h
/- slices.Sort[[]string,string] -/
noncomputable def c81 : Cfg := ⟨Tryz.prog, tt.get, inL [], atL [], inL []⟩
theorem en81 {args : List CV} {m : Mem} {R : List CV → Mem → Prop} (hlen : Nat.ble args.length Tryz.f81.ntmps = true) (h : xwp c81 (bodyOf Tryz.f81) (QRet tt.get Tryz.f81.results.toList R) ⟨initF args, [], m, []⟩) : Spec Tryz.prog 81 args m R :=
  Spec.of_body (c := c81) Tryz.func81 (by kernel_rfl) (by kernel_rfl) tt_ok wide (by kernel_rfl) hlen h
/- maund maundref15.Sum -/
noncomputable def c82 : Cfg := ⟨Tryz.prog, tt.get, inL [], atL [], inL []⟩
theorem en82 {args : List CV} {m : Mem} {R : List CV → Mem → Prop} (hlen : Nat.ble args.length Tryz.f82.ntmps = true) (h : xwp c82 (bodyOf Tryz.f82) (QRet tt.get Tryz.f82.results.toList R) ⟨initF args, [], m, []⟩) : Spec Tryz.prog 82 args m R :=
  Spec.of_body (c := c82) Tryz.func82 (by kernel_rfl) (by kernel_rfl) tt_ok wide (by kernel_rfl) hlen h
/- maund maundref02.Num -/
noncomputable def c83 : Cfg := ⟨Tryz.prog, tt.get, inL [], atL [], inL []⟩
theorem en83 {args : List CV} {m : Mem} {R : List CV → Mem → Prop} (hlen : Nat.ble args.length Tryz.f83.ntmps = true) (h : xwp c83 (bodyOf Tryz.f83) (QRet tt.get Tryz.f83.results.toList R) ⟨initF args, [], m, []⟩) : Spec Tryz.prog 83 args m R :=
  Spec.of_body (c := c83) Tryz.func83 (by kernel_rfl) (by kernel_rfl) tt_ok wide (by kernel_rfl) hlen h
/- (*sync atomic.Uint64).Add -/
noncomputable def c84 : Cfg := ⟨Tryz.prog, tt.get, inL [], atL [], inL []⟩
theorem en84 {args : List CV} {m : Mem} {R : List CV → Mem → Prop} (hlen : Nat.ble args.length Tryz.f84.ntmps = true) (h : xwp c84 (bodyOf Tryz.f84) (QRet tt.get Tryz.f84.results.toList R) ⟨initF args, [], m, []⟩) : Spec Tryz.prog 84 args m R :=
  Spec.of_body (c := c84) Tryz.func84 (by kernel_rfl) (by kernel_rfl) tt_ok wide (by kernel_rfl) hlen h
/- maund files.isName -/
noncomputable def c85 : Cfg := ⟨Tryz.prog, tt.get, inL [], atL [], inL []⟩
theorem en85 {args : List CV} {m : Mem} {R : List CV → Mem → Prop} (hlen : Nat.ble args.length Tryz.f85.ntmps = true) (h : xwp c85 (bodyOf Tryz.f85) (QRet tt.get Tryz.f85.results.toList R) ⟨initF args, [], m, []⟩) : Spec Tryz.prog 85 args m R :=
  Spec.of_body (c := c85) Tryz.func85 (by kernel_rfl) (by kernel_rfl) tt_ok wide (by kernel_rfl) hlen h
/- (*maund maundref14.Files).at -/
noncomputable def c86 : Cfg := ⟨Tryz.prog, tt.get, inL [], atL [], inL []⟩
theorem en86 {args : List CV} {m : Mem} {R : List CV → Mem → Prop} (hlen : Nat.ble args.length Tryz.f86.ntmps = true) (h : xwp c86 (bodyOf Tryz.f86) (QRet tt.get Tryz.f86.results.toList R) ⟨initF args, [], m, []⟩) : Spec Tryz.prog 86 args m R :=
  Spec.of_body (c := c86) Tryz.func86 (by kernel_rfl) (by kernel_rfl) tt_ok wide (by kernel_rfl) hlen h
/- (*maund maundref14.Files).cut -/
noncomputable def c87 : Cfg := ⟨Tryz.prog, tt.get, inL [], atL [(1, ⟨.op 0 .all (.op 1 .all (.op 2 .all (.op 3 .all (.op 4 .all (.op 5 .all (.op 6 .all (.op 7 .all (.op 9 .all (.op 10 .all (.op 11 .all (.op 12 .all (.op 13 .all (.op 14 .all (.op 15 .all (.op 8 .all (.op 16 .none (.op 17 .all (.op 18 .all (.op 19 .none (.nil)))))))))))))))))))), [0, 0, 0, 4, 12, 28, 0, 124, 254, 0, 512, 1536, 3584, 0, 8192, 32256, 65534, 131071, 262143, 524287]⟩)], inL []⟩
theorem en87 {args : List CV} {m : Mem} {R : List CV → Mem → Prop} (hlen : Nat.ble args.length Tryz.f87.ntmps = true) (h : xwp c87 (bodyOf Tryz.f87) (QRet tt.get Tryz.f87.results.toList R) ⟨initF args, [], m, []⟩) : Spec Tryz.prog 87 args m R :=
  Spec.of_body (c := c87) Tryz.func87 (by kernel_rfl) (by kernel_rfl) tt_ok wide (by kernel_rfl) hlen h
/- maund maundref14.isName -/
noncomputable def c88 : Cfg := ⟨Tryz.prog, tt.get, inL [], atL [], inL []⟩
theorem en88 {args : List CV} {m : Mem} {R : List CV → Mem → Prop} (hlen : Nat.ble args.length Tryz.f88.ntmps = true) (h : xwp c88 (bodyOf Tryz.f88) (QRet tt.get Tryz.f88.results.toList R) ⟨initF args, [], m, []⟩) : Spec Tryz.prog 88 args m R :=
  Spec.of_body (c := c88) Tryz.func88 (by kernel_rfl) (by kernel_rfl) tt_ok wide (by kernel_rfl) hlen h
/- (*maund maundref14.Files).put -/
noncomputable def c89 : Cfg := ⟨Tryz.prog, tt.get, inL [], atL [(2, ⟨.op 0 .all (.op 1 .all (.op 2 .all (.op 3 .all (.op 4 .all (.op 5 .all (.op 6 .all (.op 7 .all (.op 8 .all (.op 9 .all (.op 10 .all (.op 11 .all (.op 12 .all (.op 13 .all (.op 14 .all (.op 15 .all (.op 16 .all (.op 17 .all (.op 18 .none (.op 19 .all (.nil)))))))))))))))))))), [0, 0, 2, 6, 14, 30, 63, 127, 255, 511, 1023, 2047, 255, 8191, 16383, 32767, 255, 65791, 262143, 524287]⟩),
  (5, ⟨.op 0 .all (.op 1 .all (.op 2 .all (.op 3 .all (.op 4 .all (.op 5 .all (.op 6 .all (.op 7 .all (.op 9 .all (.op 12 .all (.op 13 .all (.op 14 .all (.op 15 .all (.op 16 .all (.op 17 .all (.or (.op 8 .all (.op 10 .all (.op 11 .all (.op 18 .none (.op 19 .all (.op 20 .all (.op 21 .none (.nil)))))))) (.op 10 .all (.op 8 .all (.op 11 .all (.op 18 .none (.op 19 .all (.op 20 .all (.op 21 .none (.nil))))))))))))))))))))))), [0, 0, 0, 4, 12, 28, 0, 124, 254, 0, 512, 2046, 0, 4096, 12288, 28672, 0, 126976, 262142, 524287, 1048575, 2097151]⟩)], inL [4]⟩
theorem en89 {args : List CV} {m : Mem} {R : List CV → Mem → Prop} (hlen : Nat.ble args.length Tryz.f89.ntmps = true) (h : xwp c89 (bodyOf Tryz.f89) (QRet tt.get Tryz.f89.results.toList R) ⟨initF args, [], m, []⟩) : Spec Tryz.prog 89 args m R :=
  Spec.of_body (c := c89) Tryz.func89 (by kernel_rfl) (by kernel_rfl) tt_ok wide (by kernel_rfl) hlen h
/- (*maund maundref02.Reader).Small -/
noncomputable def c90 : Cfg := ⟨Tryz.prog, tt.get, inL [], atL [], inL []⟩
theorem en90 {args : List CV} {m : Mem} {R : List CV → Mem → Prop} (hlen : Nat.ble args.length Tryz.f90.ntmps = true) (h : xwp c90 (bodyOf Tryz.f90) (QRet tt.get Tryz.f90.results.toList R) ⟨initF args, [], m, []⟩) : Spec Tryz.prog 90 args m R :=
  Spec.of_body (c := c90) Tryz.func90 (by kernel_rfl) (by kernel_rfl) tt_ok wide (by kernel_rfl) hlen h
/- (*sync atomic.Uint64).Load -/
noncomputable def c91 : Cfg := ⟨Tryz.prog, tt.get, inL [], atL [], inL []⟩
theorem en91 {args : List CV} {m : Mem} {R : List CV → Mem → Prop} (hlen : Nat.ble args.length Tryz.f91.ntmps = true) (h : xwp c91 (bodyOf Tryz.f91) (QRet tt.get Tryz.f91.results.toList R) ⟨initF args, [], m, []⟩) : Spec Tryz.prog 91 args m R :=
  Spec.of_body (c := c91) Tryz.func91 (by kernel_rfl) (by kernel_rfl) tt_ok wide (by kernel_rfl) hlen h
/- math bits.Mul32 -/
noncomputable def c93 : Cfg := ⟨Tryz.prog, tt.get, inL [], atL [], inL []⟩
theorem en93 {args : List CV} {m : Mem} {R : List CV → Mem → Prop} (hlen : Nat.ble args.length Tryz.f93.ntmps = true) (h : xwp c93 (bodyOf Tryz.f93) (QRet tt.get Tryz.f93.results.toList R) ⟨initF args, [], m, []⟩) : Spec Tryz.prog 93 args m R :=
  Spec.of_body (c := c93) Tryz.func93 (by kernel_rfl) (by kernel_rfl) tt_ok wide (by kernel_rfl) hlen h
/- math bits.Mul64 -/
noncomputable def c94 : Cfg := ⟨Tryz.prog, tt.get, inL [], atL [], inL []⟩
theorem en94 {args : List CV} {m : Mem} {R : List CV → Mem → Prop} (hlen : Nat.ble args.length Tryz.f94.ntmps = true) (h : xwp c94 (bodyOf Tryz.f94) (QRet tt.get Tryz.f94.results.toList R) ⟨initF args, [], m, []⟩) : Spec Tryz.prog 94 args m R :=
  Spec.of_body (c := c94) Tryz.func94 (by kernel_rfl) (by kernel_rfl) tt_ok wide (by kernel_rfl) hlen h
/- (*strings.Builder).copyCheck -/
noncomputable def c96 : Cfg := ⟨Tryz.prog, tt.get, inL [], atL [], inL []⟩
theorem en96 {args : List CV} {m : Mem} {R : List CV → Mem → Prop} (hlen : Nat.ble args.length Tryz.f96.ntmps = true) (h : xwp c96 (bodyOf Tryz.f96) (QRet tt.get Tryz.f96.results.toList R) ⟨initF args, [], m, []⟩) : Spec Tryz.prog 96 args m R :=
  Spec.of_body (c := c96) Tryz.func96 (by kernel_rfl) (by kernel_rfl) tt_ok wide (by kernel_rfl) hlen h
/- (*strings.Builder).grow -/
noncomputable def c97 : Cfg := ⟨Tryz.prog, tt.get, inL [], atL [(0, ⟨.op 0 .all (.op 1 .all (.op 2 .all (.op 3 .all (.op 6 .all (.op 9 .all (.op 10 .all (.op 11 .all (.op 12 .all (.op 13 .all (.op 4 .all (.op 5 .all (.op 7 .all (.op 8 .all (.op 14 .all (.op 15 .all (.nil)))))))))))))))), [0, 1, 3, 7, 15, 31, 0, 127, 255, 0, 512, 1536, 3584, 7680, 16383, 32767]⟩)], inL []⟩
theorem en97 {args : List CV} {m : Mem} {R : List CV → Mem → Prop} (hlen : Nat.ble args.length Tryz.f97.ntmps = true) (h : xwp c97 (bodyOf Tryz.f97) (QRet tt.get Tryz.f97.results.toList R) ⟨initF args, [], m, []⟩) : Spec Tryz.prog 97 args m R :=
  Spec.of_body (c := c97) Tryz.func97 (by kernel_rfl) (by kernel_rfl) tt_ok wide (by kernel_rfl) hlen h
/- strconv.syntaxError -/
noncomputable def c99 : Cfg := ⟨Tryz.prog, tt.get, inL [], atL [(1, ⟨.op 0 .all (.op 1 .all (.op 3 .all (.op 2 .all (.op 4 .all (.op 5 .none (.op 6 .all (.nil))))))), [0, 0, 2, 0, 15, 31, 63]⟩)], inL []⟩
theorem en99 {args : List CV} {m : Mem} {R : List CV → Mem → Prop} (hlen : Nat.ble args.length Tryz.f99.ntmps = true) (h : xwp c99 (bodyOf Tryz.f99) (QRet tt.get Tryz.f99.results.toList R) ⟨initF args, [], m, []⟩) : Spec Tryz.prog 99 args m R :=
  Spec.of_body (c := c99) Tryz.func99 (by kernel_rfl) (by kernel_rfl) tt_ok wide (by kernel_rfl) hlen h
/- strconv.rangeError -/
noncomputable def c100 : Cfg := ⟨Tryz.prog, tt.get, inL [], atL [(1, ⟨.op 0 .all (.op 1 .all (.op 3 .all (.op 2 .all (.op 4 .all (.op 5 .none (.op 6 .all (.nil))))))), [0, 0, 2, 0, 15, 31, 63]⟩)], inL []⟩
theorem en100 {args : List CV} {m : Mem} {R : List CV → Mem → Prop} (hlen : Nat.ble args.length Tryz.f100.ntmps = true) (h : xwp c100 (bodyOf Tryz.f100) (QRet tt.get Tryz.f100.results.toList R) ⟨initF args, [], m, []⟩) : Spec Tryz.prog 100 args m R :=
  Spec.of_body (c := c100) Tryz.func100 (by kernel_rfl) (by kernel_rfl) tt_ok wide (by kernel_rfl) hlen h
/- strconv.baseError -/
noncomputable def c101 : Cfg := ⟨Tryz.prog, tt.get, inL [], atL [], inL []⟩
theorem en101 {args : List CV} {m : Mem} {R : List CV → Mem → Prop} (hlen : Nat.ble args.length Tryz.f101.ntmps = true) (h : xwp c101 (bodyOf Tryz.f101) (QRet tt.get Tryz.f101.results.toList R) ⟨initF args, [], m, []⟩) : Spec Tryz.prog 101 args m R :=
  Spec.of_body (c := c101) Tryz.func101 (by kernel_rfl) (by kernel_rfl) tt_ok wide (by kernel_rfl) hlen h
/- strconv.bitSizeError -/
noncomputable def c102 : Cfg := ⟨Tryz.prog, tt.get, inL [], atL [], inL []⟩
theorem en102 {args : List CV} {m : Mem} {R : List CV → Mem → Prop} (hlen : Nat.ble args.length Tryz.f102.ntmps = true) (h : xwp c102 (bodyOf Tryz.f102) (QRet tt.get Tryz.f102.results.toList R) ⟨initF args, [], m, []⟩) : Spec Tryz.prog 102 args m R :=
  Spec.of_body (c := c102) Tryz.func102 (by kernel_rfl) (by kernel_rfl) tt_ok wide (by kernel_rfl) hlen h
/- (*maund files.Files).made -/
noncomputable def c103 : Cfg := ⟨Tryz.prog, tt.get, inL [], atL [], inL []⟩
theorem en103 {args : List CV} {m : Mem} {R : List CV → Mem → Prop} (hlen : Nat.ble args.length Tryz.f103.ntmps = true) (h : xwp c103 (bodyOf Tryz.f103) (QRet tt.get Tryz.f103.results.toList R) ⟨initF args, [], m, []⟩) : Spec Tryz.prog 103 args m R :=
  Spec.of_body (c := c103) Tryz.func103 (by kernel_rfl) (by kernel_rfl) tt_ok wide (by kernel_rfl) hlen h
/- maund wire.From -/
noncomputable def c104 : Cfg := ⟨Tryz.prog, tt.get, inL [6], atL [], inL []⟩
theorem en104 {args : List CV} {m : Mem} {R : List CV → Mem → Prop} (hlen : Nat.ble args.length Tryz.f104.ntmps = true) (h : xwp c104 (bodyOf Tryz.f104) (QRet tt.get Tryz.f104.results.toList R) ⟨initF args, [], m, []⟩) : Spec Tryz.prog 104 args m R :=
  Spec.of_body (c := c104) Tryz.func104 (by kernel_rfl) (by kernel_rfl) tt_ok wide (by kernel_rfl) hlen h
/- (*maund wire.Reader).Small -/
noncomputable def c105 : Cfg := ⟨Tryz.prog, tt.get, inL [], atL [], inL []⟩
theorem en105 {args : List CV} {m : Mem} {R : List CV → Mem → Prop} (hlen : Nat.ble args.length Tryz.f105.ntmps = true) (h : xwp c105 (bodyOf Tryz.f105) (QRet tt.get Tryz.f105.results.toList R) ⟨initF args, [], m, []⟩) : Spec Tryz.prog 105 args m R :=
  Spec.of_body (c := c105) Tryz.func105 (by kernel_rfl) (by kernel_rfl) tt_ok wide (by kernel_rfl) hlen h
/- (*maund wire.Reader).Err -/
noncomputable def c106 : Cfg := ⟨Tryz.prog, tt.get, inL [], atL [], inL []⟩
theorem en106 {args : List CV} {m : Mem} {R : List CV → Mem → Prop} (hlen : Nat.ble args.length Tryz.f106.ntmps = true) (h : xwp c106 (bodyOf Tryz.f106) (QRet tt.get Tryz.f106.results.toList R) ⟨initF args, [], m, []⟩) : Spec Tryz.prog 106 args m R :=
  Spec.of_body (c := c106) Tryz.func106 (by kernel_rfl) (by kernel_rfl) tt_ok wide (by kernel_rfl) hlen h
/- slices.Equal[[]byte,byte] -/
noncomputable def c107 : Cfg := ⟨Tryz.prog, tt.get, inL [], atL [(6, ⟨.op 0 .all (.op 1 .all (.op 2 .all (.op 3 .all (.op 4 .all (.op 5 .all (.op 6 .all (.op 7 .all (.op 8 .all (.nil))))))))), [0, 0, 3, 7, 0, 0, 48, 112, 255]⟩)], inL []⟩
theorem en107 {args : List CV} {m : Mem} {R : List CV → Mem → Prop} (hlen : Nat.ble args.length Tryz.f107.ntmps = true) (h : xwp c107 (bodyOf Tryz.f107) (QRet tt.get Tryz.f107.results.toList R) ⟨initF args, [], m, []⟩) : Spec Tryz.prog 107 args m R :=
  Spec.of_body (c := c107) Tryz.func107 (by kernel_rfl) (by kernel_rfl) tt_ok wide (by kernel_rfl) hlen h
/- slices.Grow[[]byte,byte] -/
noncomputable def c108 : Cfg := ⟨Tryz.prog, tt.get, inL [], atL [], inL []⟩
theorem en108 {args : List CV} {m : Mem} {R : List CV → Mem → Prop} (hlen : Nat.ble args.length Tryz.f108.ntmps = true) (h : xwp c108 (bodyOf Tryz.f108) (QRet tt.get Tryz.f108.results.toList R) ⟨initF args, [], m, []⟩) : Spec Tryz.prog 108 args m R :=
  Spec.of_body (c := c108) Tryz.func108 (by kernel_rfl) (by kernel_rfl) tt_ok wide (by kernel_rfl) hlen h
/- (*maund wire.Writer).Num -/
noncomputable def c109 : Cfg := ⟨Tryz.prog, tt.get, inL [], atL [(10, ⟨.op 0 .all (.op 1 .all (.op 2 .all (.op 3 .all (.op 4 .all (.op 5 .all (.op 6 .all (.op 7 .all (.op 8 .all (.op 9 .all (.op 10 .all (.op 11 .none (.op 12 .all (.op 13 .all (.op 14 .none (.nil))))))))))))))), [0, 0, 2, 6, 14, 0, 0, 64, 224, 480, 992, 2046, 4095, 8191, 16383]⟩)], inL []⟩
theorem en109 {args : List CV} {m : Mem} {R : List CV → Mem → Prop} (hlen : Nat.ble args.length Tryz.f109.ntmps = true) (h : xwp c109 (bodyOf Tryz.f109) (QRet tt.get Tryz.f109.results.toList R) ⟨initF args, [], m, []⟩) : Spec Tryz.prog 109 args m R :=
  Spec.of_body (c := c109) Tryz.func109 (by kernel_rfl) (by kernel_rfl) tt_ok wide (by kernel_rfl) hlen h
/- (*maund wire.Writer).Bytes -/
noncomputable def c110 : Cfg := ⟨Tryz.prog, tt.get, inL [], atL [], inL []⟩
theorem en110 {args : List CV} {m : Mem} {R : List CV → Mem → Prop} (hlen : Nat.ble args.length Tryz.f110.ntmps = true) (h : xwp c110 (bodyOf Tryz.f110) (QRet tt.get Tryz.f110.results.toList R) ⟨initF args, [], m, []⟩) : Spec Tryz.prog 110 args m R :=
  Spec.of_body (c := c110) Tryz.func110 (by kernel_rfl) (by kernel_rfl) tt_ok wide (by kernel_rfl) hlen h
/- slices.pdqsortOrdered[string] -/
noncomputable def c111 : Cfg := ⟨Tryz.prog, tt.get, inL [], atL [(17, ⟨.op 0 .all (.op 1 .all (.op 2 .all (.op 3 .all (.op 4 .all (.op 5 .all (.op 6 .all (.op 7 .all (.op 8 .all (.op 9 .all (.op 10 .all (.op 11 .all (.op 12 .none (.op 13 .all (.op 14 .all (.nil))))))))))))))), [0, 1, 3, 7, 7, 23, 63, 127, 7, 7, 775, 1799, 4095, 8191, 16383]⟩)], inL []⟩
theorem en111 {args : List CV} {m : Mem} {R : List CV → Mem → Prop} (hlen : Nat.ble args.length Tryz.f111.ntmps = true) (h : xwp c111 (bodyOf Tryz.f111) (QRet tt.get Tryz.f111.results.toList R) ⟨initF args, [], m, []⟩) : Spec Tryz.prog 111 args m R :=
  Spec.of_body (c := c111) Tryz.func111 (by kernel_rfl) (by kernel_rfl) tt_ok wide (by kernel_rfl) hlen h
/- math bits.Len -/
noncomputable def c112 : Cfg := ⟨Tryz.prog, tt.get, inL [], atL [], inL []⟩
theorem en112 {args : List CV} {m : Mem} {R : List CV → Mem → Prop} (hlen : Nat.ble args.length Tryz.f112.ntmps = true) (h : xwp c112 (bodyOf Tryz.f112) (QRet tt.get Tryz.f112.results.toList R) ⟨initF args, [], m, []⟩) : Spec Tryz.prog 112 args m R :=
  Spec.of_body (c := c112) Tryz.func112 (by kernel_rfl) (by kernel_rfl) tt_ok wide (by kernel_rfl) hlen h
/- maund files.isByte -/
noncomputable def c114 : Cfg := ⟨Tryz.prog, tt.get, inL [], atL [], inL []⟩
theorem en114 {args : List CV} {m : Mem} {R : List CV → Mem → Prop} (hlen : Nat.ble args.length Tryz.f114.ntmps = true) (h : xwp c114 (bodyOf Tryz.f114) (QRet tt.get Tryz.f114.results.toList R) ⟨initF args, [], m, []⟩) : Spec Tryz.prog 114 args m R :=
  Spec.of_body (c := c114) Tryz.func114 (by kernel_rfl) (by kernel_rfl) tt_ok wide (by kernel_rfl) hlen h
/- maund maundref14.less -/
noncomputable def c115 : Cfg := ⟨Tryz.prog, tt.get, inL [], atL [(4, ⟨.op 0 .all (.op 1 .all (.op 2 .all (.op 3 .all (.op 4 .all (.op 5 .all (.op 6 .all (.nil))))))), [0, 0, 3, 0, 0, 24, 63]⟩),
  (5, ⟨.op 0 .all (.op 1 .all (.op 2 .all (.op 3 .all (.op 4 .all (.op 5 .all (.op 6 .all (.op 7 .all (.nil)))))))), [0, 0, 3, 0, 0, 24, 63, 127]⟩)], inL []⟩
theorem en115 {args : List CV} {m : Mem} {R : List CV → Mem → Prop} (hlen : Nat.ble args.length Tryz.f115.ntmps = true) (h : xwp c115 (bodyOf Tryz.f115) (QRet tt.get Tryz.f115.results.toList R) ⟨initF args, [], m, []⟩) : Spec Tryz.prog 115 args m R :=
  Spec.of_body (c := c115) Tryz.func115 (by kernel_rfl) (by kernel_rfl) tt_ok wide (by kernel_rfl) hlen h
/- (*maund maundref02.Reader).Num -/
noncomputable def c116 : Cfg := ⟨Tryz.prog, tt.get, inL [], atL [], inL [7]⟩
theorem en116 {args : List CV} {m : Mem} {R : List CV → Mem → Prop} (hlen : Nat.ble args.length Tryz.f116.ntmps = true) (h : xwp c116 (bodyOf Tryz.f116) (QRet tt.get Tryz.f116.results.toList R) ⟨initF args, [], m, []⟩) : Spec Tryz.prog 116 args m R :=
  Spec.of_body (c := c116) Tryz.func116 (by kernel_rfl) (by kernel_rfl) tt_ok wide (by kernel_rfl) hlen h
/- (*maund maundref02.Reader).Must -/
noncomputable def c117 : Cfg := ⟨Tryz.prog, tt.get, inL [], atL [], inL []⟩
theorem en117 {args : List CV} {m : Mem} {R : List CV → Mem → Prop} (hlen : Nat.ble args.length Tryz.f117.ntmps = true) (h : xwp c117 (bodyOf Tryz.f117) (QRet tt.get Tryz.f117.results.toList R) ⟨initF args, [], m, []⟩) : Spec Tryz.prog 117 args m R :=
  Spec.of_body (c := c117) Tryz.func117 (by kernel_rfl) (by kernel_rfl) tt_ok wide (by kernel_rfl) hlen h
/- errors.New -/
noncomputable def c127 : Cfg := ⟨Tryz.prog, tt.get, inL [], atL [], inL []⟩
theorem en127 {args : List CV} {m : Mem} {R : List CV → Mem → Prop} (hlen : Nat.ble args.length Tryz.f127.ntmps = true) (h : xwp c127 (bodyOf Tryz.f127) (QRet tt.get Tryz.f127.results.toList R) ⟨initF args, [], m, []⟩) : Spec Tryz.prog 127 args m R :=
  Spec.of_body (c := c127) Tryz.func127 (by kernel_rfl) (by kernel_rfl) tt_ok wide (by kernel_rfl) hlen h
/- (*maund wire.Reader).Num -/
noncomputable def c128 : Cfg := ⟨Tryz.prog, tt.get, inL [], atL [], inL []⟩
theorem en128 {args : List CV} {m : Mem} {R : List CV → Mem → Prop} (hlen : Nat.ble args.length Tryz.f128.ntmps = true) (h : xwp c128 (bodyOf Tryz.f128) (QRet tt.get Tryz.f128.results.toList R) ⟨initF args, [], m, []⟩) : Spec Tryz.prog 128 args m R :=
  Spec.of_body (c := c128) Tryz.func128 (by kernel_rfl) (by kernel_rfl) tt_ok wide (by kernel_rfl) hlen h
/- (*maund wire.Reader).Must -/
noncomputable def c129 : Cfg := ⟨Tryz.prog, tt.get, inL [], atL [], inL []⟩
theorem en129 {args : List CV} {m : Mem} {R : List CV → Mem → Prop} (hlen : Nat.ble args.length Tryz.f129.ntmps = true) (h : xwp c129 (bodyOf Tryz.f129) (QRet tt.get Tryz.f129.results.toList R) ⟨initF args, [], m, []⟩) : Spec Tryz.prog 129 args m R :=
  Spec.of_body (c := c129) Tryz.func129 (by kernel_rfl) (by kernel_rfl) tt_ok wide (by kernel_rfl) hlen h
/- slices.insertionSortOrdered[string] -/
noncomputable def c130 : Cfg := ⟨Tryz.prog, tt.get, inL [], atL [(4, ⟨.op 0 .all (.op 1 .all (.op 2 .all (.op 3 .all (.op 4 .all (.op 5 .all (.op 6 .all (.op 7 .all (.op 8 .all (.op 9 .all (.op 10 .all (.op 11 .all (.op 12 .all (.op 13 .none (.op 14 .all (.nil))))))))))))))), [0, 0, 3, 7, 15, 15, 63, 127, 15, 15, 527, 1807, 3855, 8191, 16383]⟩),
  (6, ⟨.op 0 .all (.op 1 .all (.op 2 .all (.op 3 .all (.op 4 .all (.op 5 .all (.op 6 .all (.op 7 .all (.op 8 .all (.op 9 .all (.op 10 .all (.op 11 .all (.op 12 .all (.op 13 .all (.op 14 .all (.op 15 .none (.op 16 .all (.op 17 .none (.nil)))))))))))))))))), [0, 0, 0, 0, 8, 0, 0, 64, 224, 480, 0, 0, 3072, 7168, 16355, 32739, 65535, 131071]⟩)], inL []⟩
theorem en130 {args : List CV} {m : Mem} {R : List CV → Mem → Prop} (hlen : Nat.ble args.length Tryz.f130.ntmps = true) (h : xwp c130 (bodyOf Tryz.f130) (QRet tt.get Tryz.f130.results.toList R) ⟨initF args, [], m, []⟩) : Spec Tryz.prog 130 args m R :=
  Spec.of_body (c := c130) Tryz.func130 (by kernel_rfl) (by kernel_rfl) tt_ok wide (by kernel_rfl) hlen h
/- slices.heapSortOrdered[string] -/
noncomputable def c131 : Cfg := ⟨Tryz.prog, tt.get, inL [], atL [(10, ⟨.op 0 .all (.op 1 .all (.op 2 .all (.op 3 .all (.op 4 .all (.op 5 .all (.op 6 .all (.op 7 .all (.op 8 .all (.op 9 .all (.op 10 .all (.op 11 .all (.op 12 .all (.op 13 .all (.op 14 .all (.op 15 .all (.op 16 .all (.op 17 .none (.op 18 .all (.op 19 .none (.nil)))))))))))))))))))), [0, 0, 0, 0, 0, 24, 0, 0, 0, 384, 960, 1984, 0, 0, 12288, 28672, 65475, 131011, 262143, 524287]⟩)], inL []⟩
theorem en131 {args : List CV} {m : Mem} {R : List CV → Mem → Prop} (hlen : Nat.ble args.length Tryz.f131.ntmps = true) (h : xwp c131 (bodyOf Tryz.f131) (QRet tt.get Tryz.f131.results.toList R) ⟨initF args, [], m, []⟩) : Spec Tryz.prog 131 args m R :=
  Spec.of_body (c := c131) Tryz.func131 (by kernel_rfl) (by kernel_rfl) tt_ok wide (by kernel_rfl) hlen h
/- slices.breakPatternsOrdered[string] -/
noncomputable def c132 : Cfg := ⟨Tryz.prog, tt.get, inL [], atL [(10, ⟨.op 0 .all (.op 1 .all (.op 2 .all (.op 3 .all (.op 4 .all (.op 5 .all (.op 6 .all (.op 7 .all (.op 8 .all (.op 9 .all (.op 10 .all (.op 11 .all (.op 12 .all (.op 13 .all (.op 14 .all (.op 15 .all (.op 16 .all (.op 17 .none (.op 18 .all (.op 19 .none (.nil)))))))))))))))))))), [0, 0, 0, 0, 0, 24, 0, 0, 0, 384, 960, 1984, 0, 0, 12288, 28672, 65475, 131011, 262143, 524287]⟩)], inL []⟩
theorem en132 {args : List CV} {m : Mem} {R : List CV → Mem → Prop} (hlen : Nat.ble args.length Tryz.f132.ntmps = true) (h : xwp c132 (bodyOf Tryz.f132) (QRet tt.get Tryz.f132.results.toList R) ⟨initF args, [], m, []⟩) : Spec Tryz.prog 132 args m R :=
  Spec.of_body (c := c132) Tryz.func132 (by kernel_rfl) (by kernel_rfl) tt_ok wide (by kernel_rfl) hlen h
/- slices.choosePivotOrdered[string] -/
noncomputable def c133 : Cfg := ⟨Tryz.prog, tt.get, inL [], atL [], inL []⟩
theorem en133 {args : List CV} {m : Mem} {R : List CV → Mem → Prop} (hlen : Nat.ble args.length Tryz.f133.ntmps = true) (h : xwp c133 (bodyOf Tryz.f133) (QRet tt.get Tryz.f133.results.toList R) ⟨initF args, [], m, []⟩) : Spec Tryz.prog 133 args m R :=
  Spec.of_body (c := c133) Tryz.func133 (by kernel_rfl) (by kernel_rfl) tt_ok wide (by kernel_rfl) hlen h
/- slices.reverseRangeOrdered[string] -/
noncomputable def c134 : Cfg := ⟨Tryz.prog, tt.get, inL [], atL [(3, ⟨.op 0 .all (.op 1 .all (.op 2 .all (.op 3 .all (.op 4 .all (.op 5 .all (.op 6 .all (.op 7 .all (.op 8 .all (.op 9 .all (.op 10 .all (.op 11 .all (.op 12 .all (.op 13 .none (.op 14 .all (.op 15 .none (.nil)))))))))))))))), [0, 0, 0, 0, 0, 0, 48, 112, 0, 0, 768, 1792, 4083, 8179, 16383, 32767]⟩)], inL []⟩
theorem en134 {args : List CV} {m : Mem} {R : List CV → Mem → Prop} (hlen : Nat.ble args.length Tryz.f134.ntmps = true) (h : xwp c134 (bodyOf Tryz.f134) (QRet tt.get Tryz.f134.results.toList R) ⟨initF args, [], m, []⟩) : Spec Tryz.prog 134 args m R :=
  Spec.of_body (c := c134) Tryz.func134 (by kernel_rfl) (by kernel_rfl) tt_ok wide (by kernel_rfl) hlen h
/- slices.partialInsertionSortOrdered[string] -/
noncomputable def c135 : Cfg := ⟨Tryz.prog, tt.get, inL [], atL [(5, ⟨.op 0 .all (.op 1 .all (.op 2 .all (.op 3 .all (.op 4 .all (.op 5 .all (.op 6 .all (.op 7 .all (.op 8 .all (.op 9 .all (.op 10 .all (.op 11 .all (.op 12 .all (.op 13 .none (.op 14 .all (.op 15 .all (.nil)))))))))))))))), [0, 0, 3, 7, 15, 15, 63, 127, 15, 15, 527, 1807, 3855, 8191, 16383, 32767]⟩),
  (11, ⟨.op 0 .all (.op 1 .all (.op 2 .all (.op 3 .all (.op 4 .all (.op 5 .all (.op 6 .all (.op 7 .all (.op 8 .all (.op 9 .all (.op 10 .all (.op 11 .all (.op 12 .all (.op 13 .all (.op 14 .all (.op 15 .none (.op 16 .all (.op 17 .none (.nil)))))))))))))))))), [0, 0, 0, 0, 8, 0, 0, 64, 224, 480, 0, 0, 3072, 7168, 16355, 32739, 65535, 131071]⟩),
  (16, ⟨.op 0 .all (.op 1 .all (.op 2 .all (.op 3 .all (.op 4 .all (.op 5 .all (.op 6 .all (.op 7 .all (.op 8 .all (.op 9 .none (.op 10 .all (.nil))))))))))), [0, 0, 3, 7, 0, 0, 32, 112, 240, 511, 1023]⟩),
  (17, ⟨.op 0 .all (.op 1 .all (.op 2 .all (.op 3 .all (.op 4 .all (.op 5 .all (.op 6 .all (.op 7 .all (.op 8 .all (.op 9 .all (.op 10 .all (.op 11 .all (.op 12 .all (.op 13 .all (.op 14 .all (.op 15 .none (.op 16 .all (.op 17 .none (.nil)))))))))))))))))), [0, 0, 0, 0, 8, 0, 0, 64, 224, 480, 0, 0, 3072, 7168, 16355, 32739, 65535, 131071]⟩),
  (22, ⟨.op 0 .all (.op 1 .all (.op 2 .all (.op 3 .all (.op 4 .all (.op 5 .all (.op 6 .all (.op 7 .all (.op 8 .all (.op 9 .none (.op 10 .all (.nil))))))))))), [0, 0, 3, 7, 0, 0, 32, 112, 240, 511, 1023]⟩),
  (23, ⟨.op 0 .all (.op 1 .all (.op 2 .all (.op 3 .all (.op 4 .all (.op 5 .all (.op 6 .all (.op 7 .all (.op 8 .all (.op 9 .all (.op 10 .all (.op 11 .all (.op 12 .all (.op 13 .all (.op 14 .all (.op 15 .none (.op 16 .all (.op 17 .none (.nil)))))))))))))))))), [0, 0, 0, 0, 8, 0, 0, 64, 224, 480, 0, 0, 3072, 7168, 16355, 32739, 65535, 131071]⟩)], inL []⟩
theorem en135 {args : List CV} {m : Mem} {R : List CV → Mem → Prop} (hlen : Nat.ble args.length Tryz.f135.ntmps = true) (h : xwp c135 (bodyOf Tryz.f135) (QRet tt.get Tryz.f135.results.toList R) ⟨initF args, [], m, []⟩) : Spec Tryz.prog 135 args m R :=
  Spec.of_body (c := c135) Tryz.func135 (by kernel_rfl) (by kernel_rfl) tt_ok wide (by kernel_rfl) hlen h
/- cmp.Less[string] -/
noncomputable def c136 : Cfg := ⟨Tryz.prog, tt.get, inL [], atL [], inL []⟩
theorem en136 {args : List CV} {m : Mem} {R : List CV → Mem → Prop} (hlen : Nat.ble args.length Tryz.f136.ntmps = true) (h : xwp c136 (bodyOf Tryz.f136) (QRet tt.get Tryz.f136.results.toList R) ⟨initF args, [], m, []⟩) : Spec Tryz.prog 136 args m R :=
  Spec.of_body (c := c136) Tryz.func136 (by kernel_rfl) (by kernel_rfl) tt_ok wide (by kernel_rfl) hlen h
/- slices.partitionEqualOrdered[string] -/
noncomputable def c137 : Cfg := ⟨Tryz.prog, tt.get, inL [], atL [(1, ⟨.op 0 .all (.op 1 .all (.op 2 .all (.op 3 .all (.op 4 .all (.op 5 .all (.op 6 .all (.op 7 .all (.op 8 .all (.op 9 .all (.op 10 .all (.op 11 .all (.op 12 .all (.op 13 .none (.op 14 .all (.op 15 .none (.nil)))))))))))))))), [0, 0, 0, 0, 0, 0, 48, 112, 0, 0, 768, 1792, 4083, 8179, 16383, 32767]⟩),
  (3, ⟨.op 0 .all (.op 1 .all (.op 2 .all (.op 3 .all (.op 4 .all (.op 5 .all (.op 6 .all (.op 7 .all (.op 8 .all (.op 9 .all (.op 10 .all (.op 11 .all (.op 12 .none (.op 13 .all (.op 14 .all (.nil))))))))))))))), [0, 0, 3, 7, 15, 15, 63, 127, 15, 15, 783, 1807, 4095, 8191, 16383]⟩),
  (5, ⟨.op 0 .all (.op 1 .all (.op 2 .all (.op 3 .all (.op 4 .all (.op 5 .all (.op 6 .all (.op 7 .all (.op 8 .all (.op 9 .all (.op 10 .all (.op 11 .all (.op 12 .none (.op 13 .all (.nil)))))))))))))), [0, 0, 3, 7, 15, 15, 63, 127, 15, 15, 783, 1807, 4095, 8191]⟩),
  (8, ⟨.op 0 .all (.op 1 .all (.op 2 .all (.op 3 .all (.op 4 .all (.op 5 .all (.op 6 .all (.op 7 .all (.op 8 .all (.op 9 .all (.op 10 .all (.op 11 .all (.op 12 .all (.op 13 .none (.op 14 .all (.op 15 .none (.nil)))))))))))))))), [0, 0, 0, 0, 0, 0, 48, 112, 0, 0, 768, 1792, 4083, 8179, 16383, 32767]⟩)], inL []⟩
theorem en137 {args : List CV} {m : Mem} {R : List CV → Mem → Prop} (hlen : Nat.ble args.length Tryz.f137.ntmps = true) (h : xwp c137 (bodyOf Tryz.f137) (QRet tt.get Tryz.f137.results.toList R) ⟨initF args, [], m, []⟩) : Spec Tryz.prog 137 args m R :=
  Spec.of_body (c := c137) Tryz.func137 (by kernel_rfl) (by kernel_rfl) tt_ok wide (by kernel_rfl) hlen h
/- slices.partitionOrdered[string] -/
noncomputable def c138 : Cfg := ⟨Tryz.prog, tt.get, inL [], atL [(1, ⟨.op 0 .all (.op 1 .all (.op 2 .all (.op 3 .all (.op 4 .all (.op 5 .all (.op 6 .all (.op 7 .all (.op 8 .all (.op 9 .all (.op 10 .all (.op 11 .all (.op 12 .all (.op 13 .none (.op 14 .all (.op 15 .none (.nil)))))))))))))))), [0, 0, 0, 0, 0, 0, 48, 112, 0, 0, 768, 1792, 4083, 8179, 16383, 32767]⟩),
  (3, ⟨.op 0 .all (.op 1 .all (.op 2 .all (.op 3 .all (.op 4 .all (.op 5 .all (.op 6 .all (.op 7 .all (.op 8 .all (.op 9 .all (.op 10 .all (.op 11 .all (.op 12 .none (.op 13 .all (.nil)))))))))))))), [0, 0, 3, 7, 15, 15, 63, 127, 15, 15, 783, 1807, 4095, 8191]⟩),
  (5, ⟨.op 0 .all (.op 1 .all (.op 2 .all (.op 3 .all (.op 4 .all (.op 5 .all (.op 6 .all (.op 7 .all (.op 8 .all (.op 9 .all (.op 10 .all (.op 11 .all (.op 12 .none (.op 13 .all (.op 14 .all (.nil))))))))))))))), [0, 0, 3, 7, 15, 15, 63, 127, 15, 15, 783, 1807, 4095, 8191, 16383]⟩),
  (8, ⟨.op 0 .all (.op 1 .all (.op 2 .all (.op 3 .all (.op 4 .all (.op 5 .all (.op 6 .all (.op 7 .all (.op 8 .all (.op 9 .all (.op 10 .all (.op 11 .all (.op 12 .all (.op 13 .none (.op 14 .all (.op 15 .none (.nil)))))))))))))))), [0, 0, 0, 0, 0, 0, 48, 112, 0, 0, 768, 1792, 4083, 8179, 16383, 32767]⟩),
  (10, ⟨.op 0 .all (.op 1 .all (.op 2 .all (.op 3 .all (.op 4 .all (.op 5 .all (.op 6 .all (.op 7 .all (.op 8 .all (.op 9 .all (.op 10 .all (.op 11 .all (.op 12 .all (.op 13 .none (.op 14 .all (.op 15 .none (.nil)))))))))))))))), [0, 0, 0, 0, 0, 0, 48, 112, 0, 0, 768, 1792, 4083, 8179, 16383, 32767]⟩),
  (13, ⟨.op 0 .all (.op 1 .all (.op 2 .all (.op 3 .all (.op 4 .all (.op 5 .all (.op 6 .all (.op 7 .all (.op 8 .all (.op 9 .all (.op 10 .all (.op 11 .all (.op 12 .none (.op 13 .all (.nil)))))))))))))), [0, 0, 3, 7, 15, 15, 63, 127, 15, 15, 783, 1807, 4095, 8191]⟩),
  (15, ⟨.op 0 .all (.op 1 .all (.op 2 .all (.op 3 .all (.op 4 .all (.op 5 .all (.op 6 .all (.op 7 .all (.op 8 .all (.op 9 .all (.op 10 .all (.op 11 .all (.op 12 .none (.op 13 .all (.op 14 .all (.nil))))))))))))))), [0, 0, 3, 7, 15, 15, 63, 127, 15, 15, 783, 1807, 4095, 8191, 16383]⟩),
  (18, ⟨.op 0 .all (.op 1 .all (.op 2 .all (.op 3 .all (.op 4 .all (.op 5 .all (.op 6 .all (.op 7 .all (.op 8 .all (.op 9 .all (.op 10 .all (.op 11 .all (.op 12 .all (.op 13 .none (.op 14 .all (.op 15 .none (.nil)))))))))))))))), [0, 0, 0, 0, 0, 0, 48, 112, 0, 0, 768, 1792, 4083, 8179, 16383, 32767]⟩),
  (21, ⟨.op 0 .all (.op 1 .all (.op 2 .all (.op 3 .all (.op 4 .all (.op 5 .all (.op 6 .all (.op 7 .all (.op 8 .all (.op 9 .all (.op 10 .all (.op 11 .all (.op 12 .all (.op 13 .none (.op 14 .all (.op 15 .none (.nil)))))))))))))))), [0, 0, 0, 0, 0, 0, 48, 112, 0, 0, 768, 1792, 4083, 8179, 16383, 32767]⟩)], inL []⟩
theorem en138 {args : List CV} {m : Mem} {R : List CV → Mem → Prop} (hlen : Nat.ble args.length Tryz.f138.ntmps = true) (h : xwp c138 (bodyOf Tryz.f138) (QRet tt.get Tryz.f138.results.toList R) ⟨initF args, [], m, []⟩) : Spec Tryz.prog 138 args m R :=
  Spec.of_body (c := c138) Tryz.func138 (by kernel_rfl) (by kernel_rfl) tt_ok wide (by kernel_rfl) hlen h
/- math bits.Len32 -/
noncomputable def c139 : Cfg := ⟨Tryz.prog, tt.get, inL [], atL [], inL []⟩
theorem en139 {args : List CV} {m : Mem} {R : List CV → Mem → Prop} (hlen : Nat.ble args.length Tryz.f139.ntmps = true) (h : xwp c139 (bodyOf Tryz.f139) (QRet tt.get Tryz.f139.results.toList R) ⟨initF args, [], m, []⟩) : Spec Tryz.prog 139 args m R :=
  Spec.of_body (c := c139) Tryz.func139 (by kernel_rfl) (by kernel_rfl) tt_ok wide (by kernel_rfl) hlen h
/- math bits.Len64 -/
noncomputable def c140 : Cfg := ⟨Tryz.prog, tt.get, inL [], atL [], inL []⟩
theorem en140 {args : List CV} {m : Mem} {R : List CV → Mem → Prop} (hlen : Nat.ble args.length Tryz.f140.ntmps = true) (h : xwp c140 (bodyOf Tryz.f140) (QRet tt.get Tryz.f140.results.toList R) ⟨initF args, [], m, []⟩) : Spec Tryz.prog 140 args m R :=
  Spec.of_body (c := c140) Tryz.func140 (by kernel_rfl) (by kernel_rfl) tt_ok wide (by kernel_rfl) hlen h
/- (*maund maundref02.Reader).bytes -/
noncomputable def c141 : Cfg := ⟨Tryz.prog, tt.get, inL [], atL [(1, ⟨.op 0 .all (.op 1 .all (.op 2 .all (.op 3 .all (.op 4 .all (.op 5 .all (.op 6 .all (.op 7 .all (.op 8 .all (.op 9 .all (.op 10 .all (.op 11 .all (.op 12 .all (.op 13 .all (.op 14 .all (.op 15 .all (.op 16 .all (.op 17 .all (.op 18 .all (.nil))))))))))))))))))), [0, 1, 3, 7, 15, 31, 63, 63, 191, 447, 959, 1983, 63, 4159, 12351, 28735, 65471, 131071, 262143]⟩),
  (6, ⟨.op 0 .all (.op 1 .all (.op 2 .all (.op 3 .all (.op 4 .all (.op 5 .all (.op 6 .all (.op 7 .all (.op 8 .all (.op 9 .all (.op 10 .all (.op 11 .all (.op 12 .all (.op 13 .all (.op 14 .all (.op 15 .all (.nil)))))))))))))))), [0, 1, 3, 7, 0, 16, 48, 112, 0, 496, 0, 1024, 3072, 7168, 16383, 32767]⟩)], inL []⟩
theorem en141 {args : List CV} {m : Mem} {R : List CV → Mem → Prop} (hlen : Nat.ble args.length Tryz.f141.ntmps = true) (h : xwp c141 (bodyOf Tryz.f141) (QRet tt.get Tryz.f141.results.toList R) ⟨initF args, [], m, []⟩) : Spec Tryz.prog 141 args m R :=
  Spec.of_body (c := c141) Tryz.func141 (by kernel_rfl) (by kernel_rfl) tt_ok wide (by kernel_rfl) hlen h
/- math bits.TrailingZeros -/
noncomputable def c145 : Cfg := ⟨Tryz.prog, tt.get, inL [], atL [], inL []⟩
theorem en145 {args : List CV} {m : Mem} {R : List CV → Mem → Prop} (hlen : Nat.ble args.length Tryz.f145.ntmps = true) (h : xwp c145 (bodyOf Tryz.f145) (QRet tt.get Tryz.f145.results.toList R) ⟨initF args, [], m, []⟩) : Spec Tryz.prog 145 args m R :=
  Spec.of_body (c := c145) Tryz.func145 (by kernel_rfl) (by kernel_rfl) tt_ok wide (by kernel_rfl) hlen h
/- (*maund wire.Reader).take -/
noncomputable def c148 : Cfg := ⟨Tryz.prog, tt.get, inL [], atL [], inL []⟩
theorem en148 {args : List CV} {m : Mem} {R : List CV → Mem → Prop} (hlen : Nat.ble args.length Tryz.f148.ntmps = true) (h : xwp c148 (bodyOf Tryz.f148) (QRet tt.get Tryz.f148.results.toList R) ⟨initF args, [], m, []⟩) : Spec Tryz.prog 148 args m R :=
  Spec.of_body (c := c148) Tryz.func148 (by kernel_rfl) (by kernel_rfl) tt_ok wide (by kernel_rfl) hlen h
/- slices.siftDownOrdered[string] -/
noncomputable def c149 : Cfg := ⟨Tryz.prog, tt.get, inL [], atL [(3, ⟨.op 0 .all (.op 1 .all (.op 2 .all (.op 3 .all (.op 4 .all (.op 5 .all (.op 6 .all (.op 7 .all (.op 8 .all (.op 9 .all (.op 10 .all (.op 11 .all (.op 12 .all (.op 13 .all (.op 14 .all (.op 15 .all (.op 16 .all (.op 17 .all (.op 18 .none (.op 19 .all (.nil)))))))))))))))))))), [0, 1, 0, 7, 15, 31, 31, 31, 223, 511, 1023, 31, 31, 31, 12319, 28703, 63519, 129055, 262143, 524287]⟩),
  (5, ⟨.op 0 .all (.op 1 .all (.op 2 .all (.op 3 .all (.op 4 .all (.op 5 .all (.op 6 .all (.op 7 .all (.op 8 .all (.op 9 .all (.op 10 .all (.op 11 .all (.op 12 .none (.op 13 .all (.nil)))))))))))))), [0, 0, 0, 6, 15, 31, 0, 0, 0, 384, 960, 1984, 4095, 8191]⟩),
  (6, ⟨.op 0 .all (.op 1 .all (.op 2 .all (.op 3 .all (.op 4 .all (.op 5 .all (.op 6 .all (.op 7 .all (.op 8 .all (.op 9 .all (.op 10 .all (.op 11 .all (.op 12 .all (.op 13 .all (.op 14 .all (.op 15 .all (.op 16 .all (.op 17 .all (.op 18 .all (.op 19 .all (.op 20 .all (.op 21 .none (.op 22 .all (.op 23 .none (.nil)))))))))))))))))))))))), [0, 0, 0, 6, 0, 0, 0, 96, 0, 0, 0, 1536, 3840, 7936, 0, 0, 0, 98304, 245760, 507904, 1048335, 2096911, 4194303, 8388607]⟩)], inL []⟩
theorem en149 {args : List CV} {m : Mem} {R : List CV → Mem → Prop} (hlen : Nat.ble args.length Tryz.f149.ntmps = true) (h : xwp c149 (bodyOf Tryz.f149) (QRet tt.get Tryz.f149.results.toList R) ⟨initF args, [], m, []⟩) : Spec Tryz.prog 149 args m R :=
  Spec.of_body (c := c149) Tryz.func149 (by kernel_rfl) (by kernel_rfl) tt_ok wide (by kernel_rfl) hlen h
/- slices.nextPowerOfTwo -/
noncomputable def c150 : Cfg := ⟨Tryz.prog, tt.get, inL [], atL [], inL []⟩
theorem en150 {args : List CV} {m : Mem} {R : List CV → Mem → Prop} (hlen : Nat.ble args.length Tryz.f150.ntmps = true) (h : xwp c150 (bodyOf Tryz.f150) (QRet tt.get Tryz.f150.results.toList R) ⟨initF args, [], m, []⟩) : Spec Tryz.prog 150 args m R :=
  Spec.of_body (c := c150) Tryz.func150 (by kernel_rfl) (by kernel_rfl) tt_ok wide (by kernel_rfl) hlen h
/- (*slices.xorshift).Next -/
noncomputable def c151 : Cfg := ⟨Tryz.prog, tt.get, inL [], atL [(1, ⟨.op 0 .all (.op 1 .all (.op 2 .all (.op 3 .all (.op 4 .all (.op 5 .all (.op 6 .all (.op 7 .all (.op 8 .all (.op 9 .none (.nil)))))))))), [0, 1, 3, 0, 8, 24, 56, 127, 255, 511]⟩),
  (2, ⟨.op 0 .all (.op 1 .all (.op 2 .all (.op 3 .all (.op 4 .all (.op 5 .all (.op 6 .all (.op 7 .all (.op 8 .all (.op 9 .none (.nil)))))))))), [0, 1, 3, 0, 8, 24, 56, 127, 255, 511]⟩),
  (3, ⟨.op 0 .all (.op 1 .all (.op 2 .all (.op 3 .all (.op 4 .all (.op 5 .all (.op 6 .all (.op 7 .all (.op 8 .all (.op 9 .none (.nil)))))))))), [0, 1, 3, 0, 8, 24, 56, 127, 255, 511]⟩)], inL []⟩
theorem en151 {args : List CV} {m : Mem} {R : List CV → Mem → Prop} (hlen : Nat.ble args.length Tryz.f151.ntmps = true) (h : xwp c151 (bodyOf Tryz.f151) (QRet tt.get Tryz.f151.results.toList R) ⟨initF args, [], m, []⟩) : Spec Tryz.prog 151 args m R :=
  Spec.of_body (c := c151) Tryz.func151 (by kernel_rfl) (by kernel_rfl) tt_ok wide (by kernel_rfl) hlen h
/- slices.medianAdjacentOrdered[string] -/
noncomputable def c152 : Cfg := ⟨Tryz.prog, tt.get, inL [], atL [], inL []⟩
theorem en152 {args : List CV} {m : Mem} {R : List CV → Mem → Prop} (hlen : Nat.ble args.length Tryz.f152.ntmps = true) (h : xwp c152 (bodyOf Tryz.f152) (QRet tt.get Tryz.f152.results.toList R) ⟨initF args, [], m, []⟩) : Spec Tryz.prog 152 args m R :=
  Spec.of_body (c := c152) Tryz.func152 (by kernel_rfl) (by kernel_rfl) tt_ok wide (by kernel_rfl) hlen h
/- slices.medianOrdered[string] -/
noncomputable def c153 : Cfg := ⟨Tryz.prog, tt.get, inL [], atL [], inL []⟩
theorem en153 {args : List CV} {m : Mem} {R : List CV → Mem → Prop} (hlen : Nat.ble args.length Tryz.f153.ntmps = true) (h : xwp c153 (bodyOf Tryz.f153) (QRet tt.get Tryz.f153.results.toList R) ⟨initF args, [], m, []⟩) : Spec Tryz.prog 153 args m R :=
  Spec.of_body (c := c153) Tryz.func153 (by kernel_rfl) (by kernel_rfl) tt_ok wide (by kernel_rfl) hlen h
/- cmp.isNaN[string] -/
noncomputable def c154 : Cfg := ⟨Tryz.prog, tt.get, inL [], atL [], inL []⟩
theorem en154 {args : List CV} {m : Mem} {R : List CV → Mem → Prop} (hlen : Nat.ble args.length Tryz.f154.ntmps = true) (h : xwp c154 (bodyOf Tryz.f154) (QRet tt.get Tryz.f154.results.toList R) ⟨initF args, [], m, []⟩) : Spec Tryz.prog 154 args m R :=
  Spec.of_body (c := c154) Tryz.func154 (by kernel_rfl) (by kernel_rfl) tt_ok wide (by kernel_rfl) hlen h
/- math bits.TrailingZeros32 -/
noncomputable def c155 : Cfg := ⟨Tryz.prog, tt.get, inL [], atL [], inL []⟩
theorem en155 {args : List CV} {m : Mem} {R : List CV → Mem → Prop} (hlen : Nat.ble args.length Tryz.f155.ntmps = true) (h : xwp c155 (bodyOf Tryz.f155) (QRet tt.get Tryz.f155.results.toList R) ⟨initF args, [], m, []⟩) : Spec Tryz.prog 155 args m R :=
  Spec.of_body (c := c155) Tryz.func155 (by kernel_rfl) (by kernel_rfl) tt_ok wide (by kernel_rfl) hlen h
/- math bits.TrailingZeros64 -/
noncomputable def c156 : Cfg := ⟨Tryz.prog, tt.get, inL [], atL [], inL []⟩
theorem en156 {args : List CV} {m : Mem} {R : List CV → Mem → Prop} (hlen : Nat.ble args.length Tryz.f156.ntmps = true) (h : xwp c156 (bodyOf Tryz.f156) (QRet tt.get Tryz.f156.results.toList R) ⟨initF args, [], m, []⟩) : Spec Tryz.prog 156 args m R :=
  Spec.of_body (c := c156) Tryz.func156 (by kernel_rfl) (by kernel_rfl) tt_ok wide (by kernel_rfl) hlen h
/- slices.order2Ordered[string] -/
noncomputable def c157 : Cfg := ⟨Tryz.prog, tt.get, inL [], atL [(1, ⟨.op 0 .all (.op 1 .all (.op 2 .all (.op 3 .all (.op 4 .all (.op 5 .all (.op 6 .all (.op 7 .all (.op 8 .none (.nil))))))))), [0, 0, 3, 7, 0, 0, 48, 112, 255]⟩)], inL []⟩
theorem en157 {args : List CV} {m : Mem} {R : List CV → Mem → Prop} (hlen : Nat.ble args.length Tryz.f157.ntmps = true) (h : xwp c157 (bodyOf Tryz.f157) (QRet tt.get Tryz.f157.results.toList R) ⟨initF args, [], m, []⟩) : Spec Tryz.prog 157 args m R :=
  Spec.of_body (c := c157) Tryz.func157 (by kernel_rfl) (by kernel_rfl) tt_ok wide (by kernel_rfl) hlen h
end Go.E.YtgjlajcebcmbaaaGreatDoor

/-
  Small things for the contracts.
-/
namespace Go.E
abbrev u64 (n : Int) : CV := .v (.int .u64 n)
abbrev i64 (n : Int) : CV := .v (.int .i64 n)
abbrev boolV (b : Bool) : CV := .v (.bool b)
theorem xretk {P : Program} {f : FuncId} {args : List CV} {m : Mem} {r : List CV} {x : List Nat} {K : List CV → Mem → Prop} (h : Ret P f args m r) (k : K r m) : XCall P f args m fun r' m' => Kept x m m' ∧ K r' m' :=
  xret h ⟨fun _ _ => rfl, k⟩
theorem wu {n : Int} (h0 : 0 ≤ n) (h1 : n < 18446744073709551616) : IntKind.u64.wrap n = n := by rw [IntKind.wrap_u64, Int.emod_eq_of_lt h0 h1]
theorem wi {n : Int} (h0 : -9223372036854775808 ≤ n) (h1 : n < 9223372036854775808) : IntKind.i64.wrap n = n := by rw [IntKind.wrap_i64]; omega
theorem iadd {i : Nat} (h : i < 1000000000000) : IntKind.i64.wrap ((i : Int) + 1) = ((i + 1 : Nat) : Int) := by rw [wi (by omega) (by omega)]; omega
end Go.E

/-
  Bytes as numbers.
-/
namespace Go.E.YtgjlajcebcmbaaaGreatDoor
abbrev nc (l : List Nat) : List Int := l.map fun (n : Nat) => (n : Int)
theorem nc_len (l : List Nat) : (nc l).length = l.length := by simp
theorem strEq (a b : ByteArray) : (a.toList == b.toList) = decide (a = b) := by
  by_cases h : a = b
  · subst h; simp
  · rw [decide_eq_false h]
    refine beq_eq_false_iff_ne.2 fun e => h ?_
    rw [ByteArray.toList_eq, ByteArray.toList_eq] at e
    cases a; cases b
    congr 1
    exact Array.toList_inj.1 e
end Go.E.YtgjlajcebcmbaaaGreatDoor

/-
  Contracts of operations that make slices.
-/
namespace Go.E
section
variable {P : Program} {T : Tab}

def CV.cs : CV → List Value
  | .v x => [x]
  | .a c => LB.cells c
theorem CV.cs_val {x : CV} (h : x.ok) : x.val.cells = x.cs.toArray := by
  cases x with
  | v z => exact cells_one h
  | a c => rfl

theorem TOk.slice {t e : TypeId} {i : TI} (h : TOk P t i) (hk : i.k = .slice e) : P.underlying t = some (.slice e) := by
  obtain ⟨d, h1, h2⟩ := h.desc
  rw [hk] at h2
  cases d <;> simp [TK.of] at h2
  rw [h1, h2]

def fl (args : List CV) : List Value := (args.map CV.cs).flatten

theorem fill_dense {size : Nat} : ∀ (args : List CV) (k : Nat) (cells : Array Value), (∀ x ∈ args, x.ok) → (∀ x ∈ args, x.cs.length = size) → (k + args.length) * size ≤ cells.size →
    Instr.fill (fun i => some (i * size, size)) cells ((List.range' k args.length).zip (args.map CV.val)) = some (cells.toList.take (k * size) ++ (fl args ++ cells.toList.drop ((k + args.length) * size))).toArray
  | [], k, cells, _, _, _ => by simp [Instr.fill, fl]
  | x :: r, k, cells, h1, h2, h3 => by
    have hx := h1 x (by simp)
    have hl := h2 x (by simp)
    have hcv := CV.cs_val hx
    simp only [List.length_cons] at h3
    have h3' : k * size + size ≤ cells.size := by
      have : (k + (r.length + 1)) * size = k * size + size + r.length * size := by simp [Nat.add_mul]; omega
      omega
    simp only [List.length_cons, List.range'_succ, List.map_cons, List.zip_cons_cons]
    rw [fill_step (off := k * size) (size := size) rfl (by rw [hcv]; simpa using hl) (by rw [hcv]; simp [hl]; exact h3')]
    rw [laid_cells _ _ hcv _ _ (by rw [hl]; exact h3')]
    rw [fill_dense r (k + 1) _ (fun y hy => h1 y (by simp [hy])) (fun y hy => h2 y (by simp [hy])) (by simp [hl]; simp [Nat.add_mul] at h3 ⊢; omega)]
    congr 2
    have e1 : (k + 1) * size = k * size + size := by rw [Nat.add_mul, Nat.one_mul]
    have e2 : k + 1 + r.length = k + (r.length + 1) := by omega
    have ht : (List.take (k * size) cells.toList).length = k * size := by simp; omega
    simp only [fl, List.map_cons, List.flatten_cons, e1, e2]
    rw [List.take_append, ht, List.take_append, hl]
    rw [List.drop_append, ht, List.drop_append, hl]
    have d1 : List.take (k * size + size) (List.take (k * size) cells.toList) = List.take (k * size) cells.toList := by rw [List.take_take]; congr 1; omega
    have d2 : List.drop ((k + (r.length + 1)) * size) (List.take (k * size) cells.toList) = [] := by
      apply List.drop_eq_nil_of_le; rw [ht]; simp [Nat.add_mul]
    have d3 : k * size + size - k * size = size := by omega
    have d4 : List.take size x.cs = x.cs := by rw [← hl]; exact List.take_length
    have hge : k * size + size ≤ (k + (r.length + 1)) * size := by simp [Nat.add_mul]
    have d5 : List.drop ((k + (r.length + 1)) * size - k * size) x.cs = [] := by apply List.drop_eq_nil_of_le; rw [hl]; omega
    rw [d1, d2, d3, d4, d5, Nat.sub_self, List.take_zero, List.append_nil, List.nil_append, List.nil_append, List.drop_drop]
    have d6 : k * size + size + ((k + (r.length + 1)) * size - k * size - size) = (k + (r.length + 1)) * size := by omega
    rw [d6]
    simp [List.append_assoc]

/-- a slice literal all of whose parts are told, in order -/
theorem buildSlice_spec (hT : TabOk P T) {t e : TypeId} {ti ei : TI} (ht : T t = some ti) (hk : ti.k = .slice e) (he : T e = some ei) {n : Nat} {ix : List Nat} (hix : ix = List.range' 0 n) {args : List CV} (hn : args.length = n)
    (hsz : ∀ x ∈ args, x.cs.length = ei.size) (hb : n * ei.size ≤ 16777216) (hp : 0 < n * ei.size) {m : Mem} :
    PrimSpec P (.buildSlice t n ix) args m fun r m' => ∃ b, m b = none ∧ r = [.v (.slice (some ⟨b, 0, none⟩) n n)] ∧ m' = m.set b (.cells (fl args).toArray e) := by
  intro hok ty W hW
  obtain ⟨j, hj, hjs, _, z, hz, hzc⟩ := (hT e ei he).inf
  refine ⟨[.v (.slice (some ⟨W.heap.size, 0, none⟩) n n)], m.set W.heap.size (.cells (fl args).toArray e), W.alloc (.cells (fl args).toArray e), ?_, ?_, ⟨W.heap.size, hW.none (Nat.le_refl _), rfl, rfl⟩, (After.refl hW).alloc _⟩
  · subst hix
    simp only [Prim.run, Prim.out, Prim.tup, cond_false, resVal]
    subst hn
    refine run_buildSlice W t e _ _ _ j z ((hT t ti ht).slice hk) hj hz (by rw [hjs]; omega) (by rw [hjs]; omega) ?_
    rw [hjs]
    have := fill_dense args 0 ((Array.range (args.length * ei.size)).map (z.cells[· % z.cells.size]!)) hok hsz (by simp)
    simp only [CV.val]
    rw [this]
    congr 2
    simp
  · intro x hx
    simp at hx; subst hx; rfl
end
end Go.E

/-
  Slices that are owned: append; make; what lies in them; copies.
-/
namespace Go.E
section
variable {P : Program} {T : Tab}

/-- A slice's cells lie in memory that is known. -/
def Lies (m : Mem) (size : Nat) (v : Value) (l : List Value) : Prop :=
  (∃ c, v = .slice none 0 c ∧ l = []) ∨ ∃ b o c n arr t fr, v = .slice (some ⟨b, o, none⟩) n c ∧ m b = some (.cells arr t fr) ∧ l.length = n * size ∧ n ≤ c ∧ (∀ j u, l[j]? = some u → arr[o + j]? = some u) ∧ (∀ u ∈ l, u.oneCell' = true)
/-- A slice whose whole row is known, and may be written. -/
def Own (m : Mem) (e : TypeId) (size : Nat) (v : Value) (l : List Value) : Prop :=
  (v = .slice none 0 0 ∧ l = []) ∨ ∃ b o c n arr, v = .slice (some ⟨b, o, none⟩) n c ∧ m b = some (.cells arr e (0, 0)) ∧ l.length = n * size ∧ n ≤ c ∧ o + c * size ≤ arr.size ∧ (∀ j u, l[j]? = some u → arr[o + j]? = some u) ∧ (∀ u ∈ l, u.oneCell' = true)
theorem Own.lies {m : Mem} {e : TypeId} {size : Nat} {v : Value} {l : List Value} (h : Own m e size v l) : Lies m size v l := by
  rcases h with ⟨rfl, rfl⟩ | ⟨b, o, c, n, arr, rfl, h1, h2, h5, _, h3, h4⟩
  · exact .inl ⟨0, rfl, rfl⟩
  · exact .inr ⟨b, o, c, n, arr, e, (0, 0), rfl, h1, h2, h5, h3, h4⟩
theorem Lies.sub {m m' : Mem} {size : Nat} {v : Value} {l : List Value} (h : Lies m size v l) (hs : Sub m m') : Lies m' size v l := by
  rcases h with h | ⟨b, o, c, n, arr, t, fr, rfl, h1, h2⟩
  · exact .inl h
  · exact .inr ⟨b, o, c, n, arr, t, fr, rfl, hs _ _ h1, h2⟩
theorem Own.sub {m m' : Mem} {e : TypeId} {size : Nat} {v : Value} {l : List Value} (h : Own m e size v l) (hs : Sub m m') : Own m' e size v l := by
  rcases h with h | ⟨b, o, c, n, arr, rfl, h1, h2⟩
  · exact .inl h
  · exact .inr ⟨b, o, c, n, arr, rfl, hs _ _ h1, h2⟩
/-- the block of a slice -/
def blkV : Value → Option Nat
  | .slice (some a) _ _ => some a.block
  | _ => none
theorem Lies.keep {m m' : Mem} {size : Nat} {v : Value} {l : List Value} (h : Lies m size v l) (hs : ∀ b, blkV v = some b → m' b = m b) : Lies m' size v l := by
  rcases h with h | ⟨b, o, c, n, arr, t, fr, rfl, h1, h2⟩
  · exact .inl h
  · exact .inr ⟨b, o, c, n, arr, t, fr, rfl, by rw [hs b rfl]; exact h1, h2⟩
theorem Own.keep {m m' : Mem} {e : TypeId} {size : Nat} {v : Value} {l : List Value} (h : Own m e size v l) (hs : ∀ b, blkV v = some b → m' b = m b) : Own m' e size v l := by
  rcases h with h | ⟨b, o, c, n, arr, rfl, h1, h2⟩
  · exact .inl h
  · exact .inr ⟨b, o, c, n, arr, rfl, by rw [hs b rfl]; exact h1, h2⟩
/-- how many -/
def lenV : Value → Nat
  | .slice _ n _ => n
  | .string s => s.size
  | _ => 0
theorem Lies.one {m : Mem} {size : Nat} {v : Value} {l : List Value} (h : Lies m size v l) : v.oneCell' = true := by
  rcases h with ⟨c, rfl, _⟩ | ⟨b, o, c, n, arr, t, fr, rfl, _⟩ <;> rfl
theorem Lies.cellsOne {m : Mem} {size : Nat} {v : Value} {l : List Value} (h : Lies m size v l) : ∀ u ∈ l, u.oneCell' = true := by
  rcases h with ⟨c, rfl, rfl⟩ | ⟨b, o, c, n, arr, t, fr, rfl, _, _, _, _, h1⟩
  · simp
  · exact h1
theorem Lies.len {m : Mem} {size : Nat} {v : Value} {l : List Value} (h : Lies m size v l) : l.length = lenV v * size := by
  rcases h with ⟨c, rfl, rfl⟩ | ⟨b, o, c, n, arr, t, fr, rfl, _, h1, _⟩
  · simp [lenV]
  · exact h1

/-- What a second argument of append gives: a slice that lies there, or a string's bytes. -/
def Gives (m : Mem) (size : Nat) (k : TK) (x : Value) (news : List Value) : Prop :=
  (∃ e, k = .slice e ∧ (Lies m size x news ∨ (news = [] ∧ ∃ a, x = .slice (some a) 0 0))) ∨ (k = .str ∧ size = 1 ∧ ∃ s, x = .string s ∧ news = byteCells s)

theorem Gives.src (hT : TabOk P T) {tx : TypeId} {xi : TI} (hx : T tx = some xi) {m : Mem} {size : Nat} {x : Value} {news : List Value} (h : Gives m size xi.k x news) {W : World} (hW : Over m W) : Src P size tx x (lenV x) news W := by
  obtain ⟨d, h1, h2⟩ := (hT tx xi hx).desc
  rcases h with ⟨e, hk, hl⟩ | ⟨hk, rfl, s, rfl, rfl⟩
  · rw [hk] at h2
    have hd := slice_desc h2
    subst hd
    rcases hl with (⟨c, rfl, rfl⟩ | ⟨b, o, c, n, arr, t, fr, rfl, g1, g2, _, g3, g4⟩) | ⟨rfl, a, rfl⟩
    rotate_left 2
    · exact Src.ofSlice W h1 a 0 0 [] (by simp) (by simp) (by simp)
    · exact Src.ofNil W h1 c
    · refine Src.ofSlice W h1 _ n c news g2 (fun j u hu => ?_) g4
      rw [add_none, cell_at (hW _ _ g1)]
      exact g3 j u hu
  · rw [hk] at h2
    have hd := str_desc h2
    subst hd
    exact Src.ofString W h1 s

theorem growBy_le (k : Nat) : ∀ (r c : Nat), c ≤ k → Builtin.growBy k r c ≤ 2 * k + 768
  | 0, c, h => by simp only [Builtin.growBy]; omega
  | r + 1, c, h => by
    simp only [Builtin.growBy]
    split
    · omega
    · by_cases h2 : c + (c + 768) / 4 ≤ k
      · exact growBy_le k r _ h2
      · cases r with
        | zero => simp only [Builtin.growBy]; omega
        | succ r => simp only [Builtin.growBy]; rw [if_pos (by omega)]; omega
theorem nextcap_le {need cap : Nat} (h : cap < need) : Builtin.nextslicecap need cap ≤ 2 * need + 768 := by
  unfold Builtin.nextslicecap
  split
  · omega
  · split
    · omega
    · exact growBy_le need 4 cap (by omega)

theorem drew_eq (W : World) : W.drew = { W with drawn := W.drawn + 1 } := rfl
theorem zeroCells_size (z : Array Value) (n : Nat) : (Builtin.zeroCells z n).size = n * z.size := by simp [Builtin.zeroCells]

theorem getElem?_app_left {α : Type} {l r : List α} {j : Nat} {u : α} (h : l[j]? = some u) : (l ++ r)[j]? = some u := by
  rw [List.getElem?_append_left (List.getElem?_eq_some_iff.1 h).1]; exact h

/-- what an append leaves: v' is the slice behind it -/
structure Apd (m : Mem) (e : TypeId) (size : Nat) (v : Value) (l : List Value) (k : Nat) (v' : Value) (m' : Mem) : Prop where
  own : Own m' e size v' l
  keep : ∀ b o, m b = some o → blkV v ≠ some b → m' b = some o
  new : ∀ b, blkV v' = some b → blkV v = some b ∨ m b = none
  len : lenV v' = lenV v + k
/-- append onto a slice that is owned -/
theorem append_spec (hT : TabOk P T) {t e tx : TypeId} {ti ei xi : TI} (ht : T t = some ti) (hk : ti.k = .slice e) (he : T e = some ei) (hx : T tx = some xi) (hz : (LB.cells ei.zero).length = ei.size) {v x : Value} {l news : List Value} {m : Mem}
    (hv : Own m e ei.size v l) (hg : Gives m ei.size xi.k x news) (hbig : (2 * (lenV v + lenV x) + 768) * ei.bytes ≤ 281474976710656) (hb1 : lenV v + lenV x ≤ 9223372036854775807) :
    PrimSpec P (.builtin .append [t, tx]) [.v v, .v x] m fun r m' => ∃ v', r = [.v v'] ∧ Apd m e ei.size v (l ++ news) (lenV x) v' m' := by
  intro _ ty W hW
  obtain ⟨j, hj, hjs, hjb, z, hjz, hzc⟩ := (hT e ei he).inf
  have hsl := (hT t ti ht).slice hk
  have src := hg.src hT hx hW
  have hzsz : z.cells.size = ei.size := by rw [hzc]; simpa using hz
  have hlies := hv.lies
  -- the arm that grows
  have grow : ∀ (base : Option Addr) (n c : Nat), v = .slice base n c → c < n + lenV x → (Builtin.firstCells ei.size n (.slice base n c)).run P W.drew = .ok l.toArray W.drew → l.length = n * ei.size → (∀ u ∈ l, u.oneCell' = true) →
      ∃ r m' W', (Prim.run (.builtin .append [t, tx]) ty ([CV.v v, CV.v x].map CV.val)).run P W = .ok (resVal r) W' ∧ (∀ x ∈ r, x.ok) ∧
        (∃ v', r = [.v v'] ∧ Apd m e ei.size v (l ++ news) (lenV x) v' m') ∧ After m W m' W' := by
    rintro base n c rfl hlt hold hln hone
    have hbig' : (2 * (n + lenV x) + 768) * ei.bytes ≤ 281474976710656 := hbig
    have hb1' : n + lenV x ≤ 9223372036854775807 := hb1
    have hrun := run_append_grow_src W t tx ty e j z hsl hj hjz base n c l (by rw [hjs]; exact hold) x (lenV x) news (by rw [hjs]; exact src) hlt (by omega)
      (by rw [hjb]; exact Nat.le_trans (Nat.mul_le_mul_right _ (nextcap_le hlt)) hbig')
    have hcap := grownCap_ge W (n + lenV x) c e
    generalize hC : grownCap W (n + lenV x) c e = C at hrun hcap
    refine ⟨[.v (.slice (some ⟨W.heap.size, 0, none⟩) (n + lenV x) C)], m.set W.heap.size (.cells ((l ++ news).toArray ++ Builtin.zeroCells z.cells (C - (n + lenV x))) e), _, ?_, ?_, ⟨_, rfl, ?_, ?_, ?_, rfl⟩, (After.refl hW).drew.alloc _⟩
    · exact hrun
    · intro y hy; simp at hy; subst hy; rfl
    · refine .inr ⟨W.heap.size, 0, C, n + lenV x, _, rfl, Mem.set_same .., ?_, hcap, ?_, ?_, ?_⟩
      · rw [List.length_append, hln, src.newsLen, Nat.add_mul]
      · have e1 : (C - (n + lenV x)) * ei.size + (n + lenV x) * ei.size = C * ei.size := by rw [← Nat.add_mul]; congr 1; omega
        have e2 : (l ++ news).length = (n + lenV x) * ei.size := by rw [List.length_append, hln, src.newsLen, Nat.add_mul]
        simp only [Array.size_append, List.size_toArray, zeroCells_size, hzsz, e2]
        omega
      · intro i u hu
        rw [Nat.zero_add]
        rw [Array.getElem?_append_left (by simpa using (List.getElem?_eq_some_iff.1 hu).1)]
        simpa using hu
      · intro u hu
        rcases List.mem_append.1 hu with h | h
        · exact hone u h
        · exact src.one u h
    · intro b o hb _
      exact Mem.sub_set _ (hW.none (Nat.le_refl _)) b o hb
    · intro b hb
      simp only [blkV, Option.some.injEq] at hb
      subst hb
      exact .inr (hW.none (Nat.le_refl _))
  have len : ∀ w', (Builtin.lenOf x).run P w' = .ok (lenV x) w' := src.len
  rcases hv with ⟨rfl, rfl⟩ | ⟨b, o, c, n, arr, rfl, g1, g2, g3, g4, g5, g6⟩
  · by_cases h0 : lenV x = 0
    · -- nothing onto nothing
      have hn0 : news = [] := by
        have := src.newsLen; rw [h0, Nat.zero_mul] at this; exact List.length_eq_zero_iff.1 this
      subst hn0
      refine ⟨[.v (.slice none 0 0)], m, W, ?_, ?_, ⟨_, rfl, .inl ⟨rfl, rfl⟩, fun b o h _ => h, fun b hb => by simp [blkV] at hb, by rw [h0]; rfl⟩, After.refl hW⟩
      · have hc : (Builtin.firstCells ei.size 0 x).run P W = .ok #[] W := by have := src.cells; rw [h0] at this; exact this
        have len0 : ∀ w', (Builtin.lenOf x).run P w' = .ok 0 w' := by rw [← h0]; exact len
        rcases src.kind with ⟨e', hk'⟩ | hk' <;>
          simp [Prim.run, Prim.out, Prim.tup, cond_false, CV.val, resVal, Builtin.append_, run_underlying hsl, run_underlying hk', sizeOf, typeInfo, hj, len0, hjs, hc]
      · intro y hy; simp at hy; subst hy; rfl
    · exact grow none 0 0 rfl (by omega) (by simp [Builtin.firstCells]) (by simp) (by simp)
  · by_cases hroom : n + lenV x ≤ c
    · have hW1 := hW _ _ g1
      have hnl := src.newsLen
      have hle : o + n * ei.size + news.length ≤ arr.size := by
        have : n * ei.size + lenV x * ei.size ≤ c * ei.size := by rw [← Nat.add_mul]; exact Nat.mul_le_mul_right _ hroom
        omega
      have hst := run_storeCells_gen (P := P) b (o + n * ei.size) e (0, 0) news 0 arr W hW1 (by simpa using hle) src.one (by intro j _ h; omega)
      simp only [Nat.add_zero] at hst
      generalize hA : (arr.toList.take (o + n * ei.size) ++ (news ++ arr.toList.drop (o + n * ei.size + news.length))).toArray = A at hst
      have hAs : A.size = arr.size := by rw [← hA]; simp; omega
      have hAat : ∀ i, i < o + n * ei.size → A[i]? = arr[i]? := by
        intro i hi
        rw [← hA]
        simp only [List.getElem?_toArray]
        rw [List.getElem?_append_left (by simp; omega), List.getElem?_take, if_pos hi]
        simp
      have hAnew : ∀ i u, news[i]? = some u → A[o + n * ei.size + i]? = some u := by
        intro i u hu
        have hi := (List.getElem?_eq_some_iff.1 hu).1
        rw [← hA]
        simp only [List.getElem?_toArray]
        have hl1 : (arr.toList.take (o + n * ei.size)).length = o + n * ei.size := by simp; omega
        rw [List.getElem?_append_right (by omega), hl1, Nat.add_sub_cancel_left, List.getElem?_append_left hi]
        exact hu
      refine ⟨[.v (.slice (some ⟨b, o, none⟩) (n + lenV x) c)], m.set b (.cells A e (0, 0)), W.setRow b A, ?_, ?_, ⟨_, rfl, .inr ⟨b, o, c, n + lenV x, A, rfl, Mem.set_same .., ?_, hroom, by rw [hAs]; exact g4, ?_, ?_⟩, ?_, fun b' hb' => .inl hb', rfl⟩, (After.refl hW).setRow g1 A⟩
      · have hc := src.cells
        rcases src.kind with ⟨e', hk'⟩ | hk' <;>
          simp [Prim.run, Prim.out, Prim.tup, cond_false, CV.val, resVal, Builtin.append_, run_underlying hsl, run_underlying hk', sizeOf, typeInfo, hj, len, hjs, hroom, hc, add_none, hst]
      · intro y hy; simp at hy; subst hy; rfl
      · rw [List.length_append, g2, hnl, Nat.add_mul]
      · intro i u hu
        by_cases hi : i < l.length
        · rw [List.getElem?_append_left hi] at hu
          rw [hAat _ (by omega)]
          exact g5 i u hu
        · rw [List.getElem?_append_right (by omega)] at hu
          have := hAnew _ _ hu
          rw [show o + i = o + n * ei.size + (i - l.length) by omega]
          exact this
      · intro u hu
        rcases List.mem_append.1 hu with h | h
        · exact g6 u h
        · exact src.one u h
      · intro b' o' hb' hne
        rw [Mem.set_ne _ _ (fun e => hne (by rw [e]; rfl))]
        exact hb'
    · refine grow (some ⟨b, o, none⟩) n c rfl (by omega) ?_ g2 g6
      refine run_firstCells_some W.drew ei.size n _ n c l g2 (fun i u hu => ?_)
      rw [add_none]
      have hW1 : W.drew.heap[b]? = some (.cells arr e (0, 0)) := hW _ _ g1
      rw [cell_at hW1]
      exact g5 i u hu
#print axioms append_spec
end
end Go.E
