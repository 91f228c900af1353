/-
  Cfg, H, E15, Tally, TallyL, TallyL2, TallyL3, Vec, E17
-/
import Derived.Test.YtcionccfgcnhoaaGreatDoorStoreRefusesZ4
import Derived.Great.BuildSlice
import Derived.Deep.AppendSrc
namespace Go.E.YtcionccfgcnhoaaGreatDoor
open Go.Proofs
set_option maxRecDepth 100000
noncomputable def c3 : Cfg := ⟨Tryz.prog, tt.get, inL [], atL [(26, ⟨.op 0 .all (.op 1 .all (.op 2 .all (.op 3 .all (.op 4 .all (.op 5 .all (.op 6 .all (.op 7 .all (.op 8 .all (.op 9 .all (.op 10 .all (.nil))))))))))), [0, 1, 3, 3, 15, 31, 3, 67, 255, 511, 1023]⟩)], inL [18, 27]⟩
noncomputable def c4 : Cfg := ⟨Tryz.prog, tt.get, inL [], atL [], inL [13]⟩
theorem en4 {args : List CV} {m : Mem} {R : List CV → Mem → Prop} (hlen : Nat.ble args.length Tryz.f4.ntmps = true) (h : xwp c4 (bodyOf Tryz.f4) (QRet tt.get Tryz.f4.results.toList R) ⟨initF args, [], m, []⟩) : Spec Tryz.prog 4 args m R :=
  Spec.of_body (c := c4) Tryz.func4 (by kernel_rfl) (by kernel_rfl) tt_ok wide (by kernel_rfl) hlen h
noncomputable def c5 : Cfg := ⟨Tryz.prog, tt.get, inL [9], atL [], inL []⟩
theorem en5 {args : List CV} {m : Mem} {R : List CV → Mem → Prop} (hlen : Nat.ble args.length Tryz.f5.ntmps = true) (h : xwp c5 (bodyOf Tryz.f5) (QRet tt.get Tryz.f5.results.toList R) ⟨initF args, [], m, []⟩) : Spec Tryz.prog 5 args m R :=
  Spec.of_body (c := c5) Tryz.func5 (by kernel_rfl) (by kernel_rfl) tt_ok wide (by kernel_rfl) hlen h
noncomputable def c6 : Cfg := ⟨Tryz.prog, tt.get, inL [], atL [], inL []⟩
theorem en6 {args : List CV} {m : Mem} {R : List CV → Mem → Prop} (hlen : Nat.ble args.length Tryz.f6.ntmps = true) (h : xwp c6 (bodyOf Tryz.f6) (QRet tt.get Tryz.f6.results.toList R) ⟨initF args, [], m, []⟩) : Spec Tryz.prog 6 args m R :=
  Spec.of_body (c := c6) Tryz.func6 (by kernel_rfl) (by kernel_rfl) tt_ok wide (by kernel_rfl) hlen h
noncomputable def c7 : Cfg := ⟨Tryz.prog, tt.get, inL [38], atL [(14, ⟨.op 0 .all (.op 1 .all (.op 2 .all (.op 3 .all (.op 4 .all (.op 5 .all (.op 6 .all (.op 7 .all (.op 8 .all (.op 9 .none (.op 10 .all (.op 11 .all (.op 12 .none (.nil))))))))))))), [0, 0, 2, 6, 14, 0, 32, 0, 128, 510, 1023, 2047, 4095]⟩)], inL []⟩
theorem en7 {args : List CV} {m : Mem} {R : List CV → Mem → Prop} (hlen : Nat.ble args.length Tryz.f7.ntmps = true) (h : xwp c7 (bodyOf Tryz.f7) (QRet tt.get Tryz.f7.results.toList R) ⟨initF args, [], m, []⟩) : Spec Tryz.prog 7 args m R :=
  Spec.of_body (c := c7) Tryz.func7 (by kernel_rfl) (by kernel_rfl) tt_ok wide (by kernel_rfl) hlen h
noncomputable def c8 : Cfg := ⟨Tryz.prog, tt.get, inL [], atL [], inL []⟩
theorem en8 {args : List CV} {m : Mem} {R : List CV → Mem → Prop} (hlen : Nat.ble args.length Tryz.f8.ntmps = true) (h : xwp c8 (bodyOf Tryz.f8) (QRet tt.get Tryz.f8.results.toList R) ⟨initF args, [], m, []⟩) : Spec Tryz.prog 8 args m R :=
  Spec.of_body (c := c8) Tryz.func8 (by kernel_rfl) (by kernel_rfl) tt_ok wide (by kernel_rfl) hlen h
noncomputable def c9 : Cfg := ⟨Tryz.prog, tt.get, inL [], atL [], inL []⟩
theorem en9 {args : List CV} {m : Mem} {R : List CV → Mem → Prop} (hlen : Nat.ble args.length Tryz.f9.ntmps = true) (h : xwp c9 (bodyOf Tryz.f9) (QRet tt.get Tryz.f9.results.toList R) ⟨initF args, [], m, []⟩) : Spec Tryz.prog 9 args m R :=
  Spec.of_body (c := c9) Tryz.func9 (by kernel_rfl) (by kernel_rfl) tt_ok wide (by kernel_rfl) hlen h
noncomputable def c10 : Cfg := ⟨Tryz.prog, tt.get, inL [], atL [], inL []⟩
theorem en10 {args : List CV} {m : Mem} {R : List CV → Mem → Prop} (hlen : Nat.ble args.length Tryz.f10.ntmps = true) (h : xwp c10 (bodyOf Tryz.f10) (QRet tt.get Tryz.f10.results.toList R) ⟨initF args, [], m, []⟩) : Spec Tryz.prog 10 args m R :=
  Spec.of_body (c := c10) Tryz.func10 (by kernel_rfl) (by kernel_rfl) tt_ok wide (by kernel_rfl) hlen h
noncomputable def c11 : Cfg := ⟨Tryz.prog, tt.get, inL [], atL [(1, ⟨.op 0 .all (.op 1 .none (.op 2 .all (.op 3 .all (.op 4 .all (.op 5 .all (.op 6 .all (.op 8 .all (.op 9 .all (.op 10 .all (.op 11 .all (.op 7 .all (.op 12 .none (.op 13 .all (.op 14 .all (.op 15 .all (.nil)))))))))))))))), [0, 1, 3, 7, 15, 31, 63, 127, 7, 263, 775, 1799, 4095, 8191, 16383, 32767]⟩)], inL []⟩
theorem en11 {args : List CV} {m : Mem} {R : List CV → Mem → Prop} (hlen : Nat.ble args.length Tryz.f11.ntmps = true) (h : xwp c11 (bodyOf Tryz.f11) (QRet tt.get Tryz.f11.results.toList R) ⟨initF args, [], m, []⟩) : Spec Tryz.prog 11 args m R :=
  Spec.of_body (c := c11) Tryz.func11 (by kernel_rfl) (by kernel_rfl) tt_ok wide (by kernel_rfl) hlen h
noncomputable def c12 : Cfg := ⟨Tryz.prog, tt.get, inL [], atL [(6, ⟨.op 0 .all (.op 1 .all (.op 2 .all (.op 3 .all (.op 4 .all (.op 5 .all (.op 6 .all (.op 7 .all (.op 8 .all (.op 9 .all (.op 10 .all (.op 11 .all (.op 12 .all (.op 13 .all (.op 14 .all (.op 15 .all (.op 16 .all (.nil))))))))))))))))), [0, 0, 3, 7, 15, 0, 32, 96, 224, 480, 0, 1024, 3072, 7168, 16352, 32767, 65535]⟩),
  (8, ⟨.op 0 .all (.op 1 .all (.op 2 .all (.op 3 .all (.op 4 .all (.op 5 .all (.op 6 .all (.op 7 .all (.op 8 .all (.op 9 .all (.op 10 .all (.op 11 .all (.op 12 .all (.op 13 .all (.op 14 .all (.op 15 .all (.op 16 .none (.nil))))))))))))))))), [0, 0, 2, 6, 14, 0, 32, 96, 224, 0, 512, 1536, 3584, 8190, 16383, 32767, 65535]⟩)], inL []⟩
theorem en12 {args : List CV} {m : Mem} {R : List CV → Mem → Prop} (hlen : Nat.ble args.length Tryz.f12.ntmps = true) (h : xwp c12 (bodyOf Tryz.f12) (QRet tt.get Tryz.f12.results.toList R) ⟨initF args, [], m, []⟩) : Spec Tryz.prog 12 args m R :=
  Spec.of_body (c := c12) Tryz.func12 (by kernel_rfl) (by kernel_rfl) tt_ok wide (by kernel_rfl) hlen h
noncomputable def c13 : Cfg := ⟨Tryz.prog, tt.get, inL [], atL [], inL []⟩
theorem en13 {args : List CV} {m : Mem} {R : List CV → Mem → Prop} (hlen : Nat.ble args.length Tryz.f13.ntmps = true) (h : xwp c13 (bodyOf Tryz.f13) (QRet tt.get Tryz.f13.results.toList R) ⟨initF args, [], m, []⟩) : Spec Tryz.prog 13 args m R :=
  Spec.of_body (c := c13) Tryz.func13 (by kernel_rfl) (by kernel_rfl) tt_ok wide (by kernel_rfl) hlen h
noncomputable def c14 : Cfg := ⟨Tryz.prog, tt.get, inL [], atL [(4, ⟨.op 0 .all (.op 1 .all (.op 2 .all (.op 3 .all (.op 4 .all (.op 5 .all (.op 6 .all (.op 7 .all (.op 8 .none (.op 9 .all (.op 10 .all (.op 11 .all (.op 12 .all (.op 13 .all (.nil)))))))))))))), [0, 1, 3, 7, 0, 0, 48, 112, 255, 511, 1023, 1023, 2047, 8191]⟩),
  (7, ⟨.op 0 .all (.op 1 .all (.op 2 .all (.op 3 .all (.op 4 .all (.op 5 .all (.op 6 .all (.op 7 .none (.op 8 .all (.op 9 .all (.op 10 .none (.nil))))))))))), [0, 0, 2, 6, 14, 0, 0, 126, 255, 511, 1023]⟩)], inL []⟩
theorem en14 {args : List CV} {m : Mem} {R : List CV → Mem → Prop} (hlen : Nat.ble args.length Tryz.f14.ntmps = true) (h : xwp c14 (bodyOf Tryz.f14) (QRet tt.get Tryz.f14.results.toList R) ⟨initF args, [], m, []⟩) : Spec Tryz.prog 14 args m R :=
  Spec.of_body (c := c14) Tryz.func14 (by kernel_rfl) (by kernel_rfl) tt_ok wide (by kernel_rfl) hlen h
noncomputable def c15 : Cfg := ⟨Tryz.prog, tt.get, inL [], atL [], inL []⟩
theorem en15 {args : List CV} {m : Mem} {R : List CV → Mem → Prop} (hlen : Nat.ble args.length Tryz.f15.ntmps = true) (h : xwp c15 (bodyOf Tryz.f15) (QRet tt.get Tryz.f15.results.toList R) ⟨initF args, [], m, []⟩) : Spec Tryz.prog 15 args m R :=
  Spec.of_body (c := c15) Tryz.func15 (by kernel_rfl) (by kernel_rfl) tt_ok wide (by kernel_rfl) hlen h
noncomputable def c16 : Cfg := ⟨Tryz.prog, tt.get, inL [], atL [], inL []⟩
theorem en16 {args : List CV} {m : Mem} {R : List CV → Mem → Prop} (hlen : Nat.ble args.length Tryz.f16.ntmps = true) (h : xwp c16 (bodyOf Tryz.f16) (QRet tt.get Tryz.f16.results.toList R) ⟨initF args, [], m, []⟩) : Spec Tryz.prog 16 args m R :=
  Spec.of_body (c := c16) Tryz.func16 (by kernel_rfl) (by kernel_rfl) tt_ok wide (by kernel_rfl) hlen h
noncomputable def c17 : Cfg := ⟨Tryz.prog, tt.get, inL [], atL [], inL []⟩
theorem en17 {args : List CV} {m : Mem} {R : List CV → Mem → Prop} (hlen : Nat.ble args.length Tryz.f17.ntmps = true) (h : xwp c17 (bodyOf Tryz.f17) (QRet tt.get Tryz.f17.results.toList R) ⟨initF args, [], m, []⟩) : Spec Tryz.prog 17 args m R :=
  Spec.of_body (c := c17) Tryz.func17 (by kernel_rfl) (by kernel_rfl) tt_ok wide (by kernel_rfl) hlen h
noncomputable def c18 : Cfg := ⟨Tryz.prog, tt.get, inL [], atL [(11, ⟨.op 0 .all (.op 1 .all (.op 2 .all (.op 3 .all (.op 4 .all (.op 5 .all (.op 6 .all (.op 7 .all (.op 8 .all (.op 9 .all (.op 10 .none (.op 11 .all (.op 12 .all (.op 13 .all (.op 14 .all (.op 15 .all (.nil)))))))))))))))), [0, 1, 3, 7, 0, 16, 48, 112, 240, 0, 1023, 2047, 4095, 4095, 8191, 32767]⟩)], inL []⟩
theorem en18 {args : List CV} {m : Mem} {R : List CV → Mem → Prop} (hlen : Nat.ble args.length Tryz.f18.ntmps = true) (h : xwp c18 (bodyOf Tryz.f18) (QRet tt.get Tryz.f18.results.toList R) ⟨initF args, [], m, []⟩) : Spec Tryz.prog 18 args m R :=
  Spec.of_body (c := c18) Tryz.func18 (by kernel_rfl) (by kernel_rfl) tt_ok wide (by kernel_rfl) hlen h
noncomputable def c19 : Cfg := ⟨Tryz.prog, tt.get, inL [], atL [], inL []⟩
theorem en19 {args : List CV} {m : Mem} {R : List CV → Mem → Prop} (hlen : Nat.ble args.length Tryz.f19.ntmps = true) (h : xwp c19 (bodyOf Tryz.f19) (QRet tt.get Tryz.f19.results.toList R) ⟨initF args, [], m, []⟩) : Spec Tryz.prog 19 args m R :=
  Spec.of_body (c := c19) Tryz.func19 (by kernel_rfl) (by kernel_rfl) tt_ok wide (by kernel_rfl) hlen h
noncomputable def c20 : Cfg := ⟨Tryz.prog, tt.get, inL [], atL [], inL []⟩
theorem en20 {args : List CV} {m : Mem} {R : List CV → Mem → Prop} (hlen : Nat.ble args.length Tryz.f20.ntmps = true) (h : xwp c20 (bodyOf Tryz.f20) (QRet tt.get Tryz.f20.results.toList R) ⟨initF args, [], m, []⟩) : Spec Tryz.prog 20 args m R :=
  Spec.of_body (c := c20) Tryz.func20 (by kernel_rfl) (by kernel_rfl) tt_ok wide (by kernel_rfl) hlen h
noncomputable def c21 : Cfg := ⟨Tryz.prog, tt.get, inL [], atL [], inL []⟩
theorem en21 {args : List CV} {m : Mem} {R : List CV → Mem → Prop} (hlen : Nat.ble args.length Tryz.f21.ntmps = true) (h : xwp c21 (bodyOf Tryz.f21) (QRet tt.get Tryz.f21.results.toList R) ⟨initF args, [], m, []⟩) : Spec Tryz.prog 21 args m R :=
  Spec.of_body (c := c21) Tryz.func21 (by kernel_rfl) (by kernel_rfl) tt_ok wide (by kernel_rfl) hlen h
noncomputable def c22 : Cfg := ⟨Tryz.prog, tt.get, inL [], atL [], inL []⟩
theorem en22 {args : List CV} {m : Mem} {R : List CV → Mem → Prop} (hlen : Nat.ble args.length Tryz.f22.ntmps = true) (h : xwp c22 (bodyOf Tryz.f22) (QRet tt.get Tryz.f22.results.toList R) ⟨initF args, [], m, []⟩) : Spec Tryz.prog 22 args m R :=
  Spec.of_body (c := c22) Tryz.func22 (by kernel_rfl) (by kernel_rfl) tt_ok wide (by kernel_rfl) hlen h
noncomputable def c23 : Cfg := ⟨Tryz.prog, tt.get, inL [], atL [], inL []⟩
theorem en23 {args : List CV} {m : Mem} {R : List CV → Mem → Prop} (hlen : Nat.ble args.length Tryz.f23.ntmps = true) (h : xwp c23 (bodyOf Tryz.f23) (QRet tt.get Tryz.f23.results.toList R) ⟨initF args, [], m, []⟩) : Spec Tryz.prog 23 args m R :=
  Spec.of_body (c := c23) Tryz.func23 (by kernel_rfl) (by kernel_rfl) tt_ok wide (by kernel_rfl) hlen h
noncomputable def c24 : Cfg := ⟨Tryz.prog, tt.get, inL [17], atL [], inL []⟩
theorem en24 {args : List CV} {m : Mem} {R : List CV → Mem → Prop} (hlen : Nat.ble args.length Tryz.f24.ntmps = true) (h : xwp c24 (bodyOf Tryz.f24) (QRet tt.get Tryz.f24.results.toList R) ⟨initF args, [], m, []⟩) : Spec Tryz.prog 24 args m R :=
  Spec.of_body (c := c24) Tryz.func24 (by kernel_rfl) (by kernel_rfl) tt_ok wide (by kernel_rfl) hlen h
noncomputable def c25 : Cfg := ⟨Tryz.prog, tt.get, inL [], atL [], inL []⟩
theorem en25 {args : List CV} {m : Mem} {R : List CV → Mem → Prop} (hlen : Nat.ble args.length Tryz.f25.ntmps = true) (h : xwp c25 (bodyOf Tryz.f25) (QRet tt.get Tryz.f25.results.toList R) ⟨initF args, [], m, []⟩) : Spec Tryz.prog 25 args m R :=
  Spec.of_body (c := c25) Tryz.func25 (by kernel_rfl) (by kernel_rfl) tt_ok wide (by kernel_rfl) hlen h
noncomputable def c26 : Cfg := ⟨Tryz.prog, tt.get, inL [], atL [], inL []⟩
theorem en26 {args : List CV} {m : Mem} {R : List CV → Mem → Prop} (hlen : Nat.ble args.length Tryz.f26.ntmps = true) (h : xwp c26 (bodyOf Tryz.f26) (QRet tt.get Tryz.f26.results.toList R) ⟨initF args, [], m, []⟩) : Spec Tryz.prog 26 args m R :=
  Spec.of_body (c := c26) Tryz.func26 (by kernel_rfl) (by kernel_rfl) tt_ok wide (by kernel_rfl) hlen h
noncomputable def c27 : Cfg := ⟨Tryz.prog, tt.get, inL [], atL [(2, ⟨.op 0 .all (.op 3 .all (.op 1 .none (.op 2 .all (.op 4 .all (.op 5 .all (.op 6 .all (.op 7 .none (.nil)))))))), [0, 1, 3, 0, 11, 31, 0, 127]⟩),
  (3, ⟨.op 0 .all (.op 1 .all (.op 2 .all (.op 3 .all (.op 4 .all (.op 5 .all (.op 6 .all (.op 7 .all (.op 8 .all (.op 9 .none (.op 10 .all (.nil))))))))))), [0, 0, 2, 6, 14, 30, 62, 126, 254, 255, 1023]⟩)], inL []⟩
theorem en27 {args : List CV} {m : Mem} {R : List CV → Mem → Prop} (hlen : Nat.ble args.length Tryz.f27.ntmps = true) (h : xwp c27 (bodyOf Tryz.f27) (QRet tt.get Tryz.f27.results.toList R) ⟨initF args, [], m, []⟩) : Spec Tryz.prog 27 args m R :=
  Spec.of_body (c := c27) Tryz.func27 (by kernel_rfl) (by kernel_rfl) tt_ok wide (by kernel_rfl) hlen h
noncomputable def c28 : Cfg := ⟨Tryz.prog, tt.get, inL [4], atL [(7, ⟨.op 0 .all (.op 1 .all (.op 2 .all (.op 3 .all (.op 4 .all (.op 5 .all (.op 6 .all (.nil))))))), [0, 0, 3, 7, 15, 0, 63]⟩)], inL []⟩
theorem en28 {args : List CV} {m : Mem} {R : List CV → Mem → Prop} (hlen : Nat.ble args.length Tryz.f28.ntmps = true) (h : xwp c28 (bodyOf Tryz.f28) (QRet tt.get Tryz.f28.results.toList R) ⟨initF args, [], m, []⟩) : Spec Tryz.prog 28 args m R :=
  Spec.of_body (c := c28) Tryz.func28 (by kernel_rfl) (by kernel_rfl) tt_ok wide (by kernel_rfl) hlen h
noncomputable def c29 : Cfg := ⟨Tryz.prog, tt.get, inL [11], atL [], inL []⟩
theorem en29 {args : List CV} {m : Mem} {R : List CV → Mem → Prop} (hlen : Nat.ble args.length Tryz.f29.ntmps = true) (h : xwp c29 (bodyOf Tryz.f29) (QRet tt.get Tryz.f29.results.toList R) ⟨initF args, [], m, []⟩) : Spec Tryz.prog 29 args m R :=
  Spec.of_body (c := c29) Tryz.func29 (by kernel_rfl) (by kernel_rfl) tt_ok wide (by kernel_rfl) hlen h
noncomputable def c30 : Cfg := ⟨Tryz.prog, tt.get, inL [], atL [], inL []⟩
theorem en30 {args : List CV} {m : Mem} {R : List CV → Mem → Prop} (hlen : Nat.ble args.length Tryz.f30.ntmps = true) (h : xwp c30 (bodyOf Tryz.f30) (QRet tt.get Tryz.f30.results.toList R) ⟨initF args, [], m, []⟩) : Spec Tryz.prog 30 args m R :=
  Spec.of_body (c := c30) Tryz.func30 (by kernel_rfl) (by kernel_rfl) tt_ok wide (by kernel_rfl) hlen h
noncomputable def c31 : Cfg := ⟨Tryz.prog, tt.get, inL [], atL [], inL []⟩
theorem en31 {args : List CV} {m : Mem} {R : List CV → Mem → Prop} (hlen : Nat.ble args.length Tryz.f31.ntmps = true) (h : xwp c31 (bodyOf Tryz.f31) (QRet tt.get Tryz.f31.results.toList R) ⟨initF args, [], m, []⟩) : Spec Tryz.prog 31 args m R :=
  Spec.of_body (c := c31) Tryz.func31 (by kernel_rfl) (by kernel_rfl) tt_ok wide (by kernel_rfl) hlen h
noncomputable def c32 : Cfg := ⟨Tryz.prog, tt.get, inL [], atL [], inL []⟩
theorem en32 {args : List CV} {m : Mem} {R : List CV → Mem → Prop} (hlen : Nat.ble args.length Tryz.f32.ntmps = true) (h : xwp c32 (bodyOf Tryz.f32) (QRet tt.get Tryz.f32.results.toList R) ⟨initF args, [], m, []⟩) : Spec Tryz.prog 32 args m R :=
  Spec.of_body (c := c32) Tryz.func32 (by kernel_rfl) (by kernel_rfl) tt_ok wide (by kernel_rfl) hlen h
noncomputable def c33 : Cfg := ⟨Tryz.prog, tt.get, inL [], atL [], inL []⟩
theorem en33 {args : List CV} {m : Mem} {R : List CV → Mem → Prop} (hlen : Nat.ble args.length Tryz.f33.ntmps = true) (h : xwp c33 (bodyOf Tryz.f33) (QRet tt.get Tryz.f33.results.toList R) ⟨initF args, [], m, []⟩) : Spec Tryz.prog 33 args m R :=
  Spec.of_body (c := c33) Tryz.func33 (by kernel_rfl) (by kernel_rfl) tt_ok wide (by kernel_rfl) hlen h
noncomputable def c34 : Cfg := ⟨Tryz.prog, tt.get, inL [], atL [], inL []⟩
theorem en34 {args : List CV} {m : Mem} {R : List CV → Mem → Prop} (hlen : Nat.ble args.length Tryz.f34.ntmps = true) (h : xwp c34 (bodyOf Tryz.f34) (QRet tt.get Tryz.f34.results.toList R) ⟨initF args, [], m, []⟩) : Spec Tryz.prog 34 args m R :=
  Spec.of_body (c := c34) Tryz.func34 (by kernel_rfl) (by kernel_rfl) tt_ok wide (by kernel_rfl) hlen h
noncomputable def c35 : Cfg := ⟨Tryz.prog, tt.get, inL [], atL [], inL []⟩
theorem en35 {args : List CV} {m : Mem} {R : List CV → Mem → Prop} (hlen : Nat.ble args.length Tryz.f35.ntmps = true) (h : xwp c35 (bodyOf Tryz.f35) (QRet tt.get Tryz.f35.results.toList R) ⟨initF args, [], m, []⟩) : Spec Tryz.prog 35 args m R :=
  Spec.of_body (c := c35) Tryz.func35 (by kernel_rfl) (by kernel_rfl) tt_ok wide (by kernel_rfl) hlen h
noncomputable def c36 : Cfg := ⟨Tryz.prog, tt.get, inL [], atL [(6, ⟨.op 0 .all (.op 1 .all (.op 2 .all (.op 3 .all (.op 4 .all (.op 5 .all (.op 6 .all (.op 7 .all (.op 8 .all (.op 9 .all (.op 10 .all (.op 11 .none (.op 12 .all (.nil))))))))))))), [0, 1, 3, 7, 15, 0, 32, 96, 224, 480, 0, 2047, 4095]⟩)], inL []⟩
theorem en36 {args : List CV} {m : Mem} {R : List CV → Mem → Prop} (hlen : Nat.ble args.length Tryz.f36.ntmps = true) (h : xwp c36 (bodyOf Tryz.f36) (QRet tt.get Tryz.f36.results.toList R) ⟨initF args, [], m, []⟩) : Spec Tryz.prog 36 args m R :=
  Spec.of_body (c := c36) Tryz.func36 (by kernel_rfl) (by kernel_rfl) tt_ok wide (by kernel_rfl) hlen h
noncomputable def c37 : Cfg := ⟨Tryz.prog, tt.get, inL [5], atL [], inL []⟩
theorem en37 {args : List CV} {m : Mem} {R : List CV → Mem → Prop} (hlen : Nat.ble args.length Tryz.f37.ntmps = true) (h : xwp c37 (bodyOf Tryz.f37) (QRet tt.get Tryz.f37.results.toList R) ⟨initF args, [], m, []⟩) : Spec Tryz.prog 37 args m R :=
  Spec.of_body (c := c37) Tryz.func37 (by kernel_rfl) (by kernel_rfl) tt_ok wide (by kernel_rfl) hlen h
noncomputable def c38 : Cfg := ⟨Tryz.prog, tt.get, inL [], atL [], inL []⟩
theorem en38 {args : List CV} {m : Mem} {R : List CV → Mem → Prop} (hlen : Nat.ble args.length Tryz.f38.ntmps = true) (h : xwp c38 (bodyOf Tryz.f38) (QRet tt.get Tryz.f38.results.toList R) ⟨initF args, [], m, []⟩) : Spec Tryz.prog 38 args m R :=
  Spec.of_body (c := c38) Tryz.func38 (by kernel_rfl) (by kernel_rfl) tt_ok wide (by kernel_rfl) hlen h
noncomputable def c39 : Cfg := ⟨Tryz.prog, tt.get, inL [], atL [(5, ⟨.op 0 .all (.op 1 .all (.op 4 .all (.op 5 .all (.op 2 .all (.op 3 .all (.op 6 .none (.op 7 .none (.op 8 .all (.nil))))))))), [0, 0, 3, 7, 0, 0, 63, 127, 255]⟩)], inL []⟩
theorem en39 {args : List CV} {m : Mem} {R : List CV → Mem → Prop} (hlen : Nat.ble args.length Tryz.f39.ntmps = true) (h : xwp c39 (bodyOf Tryz.f39) (QRet tt.get Tryz.f39.results.toList R) ⟨initF args, [], m, []⟩) : Spec Tryz.prog 39 args m R :=
  Spec.of_body (c := c39) Tryz.func39 (by kernel_rfl) (by kernel_rfl) tt_ok wide (by kernel_rfl) hlen h
noncomputable def c40 : Cfg := ⟨Tryz.prog, tt.get, inL [3], atL [], inL []⟩
theorem en40 {args : List CV} {m : Mem} {R : List CV → Mem → Prop} (hlen : Nat.ble args.length Tryz.f40.ntmps = true) (h : xwp c40 (bodyOf Tryz.f40) (QRet tt.get Tryz.f40.results.toList R) ⟨initF args, [], m, []⟩) : Spec Tryz.prog 40 args m R :=
  Spec.of_body (c := c40) Tryz.func40 (by kernel_rfl) (by kernel_rfl) tt_ok wide (by kernel_rfl) hlen h
noncomputable def c41 : Cfg := ⟨Tryz.prog, tt.get, inL [], atL [], inL []⟩
theorem en41 {args : List CV} {m : Mem} {R : List CV → Mem → Prop} (hlen : Nat.ble args.length Tryz.f41.ntmps = true) (h : xwp c41 (bodyOf Tryz.f41) (QRet tt.get Tryz.f41.results.toList R) ⟨initF args, [], m, []⟩) : Spec Tryz.prog 41 args m R :=
  Spec.of_body (c := c41) Tryz.func41 (by kernel_rfl) (by kernel_rfl) tt_ok wide (by kernel_rfl) hlen h
noncomputable def c42 : Cfg := ⟨Tryz.prog, tt.get, inL [], atL [], inL []⟩
theorem en42 {args : List CV} {m : Mem} {R : List CV → Mem → Prop} (hlen : Nat.ble args.length Tryz.f42.ntmps = true) (h : xwp c42 (bodyOf Tryz.f42) (QRet tt.get Tryz.f42.results.toList R) ⟨initF args, [], m, []⟩) : Spec Tryz.prog 42 args m R :=
  Spec.of_body (c := c42) Tryz.func42 (by kernel_rfl) (by kernel_rfl) tt_ok wide (by kernel_rfl) hlen h
noncomputable def c43 : Cfg := ⟨Tryz.prog, tt.get, inL [4, 32], atL [], inL []⟩
theorem en43 {args : List CV} {m : Mem} {R : List CV → Mem → Prop} (hlen : Nat.ble args.length Tryz.f43.ntmps = true) (h : xwp c43 (bodyOf Tryz.f43) (QRet tt.get Tryz.f43.results.toList R) ⟨initF args, [], m, []⟩) : Spec Tryz.prog 43 args m R :=
  Spec.of_body (c := c43) Tryz.func43 (by kernel_rfl) (by kernel_rfl) tt_ok wide (by kernel_rfl) hlen h
noncomputable def c44 : Cfg := ⟨Tryz.prog, tt.get, inL [], atL [], inL []⟩
theorem en44 {args : List CV} {m : Mem} {R : List CV → Mem → Prop} (hlen : Nat.ble args.length Tryz.f44.ntmps = true) (h : xwp c44 (bodyOf Tryz.f44) (QRet tt.get Tryz.f44.results.toList R) ⟨initF args, [], m, []⟩) : Spec Tryz.prog 44 args m R :=
  Spec.of_body (c := c44) Tryz.func44 (by kernel_rfl) (by kernel_rfl) tt_ok wide (by kernel_rfl) hlen h
noncomputable def c45 : Cfg := ⟨Tryz.prog, tt.get, inL [], atL [(7, ⟨.op 0 .all (.op 1 .all (.op 2 .all (.op 3 .all (.op 4 .all (.op 5 .all (.op 6 .all (.op 7 .all (.op 8 .all (.op 9 .all (.op 10 .none (.op 11 .all (.op 12 .all (.op 13 .all (.op 14 .all (.op 15 .all (.op 16 .all (.op 17 .none (.nil)))))))))))))))))), [0, 0, 2, 6, 14, 0, 32, 96, 224, 480, 1022, 2046, 4094, 4094, 4094, 8191, 40959, 106495]⟩)], inL []⟩
theorem en45 {args : List CV} {m : Mem} {R : List CV → Mem → Prop} (hlen : Nat.ble args.length Tryz.f45.ntmps = true) (h : xwp c45 (bodyOf Tryz.f45) (QRet tt.get Tryz.f45.results.toList R) ⟨initF args, [], m, []⟩) : Spec Tryz.prog 45 args m R :=
  Spec.of_body (c := c45) Tryz.func45 (by kernel_rfl) (by kernel_rfl) tt_ok wide (by kernel_rfl) hlen h
noncomputable def c46 : Cfg := ⟨Tryz.prog, tt.get, inL [], atL [(6, ⟨.op 0 .all (.op 1 .all (.op 2 .all (.op 3 .all (.op 4 .all (.op 5 .all (.op 6 .all (.op 7 .all (.op 8 .all (.nil))))))))), [0, 0, 3, 7, 0, 0, 48, 112, 255]⟩)], inL []⟩
theorem en46 {args : List CV} {m : Mem} {R : List CV → Mem → Prop} (hlen : Nat.ble args.length Tryz.f46.ntmps = true) (h : xwp c46 (bodyOf Tryz.f46) (QRet tt.get Tryz.f46.results.toList R) ⟨initF args, [], m, []⟩) : Spec Tryz.prog 46 args m R :=
  Spec.of_body (c := c46) Tryz.func46 (by kernel_rfl) (by kernel_rfl) tt_ok wide (by kernel_rfl) hlen h
noncomputable def c47 : Cfg := ⟨Tryz.prog, tt.get, inL [], atL [], inL []⟩
theorem en47 {args : List CV} {m : Mem} {R : List CV → Mem → Prop} (hlen : Nat.ble args.length Tryz.f47.ntmps = true) (h : xwp c47 (bodyOf Tryz.f47) (QRet tt.get Tryz.f47.results.toList R) ⟨initF args, [], m, []⟩) : Spec Tryz.prog 47 args m R :=
  Spec.of_body (c := c47) Tryz.func47 (by kernel_rfl) (by kernel_rfl) tt_ok wide (by kernel_rfl) hlen h
noncomputable def c48 : Cfg := ⟨Tryz.prog, tt.get, inL [], atL [], inL []⟩
theorem en48 {args : List CV} {m : Mem} {R : List CV → Mem → Prop} (hlen : Nat.ble args.length Tryz.f48.ntmps = true) (h : xwp c48 (bodyOf Tryz.f48) (QRet tt.get Tryz.f48.results.toList R) ⟨initF args, [], m, []⟩) : Spec Tryz.prog 48 args m R :=
  Spec.of_body (c := c48) Tryz.func48 (by kernel_rfl) (by kernel_rfl) tt_ok wide (by kernel_rfl) hlen h
noncomputable def c49 : Cfg := ⟨Tryz.prog, tt.get, inL [], atL [], inL []⟩
theorem en49 {args : List CV} {m : Mem} {R : List CV → Mem → Prop} (hlen : Nat.ble args.length Tryz.f49.ntmps = true) (h : xwp c49 (bodyOf Tryz.f49) (QRet tt.get Tryz.f49.results.toList R) ⟨initF args, [], m, []⟩) : Spec Tryz.prog 49 args m R :=
  Spec.of_body (c := c49) Tryz.func49 (by kernel_rfl) (by kernel_rfl) tt_ok wide (by kernel_rfl) hlen h
noncomputable def c50 : Cfg := ⟨Tryz.prog, tt.get, inL [], atL [], inL []⟩
theorem en50 {args : List CV} {m : Mem} {R : List CV → Mem → Prop} (hlen : Nat.ble args.length Tryz.f50.ntmps = true) (h : xwp c50 (bodyOf Tryz.f50) (QRet tt.get Tryz.f50.results.toList R) ⟨initF args, [], m, []⟩) : Spec Tryz.prog 50 args m R :=
  Spec.of_body (c := c50) Tryz.func50 (by kernel_rfl) (by kernel_rfl) tt_ok wide (by kernel_rfl) hlen h
noncomputable def c51 : Cfg := ⟨Tryz.prog, tt.get, inL [], atL [], inL []⟩
theorem en51 {args : List CV} {m : Mem} {R : List CV → Mem → Prop} (hlen : Nat.ble args.length Tryz.f51.ntmps = true) (h : xwp c51 (bodyOf Tryz.f51) (QRet tt.get Tryz.f51.results.toList R) ⟨initF args, [], m, []⟩) : Spec Tryz.prog 51 args m R :=
  Spec.of_body (c := c51) Tryz.func51 (by kernel_rfl) (by kernel_rfl) tt_ok wide (by kernel_rfl) hlen h
noncomputable def c52 : Cfg := ⟨Tryz.prog, tt.get, inL [], atL [], inL []⟩
theorem en52 {args : List CV} {m : Mem} {R : List CV → Mem → Prop} (hlen : Nat.ble args.length Tryz.f52.ntmps = true) (h : xwp c52 (bodyOf Tryz.f52) (QRet tt.get Tryz.f52.results.toList R) ⟨initF args, [], m, []⟩) : Spec Tryz.prog 52 args m R :=
  Spec.of_body (c := c52) Tryz.func52 (by kernel_rfl) (by kernel_rfl) tt_ok wide (by kernel_rfl) hlen h
noncomputable def c53 : Cfg := ⟨Tryz.prog, tt.get, inL [45], atL [(6, ⟨.op 0 .all (.op 1 .all (.op 2 .all (.op 3 .all (.op 4 .all (.op 5 .all (.op 6 .all (.op 8 .all (.op 9 .all (.op 10 .all (.op 11 .all (.op 12 .all (.op 13 .all (.op 14 .all (.op 7 .all (.op 15 .all (.op 16 .all (.op 17 .all (.nil)))))))))))))))))), [0, 1, 3, 7, 15, 31, 63, 127, 63, 319, 831, 1855, 63, 4159, 16191, 32767, 65535, 131071]⟩)], inL [11]⟩
theorem en53 {args : List CV} {m : Mem} {R : List CV → Mem → Prop} (hlen : Nat.ble args.length Tryz.f53.ntmps = true) (h : xwp c53 (bodyOf Tryz.f53) (QRet tt.get Tryz.f53.results.toList R) ⟨initF args, [], m, []⟩) : Spec Tryz.prog 53 args m R :=
  Spec.of_body (c := c53) Tryz.func53 (by kernel_rfl) (by kernel_rfl) tt_ok wide (by kernel_rfl) hlen h
noncomputable def c54 : Cfg := ⟨Tryz.prog, tt.get, inL [], atL [], inL []⟩
theorem en54 {args : List CV} {m : Mem} {R : List CV → Mem → Prop} (hlen : Nat.ble args.length Tryz.f54.ntmps = true) (h : xwp c54 (bodyOf Tryz.f54) (QRet tt.get Tryz.f54.results.toList R) ⟨initF args, [], m, []⟩) : Spec Tryz.prog 54 args m R :=
  Spec.of_body (c := c54) Tryz.func54 (by kernel_rfl) (by kernel_rfl) tt_ok wide (by kernel_rfl) hlen h
noncomputable def c55 : Cfg := ⟨Tryz.prog, tt.get, inL [], atL [(6, ⟨.op 0 .all (.op 1 .all (.op 2 .all (.op 3 .all (.op 4 .all (.op 5 .all (.op 6 .all (.op 7 .all (.op 8 .all (.op 9 .all (.op 10 .all (.op 11 .all (.op 12 .all (.op 13 .all (.op 14 .all (.op 15 .all (.op 16 .all (.op 17 .none (.op 18 .all (.op 19 .all (.op 20 .none (.nil))))))))))))))))))))), [0, 0, 0, 4, 12, 28, 0, 0, 252, 0, 512, 1536, 3584, 0, 15872, 8189, 40957, 106493, 262143, 524287, 1048575]⟩)], inL []⟩
theorem en55 {args : List CV} {m : Mem} {R : List CV → Mem → Prop} (hlen : Nat.ble args.length Tryz.f55.ntmps = true) (h : xwp c55 (bodyOf Tryz.f55) (QRet tt.get Tryz.f55.results.toList R) ⟨initF args, [], m, []⟩) : Spec Tryz.prog 55 args m R :=
  Spec.of_body (c := c55) Tryz.func55 (by kernel_rfl) (by kernel_rfl) tt_ok wide (by kernel_rfl) hlen h
noncomputable def c56 : Cfg := ⟨Tryz.prog, tt.get, inL [], atL [], inL []⟩
theorem en56 {args : List CV} {m : Mem} {R : List CV → Mem → Prop} (hlen : Nat.ble args.length Tryz.f56.ntmps = true) (h : xwp c56 (bodyOf Tryz.f56) (QRet tt.get Tryz.f56.results.toList R) ⟨initF args, [], m, []⟩) : Spec Tryz.prog 56 args m R :=
  Spec.of_body (c := c56) Tryz.func56 (by kernel_rfl) (by kernel_rfl) tt_ok wide (by kernel_rfl) hlen h
noncomputable def c59 : Cfg := ⟨Tryz.prog, tt.get, inL [], atL [], inL []⟩
theorem en59 {args : List CV} {m : Mem} {R : List CV → Mem → Prop} (hlen : Nat.ble args.length Tryz.f59.ntmps = true) (h : xwp c59 (bodyOf Tryz.f59) (QRet tt.get Tryz.f59.results.toList R) ⟨initF args, [], m, []⟩) : Spec Tryz.prog 59 args m R :=
  Spec.of_body (c := c59) Tryz.func59 (by kernel_rfl) (by kernel_rfl) tt_ok wide (by kernel_rfl) hlen h
noncomputable def c60 : Cfg := ⟨Tryz.prog, tt.get, inL [6], atL [], inL []⟩
theorem en60 {args : List CV} {m : Mem} {R : List CV → Mem → Prop} (hlen : Nat.ble args.length Tryz.f60.ntmps = true) (h : xwp c60 (bodyOf Tryz.f60) (QRet tt.get Tryz.f60.results.toList R) ⟨initF args, [], m, []⟩) : Spec Tryz.prog 60 args m R :=
  Spec.of_body (c := c60) Tryz.func60 (by kernel_rfl) (by kernel_rfl) tt_ok wide (by kernel_rfl) hlen h
noncomputable def c61 : Cfg := ⟨Tryz.prog, tt.get, inL [], atL [], inL []⟩
theorem en61 {args : List CV} {m : Mem} {R : List CV → Mem → Prop} (hlen : Nat.ble args.length Tryz.f61.ntmps = true) (h : xwp c61 (bodyOf Tryz.f61) (QRet tt.get Tryz.f61.results.toList R) ⟨initF args, [], m, []⟩) : Spec Tryz.prog 61 args m R :=
  Spec.of_body (c := c61) Tryz.func61 (by kernel_rfl) (by kernel_rfl) tt_ok wide (by kernel_rfl) hlen h
noncomputable def c62 : Cfg := ⟨Tryz.prog, tt.get, inL [], atL [(5, ⟨.op 0 .all (.op 1 .all (.op 2 .all (.op 3 .all (.op 4 .all (.op 5 .none (.op 6 .all (.op 7 .none (.nil)))))))), [0, 1, 0, 4, 12, 31, 63, 127]⟩)], inL []⟩
theorem en62 {args : List CV} {m : Mem} {R : List CV → Mem → Prop} (hlen : Nat.ble args.length Tryz.f62.ntmps = true) (h : xwp c62 (bodyOf Tryz.f62) (QRet tt.get Tryz.f62.results.toList R) ⟨initF args, [], m, []⟩) : Spec Tryz.prog 62 args m R :=
  Spec.of_body (c := c62) Tryz.func62 (by kernel_rfl) (by kernel_rfl) tt_ok wide (by kernel_rfl) hlen h
noncomputable def c63 : Cfg := ⟨Tryz.prog, tt.get, inL [], atL [], inL []⟩
theorem en63 {args : List CV} {m : Mem} {R : List CV → Mem → Prop} (hlen : Nat.ble args.length Tryz.f63.ntmps = true) (h : xwp c63 (bodyOf Tryz.f63) (QRet tt.get Tryz.f63.results.toList R) ⟨initF args, [], m, []⟩) : Spec Tryz.prog 63 args m R :=
  Spec.of_body (c := c63) Tryz.func63 (by kernel_rfl) (by kernel_rfl) tt_ok wide (by kernel_rfl) hlen h
noncomputable def c64 : Cfg := ⟨Tryz.prog, tt.get, inL [], atL [], inL []⟩
theorem en64 {args : List CV} {m : Mem} {R : List CV → Mem → Prop} (hlen : Nat.ble args.length Tryz.f64.ntmps = true) (h : xwp c64 (bodyOf Tryz.f64) (QRet tt.get Tryz.f64.results.toList R) ⟨initF args, [], m, []⟩) : Spec Tryz.prog 64 args m R :=
  Spec.of_body (c := c64) Tryz.func64 (by kernel_rfl) (by kernel_rfl) tt_ok wide (by kernel_rfl) hlen h
noncomputable def c65 : Cfg := ⟨Tryz.prog, tt.get, inL [], atL [], inL []⟩
theorem en65 {args : List CV} {m : Mem} {R : List CV → Mem → Prop} (hlen : Nat.ble args.length Tryz.f65.ntmps = true) (h : xwp c65 (bodyOf Tryz.f65) (QRet tt.get Tryz.f65.results.toList R) ⟨initF args, [], m, []⟩) : Spec Tryz.prog 65 args m R :=
  Spec.of_body (c := c65) Tryz.func65 (by kernel_rfl) (by kernel_rfl) tt_ok wide (by kernel_rfl) hlen h
noncomputable def c66 : Cfg := ⟨Tryz.prog, tt.get, inL [], atL [], inL []⟩
theorem en66 {args : List CV} {m : Mem} {R : List CV → Mem → Prop} (hlen : Nat.ble args.length Tryz.f66.ntmps = true) (h : xwp c66 (bodyOf Tryz.f66) (QRet tt.get Tryz.f66.results.toList R) ⟨initF args, [], m, []⟩) : Spec Tryz.prog 66 args m R :=
  Spec.of_body (c := c66) Tryz.func66 (by kernel_rfl) (by kernel_rfl) tt_ok wide (by kernel_rfl) hlen h
noncomputable def c67 : Cfg := ⟨Tryz.prog, tt.get, inL [], atL [(11, ⟨.op 0 .all (.op 1 .all (.op 2 .all (.op 3 .all (.op 4 .all (.op 5 .all (.op 6 .all (.op 7 .all (.op 8 .none (.nil))))))))), [0, 0, 0, 6, 15, 0, 0, 96, 255]⟩),
  (15, ⟨.op 0 .all (.op 1 .all (.op 2 .all (.op 3 .all (.op 4 .all (.op 5 .all (.op 6 .all (.op 7 .all (.op 8 .none (.nil))))))))), [0, 0, 0, 6, 15, 0, 0, 96, 255]⟩)], inL []⟩
theorem en67 {args : List CV} {m : Mem} {R : List CV → Mem → Prop} (hlen : Nat.ble args.length Tryz.f67.ntmps = true) (h : xwp c67 (bodyOf Tryz.f67) (QRet tt.get Tryz.f67.results.toList R) ⟨initF args, [], m, []⟩) : Spec Tryz.prog 67 args m R :=
  Spec.of_body (c := c67) Tryz.func67 (by kernel_rfl) (by kernel_rfl) tt_ok wide (by kernel_rfl) hlen h
noncomputable def c68 : Cfg := ⟨Tryz.prog, tt.get, inL [], atL [(4, ⟨.op 0 .all (.op 1 .all (.op 2 .all (.op 3 .all (.op 4 .all (.op 5 .all (.op 6 .all (.op 7 .all (.op 8 .all (.op 9 .all (.op 10 .all (.op 11 .all (.op 12 .all (.op 13 .all (.op 14 .all (.op 15 .all (.op 16 .all (.op 17 .all (.op 18 .all (.op 19 .all (.op 20 .all (.op 21 .all (.op 22 .none (.op 23 .all (.op 24 .all (.nil))))))))))))))))))))))))), [0, 1, 3, 7, 15, 31, 63, 127, 255, 255, 767, 2047, 4095, 8191, 255, 16639, 65535, 131071, 262143, 524287, 1048575, 2097151, 4194303, 8388607, 16777215]⟩)], inL []⟩
theorem en68 {args : List CV} {m : Mem} {R : List CV → Mem → Prop} (hlen : Nat.ble args.length Tryz.f68.ntmps = true) (h : xwp c68 (bodyOf Tryz.f68) (QRet tt.get Tryz.f68.results.toList R) ⟨initF args, [], m, []⟩) : Spec Tryz.prog 68 args m R :=
  Spec.of_body (c := c68) Tryz.func68 (by kernel_rfl) (by kernel_rfl) tt_ok wide (by kernel_rfl) hlen h
noncomputable def c69 : Cfg := ⟨Tryz.prog, tt.get, inL [], atL [(10, ⟨.op 0 .all (.op 1 .all (.op 2 .all (.op 3 .all (.op 4 .all (.op 5 .all (.op 6 .all (.op 7 .all (.op 8 .all (.op 9 .all (.op 10 .all (.op 11 .none (.op 12 .all (.op 13 .all (.op 14 .none (.nil))))))))))))))), [0, 0, 2, 6, 14, 0, 0, 64, 224, 480, 992, 2046, 4095, 8191, 16383]⟩)], inL []⟩
theorem en69 {args : List CV} {m : Mem} {R : List CV → Mem → Prop} (hlen : Nat.ble args.length Tryz.f69.ntmps = true) (h : xwp c69 (bodyOf Tryz.f69) (QRet tt.get Tryz.f69.results.toList R) ⟨initF args, [], m, []⟩) : Spec Tryz.prog 69 args m R :=
  Spec.of_body (c := c69) Tryz.func69 (by kernel_rfl) (by kernel_rfl) tt_ok wide (by kernel_rfl) hlen h
noncomputable def c70 : Cfg := ⟨Tryz.prog, tt.get, inL [], atL [], inL []⟩
theorem en70 {args : List CV} {m : Mem} {R : List CV → Mem → Prop} (hlen : Nat.ble args.length Tryz.f70.ntmps = true) (h : xwp c70 (bodyOf Tryz.f70) (QRet tt.get Tryz.f70.results.toList R) ⟨initF args, [], m, []⟩) : Spec Tryz.prog 70 args m R :=
  Spec.of_body (c := c70) Tryz.func70 (by kernel_rfl) (by kernel_rfl) tt_ok wide (by kernel_rfl) hlen h
noncomputable def c71 : Cfg := ⟨Tryz.prog, tt.get, inL [], atL [], inL []⟩
theorem en71 {args : List CV} {m : Mem} {R : List CV → Mem → Prop} (hlen : Nat.ble args.length Tryz.f71.ntmps = true) (h : xwp c71 (bodyOf Tryz.f71) (QRet tt.get Tryz.f71.results.toList R) ⟨initF args, [], m, []⟩) : Spec Tryz.prog 71 args m R :=
  Spec.of_body (c := c71) Tryz.func71 (by kernel_rfl) (by kernel_rfl) tt_ok wide (by kernel_rfl) hlen h
noncomputable def c72 : Cfg := ⟨Tryz.prog, tt.get, inL [], atL [], inL []⟩
theorem en72 {args : List CV} {m : Mem} {R : List CV → Mem → Prop} (hlen : Nat.ble args.length Tryz.f72.ntmps = true) (h : xwp c72 (bodyOf Tryz.f72) (QRet tt.get Tryz.f72.results.toList R) ⟨initF args, [], m, []⟩) : Spec Tryz.prog 72 args m R :=
  Spec.of_body (c := c72) Tryz.func72 (by kernel_rfl) (by kernel_rfl) tt_ok wide (by kernel_rfl) hlen h
noncomputable def c74 : Cfg := ⟨Tryz.prog, tt.get, inL [], atL [(6, ⟨.op 0 .all (.op 1 .none (.op 2 .all (.op 3 .all (.op 4 .all (.op 5 .all (.op 6 .all (.op 7 .all (.op 8 .none (.op 9 .all (.op 10 .all (.op 11 .all (.op 12 .all (.op 13 .all (.op 14 .all (.op 15 .all (.op 16 .all (.op 17 .all (.op 18 .all (.op 19 .all (.op 20 .all (.op 21 .all (.op 22 .none (.op 23 .all (.op 24 .all (.op 25 .all (.nil)))))))))))))))))))))))))), [0, 1, 3, 7, 15, 31, 15, 79, 255, 511, 1023, 2047, 4095, 8191, 16383, 32767, 65535, 32767, 163839, 524287, 1048575, 32767, 4194303, 8388607, 16777215, 33554431]⟩),
  (9, ⟨.op 0 .all (.op 3 .all (.op 4 .all (.op 5 .all (.op 1 .all (.op 2 .all (.op 6 .all (.op 7 .all (.nil)))))))), [0, 1, 3, 0, 8, 24, 63, 127]⟩)], inL []⟩
theorem en74 {args : List CV} {m : Mem} {R : List CV → Mem → Prop} (hlen : Nat.ble args.length Tryz.f74.ntmps = true) (h : xwp c74 (bodyOf Tryz.f74) (QRet tt.get Tryz.f74.results.toList R) ⟨initF args, [], m, []⟩) : Spec Tryz.prog 74 args m R :=
  Spec.of_body (c := c74) Tryz.func74 (by kernel_rfl) (by kernel_rfl) tt_ok wide (by kernel_rfl) hlen h
noncomputable def c75 : Cfg := ⟨Tryz.prog, tt.get, inL [], atL [], inL []⟩
theorem en75 {args : List CV} {m : Mem} {R : List CV → Mem → Prop} (hlen : Nat.ble args.length Tryz.f75.ntmps = true) (h : xwp c75 (bodyOf Tryz.f75) (QRet tt.get Tryz.f75.results.toList R) ⟨initF args, [], m, []⟩) : Spec Tryz.prog 75 args m R :=
  Spec.of_body (c := c75) Tryz.func75 (by kernel_rfl) (by kernel_rfl) tt_ok wide (by kernel_rfl) hlen h
noncomputable def c76 : Cfg := ⟨Tryz.prog, tt.get, inL [], atL [], inL []⟩
theorem en76 {args : List CV} {m : Mem} {R : List CV → Mem → Prop} (hlen : Nat.ble args.length Tryz.f76.ntmps = true) (h : xwp c76 (bodyOf Tryz.f76) (QRet tt.get Tryz.f76.results.toList R) ⟨initF args, [], m, []⟩) : Spec Tryz.prog 76 args m R :=
  Spec.of_body (c := c76) Tryz.func76 (by kernel_rfl) (by kernel_rfl) tt_ok wide (by kernel_rfl) hlen h
noncomputable def c77 : Cfg := ⟨Tryz.prog, tt.get, inL [3], atL [], inL []⟩
theorem en77 {args : List CV} {m : Mem} {R : List CV → Mem → Prop} (hlen : Nat.ble args.length Tryz.f77.ntmps = true) (h : xwp c77 (bodyOf Tryz.f77) (QRet tt.get Tryz.f77.results.toList R) ⟨initF args, [], m, []⟩) : Spec Tryz.prog 77 args m R :=
  Spec.of_body (c := c77) Tryz.func77 (by kernel_rfl) (by kernel_rfl) tt_ok wide (by kernel_rfl) hlen h
noncomputable def c78 : Cfg := ⟨Tryz.prog, tt.get, inL [2, 5], atL [], inL []⟩
theorem en78 {args : List CV} {m : Mem} {R : List CV → Mem → Prop} (hlen : Nat.ble args.length Tryz.f78.ntmps = true) (h : xwp c78 (bodyOf Tryz.f78) (QRet tt.get Tryz.f78.results.toList R) ⟨initF args, [], m, []⟩) : Spec Tryz.prog 78 args m R :=
  Spec.of_body (c := c78) Tryz.func78 (by kernel_rfl) (by kernel_rfl) tt_ok wide (by kernel_rfl) hlen h
noncomputable def c79 : Cfg := ⟨Tryz.prog, tt.get, inL [], atL [], inL []⟩
theorem en79 {args : List CV} {m : Mem} {R : List CV → Mem → Prop} (hlen : Nat.ble args.length Tryz.f79.ntmps = true) (h : xwp c79 (bodyOf Tryz.f79) (QRet tt.get Tryz.f79.results.toList R) ⟨initF args, [], m, []⟩) : Spec Tryz.prog 79 args m R :=
  Spec.of_body (c := c79) Tryz.func79 (by kernel_rfl) (by kernel_rfl) tt_ok wide (by kernel_rfl) hlen h
noncomputable def c80 : Cfg := ⟨Tryz.prog, tt.get, inL [3, 4, 5], atL [], inL []⟩
theorem en80 {args : List CV} {m : Mem} {R : List CV → Mem → Prop} (hlen : Nat.ble args.length Tryz.f80.ntmps = true) (h : xwp c80 (bodyOf Tryz.f80) (QRet tt.get Tryz.f80.results.toList R) ⟨initF args, [], m, []⟩) : Spec Tryz.prog 80 args m R :=
  Spec.of_body (c := c80) Tryz.func80 (by kernel_rfl) (by kernel_rfl) tt_ok wide (by kernel_rfl) hlen h
noncomputable def c81 : Cfg := ⟨Tryz.prog, tt.get, inL [], atL [], inL []⟩
theorem en81 {args : List CV} {m : Mem} {R : List CV → Mem → Prop} (hlen : Nat.ble args.length Tryz.f81.ntmps = true) (h : xwp c81 (bodyOf Tryz.f81) (QRet tt.get Tryz.f81.results.toList R) ⟨initF args, [], m, []⟩) : Spec Tryz.prog 81 args m R :=
  Spec.of_body (c := c81) Tryz.func81 (by kernel_rfl) (by kernel_rfl) tt_ok wide (by kernel_rfl) hlen h
noncomputable def c82 : Cfg := ⟨Tryz.prog, tt.get, inL [], atL [], inL []⟩
theorem en82 {args : List CV} {m : Mem} {R : List CV → Mem → Prop} (hlen : Nat.ble args.length Tryz.f82.ntmps = true) (h : xwp c82 (bodyOf Tryz.f82) (QRet tt.get Tryz.f82.results.toList R) ⟨initF args, [], m, []⟩) : Spec Tryz.prog 82 args m R :=
  Spec.of_body (c := c82) Tryz.func82 (by kernel_rfl) (by kernel_rfl) tt_ok wide (by kernel_rfl) hlen h
noncomputable def c83 : Cfg := ⟨Tryz.prog, tt.get, inL [], atL [], inL []⟩
theorem en83 {args : List CV} {m : Mem} {R : List CV → Mem → Prop} (hlen : Nat.ble args.length Tryz.f83.ntmps = true) (h : xwp c83 (bodyOf Tryz.f83) (QRet tt.get Tryz.f83.results.toList R) ⟨initF args, [], m, []⟩) : Spec Tryz.prog 83 args m R :=
  Spec.of_body (c := c83) Tryz.func83 (by kernel_rfl) (by kernel_rfl) tt_ok wide (by kernel_rfl) hlen h
noncomputable def c84 : Cfg := ⟨Tryz.prog, tt.get, inL [], atL [], inL []⟩
theorem en84 {args : List CV} {m : Mem} {R : List CV → Mem → Prop} (hlen : Nat.ble args.length Tryz.f84.ntmps = true) (h : xwp c84 (bodyOf Tryz.f84) (QRet tt.get Tryz.f84.results.toList R) ⟨initF args, [], m, []⟩) : Spec Tryz.prog 84 args m R :=
  Spec.of_body (c := c84) Tryz.func84 (by kernel_rfl) (by kernel_rfl) tt_ok wide (by kernel_rfl) hlen h
noncomputable def c85 : Cfg := ⟨Tryz.prog, tt.get, inL [], atL [], inL []⟩
theorem en85 {args : List CV} {m : Mem} {R : List CV → Mem → Prop} (hlen : Nat.ble args.length Tryz.f85.ntmps = true) (h : xwp c85 (bodyOf Tryz.f85) (QRet tt.get Tryz.f85.results.toList R) ⟨initF args, [], m, []⟩) : Spec Tryz.prog 85 args m R :=
  Spec.of_body (c := c85) Tryz.func85 (by kernel_rfl) (by kernel_rfl) tt_ok wide (by kernel_rfl) hlen h
noncomputable def c86 : Cfg := ⟨Tryz.prog, tt.get, inL [], atL [], inL []⟩
theorem en86 {args : List CV} {m : Mem} {R : List CV → Mem → Prop} (hlen : Nat.ble args.length Tryz.f86.ntmps = true) (h : xwp c86 (bodyOf Tryz.f86) (QRet tt.get Tryz.f86.results.toList R) ⟨initF args, [], m, []⟩) : Spec Tryz.prog 86 args m R :=
  Spec.of_body (c := c86) Tryz.func86 (by kernel_rfl) (by kernel_rfl) tt_ok wide (by kernel_rfl) hlen h
noncomputable def c87 : Cfg := ⟨Tryz.prog, tt.get, inL [], atL [], inL []⟩
theorem en87 {args : List CV} {m : Mem} {R : List CV → Mem → Prop} (hlen : Nat.ble args.length Tryz.f87.ntmps = true) (h : xwp c87 (bodyOf Tryz.f87) (QRet tt.get Tryz.f87.results.toList R) ⟨initF args, [], m, []⟩) : Spec Tryz.prog 87 args m R :=
  Spec.of_body (c := c87) Tryz.func87 (by kernel_rfl) (by kernel_rfl) tt_ok wide (by kernel_rfl) hlen h
noncomputable def c88 : Cfg := ⟨Tryz.prog, tt.get, inL [], atL [(2, ⟨.op 0 .all (.op 1 .all (.op 2 .all (.op 3 .all (.op 4 .all (.op 5 .all (.op 6 .all (.op 7 .all (.op 8 .none (.op 9 .all (.nil)))))))))), [0, 1, 3, 7, 0, 16, 48, 112, 255, 511]⟩)], inL []⟩
theorem en88 {args : List CV} {m : Mem} {R : List CV → Mem → Prop} (hlen : Nat.ble args.length Tryz.f88.ntmps = true) (h : xwp c88 (bodyOf Tryz.f88) (QRet tt.get Tryz.f88.results.toList R) ⟨initF args, [], m, []⟩) : Spec Tryz.prog 88 args m R :=
  Spec.of_body (c := c88) Tryz.func88 (by kernel_rfl) (by kernel_rfl) tt_ok wide (by kernel_rfl) hlen h
noncomputable def c89 : Cfg := ⟨Tryz.prog, tt.get, inL [], atL [], inL []⟩
theorem en89 {args : List CV} {m : Mem} {R : List CV → Mem → Prop} (hlen : Nat.ble args.length Tryz.f89.ntmps = true) (h : xwp c89 (bodyOf Tryz.f89) (QRet tt.get Tryz.f89.results.toList R) ⟨initF args, [], m, []⟩) : Spec Tryz.prog 89 args m R :=
  Spec.of_body (c := c89) Tryz.func89 (by kernel_rfl) (by kernel_rfl) tt_ok wide (by kernel_rfl) hlen h
noncomputable def c90 : Cfg := ⟨Tryz.prog, tt.get, inL [], atL [], inL []⟩
theorem en90 {args : List CV} {m : Mem} {R : List CV → Mem → Prop} (hlen : Nat.ble args.length Tryz.f90.ntmps = true) (h : xwp c90 (bodyOf Tryz.f90) (QRet tt.get Tryz.f90.results.toList R) ⟨initF args, [], m, []⟩) : Spec Tryz.prog 90 args m R :=
  Spec.of_body (c := c90) Tryz.func90 (by kernel_rfl) (by kernel_rfl) tt_ok wide (by kernel_rfl) hlen h
noncomputable def c91 : Cfg := ⟨Tryz.prog, tt.get, inL [], atL [], inL []⟩
theorem en91 {args : List CV} {m : Mem} {R : List CV → Mem → Prop} (hlen : Nat.ble args.length Tryz.f91.ntmps = true) (h : xwp c91 (bodyOf Tryz.f91) (QRet tt.get Tryz.f91.results.toList R) ⟨initF args, [], m, []⟩) : Spec Tryz.prog 91 args m R :=
  Spec.of_body (c := c91) Tryz.func91 (by kernel_rfl) (by kernel_rfl) tt_ok wide (by kernel_rfl) hlen h
noncomputable def c93 : Cfg := ⟨Tryz.prog, tt.get, inL [], atL [], inL []⟩
theorem en93 {args : List CV} {m : Mem} {R : List CV → Mem → Prop} (hlen : Nat.ble args.length Tryz.f93.ntmps = true) (h : xwp c93 (bodyOf Tryz.f93) (QRet tt.get Tryz.f93.results.toList R) ⟨initF args, [], m, []⟩) : Spec Tryz.prog 93 args m R :=
  Spec.of_body (c := c93) Tryz.func93 (by kernel_rfl) (by kernel_rfl) tt_ok wide (by kernel_rfl) hlen h
noncomputable def c94 : Cfg := ⟨Tryz.prog, tt.get, inL [], atL [], inL []⟩
theorem en94 {args : List CV} {m : Mem} {R : List CV → Mem → Prop} (hlen : Nat.ble args.length Tryz.f94.ntmps = true) (h : xwp c94 (bodyOf Tryz.f94) (QRet tt.get Tryz.f94.results.toList R) ⟨initF args, [], m, []⟩) : Spec Tryz.prog 94 args m R :=
  Spec.of_body (c := c94) Tryz.func94 (by kernel_rfl) (by kernel_rfl) tt_ok wide (by kernel_rfl) hlen h
noncomputable def c95 : Cfg := ⟨Tryz.prog, tt.get, inL [], atL [], inL []⟩
theorem en95 {args : List CV} {m : Mem} {R : List CV → Mem → Prop} (hlen : Nat.ble args.length Tryz.f95.ntmps = true) (h : xwp c95 (bodyOf Tryz.f95) (QRet tt.get Tryz.f95.results.toList R) ⟨initF args, [], m, []⟩) : Spec Tryz.prog 95 args m R :=
  Spec.of_body (c := c95) Tryz.func95 (by kernel_rfl) (by kernel_rfl) tt_ok wide (by kernel_rfl) hlen h
noncomputable def c96 : Cfg := ⟨Tryz.prog, tt.get, inL [], atL [(11, ⟨.op 0 .all (.op 3 .all (.op 4 .all (.op 5 .all (.op 6 .all (.op 7 .all (.op 8 .all (.op 9 .all (.op 10 .all (.op 11 .all (.op 1 .none (.op 2 .none (.op 12 .none (.op 13 .all (.nil)))))))))))))), [0, 1, 3, 0, 0, 0, 48, 0, 0, 384, 896, 2040, 4095, 8191]⟩)], inL []⟩
theorem en96 {args : List CV} {m : Mem} {R : List CV → Mem → Prop} (hlen : Nat.ble args.length Tryz.f96.ntmps = true) (h : xwp c96 (bodyOf Tryz.f96) (QRet tt.get Tryz.f96.results.toList R) ⟨initF args, [], m, []⟩) : Spec Tryz.prog 96 args m R :=
  Spec.of_body (c := c96) Tryz.func96 (by kernel_rfl) (by kernel_rfl) tt_ok wide (by kernel_rfl) hlen h
noncomputable def c97 : Cfg := ⟨Tryz.prog, tt.get, inL [], atL [], inL []⟩
theorem en97 {args : List CV} {m : Mem} {R : List CV → Mem → Prop} (hlen : Nat.ble args.length Tryz.f97.ntmps = true) (h : xwp c97 (bodyOf Tryz.f97) (QRet tt.get Tryz.f97.results.toList R) ⟨initF args, [], m, []⟩) : Spec Tryz.prog 97 args m R :=
  Spec.of_body (c := c97) Tryz.func97 (by kernel_rfl) (by kernel_rfl) tt_ok wide (by kernel_rfl) hlen h
noncomputable def c98 : Cfg := ⟨Tryz.prog, tt.get, inL [], atL [], inL []⟩
theorem en98 {args : List CV} {m : Mem} {R : List CV → Mem → Prop} (hlen : Nat.ble args.length Tryz.f98.ntmps = true) (h : xwp c98 (bodyOf Tryz.f98) (QRet tt.get Tryz.f98.results.toList R) ⟨initF args, [], m, []⟩) : Spec Tryz.prog 98 args m R :=
  Spec.of_body (c := c98) Tryz.func98 (by kernel_rfl) (by kernel_rfl) tt_ok wide (by kernel_rfl) hlen h
noncomputable def c99 : Cfg := ⟨Tryz.prog, tt.get, inL [], atL [], inL []⟩
theorem en99 {args : List CV} {m : Mem} {R : List CV → Mem → Prop} (hlen : Nat.ble args.length Tryz.f99.ntmps = true) (h : xwp c99 (bodyOf Tryz.f99) (QRet tt.get Tryz.f99.results.toList R) ⟨initF args, [], m, []⟩) : Spec Tryz.prog 99 args m R :=
  Spec.of_body (c := c99) Tryz.func99 (by kernel_rfl) (by kernel_rfl) tt_ok wide (by kernel_rfl) hlen h
noncomputable def c106 : Cfg := ⟨Tryz.prog, tt.get, inL [], atL [], inL []⟩
theorem en106 {args : List CV} {m : Mem} {R : List CV → Mem → Prop} (hlen : Nat.ble args.length Tryz.f106.ntmps = true) (h : xwp c106 (bodyOf Tryz.f106) (QRet tt.get Tryz.f106.results.toList R) ⟨initF args, [], m, []⟩) : Spec Tryz.prog 106 args m R :=
  Spec.of_body (c := c106) Tryz.func106 (by kernel_rfl) (by kernel_rfl) tt_ok wide (by kernel_rfl) hlen h
noncomputable def c107 : Cfg := ⟨Tryz.prog, tt.get, inL [], atL [], inL []⟩
theorem en107 {args : List CV} {m : Mem} {R : List CV → Mem → Prop} (hlen : Nat.ble args.length Tryz.f107.ntmps = true) (h : xwp c107 (bodyOf Tryz.f107) (QRet tt.get Tryz.f107.results.toList R) ⟨initF args, [], m, []⟩) : Spec Tryz.prog 107 args m R :=
  Spec.of_body (c := c107) Tryz.func107 (by kernel_rfl) (by kernel_rfl) tt_ok wide (by kernel_rfl) hlen h
noncomputable def c108 : Cfg := ⟨Tryz.prog, tt.get, inL [], atL [], inL []⟩
theorem en108 {args : List CV} {m : Mem} {R : List CV → Mem → Prop} (hlen : Nat.ble args.length Tryz.f108.ntmps = true) (h : xwp c108 (bodyOf Tryz.f108) (QRet tt.get Tryz.f108.results.toList R) ⟨initF args, [], m, []⟩) : Spec Tryz.prog 108 args m R :=
  Spec.of_body (c := c108) Tryz.func108 (by kernel_rfl) (by kernel_rfl) tt_ok wide (by kernel_rfl) hlen h
noncomputable def c109 : Cfg := ⟨Tryz.prog, tt.get, inL [], atL [], inL []⟩
theorem en109 {args : List CV} {m : Mem} {R : List CV → Mem → Prop} (hlen : Nat.ble args.length Tryz.f109.ntmps = true) (h : xwp c109 (bodyOf Tryz.f109) (QRet tt.get Tryz.f109.results.toList R) ⟨initF args, [], m, []⟩) : Spec Tryz.prog 109 args m R :=
  Spec.of_body (c := c109) Tryz.func109 (by kernel_rfl) (by kernel_rfl) tt_ok wide (by kernel_rfl) hlen h
noncomputable def c110 : Cfg := ⟨Tryz.prog, tt.get, inL [], atL [], inL []⟩
theorem en110 {args : List CV} {m : Mem} {R : List CV → Mem → Prop} (hlen : Nat.ble args.length Tryz.f110.ntmps = true) (h : xwp c110 (bodyOf Tryz.f110) (QRet tt.get Tryz.f110.results.toList R) ⟨initF args, [], m, []⟩) : Spec Tryz.prog 110 args m R :=
  Spec.of_body (c := c110) Tryz.func110 (by kernel_rfl) (by kernel_rfl) tt_ok wide (by kernel_rfl) hlen h
noncomputable def c111 : Cfg := ⟨Tryz.prog, tt.get, inL [], atL [], inL []⟩
theorem en111 {args : List CV} {m : Mem} {R : List CV → Mem → Prop} (hlen : Nat.ble args.length Tryz.f111.ntmps = true) (h : xwp c111 (bodyOf Tryz.f111) (QRet tt.get Tryz.f111.results.toList R) ⟨initF args, [], m, []⟩) : Spec Tryz.prog 111 args m R :=
  Spec.of_body (c := c111) Tryz.func111 (by kernel_rfl) (by kernel_rfl) tt_ok wide (by kernel_rfl) hlen h
noncomputable def c112 : Cfg := ⟨Tryz.prog, tt.get, inL [], atL [], inL []⟩
theorem en112 {args : List CV} {m : Mem} {R : List CV → Mem → Prop} (hlen : Nat.ble args.length Tryz.f112.ntmps = true) (h : xwp c112 (bodyOf Tryz.f112) (QRet tt.get Tryz.f112.results.toList R) ⟨initF args, [], m, []⟩) : Spec Tryz.prog 112 args m R :=
  Spec.of_body (c := c112) Tryz.func112 (by kernel_rfl) (by kernel_rfl) tt_ok wide (by kernel_rfl) hlen h
noncomputable def c115 : Cfg := ⟨Tryz.prog, tt.get, inL [], atL [], inL []⟩
theorem en115 {args : List CV} {m : Mem} {R : List CV → Mem → Prop} (hlen : Nat.ble args.length Tryz.f115.ntmps = true) (h : xwp c115 (bodyOf Tryz.f115) (QRet tt.get Tryz.f115.results.toList R) ⟨initF args, [], m, []⟩) : Spec Tryz.prog 115 args m R :=
  Spec.of_body (c := c115) Tryz.func115 (by kernel_rfl) (by kernel_rfl) tt_ok wide (by kernel_rfl) hlen h
noncomputable def c116 : Cfg := ⟨Tryz.prog, tt.get, inL [], atL [], inL []⟩
theorem en116 {args : List CV} {m : Mem} {R : List CV → Mem → Prop} (hlen : Nat.ble args.length Tryz.f116.ntmps = true) (h : xwp c116 (bodyOf Tryz.f116) (QRet tt.get Tryz.f116.results.toList R) ⟨initF args, [], m, []⟩) : Spec Tryz.prog 116 args m R :=
  Spec.of_body (c := c116) Tryz.func116 (by kernel_rfl) (by kernel_rfl) tt_ok wide (by kernel_rfl) hlen h
noncomputable def c119 : Cfg := ⟨Tryz.prog, tt.get, inL [], atL [], inL []⟩
theorem en119 {args : List CV} {m : Mem} {R : List CV → Mem → Prop} (hlen : Nat.ble args.length Tryz.f119.ntmps = true) (h : xwp c119 (bodyOf Tryz.f119) (QRet tt.get Tryz.f119.results.toList R) ⟨initF args, [], m, []⟩) : Spec Tryz.prog 119 args m R :=
  Spec.of_body (c := c119) Tryz.func119 (by kernel_rfl) (by kernel_rfl) tt_ok wide (by kernel_rfl) hlen h
noncomputable def c120 : Cfg := ⟨Tryz.prog, tt.get, inL [], atL [(1, ⟨.op 0 .all (.op 1 .none (.op 2 .all (.op 3 .all (.op 4 .all (.op 5 .all (.op 7 .all (.op 8 .all (.op 6 .all (.op 9 .all (.op 10 .all (.op 11 .all (.nil)))))))))))), [0, 1, 3, 7, 7, 23, 63, 7, 135, 511, 1023, 2047]⟩)], inL []⟩
theorem en120 {args : List CV} {m : Mem} {R : List CV → Mem → Prop} (hlen : Nat.ble args.length Tryz.f120.ntmps = true) (h : xwp c120 (bodyOf Tryz.f120) (QRet tt.get Tryz.f120.results.toList R) ⟨initF args, [], m, []⟩) : Spec Tryz.prog 120 args m R :=
  Spec.of_body (c := c120) Tryz.func120 (by kernel_rfl) (by kernel_rfl) tt_ok wide (by kernel_rfl) hlen h
noncomputable def c121 : Cfg := ⟨Tryz.prog, tt.get, inL [], atL [], inL []⟩
theorem en121 {args : List CV} {m : Mem} {R : List CV → Mem → Prop} (hlen : Nat.ble args.length Tryz.f121.ntmps = true) (h : xwp c121 (bodyOf Tryz.f121) (QRet tt.get Tryz.f121.results.toList R) ⟨initF args, [], m, []⟩) : Spec Tryz.prog 121 args m R :=
  Spec.of_body (c := c121) Tryz.func121 (by kernel_rfl) (by kernel_rfl) tt_ok wide (by kernel_rfl) hlen h
noncomputable def c122 : Cfg := ⟨Tryz.prog, tt.get, inL [], atL [(1, ⟨.op 0 .all (.op 1 .all (.op 2 .all (.op 3 .all (.op 5 .all (.op 6 .all (.op 7 .all (.op 8 .all (.op 10 .all (.op 11 .all (.op 12 .all (.op 13 .all (.op 15 .all (.op 16 .all (.op 17 .all (.op 18 .all (.op 4 .all (.op 9 .all (.op 14 .all (.op 19 .none (.op 20 .none (.op 21 .none (.op 22 .all (.nil))))))))))))))))))))))), [0, 1, 0, 4, 15, 0, 32, 0, 128, 511, 0, 1024, 0, 4096, 16383, 0, 32768, 0, 131072, 524287, 1048575, 2097151, 4194303]⟩)], inL []⟩
theorem en122 {args : List CV} {m : Mem} {R : List CV → Mem → Prop} (hlen : Nat.ble args.length Tryz.f122.ntmps = true) (h : xwp c122 (bodyOf Tryz.f122) (QRet tt.get Tryz.f122.results.toList R) ⟨initF args, [], m, []⟩) : Spec Tryz.prog 122 args m R :=
  Spec.of_body (c := c122) Tryz.func122 (by kernel_rfl) (by kernel_rfl) tt_ok wide (by kernel_rfl) hlen h
noncomputable def c123 : Cfg := ⟨Tryz.prog, tt.get, inL [], atL [], inL []⟩
theorem en123 {args : List CV} {m : Mem} {R : List CV → Mem → Prop} (hlen : Nat.ble args.length Tryz.f123.ntmps = true) (h : xwp c123 (bodyOf Tryz.f123) (QRet tt.get Tryz.f123.results.toList R) ⟨initF args, [], m, []⟩) : Spec Tryz.prog 123 args m R :=
  Spec.of_body (c := c123) Tryz.func123 (by kernel_rfl) (by kernel_rfl) tt_ok wide (by kernel_rfl) hlen h
noncomputable def c124 : Cfg := ⟨Tryz.prog, tt.get, inL [], atL [], inL []⟩
theorem en124 {args : List CV} {m : Mem} {R : List CV → Mem → Prop} (hlen : Nat.ble args.length Tryz.f124.ntmps = true) (h : xwp c124 (bodyOf Tryz.f124) (QRet tt.get Tryz.f124.results.toList R) ⟨initF args, [], m, []⟩) : Spec Tryz.prog 124 args m R :=
  Spec.of_body (c := c124) Tryz.func124 (by kernel_rfl) (by kernel_rfl) tt_ok wide (by kernel_rfl) hlen h
noncomputable def c125 : Cfg := ⟨Tryz.prog, tt.get, inL [], atL [], inL []⟩
theorem en125 {args : List CV} {m : Mem} {R : List CV → Mem → Prop} (hlen : Nat.ble args.length Tryz.f125.ntmps = true) (h : xwp c125 (bodyOf Tryz.f125) (QRet tt.get Tryz.f125.results.toList R) ⟨initF args, [], m, []⟩) : Spec Tryz.prog 125 args m R :=
  Spec.of_body (c := c125) Tryz.func125 (by kernel_rfl) (by kernel_rfl) tt_ok wide (by kernel_rfl) hlen h
noncomputable def c126 : Cfg := ⟨Tryz.prog, tt.get, inL [5], atL [], inL []⟩
theorem en126 {args : List CV} {m : Mem} {R : List CV → Mem → Prop} (hlen : Nat.ble args.length Tryz.f126.ntmps = true) (h : xwp c126 (bodyOf Tryz.f126) (QRet tt.get Tryz.f126.results.toList R) ⟨initF args, [], m, []⟩) : Spec Tryz.prog 126 args m R :=
  Spec.of_body (c := c126) Tryz.func126 (by kernel_rfl) (by kernel_rfl) tt_ok wide (by kernel_rfl) hlen h
noncomputable def c127 : Cfg := ⟨Tryz.prog, tt.get, inL [], atL [], inL []⟩
theorem en127 {args : List CV} {m : Mem} {R : List CV → Mem → Prop} (hlen : Nat.ble args.length Tryz.f127.ntmps = true) (h : xwp c127 (bodyOf Tryz.f127) (QRet tt.get Tryz.f127.results.toList R) ⟨initF args, [], m, []⟩) : Spec Tryz.prog 127 args m R :=
  Spec.of_body (c := c127) Tryz.func127 (by kernel_rfl) (by kernel_rfl) tt_ok wide (by kernel_rfl) hlen h
noncomputable def c128 : Cfg := ⟨Tryz.prog, tt.get, inL [], atL [], inL []⟩
theorem en128 {args : List CV} {m : Mem} {R : List CV → Mem → Prop} (hlen : Nat.ble args.length Tryz.f128.ntmps = true) (h : xwp c128 (bodyOf Tryz.f128) (QRet tt.get Tryz.f128.results.toList R) ⟨initF args, [], m, []⟩) : Spec Tryz.prog 128 args m R :=
  Spec.of_body (c := c128) Tryz.func128 (by kernel_rfl) (by kernel_rfl) tt_ok wide (by kernel_rfl) hlen h
noncomputable def c129 : Cfg := ⟨Tryz.prog, tt.get, inL [], atL [], inL []⟩
theorem en129 {args : List CV} {m : Mem} {R : List CV → Mem → Prop} (hlen : Nat.ble args.length Tryz.f129.ntmps = true) (h : xwp c129 (bodyOf Tryz.f129) (QRet tt.get Tryz.f129.results.toList R) ⟨initF args, [], m, []⟩) : Spec Tryz.prog 129 args m R :=
  Spec.of_body (c := c129) Tryz.func129 (by kernel_rfl) (by kernel_rfl) tt_ok wide (by kernel_rfl) hlen h
noncomputable def c130 : Cfg := ⟨Tryz.prog, tt.get, inL [2], atL [], inL []⟩
theorem en130 {args : List CV} {m : Mem} {R : List CV → Mem → Prop} (hlen : Nat.ble args.length Tryz.f130.ntmps = true) (h : xwp c130 (bodyOf Tryz.f130) (QRet tt.get Tryz.f130.results.toList R) ⟨initF args, [], m, []⟩) : Spec Tryz.prog 130 args m R :=
  Spec.of_body (c := c130) Tryz.func130 (by kernel_rfl) (by kernel_rfl) tt_ok wide (by kernel_rfl) hlen h
noncomputable def c131 : Cfg := ⟨Tryz.prog, tt.get, inL [], atL [(1, ⟨.op 0 .all (.op 1 .all (.op 2 .all (.op 3 .all (.op 4 .all (.op 6 .all (.op 5 .all (.op 7 .none (.op 8 .all (.op 9 .all (.op 10 .all (.nil))))))))))), [0, 0, 3, 7, 15, 31, 15, 127, 255, 511, 1023]⟩)], inL []⟩
theorem en131 {args : List CV} {m : Mem} {R : List CV → Mem → Prop} (hlen : Nat.ble args.length Tryz.f131.ntmps = true) (h : xwp c131 (bodyOf Tryz.f131) (QRet tt.get Tryz.f131.results.toList R) ⟨initF args, [], m, []⟩) : Spec Tryz.prog 131 args m R :=
  Spec.of_body (c := c131) Tryz.func131 (by kernel_rfl) (by kernel_rfl) tt_ok wide (by kernel_rfl) hlen h
noncomputable def c132 : Cfg := ⟨Tryz.prog, tt.get, inL [], atL [(3, ⟨.op 0 .all (.op 1 .all (.op 2 .all (.op 3 .all (.op 4 .all (.op 5 .none (.op 6 .all (.op 7 .all (.op 8 .all (.op 9 .all (.op 10 .all (.op 11 .all (.op 12 .none (.op 13 .all (.op 14 .all (.op 15 .all (.nil)))))))))))))))), [0, 1, 3, 7, 3, 31, 63, 127, 255, 511, 255, 1279, 4095, 8191, 16383, 32767]⟩)], inL []⟩
theorem en132 {args : List CV} {m : Mem} {R : List CV → Mem → Prop} (hlen : Nat.ble args.length Tryz.f132.ntmps = true) (h : xwp c132 (bodyOf Tryz.f132) (QRet tt.get Tryz.f132.results.toList R) ⟨initF args, [], m, []⟩) : Spec Tryz.prog 132 args m R :=
  Spec.of_body (c := c132) Tryz.func132 (by kernel_rfl) (by kernel_rfl) tt_ok wide (by kernel_rfl) hlen h
noncomputable def c133 : Cfg := ⟨Tryz.prog, tt.get, inL [], atL [], inL []⟩
theorem en133 {args : List CV} {m : Mem} {R : List CV → Mem → Prop} (hlen : Nat.ble args.length Tryz.f133.ntmps = true) (h : xwp c133 (bodyOf Tryz.f133) (QRet tt.get Tryz.f133.results.toList R) ⟨initF args, [], m, []⟩) : Spec Tryz.prog 133 args m R :=
  Spec.of_body (c := c133) Tryz.func133 (by kernel_rfl) (by kernel_rfl) tt_ok wide (by kernel_rfl) hlen h
noncomputable def c134 : Cfg := ⟨Tryz.prog, tt.get, inL [], atL [], inL []⟩
theorem en134 {args : List CV} {m : Mem} {R : List CV → Mem → Prop} (hlen : Nat.ble args.length Tryz.f134.ntmps = true) (h : xwp c134 (bodyOf Tryz.f134) (QRet tt.get Tryz.f134.results.toList R) ⟨initF args, [], m, []⟩) : Spec Tryz.prog 134 args m R :=
  Spec.of_body (c := c134) Tryz.func134 (by kernel_rfl) (by kernel_rfl) tt_ok wide (by kernel_rfl) hlen h
noncomputable def c135 : Cfg := ⟨Tryz.prog, tt.get, inL [1], atL [], inL []⟩
theorem en135 {args : List CV} {m : Mem} {R : List CV → Mem → Prop} (hlen : Nat.ble args.length Tryz.f135.ntmps = true) (h : xwp c135 (bodyOf Tryz.f135) (QRet tt.get Tryz.f135.results.toList R) ⟨initF args, [], m, []⟩) : Spec Tryz.prog 135 args m R :=
  Spec.of_body (c := c135) Tryz.func135 (by kernel_rfl) (by kernel_rfl) tt_ok wide (by kernel_rfl) hlen h
noncomputable def c136 : Cfg := ⟨Tryz.prog, tt.get, inL [], atL [], inL []⟩
theorem en136 {args : List CV} {m : Mem} {R : List CV → Mem → Prop} (hlen : Nat.ble args.length Tryz.f136.ntmps = true) (h : xwp c136 (bodyOf Tryz.f136) (QRet tt.get Tryz.f136.results.toList R) ⟨initF args, [], m, []⟩) : Spec Tryz.prog 136 args m R :=
  Spec.of_body (c := c136) Tryz.func136 (by kernel_rfl) (by kernel_rfl) tt_ok wide (by kernel_rfl) hlen h
noncomputable def c140 : Cfg := ⟨Tryz.prog, tt.get, inL [], atL [], inL []⟩
theorem en140 {args : List CV} {m : Mem} {R : List CV → Mem → Prop} (hlen : Nat.ble args.length Tryz.f140.ntmps = true) (h : xwp c140 (bodyOf Tryz.f140) (QRet tt.get Tryz.f140.results.toList R) ⟨initF args, [], m, []⟩) : Spec Tryz.prog 140 args m R :=
  Spec.of_body (c := c140) Tryz.func140 (by kernel_rfl) (by kernel_rfl) tt_ok wide (by kernel_rfl) hlen h
noncomputable def c141 : Cfg := ⟨Tryz.prog, tt.get, inL [], atL [(6, ⟨.op 0 .all (.op 1 .all (.op 2 .all (.op 3 .all (.op 4 .all (.op 5 .all (.op 6 .all (.op 7 .all (.op 8 .all (.nil))))))))), [0, 0, 3, 7, 0, 0, 48, 112, 255]⟩)], inL []⟩
theorem en141 {args : List CV} {m : Mem} {R : List CV → Mem → Prop} (hlen : Nat.ble args.length Tryz.f141.ntmps = true) (h : xwp c141 (bodyOf Tryz.f141) (QRet tt.get Tryz.f141.results.toList R) ⟨initF args, [], m, []⟩) : Spec Tryz.prog 141 args m R :=
  Spec.of_body (c := c141) Tryz.func141 (by kernel_rfl) (by kernel_rfl) tt_ok wide (by kernel_rfl) hlen h
noncomputable def c142 : Cfg := ⟨Tryz.prog, tt.get, inL [], atL [], inL []⟩
theorem en142 {args : List CV} {m : Mem} {R : List CV → Mem → Prop} (hlen : Nat.ble args.length Tryz.f142.ntmps = true) (h : xwp c142 (bodyOf Tryz.f142) (QRet tt.get Tryz.f142.results.toList R) ⟨initF args, [], m, []⟩) : Spec Tryz.prog 142 args m R :=
  Spec.of_body (c := c142) Tryz.func142 (by kernel_rfl) (by kernel_rfl) tt_ok wide (by kernel_rfl) hlen h
noncomputable def c145 : Cfg := ⟨Tryz.prog, tt.get, inL [], atL [], inL []⟩
noncomputable def c149 : Cfg := ⟨Tryz.prog, tt.get, inL [], atL [], inL []⟩
theorem en149 {args : List CV} {m : Mem} {R : List CV → Mem → Prop} (hlen : Nat.ble args.length Tryz.f149.ntmps = true) (h : xwp c149 (bodyOf Tryz.f149) (QRet tt.get Tryz.f149.results.toList R) ⟨initF args, [], m, []⟩) : Spec Tryz.prog 149 args m R :=
  Spec.of_body (c := c149) Tryz.func149 (by kernel_rfl) (by kernel_rfl) tt_ok wide (by kernel_rfl) hlen h
noncomputable def c150 : Cfg := ⟨Tryz.prog, tt.get, inL [], atL [], inL []⟩
theorem en150 {args : List CV} {m : Mem} {R : List CV → Mem → Prop} (hlen : Nat.ble args.length Tryz.f150.ntmps = true) (h : xwp c150 (bodyOf Tryz.f150) (QRet tt.get Tryz.f150.results.toList R) ⟨initF args, [], m, []⟩) : Spec Tryz.prog 150 args m R :=
  Spec.of_body (c := c150) Tryz.func150 (by kernel_rfl) (by kernel_rfl) tt_ok wide (by kernel_rfl) hlen h
noncomputable def c163 : Cfg := ⟨Tryz.prog, tt.get, inL [], atL [], inL []⟩
theorem en163 {args : List CV} {m : Mem} {R : List CV → Mem → Prop} (hlen : Nat.ble args.length Tryz.f163.ntmps = true) (h : xwp c163 (bodyOf Tryz.f163) (QRet tt.get Tryz.f163.results.toList R) ⟨initF args, [], m, []⟩) : Spec Tryz.prog 163 args m R :=
  Spec.of_body (c := c163) Tryz.func163 (by kernel_rfl) (by kernel_rfl) tt_ok wide (by kernel_rfl) hlen h
noncomputable def c164 : Cfg := ⟨Tryz.prog, tt.get, inL [], atL [], inL []⟩
theorem en164 {args : List CV} {m : Mem} {R : List CV → Mem → Prop} (hlen : Nat.ble args.length Tryz.f164.ntmps = true) (h : xwp c164 (bodyOf Tryz.f164) (QRet tt.get Tryz.f164.results.toList R) ⟨initF args, [], m, []⟩) : Spec Tryz.prog 164 args m R :=
  Spec.of_body (c := c164) Tryz.func164 (by kernel_rfl) (by kernel_rfl) tt_ok wide (by kernel_rfl) hlen h
noncomputable def c165 : Cfg := ⟨Tryz.prog, tt.get, inL [], atL [], inL []⟩
theorem en165 {args : List CV} {m : Mem} {R : List CV → Mem → Prop} (hlen : Nat.ble args.length Tryz.f165.ntmps = true) (h : xwp c165 (bodyOf Tryz.f165) (QRet tt.get Tryz.f165.results.toList R) ⟨initF args, [], m, []⟩) : Spec Tryz.prog 165 args m R :=
  Spec.of_body (c := c165) Tryz.func165 (by kernel_rfl) (by kernel_rfl) tt_ok wide (by kernel_rfl) hlen h
noncomputable def c166 : Cfg := ⟨Tryz.prog, tt.get, inL [], atL [], inL []⟩
theorem en166 {args : List CV} {m : Mem} {R : List CV → Mem → Prop} (hlen : Nat.ble args.length Tryz.f166.ntmps = true) (h : xwp c166 (bodyOf Tryz.f166) (QRet tt.get Tryz.f166.results.toList R) ⟨initF args, [], m, []⟩) : Spec Tryz.prog 166 args m R :=
  Spec.of_body (c := c166) Tryz.func166 (by kernel_rfl) (by kernel_rfl) tt_ok wide (by kernel_rfl) hlen h
noncomputable def c167 : Cfg := ⟨Tryz.prog, tt.get, inL [], atL [], inL []⟩
theorem en167 {args : List CV} {m : Mem} {R : List CV → Mem → Prop} (hlen : Nat.ble args.length Tryz.f167.ntmps = true) (h : xwp c167 (bodyOf Tryz.f167) (QRet tt.get Tryz.f167.results.toList R) ⟨initF args, [], m, []⟩) : Spec Tryz.prog 167 args m R :=
  Spec.of_body (c := c167) Tryz.func167 (by kernel_rfl) (by kernel_rfl) tt_ok wide (by kernel_rfl) hlen h
noncomputable def c168 : Cfg := ⟨Tryz.prog, tt.get, inL [], atL [], inL []⟩
theorem en168 {args : List CV} {m : Mem} {R : List CV → Mem → Prop} (hlen : Nat.ble args.length Tryz.f168.ntmps = true) (h : xwp c168 (bodyOf Tryz.f168) (QRet tt.get Tryz.f168.results.toList R) ⟨initF args, [], m, []⟩) : Spec Tryz.prog 168 args m R :=
  Spec.of_body (c := c168) Tryz.func168 (by kernel_rfl) (by kernel_rfl) tt_ok wide (by kernel_rfl) hlen h
noncomputable def c169 : Cfg := ⟨Tryz.prog, tt.get, inL [], atL [], inL []⟩
theorem en169 {args : List CV} {m : Mem} {R : List CV → Mem → Prop} (hlen : Nat.ble args.length Tryz.f169.ntmps = true) (h : xwp c169 (bodyOf Tryz.f169) (QRet tt.get Tryz.f169.results.toList R) ⟨initF args, [], m, []⟩) : Spec Tryz.prog 169 args m R :=
  Spec.of_body (c := c169) Tryz.func169 (by kernel_rfl) (by kernel_rfl) tt_ok wide (by kernel_rfl) hlen h
noncomputable def c170 : Cfg := ⟨Tryz.prog, tt.get, inL [], atL [], inL []⟩
theorem en170 {args : List CV} {m : Mem} {R : List CV → Mem → Prop} (hlen : Nat.ble args.length Tryz.f170.ntmps = true) (h : xwp c170 (bodyOf Tryz.f170) (QRet tt.get Tryz.f170.results.toList R) ⟨initF args, [], m, []⟩) : Spec Tryz.prog 170 args m R :=
  Spec.of_body (c := c170) Tryz.func170 (by kernel_rfl) (by kernel_rfl) tt_ok wide (by kernel_rfl) hlen h
noncomputable def c171 : Cfg := ⟨Tryz.prog, tt.get, inL [], atL [(4, ⟨.op 0 .all (.op 1 .all (.op 2 .all (.op 3 .all (.op 4 .all (.op 5 .all (.nil)))))), [0, 0, 0, 6, 14, 31]⟩)], inL []⟩
theorem en171 {args : List CV} {m : Mem} {R : List CV → Mem → Prop} (hlen : Nat.ble args.length Tryz.f171.ntmps = true) (h : xwp c171 (bodyOf Tryz.f171) (QRet tt.get Tryz.f171.results.toList R) ⟨initF args, [], m, []⟩) : Spec Tryz.prog 171 args m R :=
  Spec.of_body (c := c171) Tryz.func171 (by kernel_rfl) (by kernel_rfl) tt_ok wide (by kernel_rfl) hlen h
noncomputable def c173 : Cfg := ⟨Tryz.prog, tt.get, inL [], atL [], inL []⟩
theorem en173 {args : List CV} {m : Mem} {R : List CV → Mem → Prop} (hlen : Nat.ble args.length Tryz.f173.ntmps = true) (h : xwp c173 (bodyOf Tryz.f173) (QRet tt.get Tryz.f173.results.toList R) ⟨initF args, [], m, []⟩) : Spec Tryz.prog 173 args m R :=
  Spec.of_body (c := c173) Tryz.func173 (by kernel_rfl) (by kernel_rfl) tt_ok wide (by kernel_rfl) hlen h
noncomputable def c190 : Cfg := ⟨Tryz.prog, tt.get, inL [], atL [], inL []⟩
theorem en190 {args : List CV} {m : Mem} {R : List CV → Mem → Prop} (hlen : Nat.ble args.length Tryz.f190.ntmps = true) (h : xwp c190 (bodyOf Tryz.f190) (QRet tt.get Tryz.f190.results.toList R) ⟨initF args, [], m, []⟩) : Spec Tryz.prog 190 args m R :=
  Spec.of_body (c := c190) Tryz.func190 (by kernel_rfl) (by kernel_rfl) tt_ok wide (by kernel_rfl) hlen h
noncomputable def c191 : Cfg := ⟨Tryz.prog, tt.get, inL [], atL [], inL []⟩
theorem en191 {args : List CV} {m : Mem} {R : List CV → Mem → Prop} (hlen : Nat.ble args.length Tryz.f191.ntmps = true) (h : xwp c191 (bodyOf Tryz.f191) (QRet tt.get Tryz.f191.results.toList R) ⟨initF args, [], m, []⟩) : Spec Tryz.prog 191 args m R :=
  Spec.of_body (c := c191) Tryz.func191 (by kernel_rfl) (by kernel_rfl) tt_ok wide (by kernel_rfl) hlen h
noncomputable def c192 : Cfg := ⟨Tryz.prog, tt.get, inL [], atL [], inL []⟩
theorem en192 {args : List CV} {m : Mem} {R : List CV → Mem → Prop} (hlen : Nat.ble args.length Tryz.f192.ntmps = true) (h : xwp c192 (bodyOf Tryz.f192) (QRet tt.get Tryz.f192.results.toList R) ⟨initF args, [], m, []⟩) : Spec Tryz.prog 192 args m R :=
  Spec.of_body (c := c192) Tryz.func192 (by kernel_rfl) (by kernel_rfl) tt_ok wide (by kernel_rfl) hlen h
noncomputable def c193 : Cfg := ⟨Tryz.prog, tt.get, inL [3, 4], atL [], inL []⟩
theorem en193 {args : List CV} {m : Mem} {R : List CV → Mem → Prop} (hlen : Nat.ble args.length Tryz.f193.ntmps = true) (h : xwp c193 (bodyOf Tryz.f193) (QRet tt.get Tryz.f193.results.toList R) ⟨initF args, [], m, []⟩) : Spec Tryz.prog 193 args m R :=
  Spec.of_body (c := c193) Tryz.func193 (by kernel_rfl) (by kernel_rfl) tt_ok wide (by kernel_rfl) hlen h
noncomputable def c194 : Cfg := ⟨Tryz.prog, tt.get, inL [1], atL [], inL []⟩
theorem en194 {args : List CV} {m : Mem} {R : List CV → Mem → Prop} (hlen : Nat.ble args.length Tryz.f194.ntmps = true) (h : xwp c194 (bodyOf Tryz.f194) (QRet tt.get Tryz.f194.results.toList R) ⟨initF args, [], m, []⟩) : Spec Tryz.prog 194 args m R :=
  Spec.of_body (c := c194) Tryz.func194 (by kernel_rfl) (by kernel_rfl) tt_ok wide (by kernel_rfl) hlen h
noncomputable def c207 : Cfg := ⟨Tryz.prog, tt.get, inL [], atL [], inL []⟩
theorem en207 {args : List CV} {m : Mem} {R : List CV → Mem → Prop} (hlen : Nat.ble args.length Tryz.f207.ntmps = true) (h : xwp c207 (bodyOf Tryz.f207) (QRet tt.get Tryz.f207.results.toList R) ⟨initF args, [], m, []⟩) : Spec Tryz.prog 207 args m R :=
  Spec.of_body (c := c207) Tryz.func207 (by kernel_rfl) (by kernel_rfl) tt_ok wide (by kernel_rfl) hlen h
noncomputable def c208 : Cfg := ⟨Tryz.prog, tt.get, inL [], atL [(6, ⟨.op 0 .all (.op 1 .all (.op 2 .all (.op 3 .all (.op 4 .all (.op 5 .all (.op 6 .all (.op 7 .all (.op 8 .all (.op 9 .all (.nil)))))))))), [0, 0, 3, 7, 0, 0, 32, 112, 240, 511]⟩),
  (11, ⟨.op 0 .all (.op 1 .all (.op 2 .all (.op 3 .all (.op 4 .all (.op 5 .all (.op 6 .all (.op 7 .all (.op 8 .all (.op 9 .all (.nil)))))))))), [0, 0, 3, 7, 0, 0, 32, 112, 240, 511]⟩)], inL []⟩
theorem en208 {args : List CV} {m : Mem} {R : List CV → Mem → Prop} (hlen : Nat.ble args.length Tryz.f208.ntmps = true) (h : xwp c208 (bodyOf Tryz.f208) (QRet tt.get Tryz.f208.results.toList R) ⟨initF args, [], m, []⟩) : Spec Tryz.prog 208 args m R :=
  Spec.of_body (c := c208) Tryz.func208 (by kernel_rfl) (by kernel_rfl) tt_ok wide (by kernel_rfl) hlen h
noncomputable def c209 : Cfg := ⟨Tryz.prog, tt.get, inL [], atL [], inL []⟩
theorem en209 {args : List CV} {m : Mem} {R : List CV → Mem → Prop} (hlen : Nat.ble args.length Tryz.f209.ntmps = true) (h : xwp c209 (bodyOf Tryz.f209) (QRet tt.get Tryz.f209.results.toList R) ⟨initF args, [], m, []⟩) : Spec Tryz.prog 209 args m R :=
  Spec.of_body (c := c209) Tryz.func209 (by kernel_rfl) (by kernel_rfl) tt_ok wide (by kernel_rfl) hlen h
noncomputable def c210 : Cfg := ⟨Tryz.prog, tt.get, inL [], atL [(4, ⟨.op 0 .all (.op 1 .all (.op 2 .all (.op 3 .all (.op 4 .all (.op 5 .all (.op 6 .all (.op 7 .all (.op 8 .all (.op 9 .all (.op 10 .all (.op 11 .all (.op 12 .all (.op 13 .all (.op 14 .none (.op 15 .all (.op 16 .all (.nil))))))))))))))))), [0, 0, 3, 7, 15, 15, 15, 111, 239, 15, 15, 1039, 3599, 7695, 16383, 32767, 65535]⟩),
  (6, ⟨.op 0 .all (.op 1 .all (.op 2 .all (.op 3 .all (.op 4 .all (.op 5 .all (.op 6 .all (.op 7 .all (.op 8 .all (.op 9 .all (.op 10 .all (.op 11 .all (.op 12 .all (.op 13 .all (.op 14 .all (.op 15 .none (.op 16 .all (.op 17 .none (.nil)))))))))))))))))), [0, 0, 0, 0, 8, 0, 0, 64, 224, 480, 0, 0, 3072, 7168, 16355, 32739, 65535, 131071]⟩)], inL []⟩
noncomputable def c212 : Cfg := ⟨Tryz.prog, tt.get, inL [], atL [(10, ⟨.op 0 .all (.op 1 .all (.op 2 .all (.op 3 .all (.op 4 .all (.op 5 .all (.op 6 .all (.op 7 .all (.op 8 .all (.op 9 .all (.op 10 .all (.op 11 .all (.op 12 .all (.op 13 .all (.op 14 .all (.op 15 .all (.op 16 .all (.op 17 .none (.op 18 .all (.op 19 .none (.nil)))))))))))))))))))), [0, 0, 0, 0, 0, 24, 0, 0, 0, 384, 960, 1984, 0, 0, 12288, 28672, 65475, 131011, 262143, 524287]⟩)], inL []⟩
noncomputable def c213 : Cfg := ⟨Tryz.prog, tt.get, inL [], atL [], inL []⟩
noncomputable def c224 : Cfg := ⟨Tryz.prog, tt.get, inL [], atL [(1, ⟨.op 0 .all (.op 1 .all (.op 2 .all (.op 3 .all (.op 5 .all (.op 6 .all (.op 7 .all (.op 8 .all (.op 4 .all (.op 9 .none (.op 10 .none (.op 11 .none (.op 12 .all (.op 13 .all (.nil)))))))))))))), [0, 1, 0, 4, 15, 0, 32, 0, 128, 511, 1023, 2047, 4095, 8191]⟩)], inL []⟩
theorem en224 {args : List CV} {m : Mem} {R : List CV → Mem → Prop} (hlen : Nat.ble args.length Tryz.f224.ntmps = true) (h : xwp c224 (bodyOf Tryz.f224) (QRet tt.get Tryz.f224.results.toList R) ⟨initF args, [], m, []⟩) : Spec Tryz.prog 224 args m R :=
  Spec.of_body (c := c224) Tryz.func224 (by kernel_rfl) (by kernel_rfl) tt_ok wide (by kernel_rfl) hlen h
noncomputable def c232 : Cfg := ⟨Tryz.prog, tt.get, inL [], atL [(10, ⟨.op 0 .all (.op 1 .all (.op 2 .all (.op 3 .all (.op 4 .all (.op 5 .all (.op 6 .all (.op 7 .all (.op 8 .all (.op 9 .all (.op 10 .all (.op 11 .all (.op 12 .all (.op 13 .all (.op 14 .all (.op 15 .all (.op 16 .all (.op 17 .none (.op 18 .all (.op 19 .none (.nil)))))))))))))))))))), [0, 0, 0, 0, 0, 24, 0, 0, 0, 384, 960, 1984, 0, 0, 12288, 28672, 65475, 131011, 262143, 524287]⟩)], inL []⟩
noncomputable def c233 : Cfg := ⟨Tryz.prog, tt.get, inL [], atL [], inL []⟩
end Go.E.YtcionccfgcnhoaaGreatDoor
namespace Go.E
abbrev u64 (n : Int) : CV := .v (.int .u64 n)
abbrev i64 (n : Int) : CV := .v (.int .i64 n)
abbrev boolV (b : Bool) : CV := .v (.bool b)
theorem xretk {P : Program} {f : FuncId} {args : List CV} {m : Mem} {r : List CV} {x : List Nat} {K : List CV → Mem → Prop} (h : Ret P f args m r) (k : K r m) : XCall P f args m fun r' m' => Kept x m m' ∧ K r' m' :=
  xret h ⟨fun _ _ => rfl, k⟩
theorem wu {n : Int} (h0 : 0 ≤ n) (h1 : n < 18446744073709551616) : IntKind.u64.wrap n = n := by rw [IntKind.wrap_u64, Int.emod_eq_of_lt h0 h1]
theorem wi {n : Int} (h0 : -9223372036854775808 ≤ n) (h1 : n < 9223372036854775808) : IntKind.i64.wrap n = n := by rw [IntKind.wrap_i64]; omega
theorem iadd {i : Nat} (h : i < 1000000000000) : IntKind.i64.wrap ((i : Int) + 1) = ((i + 1 : Nat) : Int) := by rw [wi (by omega) (by omega)]; omega
end Go.E
namespace Go.E
section
variable {P : Program} {T : Tab}
def CV.cs : CV → List Value
  | .v x => [x]
  | .a c => LB.cells c
theorem CV.cs_val {x : CV} (h : x.ok) : x.val.cells = x.cs.toArray := by
  cases x with
  | v z => exact cells_one h
  | a c => rfl
theorem TOk.slice {t e : TypeId} {i : TI} (h : TOk P t i) (hk : i.k = .slice e) : P.underlying t = some (.slice e) := by
  obtain ⟨d, h1, h2⟩ := h.desc
  rw [hk] at h2
  cases d <;> simp [TK.of] at h2
  rw [h1, h2]
def fl (args : List CV) : List Value := (args.map CV.cs).flatten
theorem fill_dense {size : Nat} : ∀ (args : List CV) (k : Nat) (cells : Array Value), (∀ x ∈ args, x.ok) → (∀ x ∈ args, x.cs.length = size) → (k + args.length) * size ≤ cells.size →
    Instr.fill (fun i => some (i * size, size)) cells ((List.range' k args.length).zip (args.map CV.val)) = some (cells.toList.take (k * size) ++ (fl args ++ cells.toList.drop ((k + args.length) * size))).toArray
  | [], k, cells, _, _, _ => by simp [Instr.fill, fl]
  | x :: r, k, cells, h1, h2, h3 => by
    have hx := h1 x (by simp)
    have hl := h2 x (by simp)
    have hcv := CV.cs_val hx
    simp only [List.length_cons] at h3
    have h3' : k * size + size ≤ cells.size := by
      have : (k + (r.length + 1)) * size = k * size + size + r.length * size := by simp [Nat.add_mul]; omega
      omega
    simp only [List.length_cons, List.range'_succ, List.map_cons, List.zip_cons_cons]
    rw [fill_step (off := k * size) (size := size) rfl (by rw [hcv]; simpa using hl) (by rw [hcv]; simp [hl]; exact h3')]
    rw [laid_cells _ _ hcv _ _ (by rw [hl]; exact h3')]
    rw [fill_dense r (k + 1) _ (fun y hy => h1 y (by simp [hy])) (fun y hy => h2 y (by simp [hy])) (by simp [hl]; simp [Nat.add_mul] at h3 ⊢; omega)]
    congr 2
    have e1 : (k + 1) * size = k * size + size := by rw [Nat.add_mul, Nat.one_mul]
    have e2 : k + 1 + r.length = k + (r.length + 1) := by omega
    have ht : (List.take (k * size) cells.toList).length = k * size := by simp; omega
    simp only [fl, List.map_cons, List.flatten_cons, e1, e2]
    rw [List.take_append, ht, List.take_append, hl]
    rw [List.drop_append, ht, List.drop_append, hl]
    have d1 : List.take (k * size + size) (List.take (k * size) cells.toList) = List.take (k * size) cells.toList := by rw [List.take_take]; congr 1; omega
    have d2 : List.drop ((k + (r.length + 1)) * size) (List.take (k * size) cells.toList) = [] := by
      apply List.drop_eq_nil_of_le; rw [ht]; simp [Nat.add_mul]
    have d3 : k * size + size - k * size = size := by omega
    have d4 : List.take size x.cs = x.cs := by rw [← hl]; exact List.take_length
    have hge : k * size + size ≤ (k + (r.length + 1)) * size := by simp [Nat.add_mul]
    have d5 : List.drop ((k + (r.length + 1)) * size - k * size) x.cs = [] := by apply List.drop_eq_nil_of_le; rw [hl]; omega
    rw [d1, d2, d3, d4, d5, Nat.sub_self, List.take_zero, List.append_nil, List.nil_append, List.nil_append, List.drop_drop]
    have d6 : k * size + size + ((k + (r.length + 1)) * size - k * size - size) = (k + (r.length + 1)) * size := by omega
    rw [d6]
    simp [List.append_assoc]
theorem buildSlice_spec (hT : TabOk P T) {t e : TypeId} {ti ei : TI} (ht : T t = some ti) (hk : ti.k = .slice e) (he : T e = some ei) {n : Nat} {ix : List Nat} (hix : ix = List.range' 0 n) {args : List CV} (hn : args.length = n)
    (hsz : ∀ x ∈ args, x.cs.length = ei.size) (hb : n * ei.size ≤ 16777216) (hp : 0 < n * ei.size) {m : Mem} :
    PrimSpec P (.buildSlice t n ix) args m fun r m' => ∃ b, m b = none ∧ r = [.v (.slice (some ⟨b, 0, none⟩) n n)] ∧ m' = m.set b (.cells (fl args).toArray e) := by
  intro hok ty W hW
  obtain ⟨j, hj, hjs, _, z, hz, hzc⟩ := (hT e ei he).inf
  refine ⟨[.v (.slice (some ⟨W.heap.size, 0, none⟩) n n)], m.set W.heap.size (.cells (fl args).toArray e), W.alloc (.cells (fl args).toArray e), ?_, ?_, ⟨W.heap.size, hW.none (Nat.le_refl _), rfl, rfl⟩, (After.refl hW).alloc _⟩
  · subst hix
    simp only [Prim.run, Prim.out, Prim.tup, cond_false, resVal]
    subst hn
    refine run_buildSlice W t e _ _ _ j z ((hT t ti ht).slice hk) hj hz (by rw [hjs]; omega) (by rw [hjs]; omega) ?_
    rw [hjs]
    have := fill_dense args 0 ((Array.range (args.length * ei.size)).map (z.cells[· % z.cells.size]!)) hok hsz (by simp)
    simp only [CV.val]
    rw [this]
    congr 2
    simp
  · intro x hx
    simp at hx; subst hx; rfl
end
end Go.E
namespace Go.E.YtcionccfgcnhoaaGreatDoor
open Go.Proofs
set_option maxRecDepth 100000
abbrev M62 : Int := 4611686018427387904
def U (n : Int) : Prop := 0 ≤ n ∧ n < 18446744073709551616
def I (n : Int) : Prop := -9223372036854775808 ≤ n ∧ n < 9223372036854775808
def more (a b : Int) : Int := min (min a M62 + min b M62) M62
def V8 (l : List Int) : Prop := l.length = 8 ∧ ∀ i, U (l.getD i 0)
def zipTo (f : Int → Int → Int) : Nat → List Int → List Int → List Int
  | n + 1, a :: u, b :: v => f a b :: zipTo f n u v
  | _, u, _ => u
theorem zipTo_zero (f : Int → Int → Int) (u v : List Int) : zipTo f 0 u v = u := by cases u <;> rfl
theorem zipTo_set (f : Int → Int → Int) : ∀ (i : Nat) (u v : List Int), i < u.length → u.length = v.length → (zipTo f i u v).set i (f ((zipTo f i u v).getD i 0) (v.getD i 0)) = zipTo f (i + 1) u v
  | 0, a :: u, b :: v, _, _ => by cases u <;> cases v <;> simp [zipTo]
  | i + 1, a :: u, b :: v, h, h' => by simpa [zipTo] using zipTo_set f i u v (by simpa using h) (by simpa using h')
  | _, [], _, h, _ => by simp at h
  | _, _ :: _, [], _, h => by simp at h
theorem zipTo_all (f : Int → Int → Int) : ∀ (i : Nat) (u v : List Int), u.length ≤ i → u.length = v.length → zipTo f i u v = List.zipWith f u v
  | 0, [], [], _, _ => rfl
  | i + 1, [], [], _, _ => rfl
  | i + 1, a :: u, b :: v, h, h' => by simp [zipTo, zipTo_all f i u v (by simpa using h) (by simpa using h')]
  | 0, _ :: _, _, h, _ => by simp at h
  | _, [], _ :: _, _, h => by simp at h
  | _ + 1, _ :: _, [], _, h => by simp at h
theorem getD_of_all {p : Int → Prop} : ∀ {l : List Int}, (∀ x ∈ l, p x) → p 0 → ∀ i, p (l.getD i 0)
  | [], _, h0, i => by simpa using h0
  | a :: l, h, h0, 0 => by simpa using h a (by simp)
  | a :: l, h, h0, i + 1 => by simpa using getD_of_all (fun x hx => h x (by simp [hx])) h0 i
theorem V8.of {l : List Int} (h : l.length = 8) (h2 : l.all (fun x => decide (0 ≤ x) && decide (x < 18446744073709551616)) = true) : V8 l := by
  refine ⟨h, getD_of_all (p := U) (fun x hx => ?_) ⟨by decide, by decide⟩⟩
  have := List.all_eq_true.1 h2 x hx
  simpa [U] using this
theorem V8.zip {u u' : List Int} (h : V8 u) (h' : V8 u') : V8 (List.zipWith max u u') := by
  obtain ⟨h1, h2⟩ := h
  obtain ⟨h1', h2'⟩ := h'
  refine ⟨by simp [h1, h1'], fun i => ?_⟩
  by_cases hi : i < 8
  · have e : (List.zipWith max u u').getD i 0 = max (u.getD i 0) (u'.getD i 0) := by
      simp [List.getD_eq_getElem?_getD, List.getElem?_zipWith, h1, h1', hi]
    rw [e]
    obtain ⟨_, _⟩ := h2 i
    obtain ⟨_, _⟩ := h2' i
    exact ⟨by omega, by omega⟩
  · have e : (List.zipWith max u u').getD i 0 = 0 := by
      simp [List.getD_eq_getElem?_getD, List.getElem?_zipWith, h1, h1', hi]
    rw [e]; exact ⟨by decide, by decide⟩
abbrev vecV (a : List Int) : CV := .a [.ints .u64 8 a]
abbrev dotV (n k : Int) : CV := .a [.one (.int .i64 n), .one (.int .u64 k)]
def isN (n : Int) : Bool := decide (1 ≤ n) && decide (n ≤ 8)
def rightN (n k : Int) : Bool := isN n && decide (0 < k)
def getN (v : List Int) (n : Int) : Int := if isN n = true then v.getD (n - 1).toNat 0 else 0
theorem isN_iff {n : Int} : isN n = true ↔ 1 ≤ n ∧ n ≤ 8 := by simp [isN]
theorem isNode_spec {m : Mem} {n : Int} : Ret Tryz.prog 190 [i64 n] m [boolV (isN n)] := by
  refine en190 rfl ?_
  conv => whnf
  refine ⟨fun h => ?_, fun h => ?_⟩
  · conv => whnf
    refine ⟨?_, rfl⟩
    simp only [isN, h, Bool.true_and]
  · conv => whnf
    refine ⟨?_, rfl⟩
    simp only [isN, h, Bool.false_and]
theorem right3_spec {m : Mem} {n k : Int} : Ret Tryz.prog 163 [dotV n k] m [boolV (rightN n k)] := by
  refine en163 rfl ?_
  conv => whnf
  first | refine xretk (isNode_spec) ?_ | refine xret (isNode_spec) ?_
  conv => whnf
  refine ⟨fun h => ?_, fun h => ?_⟩
  · conv => whnf
    refine ⟨?_, rfl⟩
    simp only [rightN, h, Bool.true_and]
  · conv => whnf
    refine ⟨?_, rfl⟩
    simp only [rightN, h, Bool.false_and]
theorem get_spec {m : Mem} {v : List Int} {n : Int} (hn : I n) : Ret Tryz.prog 164 [vecV v, i64 n] m [u64 (getN v n)] := by
  obtain ⟨_, _⟩ := hn
  refine en164 rfl ?_
  conv => whnf
  first | refine xretk (isNode_spec) ?_ | refine xret (isNode_spec) ?_
  conv => whnf
  refine ⟨fun h => ?_, fun h => ?_⟩
  · have h' : isN n = false := by simpa using h
    conv => whnf
    refine ⟨?_, rfl⟩
    rw [getN, if_neg (by rw [h']; simp)]
  · have h' : isN n = true := by simpa using h
    have hb := isN_iff.1 h'
    have hw : IntKind.i64.wrap (n - 1) = n - 1 := wi (by omega) (by omega)
    conv => whnf
    repeat (refine And.intro (by first | omega | (simp only [times, hw]; omega)) ?_; conv => whnf)
    refine ⟨?_, rfl⟩
    rw [getN, if_pos h']
    simp only [times, hw]
theorem has_spec {m : Mem} {v : List Int} {n k : Int} (hn : I n) : Ret Tryz.prog 120 [vecV v, dotV n k] m [boolV (rightN n k && decide (k ≤ getN v n))] := by
  refine en120 rfl ?_
  conv => whnf
  first | refine xretk (right3_spec) ?_ | refine xret (right3_spec) ?_
  conv => whnf
  refine ⟨fun h => ?_, fun h => ?_⟩
  · conv => whnf
    first | refine xretk (get_spec hn) ?_ | refine xret (get_spec hn) ?_
    conv => whnf
    refine ⟨?_, rfl⟩
    simp only [h, Bool.true_and]
  · conv => whnf
    refine ⟨?_, rfl⟩
    simp only [h, Bool.false_and]
end Go.E.YtcionccfgcnhoaaGreatDoor
namespace Go.E
section
variable {P : Program} {T : Tab}
def Lies (m : Mem) (size : Nat) (v : Value) (l : List Value) : Prop :=
  (∃ c, v = .slice none 0 c ∧ l = []) ∨ ∃ b o c n arr t fr, v = .slice (some ⟨b, o, none⟩) n c ∧ m b = some (.cells arr t fr) ∧ l.length = n * size ∧ n ≤ c ∧ (∀ j u, l[j]? = some u → arr[o + j]? = some u) ∧ (∀ u ∈ l, u.oneCell' = true)
def Own (m : Mem) (e : TypeId) (size : Nat) (v : Value) (l : List Value) : Prop :=
  (v = .slice none 0 0 ∧ l = []) ∨ ∃ b o c n arr, v = .slice (some ⟨b, o, none⟩) n c ∧ m b = some (.cells arr e (0, 0)) ∧ l.length = n * size ∧ n ≤ c ∧ o + c * size ≤ arr.size ∧ (∀ j u, l[j]? = some u → arr[o + j]? = some u) ∧ (∀ u ∈ l, u.oneCell' = true)
theorem Own.lies {m : Mem} {e : TypeId} {size : Nat} {v : Value} {l : List Value} (h : Own m e size v l) : Lies m size v l := by
  rcases h with ⟨rfl, rfl⟩ | ⟨b, o, c, n, arr, rfl, h1, h2, h5, _, h3, h4⟩
  · exact .inl ⟨0, rfl, rfl⟩
  · exact .inr ⟨b, o, c, n, arr, e, (0, 0), rfl, h1, h2, h5, h3, h4⟩
theorem Lies.sub {m m' : Mem} {size : Nat} {v : Value} {l : List Value} (h : Lies m size v l) (hs : Sub m m') : Lies m' size v l := by
  rcases h with h | ⟨b, o, c, n, arr, t, fr, rfl, h1, h2⟩
  · exact .inl h
  · exact .inr ⟨b, o, c, n, arr, t, fr, rfl, hs _ _ h1, h2⟩
theorem Own.sub {m m' : Mem} {e : TypeId} {size : Nat} {v : Value} {l : List Value} (h : Own m e size v l) (hs : Sub m m') : Own m' e size v l := by
  rcases h with h | ⟨b, o, c, n, arr, rfl, h1, h2⟩
  · exact .inl h
  · exact .inr ⟨b, o, c, n, arr, rfl, hs _ _ h1, h2⟩
def blkV : Value → Option Nat
  | .slice (some a) _ _ => some a.block
  | _ => none
theorem Lies.keep {m m' : Mem} {size : Nat} {v : Value} {l : List Value} (h : Lies m size v l) (hs : ∀ b, blkV v = some b → m' b = m b) : Lies m' size v l := by
  rcases h with h | ⟨b, o, c, n, arr, t, fr, rfl, h1, h2⟩
  · exact .inl h
  · exact .inr ⟨b, o, c, n, arr, t, fr, rfl, by rw [hs b rfl]; exact h1, h2⟩
theorem Own.keep {m m' : Mem} {e : TypeId} {size : Nat} {v : Value} {l : List Value} (h : Own m e size v l) (hs : ∀ b, blkV v = some b → m' b = m b) : Own m' e size v l := by
  rcases h with h | ⟨b, o, c, n, arr, rfl, h1, h2⟩
  · exact .inl h
  · exact .inr ⟨b, o, c, n, arr, rfl, by rw [hs b rfl]; exact h1, h2⟩
def lenV : Value → Nat
  | .slice _ n _ => n
  | .string s => s.size
  | _ => 0
theorem Lies.one {m : Mem} {size : Nat} {v : Value} {l : List Value} (h : Lies m size v l) : v.oneCell' = true := by
  rcases h with ⟨c, rfl, _⟩ | ⟨b, o, c, n, arr, t, fr, rfl, _⟩ <;> rfl
theorem Lies.len {m : Mem} {size : Nat} {v : Value} {l : List Value} (h : Lies m size v l) : l.length = lenV v * size := by
  rcases h with ⟨c, rfl, rfl⟩ | ⟨b, o, c, n, arr, t, fr, rfl, _, h1, _⟩
  · simp [lenV]
  · exact h1
def Gives (m : Mem) (size : Nat) (k : TK) (x : Value) (news : List Value) : Prop :=
  (∃ e, k = .slice e ∧ (Lies m size x news ∨ (news = [] ∧ ∃ a, x = .slice (some a) 0 0))) ∨ (k = .str ∧ size = 1 ∧ ∃ s, x = .string s ∧ news = byteCells s)
theorem Gives.src (hT : TabOk P T) {tx : TypeId} {xi : TI} (hx : T tx = some xi) {m : Mem} {size : Nat} {x : Value} {news : List Value} (h : Gives m size xi.k x news) {W : World} (hW : Over m W) : Src P size tx x (lenV x) news W := by
  obtain ⟨d, h1, h2⟩ := (hT tx xi hx).desc
  rcases h with ⟨e, hk, hl⟩ | ⟨hk, rfl, s, rfl, rfl⟩
  · rw [hk] at h2
    have hd := slice_desc h2
    subst hd
    rcases hl with (⟨c, rfl, rfl⟩ | ⟨b, o, c, n, arr, t, fr, rfl, g1, g2, _, g3, g4⟩) | ⟨rfl, a, rfl⟩
    rotate_left 2
    · exact Src.ofSlice W h1 a 0 0 [] (by simp) (by simp) (by simp)
    · exact Src.ofNil W h1 c
    · refine Src.ofSlice W h1 _ n c news g2 (fun j u hu => ?_) g4
      rw [add_none, cell_at (hW _ _ g1)]
      exact g3 j u hu
  · rw [hk] at h2
    have hd := str_desc h2
    subst hd
    exact Src.ofString W h1 s
theorem growBy_le (k : Nat) : ∀ (r c : Nat), c ≤ k → Builtin.growBy k r c ≤ 2 * k + 768
  | 0, c, h => by simp only [Builtin.growBy]; omega
  | r + 1, c, h => by
    simp only [Builtin.growBy]
    split
    · omega
    · by_cases h2 : c + (c + 768) / 4 ≤ k
      · exact growBy_le k r _ h2
      · cases r with
        | zero => simp only [Builtin.growBy]; omega
        | succ r => simp only [Builtin.growBy]; rw [if_pos (by omega)]; omega
theorem nextcap_le {need cap : Nat} (h : cap < need) : Builtin.nextslicecap need cap ≤ 2 * need + 768 := by
  unfold Builtin.nextslicecap
  split
  · omega
  · split
    · omega
    · exact growBy_le need 4 cap (by omega)
theorem zeroCells_size (z : Array Value) (n : Nat) : (Builtin.zeroCells z n).size = n * z.size := by simp [Builtin.zeroCells]
structure Apd (m : Mem) (e : TypeId) (size : Nat) (v : Value) (l : List Value) (k : Nat) (v' : Value) (m' : Mem) : Prop where
  own : Own m' e size v' l
  keep : ∀ b o, m b = some o → blkV v ≠ some b → m' b = some o
  new : ∀ b, blkV v' = some b → blkV v = some b ∨ m b = none
  len : lenV v' = lenV v + k
theorem append_spec (hT : TabOk P T) {t e tx : TypeId} {ti ei xi : TI} (ht : T t = some ti) (hk : ti.k = .slice e) (he : T e = some ei) (hx : T tx = some xi) (hz : (LB.cells ei.zero).length = ei.size) {v x : Value} {l news : List Value} {m : Mem}
    (hv : Own m e ei.size v l) (hg : Gives m ei.size xi.k x news) (hbig : (2 * (lenV v + lenV x) + 768) * ei.bytes ≤ 281474976710656) (hb1 : lenV v + lenV x ≤ 9223372036854775807) :
    PrimSpec P (.builtin .append [t, tx]) [.v v, .v x] m fun r m' => ∃ v', r = [.v v'] ∧ Apd m e ei.size v (l ++ news) (lenV x) v' m' := by
  intro _ ty W hW
  obtain ⟨j, hj, hjs, hjb, z, hjz, hzc⟩ := (hT e ei he).inf
  have hsl := (hT t ti ht).slice hk
  have src := hg.src hT hx hW
  have hzsz : z.cells.size = ei.size := by rw [hzc]; simpa using hz
  have hlies := hv.lies
  have grow : ∀ (base : Option Addr) (n c : Nat), v = .slice base n c → c < n + lenV x → (Builtin.firstCells ei.size n (.slice base n c)).run P W.drew = .ok l.toArray W.drew → l.length = n * ei.size → (∀ u ∈ l, u.oneCell' = true) →
      ∃ r m' W', (Prim.run (.builtin .append [t, tx]) ty ([CV.v v, CV.v x].map CV.val)).run P W = .ok (resVal r) W' ∧ (∀ x ∈ r, x.ok) ∧
        (∃ v', r = [.v v'] ∧ Apd m e ei.size v (l ++ news) (lenV x) v' m') ∧ After m W m' W' := by
    rintro base n c rfl hlt hold hln hone
    have hbig' : (2 * (n + lenV x) + 768) * ei.bytes ≤ 281474976710656 := hbig
    have hb1' : n + lenV x ≤ 9223372036854775807 := hb1
    have hrun := run_append_grow_src W t tx ty e j z hsl hj hjz base n c l (by rw [hjs]; exact hold) x (lenV x) news (by rw [hjs]; exact src) hlt (by omega)
      (by rw [hjb]; exact Nat.le_trans (Nat.mul_le_mul_right _ (nextcap_le hlt)) hbig')
    have hcap := grownCap_ge W (n + lenV x) c e
    generalize hC : grownCap W (n + lenV x) c e = C at hrun hcap
    refine ⟨[.v (.slice (some ⟨W.heap.size, 0, none⟩) (n + lenV x) C)], m.set W.heap.size (.cells ((l ++ news).toArray ++ Builtin.zeroCells z.cells (C - (n + lenV x))) e), _, ?_, ?_, ⟨_, rfl, ?_, ?_, ?_, rfl⟩, (After.refl hW).drew.alloc _⟩
    · exact hrun
    · intro y hy; simp at hy; subst hy; rfl
    · refine .inr ⟨W.heap.size, 0, C, n + lenV x, _, rfl, Mem.set_same .., ?_, hcap, ?_, ?_, ?_⟩
      · rw [List.length_append, hln, src.newsLen, Nat.add_mul]
      · have e1 : (C - (n + lenV x)) * ei.size + (n + lenV x) * ei.size = C * ei.size := by rw [← Nat.add_mul]; congr 1; omega
        have e2 : (l ++ news).length = (n + lenV x) * ei.size := by rw [List.length_append, hln, src.newsLen, Nat.add_mul]
        simp only [Array.size_append, List.size_toArray, zeroCells_size, hzsz, e2]
        omega
      · intro i u hu
        rw [Nat.zero_add]
        rw [Array.getElem?_append_left (by simpa using (List.getElem?_eq_some_iff.1 hu).1)]
        simpa using hu
      · intro u hu
        rcases List.mem_append.1 hu with h | h
        · exact hone u h
        · exact src.one u h
    · intro b o hb _
      exact Mem.sub_set _ (hW.none (Nat.le_refl _)) b o hb
    · intro b hb
      simp only [blkV, Option.some.injEq] at hb
      subst hb
      exact .inr (hW.none (Nat.le_refl _))
  have len : ∀ w', (Builtin.lenOf x).run P w' = .ok (lenV x) w' := src.len
  rcases hv with ⟨rfl, rfl⟩ | ⟨b, o, c, n, arr, rfl, g1, g2, g3, g4, g5, g6⟩
  · by_cases h0 : lenV x = 0
    · -- nothing onto nothing
      have hn0 : news = [] := by
        have := src.newsLen; rw [h0, Nat.zero_mul] at this; exact List.length_eq_zero_iff.1 this
      subst hn0
      refine ⟨[.v (.slice none 0 0)], m, W, ?_, ?_, ⟨_, rfl, .inl ⟨rfl, rfl⟩, fun b o h _ => h, fun b hb => by simp [blkV] at hb, by rw [h0]; rfl⟩, After.refl hW⟩
      · have hc : (Builtin.firstCells ei.size 0 x).run P W = .ok #[] W := by have := src.cells; rw [h0] at this; exact this
        have len0 : ∀ w', (Builtin.lenOf x).run P w' = .ok 0 w' := by rw [← h0]; exact len
        rcases src.kind with ⟨e', hk'⟩ | hk' <;>
          simp [Prim.run, Prim.out, Prim.tup, cond_false, CV.val, resVal, Builtin.append_, run_underlying hsl, run_underlying hk', sizeOf, typeInfo, hj, len0, hjs, hc]
      · intro y hy; simp at hy; subst hy; rfl
    · exact grow none 0 0 rfl (by omega) (by simp [Builtin.firstCells]) (by simp) (by simp)
  · by_cases hroom : n + lenV x ≤ c
    · have hW1 := hW _ _ g1
      have hnl := src.newsLen
      have hle : o + n * ei.size + news.length ≤ arr.size := by
        have : n * ei.size + lenV x * ei.size ≤ c * ei.size := by rw [← Nat.add_mul]; exact Nat.mul_le_mul_right _ hroom
        omega
      have hst := run_storeCells_gen (P := P) b (o + n * ei.size) e (0, 0) news 0 arr W hW1 (by simpa using hle) src.one (by intro j _ h; omega)
      simp only [Nat.add_zero] at hst
      generalize hA : (arr.toList.take (o + n * ei.size) ++ (news ++ arr.toList.drop (o + n * ei.size + news.length))).toArray = A at hst
      have hAs : A.size = arr.size := by rw [← hA]; simp; omega
      have hAat : ∀ i, i < o + n * ei.size → A[i]? = arr[i]? := by
        intro i hi
        rw [← hA]
        simp only [List.getElem?_toArray]
        rw [List.getElem?_append_left (by simp; omega), List.getElem?_take, if_pos hi]
        simp
      have hAnew : ∀ i u, news[i]? = some u → A[o + n * ei.size + i]? = some u := by
        intro i u hu
        have hi := (List.getElem?_eq_some_iff.1 hu).1
        rw [← hA]
        simp only [List.getElem?_toArray]
        have hl1 : (arr.toList.take (o + n * ei.size)).length = o + n * ei.size := by simp; omega
        rw [List.getElem?_append_right (by omega), hl1, Nat.add_sub_cancel_left, List.getElem?_append_left hi]
        exact hu
      refine ⟨[.v (.slice (some ⟨b, o, none⟩) (n + lenV x) c)], m.set b (.cells A e (0, 0)), W.setRow b A, ?_, ?_, ⟨_, rfl, .inr ⟨b, o, c, n + lenV x, A, rfl, Mem.set_same .., ?_, hroom, by rw [hAs]; exact g4, ?_, ?_⟩, ?_, fun b' hb' => .inl hb', rfl⟩, (After.refl hW).setRow g1 A⟩
      · have hc := src.cells
        rcases src.kind with ⟨e', hk'⟩ | hk' <;>
          simp [Prim.run, Prim.out, Prim.tup, cond_false, CV.val, resVal, Builtin.append_, run_underlying hsl, run_underlying hk', sizeOf, typeInfo, hj, len, hjs, hroom, hc, add_none, hst]
      · intro y hy; simp at hy; subst hy; rfl
      · rw [List.length_append, g2, hnl, Nat.add_mul]
      · intro i u hu
        by_cases hi : i < l.length
        · rw [List.getElem?_append_left hi] at hu
          rw [hAat _ (by omega)]
          exact g5 i u hu
        · rw [List.getElem?_append_right (by omega)] at hu
          have := hAnew _ _ hu
          rw [show o + i = o + n * ei.size + (i - l.length) by omega]
          exact this
      · intro u hu
        rcases List.mem_append.1 hu with h | h
        · exact g6 u h
        · exact src.one u h
      · intro b' o' hb' hne
        rw [Mem.set_ne _ _ (fun e => hne (by rw [e]; rfl))]
        exact hb'
    · refine grow (some ⟨b, o, none⟩) n c rfl (by omega) ?_ g2 g6
      refine run_firstCells_some W.drew ei.size n _ n c l g2 (fun i u hu => ?_)
      rw [add_none]
      have hW1 : W.drew.heap[b]? = some (.cells arr e (0, 0)) := hW _ _ g1
      rw [cell_at hW1]
      exact g5 i u hu
end
end Go.E
