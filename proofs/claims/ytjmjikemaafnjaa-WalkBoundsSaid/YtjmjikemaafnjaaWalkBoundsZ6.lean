/-
  Cfg, H, ByB, E25, Cat, Ints, Tree, Bits, ShaP, Sha1, Sha2, Sha3, Sha4, Sha5
-/
import Derived.Test.YtjmjikemaafnjaaWalkBoundsZ5
import Derived.Lib.AppendZerosOnto
/-
  : how the functions named here are run: made by a program.
-/
namespace Go.E.Ytjmjikemaafnjaa
open Go.Proofs
set_option maxRecDepth 100000
/- maund maundlaw21.WalkTells -/
noncomputable def c3 : Cfg := ⟨Try.prog, tt.get, inL [], atL [(4, ⟨.op 0 .all (.op 1 .all (.op 2 .all (.op 3 .all (.op 4 .new (.op 5 .none (.nil)))))), [0, 0, 0, 0, 13, 31]⟩),
  (7, ⟨.op 0 .all (.op 1 .all (.op 2 .none (.op 3 .all (.op 4 .all (.op 5 .all (.op 6 .all (.op 7 .all (.op 8 .all (.op 9 .all (.op 10 .all (.op 11 .all (.op 13 .all (.op 12 .none (.op 14 .all (.op 15 .all (.op 16 .all (.op 17 .all (.op 18 .all (.op 20 .all (.op 21 .all (.op 22 .all (.op 23 .all (.op 24 .all (.op 19 .all (.op 25 .all (.op 26 .all (.nil))))))))))))))))))))))))))), [0, 0, 3, 7, 15, 31, 31, 127, 255, 511, 1023, 1023, 4095, 1023, 16383, 32767, 65535, 131071, 131071, 524287, 131071, 1179647, 131071, 4325375, 15859711, 33554431, 67108863]⟩),
  (11, ⟨.op 0 .all (.op 1 .all (.op 2 .all (.op 3 .all (.op 4 .all (.op 5 .none (.op 6 .all (.op 7 .all (.op 8 .all (.op 9 .all (.op 10 .all (.nil))))))))))), [0, 0, 0, 0, 12, 31, 63, 127, 127, 255, 1023]⟩),
  (12, ⟨.op 0 .all (.op 1 .all (.op 2 .all (.op 3 .all (.op 4 .all (.op 5 .none (.op 6 .all (.op 7 .all (.op 8 .all (.op 9 .all (.op 10 .all (.nil))))))))))), [0, 0, 0, 0, 12, 31, 63, 127, 127, 255, 1023]⟩),
  (13, ⟨.op 0 .all (.op 1 .all (.op 3 .all (.op 4 .all (.op 2 .all (.op 5 .none (.op 6 .all (.op 7 .all (.nil)))))))), [0, 0, 3, 0, 0, 31, 63, 127]⟩),
  (19, ⟨.op 0 .all (.op 1 .all (.op 2 .all (.op 3 .all (.op 4 .all (.op 5 .all (.op 6 .all (.op 7 .all (.op 8 .all (.nil))))))))), [0, 0, 3, 7, 0, 0, 48, 112, 255]⟩)], inL []⟩
theorem en3 {args : List CV} {m : Mem} {R : List CV → Mem → Prop} (hlen : Nat.ble args.length Try.f3.ntmps = true) (h : xwp c3 (bodyOf Try.f3) (QRet tt.get Try.f3.results.toList R) ⟨initF args, [], m, []⟩) : Spec Try.prog 3 args m R :=
  Spec.of_body (c := c3) Try.func3 (by kernel_rfl) (by kernel_rfl) tt_ok wide (by kernel_rfl) hlen h
/- maund maundlaw21.WalkEnds -/
noncomputable def c4 : Cfg := ⟨Try.prog, tt.get, inL [], atL [], inL []⟩
theorem en4 {args : List CV} {m : Mem} {R : List CV → Mem → Prop} (hlen : Nat.ble args.length Try.f4.ntmps = true) (h : xwp c4 (bodyOf Try.f4) (QRet tt.get Try.f4.results.toList R) ⟨initF args, [], m, []⟩) : Spec Try.prog 4 args m R :=
  Spec.of_body (c := c4) Try.func4 (by kernel_rfl) (by kernel_rfl) tt_ok wide (by kernel_rfl) hlen h
/- maund maundlaw21.WalkBounds -/
noncomputable def c5 : Cfg := ⟨Try.prog, tt.get, inL [], atL [(6, ⟨.op 0 .all (.op 2 .all (.op 1 .all (.op 3 .none (.op 4 .all (.op 5 .all (.op 6 .none (.op 7 .none (.nil)))))))), [0, 1, 0, 7, 0, 0, 63, 127]⟩),
  (14, ⟨.op 0 .all (.op 1 .all (.op 2 .all (.op 3 .all (.op 4 .all (.op 5 .all (.op 6 .all (.nil))))))), [0, 1, 3, 0, 8, 24, 63]⟩),
  (19, ⟨.op 0 .all (.op 1 .all (.op 2 .all (.op 3 .all (.op 4 .all (.op 5 .all (.op 6 .all (.op 7 .all (.op 8 .all (.op 9 .all (.op 10 .all (.op 11 .all (.op 12 .all (.op 13 .all (.op 14 .all (.nil))))))))))))))), [0, 0, 3, 7, 15, 31, 63, 0, 0, 384, 896, 1920, 3968, 8064, 16383]⟩)], inL [16]⟩
theorem en5 {args : List CV} {m : Mem} {R : List CV → Mem → Prop} (hlen : Nat.ble args.length Try.f5.ntmps = true) (h : xwp c5 (bodyOf Try.f5) (QRet tt.get Try.f5.results.toList R) ⟨initF args, [], m, []⟩) : Spec Try.prog 5 args m R :=
  Spec.of_body (c := c5) Try.func5 (by kernel_rfl) (by kernel_rfl) tt_ok wide (by kernel_rfl) hlen h
/- maund maundlaw21.alive -/
noncomputable def c6 : Cfg := ⟨Try.prog, tt.get, inL [], atL [(5, ⟨.op 0 .all (.op 2 .all (.or (.op 1 .all (.op 3 .all (.op 4 .all (.op 5 .none (.op 6 .all (.op 7 .all (.op 8 .all (.op 9 .all (.op 10 .all (.nil)))))))))) (.op 3 .all (.or (.op 1 .all (.op 4 .all (.op 5 .none (.op 6 .all (.op 7 .all (.op 8 .all (.op 9 .all (.op 10 .all (.nil))))))))) (.op 4 .all (.op 1 .all (.op 5 .none (.op 6 .all (.op 7 .all (.op 8 .all (.op 9 .all (.op 10 .all (.nil))))))))))))), [0, 0, 0, 0, 12, 31, 63, 127, 127, 255, 1023]⟩)], inL [6]⟩
theorem en6 {args : List CV} {m : Mem} {R : List CV → Mem → Prop} (hlen : Nat.ble args.length Try.f6.ntmps = true) (h : xwp c6 (bodyOf Try.f6) (QRet tt.get Try.f6.results.toList R) ⟨initF args, [], m, []⟩) : Spec Try.prog 6 args m R :=
  Spec.of_body (c := c6) Try.func6 (by kernel_rfl) (by kernel_rfl) tt_ok wide (by kernel_rfl) hlen h
/- maund maundlaw21.Raw -/
noncomputable def c7 : Cfg := ⟨Try.prog, tt.get, inL [], atL [], inL []⟩
theorem en7 {args : List CV} {m : Mem} {R : List CV → Mem → Prop} (hlen : Nat.ble args.length Try.f7.ntmps = true) (h : xwp c7 (bodyOf Try.f7) (QRet tt.get Try.f7.results.toList R) ⟨initF args, [], m, []⟩) : Spec Try.prog 7 args m R :=
  Spec.of_body (c := c7) Try.func7 (by kernel_rfl) (by kernel_rfl) tt_ok wide (by kernel_rfl) hlen h
/- maund walk.Diff -/
noncomputable def c8 : Cfg := ⟨Try.prog, tt.get, inL [], atL [], inL []⟩
theorem en8 {args : List CV} {m : Mem} {R : List CV → Mem → Prop} (hlen : Nat.ble args.length Try.f8.ntmps = true) (h : xwp c8 (bodyOf Try.f8) (QRet tt.get Try.f8.results.toList R) ⟨initF args, [], m, []⟩) : Spec Try.prog 8 args m R :=
  Spec.of_body (c := c8) Try.func8 (by kernel_rfl) (by kernel_rfl) tt_ok wide (by kernel_rfl) hlen h
/- maund maundref21.Diff -/
noncomputable def c9 : Cfg := ⟨Try.prog, tt.get, inL [], atL [], inL []⟩
theorem en9 {args : List CV} {m : Mem} {R : List CV → Mem → Prop} (hlen : Nat.ble args.length Try.f9.ntmps = true) (h : xwp c9 (bodyOf Try.f9) (QRet tt.get Try.f9.results.toList R) ⟨initF args, [], m, []⟩) : Spec Try.prog 9 args m R :=
  Spec.of_body (c := c9) Try.func9 (by kernel_rfl) (by kernel_rfl) tt_ok wide (by kernel_rfl) hlen h
/- maund maundlaw21.same -/
noncomputable def c10 : Cfg := ⟨Try.prog, tt.get, inL [], atL [(6, ⟨.op 0 .all (.op 1 .all (.op 2 .all (.op 3 .all (.op 4 .all (.op 5 .all (.op 6 .all (.op 7 .all (.op 8 .all (.nil))))))))), [0, 0, 3, 7, 0, 0, 48, 112, 255]⟩)], inL []⟩
theorem en10 {args : List CV} {m : Mem} {R : List CV → Mem → Prop} (hlen : Nat.ble args.length Try.f10.ntmps = true) (h : xwp c10 (bodyOf Try.f10) (QRet tt.get Try.f10.results.toList R) ⟨initF args, [], m, []⟩) : Spec Try.prog 10 args m R :=
  Spec.of_body (c := c10) Try.func10 (by kernel_rfl) (by kernel_rfl) tt_ok wide (by kernel_rfl) hlen h
/- maund walk.Rounds -/
noncomputable def c11 : Cfg := ⟨Try.prog, tt.get, inL [], atL [], inL []⟩
theorem en11 {args : List CV} {m : Mem} {R : List CV → Mem → Prop} (hlen : Nat.ble args.length Try.f11.ntmps = true) (h : xwp c11 (bodyOf Try.f11) (QRet tt.get Try.f11.results.toList R) ⟨initF args, [], m, []⟩) : Spec Try.prog 11 args m R :=
  Spec.of_body (c := c11) Try.func11 (by kernel_rfl) (by kernel_rfl) tt_ok wide (by kernel_rfl) hlen h
/- maund walk.Same -/
noncomputable def c12 : Cfg := ⟨Try.prog, tt.get, inL [], atL [], inL []⟩
theorem en12 {args : List CV} {m : Mem} {R : List CV → Mem → Prop} (hlen : Nat.ble args.length Try.f12.ntmps = true) (h : xwp c12 (bodyOf Try.f12) (QRet tt.get Try.f12.results.toList R) ⟨initF args, [], m, []⟩) : Spec Try.prog 12 args m R :=
  Spec.of_body (c := c12) Try.func12 (by kernel_rfl) (by kernel_rfl) tt_ok wide (by kernel_rfl) hlen h
/- maund walk.Unlike -/
noncomputable def c13 : Cfg := ⟨Try.prog, tt.get, inL [], atL [(8, ⟨.op 0 .all (.op 1 .all (.op 2 .all (.op 3 .all (.op 4 .all (.op 5 .all (.op 6 .all (.op 7 .all (.nil)))))))), [0, 1, 3, 0, 0, 24, 56, 127]⟩)], inL []⟩
theorem en13 {args : List CV} {m : Mem} {R : List CV → Mem → Prop} (hlen : Nat.ble args.length Try.f13.ntmps = true) (h : xwp c13 (bodyOf Try.f13) (QRet tt.get Try.f13.results.toList R) ⟨initF args, [], m, []⟩) : Spec Try.prog 13 args m R :=
  Spec.of_body (c := c13) Try.func13 (by kernel_rfl) (by kernel_rfl) tt_ok wide (by kernel_rfl) hlen h
/- maund maundref21.Unlike -/
noncomputable def c14 : Cfg := ⟨Try.prog, tt.get, inL [], atL [(13, ⟨.op 0 .all (.op 1 .all (.op 2 .all (.op 3 .all (.op 4 .all (.op 5 .all (.op 6 .all (.op 7 .all (.op 8 .all (.nil))))))))), [0, 0, 3, 7, 0, 0, 48, 112, 255]⟩)], inL []⟩
theorem en14 {args : List CV} {m : Mem} {R : List CV → Mem → Prop} (hlen : Nat.ble args.length Try.f14.ntmps = true) (h : xwp c14 (bodyOf Try.f14) (QRet tt.get Try.f14.results.toList R) ⟨initF args, [], m, []⟩) : Spec Try.prog 14 args m R :=
  Spec.of_body (c := c14) Try.func14 (by kernel_rfl) (by kernel_rfl) tt_ok wide (by kernel_rfl) hlen h
/- maund walk.Digests -/
noncomputable def c15 : Cfg := ⟨Try.prog, tt.get, inL [], atL [], inL []⟩
theorem en15 {args : List CV} {m : Mem} {R : List CV → Mem → Prop} (hlen : Nat.ble args.length Try.f15.ntmps = true) (h : xwp c15 (bodyOf Try.f15) (QRet tt.get Try.f15.results.toList R) ⟨initF args, [], m, []⟩) : Spec Try.prog 15 args m R :=
  Spec.of_body (c := c15) Try.func15 (by kernel_rfl) (by kernel_rfl) tt_ok wide (by kernel_rfl) hlen h
/- maund maundref21.Digests -/
noncomputable def c16 : Cfg := ⟨Try.prog, tt.get, inL [], atL [], inL []⟩
theorem en16 {args : List CV} {m : Mem} {R : List CV → Mem → Prop} (hlen : Nat.ble args.length Try.f16.ntmps = true) (h : xwp c16 (bodyOf Try.f16) (QRet tt.get Try.f16.results.toList R) ⟨initF args, [], m, []⟩) : Spec Try.prog 16 args m R :=
  Spec.of_body (c := c16) Try.func16 (by kernel_rfl) (by kernel_rfl) tt_ok wide (by kernel_rfl) hlen h
/- maund walk.Leaves -/
noncomputable def c17 : Cfg := ⟨Try.prog, tt.get, inL [], atL [], inL []⟩
theorem en17 {args : List CV} {m : Mem} {R : List CV → Mem → Prop} (hlen : Nat.ble args.length Try.f17.ntmps = true) (h : xwp c17 (bodyOf Try.f17) (QRet tt.get Try.f17.results.toList R) ⟨initF args, [], m, []⟩) : Spec Try.prog 17 args m R :=
  Spec.of_body (c := c17) Try.func17 (by kernel_rfl) (by kernel_rfl) tt_ok wide (by kernel_rfl) hlen h
/- maund tree.Of -/
noncomputable def c18 : Cfg := ⟨Try.prog, tt.get, inL [], atL [], inL []⟩
theorem en18 {args : List CV} {m : Mem} {R : List CV → Mem → Prop} (hlen : Nat.ble args.length Try.f18.ntmps = true) (h : xwp c18 (bodyOf Try.f18) (QRet tt.get Try.f18.results.toList R) ⟨initF args, [], m, []⟩) : Spec Try.prog 18 args m R :=
  Spec.of_body (c := c18) Try.func18 (by kernel_rfl) (by kernel_rfl) tt_ok wide (by kernel_rfl) hlen h
/- maund tree.With -/
noncomputable def c19 : Cfg := ⟨Try.prog, tt.get, inL [], atL [(5, ⟨.op 0 .all (.op 1 .all (.op 2 .all (.op 3 .none (.op 4 .none (.nil))))), [0, 0, 2, 7, 15]⟩)], inL []⟩
theorem en19 {args : List CV} {m : Mem} {R : List CV → Mem → Prop} (hlen : Nat.ble args.length Try.f19.ntmps = true) (h : xwp c19 (bodyOf Try.f19) (QRet tt.get Try.f19.results.toList R) ⟨initF args, [], m, []⟩) : Spec Try.prog 19 args m R :=
  Spec.of_body (c := c19) Try.func19 (by kernel_rfl) (by kernel_rfl) tt_ok wide (by kernel_rfl) hlen h
/- maund walk.walk -/
noncomputable def c20 : Cfg := ⟨Try.prog, tt.get, inL [], atL [], inL []⟩
theorem en20 {args : List CV} {m : Mem} {R : List CV → Mem → Prop} (hlen : Nat.ble args.length Try.f20.ntmps = true) (h : xwp c20 (bodyOf Try.f20) (QRet tt.get Try.f20.results.toList R) ⟨initF args, [], m, []⟩) : Spec Try.prog 20 args m R :=
  Spec.of_body (c := c20) Try.func20 (by kernel_rfl) (by kernel_rfl) tt_ok wide (by kernel_rfl) hlen h
/- maund maundref21.Comes -/
noncomputable def c21 : Cfg := ⟨Try.prog, tt.get, inL [], atL [(4, ⟨.op 0 .all (.op 1 .all (.op 2 .all (.op 3 .all (.op 4 .all (.op 5 .all (.op 6 .all (.nil))))))), [0, 1, 3, 0, 8, 24, 63]⟩)], inL []⟩
theorem en21 {args : List CV} {m : Mem} {R : List CV → Mem → Prop} (hlen : Nat.ble args.length Try.f21.ntmps = true) (h : xwp c21 (bodyOf Try.f21) (QRet tt.get Try.f21.results.toList R) ⟨initF args, [], m, []⟩) : Spec Try.prog 21 args m R :=
  Spec.of_body (c := c21) Try.func21 (by kernel_rfl) (by kernel_rfl) tt_ok wide (by kernel_rfl) hlen h
/- maund maundref20.Level -/
noncomputable def c22 : Cfg := ⟨Try.prog, tt.get, inL [], atL [], inL []⟩
theorem en22 {args : List CV} {m : Mem} {R : List CV → Mem → Prop} (hlen : Nat.ble args.length Try.f22.ntmps = true) (h : xwp c22 (bodyOf Try.f22) (QRet tt.get Try.f22.results.toList R) ⟨initF args, [], m, []⟩) : Spec Try.prog 22 args m R :=
  Spec.of_body (c := c22) Try.func22 (by kernel_rfl) (by kernel_rfl) tt_ok wide (by kernel_rfl) hlen h
/- maund maundref20.Kids -/
noncomputable def c23 : Cfg := ⟨Try.prog, tt.get, inL [], atL [], inL []⟩
theorem en23 {args : List CV} {m : Mem} {R : List CV → Mem → Prop} (hlen : Nat.ble args.length Try.f23.ntmps = true) (h : xwp c23 (bodyOf Try.f23) (QRet tt.get Try.f23.results.toList R) ⟨initF args, [], m, []⟩) : Spec Try.prog 23 args m R :=
  Spec.of_body (c := c23) Try.func23 (by kernel_rfl) (by kernel_rfl) tt_ok wide (by kernel_rfl) hlen h
/- maund walk.kids -/
noncomputable def c24 : Cfg := ⟨Try.prog, tt.get, inL [], atL [], inL []⟩
theorem en24 {args : List CV} {m : Mem} {R : List CV → Mem → Prop} (hlen : Nat.ble args.length Try.f24.ntmps = true) (h : xwp c24 (bodyOf Try.f24) (QRet tt.get Try.f24.results.toList R) ⟨initF args, [], m, []⟩) : Spec Try.prog 24 args m R :=
  Spec.of_body (c := c24) Try.func24 (by kernel_rfl) (by kernel_rfl) tt_ok wide (by kernel_rfl) hlen h
/- maund tree.Leaf -/
noncomputable def c25 : Cfg := ⟨Try.prog, tt.get, inL [], atL [], inL []⟩
theorem en25 {args : List CV} {m : Mem} {R : List CV → Mem → Prop} (hlen : Nat.ble args.length Try.f25.ntmps = true) (h : xwp c25 (bodyOf Try.f25) (QRet tt.get Try.f25.results.toList R) ⟨initF args, [], m, []⟩) : Spec Try.prog 25 args m R :=
  Spec.of_body (c := c25) Try.func25 (by kernel_rfl) (by kernel_rfl) tt_ok wide (by kernel_rfl) hlen h
/- maund tree.leaf -/
noncomputable def c26 : Cfg := ⟨Try.prog, tt.get, inL [], atL [], inL []⟩
theorem en26 {args : List CV} {m : Mem} {R : List CV → Mem → Prop} (hlen : Nat.ble args.length Try.f26.ntmps = true) (h : xwp c26 (bodyOf Try.f26) (QRet tt.get Try.f26.results.toList R) ⟨initF args, [], m, []⟩) : Spec Try.prog 26 args m R :=
  Spec.of_body (c := c26) Try.func26 (by kernel_rfl) (by kernel_rfl) tt_ok wide (by kernel_rfl) hlen h
/- maund sha.Sum -/
noncomputable def c27 : Cfg := ⟨Try.prog, tt.get, inL [2, 3], atL [], inL []⟩
theorem en27 {args : List CV} {m : Mem} {R : List CV → Mem → Prop} (hlen : Nat.ble args.length Try.f27.ntmps = true) (h : xwp c27 (bodyOf Try.f27) (QRet tt.get Try.f27.results.toList R) ⟨initF args, [], m, []⟩) : Spec Try.prog 27 args m R :=
  Spec.of_body (c := c27) Try.func27 (by kernel_rfl) (by kernel_rfl) tt_ok wide (by kernel_rfl) hlen h
/- maund tree.Below -/
noncomputable def c28 : Cfg := ⟨Try.prog, tt.get, inL [2], atL [], inL []⟩
theorem en28 {args : List CV} {m : Mem} {R : List CV → Mem → Prop} (hlen : Nat.ble args.length Try.f28.ntmps = true) (h : xwp c28 (bodyOf Try.f28) (QRet tt.get Try.f28.results.toList R) ⟨initF args, [], m, []⟩) : Spec Try.prog 28 args m R :=
  Spec.of_body (c := c28) Try.func28 (by kernel_rfl) (by kernel_rfl) tt_ok wide (by kernel_rfl) hlen h
/- maund tree.up -/
noncomputable def c29 : Cfg := ⟨Try.prog, tt.get, inL [], atL [], inL []⟩
theorem en29 {args : List CV} {m : Mem} {R : List CV → Mem → Prop} (hlen : Nat.ble args.length Try.f29.ntmps = true) (h : xwp c29 (bodyOf Try.f29) (QRet tt.get Try.f29.results.toList R) ⟨initF args, [], m, []⟩) : Spec Try.prog 29 args m R :=
  Spec.of_body (c := c29) Try.func29 (by kernel_rfl) (by kernel_rfl) tt_ok wide (by kernel_rfl) hlen h
/- maund tree.Up -/
noncomputable def c30 : Cfg := ⟨Try.prog, tt.get, inL [], atL [], inL []⟩
theorem en30 {args : List CV} {m : Mem} {R : List CV → Mem → Prop} (hlen : Nat.ble args.length Try.f30.ntmps = true) (h : xwp c30 (bodyOf Try.f30) (QRet tt.get Try.f30.results.toList R) ⟨initF args, [], m, []⟩) : Spec Try.prog 30 args m R :=
  Spec.of_body (c := c30) Try.func30 (by kernel_rfl) (by kernel_rfl) tt_ok wide (by kernel_rfl) hlen h
/- maund maundref20.Up -/
noncomputable def c31 : Cfg := ⟨Try.prog, tt.get, inL [], atL [], inL []⟩
theorem en31 {args : List CV} {m : Mem} {R : List CV → Mem → Prop} (hlen : Nat.ble args.length Try.f31.ntmps = true) (h : xwp c31 (bodyOf Try.f31) (QRet tt.get Try.f31.results.toList R) ⟨initF args, [], m, []⟩) : Spec Try.prog 31 args m R :=
  Spec.of_body (c := c31) Try.func31 (by kernel_rfl) (by kernel_rfl) tt_ok wide (by kernel_rfl) hlen h
/- maund tree.Kids -/
noncomputable def c32 : Cfg := ⟨Try.prog, tt.get, inL [], atL [], inL []⟩
theorem en32 {args : List CV} {m : Mem} {R : List CV → Mem → Prop} (hlen : Nat.ble args.length Try.f32.ntmps = true) (h : xwp c32 (bodyOf Try.f32) (QRet tt.get Try.f32.results.toList R) ⟨initF args, [], m, []⟩) : Spec Try.prog 32 args m R :=
  Spec.of_body (c := c32) Try.func32 (by kernel_rfl) (by kernel_rfl) tt_ok wide (by kernel_rfl) hlen h
/- maund tree.isPlace -/
noncomputable def c33 : Cfg := ⟨Try.prog, tt.get, inL [], atL [], inL []⟩
theorem en33 {args : List CV} {m : Mem} {R : List CV → Mem → Prop} (hlen : Nat.ble args.length Try.f33.ntmps = true) (h : xwp c33 (bodyOf Try.f33) (QRet tt.get Try.f33.results.toList R) ⟨initF args, [], m, []⟩) : Spec Try.prog 33 args m R :=
  Spec.of_body (c := c33) Try.func33 (by kernel_rfl) (by kernel_rfl) tt_ok wide (by kernel_rfl) hlen h
/- maund sha.first -/
noncomputable def c34 : Cfg := ⟨Try.prog, tt.get, inL [], atL [], inL []⟩
theorem en34 {args : List CV} {m : Mem} {R : List CV → Mem → Prop} (hlen : Nat.ble args.length Try.f34.ntmps = true) (h : xwp c34 (bodyOf Try.f34) (QRet tt.get Try.f34.results.toList R) ⟨initF args, [], m, []⟩) : Spec Try.prog 34 args m R :=
  Spec.of_body (c := c34) Try.func34 (by kernel_rfl) (by kernel_rfl) tt_ok wide (by kernel_rfl) hlen h
/- slices.Chunk[[]byte,byte] -/
noncomputable def c35 : Cfg := ⟨Try.prog, tt.get, inL [2, 3], atL [], inL []⟩
theorem en35 {args : List CV} {m : Mem} {R : List CV → Mem → Prop} (hlen : Nat.ble args.length Try.f35.ntmps = true) (h : xwp c35 (bodyOf Try.f35) (QRet tt.get Try.f35.results.toList R) ⟨initF args, [], m, []⟩) : Spec Try.prog 35 args m R :=
  Spec.of_body (c := c35) Try.func35 (by kernel_rfl) (by kernel_rfl) tt_ok wide (by kernel_rfl) hlen h
/- maund sha.padded -/
noncomputable def c36 : Cfg := ⟨Try.prog, tt.get, inL [], atL [], inL []⟩
theorem en36 {args : List CV} {m : Mem} {R : List CV → Mem → Prop} (hlen : Nat.ble args.length Try.f36.ntmps = true) (h : xwp c36 (bodyOf Try.f36) (QRet tt.get Try.f36.results.toList R) ⟨initF args, [], m, []⟩) : Spec Try.prog 36 args m R :=
  Spec.of_body (c := c36) Try.func36 (by kernel_rfl) (by kernel_rfl) tt_ok wide (by kernel_rfl) hlen h
/- (maund sha.state).block -/
noncomputable def c37 : Cfg := ⟨Try.prog, tt.get, inL [], atL [(1, ⟨.op 1 .all (.op 3 .all (.op 0 .all (.op 2 .all (.op 4 .all (.op 5 .all (.op 6 .all (.op 7 .new (.op 8 .new (.op 9 .none (.nil)))))))))), [0, 0, 3, 0, 0, 0, 0, 119, 247, 511]⟩),
  (5, ⟨.op 0 .all (.op 1 .all (.op 2 .all (.op 3 .all (.op 4 .all (.op 5 .all (.nil)))))), [0, 1, 0, 4, 3, 31]⟩),
  (6, ⟨.op 0 .all (.op 1 .all (.op 2 .all (.op 4 .all (.op 7 .all (.op 11 .all (.op 12 .all (.op 13 .all (.op 14 .all (.op 15 .all (.op 16 .all (.op 17 .all (.op 18 .all (.op 19 .all (.op 20 .all (.op 22 .all (.op 23 .all (.op 24 .all (.op 26 .all (.op 27 .all (.op 28 .all (.op 3 .all (.op 5 .all (.op 6 .all (.op 8 .all (.op 9 .all (.op 10 .all (.op 21 .all (.op 25 .all (.op 29 .all (.op 30 .all (.nil))))))))))))))))))))))))))))))), [0, 1, 0, 4, 0, 28, 60, 0, 188, 508, 1023, 0, 0, 4096, 14336, 0, 32768, 0, 131072, 491520, 1046528, 2097151, 0, 4194304, 12582912, 33554431, 0, 67108864, 201326592, 536870911, 1073741823]⟩),
  (7, ⟨.op 0 .all (.op 2 .all (.op 5 .all (.op 8 .all (.op 9 .all (.op 10 .all (.op 11 .all (.op 12 .all (.op 13 .all (.op 14 .all (.op 15 .all (.op 16 .all (.op 17 .all (.op 18 .all (.op 19 .all (.op 20 .all (.op 21 .all (.op 22 .all (.op 1 .all (.op 3 .all (.op 4 .all (.op 6 .all (.op 7 .all (.op 23 .all (.op 24 .all (.nil))))))))))))))))))))))))), [0, 1, 0, 7, 15, 0, 47, 127, 0, 0, 512, 1792, 0, 0, 8192, 28672, 65280, 0, 131072, 0, 524288, 1966080, 4194048, 8388607, 16777215]⟩)], inL []⟩
theorem en37 {args : List CV} {m : Mem} {R : List CV → Mem → Prop} (hlen : Nat.ble args.length Try.f37.ntmps = true) (h : xwp c37 (bodyOf Try.f37) (QRet tt.get Try.f37.results.toList R) ⟨initF args, [], m, []⟩) : Spec Try.prog 37 args m R :=
  Spec.of_body (c := c37) Try.func37 (by kernel_rfl) (by kernel_rfl) tt_ok wide (by kernel_rfl) hlen h
/- (maund sha.state).digest -/
noncomputable def c38 : Cfg := ⟨Try.prog, tt.get, inL [], atL [], inL []⟩
theorem en38 {args : List CV} {m : Mem} {R : List CV → Mem → Prop} (hlen : Nat.ble args.length Try.f38.ntmps = true) (h : xwp c38 (bodyOf Try.f38) (QRet tt.get Try.f38.results.toList R) ⟨initF args, [], m, []⟩) : Spec Try.prog 38 args m R :=
  Spec.of_body (c := c38) Try.func38 (by kernel_rfl) (by kernel_rfl) tt_ok wide (by kernel_rfl) hlen h
/- slices.Chunk[[]byte,byte]$1 -/
noncomputable def c39 : Cfg := ⟨Try.prog, tt.get, inL [], atL [(3, ⟨.op 0 .all (.op 1 .all (.op 2 .all (.op 3 .all (.op 4 .all (.op 5 .all (.op 6 .all (.nil))))))), [0, 0, 0, 6, 14, 31, 63]⟩)], inL []⟩
theorem en39 {args : List CV} {m : Mem} {R : List CV → Mem → Prop} (hlen : Nat.ble args.length Try.f39.ntmps = true) (h : xwp c39 (bodyOf Try.f39) (QRet tt.get Try.f39.results.toList R) ⟨initF args, [], m, []⟩) : Spec Try.prog 39 args m R :=
  Spec.of_body (c := c39) Try.func39 (by kernel_rfl) (by kernel_rfl) tt_ok wide (by kernel_rfl) hlen h
/- slices.Concat[[]byte,byte] -/
noncomputable def c40 : Cfg := ⟨Try.prog, tt.get, inL [], atL [], inL []⟩
theorem en40 {args : List CV} {m : Mem} {R : List CV → Mem → Prop} (hlen : Nat.ble args.length Try.f40.ntmps = true) (h : xwp c40 (bodyOf Try.f40) (QRet tt.get Try.f40.results.toList R) ⟨initF args, [], m, []⟩) : Spec Try.prog 40 args m R :=
  Spec.of_body (c := c40) Try.func40 (by kernel_rfl) (by kernel_rfl) tt_ok wide (by kernel_rfl) hlen h
/- maund sha.consts -/
noncomputable def c41 : Cfg := ⟨Try.prog, tt.get, inL [], atL [], inL []⟩
theorem en41 {args : List CV} {m : Mem} {R : List CV → Mem → Prop} (hlen : Nat.ble args.length Try.f41.ntmps = true) (h : xwp c41 (bodyOf Try.f41) (QRet tt.get Try.f41.results.toList R) ⟨initF args, [], m, []⟩) : Spec Try.prog 41 args m R :=
  Spec.of_body (c := c41) Try.func41 (by kernel_rfl) (by kernel_rfl) tt_ok wide (by kernel_rfl) hlen h
/- maund sha.spread -/
noncomputable def c42 : Cfg := ⟨Try.prog, tt.get, inL [], atL [(6, ⟨.op 0 .all (.op 1 .all (.op 2 .all (.op 3 .all (.op 4 .all (.op 5 .all (.op 6 .all (.op 7 .all (.op 8 .all (.op 9 .all (.op 10 .all (.op 11 .all (.op 12 .all (.op 13 .all (.op 14 .all (.op 15 .all (.op 16 .all (.op 17 .all (.op 18 .all (.op 19 .all (.op 20 .all (.op 21 .all (.op 22 .all (.op 23 .all (.op 24 .none (.nil))))))))))))))))))))))))), [0, 0, 2, 6, 14, 30, 0, 64, 192, 448, 960, 2046, 0, 4096, 12288, 28672, 61440, 131070, 0, 262144, 786432, 1835008, 4194302, 8388607, 16777215]⟩),
  (11, ⟨.op 0 .all (.op 1 .all (.op 2 .all (.op 3 .all (.op 4 .all (.op 5 .all (.op 6 .all (.op 7 .all (.op 8 .all (.op 9 .all (.nil)))))))))), [0, 1, 3, 7, 0, 16, 48, 112, 15, 511]⟩),
  (12, ⟨.op 0 .all (.op 1 .all (.op 2 .all (.op 3 .all (.op 4 .all (.op 5 .all (.op 7 .all (.op 10 .all (.op 11 .all (.op 14 .all (.op 15 .all (.op 16 .all (.op 17 .all (.op 19 .all (.op 21 .all (.op 24 .all (.op 25 .all (.op 6 .all (.op 8 .all (.op 9 .all (.op 12 .all (.op 13 .all (.op 18 .all (.op 20 .all (.op 22 .all (.op 23 .all (.op 26 .all (.op 27 .all (.op 28 .all (.op 29 .none (.nil)))))))))))))))))))))))))))))), [0, 0, 2, 6, 14, 0, 32, 0, 224, 480, 0, 1024, 4064, 8190, 0, 16384, 49152, 114688, 262142, 0, 524768, 0, 3670496, 7864800, 0, 16777216, 66585056, 134217726, 268435455, 536870911]⟩)], inL []⟩
theorem en42 {args : List CV} {m : Mem} {R : List CV → Mem → Prop} (hlen : Nat.ble args.length Try.f42.ntmps = true) (h : xwp c42 (bodyOf Try.f42) (QRet tt.get Try.f42.results.toList R) ⟨initF args, [], m, []⟩) : Spec Try.prog 42 args m R :=
  Spec.of_body (c := c42) Try.func42 (by kernel_rfl) (by kernel_rfl) tt_ok wide (by kernel_rfl) hlen h
/- maund sha.right -/
noncomputable def c43 : Cfg := ⟨Try.prog, tt.get, inL [], atL [], inL []⟩
theorem en43 {args : List CV} {m : Mem} {R : List CV → Mem → Prop} (hlen : Nat.ble args.length Try.f43.ntmps = true) (h : xwp c43 (bodyOf Try.f43) (QRet tt.get Try.f43.results.toList R) ⟨initF args, [], m, []⟩) : Spec Try.prog 43 args m R :=
  Spec.of_body (c := c43) Try.func43 (by kernel_rfl) (by kernel_rfl) tt_ok wide (by kernel_rfl) hlen h
/- slices.Grow[[]byte,byte] -/
noncomputable def c44 : Cfg := ⟨Try.prog, tt.get, inL [], atL [], inL []⟩
theorem en44 {args : List CV} {m : Mem} {R : List CV → Mem → Prop} (hlen : Nat.ble args.length Try.f44.ntmps = true) (h : xwp c44 (bodyOf Try.f44) (QRet tt.get Try.f44.results.toList R) ⟨initF args, [], m, []⟩) : Spec Try.prog 44 args m R :=
  Spec.of_body (c := c44) Try.func44 (by kernel_rfl) (by kernel_rfl) tt_ok wide (by kernel_rfl) hlen h
/- math bits.RotateLeft32 -/
noncomputable def c45 : Cfg := ⟨Try.prog, tt.get, inL [], atL [], inL []⟩
theorem en45 {args : List CV} {m : Mem} {R : List CV → Mem → Prop} (hlen : Nat.ble args.length Try.f45.ntmps = true) (h : xwp c45 (bodyOf Try.f45) (QRet tt.get Try.f45.results.toList R) ⟨initF args, [], m, []⟩) : Spec Try.prog 45 args m R :=
  Spec.of_body (c := c45) Try.func45 (by kernel_rfl) (by kernel_rfl) tt_ok wide (by kernel_rfl) hlen h
end Go.E.Ytjmjikemaafnjaa

/-
  Small things for the contracts.
-/
namespace Go.E
abbrev u64 (n : Int) : CV := .v (.int .u64 n)
abbrev i64 (n : Int) : CV := .v (.int .i64 n)
abbrev boolV (b : Bool) : CV := .v (.bool b)
theorem xretk {P : Program} {f : FuncId} {args : List CV} {m : Mem} {r : List CV} {x : List Nat} {K : List CV → Mem → Prop} (h : Ret P f args m r) (k : K r m) : XCall P f args m fun r' m' => Kept x m m' ∧ K r' m' :=
  xret h ⟨fun _ _ => rfl, k⟩
theorem wu {n : Int} (h0 : 0 ≤ n) (h1 : n < 18446744073709551616) : IntKind.u64.wrap n = n := by rw [IntKind.wrap_u64, Int.emod_eq_of_lt h0 h1]
theorem wi {n : Int} (h0 : -9223372036854775808 ≤ n) (h1 : n < 9223372036854775808) : IntKind.i64.wrap n = n := by rw [IntKind.wrap_i64]; omega
theorem iadd {i : Nat} (h : i < 1000000000000) : IntKind.i64.wrap ((i : Int) + 1) = ((i + 1 : Nat) : Int) := by rw [wi (by omega) (by omega)]; omega
end Go.E

/-
  Bytes: what is owned, appended.
-/
namespace Go.E.Ytjmjikemaafnjaa
open Go.Proofs
set_option maxRecDepth 100000

theorem Own.store {p : Mem} {e : TypeId} {b o n c k : Nat} {l : List Value} {x : Value} (h : Own p e 1 (.slice (some ⟨b, o, none⟩) n c) l) (hk : k < l.length) (hx : x.oneCell' = true) :
    ∃ arr, p b = some (.cells arr e (0, 0)) ∧ o + k < arr.size ∧ Own (p.set b (.cells (arr.setIfInBounds (o + k) x) e (0, 0))) e 1 (.slice (some ⟨b, o, none⟩) n c) (l.set k x) := by
  rcases h with ⟨h, _⟩ | ⟨b', o', c', n', arr, h, h1, h2, h3, h4, h5, h6⟩
  · cases h
  · cases h
    rw [Nat.mul_one] at h2 h4
    refine ⟨arr, h1, by omega, .inr ⟨b, o, c, n, _, rfl, Mem.set_same .., by simp; omega, h3, by simp; omega, fun j u hu => ?_, fun u hu => ?_⟩⟩
    · rw [List.getElem?_set] at hu
      rw [Array.getElem?_setIfInBounds]
      by_cases e : k = j
      · subst e
        rw [if_pos rfl, if_pos hk] at hu
        cases hu
        rw [if_pos rfl, if_pos (by omega)]
      · rw [if_neg e] at hu
        rw [if_neg (by omega)]
        exact h5 j u hu
    · rcases List.mem_or_eq_of_mem_set hu with hu | rfl
      · exact h6 u hu
      · exact hx
/-- bytes that are owned -/
def Bs (m : Mem) (v : Value) (l : List Int) : Prop := Own m 5 1 v (bc l)
theorem Bs.lb {p : Mem} {v : Value} {l : List Int} (h : Bs p v l) : Lb p v l := Own.lies h
theorem Bs.len {p : Mem} {v : Value} {l : List Int} (h : Bs p v l) : lenV v = l.length := h.lb.len
theorem Bs.sub {m m' : Mem} {v : Value} {l : List Int} (h : Bs m v l) (hs : Sub m m') : Bs m' v l := Own.sub h hs
theorem Bs.keep {m m' : Mem} {v : Value} {l : List Int} (h : Bs m v l) (hs : ∀ b, blkV v = some b → m' b = m b) : Bs m' v l := Own.keep h hs
theorem Bs.store {p : Mem} {b o n c k : Nat} {l : List Int} {x : Int} (h : Bs p (.slice (some ⟨b, o, none⟩) n c) l) (hk : k < l.length) :
    ∃ arr, p b = some (.cells arr 5 (0, 0)) ∧ o + k < arr.size ∧ Bs (p.set b (.cells (arr.setIfInBounds (o + k) (.int .u8 x)) 5 (0, 0))) (.slice (some ⟨b, o, none⟩) n c) (l.set k x) := by
  obtain ⟨arr, h1, h2, h3⟩ := Own.store (k := k) (x := .int .u8 x) h (by simpa [bc] using hk) rfl
  refine ⟨arr, h1, h2, ?_⟩
  rw [show (bc l).set k (.int .u8 x) = bc (l.set k x) by simp [bc, List.map_set]] at h3
  exact h3
theorem Bs.nil (m : Mem) : Bs m (.slice none 0 0) [] := .inl ⟨rfl, rfl⟩
theorem Bs.blk {m : Mem} {b : Nat} {l : List Int} {n : Nat} (hb : m b = some (.cells (bc l).toArray 5)) (hn : l.length = n) : Bs m (.slice (some ⟨b, 0, none⟩) n n) l := by
  subst hn
  refine .inr ⟨b, 0, l.length, l.length, _, rfl, hb, by simp [bc], Nat.le_refl _, by simp [bc], ?_, bc_one⟩
  intro j u hu; rw [Nat.zero_add, List.getElem?_toArray]; exact hu
theorem hU8 : tt.get 5 = some ⟨.int .u8, 1, 1, [.one (.int .u8 0)], false⟩ := by rfl
theorem hBs : tt.get 46 = some ⟨.slice 5, 1, 24, [.one (.slice none 0 0)], false⟩ := by rfl
/-- what an append of bytes leaves -/
structure BApd (m : Mem) (v : Value) (l : List Int) (v' : Value) (m' : Mem) : Prop where
  own : Bs m' v' l
  keep : ∀ b o, m b = some o → blkV v ≠ some b → m' b = some o
  new : ∀ b, blkV v' = some b → blkV v = some b ∨ m b = none
theorem appendB {m : Mem} {v x : Value} {l news : List Int} (hv : Bs m v l) (hg : La m x news) (hb : l.length + news.length ≤ 1000000000) :
    PrimSpec Try.prog (.builtin .append [46, 46]) [.v v, .v x] m fun r m' => ∃ v', r = [.v v'] ∧ BApd m v (l ++ news) v' m' := by
  have e1 := hv.len
  have e2 := hg.len
  refine (append_spec tt_ok hBs rfl hU8 hBs rfl hv hg.gives (by rw [e1, e2]; simp only; omega) (by rw [e1, e2]; omega)).mono fun r m' ⟨v', h1, h2⟩ => ⟨v', h1, ?_⟩
  rw [← bc_append] at h2
  exact ⟨h2.own, h2.keep, h2.new⟩
theorem appendBat {m p : Mem} {ls : List Mem} {i : Nat} {v x : Value} {l news : List Int} (hs : Split m ls) (hi : ls[i]? = some p) (hv : Bs p v l) (hg : La m x news) (hb : l.length + news.length ≤ 1000000000) :
    PrimSpec Try.prog (.builtin .append [46, 46]) [.v v, .v x] m fun r m' => ∃ v' p', r = [.v v'] ∧ Split m' (ls.set i p') ∧ BApd p v (l ++ news) v' p' := by
  have e1 := hv.len
  have e2 := hg.len
  refine (append_at tt_ok hBs rfl hU8 hBs rfl hs hi hv hg.gives (by rw [e1, e2]; simp only; omega) (by rw [e1, e2]; omega)).mono fun r m' ⟨v', p', h1, h2, h3⟩ => ⟨v', p', h1, h2, ?_⟩
  rw [← bc_append] at h3
  exact ⟨h3.own, h3.keep, h3.new⟩
theorem build1 {m : Mem} {x : Int} : PrimSpec Try.prog (.buildSlice 46 1 [0]) [.v (.int .u8 x)] m fun r m' => ∃ b, m b = none ∧ r = [.v (.slice (some ⟨b, 0, none⟩) 1 1)] ∧ m' = m.set b (.cells (bc [x]).toArray 5) :=
  buildSlice_spec (n := 1) tt_ok hBs rfl hU8 rfl rfl (by simp [CV.cs]) (by simp) (by simp)
theorem build2 {m : Mem} {x y : Int} : PrimSpec Try.prog (.buildSlice 46 2 [0, 1]) [.v (.int .u8 x), .v (.int .u8 y)] m fun r m' => ∃ b, m b = none ∧ r = [.v (.slice (some ⟨b, 0, none⟩) 2 2)] ∧ m' = m.set b (.cells (bc [x, y]).toArray 5) :=
  buildSlice_spec (n := 2) tt_ok hBs rfl hU8 rfl rfl (by simp [CV.cs]) (by simp) (by simp)
theorem build3 {m : Mem} {x y z : Int} : PrimSpec Try.prog (.buildSlice 46 3 [0, 1, 2]) [.v (.int .u8 x), .v (.int .u8 y), .v (.int .u8 z)] m fun r m' => ∃ b, m b = none ∧ r = [.v (.slice (some ⟨b, 0, none⟩) 3 3)] ∧ m' = m.set b (.cells (bc [x, y, z]).toArray 5) :=
  buildSlice_spec (n := 3) tt_ok hBs rfl hU8 rfl rfl (by simp [CV.cs]) (by simp) (by simp)
theorem conv_spec {m : Mem} {b n c : Nat} {l : List Int} (hb : m b = some (.cells (bc l).toArray 5)) : PrimSpec Try.prog (.conv 46 46) [.v (.slice (some ⟨b, 0, none⟩) n c)] m fun r m' => r = [.v (.slice (some ⟨b, 0, none⟩) n c)] ∧ m' = m.set b (.cells (bc l).toArray 5 ((bc l).toArray.size, (bc l).toArray.size + 1)) :=
  convConst_spec tt_ok hBs rfl hU8 rfl hb
theorem Bs.none0 {m : Mem} {b : Nat} (hb : m b = some (.cells #[] 5)) : Bs m (.slice (some ⟨b, 0, none⟩) 0 0) [] := Bs.blk (l := []) (by simpa [bc] using hb) rfl
theorem buildB0 {m : Mem} : PrimSpec Try.prog (.buildSlice 46 0 []) [] m fun r m' => ∃ b, m b = none ∧ r = [.v (.slice (some ⟨b, 0, none⟩) 0 0)] ∧ m' = m.set b (.cells #[] 5) :=
  buildSlice0_spec tt_ok hBs rfl hU8
theorem Lb.blk {m : Mem} {b : Nat} {l : List Int} {n : Nat} (hb : m b = some (.cells (bc l).toArray 5)) (hn : l.length = n) : Lb m (.slice (some ⟨b, 0, none⟩) n n) l := (Bs.blk hb hn).lb
/-- one byte more -/
theorem Bs.one {m : Mem} {ls : List Mem} {p : Mem} {b' : Nat} {y : Int} (hs : Split m (p :: ls)) (hb : m b' = none) {x : Value} {l : List Int} (hx : Bs p x l) (hl : l.length ≤ 100000000) :
    PrimSpec Try.prog (.builtin .append [46, 46]) [.v x, .v (.slice (some ⟨b', 0, none⟩) 1 1)] (m.set b' (.cells (bc [y]).toArray 5)) fun r m' => ∃ v' p', r = [.v v'] ∧ Split m' (p' :: ls) ∧ Bs p' v' (l ++ [y]) := by
  have hs1 := hs.new hb (.cells (bc [y]).toArray 5)
  refine (appendBat (i := 1) hs1 rfl hx (Lb.blk (l := [y]) (Mem.set_same ..) rfl).la (by simp; omega)).mono fun r m' ⟨v', p', h1, h2, h3⟩ => ⟨v', p', h1, h2.erase 0, h3.own⟩
/-- one byte, onto a slice: both operations' memory -/
theorem push_mem {m m' : Mem} {b' : Nat} {o : Obj} {v v' : Value} {l : List Int} (hb : m b' = none) (h : BApd (m.set b' o) v l v' m') : BApd m v l v' m' :=
  ⟨h.own, fun b u hm hn => h.keep b u (Mem.sub_set _ hb _ _ hm) hn, fun b hv => (h.new b hv).imp id fun hx => by
    by_cases e : b = b'
    · subst e; exact hb
    · rw [Mem.set_ne _ _ e] at hx; exact hx⟩
theorem Lb.own {m : Mem} {v : Value} {l : List Int} (h : Lb m v l) : (∃ c, v = .slice none 0 c) ∨ ∃ a c, v = .slice (some a) l.length c := by
  rcases h.cases with ⟨c, rfl, _⟩ | ⟨b, o, c, arr, t, fr, rfl, _⟩
  · exact .inl ⟨c, rfl⟩
  · exact .inr ⟨_, c, rfl⟩
end Go.E.Ytjmjikemaafnjaa

/-
  More operations: how much room there is; new room.
-/
namespace Go.E
section
variable {P : Program} {T : Tab}
theorem cap_spec (hT : TabOk P T) {t e : TypeId} {ti : TI} (ht : T t = some ti) (hk : ti.k = .slice e) {m : Mem} {a : Option Addr} {n c : Nat} :
    PrimSpec P (.builtin .cap [t]) [.v (.slice a n c)] m fun r m' => r = [.v (.int .i64 c)] ∧ m = m' := by
  intro _ ty W hW
  refine ⟨[.v (.int .i64 c)], m, W, ?_, ?_, ⟨rfl, rfl⟩, After.refl hW⟩
  · simp [Prim.run, CV.val, resVal, Builtin.cap_, run_underlying ((hT t ti ht).slice hk)]; rfl
  · intro x hx; simp at hx; subst hx; rfl
theorem makeFunc_spec {f : FuncId} {n : Nat} {cs : List Value} {m : Mem} (hone : ∀ x ∈ cs, x.oneCell' = true) :
    PrimSpec P (.makeFunc (.func f) n) (cs.map CV.v) m fun r m' => r = [.v (.func (.func f) (cs.take n).toArray (cs.drop n).toArray)] ∧ m = m' := by
  intro _ ty W hW
  refine ⟨[.v (.func (.func f) (cs.take n).toArray (cs.drop n).toArray)], m, W, ?_, ?_, ⟨rfl, rfl⟩, After.refl hW⟩
  · simp [Prim.run, CV.val, resVal, Instr.makeFunc, List.map_map, Function.comp_def]
  · intro x hx; simp at hx; subst hx; rfl
theorem int_desc {d : TypeDesc} {k : IntKind} (h : TK.of d = .int k) : d = .int k := by
  cases d <;> simp [TK.of] at h; subst h; rfl
/-- append of k zeros, where there is no room for them: a new row -/
theorem appendZeros_spec (hT : TabOk P T) {t e tn : TypeId} {ti ei ni : TI} {kn : IntKind} (ht : T t = some ti) (hk : ti.k = .slice e) (he : T e = some ei) (hn : T tn = some ni) (hkn : ni.k = .int kn) (hpos : 0 < ei.size) {m : Mem} {v : Value} {a : Option Addr} {n c k : Nat} {l : List Value}
    (hv : v = .slice a n c) (hl : Lies m ei.size v l) (h0 : 0 < k) (hg : c < n + k) (hb : (2 * (n + k) + 768) * ei.bytes ≤ 281474976710656) (hb1 : n + k ≤ 9223372036854775807) :
    PrimSpec P (.builtin .append [t, tn]) [.v v, .v (.int .i64 k)] m fun r m' => ∃ b C, m b = none ∧ n + k ≤ C ∧ r = [.v (.slice (some ⟨b, 0, none⟩) (n + k) C)] ∧
      m' = m.set b (.cells (l.toArray ++ Builtin.zeroCells (LB.cells ei.zero).toArray k ++ Builtin.zeroCells (LB.cells ei.zero).toArray (C - (n + k))) e) := by
  intro _ ty W hW
  subst hv
  obtain ⟨j, hj, hjs, hjb, z, hjz, hzc⟩ := (hT e ei he).inf
  have hsl := (hT t ti ht).slice hk
  obtain ⟨d, h1, h2⟩ := (hT tn ni hn).desc
  rw [hkn] at h2
  have hd := int_desc h2
  subst hd
  have hold : (Builtin.firstCells j.size n (.slice a n c)).run P W.drew = .ok l.toArray W.drew := by
    rw [hjs]
    rcases hl with ⟨c', e', rfl⟩ | ⟨b, o, c', n', arr, t', fr, e', g1, g2, _, g3, g4⟩
    · cases e'; simp [Builtin.firstCells]
    · cases e'
      refine run_firstCells_some W.drew ei.size n _ n c l g2 (fun i u hu => ?_)
      rw [add_none]
      have hW1 : W.drew.heap[b]? = some (.cells arr t' fr) := hW _ _ g1
      rw [cell_at hW1]
      exact g3 i u hu
  have hbk : k * ei.bytes ≤ 281474976710656 := Nat.le_trans (Nat.mul_le_mul_right _ (by omega)) hb
  have hrun := Lib.run_append_grow_zeros W t tn ty e j z .i64 kn hsl h1 hj hjz a n c l hold k h0 (by omega) hg (by omega) (by rw [hjb]; exact hbk) (by rw [hjb]; exact Nat.le_trans (Nat.mul_le_mul_right _ (nextcap_le hg)) hb)
  have hcap := grownCap_ge W (n + k) c e
  generalize grownCap W (n + k) c e = C at hrun hcap
  rw [hzc] at hrun
  exact ⟨[.v (.slice (some ⟨W.heap.size, 0, none⟩) (n + k) C)], _, _, hrun, (by intro y hy; simp at hy; subst hy; rfl), ⟨W.heap.size, C, hW.none (Nat.le_refl _), hcap, rfl, rfl⟩, (After.refl hW).drew.alloc _⟩
end
end Go.E

/-
  Bytes: room made; lists of bytes, one behind the other.
-/
namespace Go.E.Ytjmjikemaafnjaa
open Go.Proofs
set_option maxRecDepth 100000
theorem hI : tt.get 3 = some ⟨.int .i64, 1, 8, [.one (.int .i64 0)], false⟩ := by rfl
/-- new room for n bytes, with nothing in it -/
theorem grow_spec {m : Mem} {n : Nat} (hn : n ≤ 100000000) :
    Spec Try.prog 44 [.v (.slice none 0 0), .v (.int .i64 n)] m fun r m' => ∃ v p, r = [.v v] ∧ Split m' [p, m] ∧ Bs p v [] := by
  refine en44 rfl (goY ?_)
  conv => whnf
  refine ⟨fun h => absurd h (by (simp; try omega)), fun _ => ?_⟩
  conv => whnf
  refine .mk _ (cap_spec tt_ok hBs rfl) ?_
  rintro _ _ ⟨rfl, rfl⟩
  conv => whnf
  have e : IntKind.i64.wrap ((n : Int) - IntKind.i64.wrap (((0 : Nat) : Int) - ((0 : Nat) : Int))) = (n : Int) := by rw [wi (n := ((0 : Nat) : Int) - ((0 : Nat) : Int)) (by omega) (by omega), wi (by omega) (by omega)]; omega
  rw [e]
  refine ⟨fun h => ?_, fun h => ?_⟩
  · have h' := of_decide_eq_true h
    conv => whnf
    refine .mk _ (cap_spec tt_ok hBs rfl) ?_
    rintro _ _ ⟨rfl, rfl⟩
    conv => whnf
    repeat (refine And.intro (by first | omega | (simp only [times]; omega)) ?_; conv => whnf)
    refine .mk _ (appendZeros_spec (n := 0) (c := 0) (a := none) (l := []) tt_ok hBs rfl hU8 hI rfl (by decide) rfl (.inl ⟨0, rfl, rfl⟩) (by omega) (by omega) (by simp only; omega) (by omega)) ?_
    rintro _ _ ⟨b, C, hb, hC, rfl, rfl⟩
    conv => whnf
    repeat (refine And.intro (by first | omega | (simp only [times]; omega)) ?_; conv => whnf)
    intro o' h1 h2
    obtain rfl : o' = 0 := by have := h1 (by omega); simpa using this
    conv => whnf
    refine ⟨_, blk1 b _, rfl, (Split.one m).new hb _, .inr ⟨b, 0, C, 0, _, rfl, blk1_same .., rfl, Nat.zero_le _, ?_, by intro j u hu; simp [bc] at hu, by simp [bc]⟩⟩
    simp only [Array.size_append, zeroCells_size, List.size_toArray, List.length_nil, LB.cells, Seg.cells, List.length_append, List.length_cons]
    omega
  · have h' := of_decide_eq_false h
    conv => whnf
    exact ⟨_, emp, rfl, (Split.one m).addEmp, Bs.nil _⟩
/-- a list of bytes -/
structure Lists (m : Mem) (v : Value) (ps : List (Value × List Int)) : Prop where
  lies : Lies m 1 v (ps.map (·.1))
  la : ∀ p ∈ ps, La m p.1 p.2
theorem Lists.sub {m m' : Mem} {v : Value} {ps : List (Value × List Int)} (h : Lists m v ps) (hs : Sub m m') : Lists m' v ps := ⟨h.lies.sub hs, fun p hp => (h.la p hp).sub hs⟩
theorem Lists.shape {m : Mem} {v : Value} {ps : List (Value × List Int)} (h : Lists m v ps) : ∃ a c, v = .slice a ps.length c := by
  rcases h.lies with ⟨c, rfl, e⟩ | ⟨b, o, c, n, arr, t, fr, rfl, _, e, _⟩
  · have : ps.length = 0 := by simpa using congrArg List.length e
    exact ⟨none, c, by rw [this]⟩
  · have : ps.length = n := by simpa using e
    exact ⟨_, c, by rw [this]⟩
theorem Lists.real {m : Mem} {v : Value} {ps : List (Value × List Int)} (h : Lists m v ps) {i : Nat} (hi : i < ps.length) : ∃ b o c, v = .slice (some ⟨b, o, none⟩) ps.length c ∧ ∀ (i : Nat) (hi : i < ps.length), mcell m b (o + i) = some ps[i].1 := by
  rcases h.lies with ⟨c, rfl, e⟩ | ⟨b, o, c, n, arr, t, fr, rfl, g1, e, _, g2, _⟩
  · have : ps.length = 0 := by simpa using congrArg List.length e
    omega
  · have : ps.length = n := by simpa using e
    exact ⟨b, o, c, by rw [this], fun j hj => mcell_of g1 (g2 j _ (by simp [hj]))⟩
def catB (ps : List (Value × List Int)) : List Int := (ps.map (·.2)).flatten
theorem catB_take {ps : List (Value × List Int)} {i : Nat} (h : i < ps.length) : catB (ps.take i) ++ ps[i].2 = catB (ps.take (i + 1)) := by
  rw [List.take_succ_eq_append_getElem h, catB, catB, List.map_append, List.flatten_append]; simp
theorem catB_le {ps : List (Value × List Int)} (i : Nat) : (catB (ps.take i)).length ≤ (catB ps).length := by
  have e : catB ps = catB (ps.take i) ++ catB (ps.drop i) := by
    rw [catB, catB, catB, ← List.flatten_append, ← List.map_append, List.take_append_drop]
  rw [e, List.length_append]; omega
theorem iadd' {i : Nat} (h : i < 1000000000000) : IntKind.i64.wrap ((i : Int) + 1) = ((i + 1 : Nat) : Int) := by rw [wi (by omega) (by omega)]; omega
set_option maxHeartbeats 1000000 in
theorem concat_spec {m : Mem} {v : Value} {ps : List (Value × List Int)} (h : Lists m v ps) (hb : (catB ps).length ≤ 10000000) (hn : ps.length ≤ 10000000) :
    Spec Try.prog 40 [.v v] m fun r m' => ∃ v' p, r = [.v v'] ∧ Split m' [p, m] ∧ Bs p v' (catB ps) := by
  obtain ⟨a, c, rfl⟩ := h.shape
  refine en40 rfl (goY ?_)
  conv => whnf
  refine .mk (ι := Nat) (fun i => ps.length - i) (fun i mm => i ≤ ps.length ∧ mm = m) (fun i => [(0, .c (.v (.slice a ps.length c))), (3, .c (i64 (catB (ps.take i)).length)), (9, .c (.v (.slice a ps.length c))), (10, .c (i64 ps.length)), (11, .c (i64 i))]) (fun _ => []) 0 ⟨by omega, rfl⟩ ?_ ?_
  · conv => whnf
    repeat (refine And.intro (by first | with_reducible rfl | exact congrArg (Value.int _) (wi (by omega) (by omega)) | exact wi (by omega) (by omega) | rfl) ?_; conv => whnf)
    first | exact trivial | exact fun _ _ h => h
  rintro i mm ⟨hi, he⟩
  subst mm
  conv => whnf
  refine ⟨fun h1 => ?_, fun h1 => ?_⟩
  · have h1' := of_decide_eq_true h1
    have hlt : i < ps.length := by omega
    obtain ⟨b, o, c', e, hat⟩ := h.real hlt
    cases e
    have hla := h.la ps[i] (by simp)
    obtain ⟨ai, ci, hvi⟩ := hla.shape
    have hc := hat i hlt
    rw [hvi] at hc
    have hle := catB_le (ps := ps) (i + 1)
    rw [← catB_take hlt, List.length_append] at hle
    conv => whnf
    repeat (refine And.intro (by first | omega | (simp only [times]; omega)) ?_; conv => whnf)
    refine ⟨_, hc, rfl, ?_⟩
    conv => whnf
    have e3 : IntKind.i64.wrap (((catB (ps.take i)).length : Int) + (ps[i].2.length : Int)) = ((catB (ps.take (i + 1))).length : Int) := by
      rw [← catB_take hlt, List.length_append, wi (by omega) (by omega)]; omega
    rw [e3]
    refine ⟨fun h => absurd h (by (simp; try omega)), fun _ => ?_⟩
    conv => whnf
    refine ⟨i + 1, ⟨by omega, rfl⟩, by omega, ?_⟩
    conv => whnf
    repeat (refine And.intro (by first | with_reducible rfl | (exact congrArg (Value.int _) (iadd' (by omega))) | exact congrArg (Value.int _) (wi (by omega) (by omega)) | exact wi (by omega) (by omega) | rfl) ?_; conv => whnf)
    first | exact trivial | exact fun _ _ h => h
  · have h1' := of_decide_eq_false h1
    obtain rfl : i = ps.length := by omega
    rw [List.take_length]
    conv => whnf
    refine xcall (grow_spec (n := (catB ps).length) (by omega)) ?_
    rintro _ m2 ⟨v2, p2, rfl, hs2, hv2⟩
    conv => whnf
    refine .mk (ι := Nat × Value) (fun i => ps.length - i.1) (fun ⟨i, x⟩ mm => i ≤ ps.length ∧ ∃ p, Split mm [p, m] ∧ Bs p x (catB (ps.take i))) (fun ⟨i, x⟩ => [(6, .c (.v x)), (25, .c (.v (.slice a ps.length c))), (26, .c (i64 ps.length)), (27, .c (i64 i))]) (fun _ => []) (0, v2) ⟨by omega, p2, hs2, by simpa [catB] using hv2⟩ ?_ ?_
    · conv => whnf
      repeat (refine And.intro (by first | with_reducible rfl | exact congrArg (Value.int _) (wi (by omega) (by omega)) | exact wi (by omega) (by omega) | rfl) ?_; conv => whnf)
      first | exact trivial | exact fun _ _ h => h
    rintro ⟨i, x⟩ mm ⟨hi, p, hs, hx⟩
    conv => whnf
    refine ⟨fun h2 => ?_, fun h2 => ?_⟩
    · have h2' := of_decide_eq_true h2
      have hlt : i < ps.length := by omega
      obtain ⟨b, o, c', e, hat⟩ := h.real hlt
      cases e
      have hla := h.la ps[i] (by simp)
      have hle := catB_le (ps := ps) (i + 1)
      rw [← catB_take hlt, List.length_append] at hle
      have hc : mcell mm b (o + i) = some ps[i].1 := by
        have := hat i hlt
        unfold mcell at this ⊢
        split at this
        · rename_i arr t fr hm
          rw [hs.at (i := 1) rfl _ _ hm]; exact this
        · cases this
      conv => whnf
      repeat (refine And.intro (by first | omega | (simp only [times]; omega)) ?_; conv => whnf)
      refine ⟨_, hc, hla.one, ?_⟩
      conv => whnf
      refine .mk _ (appendBat (i := 0) hs rfl hx (hla.sub (hs.at (i := 1) rfl)) (by omega)) ?_
      rintro _ m3 ⟨v3, p3, rfl, hs3, hv3⟩
      conv => whnf
      refine ⟨(i + 1, v3), ⟨by omega, p3, hs3, ?_⟩, by simp only; omega, ?_⟩
      · have := hv3.own
        rw [catB_take hlt] at this; exact this
      · conv => whnf
        repeat (refine And.intro (by first | with_reducible rfl | (exact congrArg (Value.int _) (iadd' (by omega))) | exact congrArg (Value.int _) (wi (by omega) (by omega)) | exact wi (by omega) (by omega) | rfl) ?_; conv => whnf)
        first | exact trivial | exact fun _ _ h => h
    · have h2' := of_decide_eq_false h2
      obtain rfl : i = ps.length := by omega
      rw [List.take_length] at hx
      conv => whnf
      exact ⟨x, p, rfl, hs, hx⟩
theorem hLs : tt.get 61 = some ⟨.slice 46, 1, 24, [.one (.slice none 0 0)], false⟩ := by rfl
theorem buildL1 {m : Mem} {x : Value} : PrimSpec Try.prog (.buildSlice 61 1 [0]) [.v x] m fun r m' => ∃ b, m b = none ∧ r = [.v (.slice (some ⟨b, 0, none⟩) 1 1)] ∧ m' = m.set b (.cells #[x] 46) :=
  buildSlice_spec (n := 1) tt_ok hLs rfl hBs rfl rfl (by simp [CV.cs]) (by simp) (by simp)
theorem buildL2 {m : Mem} {x y : Value} : PrimSpec Try.prog (.buildSlice 61 2 [0, 1]) [.v x, .v y] m fun r m' => ∃ b, m b = none ∧ r = [.v (.slice (some ⟨b, 0, none⟩) 2 2)] ∧ m' = m.set b (.cells #[x, y] 46) :=
  buildSlice_spec (n := 2) tt_ok hLs rfl hBs rfl rfl (by simp [CV.cs]) (by simp) (by simp)
theorem Lists.blk {m : Mem} {b n : Nat} {ps : List (Value × List Int)} {t : TypeId} {fr : Nat × Nat} (h : m b = some (.cells (ps.map (·.1)).toArray t fr)) (hn : ps.length = n) (hl : ∀ p ∈ ps, La m p.1 p.2) : Lists m (.slice (some ⟨b, 0, none⟩) n n) ps := by
  refine ⟨.inr ⟨b, 0, n, n, _, _, _, rfl, h, by simp [hn], Nat.le_refl _, fun j u hu => by simpa using hu, fun u hu => ?_⟩, fun p hp => hl p hp⟩
  obtain ⟨p, hp, rfl⟩ := List.mem_map.1 hu
  exact (hl p hp).one
theorem Lists.one {m : Mem} {b : Nat} {v : Value} {l : List Int} {t : TypeId} {fr : Nat × Nat} (h : m b = some (.cells #[v] t fr)) (hl : La m v l) : Lists m (.slice (some ⟨b, 0, none⟩) 1 1) [(v, l)] :=
  Lists.blk (ps := [(v, l)]) h rfl (by simpa using hl)
theorem Lists.two {m : Mem} {b : Nat} {v w : Value} {l k : List Int} {t : TypeId} {fr : Nat × Nat} (h : m b = some (.cells #[v, w] t fr)) (hl : La m v l) (hk : La m w k) : Lists m (.slice (some ⟨b, 0, none⟩) 2 2) [(v, l), (w, k)] :=
  Lists.blk (ps := [(v, l), (w, k)]) h rfl (by simpa using ⟨hl, hk⟩)
theorem Lists.three {m : Mem} {b : Nat} {v w u : Value} {l k j : List Int} {t : TypeId} {fr : Nat × Nat} (h : m b = some (.cells #[v, w, u] t fr)) (hl : La m v l) (hk : La m w k) (hj : La m u j) : Lists m (.slice (some ⟨b, 0, none⟩) 3 3) [(v, l), (w, k), (u, j)] :=
  Lists.blk (ps := [(v, l), (w, k), (u, j)]) h rfl (by simpa using ⟨hl, hk, hj⟩)
theorem buildL3 {m : Mem} {x y z : Value} : PrimSpec Try.prog (.buildSlice 61 3 [0, 1, 2]) [.v x, .v y, .v z] m fun r m' => ∃ b, m b = none ∧ r = [.v (.slice (some ⟨b, 0, none⟩) 3 3)] ∧ m' = m.set b (.cells #[x, y, z] 46) :=
  buildSlice_spec (n := 3) tt_ok hLs rfl hBs rfl rfl (by simp [CV.cs]) (by simp) (by simp)
/-- one piece more -/
theorem pushL {m : Mem} {ls : List Mem} {p : Mem} {b' : Nat} {x y : Value} {vs : List Value} (hs : Split m (p :: ls)) (hb : m b' = none) (hx : x.oneCell' = true) (hy : Own p 46 1 y vs) (hl : vs.length ≤ 100000000) :
    PrimSpec Try.prog (.builtin .append [61, 61]) [.v y, .v (.slice (some ⟨b', 0, none⟩) 1 1)] (m.set b' (.cells #[x] 46)) fun r m' => ∃ y' p', r = [.v y'] ∧ Split m' (p' :: ls) ∧ Own p' 46 1 y' (vs ++ [x]) := by
  have hs1 := hs.new hb (.cells #[x] 46)
  have e1 := hy.lies.len
  have e2 : lenV (.slice (some ⟨b', 0, none⟩) 1 1) = 1 := rfl
  have g : Gives (m.set b' (.cells #[x] 46)) 1 (.slice 46) (.slice (some ⟨b', 0, none⟩) 1 1) [x] :=
    .inl ⟨_, rfl, .inl (.inr ⟨b', 0, 1, 1, _, _, _, rfl, Mem.set_same .., rfl, Nat.le_refl _, fun j u hu => by simpa using hu, by simpa using hx⟩)⟩
  refine (append_at tt_ok hLs rfl hBs hLs rfl hs1 (i := 1) rfl hy g (by rw [e2]; simp only; omega) (by rw [e2]; omega)).mono fun r m' ⟨v', p', h1, h2, h3⟩ => ⟨v', p', h1, h2.erase 0, h3.own⟩
theorem Lists.own {m p : Mem} {y : Value} {ps : List (Value × List Int)} (hy : Own p 46 1 y (ps.map (·.1))) (hs : Sub p m) (hl : ∀ q ∈ ps, La m q.1 q.2) : Lists m y ps :=
  ⟨hy.lies.sub hs, fun q hq => hl q hq⟩
end Go.E.Ytjmjikemaafnjaa

/-
  Lists of whole numbers.
-/
namespace Go.E.Ytjmjikemaafnjaa
open Go.Proofs
set_option maxRecDepth 100000
theorem hIs : tt.get 23 = some ⟨.slice 3, 1, 24, [.one (.slice none 0 0)], false⟩ := by rfl
theorem hI' : tt.get 3 = some ⟨.int .i64, 1, 8, [.one (.int .i64 0)], false⟩ := by rfl
abbrev ic (l : List Int) : List Value := l.map (Value.int .i64)
theorem ic_one {l : List Int} : ∀ u ∈ ic l, u.oneCell' = true := by
  intro u hu; obtain ⟨a, _, rfl⟩ := List.mem_map.1 hu; rfl
/-- numbers that lie somewhere; owned -/
def Il (m : Mem) (v : Value) (l : List Int) : Prop := Lies m 1 v (ic l)
def Io (m : Mem) (v : Value) (l : List Int) : Prop := Own m 3 1 v (ic l)
/-- numbers that lie somewhere; or none, wherever -/
def Ia (m : Mem) (v : Value) (l : List Int) : Prop := Il m v l ∨ (l = [] ∧ ∃ a, v = .slice (some a) 0 0)
theorem Il.sub {m m' : Mem} {v : Value} {l : List Int} (h : Il m v l) (hs : Sub m m') : Il m' v l := Lies.sub h hs
theorem Io.sub {m m' : Mem} {v : Value} {l : List Int} (h : Io m v l) (hs : Sub m m') : Io m' v l := Own.sub h hs
theorem Io.il {m : Mem} {v : Value} {l : List Int} (h : Io m v l) : Il m v l := Own.lies h
theorem Il.ia {m : Mem} {v : Value} {l : List Int} (h : Il m v l) : Ia m v l := .inl h
theorem Ia.sub {m m' : Mem} {v : Value} {l : List Int} (h : Ia m v l) (hs : Sub m m') : Ia m' v l := h.imp (·.sub hs) id
theorem Io.nil (m : Mem) : Io m (.slice none 0 0) [] := .inl ⟨rfl, rfl⟩
theorem Il.shape {m : Mem} {v : Value} {l : List Int} (h : Il m v l) : ∃ a c, v = .slice a l.length c := by
  rcases h with ⟨c, rfl, e⟩ | ⟨b, o, c, n, arr, t, fr, rfl, _, e, _⟩
  · have : l.length = 0 := by simpa using congrArg List.length e
    exact ⟨none, c, by rw [this]⟩
  · have : l.length = n := by simpa using e
    exact ⟨_, c, by rw [this]⟩
theorem Ia.shape {m : Mem} {v : Value} {l : List Int} (h : Ia m v l) : ∃ a c, v = .slice a l.length c := by
  rcases h with h | ⟨rfl, a, rfl⟩
  · exact h.shape
  · exact ⟨_, _, rfl⟩
theorem Ia.one {m : Mem} {v : Value} {l : List Int} (h : Ia m v l) : v.oneCell' = true := by obtain ⟨a, c, rfl⟩ := h.shape; rfl
theorem Ia.il {m : Mem} {v : Value} {l : List Int} (h : Ia m v l) (hl : l ≠ []) : Il m v l := h.elim id fun h => absurd h.1 hl
theorem Il.real {m : Mem} {v : Value} {l : List Int} (h : Il m v l) {i : Nat} (hi : i < l.length) : ∃ b o c, v = .slice (some ⟨b, o, none⟩) l.length c ∧ ∀ j (hj : j < l.length), mcell m b (o + j) = some (.int .i64 l[j]) := by
  rcases h with ⟨c, rfl, e⟩ | ⟨b, o, c, n, arr, t, fr, rfl, g1, e, _, g2, _⟩
  · have : l.length = 0 := by simpa using congrArg List.length e
    omega
  · have : l.length = n := by simpa using e
    exact ⟨b, o, c, by rw [this], fun j hj => mcell_of g1 (g2 j _ (by simp [hj]))⟩
theorem Ia.real {m : Mem} {v : Value} {l : List Int} (h : Ia m v l) {i : Nat} (hi : i < l.length) : ∃ b o c, v = .slice (some ⟨b, o, none⟩) l.length c ∧ ∀ j (hj : j < l.length), mcell m b (o + j) = some (.int .i64 l[j]) :=
  (h.il (by rintro rfl; simp at hi)).real hi
theorem Ia.lenV {m : Mem} {v : Value} {l : List Int} (h : Ia m v l) : lenV v = l.length := by obtain ⟨a, c, rfl⟩ := h.shape; rfl
theorem buildI1 {m : Mem} {x : Int} : PrimSpec Try.prog (.buildSlice 23 1 [0]) [.v (.int .i64 x)] m fun r m' => ∃ b, m b = none ∧ r = [.v (.slice (some ⟨b, 0, none⟩) 1 1)] ∧ m' = m.set b (.cells #[.int .i64 x] 3) :=
  buildSlice_spec (n := 1) tt_ok hIs rfl hI' rfl rfl (by simp [CV.cs]) (by simp) (by simp)
theorem Ia.gives {m : Mem} {v : Value} {l : List Int} {e : TypeId} (h : Ia m v l) : Gives m 1 (.slice e) v (ic l) := .inl ⟨e, rfl, h.imp id fun ⟨h1, h2⟩ => ⟨by rw [h1]; rfl, h2⟩⟩
/-- append of numbers onto the i-th part -/
theorem appendIat {m p : Mem} {ls : List Mem} {i : Nat} {v x : Value} {l news : List Int} (hs : Split m ls) (hi : ls[i]? = some p) (hv : Io p v l) (hg : Ia m x news) (hb : l.length + news.length ≤ 1000000000) :
    PrimSpec Try.prog (.builtin .append [23, 23]) [.v v, .v x] m fun r m' => ∃ v' p', r = [.v v'] ∧ Split m' (ls.set i p') ∧ Io p' v' (l ++ news) := by
  have e1 := hv.il.ia.lenV
  have e2 := hg.lenV
  refine (append_at tt_ok hIs rfl hI' hIs rfl hs hi hv hg.gives (by rw [e1, e2]; simp only; omega) (by rw [e1, e2]; omega)).mono fun r m' ⟨v', p', h1, h2, h3⟩ => ⟨v', p', h1, h2, ?_⟩
  have := h3.own
  rw [show ic l ++ ic news = ic (l ++ news) by simp [ic]] at this
  exact this
theorem Il.blk1 {m : Mem} {b : Nat} {x : Int} {t : TypeId} {fr : Nat × Nat} (h : m b = some (.cells #[.int .i64 x] t fr)) : Il m (.slice (some ⟨b, 0, none⟩) 1 1) [x] :=
  .inr ⟨b, 0, 1, 1, _, _, _, rfl, h, rfl, Nat.le_refl _, fun j u hu => by simpa [ic] using hu, by simp [ic, Value.oneCell']⟩
/-- one number more -/
theorem pushI {m p : Mem} {ls : List Mem} {b' : Nat} {x : Int} {y : Value} {l : List Int} (hs : Split m (p :: ls)) (hb : m b' = none) (hy : Io p y l) (hl : l.length ≤ 100000000) :
    PrimSpec Try.prog (.builtin .append [23, 23]) [.v y, .v (.slice (some ⟨b', 0, none⟩) 1 1)] (m.set b' (.cells #[.int .i64 x] 3)) fun r m' => ∃ y' p', r = [.v y'] ∧ Split m' (p' :: ls) ∧ Io p' y' (l ++ [x]) := by
  have hs1 := hs.new hb (.cells #[.int .i64 x] 3)
  refine (appendIat (i := 1) hs1 rfl hy (Il.blk1 (Mem.set_same ..)).ia (by simp; omega)).mono fun r m' ⟨v', p', h1, h2, h3⟩ => ⟨v', p', h1, h2.erase 0, h3⟩
end Go.E.Ytjmjikemaafnjaa

/-
  Contracts of tree: places.
-/
namespace Go.E.Ytjmjikemaafnjaa
open Go.Proofs
set_option maxRecDepth 100000
namespace Tr
def kids (p : Int) : List Int := if 0 ≤ p ∧ p < 5 then [4 * p + 1, 4 * p + 2, 4 * p + 3, 4 * p + 4] else []
def up (p : Int) : Int := if 0 < p ∧ p < 21 then (p - 1) / 4 else -1
def leafOf (p : Int) : Int := if 5 ≤ p ∧ p < 21 then p - 5 else -1
def kidsL (l : List Int) : List Int := l.flatMap kids
theorem kids_len (p : Int) : (kids p).length ≤ 4 := by unfold kids; split <;> simp
theorem kidsL_len : ∀ (l : List Int), (kidsL l).length ≤ 4 * l.length
  | [] => by simp [kidsL]
  | p :: l => by
    have := kidsL_len l; have := kids_len p
    simp only [kidsL, List.flatMap_cons, List.length_append, List.length_cons] at *; omega
theorem kidsL_in : ∀ {l : List Int}, ∀ k ∈ kidsL l, 1 ≤ k ∧ k ≤ 20 := by
  intro l k hk
  obtain ⟨p, _, hp⟩ := List.mem_flatMap.1 hk
  unfold kids at hp
  split at hp
  · simp at hp; omega
  · simp at hp
end Tr
theorem isPlace_spec {m : Mem} {p : Int} : Ret Try.prog 33 [i64 p] m [boolV (decide (0 ≤ p ∧ p < 21))] := by
  refine en33 rfl (goY ?_)
  conv => whnf
  repeat' (first | (refine ⟨fun h => ?_, fun h => ?_⟩ <;> conv => whnf) | fail)
  · have h' := of_decide_eq_true h
    refine ⟨?_, rfl⟩
    rw [show decide (0 ≤ p ∧ p < 21) = decide (p < 21) from decide_eq_decide.2 (by omega)]
  · have h' := of_decide_eq_false h
    rw [decide_eq_false (by omega)]
    exact ⟨rfl, rfl⟩
theorem kids_spec {m : Mem} {p : Int} (hp : -9223372036854775808 ≤ p ∧ p ≤ 9223372036854775807) : Spec Try.prog 32 [i64 p] m fun r m' => ∃ v q, r = [.v v] ∧ Split m' [q, m] ∧ Io q v (Tr.kids p) := by
  refine en32 rfl (goY ?_)
  conv => whnf
  first | refine xretk (isPlace_spec) ?_ | refine xret (isPlace_spec) ?_
  conv => whnf
  by_cases h0 : 0 ≤ p ∧ p < 21
  · rw [decide_eq_true h0]
    refine ⟨fun h => absurd h (by decide), fun _ => ?_⟩
    conv => whnf
    refine ⟨fun h => ?_, fun h => ?_⟩
    · have h' := of_decide_eq_true h
      conv => whnf
      refine ⟨_, emp, rfl, (Split.one m).addEmp, ?_⟩
      rw [Tr.kids, if_neg (by omega)]
      exact Io.nil _
    · have h' := of_decide_eq_false h
      conv => whnf
      refine .mk (ι := Nat × Value) (fun i => 4 - i.1) (fun ⟨i, v⟩ mm => i ≤ 4 ∧ ∃ q, Split mm [q, m] ∧ Io q v ((Tr.kids p).take i)) (fun ⟨i, v⟩ => [(0, .c (i64 p)), (3, .c (.v v)), (12, .c (i64 i))]) (fun _ => []) (0, .slice none 0 0) ⟨by omega, emp, (Split.one m).addEmp, Io.nil _⟩ ?_ ?_
      · conv => whnf
        repeat (refine And.intro (by first | with_reducible rfl | exact congrArg (Value.int _) (wi (by omega) (by omega)) | exact wi (by omega) (by omega) | rfl) ?_; conv => whnf)
        first | exact trivial | exact fun _ _ h => h
      rintro ⟨i, v⟩ mm ⟨hi, q, hs, hv⟩
      have hk : Tr.kids p = [4 * p + 1, 4 * p + 2, 4 * p + 3, 4 * p + 4] := by rw [Tr.kids, if_pos (by omega)]
      conv => whnf
      refine ⟨fun h1 => ?_, fun h1 => ?_⟩
      · have h1' := of_decide_eq_true h1
        have hlt : i < 4 := by omega
        have ew : IntKind.i64.wrap (IntKind.i64.wrap (IntKind.i64.wrap (4 * p) + (i : Int)) + 1) = 4 * p + i + 1 := by rw [wi (n := 4 * p) (by omega) (by omega), wi (n := 4 * p + (i : Int)) (by omega) (by omega), wi (by omega) (by omega)]
        conv => whnf
        rw [ew]
        refine .mk _ (buildI1) ?_
        rintro _ _ ⟨b, hb, rfl, rfl⟩
        conv => whnf
        refine .mk _ (pushI hs hb hv (by simp; omega)) ?_
        rintro _ m1 ⟨v', q', rfl, hs', hv'⟩
        conv => whnf
        refine ⟨(i + 1, v'), ⟨by omega, q', hs', ?_⟩, by simp only; omega, ?_⟩
        · have : (Tr.kids p).take (i + 1) = (Tr.kids p).take i ++ [4 * p + i + 1] := by
            rw [hk]
            rcases i with _ | _ | _ | _ | i <;> simp <;> omega
          rw [this]; exact hv'
        · conv => whnf
          repeat (refine And.intro (by first | with_reducible rfl | (first | exact congrArg (Value.int _) (iadd (by omega))) | exact congrArg (Value.int _) (wi (by omega) (by omega)) | exact wi (by omega) (by omega) | rfl) ?_; conv => whnf)
          first | exact trivial | exact fun _ _ h => h
      · have h1' := of_decide_eq_false h1
        obtain rfl : i = 4 := by omega
        conv => whnf
        exact ⟨v, q, rfl, hs, by rw [hk] at hv ⊢; exact hv⟩
  · rw [decide_eq_false h0]
    refine ⟨fun _ => ?_, fun h => absurd h (by decide)⟩
    conv => whnf
    refine ⟨_, emp, rfl, (Split.one m).addEmp, ?_⟩
    rw [Tr.kids, if_neg (by omega)]
    exact Io.nil _
theorem up_place_spec {m : Mem} {p : Int} : Ret Try.prog 30 [i64 p] m [i64 (Tr.up p)] := by
  refine en30 rfl (goY ?_)
  conv => whnf
  first | refine xretk (isPlace_spec) ?_ | refine xret (isPlace_spec) ?_
  conv => whnf
  by_cases h0 : 0 ≤ p ∧ p < 21
  · rw [decide_eq_true h0]
    refine ⟨fun h => absurd h (by decide), fun _ => ?_⟩
    conv => whnf
    refine ⟨fun h => ?_, fun h => ?_⟩
    · have h' : p = 0 := by simpa using h
      conv => whnf
      exact ⟨by rw [Tr.up, if_neg (by omega)], rfl⟩
    · have h' : ¬ p = 0 := by simpa using h
      conv => whnf
      rw [wi (n := p - 1) (by omega) (by omega)]
      refine ⟨?_, rfl⟩
      rw [Tr.up, if_pos (by omega), show Int.tdiv (p - 1) 4 = (p - 1) / 4 from Int.tdiv_eq_ediv_of_nonneg (by omega), wi (by omega) (by omega)]
  · rw [decide_eq_false h0]
    refine ⟨fun _ => ?_, fun h => absurd h (by decide)⟩
    conv => whnf
    exact ⟨by rw [Tr.up, if_neg (by omega)], rfl⟩
theorem leaf_place_spec {m : Mem} {p : Int} : Ret Try.prog 25 [i64 p] m [i64 (Tr.leafOf p)] := by
  refine en25 rfl (goY ?_)
  conv => whnf
  first | refine xretk (isPlace_spec) ?_ | refine xret (isPlace_spec) ?_
  conv => whnf
  by_cases h0 : 0 ≤ p ∧ p < 21
  · rw [decide_eq_true h0]
    refine ⟨fun h => absurd h (by decide), fun _ => ?_⟩
    conv => whnf
    refine ⟨fun h => ?_, fun h => ?_⟩
    · have h' := of_decide_eq_true h
      conv => whnf
      exact ⟨by rw [Tr.leafOf, if_neg (by omega)], rfl⟩
    · have h' := of_decide_eq_false h
      conv => whnf
      rw [wi (n := p - 5) (by omega) (by omega)]
      exact ⟨by rw [Tr.leafOf, if_pos (by omega)], rfl⟩
  · rw [decide_eq_false h0]
    refine ⟨fun _ => ?_, fun h => absurd h (by decide)⟩
    conv => whnf
    exact ⟨by rw [Tr.leafOf, if_neg (by omega)], rfl⟩
end Go.E.Ytjmjikemaafnjaa

/-
  Bits of numbers, plainly.
-/
namespace Go.E
theorem ofInt_nat (w a : Nat) : BitVec.ofInt w (a : Int) = BitVec.ofNat w a := by simp
theorem toNat_ofInt {w a : Nat} (h : a < 2 ^ w) : (BitVec.ofInt w (a : Int)).toNat = a := by
  rw [ofInt_nat, BitVec.toNat_ofNat, Nat.mod_eq_of_lt h]
theorem or_u64 {a b : Nat} (ha : a < 2 ^ 64) (hb : b < 2 ^ 64) : bitsOf .or .u64 a b = ((a ||| b : Nat) : Int) := by
  have h := Nat.or_lt_two_pow ha hb
  show IntKind.u64.wrap ((BitVec.ofInt 64 a ||| BitVec.ofInt 64 b).toNat : Int) = _
  rw [BitVec.toNat_or, toNat_ofInt ha, toNat_ofInt hb, wu (by omega) (by omega)]
theorem and_u64 {a b : Nat} (ha : a < 2 ^ 64) (hb : b < 2 ^ 64) : bitsOf .and .u64 a b = ((a &&& b : Nat) : Int) := by
  have h := Nat.and_lt_two_pow a hb
  show IntKind.u64.wrap ((BitVec.ofInt 64 a &&& BitVec.ofInt 64 b).toNat : Int) = _
  rw [BitVec.toNat_and, toNat_ofInt ha, toNat_ofInt hb, wu (by omega) (by omega)]
theorem xor_u64 {a b : Nat} (ha : a < 2 ^ 64) (hb : b < 2 ^ 64) : bitsOf .xor .u64 a b = ((a ^^^ b : Nat) : Int) := by
  have h := Nat.xor_lt_two_pow ha hb
  show IntKind.u64.wrap ((BitVec.ofInt 64 a ^^^ BitVec.ofInt 64 b).toNat : Int) = _
  rw [BitVec.toNat_xor, toNat_ofInt ha, toNat_ofInt hb, wu (by omega) (by omega)]
theorem wu32 {n : Int} (h0 : 0 ≤ n) (h1 : n < 4294967296) : IntKind.u32.wrap n = n := by rw [IntKind.wrap_u32, Int.emod_eq_of_lt h0 h1]
theorem wu8 {n : Int} (h0 : 0 ≤ n) (h1 : n < 256) : IntKind.u8.wrap n = n := by rw [IntKind.wrap_u8, Int.emod_eq_of_lt h0 h1]
theorem or_u32 {a b : Nat} (ha : a < 2 ^ 32) (hb : b < 2 ^ 32) : bitsOf .or .u32 a b = ((a ||| b : Nat) : Int) := by
  have h := Nat.or_lt_two_pow ha hb
  show IntKind.u32.wrap ((BitVec.ofInt 32 a ||| BitVec.ofInt 32 b).toNat : Int) = _
  rw [BitVec.toNat_or, toNat_ofInt ha, toNat_ofInt hb, wu32 (by omega) (by omega)]
theorem and_u32 {a b : Nat} (ha : a < 2 ^ 32) (hb : b < 2 ^ 32) : bitsOf .and .u32 a b = ((a &&& b : Nat) : Int) := by
  have h := Nat.and_lt_two_pow a hb
  show IntKind.u32.wrap ((BitVec.ofInt 32 a &&& BitVec.ofInt 32 b).toNat : Int) = _
  rw [BitVec.toNat_and, toNat_ofInt ha, toNat_ofInt hb, wu32 (by omega) (by omega)]
theorem xor_u32 {a b : Nat} (ha : a < 2 ^ 32) (hb : b < 2 ^ 32) : bitsOf .xor .u32 a b = ((a ^^^ b : Nat) : Int) := by
  have h := Nat.xor_lt_two_pow ha hb
  show IntKind.u32.wrap ((BitVec.ofInt 32 a ^^^ BitVec.ofInt 32 b).toNat : Int) = _
  rw [BitVec.toNat_xor, toNat_ofInt ha, toNat_ofInt hb, wu32 (by omega) (by omega)]
theorem xor_u8 {a b : Nat} (ha : a < 2 ^ 8) (hb : b < 2 ^ 8) : bitsOf .xor .u8 a b = ((a ^^^ b : Nat) : Int) := by
  have h := Nat.xor_lt_two_pow ha hb
  show IntKind.u8.wrap ((BitVec.ofInt 8 a ^^^ BitVec.ofInt 8 b).toNat : Int) = _
  rw [BitVec.toNat_xor, toNat_ofInt ha, toNat_ofInt hb, wu8 (by omega) (by omega)]
/-- low bits below, the rest above -/
theorem or_low {a c : Nat} (k : Nat) (hc : c < 2 ^ k) : (a * 2 ^ k) ||| c = a * 2 ^ k + c := by
  rw [Nat.mul_comm, Nat.two_pow_add_eq_or_of_lt hc]
/-- all bits turned -/
theorem not_i64 {n : Int} (h0 : -9223372036854775808 ≤ n) (h1 : n ≤ 9223372036854775807) : bitsOf .xor .i64 (if IntKind.i64.signed = true then -1 else IntKind.i64.max) n = -n - 1 := by
  show IntKind.i64.wrap ((BitVec.ofInt 64 (-1) ^^^ BitVec.ofInt 64 n).toNat : Int) = _
  have e : BitVec.ofInt 64 (-1) = BitVec.allOnes 64 := by rfl
  have e2 : BitVec.allOnes 64 ^^^ BitVec.ofInt 64 n = ~~~ (BitVec.ofInt 64 n) := BitVec.allOnes_xor
  rw [e, e2, BitVec.toNat_not, BitVec.toNat_ofInt, IntKind.wrap_i64]
  omega
theorem not_u32 {n : Nat} (h1 : n < 2 ^ 32) : bitsOf .xor .u32 (if IntKind.u32.signed = true then -1 else IntKind.u32.max) n = ((4294967295 - n : Nat) : Int) := by
  show IntKind.u32.wrap ((BitVec.ofInt 32 4294967295 ^^^ BitVec.ofInt 32 n).toNat : Int) = _
  have e : BitVec.ofInt 32 4294967295 = BitVec.allOnes 32 := by rfl
  have e2 : BitVec.allOnes 32 ^^^ BitVec.ofInt 32 n = ~~~ (BitVec.ofInt 32 n) := BitVec.allOnes_xor
  rw [e, e2, BitVec.toNat_not, toNat_ofInt h1, wu32 (by omega) (by omega)]
theorem shr_nat {k : IntKind} {x n : Nat} (hn : n ≤ k.bits) : shrOf k (x : Int) (n : Int) = ((x / 2 ^ n : Nat) : Int) := by
  show (x : Int).fdiv (2 ^ (min ((n : Int).toNat) k.bits)) = _
  rw [Int.toNat_natCast, Nat.min_eq_left hn, Int.fdiv_eq_ediv_of_nonneg _ (Int.le_of_lt (Int.pow_pos (by decide)))]
  simp
theorem shl_u64 {x n : Nat} (hn : n ≤ 64) (hx : x * 2 ^ n < 18446744073709551616) : shlOf .u64 (x : Int) (n : Int) = ((x * 2 ^ n : Nat) : Int) := by
  show IntKind.u64.wrap ((x : Int) * 2 ^ (min ((n : Int).toNat) 64)) = _
  have : ((x : Int) * 2 ^ n) = ((x * 2 ^ n : Nat) : Int) := by simp
  rw [Int.toNat_natCast, Nat.min_eq_left hn, this, wu (by omega) (by omega)]
theorem tmod_nat (a b : Nat) : Int.tmod (a : Int) (b : Int) = ((a % b : Nat) : Int) := by rw [Int.tmod_eq_emod_of_nonneg (by omega)]; omega
theorem tdiv_nat (a b : Nat) : Int.tdiv (a : Int) (b : Int) = ((a / b : Nat) : Int) := by rw [Int.tdiv_eq_ediv_of_nonneg (by omega)]; omega
end Go.E

/-
  The digest, plainly.
-/
namespace Go.E
namespace Sha
abbrev M : Nat := 4294967296
def rotr (x n : Nat) : Nat := (x * 2 ^ (32 - n)) % M ||| x / 2 ^ n
def s0 (x : Nat) : Nat := rotr x 7 ^^^ rotr x 18 ^^^ x / 8
def s1 (x : Nat) : Nat := rotr x 17 ^^^ rotr x 19 ^^^ x / 1024
def S1 (x : Nat) : Nat := rotr x 6 ^^^ rotr x 11 ^^^ rotr x 25
def S0 (x : Nat) : Nat := rotr x 2 ^^^ rotr x 13 ^^^ rotr x 22
def ch (e f g : Nat) : Nat := (e &&& f) ^^^ ((4294967295 - e) &&& g)
def maj (a b c : Nat) : Nat := (a &&& b) ^^^ (a &&& c) ^^^ (b &&& c)
def K : List Nat := [
  0x428a2f98, 0x71374491, 0xb5c0fbcf, 0xe9b5dba5, 0x3956c25b, 0x59f111f1, 0x923f82a4, 0xab1c5ed5,
  0xd807aa98, 0x12835b01, 0x243185be, 0x550c7dc3, 0x72be5d74, 0x80deb1fe, 0x9bdc06a7, 0xc19bf174,
  0xe49b69c1, 0xefbe4786, 0x0fc19dc6, 0x240ca1cc, 0x2de92c6f, 0x4a7484aa, 0x5cb0a9dc, 0x76f988da,
  0x983e5152, 0xa831c66d, 0xb00327c8, 0xbf597fc7, 0xc6e00bf3, 0xd5a79147, 0x06ca6351, 0x14292967,
  0x27b70a85, 0x2e1b2138, 0x4d2c6dfc, 0x53380d13, 0x650a7354, 0x766a0abb, 0x81c2c92e, 0x92722c85,
  0xa2bfe8a1, 0xa81a664b, 0xc24b8b70, 0xc76c51a3, 0xd192e819, 0xd6990624, 0xf40e3585, 0x106aa070,
  0x19a4c116, 0x1e376c08, 0x2748774c, 0x34b0bcb5, 0x391c0cb3, 0x4ed8aa4a, 0x5b9cca4f, 0x682e6ff3,
  0x748f82ee, 0x78a5636f, 0x84c87814, 0x8cc70208, 0x90befffa, 0xa4506ceb, 0xbef9a3f7, 0xc67178f2]
def H0 : List Nat := [0x6a09e667, 0xbb67ae85, 0x3c6ef372, 0xa54ff53a, 0x510e527f, 0x9b05688c, 0x1f83d9ab, 0x5be0cd19]
/-- the t-th word of a block, by those ahead of it -/
def word (b w : List Nat) (t : Nat) : Nat :=
  if t < 16 then b.getD (4 * t) 0 * 16777216 + b.getD (4 * t + 1) 0 * 65536 + b.getD (4 * t + 2) 0 * 256 + b.getD (4 * t + 3) 0
  else (w.getD (t - 16) 0 + s0 (w.getD (t - 15) 0) + w.getD (t - 7) 0 + s1 (w.getD (t - 2) 0)) % M
def words (b : List Nat) : Nat → List Nat
  | 0 => []
  | t + 1 => words b t ++ [word b (words b t) t]
def step (k w : Nat) (v : List Nat) : List Nat :=
  let x := (v.getD 7 0 + S1 (v.getD 4 0) + ch (v.getD 4 0) (v.getD 5 0) (v.getD 6 0) + k + w) % M
  let y := (S0 (v.getD 0 0) + maj (v.getD 0 0) (v.getD 1 0) (v.getD 2 0)) % M
  [(x + y) % M, v.getD 0 0, v.getD 1 0, v.getD 2 0, (v.getD 3 0 + x) % M, v.getD 4 0, v.getD 5 0, v.getD 6 0]
def rounds (w v : List Nat) : Nat → List Nat
  | 0 => v
  | t + 1 => step (K.getD t 0) (w.getD t 0) (rounds w v t)
def add8 (h v : List Nat) : List Nat := (List.range 8).map fun i => (h.getD i 0 + v.getD i 0) % M
def block (h b : List Nat) : List Nat := add8 h (rounds (words b 64) h 64)
/-- how many zeros stand behind n bytes and the mark -/
def zeros (n : Nat) : Nat := (119 - n % 64) % 64
def be8 (n : Nat) : List Nat := (List.range 8).map fun i => n / 256 ^ (7 - i) % 256
def pad (b : List Nat) : List Nat := b ++ [128] ++ List.replicate (zeros b.length) 0 ++ be8 (8 * b.length)
def blocks (h : List Nat) : Nat → List Nat → List Nat
  | 0, _ => h
  | n + 1, p => blocks (block h (p.take 64)) n (p.drop 64)
def digest (h : List Nat) : List Nat := (List.range 32).map fun i => h.getD (i / 4) 0 / 256 ^ (3 - i % 4) % 256
def sum (b : List Nat) : List Nat := digest (blocks H0 ((pad b).length / 64) (pad b))
def point (b : List Nat) : Nat := (List.range 8).foldl (fun n i => n * 256 + (sum b).getD i 0) 0

/-- the same, in the way of one who must reckon: each number is made plain ahead of the next -/
noncomputable def natK {α : Type} (n : Nat) (k : Nat → α) : α := Nat.rec (motive := fun _ => α) (k 0) (fun m _ => k (m + 1)) n
theorem natK_eq {α : Type} (n : Nat) (k : Nat → α) : natK n k = k n := by cases n <;> rfl
noncomputable def listK {α : Type} : List Nat → (List Nat → α) → α
  | [], k => k []
  | x :: l, k => natK x fun x => listK l fun l => k (x :: l)
theorem listK_eq {α : Type} : ∀ (l : List Nat) (k : List Nat → α), listK l k = k l
  | [], _ => rfl
  | x :: l, k => by simp only [listK, natK_eq, listK_eq l]
noncomputable def wordsK {α : Type} (b : List Nat) : Nat → (List Nat → α) → α
  | 0, k => k []
  | t + 1, k => wordsK b t fun w => natK (word b w t) fun x => k (w ++ [x])
theorem wordsK_eq {α : Type} (b : List Nat) : ∀ (t : Nat) (k : List Nat → α), wordsK b t k = k (words b t)
  | 0, _ => rfl
  | t + 1, k => by simp only [wordsK, words, natK_eq, wordsK_eq b t]
noncomputable def iterK {α : Type} (f : Nat → List Nat → List Nat) (v : List Nat) : Nat → (List Nat → α) → α
  | 0, k => listK v k
  | t + 1, k => iterK f v t fun v => listK (f t v) k
def iter (f : Nat → List Nat → List Nat) (v : List Nat) : Nat → List Nat
  | 0 => v
  | t + 1 => f t (iter f v t)
theorem iterK_eq {α : Type} (f : Nat → List Nat → List Nat) (v : List Nat) : ∀ (t : Nat) (k : List Nat → α), iterK f v t k = k (iter f v t)
  | 0, k => by simp only [iterK, iter, listK_eq]
  | t + 1, k => by simp only [iterK, iter, listK_eq, iterK_eq f v t]
theorem iter_rounds (w v : List Nat) : ∀ t, iter (fun t v => step (K.getD t 0) (w.getD t 0) v) v t = rounds w v t
  | 0 => rfl
  | t + 1 => by rw [iter, iter_rounds w v t]; rfl
noncomputable def roundsK {α : Type} (w v : List Nat) (t : Nat) (k : List Nat → α) : α := iterK (fun t v => step (K.getD t 0) (w.getD t 0) v) v t k
theorem roundsK_eq {α : Type} (w v : List Nat) (t : Nat) (k : List Nat → α) : roundsK w v t k = k (rounds w v t) := by
  rw [roundsK, iterK_eq, iter_rounds]
noncomputable def blockK {α : Type} (h b : List Nat) (k : List Nat → α) : α := listK b fun b => wordsK b 64 fun w => listK w fun w => roundsK w h 64 fun v => listK (add8 h v) k
theorem blockK_eq {α : Type} (h b : List Nat) (k : List Nat → α) : blockK h b k = k (block h b) := by
  rw [blockK, listK_eq, wordsK_eq, listK_eq, roundsK_eq, listK_eq, block]
noncomputable def blocksK {α : Type} (h : List Nat) : Nat → List Nat → (List Nat → α) → α
  | 0, _, k => k h
  | n + 1, p, k => blockK h (p.take 64) fun h' => listK (p.drop 64) fun p' => blocksK h' n p' k
theorem blocksK_eq {α : Type} : ∀ (n : Nat) (h p : List Nat) (k : List Nat → α), blocksK h n p k = k (blocks h n p)
  | 0, _, _, _ => rfl
  | n + 1, h, p, k => by simp only [blocksK, blocks, blockK_eq, listK_eq, blocksK_eq n]
noncomputable def sumK (b : List Nat) : List Nat := listK (pad b) fun p => blocksK H0 (p.length / 64) p fun h => listK (digest h) fun d => d
theorem sumK_eq (b : List Nat) : sumK b = sum b := by simp only [sumK, listK_eq, blocksK_eq, sum]
end Sha
end Go.E

/-
  Contracts of sha: words.
-/
namespace Go.E.Ytjmjikemaafnjaa
open Go.Proofs
set_option maxRecDepth 100000
abbrev u32 (n : Int) : CV := .v (.int .u32 n)
theorem rotl_arg {n : Nat} (h1 : 1 ≤ n) (h2 : n ≤ 31) : bitsOf .and .u64 (IntKind.u64.wrap (IntKind.i64.wrap (0 - (n : Int)))) 31 = ((32 - n : Nat) : Int) := by
  have e : IntKind.u64.wrap (IntKind.i64.wrap (0 - (n : Int))) = ((18446744073709551616 - n : Nat) : Int) := by
    rw [wi (by omega) (by omega), IntKind.wrap_u64]; omega
  have e2 := and_u64 (a := 18446744073709551616 - n) (b := 31) (by omega) (by omega)
  rw [e]
  refine e2.trans ?_
  have : (18446744073709551616 - n) &&& 31 = (18446744073709551616 - n) % 2 ^ 5 := Nat.and_two_pow_sub_one_eq_mod (18446744073709551616 - n) 5
  rw [this]; omega
theorem shl_u32 {x n : Nat} (hn : n ≤ 32) : shlOf .u32 (x : Int) (n : Int) = ((x * 2 ^ n % Sha.M : Nat) : Int) := by
  show IntKind.u32.wrap ((x : Int) * 2 ^ (min ((n : Int).toNat) 32)) = _
  rw [Int.toNat_natCast, Nat.min_eq_left hn, IntKind.wrap_u32]
  have : ((x : Int) * 2 ^ n) = ((x * 2 ^ n : Nat) : Int) := by simp
  rw [this]; rfl
theorem rotr_lt {x n : Nat} (hx : x < 2 ^ 32) : Sha.rotr x n < 2 ^ 32 := Nat.or_lt_two_pow (Nat.mod_lt _ (by decide)) (Nat.lt_of_le_of_lt (Nat.div_le_self ..) hx)
theorem rotl_spec {m : Mem} {x n : Nat} (h1 : 1 ≤ n) (h2 : n ≤ 31) (hx : x < 2 ^ 32) : Ret Try.prog 45 [u32 x, i64 (IntKind.i64.wrap (0 - (n : Int)))] m [u32 ((Sha.rotr x n : Nat) : Int)] := by
  refine en45 rfl (goY ?_)
  conv => whnf
  rw [rotl_arg h1 h2]
  repeat (refine And.intro (by first | omega | (simp only [times]; omega)) ?_; conv => whnf)
  have e1 : IntKind.u64.wrap (32 - ((32 - n : Nat) : Int)) = (n : Int) := by rw [wu (by omega) (by omega)]; omega
  rw [e1]
  repeat (refine And.intro (by first | omega | (simp only [times]; omega)) ?_; conv => whnf)
  refine ⟨?_, rfl⟩
  rw [shl_u32 (by omega), shr_nat (by show n ≤ 32; omega)]
  have := or_u32 (a := x * 2 ^ (32 - n) % Sha.M) (b := x / 2 ^ n) (Nat.mod_lt _ (by decide)) (Nat.lt_of_le_of_lt (Nat.div_le_self ..) hx)
  rw [this]; rfl
theorem right_spec {m : Mem} {x n : Nat} (h1 : 1 ≤ n) (h2 : n ≤ 31) (hx : x < 2 ^ 32) : Ret Try.prog 43 [u32 x, i64 n] m [u32 ((Sha.rotr x n : Nat) : Int)] := by
  refine en43 rfl (goY ?_)
  conv => whnf
  first | refine xretk (rotl_spec h1 h2 hx) ?_ | refine xret (rotl_spec h1 h2 hx) ?_
  conv => whnf
  exact ⟨rfl, rfl⟩
theorem consts_spec {m : Mem} : Ret Try.prog 41 [] m [.a [.ints .u32 64 (Sha.K.map fun (n : Nat) => (n : Int))]] := by
  refine en41 rfl (goY ?_)
  conv => whnf
  exact ⟨rfl, rfl⟩
theorem first_spec {m : Mem} : Ret Try.prog 34 [] m [.a [.ints .u32 8 (Sha.H0.map fun (n : Nat) => (n : Int))]] := by
  refine en34 rfl (goY ?_)
  conv => whnf
  exact ⟨rfl, rfl⟩
/-- the first i words of 64 -/
def wc (b : List Nat) (i : Nat) : List Int := (Sha.words b i).map (fun (n : Nat) => (n : Int)) ++ List.replicate (64 - i) 0
theorem words_len (b : List Nat) : ∀ t, (Sha.words b t).length = t
  | 0 => rfl
  | t + 1 => by simp [Sha.words, words_len b t]
theorem wc_get {b : List Nat} {i j : Nat} (h : j < i) : (wc b i).getD j 0 = (((Sha.words b i).getD j 0 : Nat) : Int) := by
  have hl := words_len b i
  simp only [wc, List.getD_eq_getElem?_getD]
  rw [List.getElem?_append_left (by simp [hl, h]), List.getElem?_map, List.getElem?_eq_getElem (by omega)]
  rfl
theorem wc_set {b : List Nat} {i : Nat} {x : Int} (h : i < 64) (hx : x = ((Sha.word b (Sha.words b i) i : Nat) : Int)) : (wc b i).set i x = wc b (i + 1) := by
  have hl := words_len b i
  have e : List.replicate (64 - i) (0 : Int) = 0 :: List.replicate (64 - (i + 1)) 0 := by
    rw [← List.replicate_succ]; congr 1; omega
  rw [wc, e, List.set_append_right _ _ (by simp [hl]), wc, Sha.words, hx]
  simp [hl]
theorem word_lt {b : List Nat} (hb : ∀ x ∈ b, x < 256) (w : List Nat) (t : Nat) : Sha.word b w t < 2 ^ 32 := by
  have g : ∀ k, b.getD k 0 < 256 := fun k => by
    simp only [List.getD_eq_getElem?_getD]
    cases h : b[k]? with
    | none => simp
    | some x => simpa using hb x (List.mem_of_getElem? h)
  unfold Sha.word
  split
  · have := g (4 * t); have := g (4 * t + 1); have := g (4 * t + 2); have := g (4 * t + 3); omega
  · exact Nat.mod_lt _ (by decide)
theorem words_lt {b : List Nat} (hb : ∀ x ∈ b, x < 256) : ∀ (t : Nat) (k : Nat), (Sha.words b t).getD k 0 < 2 ^ 32
  | 0, k => by simp [Sha.words]
  | t + 1, k => by
    have ih := words_lt hb t k
    have hl := words_len b t
    simp only [Sha.words, List.getD_eq_getElem?_getD] at ih ⊢
    rcases Nat.lt_trichotomy k t with h | h | h
    · rw [List.getElem?_append_left (by omega)]; exact ih
    · subst h; rw [List.getElem?_append_right (by omega), hl]; simpa using word_lt hb _ _
    · rw [List.getElem?_eq_none (by simp; omega)]; simp
theorem Lb.at {m : Mem} {b o n c j : Nat} {l : List Int} (h : Lb m (.slice (some ⟨b, o, none⟩) n c) l) {x : Int} (hj : l[j]? = some x) : mcell m b (o + j) = some (.int .u8 x) := by
  obtain ⟨arr, t, fr, h1, h2⟩ := h.range
  exact mcell_of h1 (h2 j _ (by simp [hj]))
theorem be4_nat {a b c d : Nat} (ha : a < 256) (hb : b < 256) (hc : c < 256) (hd : d < 256) :
    ((a * 2 ^ 24 % 4294967296 ||| b * 2 ^ 16 % 4294967296) ||| c * 2 ^ 8 % 4294967296) ||| d = a * 16777216 + b * 65536 + c * 256 + d := by
  have q24 : (2 : Nat) ^ 24 = 16777216 := rfl
  have q16 : (2 : Nat) ^ 16 = 65536 := rfl
  have q8 : (2 : Nat) ^ 8 = 256 := rfl
  have m1 := @or_low a (b * 65536) 24
  have m2 := @or_low (a * 256 + b) (c * 256) 16
  have m3 := @or_low (a * 65536 + b * 256 + c) d 8
  rw [q24] at m1 ⊢
  rw [q16] at m2 ⊢
  rw [q8] at m3 ⊢
  have m1 := m1 (by omega)
  have m2 := m2 (by omega)
  have m3 := m3 (by omega)
  rw [Nat.mod_eq_of_lt (show a * 16777216 < 4294967296 by omega), Nat.mod_eq_of_lt (show b * 65536 < 4294967296 by omega), Nat.mod_eq_of_lt (show c * 256 < 4294967296 by omega), m1,
    show a * 16777216 + b * 65536 = (a * 256 + b) * 65536 by omega, m2, show (a * 256 + b) * 65536 + c * 256 = (a * 65536 + b * 256 + c) * 256 by omega, m3, show (a * 65536 + b * 256 + c) * 256 + d = a * 16777216 + b * 65536 + c * 256 + d by omega]
theorem be4_int {a b c d : Nat} (ha : a < 256) (hb : b < 256) (hc : c < 256) (hd : d < 256) :
    bitsOf .or .u32 (bitsOf .or .u32 (bitsOf .or .u32 (shlOf .u32 (a : Int) 24) (shlOf .u32 (b : Int) 16)) (shlOf .u32 (c : Int) 8)) (d : Int) = ((a * 16777216 + b * 65536 + c * 256 + d : Nat) : Int) := by
  have ea := shl_u32 (x := a) (n := 24) (by decide)
  have eb := shl_u32 (x := b) (n := 16) (by decide)
  have ec := shl_u32 (x := c) (n := 8) (by decide)
  rw [show ((24 : Int)) = ((24 : Nat) : Int) from rfl, show ((16 : Int)) = ((16 : Nat) : Int) from rfl, show ((8 : Int)) = ((8 : Nat) : Int) from rfl, ea, eb, ec]
  have p1 : a * 2 ^ 24 % Sha.M < 2 ^ 32 := Nat.mod_lt _ (by decide)
  have p2 : b * 2 ^ 16 % Sha.M < 2 ^ 32 := Nat.mod_lt _ (by decide)
  have p3 : c * 2 ^ 8 % Sha.M < 2 ^ 32 := Nat.mod_lt _ (by decide)
  rw [or_u32 p1 p2, or_u32 (Nat.or_lt_two_pow p1 p2) p3, or_u32 (Nat.or_lt_two_pow (Nat.or_lt_two_pow p1 p2) p3) (Nat.lt_of_lt_of_le hd (by decide)), be4_nat ha hb hc hd]
theorem getD_lt {bs : List Nat} {n : Nat} (hn : 0 < n) (hb : ∀ x ∈ bs, x < n) (k : Nat) : bs.getD k 0 < n := by
  simp only [List.getD_eq_getElem?_getD]
  cases h : bs[k]? with
  | none => simpa using hn
  | some x => simpa using hb x (List.mem_of_getElem? h)
theorem w32 {a : Nat} (h : a < 256) : IntKind.u32.wrap (a : Int) = (a : Int) := wu32 (by omega) (by omega)
theorem word_bytes {bs : List Nat} (hb : ∀ x ∈ bs, x < 256) {i : Nat} (hi : i < 16) {w : List Nat} :
    bitsOf .or .u32 (bitsOf .or .u32 (bitsOf .or .u32 (shlOf .u32 (IntKind.u32.wrap ((bs.getD (4 * i + 0) 0 : Nat) : Int)) 24) (shlOf .u32 (IntKind.u32.wrap ((bs.getD (4 * i + 1) 0 : Nat) : Int)) 16)) (shlOf .u32 (IntKind.u32.wrap ((bs.getD (4 * i + 2) 0 : Nat) : Int)) 8)) (IntKind.u32.wrap ((bs.getD (4 * i + 3) 0 : Nat) : Int))
      = ((Sha.word bs w i : Nat) : Int) := by
  have g := getD_lt (by decide) hb
  rw [w32 (g _), w32 (g _), w32 (g _), w32 (g _), be4_int (g _) (g _) (g _) (g _), Sha.word, if_pos hi, Nat.add_zero]
theorem add_u32 (a b : Nat) : IntKind.u32.wrap ((a : Int) + (b : Int)) = (((a + b) % Sha.M : Nat) : Int) := by
  rw [IntKind.wrap_u32, ← Int.natCast_add]; rfl
theorem s0_eq {x : Nat} (hx : x < 2 ^ 32) : bitsOf .xor .u32 (bitsOf .xor .u32 ((Sha.rotr x 7 : Nat) : Int) ((Sha.rotr x 18 : Nat) : Int)) (shrOf .u32 (x : Int) 3) = ((Sha.s0 x : Nat) : Int) := by
  have e := shr_nat (k := .u32) (x := x) (n := 3) (by decide)
  rw [show ((3 : Int)) = ((3 : Nat) : Int) from rfl, e, xor_u32 (rotr_lt hx) (rotr_lt hx), xor_u32 (Nat.xor_lt_two_pow (rotr_lt hx) (rotr_lt hx)) (Nat.lt_of_le_of_lt (Nat.div_le_self ..) hx)]
  rfl
theorem s1_eq {x : Nat} (hx : x < 2 ^ 32) : bitsOf .xor .u32 (bitsOf .xor .u32 ((Sha.rotr x 17 : Nat) : Int) ((Sha.rotr x 19 : Nat) : Int)) (shrOf .u32 (x : Int) 10) = ((Sha.s1 x : Nat) : Int) := by
  have e := shr_nat (k := .u32) (x := x) (n := 10) (by decide)
  rw [show ((10 : Int)) = ((10 : Nat) : Int) from rfl, e, xor_u32 (rotr_lt hx) (rotr_lt hx), xor_u32 (Nat.xor_lt_two_pow (rotr_lt hx) (rotr_lt hx)) (Nat.lt_of_le_of_lt (Nat.div_le_self ..) hx)]
  rfl
theorem mod4 (a b c d : Nat) : (((a + b) % Sha.M + c) % Sha.M + d) % Sha.M = (a + b + c + d) % Sha.M := by show (((a + b) % 4294967296 + c) % 4294967296 + d) % 4294967296 = (a + b + c + d) % 4294967296; omega
theorem word_later {bs : List Nat} {i : Nat} (hw : ∀ k, (Sha.words bs i).getD k 0 < 2 ^ 32) (hi : 16 ≤ i) :
    IntKind.u32.wrap (IntKind.u32.wrap (IntKind.u32.wrap ((((Sha.words bs i).getD (i - 16) 0 : Nat) : Int) + bitsOf .xor .u32 (bitsOf .xor .u32 ((Sha.rotr ((Sha.words bs i).getD (i - 15) 0) 7 : Nat) : Int) ((Sha.rotr ((Sha.words bs i).getD (i - 15) 0) 18 : Nat) : Int)) (shrOf .u32 (((Sha.words bs i).getD (i - 15) 0 : Nat) : Int) 3)) + (((Sha.words bs i).getD (i - 7) 0 : Nat) : Int))
      + bitsOf .xor .u32 (bitsOf .xor .u32 ((Sha.rotr ((Sha.words bs i).getD (i - 2) 0) 17 : Nat) : Int) ((Sha.rotr ((Sha.words bs i).getD (i - 2) 0) 19 : Nat) : Int)) (shrOf .u32 (((Sha.words bs i).getD (i - 2) 0 : Nat) : Int) 10)) = ((Sha.word bs (Sha.words bs i) i : Nat) : Int) := by
  rw [s0_eq (hw _), s1_eq (hw _), add_u32, add_u32, add_u32, mod4, Sha.word, if_neg (by omega)]
set_option maxHeartbeats 4000000 in
theorem spread_spec {m : Mem} {b o c : Nat} {bs : List Nat} (hl : bs.length = 64) (hb : ∀ x ∈ bs, x < 256) (hv : Lb m (.slice (some ⟨b, o, none⟩) 64 c) (bs.map fun (n : Nat) => (n : Int))) (hc : 64 ≤ c) :
    Ret Try.prog 42 [.v (.slice (some ⟨b, o, none⟩) 64 c)] m [.a [.ints .u32 64 ((Sha.words bs 64).map fun (n : Nat) => (n : Int))]] := by
  refine en42 rfl (goY ?_)
  conv => whnf
  refine .mk (ι := Nat) (fun i => 16 - i) (fun i mm => i ≤ 16 ∧ mm = m) (fun i => [(0, .c (.v (.slice (some ⟨b, o, none⟩) 64 c))), (2, .p 0 0), (3, .p 1 0), (9, .c (i64 i))])
    (fun i => [(75, [.ints .u32 64 (List.replicate 64 0)]), (75, [.ints .u32 64 (wc bs i)])]) 0 ⟨by omega, rfl⟩ ?_ ?_
  · conv => whnf
    repeat (refine And.intro (by first | with_reducible rfl | exact congrArg (Value.int _) (wi (by omega) (by omega)) | exact wi (by omega) (by omega) | rfl) ?_; conv => whnf)
    first | exact trivial | exact fun _ _ h => h
  rintro i mm ⟨hi, he⟩
  subst mm
  conv => whnf
  refine ⟨fun h => ?_, fun h => ?_⟩
  · have h' := of_decide_eq_true h
    have hlt : i < 16 := by omega
    have e4 : IntKind.i64.wrap (4 * (i : Int)) = ((4 * i : Nat) : Int) := by rw [wi (by omega) (by omega)]; omega
    conv => whnf
    rw [e4]
    repeat (refine And.intro (by first | omega | (simp only [times]; omega)) ?_; conv => whnf)
    intro o' ho _
    obtain rfl : o' = o + 4 * i := by have := ho (by omega); rw [Int.toNat_natCast] at this; simpa using this
    have ld : ∀ k, k < 4 → mcell m b (o + 4 * i + k) = some (.int .u8 ((bs.getD (4 * i + k) 0 : Nat) : Int)) := fun k hk => by
      have := Lb.at hv (j := 4 * i + k) (x := ((bs.getD (4 * i + k) 0 : Nat) : Int)) (by simp [List.getD_eq_getElem?_getD, List.getElem?_eq_getElem (show 4 * i + k < bs.length by omega)])
      rw [Nat.add_assoc]; exact this
    conv => whnf
    repeat (refine And.intro (by first | omega | (simp only [times]; omega)) ?_; conv => whnf)
    refine ⟨_, ld 0 (by decide), rfl, ?_⟩
    conv => whnf
    repeat (refine And.intro (by first | omega | (simp only [times]; omega)) ?_; conv => whnf)
    refine ⟨_, ld 1 (by decide), rfl, ?_⟩
    conv => whnf
    repeat (refine And.intro (by first | omega | (simp only [times]; omega)) ?_; conv => whnf)
    refine ⟨_, ld 2 (by decide), rfl, ?_⟩
    conv => whnf
    repeat (refine And.intro (by first | omega | (simp only [times]; omega)) ?_; conv => whnf)
    refine ⟨_, ld 3 (by decide), rfl, ?_⟩
    conv => whnf
    repeat (refine And.intro (by first | omega | (simp only [times]; omega)) ?_; conv => whnf)
    refine ⟨i + 1, ⟨by omega, rfl⟩, by omega, ?_⟩
    conv => whnf
    repeat (refine And.intro (by first | with_reducible rfl | (first | exact congrArg (Value.int _) (iadd (by omega)) | exact wc_set (by omega) (word_bytes hb hlt)) | exact congrArg (Value.int _) (wi (by omega) (by omega)) | exact wi (by omega) (by omega) | rfl) ?_; conv => whnf)
    first | exact trivial | exact fun _ _ h => h
  · have h' := of_decide_eq_false h
    obtain rfl : i = 16 := by omega
    conv => whnf
    refine .mk (ι := Nat) (fun i => 64 - i) (fun i mm => 16 ≤ i ∧ i ≤ 64 ∧ mm = m) (fun i => [(2, .p 0 0), (3, .p 1 0), (6, .c (i64 i))])
      (fun i => [(75, [.ints .u32 64 (List.replicate 64 0)]), (75, [.ints .u32 64 (wc bs i)])]) 16 ⟨by omega, by omega, rfl⟩ ?_ ?_
    · conv => whnf
      repeat (refine And.intro (by first | with_reducible rfl | exact congrArg (Value.int _) (wi (by omega) (by omega)) | exact wi (by omega) (by omega) | rfl) ?_; conv => whnf)
      first | exact trivial | exact fun _ _ h => h
    rintro i mm ⟨hi0, hi, he⟩
    subst mm
    conv => whnf
    refine ⟨fun h => ?_, fun h => ?_⟩
    · have h' := of_decide_eq_true h
      have hlt : i < 64 := by omega
      have hw := words_lt hb i
      have sb : ∀ k : Nat, 1 ≤ k → k ≤ 16 → IntKind.i64.wrap ((i : Int) - (k : Int)) = ((i - k : Nat) : Int) := fun k h1 h2 => by rw [wi (by omega) (by omega)]; omega
      have gt : ∀ k : Nat, 1 ≤ k → k ≤ 16 → (wc bs i).getD (i - k) 0 = (((Sha.words bs i).getD (i - k) 0 : Nat) : Int) := fun k h1 h2 => wc_get (by omega)
      conv => whnf
      rw [show IntKind.i64.wrap ((i : Int) - 15) = _ from sb 15 (by decide) (by decide)]
      repeat (refine And.intro (by first | omega | (simp only [times]; omega)) ?_; conv => whnf)
      rw [show IntKind.i64.wrap ((i : Int) - 2) = _ from sb 2 (by decide) (by decide)]
      repeat (refine And.intro (by first | omega | (simp only [times]; omega)) ?_; conv => whnf)
      rw [show IntKind.i64.wrap ((i : Int) - 16) = _ from sb 16 (by decide) (by decide)]
      repeat (refine And.intro (by first | omega | (simp only [times]; omega)) ?_; conv => whnf)
      simp only [times, Int.toNat_natCast, gt 15 (by decide) (by decide), gt 2 (by decide) (by decide), gt 16 (by decide) (by decide)]
      rw [show IntKind.i64.wrap ((i : Int) - 7) = _ from sb 7 (by decide) (by decide)]
      repeat (refine And.intro (by first | omega | (simp only [times]; omega)) ?_; conv => whnf)
      simp only [Int.toNat_natCast, gt 7 (by decide) (by decide)]
      first | refine xretk (right_spec (n := 7) (by decide) (by decide) (hw _)) ?_ | refine xret (right_spec (n := 7) (by decide) (by decide) (hw _)) ?_
      conv => whnf
      first | refine xretk (right_spec (n := 18) (by decide) (by decide) (hw _)) ?_ | refine xret (right_spec (n := 18) (by decide) (by decide) (hw _)) ?_
      conv => whnf
      first | refine xretk (right_spec (n := 17) (by decide) (by decide) (hw _)) ?_ | refine xret (right_spec (n := 17) (by decide) (by decide) (hw _)) ?_
      conv => whnf
      first | refine xretk (right_spec (n := 19) (by decide) (by decide) (hw _)) ?_ | refine xret (right_spec (n := 19) (by decide) (by decide) (hw _)) ?_
      conv => whnf
      repeat (refine And.intro (by first | omega | (simp only [times]; omega)) ?_; conv => whnf)
      refine ⟨i + 1, ⟨by omega, by omega, rfl⟩, by omega, ?_⟩
      conv => whnf
      repeat (refine And.intro (by first | with_reducible rfl | (first | exact congrArg (Value.int _) (iadd (by omega)) | exact wc_set (by omega) (word_later hw hi0)) | exact congrArg (Value.int _) (wi (by omega) (by omega)) | exact wi (by omega) (by omega) | rfl) ?_; conv => whnf)
      first | exact trivial | exact fun _ _ h => h
    · have h' := of_decide_eq_false h
      obtain rfl : i = 64 := by omega
      conv => whnf
      exact ⟨by simp [wc], rfl⟩
end Go.E.Ytjmjikemaafnjaa

/-
  Contracts of sha: a block.
-/
namespace Go.E.Ytjmjikemaafnjaa
open Go.Proofs
set_option maxRecDepth 100000
abbrev nc (l : List Nat) : List Int := l.map fun (n : Nat) => (n : Int)
theorem nc_get (l : List Nat) (k : Nat) : (nc l).getD k 0 = ((l.getD k 0 : Nat) : Int) := by
  simp only [nc, List.getD_eq_getElem?_getD, List.getElem?_map]
  cases l[k]? <;> rfl
/-- eight words -/
structure W8 (v : List Nat) : Prop where
  len : v.length = 8
  lt : ∀ k, v.getD k 0 < 2 ^ 32
theorem step_w8 {k w : Nat} {v : List Nat} (h : W8 v) : W8 (Sha.step k w v) := by
  refine ⟨rfl, fun j => getD_lt (by decide) (fun x hx => ?_) j⟩
  simp only [Sha.step, List.mem_cons, List.not_mem_nil, or_false] at hx
  rcases hx with rfl | rfl | rfl | rfl | rfl | rfl | rfl | rfl
  · exact Nat.mod_lt _ (by decide)
  · exact h.lt 0
  · exact h.lt 1
  · exact h.lt 2
  · exact Nat.mod_lt _ (by decide)
  · exact h.lt 4
  · exact h.lt 5
  · exact h.lt 6
theorem rounds_w8 {w v : List Nat} (h : W8 v) : ∀ t, W8 (Sha.rounds w v t)
  | 0 => h
  | t + 1 => step_w8 (rounds_w8 h t)
theorem xor3 {a b c : Nat} (ha : a < 2 ^ 32) (hb : b < 2 ^ 32) (hc : c < 2 ^ 32) : bitsOf .xor .u32 (bitsOf .xor .u32 (a : Int) (b : Int)) (c : Int) = ((a ^^^ b ^^^ c : Nat) : Int) := by
  rw [xor_u32 ha hb, xor_u32 (Nat.xor_lt_two_pow ha hb) hc]
theorem and_lt {a b : Nat} (ha : a < 2 ^ 32) : a &&& b < 2 ^ 32 := Nat.lt_of_le_of_lt Nat.and_le_left ha
theorem ch_eq {e f g : Nat} (he : e < 2 ^ 32) (hf : f < 2 ^ 32) (hg : g < 2 ^ 32) :
    bitsOf .xor .u32 (bitsOf .and .u32 (e : Int) (f : Int)) (bitsOf .and .u32 (bitsOf .xor .u32 (if IntKind.u32.signed = true then -1 else IntKind.u32.max) (e : Int)) (g : Int)) = ((Sha.ch e f g : Nat) : Int) := by
  have hn : 4294967295 - e < 2 ^ 32 := by omega
  rw [not_u32 he, and_u32 he hf, and_u32 hn hg, xor_u32 (and_lt he) (and_lt hn)]; rfl
theorem maj_eq {a b c : Nat} (ha : a < 2 ^ 32) (hb : b < 2 ^ 32) (hc : c < 2 ^ 32) :
    bitsOf .xor .u32 (bitsOf .xor .u32 (bitsOf .and .u32 (a : Int) (b : Int)) (bitsOf .and .u32 (a : Int) (c : Int))) (bitsOf .and .u32 (b : Int) (c : Int)) = ((Sha.maj a b c : Nat) : Int) := by
  rw [and_u32 ha hb, and_u32 ha hc, and_u32 hb hc, xor3 (and_lt ha) (and_lt ha) (and_lt hb)]; rfl
theorem mod5 (a b c d e : Nat) : ((((a + b) % Sha.M + c) % Sha.M + d) % Sha.M + e) % Sha.M = (a + b + c + d + e) % Sha.M := by
  show ((((a + b) % 4294967296 + c) % 4294967296 + d) % 4294967296 + e) % 4294967296 = (a + b + c + d + e) % 4294967296; omega
theorem x_eq {v : List Nat} (h : W8 v) (k w : Nat) :
    IntKind.u32.wrap (IntKind.u32.wrap (IntKind.u32.wrap (IntKind.u32.wrap (((v.getD 7 0 : Nat) : Int) + bitsOf .xor .u32 (bitsOf .xor .u32 ((Sha.rotr (v.getD 4 0) 6 : Nat) : Int) ((Sha.rotr (v.getD 4 0) 11 : Nat) : Int)) ((Sha.rotr (v.getD 4 0) 25 : Nat) : Int))
      + bitsOf .xor .u32 (bitsOf .and .u32 ((v.getD 4 0 : Nat) : Int) ((v.getD 5 0 : Nat) : Int)) (bitsOf .and .u32 (bitsOf .xor .u32 (if IntKind.u32.signed = true then -1 else IntKind.u32.max) ((v.getD 4 0 : Nat) : Int)) ((v.getD 6 0 : Nat) : Int))) + (k : Int)) + (w : Int))
      = (((v.getD 7 0 + Sha.S1 (v.getD 4 0) + Sha.ch (v.getD 4 0) (v.getD 5 0) (v.getD 6 0) + k + w) % Sha.M : Nat) : Int) := by
  rw [xor3 (rotr_lt (h.lt 4)) (rotr_lt (h.lt 4)) (rotr_lt (h.lt 4)), ch_eq (h.lt 4) (h.lt 5) (h.lt 6), add_u32, add_u32, add_u32, add_u32, mod5]; rfl
theorem y_eq {v : List Nat} (h : W8 v) :
    IntKind.u32.wrap (bitsOf .xor .u32 (bitsOf .xor .u32 ((Sha.rotr (v.getD 0 0) 2 : Nat) : Int) ((Sha.rotr (v.getD 0 0) 13 : Nat) : Int)) ((Sha.rotr (v.getD 0 0) 22 : Nat) : Int)
      + bitsOf .xor .u32 (bitsOf .xor .u32 (bitsOf .and .u32 ((v.getD 0 0 : Nat) : Int) ((v.getD 1 0 : Nat) : Int)) (bitsOf .and .u32 ((v.getD 0 0 : Nat) : Int) ((v.getD 2 0 : Nat) : Int))) (bitsOf .and .u32 ((v.getD 1 0 : Nat) : Int) ((v.getD 2 0 : Nat) : Int)))
      = (((Sha.S0 (v.getD 0 0) + Sha.maj (v.getD 0 0) (v.getD 1 0) (v.getD 2 0)) % Sha.M : Nat) : Int) := by
  rw [xor3 (rotr_lt (h.lt 0)) (rotr_lt (h.lt 0)) (rotr_lt (h.lt 0)), maj_eq (h.lt 0) (h.lt 1) (h.lt 2), add_u32]; rfl
theorem step_eq {v : List Nat} (h : W8 v) {k w : Nat} : [IntKind.u32.wrap (IntKind.u32.wrap (IntKind.u32.wrap (IntKind.u32.wrap (IntKind.u32.wrap (((v.getD 7 0 : Nat) : Int) + bitsOf .xor .u32 (bitsOf .xor .u32 ((Sha.rotr (v.getD 4 0) 6 : Nat) : Int) ((Sha.rotr (v.getD 4 0) 11 : Nat) : Int)) ((Sha.rotr (v.getD 4 0) 25 : Nat) : Int))
      + bitsOf .xor .u32 (bitsOf .and .u32 ((v.getD 4 0 : Nat) : Int) ((v.getD 5 0 : Nat) : Int)) (bitsOf .and .u32 (bitsOf .xor .u32 (if IntKind.u32.signed = true then -1 else IntKind.u32.max) ((v.getD 4 0 : Nat) : Int)) ((v.getD 6 0 : Nat) : Int))) + (k : Int)) + (w : Int)) + IntKind.u32.wrap (bitsOf .xor .u32 (bitsOf .xor .u32 ((Sha.rotr (v.getD 0 0) 2 : Nat) : Int) ((Sha.rotr (v.getD 0 0) 13 : Nat) : Int)) ((Sha.rotr (v.getD 0 0) 22 : Nat) : Int)
      + bitsOf .xor .u32 (bitsOf .xor .u32 (bitsOf .and .u32 ((v.getD 0 0 : Nat) : Int) ((v.getD 1 0 : Nat) : Int)) (bitsOf .and .u32 ((v.getD 0 0 : Nat) : Int) ((v.getD 2 0 : Nat) : Int))) (bitsOf .and .u32 ((v.getD 1 0 : Nat) : Int) ((v.getD 2 0 : Nat) : Int)))),
      ((v.getD 0 0 : Nat) : Int), ((v.getD 1 0 : Nat) : Int), ((v.getD 2 0 : Nat) : Int),
      IntKind.u32.wrap (((v.getD 3 0 : Nat) : Int) + IntKind.u32.wrap (IntKind.u32.wrap (IntKind.u32.wrap (IntKind.u32.wrap (((v.getD 7 0 : Nat) : Int) + bitsOf .xor .u32 (bitsOf .xor .u32 ((Sha.rotr (v.getD 4 0) 6 : Nat) : Int) ((Sha.rotr (v.getD 4 0) 11 : Nat) : Int)) ((Sha.rotr (v.getD 4 0) 25 : Nat) : Int))
      + bitsOf .xor .u32 (bitsOf .and .u32 ((v.getD 4 0 : Nat) : Int) ((v.getD 5 0 : Nat) : Int)) (bitsOf .and .u32 (bitsOf .xor .u32 (if IntKind.u32.signed = true then -1 else IntKind.u32.max) ((v.getD 4 0 : Nat) : Int)) ((v.getD 6 0 : Nat) : Int))) + (k : Int)) + (w : Int))),
      ((v.getD 4 0 : Nat) : Int), ((v.getD 5 0 : Nat) : Int), ((v.getD 6 0 : Nat) : Int)] = nc (Sha.step k w v) := by
  rw [x_eq h, y_eq h, add_u32, add_u32]; rfl
theorem mix_get {B h : List Nat} (hh : h.length = 8) {i : Nat} (hi : i < 8) : ((nc B).take i ++ (nc h).drop i).getD i 0 = ((h.getD i 0 : Nat) : Int) ∨ B.length < i := by
  by_cases hb : B.length < i
  · exact .inr hb
  · left
    have hl : ((nc B).take i).length = i := by simp; omega
    simp only [List.getD_eq_getElem?_getD]
    rw [List.getElem?_append_right (by omega), hl, Nat.sub_self, List.getElem?_drop, Nat.add_zero, List.getElem?_map, List.getElem?_eq_getElem (by omega)]
    rfl
theorem add8_len (h v : List Nat) : (Sha.add8 h v).length = 8 := by simp [Sha.add8]
theorem mix_get8 {x v h : List Nat} (hh : h.length = 8) {i : Nat} (hi : i < 8) : ((nc (Sha.add8 x v)).take i ++ (nc h).drop i).getD i 0 = ((h.getD i 0 : Nat) : Int) :=
  (mix_get hh hi).resolve_right (by rw [add8_len]; omega)
theorem mix_set {v h : List Nat} (hh : h.length = 8) {i : Nat} (hi : i < 8) : ((nc (Sha.add8 h v)).take i ++ (nc h).drop i).set i (((h.getD i 0 + v.getD i 0) % Sha.M : Nat) : Int) = (nc (Sha.add8 h v)).take (i + 1) ++ (nc h).drop (i + 1) := by
  have hl : ((nc (Sha.add8 h v)).take i).length = i := by simp [add8_len]; omega
  have hB : (nc (Sha.add8 h v)).length = 8 := by simp [add8_len]
  have e : (nc h).drop i = (((h.getD i 0 : Nat) : Int)) :: (nc h).drop (i + 1) := by
    rw [List.drop_eq_getElem_cons (by simp; omega)]; simp [List.getD_eq_getElem?_getD, List.getElem?_eq_getElem (show i < h.length by omega)]
  rw [e, List.set_append_right _ _ (by omega), hl, Nat.sub_self, List.set_cons_zero, List.take_succ_eq_append_getElem (by omega), List.append_assoc]
  simp [Sha.add8]
set_option maxHeartbeats 4000000 in
theorem block_spec {m : Mem} {b o c : Nat} {bs h : List Nat} (hl : bs.length = 64) (hb : ∀ x ∈ bs, x < 256) (hv : Lb m (.slice (some ⟨b, o, none⟩) 64 c) (nc bs)) (hc : 64 ≤ c) (hh : W8 h) :
    Ret Try.prog 37 [.a [.ints .u32 8 (nc h)], .v (.slice (some ⟨b, o, none⟩) 64 c)] m [.a [.ints .u32 8 (nc (Sha.block h bs))]] := by
  refine en37 rfl (goY ?_)
  conv => whnf
  first | refine xretk (consts_spec) ?_ | refine xret (consts_spec) ?_
  conv => whnf
  first | refine xretk (spread_spec hl hb hv hc) ?_ | refine xret (spread_spec hl hb hv hc) ?_
  conv => whnf
  refine .mk (ι := Nat) (fun i => 64 - i) (fun i mm => i ≤ 64 ∧ mm = m) (fun i => [(2, .p 0 0), (4, .p 1 0), (5, .p 2 0), (6, .p 3 0), (7, .p 4 0), (19, .c (i64 i))])
    (fun i => [(64, [.ints .u32 8 (nc h)]), (64, [.ints .u32 8 (List.replicate 8 0)]), (75, [.ints .u32 64 (nc Sha.K)]), (75, [.ints .u32 64 (nc (Sha.words bs 64))]), (64, [.ints .u32 8 (nc (Sha.rounds (Sha.words bs 64) h i))])]) 0 ⟨by omega, rfl⟩ ?_ ?_
  · conv => whnf
    repeat (refine And.intro (by first | with_reducible rfl | exact congrArg (Value.int _) (wi (by omega) (by omega)) | exact wi (by omega) (by omega) | rfl) ?_; conv => whnf)
    first | exact trivial | exact fun _ _ h => h
  rintro i mm ⟨hi, he⟩
  subst mm
  conv => whnf
  refine ⟨fun h1 => ?_, fun h1 => ?_⟩
  · have h1' := of_decide_eq_true h1
    have hlt : i < 64 := by omega
    have hw := rounds_w8 (w := Sha.words bs 64) hh i
    generalize hvv : Sha.rounds (Sha.words bs 64) h i = v at hw ⊢
    conv => whnf
    repeat (refine And.intro (by first | omega | (simp only [times]; omega)) ?_; conv => whnf)
    simp only [nc_get, times, Int.toNat_natCast, Nat.zero_add, Nat.zero_mul, Nat.mul_one, Nat.one_mul]
    first | refine xretk (right_spec (n := 6) (by decide) (by decide) (hw.lt 4)) ?_ | refine xret (right_spec (n := 6) (by decide) (by decide) (hw.lt 4)) ?_
    conv => whnf
    first | refine xretk (right_spec (n := 11) (by decide) (by decide) (hw.lt 4)) ?_ | refine xret (right_spec (n := 11) (by decide) (by decide) (hw.lt 4)) ?_
    conv => whnf
    first | refine xretk (right_spec (n := 25) (by decide) (by decide) (hw.lt 4)) ?_ | refine xret (right_spec (n := 25) (by decide) (by decide) (hw.lt 4)) ?_
    conv => whnf
    simp only [nc_get]
    first | refine xretk (right_spec (n := 2) (by decide) (by decide) (hw.lt 0)) ?_ | refine xret (right_spec (n := 2) (by decide) (by decide) (hw.lt 0)) ?_
    conv => whnf
    first | refine xretk (right_spec (n := 13) (by decide) (by decide) (hw.lt 0)) ?_ | refine xret (right_spec (n := 13) (by decide) (by decide) (hw.lt 0)) ?_
    conv => whnf
    first | refine xretk (right_spec (n := 22) (by decide) (by decide) (hw.lt 0)) ?_ | refine xret (right_spec (n := 22) (by decide) (by decide) (hw.lt 0)) ?_
    conv => whnf
    refine ⟨i + 1, ⟨by omega, rfl⟩, by omega, ?_⟩
    rw [show Sha.rounds (Sha.words bs 64) h (i + 1) = Sha.step (Sha.K.getD i 0) ((Sha.words bs 64).getD i 0) v by rw [← hvv]; rfl]
    simp only [nc_get, Nat.zero_add, Nat.zero_mul, Nat.mul_one, Nat.one_mul]
    conv => whnf
    repeat (refine And.intro (by first | with_reducible rfl | (first | exact congrArg (Value.int _) (iadd (by omega)) | exact step_eq hw) | exact congrArg (Value.int _) (wi (by omega) (by omega)) | exact wi (by omega) (by omega) | rfl) ?_; conv => whnf)
    first | exact trivial | exact fun _ _ h => h
  · have h1' := of_decide_eq_false h1
    obtain rfl : i = 64 := by omega
    have hw := rounds_w8 (w := Sha.words bs 64) hh 64
    have hB : Sha.block h bs = Sha.add8 h (Sha.rounds (Sha.words bs 64) h 64) := rfl
    conv => whnf
    refine .mk (ι := Nat) (fun i => 8 - i) (fun i mm => i ≤ 8 ∧ mm = m) (fun i => [(2, .p 0 0), (4, .p 1 0), (99, .c (.a [.ints .u32 8 (nc (Sha.rounds (Sha.words bs 64) h 64))])), (100, .c (i64 i))])
      (fun i => [(64, [.ints .u32 8 ((nc (Sha.block h bs)).take i ++ (nc h).drop i)]), (64, [.ints .u32 8 (List.replicate 8 0)])]) 0 ⟨by omega, rfl⟩ ?_ ?_
    · conv => whnf
      repeat (refine And.intro (by first | with_reducible rfl | exact congrArg (Value.int _) (wi (by omega) (by omega)) | exact wi (by omega) (by omega) | rfl) ?_; conv => whnf)
      first | exact trivial | exact fun _ _ h => h
    rintro i mm ⟨hi, he⟩
    subst mm
    generalize Sha.rounds (Sha.words bs 64) h 64 = v at hw hB ⊢
    conv => whnf
    refine ⟨fun h1 => ?_, fun h1 => ?_⟩
    · have h1' := of_decide_eq_true h1
      have hlt : i < 8 := by omega
      conv => whnf
      repeat (refine And.intro (by first | omega | (simp only [times]; omega)) ?_; conv => whnf)
      simp only [nc_get, times, Int.toNat_natCast, Nat.zero_add, Nat.zero_mul, Nat.mul_one, Nat.one_mul, hB, mix_get8 hh.len hlt]
      refine ⟨i + 1, ⟨by omega, by trivial⟩, by omega, ?_⟩
      conv => whnf
      repeat (refine And.intro (by first | with_reducible rfl | (first | exact congrArg (Value.int _) (iadd (by omega)) | (rw [add_u32]; exact mix_set hh.len hlt)) | exact congrArg (Value.int _) (wi (by omega) (by omega)) | exact wi (by omega) (by omega) | rfl) ?_; conv => whnf)
      first | exact trivial | exact fun _ _ h => h
    · have h1' := of_decide_eq_false h1
      obtain rfl : i = 8 := by omega
      conv => whnf
      refine ⟨?_, rfl⟩
      rw [List.take_of_length_le (by simp [Sha.block, Sha.add8]), List.drop_of_length_le (by simp [hh.len]), List.append_nil]
end Go.E.Ytjmjikemaafnjaa

/-
  Contracts of sha: the digest.
-/
namespace Go.E.Ytjmjikemaafnjaa
open Go.Proofs
set_option maxRecDepth 100000
/-- the first n bytes of 32 -/
def dgc (h : List Nat) (n : Nat) : List Int := (nc (Sha.digest h)).take n ++ List.replicate (32 - n) 0
theorem digest_len (h : List Nat) : (Sha.digest h).length = 32 := by simp [Sha.digest]
theorem dgc_set {h : List Nat} {i k : Nat} (hi : i < 8) (hk : k < 4) : (dgc h (4 * i + k)).set (4 * i + k) ((h.getD i 0 / 256 ^ (3 - k) % 256 : Nat) : Int) = dgc h (4 * i + (k + 1)) := by
  have hB : (nc (Sha.digest h)).length = 32 := by simp [digest_len]
  have hl : ((nc (Sha.digest h)).take (4 * i + k)).length = 4 * i + k := by rw [List.length_take]; omega
  have e : List.replicate (32 - (4 * i + k)) (0 : Int) = 0 :: List.replicate (32 - (4 * i + (k + 1))) 0 := by
    rw [← List.replicate_succ]; congr 1; omega
  have d1 : (4 * i + k) / 4 = i := by omega
  have d2 : (4 * i + k) % 4 = k := by omega
  rw [dgc, e, List.set_append_right _ _ (by omega), hl, Nat.sub_self, List.set_cons_zero, dgc, show 4 * i + (k + 1) = 4 * i + k + 1 by omega, List.take_succ_eq_append_getElem (by omega), List.append_assoc]
  simp [Sha.digest, d1, d2]
theorem byte_eq {x k : Nat} (hk : k < 4) : IntKind.u8.wrap (shrOf .u32 (x : Int) ((24 - 8 * k : Nat) : Int)) = ((x / 256 ^ (3 - k) % 256 : Nat) : Int) := by
  rw [shr_nat (by show 24 - 8 * k ≤ 32; omega), IntKind.wrap_u8]
  have : 2 ^ (24 - 8 * k) = 256 ^ (3 - k) := by
    rw [show (256 : Nat) = 2 ^ 8 from rfl, ← Nat.pow_mul]; congr 1; omega
  rw [this]; rfl
set_option maxHeartbeats 4000000 in
theorem digest_spec {m : Mem} {h : List Nat} : Ret Try.prog 38 [.a [.ints .u32 8 (nc h)]] m [.a [.ints .u8 32 (nc (Sha.digest h))]] := by
  refine en38 rfl (goY ?_)
  conv => whnf
  refine .mk (ι := Nat) (fun i => 8 - i) (fun i mm => i ≤ 8 ∧ mm = m) (fun i => [(2, .p 1 0), (3, .p 2 0), (7, .c (.a [.ints .u32 8 (nc h)])), (8, .c (i64 i))])
    (fun i => [(64, [.ints .u32 8 (nc h)]), (26, [.ints .u8 32 (List.replicate 32 0)]), (26, [.ints .u8 32 (dgc h (4 * i))])]) 0 ⟨by omega, rfl⟩ ?_ ?_
  · conv => whnf
    repeat (refine And.intro (by first | with_reducible rfl | exact congrArg (Value.int _) (wi (by omega) (by omega)) | exact wi (by omega) (by omega) | rfl) ?_; conv => whnf)
    first | exact trivial | exact fun _ _ h => h
  rintro i mm ⟨hi, he⟩
  subst mm
  conv => whnf
  refine ⟨fun h1 => ?_, fun h1 => ?_⟩
  · have h1' := of_decide_eq_true h1
    have hlt : i < 8 := by omega
    conv => whnf
    repeat (refine And.intro (by first | omega | (simp only [times]; omega)) ?_; conv => whnf)
    simp only [nc_get, times, Int.toNat_natCast, Nat.zero_add, Nat.zero_mul, Nat.mul_one, Nat.one_mul]
    refine .mk (ι := Nat) (fun k => 4 - k) (fun k mm => k ≤ 4 ∧ mm = m) (fun k => [(2, .p 1 0), (3, .p 2 0), (4, .c (i64 i)), (5, .c (u32 ((h.getD i 0 : Nat) : Int))), (7, .c (.a [.ints .u32 8 (nc h)])), (8, .c (i64 i)), (12, .c (i64 k))])
      (fun k => [(64, [.ints .u32 8 (nc h)]), (26, [.ints .u8 32 (List.replicate 32 0)]), (26, [.ints .u8 32 (dgc h (4 * i + k))])]) 0 ⟨by omega, rfl⟩ ?_ ?_
    · conv => whnf
      repeat (refine And.intro (by first | with_reducible rfl | exact congrArg (Value.int _) (wi (by omega) (by omega)) | exact wi (by omega) (by omega) | rfl) ?_; conv => whnf)
      first | exact trivial | exact fun _ _ h => h
    rintro k mm ⟨hk, he⟩
    subst mm
    conv => whnf
    refine ⟨fun h2 => ?_, fun h2 => ?_⟩
    · have h2' := of_decide_eq_true h2
      have hkt : k < 4 := by omega
      have e1 : IntKind.i64.wrap (IntKind.i64.wrap (4 * (i : Int)) + (k : Int)) = ((4 * i + k : Nat) : Int) := by rw [wi (n := 4 * (i : Int)) (by omega) (by omega), wi (by omega) (by omega)]; omega
      have e2 : IntKind.i64.wrap (24 - IntKind.i64.wrap (8 * (k : Int))) = ((24 - 8 * k : Nat) : Int) := by rw [wi (n := 8 * (k : Int)) (by omega) (by omega), wi (by omega) (by omega)]; omega
      conv => whnf
      rw [e1, e2]
      repeat (refine And.intro (by first | omega | (simp only [times]; omega)) ?_; conv => whnf)
      simp only [times, Int.toNat_natCast, Nat.zero_add, byte_eq hkt]
      refine ⟨k + 1, ⟨by omega, by trivial⟩, by omega, ?_⟩
      conv => whnf
      repeat (refine And.intro (by first | with_reducible rfl | (first | exact congrArg (Value.int _) (iadd (by omega)) | exact dgc_set hlt hkt) | exact congrArg (Value.int _) (wi (by omega) (by omega)) | exact wi (by omega) (by omega) | rfl) ?_; conv => whnf)
      first | exact trivial | exact fun _ _ h => h
    · have h2' := of_decide_eq_false h2
      obtain rfl : k = 4 := by omega
      conv => whnf
      refine ⟨i + 1, ⟨by omega, by trivial⟩, by omega, ?_⟩
      conv => whnf
      repeat (refine And.intro (by first | with_reducible rfl | (first | exact congrArg (Value.int _) (iadd (by omega)) | rfl) | exact congrArg (Value.int _) (wi (by omega) (by omega)) | exact wi (by omega) (by omega) | rfl) ?_; conv => whnf)
      first | exact trivial | exact fun _ _ h => h
  · have h1' := of_decide_eq_false h1
    obtain rfl : i = 8 := by omega
    conv => whnf
    refine ⟨?_, rfl⟩
    rw [dgc, List.take_of_length_le (by simp [digest_len])]; simp
end Go.E.Ytjmjikemaafnjaa

/-
  Contracts of sha: bytes with what stands behind them.
-/
namespace Go.E.Ytjmjikemaafnjaa
open Go.Proofs
set_option maxRecDepth 100000
theorem nc_append (a b : List Nat) : nc (a ++ b) = nc a ++ nc b := by simp [nc]
theorem zeros_at {n k : Nat} (hk : k ≤ Sha.zeros n) : (n + 1 + k) % 64 = 56 ↔ k = Sha.zeros n := by
  unfold Sha.zeros at *
  omega
theorem be8_len (n : Nat) : (Sha.be8 n).length = 8 := by simp [Sha.be8]
theorem be8_byte {n j : Nat} (hj : j < 8) : IntKind.u8.wrap (shrOf .u64 (n : Int) ((8 * (7 - j) : Nat) : Int)) = ((n / 256 ^ (7 - j) % 256 : Nat) : Int) := by
  rw [shr_nat (by show 8 * (7 - j) ≤ 64; omega), IntKind.wrap_u8]
  have : 2 ^ (8 * (7 - j)) = 256 ^ (7 - j) := by rw [show (256 : Nat) = 2 ^ 8 from rfl, ← Nat.pow_mul]
  rw [this]; rfl
theorem be8_take {n j : Nat} (hj : j < 8) : (Sha.be8 n).take j ++ [n / 256 ^ (7 - j) % 256] = (Sha.be8 n).take (j + 1) := by
  rw [List.take_succ_eq_append_getElem (by rw [be8_len]; exact hj)]; simp [Sha.be8]
set_option maxHeartbeats 2000000 in
theorem padded_spec {m : Mem} {v : Value} {ps : List (Value × List Int)} {l : List Nat} (h : Lists m v ps) (hcat : catB ps = nc l) (hb : l.length ≤ 1000000) (hn : ps.length ≤ 10000000) :
    Spec Try.prog 36 [.v v] m fun r m' => ∃ v' p, r = [.v v'] ∧ Split m' [p, m] ∧ Bs p v' (nc (Sha.pad l)) := by
  have hlen : (catB ps).length = l.length := by rw [hcat]; simp
  refine en36 rfl (goY ?_)
  conv => whnf
  refine xcall (concat_spec h (by omega) hn) ?_
  rintro _ m1 ⟨v1, p1, rfl, hs1, hv1⟩
  conv => whnf
  rw [hcat] at hv1
  obtain ⟨a1, c1, rfl⟩ := hv1.lb.shape
  conv => whnf
  refine .mk _ (build1) ?_
  rintro _ _ ⟨b', hb', rfl, rfl⟩
  conv => whnf
  refine .mk _ (Bs.one hs1 hb' hv1 (by simp; omega)) ?_
  rintro _ m2 ⟨v2, p2, rfl, hs2, hv2⟩
  conv => whnf
  have hz : Sha.zeros l.length < 64 := Nat.mod_lt _ (by decide)
  have en : IntKind.u64.wrap (IntKind.u64.wrap ((l.length : Nat) : Int) * 8) = ((8 * l.length : Nat) : Int) := by rw [wu (n := ((l.length : Nat) : Int)) (by omega) (by omega), wu (by omega) (by omega)]; omega
  refine .mk (ι := Nat × Value) (fun i => Sha.zeros l.length - i.1) (fun ⟨k, x⟩ mm => k ≤ Sha.zeros l.length ∧ ∃ p, Split mm [p, m] ∧ Bs p x (nc (l ++ [128] ++ List.replicate k 0))) (fun ⟨k, x⟩ => [(3, .c (.v x)), (4, .c (u64 ((8 * l.length : Nat) : Int)))]) (fun _ => []) (0, v2) ⟨by omega, p2, hs2, by simpa using hv2⟩ ?_ ?_
  · conv => whnf
    repeat (refine And.intro (by first | with_reducible rfl | ((first | exact congrArg (Value.int _) en | (simp only [nc, List.length_map]; exact congrArg (Value.int _) en))) | exact congrArg (Value.int _) (wi (by omega) (by omega)) | exact wi (by omega) (by omega) | rfl) ?_; conv => whnf)
    first | exact trivial | exact fun _ _ h => h
  rintro ⟨k, x⟩ mm ⟨hk, p, hs, hx⟩
  obtain ⟨a, c, rfl⟩ := hx.lb.shape
  have hln : (nc (l ++ [128] ++ List.replicate k 0)).length = l.length + 1 + k := by simp; omega
  rw [hln] at hx ⊢
  conv => whnf
  have erem : Int.tmod ((l.length + 1 + k : Nat) : Int) 64 = (((l.length + 1 + k) % 64 : Nat) : Int) := by rw [Int.tmod_eq_emod_of_nonneg (by omega)]; omega
  refine ⟨fun h1 => ?_, fun h1 => ?_⟩
  · have hne : k ≠ Sha.zeros l.length := by
      intro e
      have := (zeros_at hk).2 e
      simp only [erem, this] at h1
      revert h1; decide
    conv => whnf
    refine .mk _ (build1) ?_
    rintro _ _ ⟨b', hb', rfl, rfl⟩
    conv => whnf
    refine .mk _ (Bs.one hs hb' hx (by simp; omega)) ?_
    rintro _ m3 ⟨v3, p3, rfl, hs3, hv3⟩
    conv => whnf
    refine ⟨(k + 1, v3), ⟨by omega, p3, hs3, ?_⟩, by simp only; omega, ?_⟩
    · have e : nc (l ++ [128] ++ List.replicate (k + 1) 0) = nc (l ++ [128] ++ List.replicate k 0) ++ [0] := by
        rw [List.replicate_succ', ← List.append_assoc, nc_append]; rfl
      rw [e]; exact hv3
    · conv => whnf
      repeat (refine And.intro (by first | with_reducible rfl | exact congrArg (Value.int _) (wi (by omega) (by omega)) | exact wi (by omega) (by omega) | rfl) ?_; conv => whnf)
      first | exact trivial | exact fun _ _ h => h
  · have hke : k = Sha.zeros l.length := by
      refine (zeros_at hk).1 ?_
      simp only [erem] at h1
      have := h1
      simp at this
      omega
    subst hke
    conv => whnf
    refine .mk (ι := Nat × Value) (fun i => 8 - i.1) (fun ⟨j, x⟩ mm => j ≤ 8 ∧ ∃ p, Split mm [p, m] ∧ Bs p x (nc (l ++ [128] ++ List.replicate (Sha.zeros l.length) 0 ++ (Sha.be8 (8 * l.length)).take j))) (fun ⟨j, x⟩ => [(3, .c (.v x)), (4, .c (u64 ((8 * l.length : Nat) : Int))), (5, .c (i64 (7 - (j : Int))))]) (fun _ => []) (0, _) ⟨by omega, p, hs, by simpa using hx⟩ ?_ ?_
    · conv => whnf
      repeat (refine And.intro (by first | with_reducible rfl | exact congrArg (Value.int _) (wi (by omega) (by omega)) | exact wi (by omega) (by omega) | rfl) ?_; conv => whnf)
      first | exact trivial | exact fun _ _ h => h
    rintro ⟨j, x⟩ mm ⟨hj, p, hs, hx⟩
    conv => whnf
    refine ⟨fun h2 => ?_, fun h2 => ?_⟩
    · have h2' := of_decide_eq_true h2
      have hjt : j < 8 := by omega
      have ej : IntKind.i64.wrap (8 * (7 - (j : Int))) = ((8 * (7 - j) : Nat) : Int) := by rw [wi (by omega) (by omega)]; omega
      conv => whnf
      rw [ej]
      repeat (refine And.intro (by first | omega | (simp only [times]; omega)) ?_; conv => whnf)
      rw [be8_byte hjt]
      refine .mk _ (build1) ?_
      rintro _ _ ⟨b', hb', rfl, rfl⟩
      conv => whnf
      refine .mk _ (Bs.one hs hb' hx (by simp [be8_len]; omega)) ?_
      rintro _ m3 ⟨v3, p3, rfl, hs3, hv3⟩
      conv => whnf
      refine ⟨(j + 1, v3), ⟨by omega, p3, hs3, ?_⟩, by simp only; omega, ?_⟩
      · have e : nc (l ++ [128] ++ List.replicate (Sha.zeros l.length) 0 ++ (Sha.be8 (8 * l.length)).take (j + 1)) = nc (l ++ [128] ++ List.replicate (Sha.zeros l.length) 0 ++ (Sha.be8 (8 * l.length)).take j) ++ [((8 * l.length / 256 ^ (7 - j) % 256 : Nat) : Int)] := by
          rw [← be8_take hjt, ← List.append_assoc, nc_append (l ++ [128] ++ List.replicate (Sha.zeros l.length) 0 ++ (Sha.be8 (8 * l.length)).take j)]; rfl
        rw [e]; exact hv3
      · conv => whnf
        repeat (refine And.intro (by first | with_reducible rfl | (exact congrArg (Value.int _) (by rw [wi (by omega) (by omega)]; omega)) | exact congrArg (Value.int _) (wi (by omega) (by omega)) | exact wi (by omega) (by omega) | rfl) ?_; conv => whnf)
        first | exact trivial | exact fun _ _ h => h
    · have h2' := of_decide_eq_false h2
      obtain rfl : j = 8 := by omega
      conv => whnf
      rw [List.take_of_length_le (by rw [be8_len]; omega)] at hx
      exact ⟨_, p, rfl, hs, hx⟩
end Go.E.Ytjmjikemaafnjaa

/-
  Contracts of sha: the digest of lists of bytes.
-/
namespace Go.E.Ytjmjikemaafnjaa
open Go.Proofs
set_option maxRecDepth 100000
abbrev ptrV (b : Nat) : CV := .v (.pointer (some ⟨b, 0, none⟩))
theorem chunk_spec {m : Mem} {v : Value} (hv : v.oneCell' = true) : Spec Try.prog 35 [.v v, .v (.int .i64 64)] m fun r m' => ∃ b1 b2, m b1 = none ∧ (m.set b1 (.cells #[v] 46)) b2 = none ∧
    r = [.v (.func (.func 39) #[] #[.pointer (some ⟨b1, 0, none⟩), .pointer (some ⟨b2, 0, none⟩)])] ∧ m' = (m.set b1 (.cells #[v] 46)).set b2 (.cells #[.int .i64 64] 3) := by
  refine en35 rfl (goY ?_)
  conv => whnf
  intro b1 hb1
  conv => whnf
  intro b2 hb2
  conv => whnf
  refine ⟨_, mcell_of (Mem.set_same ..) rfl, rfl, ?_⟩
  conv => whnf
  refine ⟨fun h => absurd h (by decide), fun _ => ?_⟩
  conv => whnf
  refine .mk _ (makeFunc_spec (cs := [.pointer (some ⟨b1, 0, none⟩), .pointer (some ⟨b2, 0, none⟩)]) (by simp [Value.oneCell'])) ?_
  rintro _ _ ⟨rfl, rfl⟩
  conv => whnf
  exact ⟨b1, b2, hb1, hb2, rfl, rfl⟩
/-- the k-th piece -/
abbrev piece (b o k : Nat) : CV := .v (.slice (some ⟨b, o + 64 * k, none⟩) 64 64)
set_option maxHeartbeats 2000000 in
theorem chunkIter_spec {I : Nat → Mem → Prop} {l b1 b2 b o n c : Nat} (hn : n ≤ 1000000000) (hc : 64 * n ≤ c)
    (hI : ∀ k m, I k m → m b1 = some (.cells #[.slice (some ⟨b, o, none⟩) (64 * n) c] 46) ∧ m b2 = some (.cells #[.int .i64 64] 3))
    (hy : ∀ k m, k < n → I k m → YSpec Try.prog l [piece b o k] m fun r m' => r = [.v (.bool true)] ∧ I (k + 1) m') {m : Mem} (h0 : I 0 m) :
    Spec Try.prog 39 [.v (.func (.yield l) #[] #[]), ptrV b1, ptrV b2] m fun r m' => r = [] ∧ I n m' := by
  refine en39 rfl (goY ?_)
  conv => whnf
  refine .mk (ι := Nat) (fun k => n - k) (fun k mm => k ≤ n ∧ I k mm) (fun k => [(0, .c (.v (.func (.yield l) #[] #[]))), (1, .c (ptrV b1)), (2, .c (ptrV b2)), (4, .c (i64 ((64 * k : Nat) : Int)))]) (fun _ => []) 0 ⟨by omega, h0⟩ ?_ ?_
  · conv => whnf
    repeat (refine And.intro (by first | with_reducible rfl | exact congrArg (Value.int _) (wi (by omega) (by omega)) | exact wi (by omega) (by omega) | rfl) ?_; conv => whnf)
    first | exact trivial | exact fun _ _ h => h
  rintro k mm ⟨hk, hi⟩
  obtain ⟨g1, g2⟩ := hI k mm hi
  conv => whnf
  refine ⟨.slice (some ⟨b, o, none⟩) (64 * n) c, mcell_of g1 rfl, rfl, ?_⟩
  conv => whnf
  refine ⟨fun h1 => ?_, fun h1 => ?_⟩
  · have h1' := of_decide_eq_true h1
    have hlt : k < n := by omega
    conv => whnf
    refine ⟨.int .i64 64, mcell_of g2 rfl, rfl, ?_⟩
    conv => whnf
    refine ⟨.slice (some ⟨b, o, none⟩) (64 * n) c, mcell_of g1 rfl, rfl, ?_⟩
    have e : min (64:Int) (((64 * n - (((64 * k : Nat) : Int)).toNat : Nat) : Int)) = 64 := by omega
    conv => whnf
    repeat (refine And.intro (by first | omega | (simp only [times]; omega)) ?_; conv => whnf)
    intro o1 ho1 ho2
    have ho1 : o1 = o + 64 * k := by
      by_cases hck : c = 64 * k
      · omega
      · have := ho1 hck
        have h2 : (({ k := TK.int Go.IntKind.u8, size := 1, bytes := 1, zero := [Seg.one (Value.int Go.IntKind.u8 0)], eq := false } : TI)).size = 1 := rfl
        rw [this, h2]
        omega
    subst o1
    conv => whnf
    refine ⟨.slice (some ⟨b, o, none⟩) (64 * n) c, mcell_of g1 rfl, rfl, ?_⟩
    conv => whnf
    rw [e]
    have w1 : Go.IntKind.wrap .i64 (((64 * k : Nat) : Int) + 64) = ((64 * k + 64 : Nat) : Int) := wi (by omega) (by omega)
    rw [w1]
    conv => whnf
    repeat (refine And.intro (by first | omega | (simp only [times]; omega)) ?_; conv => whnf)
    intro o2 ho3 _
    have h2 : (({ k := TK.int Go.IntKind.u8, size := 1, bytes := 1, zero := [Seg.one (Value.int Go.IntKind.u8 0)], eq := false } : TI)).size = 1 := rfl
    obtain rfl : o2 = o + 64 * k := by
      rw [ho3 (by omega), h2]
      omega
    have w2 : (((64 * k + 64 : Nat) : Int)).toNat - (((64 * k : Nat) : Int)).toNat = 64 := by omega
    conv => whnf
    rw [w2]
    refine .mk _ (hy k mm hlt hi) ?_
    rintro _ m' ⟨rfl, hi'⟩
    conv => whnf
    refine ⟨fun h => absurd h (by decide), fun _ => ?_⟩
    conv => whnf
    refine ⟨.int .i64 64, mcell_of (hI _ _ hi').2 rfl, rfl, ?_⟩
    conv => whnf
    refine ⟨k + 1, ?_⟩
    refine ⟨⟨by omega, hi'⟩, by omega, ?_⟩
    rw [w1]
    repeat (refine And.intro (by first | with_reducible rfl | exact congrArg (Value.int _) (wi (by omega) (by omega)) | exact wi (by omega) (by omega) | rfl) ?_; conv => whnf)
    first | exact trivial | exact fun _ _ h => h
    all_goals exact congrArg (Value.int _) (by omega)
  · have h1' := of_decide_eq_false h1
    obtain rfl : k = n := by omega
    conv => whnf
    exact ⟨rfl, hi⟩
end Go.E.Ytjmjikemaafnjaa
