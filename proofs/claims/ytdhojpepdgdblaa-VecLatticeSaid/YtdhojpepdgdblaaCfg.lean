/-
  : how the functions named here are run: made by a program.
-/
import Derived.Test.YtdhojpepdgdblaaTab
namespace Go.E.Ytdhojpepdgdblaa
open Go.Proofs
set_option maxRecDepth 100000
/- maund maundlaw05.TallyOrder -/
noncomputable def c3 : Cfg := ⟨Try.prog, tt.get, inL [], atL [(9, ⟨.op 0 .all (.op 1 .all (.op 2 .all (.op 4 .all (.op 5 .all (.op 6 .all (.op 3 .none (.op 7 .none (.op 8 .none (.op 9 .all (.op 10 .none (.nil))))))))))), [0, 0, 3, 7, 0, 0, 48, 127, 255, 0, 1023]⟩),
  (10, ⟨.op 0 .none (.op 1 .all (.op 2 .all (.op 3 .none (.op 4 .all (.op 5 .all (.op 6 .all (.op 8 .all (.op 7 .all (.op 9 .all (.op 10 .all (.op 11 .all (.op 12 .all (.op 13 .all (.op 14 .all (.op 15 .all (.op 16 .all (.op 17 .all (.op 19 .all (.op 20 .all (.op 18 .all (.op 21 .all (.op 22 .all (.op 23 .all (.nil)))))))))))))))))))))))), [0, 1, 3, 7, 15, 31, 63, 127, 63, 511, 1023, 2047, 4095, 4095, 16383, 32767, 65535, 131071, 262143, 131071, 655359, 2097151, 4194303, 8388607]⟩)], inL []⟩
theorem en3 {args : List CV} {m : Mem} {R : List CV → Mem → Prop} (hlen : Nat.ble args.length Try.f3.ntmps = true) (h : xwp c3 (bodyOf Try.f3) (QRet tt.get Try.f3.results.toList R) ⟨initF args, [], m, []⟩) : Spec Try.prog 3 args m R :=
  Spec.of_body (c := c3) Try.func3 (by kernel_rfl) (by kernel_rfl) tt_ok wide (by kernel_rfl) hlen h
/- maund maundlaw05.TallyCounts -/
noncomputable def c4 : Cfg := ⟨Try.prog, tt.get, inL [], atL [(3, ⟨.op 0 .none (.op 1 .all (.op 2 .all (.op 4 .all (.op 3 .all (.op 5 .all (.op 6 .all (.op 7 .all (.op 8 .all (.op 9 .all (.op 10 .all (.op 11 .all (.op 12 .all (.op 13 .all (.op 14 .all (.op 17 .all (.op 19 .all (.op 15 .all (.op 16 .all (.op 18 .all (.op 20 .none (.op 21 .none (.op 22 .all (.op 23 .all (.op 24 .all (.op 25 .all (.op 28 .all (.op 26 .all (.op 27 .all (.op 29 .none (.op 30 .none (.op 31 .all (.op 32 .all (.op 33 .all (.nil)))))))))))))))))))))))))))))))))), [0, 1, 3, 7, 3, 31, 63, 127, 255, 255, 1023, 2047, 4095, 8191, 8191, 32767, 65535, 8191, 262143, 8191, 1048575, 2097151, 4194303, 8388607, 16777215, 33554431, 67108863, 134217727, 33554431, 536870911, 1073741823, 2147483647, 4294967295, 8589934591]⟩)], inL []⟩
theorem en4 {args : List CV} {m : Mem} {R : List CV → Mem → Prop} (hlen : Nat.ble args.length Try.f4.ntmps = true) (h : xwp c4 (bodyOf Try.f4) (QRet tt.get Try.f4.results.toList R) ⟨initF args, [], m, []⟩) : Spec Try.prog 4 args m R :=
  Spec.of_body (c := c4) Try.func4 (by kernel_rfl) (by kernel_rfl) tt_ok wide (by kernel_rfl) hlen h
/- maund maundlaw05.TallyJoins -/
noncomputable def c5 : Cfg := ⟨Try.prog, tt.get, inL [], atL [(2, ⟨.op 0 .all (.op 1 .all (.op 2 .all (.op 3 .all (.op 4 .all (.op 5 .all (.op 6 .all (.op 7 .all (.op 9 .all (.op 8 .all (.op 10 .all (.op 11 .all (.op 12 .all (.op 13 .all (.op 14 .all (.op 16 .all (.op 18 .all (.op 19 .all (.op 20 .all (.op 15 .all (.op 17 .all (.op 21 .all (.op 22 .none (.op 23 .all (.op 24 .all (.op 25 .all (.op 26 .all (.op 27 .all (.op 29 .all (.op 28 .all (.op 30 .all (.op 31 .all (.nil)))))))))))))))))))))))))))))))), [0, 0, 0, 6, 15, 31, 63, 63, 255, 63, 1023, 2047, 4095, 8191, 8191, 32767, 8191, 131071, 8191, 8191, 8191, 1835007, 4194303, 8388607, 16777215, 33554431, 67108863, 67108863, 268435455, 67108863, 1073741823, 2147483647]⟩),
  (5, ⟨.op 0 .none (.op 1 .all (.op 2 .all (.op 3 .all (.op 4 .all (.op 5 .all (.op 6 .all (.op 8 .all (.op 7 .all (.op 9 .all (.op 10 .all (.op 11 .all (.op 12 .all (.nil))))))))))))), [0, 1, 3, 7, 15, 31, 31, 127, 31, 511, 1023, 2047, 4095]⟩)], inL []⟩
theorem en5 {args : List CV} {m : Mem} {R : List CV → Mem → Prop} (hlen : Nat.ble args.length Try.f5.ntmps = true) (h : xwp c5 (bodyOf Try.f5) (QRet tt.get Try.f5.results.toList R) ⟨initF args, [], m, []⟩) : Spec Try.prog 5 args m R :=
  Spec.of_body (c := c5) Try.func5 (by kernel_rfl) (by kernel_rfl) tt_ok wide (by kernel_rfl) hlen h
/- maund maundlaw05.TallyTotal -/
noncomputable def c6 : Cfg := ⟨Try.prog, tt.get, inL [], atL [(1, ⟨.op 0 .all (.op 1 .all (.op 4 .all (.op 6 .all (.op 2 .all (.op 3 .all (.op 5 .all (.op 7 .none (.op 8 .all (.op 9 .all (.op 10 .all (.op 11 .none (.op 12 .none (.op 13 .none (.nil)))))))))))))), [0, 0, 3, 7, 0, 31, 0, 127, 0, 0, 0, 2047, 4095, 8191]⟩)], inL []⟩
theorem en6 {args : List CV} {m : Mem} {R : List CV → Mem → Prop} (hlen : Nat.ble args.length Try.f6.ntmps = true) (h : xwp c6 (bodyOf Try.f6) (QRet tt.get Try.f6.results.toList R) ⟨initF args, [], m, []⟩) : Spec Try.prog 6 args m R :=
  Spec.of_body (c := c6) Try.func6 (by kernel_rfl) (by kernel_rfl) tt_ok wide (by kernel_rfl) hlen h
/- maund maundlaw03.VecJoins -/
noncomputable def c7 : Cfg := ⟨Try.prog, tt.get, inL [], atL [(7, ⟨.op 0 .all (.op 1 .all (.op 2 .all (.op 3 .all (.op 4 .all (.op 5 .none (.op 6 .none (.nil))))))), [0, 0, 0, 6, 14, 31, 63]⟩),
  (8, ⟨.op 0 .none (.op 1 .all (.op 2 .all (.op 4 .all (.op 3 .all (.op 5 .all (.op 6 .all (.op 7 .all (.op 9 .all (.op 8 .none (.op 10 .all (.op 11 .all (.op 12 .all (.nil))))))))))))), [0, 1, 3, 7, 3, 31, 63, 127, 255, 255, 1023, 2047, 4095]⟩)], inL []⟩
theorem en7 {args : List CV} {m : Mem} {R : List CV → Mem → Prop} (hlen : Nat.ble args.length Try.f7.ntmps = true) (h : xwp c7 (bodyOf Try.f7) (QRet tt.get Try.f7.results.toList R) ⟨initF args, [], m, []⟩) : Spec Try.prog 7 args m R :=
  Spec.of_body (c := c7) Try.func7 (by kernel_rfl) (by kernel_rfl) tt_ok wide (by kernel_rfl) hlen h
/- maund maundlaw03.VecLattice -/
noncomputable def c8 : Cfg := ⟨Try.prog, tt.get, inL [], atL [(1, ⟨.op 0 .all (.op 1 .all (.op 4 .all (.op 5 .all (.op 2 .all (.op 3 .all (.op 6 .none (.op 7 .all (.op 8 .all (.op 9 .none (.op 10 .none (.nil))))))))))), [0, 0, 3, 7, 0, 0, 63, 0, 0, 511, 1023]⟩),
  (2, ⟨.op 0 .all (.op 1 .all (.op 2 .none (.op 3 .all (.op 4 .all (.op 5 .all (.op 6 .all (.op 7 .none (.op 8 .all (.op 9 .all (.op 10 .all (.op 11 .all (.op 12 .all (.op 13 .none (.op 14 .all (.op 15 .all (.op 16 .all (.op 17 .all (.op 18 .all (.op 19 .none (.op 20 .all (.op 21 .all (.op 22 .all (.op 23 .all (.op 24 .all (.op 25 .all (.op 26 .all (.op 27 .all (.op 28 .all (.op 29 .all (.op 30 .all (.op 31 .all (.op 32 .all (.op 33 .all (.op 34 .all (.op 35 .all (.op 36 .all (.nil))))))))))))))))))))))))))))))))))))), [0, 0, 3, 7, 15, 31, 31, 127, 255, 511, 1023, 2047, 2047, 8191, 16383, 32767, 65535, 131071, 131071, 524287, 1048575, 2097151, 4194303, 8388607, 8388607, 8388607, 58720255, 125829119, 268435455, 536870911, 1073741823, 2147483647, 2147483647, 2147483647, 15032385535, 34359738367, 68719476735]⟩),
  (6, ⟨.op 0 .none (.op 1 .all (.op 2 .all (.op 3 .all (.op 6 .all (.op 7 .all (.op 8 .all (.or (.op 4 .all (.or (.op 5 .all (.op 9 .all (.op 10 .all (.op 11 .none (.op 12 .none (.op 13 .all (.op 14 .all (.op 15 .all (.op 16 .all (.op 17 .all (.op 20 .all (.op 18 .all (.op 19 .all (.op 21 .all (.op 22 .all (.op 23 .all (.op 24 .all (.op 25 .all (.op 27 .all (.op 26 .all (.op 28 .all (.op 29 .all (.op 30 .all (.nil)))))))))))))))))))))))) (.op 9 .all (.op 5 .all (.op 10 .all (.op 11 .none (.op 12 .none (.op 13 .all (.op 14 .all (.op 15 .all (.op 16 .all (.op 17 .all (.op 20 .all (.op 18 .all (.op 19 .all (.op 21 .all (.op 22 .all (.op 23 .all (.op 24 .all (.op 25 .all (.op 27 .all (.op 26 .all (.op 28 .all (.op 29 .all (.op 30 .all (.nil)))))))))))))))))))))))))) (.op 9 .all (.op 4 .all (.op 5 .all (.op 10 .all (.op 11 .none (.op 12 .none (.op 13 .all (.op 14 .all (.op 15 .all (.op 16 .all (.op 17 .all (.op 20 .all (.op 18 .all (.op 19 .all (.op 21 .all (.op 22 .all (.op 23 .all (.op 24 .all (.op 25 .all (.op 27 .all (.op 26 .all (.op 28 .all (.op 29 .all (.op 30 .all (.nil)))))))))))))))))))))))))))))))), [0, 1, 3, 3, 15, 31, 3, 3, 3, 387, 959, 2047, 4095, 8191, 16383, 32767, 65535, 65535, 262143, 524287, 65535, 2097151, 4194303, 8388607, 16777215, 16777215, 67108863, 16777215, 268435455, 536870911, 1073741823]⟩)], inL [6]⟩
theorem en8 {args : List CV} {m : Mem} {R : List CV → Mem → Prop} (hlen : Nat.ble args.length Try.f8.ntmps = true) (h : xwp c8 (bodyOf Try.f8) (QRet tt.get Try.f8.results.toList R) ⟨initF args, [], m, []⟩) : Spec Try.prog 8 args m R :=
  Spec.of_body (c := c8) Try.func8 (by kernel_rfl) (by kernel_rfl) tt_ok wide (by kernel_rfl) hlen h
/- maund maundlaw03.VecTells -/
noncomputable def c9 : Cfg := ⟨Try.prog, tt.get, inL [], atL [(1, ⟨.op 0 .all (.op 2 .all (.op 1 .all (.op 3 .none (.op 4 .all (.op 5 .all (.op 6 .none (.op 7 .none (.nil)))))))), [0, 1, 0, 7, 0, 0, 63, 127]⟩),
  (4, ⟨.op 0 .all (.op 2 .all (.op 1 .all (.op 3 .none (.op 4 .all (.op 5 .all (.op 6 .all (.op 7 .all (.op 9 .all (.op 10 .all (.op 8 .all (.op 11 .none (.op 12 .all (.op 13 .all (.op 14 .all (.op 15 .all (.op 16 .all (.op 18 .all (.op 19 .all (.op 17 .all (.op 20 .none (.op 21 .all (.op 22 .all (.op 23 .all (.op 24 .all (.op 25 .all (.op 27 .all (.op 28 .all (.op 26 .all (.op 29 .none (.op 30 .all (.op 31 .all (.op 32 .all (.op 33 .all (.op 35 .all (.op 34 .all (.op 36 .all (.op 37 .all (.op 38 .all (.op 39 .all (.op 40 .all (.op 41 .all (.op 42 .all (.nil))))))))))))))))))))))))))))))))))))))))))), [0, 1, 0, 7, 15, 31, 63, 63, 255, 63, 63, 2047, 4095, 8191, 16383, 32767, 32767, 131071, 32767, 32767, 1048575, 2097151, 4194303, 8388607, 16777215, 16777215, 67108863, 16777215, 16777215, 536870911, 1073741823, 2147483647, 4294967295, 8589934591, 17179869183, 8589934591, 68719476735, 137438953471, 274877906943, 549755813887, 549755813887, 2199023255551, 4398046511103]⟩),
  (6, ⟨.op 0 .none (.op 1 .all (.op 2 .all (.op 3 .all (.op 6 .all (.op 7 .all (.op 4 .all (.op 5 .all (.op 8 .none (.op 9 .all (.op 10 .all (.op 11 .all (.op 12 .all (.op 13 .all (.op 15 .all (.op 16 .all (.op 14 .all (.op 17 .none (.op 18 .all (.op 19 .all (.op 20 .all (.op 21 .all (.op 22 .all (.op 24 .all (.op 25 .all (.op 23 .all (.op 26 .none (.op 27 .all (.op 28 .all (.op 29 .all (.op 30 .all (.op 31 .all (.op 33 .all (.op 34 .all (.op 32 .all (.op 35 .none (.op 36 .all (.op 37 .all (.op 38 .all (.op 39 .all (.op 40 .all (.op 42 .all (.op 43 .all (.op 41 .all (.op 44 .none (.op 45 .all (.op 46 .all (.op 47 .all (.nil)))))))))))))))))))))))))))))))))))))))))))))))), [0, 1, 3, 3, 15, 31, 3, 3, 255, 511, 1023, 2047, 4095, 4095, 16383, 4095, 4095, 131071, 262143, 524287, 1048575, 2097151, 2097151, 8388607, 2097151, 2097151, 67108863, 134217727, 268435455, 536870911, 1073741823, 1073741823, 4294967295, 1073741823, 1073741823, 34359738367, 68719476735, 137438953471, 274877906943, 549755813887, 549755813887, 2199023255551, 549755813887, 549755813887, 17592186044415, 35184372088831, 70368744177663, 140737488355327]⟩)], inL []⟩
theorem en9 {args : List CV} {m : Mem} {R : List CV → Mem → Prop} (hlen : Nat.ble args.length Try.f9.ntmps = true) (h : xwp c9 (bodyOf Try.f9) (QRet tt.get Try.f9.results.toList R) ⟨initF args, [], m, []⟩) : Spec Try.prog 9 args m R :=
  Spec.of_body (c := c9) Try.func9 (by kernel_rfl) (by kernel_rfl) tt_ok wide (by kernel_rfl) hlen h
/- maund maundlaw03.VecNext -/
noncomputable def c10 : Cfg := ⟨Try.prog, tt.get, inL [], atL [(8, ⟨.op 0 .all (.op 1 .all (.op 2 .all (.op 3 .all (.op 4 .all (.op 5 .all (.op 6 .all (.op 7 .all (.op 8 .all (.op 9 .all (.op 10 .all (.op 11 .all (.op 12 .all (.nil))))))))))))), [0, 1, 0, 7, 15, 31, 63, 127, 31, 287, 799, 2047, 4095]⟩),
  (10, ⟨.op 0 .none (.op 1 .all (.op 2 .all (.op 3 .all (.op 4 .none (.op 5 .all (.op 6 .all (.op 7 .all (.op 8 .all (.op 9 .all (.op 10 .none (.op 11 .all (.op 12 .all (.op 13 .all (.op 14 .all (.op 15 .none (.op 16 .all (.op 17 .all (.op 18 .all (.op 19 .all (.op 20 .all (.op 22 .all (.op 23 .all (.op 21 .all (.op 24 .none (.op 25 .all (.op 26 .all (.op 27 .all (.op 28 .all (.nil))))))))))))))))))))))))))))), [0, 1, 3, 3, 15, 31, 63, 127, 255, 255, 1023, 2047, 4095, 8191, 8191, 32767, 65535, 131071, 262143, 524287, 524287, 2097151, 524287, 524287, 16777215, 33554431, 67108863, 134217727, 268435455]⟩)], inL []⟩
theorem en10 {args : List CV} {m : Mem} {R : List CV → Mem → Prop} (hlen : Nat.ble args.length Try.f10.ntmps = true) (h : xwp c10 (bodyOf Try.f10) (QRet tt.get Try.f10.results.toList R) ⟨initF args, [], m, []⟩) : Spec Try.prog 10 args m R :=
  Spec.of_body (c := c10) Try.func10 (by kernel_rfl) (by kernel_rfl) tt_ok wide (by kernel_rfl) hlen h
/- maund maundlaw05.alive -/
noncomputable def c11 : Cfg := ⟨Try.prog, tt.get, inL [], atL [], inL []⟩
theorem en11 {args : List CV} {m : Mem} {R : List CV → Mem → Prop} (hlen : Nat.ble args.length Try.f11.ntmps = true) (h : xwp c11 (bodyOf Try.f11) (QRet tt.get Try.f11.results.toList R) ⟨initF args, [], m, []⟩) : Spec Try.prog 11 args m R :=
  Spec.of_body (c := c11) Try.func11 (by kernel_rfl) (by kernel_rfl) tt_ok wide (by kernel_rfl) hlen h
/- maund tally.Sum -/
noncomputable def c12 : Cfg := ⟨Try.prog, tt.get, inL [], atL [], inL []⟩
theorem en12 {args : List CV} {m : Mem} {R : List CV → Mem → Prop} (hlen : Nat.ble args.length Try.f12.ntmps = true) (h : xwp c12 (bodyOf Try.f12) (QRet tt.get Try.f12.results.toList R) ⟨initF args, [], m, []⟩) : Spec Try.prog 12 args m R :=
  Spec.of_body (c := c12) Try.func12 (by kernel_rfl) (by kernel_rfl) tt_ok wide (by kernel_rfl) hlen h
/- maund tally.Plus -/
noncomputable def c13 : Cfg := ⟨Try.prog, tt.get, inL [], atL [(1, ⟨.op 0 .all (.op 1 .all (.op 2 .all (.op 3 .all (.op 5 .all (.op 6 .all (.op 7 .all (.op 8 .all (.op 4 .all (.op 9 .none (.op 10 .all (.op 11 .none (.nil)))))))))))), [0, 1, 0, 4, 15, 0, 32, 0, 128, 511, 1023, 2047]⟩)], inL []⟩
theorem en13 {args : List CV} {m : Mem} {R : List CV → Mem → Prop} (hlen : Nat.ble args.length Try.f13.ntmps = true) (h : xwp c13 (bodyOf Try.f13) (QRet tt.get Try.f13.results.toList R) ⟨initF args, [], m, []⟩) : Spec Try.prog 13 args m R :=
  Spec.of_body (c := c13) Try.func13 (by kernel_rfl) (by kernel_rfl) tt_ok wide (by kernel_rfl) hlen h
/- maund tally.Right -/
noncomputable def c14 : Cfg := ⟨Try.prog, tt.get, inL [], atL [], inL []⟩
theorem en14 {args : List CV} {m : Mem} {R : List CV → Mem → Prop} (hlen : Nat.ble args.length Try.f14.ntmps = true) (h : xwp c14 (bodyOf Try.f14) (QRet tt.get Try.f14.results.toList R) ⟨initF args, [], m, []⟩) : Spec Try.prog 14 args m R :=
  Spec.of_body (c := c14) Try.func14 (by kernel_rfl) (by kernel_rfl) tt_ok wide (by kernel_rfl) hlen h
/- maund tally.Value -/
noncomputable def c15 : Cfg := ⟨Try.prog, tt.get, inL [], atL [], inL []⟩
theorem en15 {args : List CV} {m : Mem} {R : List CV → Mem → Prop} (hlen : Nat.ble args.length Try.f15.ntmps = true) (h : xwp c15 (bodyOf Try.f15) (QRet tt.get Try.f15.results.toList R) ⟨initF args, [], m, []⟩) : Spec Try.prog 15 args m R :=
  Spec.of_body (c := c15) Try.func15 (by kernel_rfl) (by kernel_rfl) tt_ok wide (by kernel_rfl) hlen h
/- maund tally.Count -/
noncomputable def c16 : Cfg := ⟨Try.prog, tt.get, inL [], atL [(4, ⟨.op 0 .all (.op 1 .all (.op 2 .all (.op 3 .all (.op 4 .all (.op 5 .all (.op 6 .all (.op 7 .all (.op 8 .all (.op 9 .all (.nil)))))))))), [0, 1, 0, 7, 0, 16, 0, 112, 15, 511]⟩),
  (5, ⟨.op 0 .all (.op 1 .all (.op 2 .all (.op 3 .all (.op 4 .all (.op 5 .all (.op 6 .all (.op 7 .all (.op 8 .all (.op 9 .all (.op 10 .all (.op 11 .all (.op 12 .all (.op 13 .all (.op 14 .all (.op 15 .all (.op 16 .all (.op 17 .all (.op 18 .all (.op 19 .all (.nil)))))))))))))))))))), [0, 1, 3, 0, 8, 31, 0, 64, 255, 511, 1023, 2047, 4095, 1023, 9215, 32767, 1023, 66559, 262143, 524287]⟩),
  (7, ⟨.op 0 .all (.op 1 .all (.op 2 .all (.op 3 .all (.op 4 .all (.op 5 .all (.op 6 .all (.op 7 .none (.nil)))))))), [0, 1, 3, 0, 8, 31, 63, 127]⟩),
  (8, ⟨.op 0 .all (.op 1 .all (.op 2 .all (.op 3 .all (.op 4 .all (.op 5 .all (.op 6 .all (.op 7 .none (.nil)))))))), [0, 1, 3, 0, 8, 31, 63, 127]⟩)], inL []⟩
theorem en16 {args : List CV} {m : Mem} {R : List CV → Mem → Prop} (hlen : Nat.ble args.length Try.f16.ntmps = true) (h : xwp c16 (bodyOf Try.f16) (QRet tt.get Try.f16.results.toList R) ⟨initF args, [], m, []⟩) : Spec Try.prog 16 args m R :=
  Spec.of_body (c := c16) Try.func16 (by kernel_rfl) (by kernel_rfl) tt_ok wide (by kernel_rfl) hlen h
/- maund maundref05.Count -/
noncomputable def c17 : Cfg := ⟨Try.prog, tt.get, inL [], atL [(10, ⟨.op 0 .all (.op 1 .all (.op 2 .all (.op 3 .all (.op 4 .all (.op 5 .all (.op 6 .all (.op 7 .all (.op 8 .all (.op 9 .all (.op 10 .all (.op 11 .all (.op 12 .all (.op 13 .none (.nil)))))))))))))), [0, 0, 2, 0, 0, 16, 8, 120, 248, 0, 1016, 1, 4095, 8191]⟩)], inL []⟩
theorem en17 {args : List CV} {m : Mem} {R : List CV → Mem → Prop} (hlen : Nat.ble args.length Try.f17.ntmps = true) (h : xwp c17 (bodyOf Try.f17) (QRet tt.get Try.f17.results.toList R) ⟨initF args, [], m, []⟩) : Spec Try.prog 17 args m R :=
  Spec.of_body (c := c17) Try.func17 (by kernel_rfl) (by kernel_rfl) tt_ok wide (by kernel_rfl) hlen h
/- maund maundlaw05.of -/
noncomputable def c18 : Cfg := ⟨Try.prog, tt.get, inL [], atL [], inL []⟩
theorem en18 {args : List CV} {m : Mem} {R : List CV → Mem → Prop} (hlen : Nat.ble args.length Try.f18.ntmps = true) (h : xwp c18 (bodyOf Try.f18) (QRet tt.get Try.f18.results.toList R) ⟨initF args, [], m, []⟩) : Spec Try.prog 18 args m R :=
  Spec.of_body (c := c18) Try.func18 (by kernel_rfl) (by kernel_rfl) tt_ok wide (by kernel_rfl) hlen h
/- maund tally.Join -/
noncomputable def c19 : Cfg := ⟨Try.prog, tt.get, inL [], atL [(4, ⟨.op 0 .all (.op 1 .all (.op 2 .all (.op 3 .all (.op 4 .all (.op 5 .all (.op 6 .all (.op 7 .all (.op 8 .all (.op 9 .all (.op 10 .all (.op 11 .all (.op 12 .all (.op 13 .all (.op 14 .all (.op 15 .all (.op 16 .all (.op 17 .all (.op 18 .all (.op 19 .all (.op 20 .all (.op 21 .all (.op 23 .all (.op 22 (.but 2) (.op 24 .all (.op 25 .none (.nil)))))))))))))))))))))))))), [0, 0, 0, 0, 12, 28, 0, 0, 192, 448, 1020, 0, 0, 6144, 14336, 0, 0, 98304, 229376, 522240, 0, 1081341, 3178493, 0, 16777215, 33554431]⟩)], inL []⟩
theorem en19 {args : List CV} {m : Mem} {R : List CV → Mem → Prop} (hlen : Nat.ble args.length Try.f19.ntmps = true) (h : xwp c19 (bodyOf Try.f19) (QRet tt.get Try.f19.results.toList R) ⟨initF args, [], m, []⟩) : Spec Try.prog 19 args m R :=
  Spec.of_body (c := c19) Try.func19 (by kernel_rfl) (by kernel_rfl) tt_ok wide (by kernel_rfl) hlen h
/- maund maundref05.Join -/
noncomputable def c20 : Cfg := ⟨Try.prog, tt.get, inL [], atL [(5, ⟨.op 0 .all (.op 1 .all (.op 2 .all (.op 3 .all (.op 4 .all (.op 5 .all (.op 6 .all (.op 7 .all (.op 8 .all (.nil))))))))), [0, 0, 3, 7, 0, 0, 48, 112, 255]⟩),
  (7, ⟨.op 0 .all (.op 1 .all (.op 2 .all (.op 3 .all (.op 4 .all (.op 5 .all (.op 6 .all (.op 7 .all (.op 8 .all (.nil))))))))), [0, 0, 3, 7, 0, 0, 48, 112, 255]⟩)], inL []⟩
theorem en20 {args : List CV} {m : Mem} {R : List CV → Mem → Prop} (hlen : Nat.ble args.length Try.f20.ntmps = true) (h : xwp c20 (bodyOf Try.f20) (QRet tt.get Try.f20.results.toList R) ⟨initF args, [], m, []⟩) : Spec Try.prog 20 args m R :=
  Spec.of_body (c := c20) Try.func20 (by kernel_rfl) (by kernel_rfl) tt_ok wide (by kernel_rfl) hlen h
/- maund maundlaw05.as -/
noncomputable def c21 : Cfg := ⟨Try.prog, tt.get, inL [], atL [], inL []⟩
theorem en21 {args : List CV} {m : Mem} {R : List CV → Mem → Prop} (hlen : Nat.ble args.length Try.f21.ntmps = true) (h : xwp c21 (bodyOf Try.f21) (QRet tt.get Try.f21.results.toList R) ⟨initF args, [], m, []⟩) : Spec Try.prog 21 args m R :=
  Spec.of_body (c := c21) Try.func21 (by kernel_rfl) (by kernel_rfl) tt_ok wide (by kernel_rfl) hlen h
/- maund tally.Total -/
noncomputable def c22 : Cfg := ⟨Try.prog, tt.get, inL [], atL [(5, ⟨.op 0 .all (.op 1 .all (.op 2 .all (.op 3 .all (.op 4 .all (.op 5 .all (.op 6 .all (.op 7 .none (.op 8 .none (.nil))))))))), [0, 0, 0, 0, 12, 28, 62, 127, 255]⟩)], inL []⟩
theorem en22 {args : List CV} {m : Mem} {R : List CV → Mem → Prop} (hlen : Nat.ble args.length Try.f22.ntmps = true) (h : xwp c22 (bodyOf Try.f22) (QRet tt.get Try.f22.results.toList R) ⟨initF args, [], m, []⟩) : Spec Try.prog 22 args m R :=
  Spec.of_body (c := c22) Try.func22 (by kernel_rfl) (by kernel_rfl) tt_ok wide (by kernel_rfl) hlen h
/- maund maundref05.Total -/
noncomputable def c23 : Cfg := ⟨Try.prog, tt.get, inL [], atL [(5, ⟨.op 0 .all (.op 1 .all (.op 2 .all (.op 3 .all (.op 4 .all (.op 5 .all (.op 6 .all (.op 7 .all (.op 8 .all (.op 9 .all (.op 10 .none (.op 11 .none (.nil)))))))))))), [0, 0, 0, 6, 14, 0, 0, 96, 224, 510, 1023, 2047]⟩)], inL []⟩
theorem en23 {args : List CV} {m : Mem} {R : List CV → Mem → Prop} (hlen : Nat.ble args.length Try.f23.ntmps = true) (h : xwp c23 (bodyOf Try.f23) (QRet tt.get Try.f23.results.toList R) ⟨initF args, [], m, []⟩) : Spec Try.prog 23 args m R :=
  Spec.of_body (c := c23) Try.func23 (by kernel_rfl) (by kernel_rfl) tt_ok wide (by kernel_rfl) hlen h
/- maund maundlaw03.alive -/
noncomputable def c24 : Cfg := ⟨Try.prog, tt.get, inL [], atL [], inL []⟩
theorem en24 {args : List CV} {m : Mem} {R : List CV → Mem → Prop} (hlen : Nat.ble args.length Try.f24.ntmps = true) (h : xwp c24 (bodyOf Try.f24) (QRet tt.get Try.f24.results.toList R) ⟨initF args, [], m, []⟩) : Spec Try.prog 24 args m R :=
  Spec.of_body (c := c24) Try.func24 (by kernel_rfl) (by kernel_rfl) tt_ok wide (by kernel_rfl) hlen h
/- maund maundref03.Join -/
noncomputable def c25 : Cfg := ⟨Try.prog, tt.get, inL [], atL [(5, ⟨.op 0 .all (.op 1 .all (.op 2 .all (.op 3 .all (.op 4 .all (.op 5 .all (.op 6 .all (.nil))))))), [0, 1, 3, 0, 8, 24, 63]⟩)], inL []⟩
theorem en25 {args : List CV} {m : Mem} {R : List CV → Mem → Prop} (hlen : Nat.ble args.length Try.f25.ntmps = true) (h : xwp c25 (bodyOf Try.f25) (QRet tt.get Try.f25.results.toList R) ⟨initF args, [], m, []⟩) : Spec Try.prog 25 args m R :=
  Spec.of_body (c := c25) Try.func25 (by kernel_rfl) (by kernel_rfl) tt_ok wide (by kernel_rfl) hlen h
/- maund vec.Join -/
noncomputable def c26 : Cfg := ⟨Try.prog, tt.get, inL [], atL [], inL []⟩
theorem en26 {args : List CV} {m : Mem} {R : List CV → Mem → Prop} (hlen : Nat.ble args.length Try.f26.ntmps = true) (h : xwp c26 (bodyOf Try.f26) (QRet tt.get Try.f26.results.toList R) ⟨initF args, [], m, []⟩) : Spec Try.prog 26 args m R :=
  Spec.of_body (c := c26) Try.func26 (by kernel_rfl) (by kernel_rfl) tt_ok wide (by kernel_rfl) hlen h
/- maund vec.Meet -/
noncomputable def c27 : Cfg := ⟨Try.prog, tt.get, inL [], atL [(4, ⟨.op 0 .all (.op 1 .all (.op 2 .all (.op 3 .all (.op 4 .all (.op 5 .all (.op 6 .all (.op 7 .all (.op 8 .all (.op 9 .none (.nil)))))))))), [0, 0, 2, 6, 0, 16, 48, 126, 255, 511]⟩)], inL []⟩
theorem en27 {args : List CV} {m : Mem} {R : List CV → Mem → Prop} (hlen : Nat.ble args.length Try.f27.ntmps = true) (h : xwp c27 (bodyOf Try.f27) (QRet tt.get Try.f27.results.toList R) ⟨initF args, [], m, []⟩) : Spec Try.prog 27 args m R :=
  Spec.of_body (c := c27) Try.func27 (by kernel_rfl) (by kernel_rfl) tt_ok wide (by kernel_rfl) hlen h
/- maund vec.Covers -/
noncomputable def c28 : Cfg := ⟨Try.prog, tt.get, inL [], atL [(1, ⟨.op 0 .all (.op 1 .all (.op 3 .all (.op 2 .all (.op 4 .all (.op 5 .all (.nil)))))), [0, 0, 3, 0, 15, 31]⟩)], inL []⟩
theorem en28 {args : List CV} {m : Mem} {R : List CV → Mem → Prop} (hlen : Nat.ble args.length Try.f28.ntmps = true) (h : xwp c28 (bodyOf Try.f28) (QRet tt.get Try.f28.results.toList R) ⟨initF args, [], m, []⟩) : Spec Try.prog 28 args m R :=
  Spec.of_body (c := c28) Try.func28 (by kernel_rfl) (by kernel_rfl) tt_ok wide (by kernel_rfl) hlen h
/- maund maundlaw03.As -/
noncomputable def c29 : Cfg := ⟨Try.prog, tt.get, inL [], atL [], inL []⟩
theorem en29 {args : List CV} {m : Mem} {R : List CV → Mem → Prop} (hlen : Nat.ble args.length Try.f29.ntmps = true) (h : xwp c29 (bodyOf Try.f29) (QRet tt.get Try.f29.results.toList R) ⟨initF args, [], m, []⟩) : Spec Try.prog 29 args m R :=
  Spec.of_body (c := c29) Try.func29 (by kernel_rfl) (by kernel_rfl) tt_ok wide (by kernel_rfl) hlen h
/- maund vec.Next -/
noncomputable def c30 : Cfg := ⟨Try.prog, tt.get, inL [], atL [], inL []⟩
theorem en30 {args : List CV} {m : Mem} {R : List CV → Mem → Prop} (hlen : Nat.ble args.length Try.f30.ntmps = true) (h : xwp c30 (bodyOf Try.f30) (QRet tt.get Try.f30.results.toList R) ⟨initF args, [], m, []⟩) : Spec Try.prog 30 args m R :=
  Spec.of_body (c := c30) Try.func30 (by kernel_rfl) (by kernel_rfl) tt_ok wide (by kernel_rfl) hlen h
/- maund maundref03.Next -/
noncomputable def c31 : Cfg := ⟨Try.prog, tt.get, inL [], atL [], inL []⟩
theorem en31 {args : List CV} {m : Mem} {R : List CV → Mem → Prop} (hlen : Nat.ble args.length Try.f31.ntmps = true) (h : xwp c31 (bodyOf Try.f31) (QRet tt.get Try.f31.results.toList R) ⟨initF args, [], m, []⟩) : Spec Try.prog 31 args m R :=
  Spec.of_body (c := c31) Try.func31 (by kernel_rfl) (by kernel_rfl) tt_ok wide (by kernel_rfl) hlen h
/- maund vec.Right -/
noncomputable def c32 : Cfg := ⟨Try.prog, tt.get, inL [], atL [], inL []⟩
theorem en32 {args : List CV} {m : Mem} {R : List CV → Mem → Prop} (hlen : Nat.ble args.length Try.f32.ntmps = true) (h : xwp c32 (bodyOf Try.f32) (QRet tt.get Try.f32.results.toList R) ⟨initF args, [], m, []⟩) : Spec Try.prog 32 args m R :=
  Spec.of_body (c := c32) Try.func32 (by kernel_rfl) (by kernel_rfl) tt_ok wide (by kernel_rfl) hlen h
/- maund maundref03.Right -/
noncomputable def c33 : Cfg := ⟨Try.prog, tt.get, inL [], atL [], inL []⟩
theorem en33 {args : List CV} {m : Mem} {R : List CV → Mem → Prop} (hlen : Nat.ble args.length Try.f33.ntmps = true) (h : xwp c33 (bodyOf Try.f33) (QRet tt.get Try.f33.results.toList R) ⟨initF args, [], m, []⟩) : Spec Try.prog 33 args m R :=
  Spec.of_body (c := c33) Try.func33 (by kernel_rfl) (by kernel_rfl) tt_ok wide (by kernel_rfl) hlen h
/- maund vec.Less -/
noncomputable def c34 : Cfg := ⟨Try.prog, tt.get, inL [], atL [(1, ⟨.op 0 .all (.op 1 .all (.op 2 .all (.op 3 .all (.op 5 .all (.op 6 .all (.op 7 .all (.op 8 .all (.op 4 .all (.op 9 .none (.op 10 .none (.op 11 .none (.op 12 .all (.op 13 .all (.nil)))))))))))))), [0, 1, 0, 4, 15, 0, 32, 0, 128, 511, 1023, 2047, 4095, 8191]⟩)], inL []⟩
theorem en34 {args : List CV} {m : Mem} {R : List CV → Mem → Prop} (hlen : Nat.ble args.length Try.f34.ntmps = true) (h : xwp c34 (bodyOf Try.f34) (QRet tt.get Try.f34.results.toList R) ⟨initF args, [], m, []⟩) : Spec Try.prog 34 args m R :=
  Spec.of_body (c := c34) Try.func34 (by kernel_rfl) (by kernel_rfl) tt_ok wide (by kernel_rfl) hlen h
/- maund maundref03.Less -/
noncomputable def c35 : Cfg := ⟨Try.prog, tt.get, inL [], atL [], inL []⟩
theorem en35 {args : List CV} {m : Mem} {R : List CV → Mem → Prop} (hlen : Nat.ble args.length Try.f35.ntmps = true) (h : xwp c35 (bodyOf Try.f35) (QRet tt.get Try.f35.results.toList R) ⟨initF args, [], m, []⟩) : Spec Try.prog 35 args m R :=
  Spec.of_body (c := c35) Try.func35 (by kernel_rfl) (by kernel_rfl) tt_ok wide (by kernel_rfl) hlen h
/- maund vec.Get -/
noncomputable def c36 : Cfg := ⟨Try.prog, tt.get, inL [], atL [], inL []⟩
theorem en36 {args : List CV} {m : Mem} {R : List CV → Mem → Prop} (hlen : Nat.ble args.length Try.f36.ntmps = true) (h : xwp c36 (bodyOf Try.f36) (QRet tt.get Try.f36.results.toList R) ⟨initF args, [], m, []⟩) : Spec Try.prog 36 args m R :=
  Spec.of_body (c := c36) Try.func36 (by kernel_rfl) (by kernel_rfl) tt_ok wide (by kernel_rfl) hlen h
/- maund maundref03.Get -/
noncomputable def c37 : Cfg := ⟨Try.prog, tt.get, inL [], atL [], inL []⟩
theorem en37 {args : List CV} {m : Mem} {R : List CV → Mem → Prop} (hlen : Nat.ble args.length Try.f37.ntmps = true) (h : xwp c37 (bodyOf Try.f37) (QRet tt.get Try.f37.results.toList R) ⟨initF args, [], m, []⟩) : Spec Try.prog 37 args m R :=
  Spec.of_body (c := c37) Try.func37 (by kernel_rfl) (by kernel_rfl) tt_ok wide (by kernel_rfl) hlen h
/- maund vec.With -/
noncomputable def c38 : Cfg := ⟨Try.prog, tt.get, inL [], atL [(2, ⟨.op 0 .all (.op 1 .all (.op 2 .all (.op 3 .all (.op 4 .all (.op 5 .all (.op 6 .all (.op 7 .all (.op 8 .all (.op 9 .all (.op 10 .all (.op 11 .all (.op 12 .none (.nil))))))))))))), [0, 1, 3, 0, 8, 24, 56, 120, 0, 256, 1016, 2047, 4095]⟩)], inL []⟩
theorem en38 {args : List CV} {m : Mem} {R : List CV → Mem → Prop} (hlen : Nat.ble args.length Try.f38.ntmps = true) (h : xwp c38 (bodyOf Try.f38) (QRet tt.get Try.f38.results.toList R) ⟨initF args, [], m, []⟩) : Spec Try.prog 38 args m R :=
  Spec.of_body (c := c38) Try.func38 (by kernel_rfl) (by kernel_rfl) tt_ok wide (by kernel_rfl) hlen h
/- maund maundref03.With -/
noncomputable def c39 : Cfg := ⟨Try.prog, tt.get, inL [], atL [(5, ⟨.op 0 .all (.op 1 .none (.op 2 .all (.op 3 .all (.op 4 .all (.op 5 .all (.op 6 .all (.op 7 .all (.op 8 .all (.op 9 .all (.op 10 .all (.op 11 .all (.op 12 .all (.op 13 .all (.op 14 .all (.op 15 .all (.op 16 .all (.nil))))))))))))))))), [0, 1, 3, 7, 15, 7, 39, 127, 255, 511, 1023, 2047, 1023, 5119, 13311, 32767, 65535]⟩)], inL []⟩
theorem en39 {args : List CV} {m : Mem} {R : List CV → Mem → Prop} (hlen : Nat.ble args.length Try.f39.ntmps = true) (h : xwp c39 (bodyOf Try.f39) (QRet tt.get Try.f39.results.toList R) ⟨initF args, [], m, []⟩) : Spec Try.prog 39 args m R :=
  Spec.of_body (c := c39) Try.func39 (by kernel_rfl) (by kernel_rfl) tt_ok wide (by kernel_rfl) hlen h
/- maund maundref03.Meet -/
noncomputable def c40 : Cfg := ⟨Try.prog, tt.get, inL [], atL [(5, ⟨.op 0 .all (.op 1 .all (.op 2 .all (.op 3 .all (.op 4 .all (.op 5 .all (.op 6 .all (.nil))))))), [0, 1, 3, 0, 8, 24, 63]⟩)], inL []⟩
theorem en40 {args : List CV} {m : Mem} {R : List CV → Mem → Prop} (hlen : Nat.ble args.length Try.f40.ntmps = true) (h : xwp c40 (bodyOf Try.f40) (QRet tt.get Try.f40.results.toList R) ⟨initF args, [], m, []⟩) : Spec Try.prog 40 args m R :=
  Spec.of_body (c := c40) Try.func40 (by kernel_rfl) (by kernel_rfl) tt_ok wide (by kernel_rfl) hlen h
/- maund maundref03.Covers -/
noncomputable def c41 : Cfg := ⟨Try.prog, tt.get, inL [], atL [(4, ⟨.op 0 .all (.op 1 .all (.op 2 .all (.op 3 .all (.op 4 .all (.op 5 .all (.op 6 .all (.nil))))))), [0, 1, 3, 0, 8, 24, 63]⟩)], inL []⟩
theorem en41 {args : List CV} {m : Mem} {R : List CV → Mem → Prop} (hlen : Nat.ble args.length Try.f41.ntmps = true) (h : xwp c41 (bodyOf Try.f41) (QRet tt.get Try.f41.results.toList R) ⟨initF args, [], m, []⟩) : Spec Try.prog 41 args m R :=
  Spec.of_body (c := c41) Try.func41 (by kernel_rfl) (by kernel_rfl) tt_ok wide (by kernel_rfl) hlen h
/- maund vec.Has -/
noncomputable def c42 : Cfg := ⟨Try.prog, tt.get, inL [], atL [(1, ⟨.op 0 .all (.op 1 .none (.op 2 .all (.op 3 .all (.op 4 .all (.op 5 .all (.op 7 .all (.op 8 .all (.op 6 .all (.op 9 .all (.op 10 .all (.op 11 .all (.nil)))))))))))), [0, 1, 3, 7, 7, 23, 63, 7, 135, 511, 1023, 2047]⟩)], inL []⟩
theorem en42 {args : List CV} {m : Mem} {R : List CV → Mem → Prop} (hlen : Nat.ble args.length Try.f42.ntmps = true) (h : xwp c42 (bodyOf Try.f42) (QRet tt.get Try.f42.results.toList R) ⟨initF args, [], m, []⟩) : Spec Try.prog 42 args m R :=
  Spec.of_body (c := c42) Try.func42 (by kernel_rfl) (by kernel_rfl) tt_ok wide (by kernel_rfl) hlen h
/- maund maundref03.Has -/
noncomputable def c43 : Cfg := ⟨Try.prog, tt.get, inL [], atL [(1, ⟨.op 0 .all (.op 1 .none (.op 2 .all (.op 3 .all (.op 4 .all (.op 5 .all (.op 6 .all (.op 7 .all (.op 8 .all (.op 9 .all (.op 10 .all (.op 11 .all (.nil)))))))))))), [0, 1, 3, 7, 15, 7, 7, 71, 231, 511, 1023, 2047]⟩)], inL []⟩
theorem en43 {args : List CV} {m : Mem} {R : List CV → Mem → Prop} (hlen : Nat.ble args.length Try.f43.ntmps = true) (h : xwp c43 (bodyOf Try.f43) (QRet tt.get Try.f43.results.toList R) ⟨initF args, [], m, []⟩) : Spec Try.prog 43 args m R :=
  Spec.of_body (c := c43) Try.func43 (by kernel_rfl) (by kernel_rfl) tt_ok wide (by kernel_rfl) hlen h
/- maund vec.Order -/
noncomputable def c44 : Cfg := ⟨Try.prog, tt.get, inL [], atL [(1, ⟨.op 0 .all (.op 1 .all (.op 3 .all (.op 4 .all (.op 2 .all (.op 5 .none (.op 6 .all (.op 7 .all (.nil)))))))), [0, 0, 3, 0, 0, 31, 63, 127]⟩)], inL []⟩
theorem en44 {args : List CV} {m : Mem} {R : List CV → Mem → Prop} (hlen : Nat.ble args.length Try.f44.ntmps = true) (h : xwp c44 (bodyOf Try.f44) (QRet tt.get Try.f44.results.toList R) ⟨initF args, [], m, []⟩) : Spec Try.prog 44 args m R :=
  Spec.of_body (c := c44) Try.func44 (by kernel_rfl) (by kernel_rfl) tt_ok wide (by kernel_rfl) hlen h
/- maund maundref03.Order -/
noncomputable def c45 : Cfg := ⟨Try.prog, tt.get, inL [], atL [], inL []⟩
theorem en45 {args : List CV} {m : Mem} {R : List CV → Mem → Prop} (hlen : Nat.ble args.length Try.f45.ntmps = true) (h : xwp c45 (bodyOf Try.f45) (QRet tt.get Try.f45.results.toList R) ⟨initF args, [], m, []⟩) : Spec Try.prog 45 args m R :=
  Spec.of_body (c := c45) Try.func45 (by kernel_rfl) (by kernel_rfl) tt_ok wide (by kernel_rfl) hlen h
/- maund tally.Add -/
noncomputable def c46 : Cfg := ⟨Try.prog, tt.get, inL [], atL [(1, ⟨.op 0 .all (.op 1 .all (.op 2 .all (.op 3 .none (.op 4 .none (.nil))))), [0, 0, 2, 7, 15]⟩)], inL []⟩
theorem en46 {args : List CV} {m : Mem} {R : List CV → Mem → Prop} (hlen : Nat.ble args.length Try.f46.ntmps = true) (h : xwp c46 (bodyOf Try.f46) (QRet tt.get Try.f46.results.toList R) ⟨initF args, [], m, []⟩) : Spec Try.prog 46 args m R :=
  Spec.of_body (c := c46) Try.func46 (by kernel_rfl) (by kernel_rfl) tt_ok wide (by kernel_rfl) hlen h
/- maund tally.more -/
noncomputable def c47 : Cfg := ⟨Try.prog, tt.get, inL [], atL [], inL []⟩
theorem en47 {args : List CV} {m : Mem} {R : List CV → Mem → Prop} (hlen : Nat.ble args.length Try.f47.ntmps = true) (h : xwp c47 (bodyOf Try.f47) (QRet tt.get Try.f47.results.toList R) ⟨initF args, [], m, []⟩) : Spec Try.prog 47 args m R :=
  Spec.of_body (c := c47) Try.func47 (by kernel_rfl) (by kernel_rfl) tt_ok wide (by kernel_rfl) hlen h
/- maund tally.of -/
noncomputable def c48 : Cfg := ⟨Try.prog, tt.get, inL [], atL [], inL []⟩
theorem en48 {args : List CV} {m : Mem} {R : List CV → Mem → Prop} (hlen : Nat.ble args.length Try.f48.ntmps = true) (h : xwp c48 (bodyOf Try.f48) (QRet tt.get Try.f48.results.toList R) ⟨initF args, [], m, []⟩) : Spec Try.prog 48 args m R :=
  Spec.of_body (c := c48) Try.func48 (by kernel_rfl) (by kernel_rfl) tt_ok wide (by kernel_rfl) hlen h
/- maund maundref05.Plus -/
noncomputable def c49 : Cfg := ⟨Try.prog, tt.get, inL [], atL [(1, ⟨.op 0 .all (.op 1 .all (.op 2 .all (.op 3 .all (.op 5 .all (.op 6 .all (.op 7 .all (.op 8 .all (.op 4 .all (.op 9 .none (.op 10 .all (.op 11 .none (.nil)))))))))))), [0, 1, 0, 4, 15, 0, 32, 0, 128, 511, 1023, 2047]⟩)], inL []⟩
theorem en49 {args : List CV} {m : Mem} {R : List CV → Mem → Prop} (hlen : Nat.ble args.length Try.f49.ntmps = true) (h : xwp c49 (bodyOf Try.f49) (QRet tt.get Try.f49.results.toList R) ⟨initF args, [], m, []⟩) : Spec Try.prog 49 args m R :=
  Spec.of_body (c := c49) Try.func49 (by kernel_rfl) (by kernel_rfl) tt_ok wide (by kernel_rfl) hlen h
/- maund vec.isNode -/
noncomputable def c50 : Cfg := ⟨Try.prog, tt.get, inL [], atL [], inL []⟩
theorem en50 {args : List CV} {m : Mem} {R : List CV → Mem → Prop} (hlen : Nat.ble args.length Try.f50.ntmps = true) (h : xwp c50 (bodyOf Try.f50) (QRet tt.get Try.f50.results.toList R) ⟨initF args, [], m, []⟩) : Spec Try.prog 50 args m R :=
  Spec.of_body (c := c50) Try.func50 (by kernel_rfl) (by kernel_rfl) tt_ok wide (by kernel_rfl) hlen h
/- cmp.Or[int] -/
noncomputable def c51 : Cfg := ⟨Try.prog, tt.get, inL [], atL [], inL []⟩
theorem en51 {args : List CV} {m : Mem} {R : List CV → Mem → Prop} (hlen : Nat.ble args.length Try.f51.ntmps = true) (h : xwp c51 (bodyOf Try.f51) (QRet tt.get Try.f51.results.toList R) ⟨initF args, [], m, []⟩) : Spec Try.prog 51 args m R :=
  Spec.of_body (c := c51) Try.func51 (by kernel_rfl) (by kernel_rfl) tt_ok wide (by kernel_rfl) hlen h
/- cmp.Compare[int] -/
noncomputable def c52 : Cfg := ⟨Try.prog, tt.get, inL [], atL [], inL []⟩
theorem en52 {args : List CV} {m : Mem} {R : List CV → Mem → Prop} (hlen : Nat.ble args.length Try.f52.ntmps = true) (h : xwp c52 (bodyOf Try.f52) (QRet tt.get Try.f52.results.toList R) ⟨initF args, [], m, []⟩) : Spec Try.prog 52 args m R :=
  Spec.of_body (c := c52) Try.func52 (by kernel_rfl) (by kernel_rfl) tt_ok wide (by kernel_rfl) hlen h
/- cmp.Compare[uint64] -/
noncomputable def c53 : Cfg := ⟨Try.prog, tt.get, inL [], atL [], inL []⟩
theorem en53 {args : List CV} {m : Mem} {R : List CV → Mem → Prop} (hlen : Nat.ble args.length Try.f53.ntmps = true) (h : xwp c53 (bodyOf Try.f53) (QRet tt.get Try.f53.results.toList R) ⟨initF args, [], m, []⟩) : Spec Try.prog 53 args m R :=
  Spec.of_body (c := c53) Try.func53 (by kernel_rfl) (by kernel_rfl) tt_ok wide (by kernel_rfl) hlen h
/- maund maundref05.plus -/
noncomputable def c54 : Cfg := ⟨Try.prog, tt.get, inL [], atL [], inL []⟩
theorem en54 {args : List CV} {m : Mem} {R : List CV → Mem → Prop} (hlen : Nat.ble args.length Try.f54.ntmps = true) (h : xwp c54 (bodyOf Try.f54) (QRet tt.get Try.f54.results.toList R) ⟨initF args, [], m, []⟩) : Spec Try.prog 54 args m R :=
  Spec.of_body (c := c54) Try.func54 (by kernel_rfl) (by kernel_rfl) tt_ok wide (by kernel_rfl) hlen h
/- cmp.isNaN[int] -/
noncomputable def c55 : Cfg := ⟨Try.prog, tt.get, inL [], atL [], inL []⟩
theorem en55 {args : List CV} {m : Mem} {R : List CV → Mem → Prop} (hlen : Nat.ble args.length Try.f55.ntmps = true) (h : xwp c55 (bodyOf Try.f55) (QRet tt.get Try.f55.results.toList R) ⟨initF args, [], m, []⟩) : Spec Try.prog 55 args m R :=
  Spec.of_body (c := c55) Try.func55 (by kernel_rfl) (by kernel_rfl) tt_ok wide (by kernel_rfl) hlen h
/- cmp.isNaN[uint64] -/
noncomputable def c56 : Cfg := ⟨Try.prog, tt.get, inL [], atL [], inL []⟩
theorem en56 {args : List CV} {m : Mem} {R : List CV → Mem → Prop} (hlen : Nat.ble args.length Try.f56.ntmps = true) (h : xwp c56 (bodyOf Try.f56) (QRet tt.get Try.f56.results.toList R) ⟨initF args, [], m, []⟩) : Spec Try.prog 56 args m R :=
  Spec.of_body (c := c56) Try.func56 (by kernel_rfl) (by kernel_rfl) tt_ok wide (by kernel_rfl) hlen h
end Go.E.Ytdhojpepdgdblaa
