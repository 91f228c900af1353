/-
  Vec: how the functions named here are run: made by a program.
-/
import Derived.Test.YtdhojpepdgdblaaTab
namespace Go.E.Ytdhojpepdgdblaa
open Go.Proofs
set_option maxRecDepth 100000
/- maund maundlaw03.VecJoins -/
noncomputable def c7 : Cfg := ⟨Try.prog, tt.get, inL [], atL [(7, ⟨[(0, .all), (1, .all), (2, .all), (3, .all), (4, .all), (5, .none), (6, .none)], [0, 0, 0, 6, 14, 31, 63]⟩),
  (8, ⟨[(0, .none), (1, .all), (2, .all), (4, .all), (3, .all), (5, .all), (6, .all), (7, .all), (9, .all), (8, .none), (10, .all), (11, .all), (12, .all)], [0, 1, 3, 7, 3, 31, 63, 127, 255, 255, 1023, 2047, 4095]⟩)]⟩
theorem en7 {args : List CV} {m : Mem} {R : List CV → Mem → Prop} (hlen : Nat.ble args.length Try.f7.ntmps = true) (h : xwp c7 (bodyOf Try.f7) (QRet tt.get Try.f7.results.toList R) ⟨initF args, [], m, []⟩) : Spec Try.prog 7 args m R :=
  Spec.of_body (c := c7) Try.func7 (by kernel_rfl) (by kernel_rfl) tt_ok wide (by kernel_rfl) hlen h
/- maund maundlaw03.VecTells -/
noncomputable def c9 : Cfg := ⟨Try.prog, tt.get, inL [], atL [(1, ⟨[(0, .all), (2, .all), (1, .all), (3, .none), (4, .all), (5, .all), (6, .none), (7, .none)], [0, 1, 0, 7, 0, 0, 63, 127]⟩),
  (4, ⟨[(0, .all), (2, .all), (1, .all), (3, .none), (4, .all), (5, .all), (6, .all), (7, .all), (9, .all), (10, .all), (8, .all), (11, .none), (12, .all), (13, .all), (14, .all), (15, .all), (16, .all), (18, .all), (19, .all), (17, .all), (20, .none), (21, .all), (22, .all), (23, .all), (24, .all), (25, .all), (27, .all), (28, .all), (26, .all), (29, .none), (30, .all), (31, .all), (32, .all), (33, .all), (35, .all), (34, .all), (36, .all), (37, .all), (38, .all), (39, .all), (40, .all), (41, .all), (42, .all)], [0, 1, 0, 7, 15, 31, 63, 63, 255, 63, 63, 2047, 4095, 8191, 16383, 32767, 32767, 131071, 32767, 32767, 1048575, 2097151, 4194303, 8388607, 16777215, 16777215, 67108863, 16777215, 16777215, 536870911, 1073741823, 2147483647, 4294967295, 8589934591, 17179869183, 8589934591, 68719476735, 137438953471, 274877906943, 549755813887, 549755813887, 2199023255551, 4398046511103]⟩),
  (6, ⟨[(0, .none), (1, .all), (2, .all), (3, .all), (6, .all), (7, .all), (4, .all), (5, .all), (8, .none), (9, .all), (10, .all), (11, .all), (12, .all), (13, .all), (15, .all), (16, .all), (14, .all), (17, .none), (18, .all), (19, .all), (20, .all), (21, .all), (22, .all), (24, .all), (25, .all), (23, .all), (26, .none), (27, .all), (28, .all), (29, .all), (30, .all), (31, .all), (33, .all), (34, .all), (32, .all), (35, .none), (36, .all), (37, .all), (38, .all), (39, .all), (40, .all), (42, .all), (43, .all), (41, .all), (44, .none), (45, .all), (46, .all), (47, .all)], [0, 1, 3, 3, 15, 31, 3, 3, 255, 511, 1023, 2047, 4095, 4095, 16383, 4095, 4095, 131071, 262143, 524287, 1048575, 2097151, 2097151, 8388607, 2097151, 2097151, 67108863, 134217727, 268435455, 536870911, 1073741823, 1073741823, 4294967295, 1073741823, 1073741823, 34359738367, 68719476735, 137438953471, 274877906943, 549755813887, 549755813887, 2199023255551, 549755813887, 549755813887, 17592186044415, 35184372088831, 70368744177663, 140737488355327]⟩)]⟩
theorem en9 {args : List CV} {m : Mem} {R : List CV → Mem → Prop} (hlen : Nat.ble args.length Try.f9.ntmps = true) (h : xwp c9 (bodyOf Try.f9) (QRet tt.get Try.f9.results.toList R) ⟨initF args, [], m, []⟩) : Spec Try.prog 9 args m R :=
  Spec.of_body (c := c9) Try.func9 (by kernel_rfl) (by kernel_rfl) tt_ok wide (by kernel_rfl) hlen h
/- maund maundlaw03.VecNext -/
noncomputable def c10 : Cfg := ⟨Try.prog, tt.get, inL [], atL [(8, ⟨[(0, .all), (1, .all), (2, .all), (3, .all), (4, .all), (5, .all), (6, .all), (7, .all), (8, .all), (9, .all), (10, .all), (11, .all), (12, .all)], [0, 1, 0, 7, 15, 31, 63, 127, 31, 287, 799, 2047, 4095]⟩),
  (10, ⟨[(0, .none), (1, .all), (2, .all), (3, .all), (4, .none), (5, .all), (6, .all), (7, .all), (8, .all), (9, .all), (10, .none), (11, .all), (12, .all), (13, .all), (14, .all), (15, .none), (16, .all), (17, .all), (18, .all), (19, .all), (20, .all), (22, .all), (23, .all), (21, .all), (24, .none), (25, .all), (26, .all), (27, .all), (28, .all)], [0, 1, 3, 3, 15, 31, 63, 127, 255, 255, 1023, 2047, 4095, 8191, 8191, 32767, 65535, 131071, 262143, 524287, 524287, 2097151, 524287, 524287, 16777215, 33554431, 67108863, 134217727, 268435455]⟩)]⟩
theorem en10 {args : List CV} {m : Mem} {R : List CV → Mem → Prop} (hlen : Nat.ble args.length Try.f10.ntmps = true) (h : xwp c10 (bodyOf Try.f10) (QRet tt.get Try.f10.results.toList R) ⟨initF args, [], m, []⟩) : Spec Try.prog 10 args m R :=
  Spec.of_body (c := c10) Try.func10 (by kernel_rfl) (by kernel_rfl) tt_ok wide (by kernel_rfl) hlen h
/- maund maundlaw03.alive -/
noncomputable def c24 : Cfg := ⟨Try.prog, tt.get, inL [], atL []⟩
theorem en24 {args : List CV} {m : Mem} {R : List CV → Mem → Prop} (hlen : Nat.ble args.length Try.f24.ntmps = true) (h : xwp c24 (bodyOf Try.f24) (QRet tt.get Try.f24.results.toList R) ⟨initF args, [], m, []⟩) : Spec Try.prog 24 args m R :=
  Spec.of_body (c := c24) Try.func24 (by kernel_rfl) (by kernel_rfl) tt_ok wide (by kernel_rfl) hlen h
/- maund maundref03.Join -/
noncomputable def c25 : Cfg := ⟨Try.prog, tt.get, inL [], atL [(5, ⟨[(0, .all), (1, .all), (2, .all), (3, .all), (4, .all), (5, .all), (6, .all)], [0, 1, 3, 0, 8, 24, 63]⟩)]⟩
theorem en25 {args : List CV} {m : Mem} {R : List CV → Mem → Prop} (hlen : Nat.ble args.length Try.f25.ntmps = true) (h : xwp c25 (bodyOf Try.f25) (QRet tt.get Try.f25.results.toList R) ⟨initF args, [], m, []⟩) : Spec Try.prog 25 args m R :=
  Spec.of_body (c := c25) Try.func25 (by kernel_rfl) (by kernel_rfl) tt_ok wide (by kernel_rfl) hlen h
/- maund vec.Join -/
noncomputable def c26 : Cfg := ⟨Try.prog, tt.get, inL [], atL []⟩
theorem en26 {args : List CV} {m : Mem} {R : List CV → Mem → Prop} (hlen : Nat.ble args.length Try.f26.ntmps = true) (h : xwp c26 (bodyOf Try.f26) (QRet tt.get Try.f26.results.toList R) ⟨initF args, [], m, []⟩) : Spec Try.prog 26 args m R :=
  Spec.of_body (c := c26) Try.func26 (by kernel_rfl) (by kernel_rfl) tt_ok wide (by kernel_rfl) hlen h
/- maund vec.Meet -/
noncomputable def c27 : Cfg := ⟨Try.prog, tt.get, inL [], atL [(4, ⟨[(0, .all), (1, .all), (2, .all), (3, .all), (4, .all), (5, .all), (6, .all), (7, .all), (8, .all), (9, .none)], [0, 0, 2, 6, 0, 16, 48, 126, 255, 511]⟩)]⟩
theorem en27 {args : List CV} {m : Mem} {R : List CV → Mem → Prop} (hlen : Nat.ble args.length Try.f27.ntmps = true) (h : xwp c27 (bodyOf Try.f27) (QRet tt.get Try.f27.results.toList R) ⟨initF args, [], m, []⟩) : Spec Try.prog 27 args m R :=
  Spec.of_body (c := c27) Try.func27 (by kernel_rfl) (by kernel_rfl) tt_ok wide (by kernel_rfl) hlen h
/- maund vec.Covers -/
noncomputable def c28 : Cfg := ⟨Try.prog, tt.get, inL [], atL [(1, ⟨[(0, .all), (1, .all), (3, .all), (2, .all), (4, .all), (5, .all)], [0, 0, 3, 0, 15, 31]⟩)]⟩
theorem en28 {args : List CV} {m : Mem} {R : List CV → Mem → Prop} (hlen : Nat.ble args.length Try.f28.ntmps = true) (h : xwp c28 (bodyOf Try.f28) (QRet tt.get Try.f28.results.toList R) ⟨initF args, [], m, []⟩) : Spec Try.prog 28 args m R :=
  Spec.of_body (c := c28) Try.func28 (by kernel_rfl) (by kernel_rfl) tt_ok wide (by kernel_rfl) hlen h
/- maund maundlaw03.As -/
noncomputable def c29 : Cfg := ⟨Try.prog, tt.get, inL [], atL []⟩
theorem en29 {args : List CV} {m : Mem} {R : List CV → Mem → Prop} (hlen : Nat.ble args.length Try.f29.ntmps = true) (h : xwp c29 (bodyOf Try.f29) (QRet tt.get Try.f29.results.toList R) ⟨initF args, [], m, []⟩) : Spec Try.prog 29 args m R :=
  Spec.of_body (c := c29) Try.func29 (by kernel_rfl) (by kernel_rfl) tt_ok wide (by kernel_rfl) hlen h
/- maund vec.Next -/
noncomputable def c30 : Cfg := ⟨Try.prog, tt.get, inL [], atL []⟩
theorem en30 {args : List CV} {m : Mem} {R : List CV → Mem → Prop} (hlen : Nat.ble args.length Try.f30.ntmps = true) (h : xwp c30 (bodyOf Try.f30) (QRet tt.get Try.f30.results.toList R) ⟨initF args, [], m, []⟩) : Spec Try.prog 30 args m R :=
  Spec.of_body (c := c30) Try.func30 (by kernel_rfl) (by kernel_rfl) tt_ok wide (by kernel_rfl) hlen h
/- maund maundref03.Next -/
noncomputable def c31 : Cfg := ⟨Try.prog, tt.get, inL [], atL []⟩
theorem en31 {args : List CV} {m : Mem} {R : List CV → Mem → Prop} (hlen : Nat.ble args.length Try.f31.ntmps = true) (h : xwp c31 (bodyOf Try.f31) (QRet tt.get Try.f31.results.toList R) ⟨initF args, [], m, []⟩) : Spec Try.prog 31 args m R :=
  Spec.of_body (c := c31) Try.func31 (by kernel_rfl) (by kernel_rfl) tt_ok wide (by kernel_rfl) hlen h
/- maund vec.Right -/
noncomputable def c32 : Cfg := ⟨Try.prog, tt.get, inL [], atL []⟩
theorem en32 {args : List CV} {m : Mem} {R : List CV → Mem → Prop} (hlen : Nat.ble args.length Try.f32.ntmps = true) (h : xwp c32 (bodyOf Try.f32) (QRet tt.get Try.f32.results.toList R) ⟨initF args, [], m, []⟩) : Spec Try.prog 32 args m R :=
  Spec.of_body (c := c32) Try.func32 (by kernel_rfl) (by kernel_rfl) tt_ok wide (by kernel_rfl) hlen h
/- maund maundref03.Right -/
noncomputable def c33 : Cfg := ⟨Try.prog, tt.get, inL [], atL []⟩
theorem en33 {args : List CV} {m : Mem} {R : List CV → Mem → Prop} (hlen : Nat.ble args.length Try.f33.ntmps = true) (h : xwp c33 (bodyOf Try.f33) (QRet tt.get Try.f33.results.toList R) ⟨initF args, [], m, []⟩) : Spec Try.prog 33 args m R :=
  Spec.of_body (c := c33) Try.func33 (by kernel_rfl) (by kernel_rfl) tt_ok wide (by kernel_rfl) hlen h
/- maund vec.Less -/
noncomputable def c34 : Cfg := ⟨Try.prog, tt.get, inL [], atL [(1, ⟨[(0, .all), (1, .all), (2, .all), (3, .all), (5, .all), (6, .all), (7, .all), (8, .all), (4, .all), (9, .none), (10, .none), (11, .none), (12, .all), (13, .all)], [0, 1, 0, 4, 15, 0, 32, 0, 128, 511, 1023, 2047, 4095, 8191]⟩)]⟩
theorem en34 {args : List CV} {m : Mem} {R : List CV → Mem → Prop} (hlen : Nat.ble args.length Try.f34.ntmps = true) (h : xwp c34 (bodyOf Try.f34) (QRet tt.get Try.f34.results.toList R) ⟨initF args, [], m, []⟩) : Spec Try.prog 34 args m R :=
  Spec.of_body (c := c34) Try.func34 (by kernel_rfl) (by kernel_rfl) tt_ok wide (by kernel_rfl) hlen h
/- maund maundref03.Less -/
noncomputable def c35 : Cfg := ⟨Try.prog, tt.get, inL [], atL []⟩
theorem en35 {args : List CV} {m : Mem} {R : List CV → Mem → Prop} (hlen : Nat.ble args.length Try.f35.ntmps = true) (h : xwp c35 (bodyOf Try.f35) (QRet tt.get Try.f35.results.toList R) ⟨initF args, [], m, []⟩) : Spec Try.prog 35 args m R :=
  Spec.of_body (c := c35) Try.func35 (by kernel_rfl) (by kernel_rfl) tt_ok wide (by kernel_rfl) hlen h
/- maund vec.Get -/
noncomputable def c36 : Cfg := ⟨Try.prog, tt.get, inL [], atL []⟩
theorem en36 {args : List CV} {m : Mem} {R : List CV → Mem → Prop} (hlen : Nat.ble args.length Try.f36.ntmps = true) (h : xwp c36 (bodyOf Try.f36) (QRet tt.get Try.f36.results.toList R) ⟨initF args, [], m, []⟩) : Spec Try.prog 36 args m R :=
  Spec.of_body (c := c36) Try.func36 (by kernel_rfl) (by kernel_rfl) tt_ok wide (by kernel_rfl) hlen h
/- maund maundref03.Get -/
noncomputable def c37 : Cfg := ⟨Try.prog, tt.get, inL [], atL []⟩
theorem en37 {args : List CV} {m : Mem} {R : List CV → Mem → Prop} (hlen : Nat.ble args.length Try.f37.ntmps = true) (h : xwp c37 (bodyOf Try.f37) (QRet tt.get Try.f37.results.toList R) ⟨initF args, [], m, []⟩) : Spec Try.prog 37 args m R :=
  Spec.of_body (c := c37) Try.func37 (by kernel_rfl) (by kernel_rfl) tt_ok wide (by kernel_rfl) hlen h
/- maund vec.With -/
noncomputable def c38 : Cfg := ⟨Try.prog, tt.get, inL [], atL [(2, ⟨[(0, .all), (1, .all), (2, .all), (3, .all), (4, .all), (5, .all), (6, .all), (7, .all), (8, .all), (9, .all), (10, .all), (11, .all), (12, .none)], [0, 1, 3, 0, 8, 24, 56, 120, 0, 256, 1016, 2047, 4095]⟩)]⟩
theorem en38 {args : List CV} {m : Mem} {R : List CV → Mem → Prop} (hlen : Nat.ble args.length Try.f38.ntmps = true) (h : xwp c38 (bodyOf Try.f38) (QRet tt.get Try.f38.results.toList R) ⟨initF args, [], m, []⟩) : Spec Try.prog 38 args m R :=
  Spec.of_body (c := c38) Try.func38 (by kernel_rfl) (by kernel_rfl) tt_ok wide (by kernel_rfl) hlen h
/- maund maundref03.With -/
noncomputable def c39 : Cfg := ⟨Try.prog, tt.get, inL [], atL [(5, ⟨[(0, .all), (1, .none), (2, .all), (3, .all), (4, .all), (5, .all), (6, .all), (7, .all), (8, .all), (9, .all), (10, .all), (11, .all), (12, .all), (13, .all), (14, .all), (15, .all), (16, .all)], [0, 1, 3, 7, 15, 7, 39, 127, 255, 511, 1023, 2047, 1023, 5119, 13311, 32767, 65535]⟩)]⟩
theorem en39 {args : List CV} {m : Mem} {R : List CV → Mem → Prop} (hlen : Nat.ble args.length Try.f39.ntmps = true) (h : xwp c39 (bodyOf Try.f39) (QRet tt.get Try.f39.results.toList R) ⟨initF args, [], m, []⟩) : Spec Try.prog 39 args m R :=
  Spec.of_body (c := c39) Try.func39 (by kernel_rfl) (by kernel_rfl) tt_ok wide (by kernel_rfl) hlen h
/- maund maundref03.Meet -/
noncomputable def c40 : Cfg := ⟨Try.prog, tt.get, inL [], atL [(5, ⟨[(0, .all), (1, .all), (2, .all), (3, .all), (4, .all), (5, .all), (6, .all)], [0, 1, 3, 0, 8, 24, 63]⟩)]⟩
theorem en40 {args : List CV} {m : Mem} {R : List CV → Mem → Prop} (hlen : Nat.ble args.length Try.f40.ntmps = true) (h : xwp c40 (bodyOf Try.f40) (QRet tt.get Try.f40.results.toList R) ⟨initF args, [], m, []⟩) : Spec Try.prog 40 args m R :=
  Spec.of_body (c := c40) Try.func40 (by kernel_rfl) (by kernel_rfl) tt_ok wide (by kernel_rfl) hlen h
/- maund maundref03.Covers -/
noncomputable def c41 : Cfg := ⟨Try.prog, tt.get, inL [], atL [(4, ⟨[(0, .all), (1, .all), (2, .all), (3, .all), (4, .all), (5, .all), (6, .all)], [0, 1, 3, 0, 8, 24, 63]⟩)]⟩
theorem en41 {args : List CV} {m : Mem} {R : List CV → Mem → Prop} (hlen : Nat.ble args.length Try.f41.ntmps = true) (h : xwp c41 (bodyOf Try.f41) (QRet tt.get Try.f41.results.toList R) ⟨initF args, [], m, []⟩) : Spec Try.prog 41 args m R :=
  Spec.of_body (c := c41) Try.func41 (by kernel_rfl) (by kernel_rfl) tt_ok wide (by kernel_rfl) hlen h
/- maund vec.Has -/
noncomputable def c42 : Cfg := ⟨Try.prog, tt.get, inL [], atL [(1, ⟨[(0, .all), (1, .none), (2, .all), (3, .all), (4, .all), (5, .all), (7, .all), (8, .all), (6, .all), (9, .all), (10, .all), (11, .all)], [0, 1, 3, 7, 7, 23, 63, 7, 135, 511, 1023, 2047]⟩)]⟩
theorem en42 {args : List CV} {m : Mem} {R : List CV → Mem → Prop} (hlen : Nat.ble args.length Try.f42.ntmps = true) (h : xwp c42 (bodyOf Try.f42) (QRet tt.get Try.f42.results.toList R) ⟨initF args, [], m, []⟩) : Spec Try.prog 42 args m R :=
  Spec.of_body (c := c42) Try.func42 (by kernel_rfl) (by kernel_rfl) tt_ok wide (by kernel_rfl) hlen h
/- maund maundref03.Has -/
noncomputable def c43 : Cfg := ⟨Try.prog, tt.get, inL [], atL [(1, ⟨[(0, .all), (1, .none), (2, .all), (3, .all), (4, .all), (5, .all), (6, .all), (7, .all), (8, .all), (9, .all), (10, .all), (11, .all)], [0, 1, 3, 7, 15, 7, 7, 71, 231, 511, 1023, 2047]⟩)]⟩
theorem en43 {args : List CV} {m : Mem} {R : List CV → Mem → Prop} (hlen : Nat.ble args.length Try.f43.ntmps = true) (h : xwp c43 (bodyOf Try.f43) (QRet tt.get Try.f43.results.toList R) ⟨initF args, [], m, []⟩) : Spec Try.prog 43 args m R :=
  Spec.of_body (c := c43) Try.func43 (by kernel_rfl) (by kernel_rfl) tt_ok wide (by kernel_rfl) hlen h
/- maund vec.Order -/
noncomputable def c44 : Cfg := ⟨Try.prog, tt.get, inL [], atL [(1, ⟨[(0, .all), (1, .all), (3, .all), (4, .all), (2, .all), (5, .none), (6, .all), (7, .all)], [0, 0, 3, 0, 0, 31, 63, 127]⟩)]⟩
theorem en44 {args : List CV} {m : Mem} {R : List CV → Mem → Prop} (hlen : Nat.ble args.length Try.f44.ntmps = true) (h : xwp c44 (bodyOf Try.f44) (QRet tt.get Try.f44.results.toList R) ⟨initF args, [], m, []⟩) : Spec Try.prog 44 args m R :=
  Spec.of_body (c := c44) Try.func44 (by kernel_rfl) (by kernel_rfl) tt_ok wide (by kernel_rfl) hlen h
/- maund maundref03.Order -/
noncomputable def c45 : Cfg := ⟨Try.prog, tt.get, inL [], atL []⟩
theorem en45 {args : List CV} {m : Mem} {R : List CV → Mem → Prop} (hlen : Nat.ble args.length Try.f45.ntmps = true) (h : xwp c45 (bodyOf Try.f45) (QRet tt.get Try.f45.results.toList R) ⟨initF args, [], m, []⟩) : Spec Try.prog 45 args m R :=
  Spec.of_body (c := c45) Try.func45 (by kernel_rfl) (by kernel_rfl) tt_ok wide (by kernel_rfl) hlen h
/- maund vec.isNode -/
noncomputable def c50 : Cfg := ⟨Try.prog, tt.get, inL [], atL []⟩
theorem en50 {args : List CV} {m : Mem} {R : List CV → Mem → Prop} (hlen : Nat.ble args.length Try.f50.ntmps = true) (h : xwp c50 (bodyOf Try.f50) (QRet tt.get Try.f50.results.toList R) ⟨initF args, [], m, []⟩) : Spec Try.prog 50 args m R :=
  Spec.of_body (c := c50) Try.func50 (by kernel_rfl) (by kernel_rfl) tt_ok wide (by kernel_rfl) hlen h
/- cmp.Or[int] -/
noncomputable def c51 : Cfg := ⟨Try.prog, tt.get, inL [], atL []⟩
theorem en51 {args : List CV} {m : Mem} {R : List CV → Mem → Prop} (hlen : Nat.ble args.length Try.f51.ntmps = true) (h : xwp c51 (bodyOf Try.f51) (QRet tt.get Try.f51.results.toList R) ⟨initF args, [], m, []⟩) : Spec Try.prog 51 args m R :=
  Spec.of_body (c := c51) Try.func51 (by kernel_rfl) (by kernel_rfl) tt_ok wide (by kernel_rfl) hlen h
/- cmp.Compare[int] -/
noncomputable def c52 : Cfg := ⟨Try.prog, tt.get, inL [], atL []⟩
theorem en52 {args : List CV} {m : Mem} {R : List CV → Mem → Prop} (hlen : Nat.ble args.length Try.f52.ntmps = true) (h : xwp c52 (bodyOf Try.f52) (QRet tt.get Try.f52.results.toList R) ⟨initF args, [], m, []⟩) : Spec Try.prog 52 args m R :=
  Spec.of_body (c := c52) Try.func52 (by kernel_rfl) (by kernel_rfl) tt_ok wide (by kernel_rfl) hlen h
/- cmp.Compare[uint64] -/
noncomputable def c53 : Cfg := ⟨Try.prog, tt.get, inL [], atL []⟩
theorem en53 {args : List CV} {m : Mem} {R : List CV → Mem → Prop} (hlen : Nat.ble args.length Try.f53.ntmps = true) (h : xwp c53 (bodyOf Try.f53) (QRet tt.get Try.f53.results.toList R) ⟨initF args, [], m, []⟩) : Spec Try.prog 53 args m R :=
  Spec.of_body (c := c53) Try.func53 (by kernel_rfl) (by kernel_rfl) tt_ok wide (by kernel_rfl) hlen h
/- cmp.isNaN[int] -/
noncomputable def c55 : Cfg := ⟨Try.prog, tt.get, inL [], atL []⟩
theorem en55 {args : List CV} {m : Mem} {R : List CV → Mem → Prop} (hlen : Nat.ble args.length Try.f55.ntmps = true) (h : xwp c55 (bodyOf Try.f55) (QRet tt.get Try.f55.results.toList R) ⟨initF args, [], m, []⟩) : Spec Try.prog 55 args m R :=
  Spec.of_body (c := c55) Try.func55 (by kernel_rfl) (by kernel_rfl) tt_ok wide (by kernel_rfl) hlen h
/- cmp.isNaN[uint64] -/
noncomputable def c56 : Cfg := ⟨Try.prog, tt.get, inL [], atL []⟩
theorem en56 {args : List CV} {m : Mem} {R : List CV → Mem → Prop} (hlen : Nat.ble args.length Try.f56.ntmps = true) (h : xwp c56 (bodyOf Try.f56) (QRet tt.get Try.f56.results.toList R) ⟨initF args, [], m, []⟩) : Spec Try.prog 56 args m R :=
  Spec.of_body (c := c56) Try.func56 (by kernel_rfl) (by kernel_rfl) tt_ok wide (by kernel_rfl) hlen h
end Go.E.Ytdhojpepdgdblaa
