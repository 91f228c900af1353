/-
  Tally: how the functions named here are run: made by a program.
-/
import Derived.Test.YtdhojpepdgdblaaTab
namespace Go.E.Ytdhojpepdgdblaa
open Go.Proofs
set_option maxRecDepth 100000
/- maund maundlaw05.TallyOrder -/
noncomputable def c3 : Cfg := ⟨Try.prog, tt.get, inL [], atL [(9, ⟨[(0, .all), (1, .all), (2, .all), (4, .all), (5, .all), (6, .all), (3, .none), (7, .none), (8, .none), (9, .all), (10, .none)], [0, 0, 3, 7, 0, 0, 48, 127, 255, 0, 1023]⟩),
  (10, ⟨[(0, .none), (1, .all), (2, .all), (3, .none), (4, .all), (5, .all), (6, .all), (8, .all), (7, .all), (9, .all), (10, .all), (11, .all), (12, .all), (13, .all), (14, .all), (15, .all), (16, .all), (17, .all), (19, .all), (20, .all), (18, .all), (21, .all), (22, .all), (23, .all)], [0, 1, 3, 7, 15, 31, 63, 127, 63, 511, 1023, 2047, 4095, 4095, 16383, 32767, 65535, 131071, 262143, 131071, 655359, 2097151, 4194303, 8388607]⟩)]⟩
theorem en3 {args : List CV} {m : Mem} {R : List CV → Mem → Prop} (hlen : Nat.ble args.length Try.f3.ntmps = true) (h : xwp c3 (bodyOf Try.f3) (QRet tt.get Try.f3.results.toList R) ⟨initF args, [], m, []⟩) : Spec Try.prog 3 args m R :=
  Spec.of_body (c := c3) Try.func3 (by kernel_rfl) (by kernel_rfl) tt_ok wide (by kernel_rfl) hlen h
/- maund maundlaw05.TallyCounts -/
noncomputable def c4 : Cfg := ⟨Try.prog, tt.get, inL [], atL [(3, ⟨[(0, .none), (1, .all), (2, .all), (4, .all), (3, .all), (5, .all), (6, .all), (7, .all), (8, .all), (9, .all), (10, .all), (11, .all), (12, .all), (13, .all), (14, .all), (17, .all), (19, .all), (15, .all), (16, .all), (18, .all), (20, .none), (21, .none), (22, .all), (23, .all), (24, .all), (25, .all), (28, .all), (26, .all), (27, .all), (29, .none), (30, .none), (31, .all), (32, .all), (33, .all)], [0, 1, 3, 7, 3, 31, 63, 127, 255, 255, 1023, 2047, 4095, 8191, 8191, 32767, 65535, 8191, 262143, 8191, 1048575, 2097151, 4194303, 8388607, 16777215, 33554431, 67108863, 134217727, 33554431, 536870911, 1073741823, 2147483647, 4294967295, 8589934591]⟩)]⟩
theorem en4 {args : List CV} {m : Mem} {R : List CV → Mem → Prop} (hlen : Nat.ble args.length Try.f4.ntmps = true) (h : xwp c4 (bodyOf Try.f4) (QRet tt.get Try.f4.results.toList R) ⟨initF args, [], m, []⟩) : Spec Try.prog 4 args m R :=
  Spec.of_body (c := c4) Try.func4 (by kernel_rfl) (by kernel_rfl) tt_ok wide (by kernel_rfl) hlen h
/- maund maundlaw05.TallyJoins -/
noncomputable def c5 : Cfg := ⟨Try.prog, tt.get, inL [], atL [(2, ⟨[(0, .all), (1, .all), (2, .all), (3, .all), (4, .all), (5, .all), (6, .all), (7, .all), (9, .all), (8, .all), (10, .all), (11, .all), (12, .all), (13, .all), (14, .all), (16, .all), (18, .all), (19, .all), (20, .all), (15, .all), (17, .all), (21, .all), (22, .none), (23, .all), (24, .all), (25, .all), (26, .all), (27, .all), (29, .all), (28, .all), (30, .all), (31, .all)], [0, 0, 0, 6, 15, 31, 63, 63, 255, 63, 1023, 2047, 4095, 8191, 8191, 32767, 8191, 131071, 8191, 8191, 8191, 1835007, 4194303, 8388607, 16777215, 33554431, 67108863, 67108863, 268435455, 67108863, 1073741823, 2147483647]⟩),
  (5, ⟨[(0, .none), (1, .all), (2, .all), (3, .all), (4, .all), (5, .all), (6, .all), (8, .all), (7, .all), (9, .all), (10, .all), (11, .all), (12, .all)], [0, 1, 3, 7, 15, 31, 31, 127, 31, 511, 1023, 2047, 4095]⟩)]⟩
theorem en5 {args : List CV} {m : Mem} {R : List CV → Mem → Prop} (hlen : Nat.ble args.length Try.f5.ntmps = true) (h : xwp c5 (bodyOf Try.f5) (QRet tt.get Try.f5.results.toList R) ⟨initF args, [], m, []⟩) : Spec Try.prog 5 args m R :=
  Spec.of_body (c := c5) Try.func5 (by kernel_rfl) (by kernel_rfl) tt_ok wide (by kernel_rfl) hlen h
/- maund maundlaw05.TallyTotal -/
noncomputable def c6 : Cfg := ⟨Try.prog, tt.get, inL [], atL [(1, ⟨[(0, .all), (1, .all), (4, .all), (6, .all), (2, .all), (3, .all), (5, .all), (7, .none), (8, .all), (9, .all), (10, .all), (11, .none), (12, .none), (13, .none)], [0, 0, 3, 7, 0, 31, 0, 127, 0, 0, 0, 2047, 4095, 8191]⟩)]⟩
theorem en6 {args : List CV} {m : Mem} {R : List CV → Mem → Prop} (hlen : Nat.ble args.length Try.f6.ntmps = true) (h : xwp c6 (bodyOf Try.f6) (QRet tt.get Try.f6.results.toList R) ⟨initF args, [], m, []⟩) : Spec Try.prog 6 args m R :=
  Spec.of_body (c := c6) Try.func6 (by kernel_rfl) (by kernel_rfl) tt_ok wide (by kernel_rfl) hlen h
/- maund maundlaw05.alive -/
noncomputable def c11 : Cfg := ⟨Try.prog, tt.get, inL [], atL []⟩
theorem en11 {args : List CV} {m : Mem} {R : List CV → Mem → Prop} (hlen : Nat.ble args.length Try.f11.ntmps = true) (h : xwp c11 (bodyOf Try.f11) (QRet tt.get Try.f11.results.toList R) ⟨initF args, [], m, []⟩) : Spec Try.prog 11 args m R :=
  Spec.of_body (c := c11) Try.func11 (by kernel_rfl) (by kernel_rfl) tt_ok wide (by kernel_rfl) hlen h
/- maund tally.Sum -/
noncomputable def c12 : Cfg := ⟨Try.prog, tt.get, inL [], atL []⟩
theorem en12 {args : List CV} {m : Mem} {R : List CV → Mem → Prop} (hlen : Nat.ble args.length Try.f12.ntmps = true) (h : xwp c12 (bodyOf Try.f12) (QRet tt.get Try.f12.results.toList R) ⟨initF args, [], m, []⟩) : Spec Try.prog 12 args m R :=
  Spec.of_body (c := c12) Try.func12 (by kernel_rfl) (by kernel_rfl) tt_ok wide (by kernel_rfl) hlen h
/- maund tally.Plus -/
noncomputable def c13 : Cfg := ⟨Try.prog, tt.get, inL [], atL [(1, ⟨[(0, .all), (1, .all), (2, .all), (3, .all), (5, .all), (6, .all), (7, .all), (8, .all), (4, .all), (9, .none), (10, .all), (11, .none)], [0, 1, 0, 4, 15, 0, 32, 0, 128, 511, 1023, 2047]⟩)]⟩
theorem en13 {args : List CV} {m : Mem} {R : List CV → Mem → Prop} (hlen : Nat.ble args.length Try.f13.ntmps = true) (h : xwp c13 (bodyOf Try.f13) (QRet tt.get Try.f13.results.toList R) ⟨initF args, [], m, []⟩) : Spec Try.prog 13 args m R :=
  Spec.of_body (c := c13) Try.func13 (by kernel_rfl) (by kernel_rfl) tt_ok wide (by kernel_rfl) hlen h
/- maund tally.Right -/
noncomputable def c14 : Cfg := ⟨Try.prog, tt.get, inL [], atL []⟩
theorem en14 {args : List CV} {m : Mem} {R : List CV → Mem → Prop} (hlen : Nat.ble args.length Try.f14.ntmps = true) (h : xwp c14 (bodyOf Try.f14) (QRet tt.get Try.f14.results.toList R) ⟨initF args, [], m, []⟩) : Spec Try.prog 14 args m R :=
  Spec.of_body (c := c14) Try.func14 (by kernel_rfl) (by kernel_rfl) tt_ok wide (by kernel_rfl) hlen h
/- maund tally.Value -/
noncomputable def c15 : Cfg := ⟨Try.prog, tt.get, inL [], atL []⟩
theorem en15 {args : List CV} {m : Mem} {R : List CV → Mem → Prop} (hlen : Nat.ble args.length Try.f15.ntmps = true) (h : xwp c15 (bodyOf Try.f15) (QRet tt.get Try.f15.results.toList R) ⟨initF args, [], m, []⟩) : Spec Try.prog 15 args m R :=
  Spec.of_body (c := c15) Try.func15 (by kernel_rfl) (by kernel_rfl) tt_ok wide (by kernel_rfl) hlen h
/- maund tally.Count -/
noncomputable def c16 : Cfg := ⟨Try.prog, tt.get, inL [], atL [(4, ⟨[(0, .all), (1, .all), (2, .all), (3, .all), (4, .all), (5, .all), (6, .all), (7, .all), (8, .all), (9, .all)], [0, 1, 0, 7, 0, 16, 0, 112, 15, 511]⟩),
  (5, ⟨[(0, .all), (1, .all), (2, .all), (3, .all), (4, .all), (5, .all), (6, .all), (7, .all), (8, .all), (9, .all), (10, .all), (11, .all), (12, .all), (13, .all), (14, .all), (15, .all), (16, .all), (17, .all), (18, .all), (19, .all)], [0, 1, 3, 0, 8, 31, 0, 64, 255, 511, 1023, 2047, 4095, 1023, 9215, 32767, 1023, 66559, 262143, 524287]⟩),
  (7, ⟨[(0, .all), (1, .all), (2, .all), (3, .all), (4, .all), (5, .all), (6, .all), (7, .none)], [0, 1, 3, 0, 8, 31, 63, 127]⟩),
  (8, ⟨[(0, .all), (1, .all), (2, .all), (3, .all), (4, .all), (5, .all), (6, .all), (7, .none)], [0, 1, 3, 0, 8, 31, 63, 127]⟩)]⟩
theorem en16 {args : List CV} {m : Mem} {R : List CV → Mem → Prop} (hlen : Nat.ble args.length Try.f16.ntmps = true) (h : xwp c16 (bodyOf Try.f16) (QRet tt.get Try.f16.results.toList R) ⟨initF args, [], m, []⟩) : Spec Try.prog 16 args m R :=
  Spec.of_body (c := c16) Try.func16 (by kernel_rfl) (by kernel_rfl) tt_ok wide (by kernel_rfl) hlen h
/- maund maundref05.Count -/
noncomputable def c17 : Cfg := ⟨Try.prog, tt.get, inL [], atL [(10, ⟨[(0, .all), (1, .all), (2, .all), (3, .all), (4, .all), (5, .all), (6, .all), (7, .all), (8, .all), (9, .all), (10, .all), (11, .all), (12, .all), (13, .none)], [0, 0, 2, 0, 0, 16, 8, 120, 248, 0, 1016, 1, 4095, 8191]⟩)]⟩
theorem en17 {args : List CV} {m : Mem} {R : List CV → Mem → Prop} (hlen : Nat.ble args.length Try.f17.ntmps = true) (h : xwp c17 (bodyOf Try.f17) (QRet tt.get Try.f17.results.toList R) ⟨initF args, [], m, []⟩) : Spec Try.prog 17 args m R :=
  Spec.of_body (c := c17) Try.func17 (by kernel_rfl) (by kernel_rfl) tt_ok wide (by kernel_rfl) hlen h
/- maund maundlaw05.of -/
noncomputable def c18 : Cfg := ⟨Try.prog, tt.get, inL [], atL []⟩
theorem en18 {args : List CV} {m : Mem} {R : List CV → Mem → Prop} (hlen : Nat.ble args.length Try.f18.ntmps = true) (h : xwp c18 (bodyOf Try.f18) (QRet tt.get Try.f18.results.toList R) ⟨initF args, [], m, []⟩) : Spec Try.prog 18 args m R :=
  Spec.of_body (c := c18) Try.func18 (by kernel_rfl) (by kernel_rfl) tt_ok wide (by kernel_rfl) hlen h
/- maund tally.Join -/
noncomputable def c19 : Cfg := ⟨Try.prog, tt.get, inL [], atL [(4, ⟨[(0, .all), (1, .all), (2, .all), (3, .all), (4, .all), (5, .all), (6, .all), (7, .all), (8, .all), (9, .all), (10, .all), (11, .all), (12, .all), (13, .all), (14, .all), (15, .all), (16, .all), (17, .all), (18, .all), (19, .all), (20, .all), (21, .all), (23, .all), (22, (.but 2)), (24, .all), (25, .none)], [0, 0, 0, 0, 12, 28, 0, 0, 192, 448, 1020, 0, 0, 6144, 14336, 0, 0, 98304, 229376, 522240, 0, 1081341, 3178493, 0, 16777215, 33554431]⟩)]⟩
theorem en19 {args : List CV} {m : Mem} {R : List CV → Mem → Prop} (hlen : Nat.ble args.length Try.f19.ntmps = true) (h : xwp c19 (bodyOf Try.f19) (QRet tt.get Try.f19.results.toList R) ⟨initF args, [], m, []⟩) : Spec Try.prog 19 args m R :=
  Spec.of_body (c := c19) Try.func19 (by kernel_rfl) (by kernel_rfl) tt_ok wide (by kernel_rfl) hlen h
/- maund maundref05.Join -/
noncomputable def c20 : Cfg := ⟨Try.prog, tt.get, inL [], atL [(5, ⟨[(0, .all), (1, .all), (2, .all), (3, .all), (4, .all), (5, .all), (6, .all), (7, .all), (8, .all)], [0, 0, 3, 7, 0, 0, 48, 112, 255]⟩),
  (7, ⟨[(0, .all), (1, .all), (2, .all), (3, .all), (4, .all), (5, .all), (6, .all), (7, .all), (8, .all)], [0, 0, 3, 7, 0, 0, 48, 112, 255]⟩)]⟩
theorem en20 {args : List CV} {m : Mem} {R : List CV → Mem → Prop} (hlen : Nat.ble args.length Try.f20.ntmps = true) (h : xwp c20 (bodyOf Try.f20) (QRet tt.get Try.f20.results.toList R) ⟨initF args, [], m, []⟩) : Spec Try.prog 20 args m R :=
  Spec.of_body (c := c20) Try.func20 (by kernel_rfl) (by kernel_rfl) tt_ok wide (by kernel_rfl) hlen h
/- maund maundlaw05.as -/
noncomputable def c21 : Cfg := ⟨Try.prog, tt.get, inL [], atL []⟩
theorem en21 {args : List CV} {m : Mem} {R : List CV → Mem → Prop} (hlen : Nat.ble args.length Try.f21.ntmps = true) (h : xwp c21 (bodyOf Try.f21) (QRet tt.get Try.f21.results.toList R) ⟨initF args, [], m, []⟩) : Spec Try.prog 21 args m R :=
  Spec.of_body (c := c21) Try.func21 (by kernel_rfl) (by kernel_rfl) tt_ok wide (by kernel_rfl) hlen h
/- maund tally.Total -/
noncomputable def c22 : Cfg := ⟨Try.prog, tt.get, inL [], atL [(5, ⟨[(0, .all), (1, .all), (2, .all), (3, .all), (4, .all), (5, .all), (6, .all), (7, .none), (8, .none)], [0, 0, 0, 0, 12, 28, 62, 127, 255]⟩)]⟩
theorem en22 {args : List CV} {m : Mem} {R : List CV → Mem → Prop} (hlen : Nat.ble args.length Try.f22.ntmps = true) (h : xwp c22 (bodyOf Try.f22) (QRet tt.get Try.f22.results.toList R) ⟨initF args, [], m, []⟩) : Spec Try.prog 22 args m R :=
  Spec.of_body (c := c22) Try.func22 (by kernel_rfl) (by kernel_rfl) tt_ok wide (by kernel_rfl) hlen h
/- maund maundref05.Total -/
noncomputable def c23 : Cfg := ⟨Try.prog, tt.get, inL [], atL [(5, ⟨[(0, .all), (1, .all), (2, .all), (3, .all), (4, .all), (5, .all), (6, .all), (7, .all), (8, .all), (9, .all), (10, .none), (11, .none)], [0, 0, 0, 6, 14, 0, 0, 96, 224, 510, 1023, 2047]⟩)]⟩
theorem en23 {args : List CV} {m : Mem} {R : List CV → Mem → Prop} (hlen : Nat.ble args.length Try.f23.ntmps = true) (h : xwp c23 (bodyOf Try.f23) (QRet tt.get Try.f23.results.toList R) ⟨initF args, [], m, []⟩) : Spec Try.prog 23 args m R :=
  Spec.of_body (c := c23) Try.func23 (by kernel_rfl) (by kernel_rfl) tt_ok wide (by kernel_rfl) hlen h
/- maund tally.Add -/
noncomputable def c46 : Cfg := ⟨Try.prog, tt.get, inL [], atL [(1, ⟨[(0, .all), (1, .all), (2, .all), (3, .none), (4, .none)], [0, 0, 2, 7, 15]⟩)]⟩
theorem en46 {args : List CV} {m : Mem} {R : List CV → Mem → Prop} (hlen : Nat.ble args.length Try.f46.ntmps = true) (h : xwp c46 (bodyOf Try.f46) (QRet tt.get Try.f46.results.toList R) ⟨initF args, [], m, []⟩) : Spec Try.prog 46 args m R :=
  Spec.of_body (c := c46) Try.func46 (by kernel_rfl) (by kernel_rfl) tt_ok wide (by kernel_rfl) hlen h
/- maund tally.more -/
noncomputable def c47 : Cfg := ⟨Try.prog, tt.get, inL [], atL []⟩
theorem en47 {args : List CV} {m : Mem} {R : List CV → Mem → Prop} (hlen : Nat.ble args.length Try.f47.ntmps = true) (h : xwp c47 (bodyOf Try.f47) (QRet tt.get Try.f47.results.toList R) ⟨initF args, [], m, []⟩) : Spec Try.prog 47 args m R :=
  Spec.of_body (c := c47) Try.func47 (by kernel_rfl) (by kernel_rfl) tt_ok wide (by kernel_rfl) hlen h
/- maund tally.of -/
noncomputable def c48 : Cfg := ⟨Try.prog, tt.get, inL [], atL []⟩
theorem en48 {args : List CV} {m : Mem} {R : List CV → Mem → Prop} (hlen : Nat.ble args.length Try.f48.ntmps = true) (h : xwp c48 (bodyOf Try.f48) (QRet tt.get Try.f48.results.toList R) ⟨initF args, [], m, []⟩) : Spec Try.prog 48 args m R :=
  Spec.of_body (c := c48) Try.func48 (by kernel_rfl) (by kernel_rfl) tt_ok wide (by kernel_rfl) hlen h
/- maund maundref05.Plus -/
noncomputable def c49 : Cfg := ⟨Try.prog, tt.get, inL [], atL [(1, ⟨[(0, .all), (1, .all), (2, .all), (3, .all), (5, .all), (6, .all), (7, .all), (8, .all), (4, .all), (9, .none), (10, .all), (11, .none)], [0, 1, 0, 4, 15, 0, 32, 0, 128, 511, 1023, 2047]⟩)]⟩
theorem en49 {args : List CV} {m : Mem} {R : List CV → Mem → Prop} (hlen : Nat.ble args.length Try.f49.ntmps = true) (h : xwp c49 (bodyOf Try.f49) (QRet tt.get Try.f49.results.toList R) ⟨initF args, [], m, []⟩) : Spec Try.prog 49 args m R :=
  Spec.of_body (c := c49) Try.func49 (by kernel_rfl) (by kernel_rfl) tt_ok wide (by kernel_rfl) hlen h
/- maund maundref05.plus -/
noncomputable def c54 : Cfg := ⟨Try.prog, tt.get, inL [], atL []⟩
theorem en54 {args : List CV} {m : Mem} {R : List CV → Mem → Prop} (hlen : Nat.ble args.length Try.f54.ntmps = true) (h : xwp c54 (bodyOf Try.f54) (QRet tt.get Try.f54.results.toList R) ⟨initF args, [], m, []⟩) : Spec Try.prog 54 args m R :=
  Spec.of_body (c := c54) Try.func54 (by kernel_rfl) (by kernel_rfl) tt_ok wide (by kernel_rfl) hlen h
end Go.E.Ytdhojpepdgdblaa
