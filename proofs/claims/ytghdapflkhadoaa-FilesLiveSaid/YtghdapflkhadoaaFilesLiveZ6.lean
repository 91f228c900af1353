/-
  Cfg, H, ByB, E25, Cat, E26, E27, E28, E29, E30, E31, Nc
-/
import Derived.Test.YtghdapflkhadoaaFilesLiveZ5
import Derived.Lib.AppendZerosOnto
import Derived.Lib.ConvBytes
import Derived.Laws.LoneSync
import Derived.Lib.Overlaps
import Derived.MapKept
import Derived.Laws.NewFold
/-
  : how the functions named here are run: made by a program.
-/
namespace Go.E.Ytghdapflkhadoaa
open Go.Proofs
set_option maxRecDepth 100000
/- maund maundlaw14.FilesLive -/
noncomputable def c3 : Cfg := ⟨Try.prog, tt.get, inL [10, 39], atL [], inL [14]⟩
theorem en3 {args : List CV} {m : Mem} {R : List CV → Mem → Prop} (hlen : Nat.ble args.length Try.f3.ntmps = true) (h : xwp c3 (bodyOf Try.f3) (QRet tt.get Try.f3.results.toList R) ⟨initF args, [], m, []⟩) : Spec Try.prog 3 args m R :=
  Spec.of_body (c := c3) Try.func3 (by kernel_rfl) (by kernel_rfl) tt_ok wide (by kernel_rfl) hlen h
/- maund maundlaw14.FilesCrash -/
noncomputable def c4 : Cfg := ⟨Try.prog, tt.get, inL [], atL [(17, ⟨.op 0 .all (.op 1 .all (.op 2 .all (.op 5 .all (.op 6 .all (.op 7 .all (.op 8 .all (.op 9 .all (.op 10 .all (.op 3 .all (.op 4 .all (.op 11 .none (.op 12 .none (.op 13 .none (.op 14 .all (.op 15 .all (.nil)))))))))))))))), [0, 0, 2, 6, 15, 0, 0, 0, 0, 384, 896, 2015, 4063, 8191, 16383, 32767]⟩),
  (24, ⟨.op 0 .all (.op 1 .all (.op 2 .all (.op 3 .all (.op 4 .all (.op 5 .all (.op 6 .all (.op 7 .all (.op 8 .all (.op 9 .all (.op 10 .all (.op 11 .all (.op 12 .all (.op 13 .all (.op 14 .all (.op 15 .all (.op 16 .all (.op 17 .all (.op 18 .all (.op 19 .all (.op 20 .all (.op 21 .all (.op 22 .all (.op 23 .all (.op 24 .all (.op 25 .all (.op 26 .all (.op 27 .all (.op 28 .all (.op 29 .all (.op 30 .all (.op 31 .all (.op 32 .all (.op 33 .all (.op 34 .all (.op 35 .all (.op 36 .all (.op 37 .all (.op 38 .all (.op 40 .all (.op 41 .all (.op 39 .none (.op 42 .all (.op 43 .all (.nil)))))))))))))))))))))))))))))))))))))))))))), [0, 1, 3, 7, 15, 7, 7, 103, 231, 511, 1023, 2047, 4095, 8191, 4095, 4095, 53247, 118783, 249855, 524287, 1048575, 2097151, 4194303, 8388607, 4194303, 4194303, 54525951, 121634815, 4194303, 272629759, 1061158911, 2147483647, 4294967295, 8589934591, 17179869183, 17179869183, 17179869183, 120259084287, 257698037759, 549755813887, 17179869183, 1116691496959, 4398046511103, 8796093022207]⟩),
  (35, ⟨.op 0 .all (.op 1 .all (.op 2 .all (.op 3 .all (.op 4 .all (.op 5 .all (.op 6 .all (.op 7 .all (.op 8 .all (.op 9 .all (.op 10 .all (.op 11 .all (.op 12 .all (.op 13 .all (.op 14 .all (.op 15 .all (.op 16 .all (.op 17 .all (.nil)))))))))))))))))), [0, 0, 3, 7, 0, 0, 48, 112, 255, 511, 1023, 2047, 1023, 1023, 13311, 29695, 65535, 131071]⟩)], inL [10, 18, 27]⟩
theorem en4 {args : List CV} {m : Mem} {R : List CV → Mem → Prop} (hlen : Nat.ble args.length Try.f4.ntmps = true) (h : xwp c4 (bodyOf Try.f4) (QRet tt.get Try.f4.results.toList R) ⟨initF args, [], m, []⟩) : Spec Try.prog 4 args m R :=
  Spec.of_body (c := c4) Try.func4 (by kernel_rfl) (by kernel_rfl) tt_ok wide (by kernel_rfl) hlen h
/- maund maundlaw14.FilesQuota -/
noncomputable def c5 : Cfg := ⟨Try.prog, tt.get, inL [], atL [(10, ⟨.op 0 .all (.op 1 .all (.op 2 .all (.op 3 .all (.op 4 .all (.op 5 .all (.op 6 .all (.op 7 .all (.op 8 .all (.op 9 .all (.op 10 .all (.op 11 .all (.op 12 .all (.op 13 .all (.op 14 .all (.op 15 .all (.op 16 .all (.op 17 .all (.op 18 .none (.op 19 .all (.op 20 .all (.op 21 .all (.op 22 .all (.op 24 .all (.op 23 .none (.op 25 .all (.op 26 .all (.op 27 .all (.op 30 .all (.op 28 .none (.op 29 .all (.op 31 .all (.op 32 .all (.op 33 .all (.op 34 .all (.op 35 .all (.op 36 .all (.op 37 .all (.op 38 .all (.op 39 .all (.op 40 .all (.op 41 .all (.op 42 .all (.op 43 .all (.op 44 .all (.op 45 .all (.nil)))))))))))))))))))))))))))))))))))))))))))))), [0, 0, 3, 7, 15, 31, 63, 127, 127, 127, 895, 1919, 3967, 127, 127, 24703, 57471, 123007, 262143, 524287, 1048575, 2097151, 4194303, 8388607, 4194303, 33554431, 67108863, 134217727, 268435455, 536870911, 134217727, 2147483647, 4294967295, 8589934591, 17179869183, 17179869183, 17179869183, 17179869183, 223338299391, 498216206335, 1047972020223, 2147483647999, 4380866641919, 8796093022207, 17592186044415, 35184372088831]⟩)], inL []⟩
theorem en5 {args : List CV} {m : Mem} {R : List CV → Mem → Prop} (hlen : Nat.ble args.length Try.f5.ntmps = true) (h : xwp c5 (bodyOf Try.f5) (QRet tt.get Try.f5.results.toList R) ⟨initF args, [], m, []⟩) : Spec Try.prog 5 args m R :=
  Spec.of_body (c := c5) Try.func5 (by kernel_rfl) (by kernel_rfl) tt_ok wide (by kernel_rfl) hlen h
/- maund files.New -/
noncomputable def c6 : Cfg := ⟨Try.prog, tt.get, inL [9], atL [], inL []⟩
theorem en6 {args : List CV} {m : Mem} {R : List CV → Mem → Prop} (hlen : Nat.ble args.length Try.f6.ntmps = true) (h : xwp c6 (bodyOf Try.f6) (QRet tt.get Try.f6.results.toList R) ⟨initF args, [], m, []⟩) : Spec Try.prog 6 args m R :=
  Spec.of_body (c := c6) Try.func6 (by kernel_rfl) (by kernel_rfl) tt_ok wide (by kernel_rfl) hlen h
/- maund maundlaw14.alive -/
noncomputable def c7 : Cfg := ⟨Try.prog, tt.get, inL [], atL [], inL []⟩
theorem en7 {args : List CV} {m : Mem} {R : List CV → Mem → Prop} (hlen : Nat.ble args.length Try.f7.ntmps = true) (h : xwp c7 (bodyOf Try.f7) (QRet tt.get Try.f7.results.toList R) ⟨initF args, [], m, []⟩) : Spec Try.prog 7 args m R :=
  Spec.of_body (c := c7) Try.func7 (by kernel_rfl) (by kernel_rfl) tt_ok wide (by kernel_rfl) hlen h
/- maund maundlaw14.Great -/
noncomputable def c8 : Cfg := ⟨Try.prog, tt.get, inL [], atL [], inL []⟩
theorem en8 {args : List CV} {m : Mem} {R : List CV → Mem → Prop} (hlen : Nat.ble args.length Try.f8.ntmps = true) (h : xwp c8 (bodyOf Try.f8) (QRet tt.get Try.f8.results.toList R) ⟨initF args, [], m, []⟩) : Spec Try.prog 8 args m R :=
  Spec.of_body (c := c8) Try.func8 (by kernel_rfl) (by kernel_rfl) tt_ok wide (by kernel_rfl) hlen h
/- maund maundlaw14.do -/
noncomputable def c9 : Cfg := ⟨Try.prog, tt.get, inL [], atL [(4, ⟨.op 0 .all (.op 1 .all (.op 2 .all (.op 3 .all (.op 5 .all (.op 6 .all (.op 7 .all (.op 8 .all (.op 9 .all (.op 10 .all (.op 4 .all (.op 11 .none (.op 12 .all (.op 13 .all (.nil)))))))))))))), [0, 0, 2, 0, 15, 0, 0, 64, 0, 256, 768, 2047, 4095, 8191]⟩),
  (11, ⟨.op 0 .all (.op 1 .all (.op 2 .all (.op 4 .all (.op 5 .all (.op 6 .all (.op 3 .all (.op 7 .none (.op 8 .all (.op 9 .all (.nil)))))))))), [0, 0, 2, 7, 0, 0, 32, 127, 255, 511]⟩),
  (13, ⟨.op 0 .all (.op 1 .all (.op 2 .all (.op 3 .all (.op 4 .all (.op 6 .all (.op 7 .all (.op 8 .all (.op 9 .all (.op 10 .all (.op 5 .all (.op 11 .none (.op 12 .all (.op 13 .all (.nil)))))))))))))), [0, 0, 2, 0, 8, 31, 0, 0, 128, 0, 512, 2047, 4095, 8191]⟩),
  (15, ⟨.op 0 .all (.op 1 .all (.op 2 .all (.op 4 .all (.op 5 .all (.op 6 .all (.op 3 .all (.op 7 .none (.op 8 .all (.op 9 .all (.nil)))))))))), [0, 0, 2, 7, 0, 0, 32, 127, 255, 511]⟩),
  (24, ⟨.op 0 .all (.op 1 .all (.op 2 .all (.op 3 .all (.op 4 .all (.op 6 .all (.op 7 .all (.op 8 .all (.op 9 .all (.op 10 .all (.op 5 .all (.op 11 .none (.op 12 .all (.op 13 .all (.nil)))))))))))))), [0, 0, 2, 0, 8, 31, 0, 0, 128, 0, 512, 2047, 4095, 8191]⟩)], inL []⟩
theorem en9 {args : List CV} {m : Mem} {R : List CV → Mem → Prop} (hlen : Nat.ble args.length Try.f9.ntmps = true) (h : xwp c9 (bodyOf Try.f9) (QRet tt.get Try.f9.results.toList R) ⟨initF args, [], m, []⟩) : Spec Try.prog 9 args m R :=
  Spec.of_body (c := c9) Try.func9 (by kernel_rfl) (by kernel_rfl) tt_ok wide (by kernel_rfl) hlen h
/- maund maundlaw14.Same -/
noncomputable def c10 : Cfg := ⟨Try.prog, tt.get, inL [], atL [(9, ⟨.op 0 .all (.op 1 .all (.op 2 .all (.op 3 .all (.op 4 .all (.op 5 .all (.op 6 .all (.op 7 .all (.op 8 .all (.op 9 .all (.op 10 .all (.op 11 .all (.op 12 .all (.op 13 .all (.op 14 .all (.op 15 .all (.op 16 .all (.op 17 .all (.op 18 .all (.op 19 .all (.op 20 .all (.op 21 .all (.op 22 .all (.op 23 .all (.op 24 .all (.op 25 .all (.op 26 .all (.op 27 .all (.op 28 .all (.op 29 .all (.op 30 .all (.op 31 .all (.op 32 .all (.op 33 .all (.op 34 .all (.op 35 .all (.op 37 .all (.op 38 .all (.op 39 .all (.op 40 .all (.op 41 .all (.op 42 .all (.op 43 .all (.op 44 .all (.op 36 .all (.op 45 .all (.op 46 .all (.nil))))))))))))))))))))))))))))))))))))))))))))))), [0, 0, 3, 7, 0, 16, 48, 112, 0, 496, 1008, 2032, 4095, 8191, 16383, 32767, 16383, 81919, 212991, 475135, 16383, 2047999, 4145151, 8339455, 16777215, 33554431, 67108863, 134217727, 268435455, 536870911, 1073741823, 2147483647, 2147483647, 2147483647, 15032385535, 32212254719, 68719476735, 2147483647, 139586437119, 414464344063, 964220157951, 2147483647, 4262755041279, 8660801552383, 17456894574591, 35184372088831, 70368744177663]⟩)], inL []⟩
theorem en10 {args : List CV} {m : Mem} {R : List CV → Mem → Prop} (hlen : Nat.ble args.length Try.f10.ntmps = true) (h : xwp c10 (bodyOf Try.f10) (QRet tt.get Try.f10.results.toList R) ⟨initF args, [], m, []⟩) : Spec Try.prog 10 args m R :=
  Spec.of_body (c := c10) Try.func10 (by kernel_rfl) (by kernel_rfl) tt_ok wide (by kernel_rfl) hlen h
/- (*maund files.Files).Crash -/
noncomputable def c11 : Cfg := ⟨Try.prog, tt.get, inL [], atL [(6, ⟨.op 0 .all (.op 1 .all (.op 2 .all (.op 3 .all (.op 4 .all (.op 5 .all (.op 6 .all (.op 7 .all (.op 8 .all (.op 9 .all (.op 10 .all (.op 11 .all (.op 12 .all (.op 13 .all (.op 14 .all (.op 15 .all (.op 16 .all (.nil))))))))))))))))), [0, 0, 3, 7, 15, 0, 32, 96, 224, 480, 0, 1024, 3072, 7168, 16352, 32767, 65535]⟩),
  (8, ⟨.op 0 .all (.op 1 .all (.op 2 .all (.op 3 .all (.op 4 .all (.op 5 .all (.op 6 .all (.op 7 .all (.op 8 .all (.op 9 .all (.op 10 .all (.op 11 .all (.op 12 .all (.op 13 .all (.op 14 .all (.op 15 .all (.op 16 .none (.nil))))))))))))))))), [0, 0, 2, 6, 14, 0, 32, 96, 224, 0, 512, 1536, 3584, 8190, 16383, 32767, 65535]⟩)], inL []⟩
theorem en11 {args : List CV} {m : Mem} {R : List CV → Mem → Prop} (hlen : Nat.ble args.length Try.f11.ntmps = true) (h : xwp c11 (bodyOf Try.f11) (QRet tt.get Try.f11.results.toList R) ⟨initF args, [], m, []⟩) : Spec Try.prog 11 args m R :=
  Spec.of_body (c := c11) Try.func11 (by kernel_rfl) (by kernel_rfl) tt_ok wide (by kernel_rfl) hlen h
/- (*maund files.Files).Read -/
noncomputable def c12 : Cfg := ⟨Try.prog, tt.get, inL [], atL [], inL []⟩
theorem en12 {args : List CV} {m : Mem} {R : List CV → Mem → Prop} (hlen : Nat.ble args.length Try.f12.ntmps = true) (h : xwp c12 (bodyOf Try.f12) (QRet tt.get Try.f12.results.toList R) ⟨initF args, [], m, []⟩) : Spec Try.prog 12 args m R :=
  Spec.of_body (c := c12) Try.func12 (by kernel_rfl) (by kernel_rfl) tt_ok wide (by kernel_rfl) hlen h
/- (*maund files.Files).Counts -/
noncomputable def c13 : Cfg := ⟨Try.prog, tt.get, inL [], atL [(3, ⟨.op 0 .all (.op 1 .all (.op 2 .all (.op 4 .all (.op 5 .all (.op 6 .all (.op 3 .none (.op 7 .none (.op 8 .all (.op 9 .all (.nil)))))))))), [0, 1, 3, 7, 0, 16, 48, 127, 255, 511]⟩)], inL []⟩
theorem en13 {args : List CV} {m : Mem} {R : List CV → Mem → Prop} (hlen : Nat.ble args.length Try.f13.ntmps = true) (h : xwp c13 (bodyOf Try.f13) (QRet tt.get Try.f13.results.toList R) ⟨initF args, [], m, []⟩) : Spec Try.prog 13 args m R :=
  Spec.of_body (c := c13) Try.func13 (by kernel_rfl) (by kernel_rfl) tt_ok wide (by kernel_rfl) hlen h
/- (*maund files.Files).Append -/
noncomputable def c14 : Cfg := ⟨Try.prog, tt.get, inL [45], atL [(6, ⟨.op 0 .all (.op 1 .all (.op 2 .all (.op 3 .all (.op 4 .all (.op 5 .all (.op 6 .all (.op 8 .all (.op 9 .all (.op 10 .all (.op 11 .all (.op 12 .all (.op 13 .all (.op 14 .all (.op 7 .all (.op 15 .all (.op 16 .all (.op 17 .all (.nil)))))))))))))))))), [0, 1, 3, 7, 15, 31, 63, 127, 63, 319, 831, 1855, 63, 4159, 16191, 32767, 65535, 131071]⟩)], inL [11]⟩
theorem en14 {args : List CV} {m : Mem} {R : List CV → Mem → Prop} (hlen : Nat.ble args.length Try.f14.ntmps = true) (h : xwp c14 (bodyOf Try.f14) (QRet tt.get Try.f14.results.toList R) ⟨initF args, [], m, []⟩) : Spec Try.prog 14 args m R :=
  Spec.of_body (c := c14) Try.func14 (by kernel_rfl) (by kernel_rfl) tt_ok wide (by kernel_rfl) hlen h
/- (*maund files.Files).Sync -/
noncomputable def c15 : Cfg := ⟨Try.prog, tt.get, inL [], atL [], inL []⟩
theorem en15 {args : List CV} {m : Mem} {R : List CV → Mem → Prop} (hlen : Nat.ble args.length Try.f15.ntmps = true) (h : xwp c15 (bodyOf Try.f15) (QRet tt.get Try.f15.results.toList R) ⟨initF args, [], m, []⟩) : Spec Try.prog 15 args m R :=
  Spec.of_body (c := c15) Try.func15 (by kernel_rfl) (by kernel_rfl) tt_ok wide (by kernel_rfl) hlen h
/- (*maund files.Files).Rename -/
noncomputable def c16 : Cfg := ⟨Try.prog, tt.get, inL [], atL [], inL []⟩
theorem en16 {args : List CV} {m : Mem} {R : List CV → Mem → Prop} (hlen : Nat.ble args.length Try.f16.ntmps = true) (h : xwp c16 (bodyOf Try.f16) (QRet tt.get Try.f16.results.toList R) ⟨initF args, [], m, []⟩) : Spec Try.prog 16 args m R :=
  Spec.of_body (c := c16) Try.func16 (by kernel_rfl) (by kernel_rfl) tt_ok wide (by kernel_rfl) hlen h
/- (*maund files.Files).Remove -/
noncomputable def c17 : Cfg := ⟨Try.prog, tt.get, inL [], atL [], inL []⟩
theorem en17 {args : List CV} {m : Mem} {R : List CV → Mem → Prop} (hlen : Nat.ble args.length Try.f17.ntmps = true) (h : xwp c17 (bodyOf Try.f17) (QRet tt.get Try.f17.results.toList R) ⟨initF args, [], m, []⟩) : Spec Try.prog 17 args m R :=
  Spec.of_body (c := c17) Try.func17 (by kernel_rfl) (by kernel_rfl) tt_ok wide (by kernel_rfl) hlen h
/- (*maund files.Files).Cut -/
noncomputable def c18 : Cfg := ⟨Try.prog, tt.get, inL [], atL [(6, ⟨.op 0 .all (.op 1 .all (.op 2 .all (.op 3 .all (.op 4 .all (.op 5 .all (.op 6 .all (.op 7 .all (.op 8 .all (.op 9 .all (.op 10 .all (.op 11 .all (.op 12 .all (.op 13 .all (.op 14 .all (.op 15 .all (.op 16 .all (.op 17 .none (.op 18 .all (.op 19 .all (.op 20 .none (.nil))))))))))))))))))))), [0, 0, 0, 4, 12, 28, 0, 0, 252, 0, 512, 1536, 3584, 0, 15872, 8189, 40957, 106493, 262143, 524287, 1048575]⟩)], inL []⟩
theorem en18 {args : List CV} {m : Mem} {R : List CV → Mem → Prop} (hlen : Nat.ble args.length Try.f18.ntmps = true) (h : xwp c18 (bodyOf Try.f18) (QRet tt.get Try.f18.results.toList R) ⟨initF args, [], m, []⟩) : Spec Try.prog 18 args m R :=
  Spec.of_body (c := c18) Try.func18 (by kernel_rfl) (by kernel_rfl) tt_ok wide (by kernel_rfl) hlen h
/- (*maund files.Files).Names -/
noncomputable def c19 : Cfg := ⟨Try.prog, tt.get, inL [], atL [], inL []⟩
theorem en19 {args : List CV} {m : Mem} {R : List CV → Mem → Prop} (hlen : Nat.ble args.length Try.f19.ntmps = true) (h : xwp c19 (bodyOf Try.f19) (QRet tt.get Try.f19.results.toList R) ⟨initF args, [], m, []⟩) : Spec Try.prog 19 args m R :=
  Spec.of_body (c := c19) Try.func19 (by kernel_rfl) (by kernel_rfl) tt_ok wide (by kernel_rfl) hlen h
/- (*maund files.Files).Used -/
noncomputable def c20 : Cfg := ⟨Try.prog, tt.get, inL [], atL [], inL []⟩
theorem en20 {args : List CV} {m : Mem} {R : List CV → Mem → Prop} (hlen : Nat.ble args.length Try.f20.ntmps = true) (h : xwp c20 (bodyOf Try.f20) (QRet tt.get Try.f20.results.toList R) ⟨initF args, [], m, []⟩) : Spec Try.prog 20 args m R :=
  Spec.of_body (c := c20) Try.func20 (by kernel_rfl) (by kernel_rfl) tt_ok wide (by kernel_rfl) hlen h
/- (*maund files.Files).Safe -/
noncomputable def c21 : Cfg := ⟨Try.prog, tt.get, inL [], atL [], inL []⟩
theorem en21 {args : List CV} {m : Mem} {R : List CV → Mem → Prop} (hlen : Nat.ble args.length Try.f21.ntmps = true) (h : xwp c21 (bodyOf Try.f21) (QRet tt.get Try.f21.results.toList R) ⟨initF args, [], m, []⟩) : Spec Try.prog 21 args m R :=
  Spec.of_body (c := c21) Try.func21 (by kernel_rfl) (by kernel_rfl) tt_ok wide (by kernel_rfl) hlen h
/- maund maundlaw14.play -/
noncomputable def c22 : Cfg := ⟨Try.prog, tt.get, inL [], atL [], inL []⟩
theorem en22 {args : List CV} {m : Mem} {R : List CV → Mem → Prop} (hlen : Nat.ble args.length Try.f22.ntmps = true) (h : xwp c22 (bodyOf Try.f22) (QRet tt.get Try.f22.results.toList R) ⟨initF args, [], m, []⟩) : Spec Try.prog 22 args m R :=
  Spec.of_body (c := c22) Try.func22 (by kernel_rfl) (by kernel_rfl) tt_ok wide (by kernel_rfl) hlen h
/- (*maund maundref14.Files).Append -/
noncomputable def c23 : Cfg := ⟨Try.prog, tt.get, inL [], atL [(3, ⟨.op 0 .all (.op 1 .all (.op 2 .all (.op 3 .all (.op 4 .all (.op 5 .all (.op 6 .all (.op 8 .all (.op 9 .all (.op 11 .all (.op 12 .all (.op 13 .all (.op 14 .all (.op 7 .all (.op 10 .all (.op 15 .all (.op 16 .all (.nil))))))))))))))))), [0, 1, 3, 7, 15, 31, 63, 127, 63, 319, 1023, 63, 2111, 6207, 14399, 32767, 65535]⟩),
  (8, ⟨.op 0 .all (.op 1 .all (.op 2 .all (.op 3 .all (.op 4 .all (.op 5 .all (.op 6 .all (.op 7 .all (.op 8 .all (.op 9 .all (.op 10 .all (.op 11 .all (.op 12 .all (.op 13 .all (.op 14 .all (.op 15 .all (.op 16 .all (.op 17 .none (.nil)))))))))))))))))), [0, 1, 3, 7, 0, 0, 32, 96, 224, 0, 992, 2016, 4064, 0, 16352, 32767, 65535, 131071]⟩)], inL [5, 7]⟩
theorem en23 {args : List CV} {m : Mem} {R : List CV → Mem → Prop} (hlen : Nat.ble args.length Try.f23.ntmps = true) (h : xwp c23 (bodyOf Try.f23) (QRet tt.get Try.f23.results.toList R) ⟨initF args, [], m, []⟩) : Spec Try.prog 23 args m R :=
  Spec.of_body (c := c23) Try.func23 (by kernel_rfl) (by kernel_rfl) tt_ok wide (by kernel_rfl) hlen h
/- (*maund maundref14.Files).Sync -/
noncomputable def c24 : Cfg := ⟨Try.prog, tt.get, inL [], atL [(4, ⟨.op 0 .all (.op 1 .all (.op 2 .all (.op 3 .all (.op 4 .all (.op 5 .all (.op 6 .all (.op 7 .all (.op 8 .all (.op 9 .all (.op 10 .all (.op 11 .all (.op 12 .all (.op 13 .all (.op 14 .all (.op 15 .all (.op 16 .none (.nil))))))))))))))))), [0, 1, 3, 7, 0, 0, 32, 96, 224, 0, 992, 2016, 4064, 8160, 16383, 32767, 65535]⟩)], inL []⟩
theorem en24 {args : List CV} {m : Mem} {R : List CV → Mem → Prop} (hlen : Nat.ble args.length Try.f24.ntmps = true) (h : xwp c24 (bodyOf Try.f24) (QRet tt.get Try.f24.results.toList R) ⟨initF args, [], m, []⟩) : Spec Try.prog 24 args m R :=
  Spec.of_body (c := c24) Try.func24 (by kernel_rfl) (by kernel_rfl) tt_ok wide (by kernel_rfl) hlen h
/- (*maund maundref14.Files).Rename -/
noncomputable def c25 : Cfg := ⟨Try.prog, tt.get, inL [], atL [], inL [11]⟩
theorem en25 {args : List CV} {m : Mem} {R : List CV → Mem → Prop} (hlen : Nat.ble args.length Try.f25.ntmps = true) (h : xwp c25 (bodyOf Try.f25) (QRet tt.get Try.f25.results.toList R) ⟨initF args, [], m, []⟩) : Spec Try.prog 25 args m R :=
  Spec.of_body (c := c25) Try.func25 (by kernel_rfl) (by kernel_rfl) tt_ok wide (by kernel_rfl) hlen h
/- (*maund maundref14.Files).Remove -/
noncomputable def c26 : Cfg := ⟨Try.prog, tt.get, inL [], atL [], inL []⟩
theorem en26 {args : List CV} {m : Mem} {R : List CV → Mem → Prop} (hlen : Nat.ble args.length Try.f26.ntmps = true) (h : xwp c26 (bodyOf Try.f26) (QRet tt.get Try.f26.results.toList R) ⟨initF args, [], m, []⟩) : Spec Try.prog 26 args m R :=
  Spec.of_body (c := c26) Try.func26 (by kernel_rfl) (by kernel_rfl) tt_ok wide (by kernel_rfl) hlen h
/- (*maund maundref14.Files).Read -/
noncomputable def c27 : Cfg := ⟨Try.prog, tt.get, inL [], atL [], inL []⟩
theorem en27 {args : List CV} {m : Mem} {R : List CV → Mem → Prop} (hlen : Nat.ble args.length Try.f27.ntmps = true) (h : xwp c27 (bodyOf Try.f27) (QRet tt.get Try.f27.results.toList R) ⟨initF args, [], m, []⟩) : Spec Try.prog 27 args m R :=
  Spec.of_body (c := c27) Try.func27 (by kernel_rfl) (by kernel_rfl) tt_ok wide (by kernel_rfl) hlen h
/- (*maund maundref14.Files).Crash -/
noncomputable def c28 : Cfg := ⟨Try.prog, tt.get, inL [], atL [(6, ⟨.op 0 .all (.op 1 .all (.op 2 .all (.op 3 .all (.op 4 .all (.op 5 .all (.op 6 .all (.op 7 .all (.op 8 .all (.op 9 .all (.op 10 .all (.op 11 .all (.op 12 .all (.op 13 .all (.op 14 .all (.op 15 .all (.op 16 .all (.op 17 .all (.op 18 .all (.op 19 .all (.nil)))))))))))))))))))), [0, 0, 2, 6, 14, 0, 62, 126, 254, 510, 0, 1024, 3072, 7168, 0, 31744, 64512, 130048, 262142, 524287]⟩),
  (7, ⟨.op 0 .all (.op 1 .all (.op 2 .all (.op 3 .all (.op 4 .all (.op 5 .all (.op 6 .all (.op 7 .all (.op 8 .all (.op 9 .all (.op 10 .all (.op 11 .all (.op 12 .all (.op 13 .all (.op 14 .all (.op 15 .all (.op 16 .all (.op 17 .all (.op 18 .all (.nil))))))))))))))))))), [0, 1, 3, 7, 0, 31, 63, 127, 255, 0, 512, 1536, 3584, 0, 15872, 32256, 65024, 131071, 262143]⟩),
  (8, ⟨.op 0 .all (.op 1 .all (.op 2 .all (.op 3 .all (.op 4 .all (.op 5 .all (.op 6 .all (.op 7 .all (.op 8 .all (.op 9 .all (.op 10 .all (.op 11 .all (.op 12 .all (.op 13 .all (.op 14 .all (.op 15 .all (.op 16 .all (.op 17 .none (.nil)))))))))))))))))), [0, 1, 3, 7, 0, 0, 32, 96, 224, 0, 992, 2016, 4064, 0, 16352, 32767, 65535, 131071]⟩),
  (9, ⟨.op 0 .all (.op 1 .all (.op 2 .all (.op 3 .all (.op 4 .all (.op 5 .all (.op 6 .all (.op 7 .all (.op 8 .all (.op 9 .all (.op 10 .all (.op 11 .all (.op 12 .all (.op 13 .all (.op 14 .all (.op 15 .all (.op 16 .all (.op 17 .all (.op 18 .all (.op 19 .all (.op 20 .all (.op 21 .all (.op 22 .all (.op 23 .all (.op 24 .none (.nil))))))))))))))))))))))))), [0, 1, 3, 7, 0, 0, 32, 96, 224, 0, 992, 2016, 4064, 0, 8192, 24576, 57344, 0, 253952, 516096, 1040384, 2097120, 4194303, 8388607, 16777215]⟩)], inL []⟩
theorem en28 {args : List CV} {m : Mem} {R : List CV → Mem → Prop} (hlen : Nat.ble args.length Try.f28.ntmps = true) (h : xwp c28 (bodyOf Try.f28) (QRet tt.get Try.f28.results.toList R) ⟨initF args, [], m, []⟩) : Spec Try.prog 28 args m R :=
  Spec.of_body (c := c28) Try.func28 (by kernel_rfl) (by kernel_rfl) tt_ok wide (by kernel_rfl) hlen h
/- (*maund maundref14.Files).Cut -/
noncomputable def c29 : Cfg := ⟨Try.prog, tt.get, inL [], atL [(6, ⟨.op 0 .all (.op 1 .all (.op 2 .all (.op 3 .all (.op 4 .all (.op 5 .all (.op 6 .all (.op 7 .all (.op 8 .all (.op 9 .all (.op 10 .all (.op 11 .all (.op 12 .all (.op 13 .all (.op 14 .all (.op 15 .all (.op 16 .all (.op 17 .none (.nil)))))))))))))))))), [0, 1, 3, 7, 0, 0, 32, 96, 224, 0, 992, 2016, 4064, 0, 16352, 32767, 65535, 131071]⟩)], inL []⟩
theorem en29 {args : List CV} {m : Mem} {R : List CV → Mem → Prop} (hlen : Nat.ble args.length Try.f29.ntmps = true) (h : xwp c29 (bodyOf Try.f29) (QRet tt.get Try.f29.results.toList R) ⟨initF args, [], m, []⟩) : Spec Try.prog 29 args m R :=
  Spec.of_body (c := c29) Try.func29 (by kernel_rfl) (by kernel_rfl) tt_ok wide (by kernel_rfl) hlen h
/- (*maund maundref14.Files).Used -/
noncomputable def c30 : Cfg := ⟨Try.prog, tt.get, inL [], atL [], inL []⟩
theorem en30 {args : List CV} {m : Mem} {R : List CV → Mem → Prop} (hlen : Nat.ble args.length Try.f30.ntmps = true) (h : xwp c30 (bodyOf Try.f30) (QRet tt.get Try.f30.results.toList R) ⟨initF args, [], m, []⟩) : Spec Try.prog 30 args m R :=
  Spec.of_body (c := c30) Try.func30 (by kernel_rfl) (by kernel_rfl) tt_ok wide (by kernel_rfl) hlen h
/- (*maund files.Files).find -/
noncomputable def c31 : Cfg := ⟨Try.prog, tt.get, inL [], atL [], inL []⟩
theorem en31 {args : List CV} {m : Mem} {R : List CV → Mem → Prop} (hlen : Nat.ble args.length Try.f31.ntmps = true) (h : xwp c31 (bodyOf Try.f31) (QRet tt.get Try.f31.results.toList R) ⟨initF args, [], m, []⟩) : Spec Try.prog 31 args m R :=
  Spec.of_body (c := c31) Try.func31 (by kernel_rfl) (by kernel_rfl) tt_ok wide (by kernel_rfl) hlen h
/- slices.Clone[[]byte,byte] -/
noncomputable def c32 : Cfg := ⟨Try.prog, tt.get, inL [], atL [], inL []⟩
theorem en32 {args : List CV} {m : Mem} {R : List CV → Mem → Prop} (hlen : Nat.ble args.length Try.f32.ntmps = true) (h : xwp c32 (bodyOf Try.f32) (QRet tt.get Try.f32.results.toList R) ⟨initF args, [], m, []⟩) : Spec Try.prog 32 args m R :=
  Spec.of_body (c := c32) Try.func32 (by kernel_rfl) (by kernel_rfl) tt_ok wide (by kernel_rfl) hlen h
/- (*sync atomic.Uint64).Load -/
noncomputable def c33 : Cfg := ⟨Try.prog, tt.get, inL [], atL [], inL []⟩
theorem en33 {args : List CV} {m : Mem} {R : List CV → Mem → Prop} (hlen : Nat.ble args.length Try.f33.ntmps = true) (h : xwp c33 (bodyOf Try.f33) (QRet tt.get Try.f33.results.toList R) ⟨initF args, [], m, []⟩) : Spec Try.prog 33 args m R :=
  Spec.of_body (c := c33) Try.func33 (by kernel_rfl) (by kernel_rfl) tt_ok wide (by kernel_rfl) hlen h
/- maund files.isName -/
noncomputable def c34 : Cfg := ⟨Try.prog, tt.get, inL [], atL [], inL []⟩
theorem en34 {args : List CV} {m : Mem} {R : List CV → Mem → Prop} (hlen : Nat.ble args.length Try.f34.ntmps = true) (h : xwp c34 (bodyOf Try.f34) (QRet tt.get Try.f34.results.toList R) ⟨initF args, [], m, []⟩) : Spec Try.prog 34 args m R :=
  Spec.of_body (c := c34) Try.func34 (by kernel_rfl) (by kernel_rfl) tt_ok wide (by kernel_rfl) hlen h
/- (*sync atomic.Uint64).Add -/
noncomputable def c35 : Cfg := ⟨Try.prog, tt.get, inL [], atL [], inL []⟩
theorem en35 {args : List CV} {m : Mem} {R : List CV → Mem → Prop} (hlen : Nat.ble args.length Try.f35.ntmps = true) (h : xwp c35 (bodyOf Try.f35) (QRet tt.get Try.f35.results.toList R) ⟨initF args, [], m, []⟩) : Spec Try.prog 35 args m R :=
  Spec.of_body (c := c35) Try.func35 (by kernel_rfl) (by kernel_rfl) tt_ok wide (by kernel_rfl) hlen h
/- slices.Sort[[]string,string] -/
noncomputable def c36 : Cfg := ⟨Try.prog, tt.get, inL [], atL [], inL []⟩
theorem en36 {args : List CV} {m : Mem} {R : List CV → Mem → Prop} (hlen : Nat.ble args.length Try.f36.ntmps = true) (h : xwp c36 (bodyOf Try.f36) (QRet tt.get Try.f36.results.toList R) ⟨initF args, [], m, []⟩) : Spec Try.prog 36 args m R :=
  Spec.of_body (c := c36) Try.func36 (by kernel_rfl) (by kernel_rfl) tt_ok wide (by kernel_rfl) hlen h
/- maund maundref14.isName -/
noncomputable def c37 : Cfg := ⟨Try.prog, tt.get, inL [], atL [], inL []⟩
theorem en37 {args : List CV} {m : Mem} {R : List CV → Mem → Prop} (hlen : Nat.ble args.length Try.f37.ntmps = true) (h : xwp c37 (bodyOf Try.f37) (QRet tt.get Try.f37.results.toList R) ⟨initF args, [], m, []⟩) : Spec Try.prog 37 args m R :=
  Spec.of_body (c := c37) Try.func37 (by kernel_rfl) (by kernel_rfl) tt_ok wide (by kernel_rfl) hlen h
/- (*maund maundref14.Files).at -/
noncomputable def c38 : Cfg := ⟨Try.prog, tt.get, inL [], atL [], inL []⟩
theorem en38 {args : List CV} {m : Mem} {R : List CV → Mem → Prop} (hlen : Nat.ble args.length Try.f38.ntmps = true) (h : xwp c38 (bodyOf Try.f38) (QRet tt.get Try.f38.results.toList R) ⟨initF args, [], m, []⟩) : Spec Try.prog 38 args m R :=
  Spec.of_body (c := c38) Try.func38 (by kernel_rfl) (by kernel_rfl) tt_ok wide (by kernel_rfl) hlen h
/- (*maund maundref14.Files).put -/
noncomputable def c39 : Cfg := ⟨Try.prog, tt.get, inL [], atL [(2, ⟨.op 0 .all (.op 1 .all (.op 2 .all (.op 3 .all (.op 4 .all (.op 5 .all (.op 6 .all (.op 7 .all (.op 8 .all (.op 9 .all (.op 10 .all (.op 11 .all (.op 12 .all (.op 13 .all (.op 14 .all (.op 15 .all (.op 16 .all (.op 17 .all (.op 18 .none (.op 19 .all (.nil)))))))))))))))))))), [0, 0, 2, 6, 14, 30, 63, 127, 255, 511, 1023, 2047, 255, 8191, 16383, 32767, 255, 65791, 262143, 524287]⟩),
  (5, ⟨.op 0 .all (.op 1 .all (.op 2 .all (.op 3 .all (.op 4 .all (.op 5 .all (.op 6 .all (.op 7 .all (.op 9 .all (.op 12 .all (.op 13 .all (.op 14 .all (.op 15 .all (.op 16 .all (.op 17 .all (.or (.op 8 .all (.op 10 .all (.op 11 .all (.op 18 .none (.op 19 .all (.op 20 .all (.op 21 .none (.nil)))))))) (.op 10 .all (.op 8 .all (.op 11 .all (.op 18 .none (.op 19 .all (.op 20 .all (.op 21 .none (.nil))))))))))))))))))))))), [0, 0, 0, 4, 12, 28, 0, 124, 254, 0, 512, 2046, 0, 4096, 12288, 28672, 0, 126976, 262142, 524287, 1048575, 2097151]⟩)], inL [4]⟩
theorem en39 {args : List CV} {m : Mem} {R : List CV → Mem → Prop} (hlen : Nat.ble args.length Try.f39.ntmps = true) (h : xwp c39 (bodyOf Try.f39) (QRet tt.get Try.f39.results.toList R) ⟨initF args, [], m, []⟩) : Spec Try.prog 39 args m R :=
  Spec.of_body (c := c39) Try.func39 (by kernel_rfl) (by kernel_rfl) tt_ok wide (by kernel_rfl) hlen h
/- (*maund maundref14.Files).cut -/
noncomputable def c40 : Cfg := ⟨Try.prog, tt.get, inL [], atL [(1, ⟨.op 0 .all (.op 1 .all (.op 2 .all (.op 3 .all (.op 4 .all (.op 5 .all (.op 6 .all (.op 7 .all (.op 9 .all (.op 10 .all (.op 11 .all (.op 12 .all (.op 13 .all (.op 14 .all (.op 15 .all (.op 8 .all (.op 16 .none (.op 17 .all (.op 18 .all (.op 19 .none (.nil)))))))))))))))))))), [0, 0, 0, 4, 12, 28, 0, 124, 254, 0, 512, 1536, 3584, 0, 8192, 32256, 65534, 131071, 262143, 524287]⟩)], inL []⟩
theorem en40 {args : List CV} {m : Mem} {R : List CV → Mem → Prop} (hlen : Nat.ble args.length Try.f40.ntmps = true) (h : xwp c40 (bodyOf Try.f40) (QRet tt.get Try.f40.results.toList R) ⟨initF args, [], m, []⟩) : Spec Try.prog 40 args m R :=
  Spec.of_body (c := c40) Try.func40 (by kernel_rfl) (by kernel_rfl) tt_ok wide (by kernel_rfl) hlen h
/- (*maund files.Files).made -/
noncomputable def c41 : Cfg := ⟨Try.prog, tt.get, inL [], atL [], inL []⟩
theorem en41 {args : List CV} {m : Mem} {R : List CV → Mem → Prop} (hlen : Nat.ble args.length Try.f41.ntmps = true) (h : xwp c41 (bodyOf Try.f41) (QRet tt.get Try.f41.results.toList R) ⟨initF args, [], m, []⟩) : Spec Try.prog 41 args m R :=
  Spec.of_body (c := c41) Try.func41 (by kernel_rfl) (by kernel_rfl) tt_ok wide (by kernel_rfl) hlen h
/- maund files.isByte -/
noncomputable def c43 : Cfg := ⟨Try.prog, tt.get, inL [], atL [], inL []⟩
theorem en43 {args : List CV} {m : Mem} {R : List CV → Mem → Prop} (hlen : Nat.ble args.length Try.f43.ntmps = true) (h : xwp c43 (bodyOf Try.f43) (QRet tt.get Try.f43.results.toList R) ⟨initF args, [], m, []⟩) : Spec Try.prog 43 args m R :=
  Spec.of_body (c := c43) Try.func43 (by kernel_rfl) (by kernel_rfl) tt_ok wide (by kernel_rfl) hlen h
/- slices.pdqsortOrdered[string] -/
noncomputable def c45 : Cfg := ⟨Try.prog, tt.get, inL [], atL [(17, ⟨.op 0 .all (.op 1 .all (.op 2 .all (.op 3 .all (.op 4 .all (.op 5 .all (.op 6 .all (.op 7 .all (.op 8 .all (.op 9 .all (.op 10 .all (.op 11 .all (.op 12 .none (.op 13 .all (.op 14 .all (.nil))))))))))))))), [0, 1, 3, 7, 7, 23, 63, 127, 7, 7, 775, 1799, 4095, 8191, 16383]⟩)], inL []⟩
theorem en45 {args : List CV} {m : Mem} {R : List CV → Mem → Prop} (hlen : Nat.ble args.length Try.f45.ntmps = true) (h : xwp c45 (bodyOf Try.f45) (QRet tt.get Try.f45.results.toList R) ⟨initF args, [], m, []⟩) : Spec Try.prog 45 args m R :=
  Spec.of_body (c := c45) Try.func45 (by kernel_rfl) (by kernel_rfl) tt_ok wide (by kernel_rfl) hlen h
/- math bits.Len -/
noncomputable def c46 : Cfg := ⟨Try.prog, tt.get, inL [], atL [], inL []⟩
theorem en46 {args : List CV} {m : Mem} {R : List CV → Mem → Prop} (hlen : Nat.ble args.length Try.f46.ntmps = true) (h : xwp c46 (bodyOf Try.f46) (QRet tt.get Try.f46.results.toList R) ⟨initF args, [], m, []⟩) : Spec Try.prog 46 args m R :=
  Spec.of_body (c := c46) Try.func46 (by kernel_rfl) (by kernel_rfl) tt_ok wide (by kernel_rfl) hlen h
/- maund maundref14.less -/
noncomputable def c47 : Cfg := ⟨Try.prog, tt.get, inL [], atL [(4, ⟨.op 0 .all (.op 1 .all (.op 2 .all (.op 3 .all (.op 4 .all (.op 5 .all (.op 6 .all (.nil))))))), [0, 0, 3, 0, 0, 24, 63]⟩),
  (5, ⟨.op 0 .all (.op 1 .all (.op 2 .all (.op 3 .all (.op 4 .all (.op 5 .all (.op 6 .all (.op 7 .all (.nil)))))))), [0, 0, 3, 0, 0, 24, 63, 127]⟩)], inL []⟩
theorem en47 {args : List CV} {m : Mem} {R : List CV → Mem → Prop} (hlen : Nat.ble args.length Try.f47.ntmps = true) (h : xwp c47 (bodyOf Try.f47) (QRet tt.get Try.f47.results.toList R) ⟨initF args, [], m, []⟩) : Spec Try.prog 47 args m R :=
  Spec.of_body (c := c47) Try.func47 (by kernel_rfl) (by kernel_rfl) tt_ok wide (by kernel_rfl) hlen h
/- slices.insertionSortOrdered[string] -/
noncomputable def c48 : Cfg := ⟨Try.prog, tt.get, inL [], atL [(4, ⟨.op 0 .all (.op 1 .all (.op 2 .all (.op 3 .all (.op 4 .all (.op 5 .all (.op 6 .all (.op 7 .all (.op 8 .all (.op 9 .all (.op 10 .all (.op 11 .all (.op 12 .all (.op 13 .none (.op 14 .all (.nil))))))))))))))), [0, 0, 3, 7, 15, 15, 63, 127, 15, 15, 527, 1807, 3855, 8191, 16383]⟩),
  (6, ⟨.op 0 .all (.op 1 .all (.op 2 .all (.op 3 .all (.op 4 .all (.op 5 .all (.op 6 .all (.op 7 .all (.op 8 .all (.op 9 .all (.op 10 .all (.op 11 .all (.op 12 .all (.op 13 .all (.op 14 .all (.op 15 .none (.op 16 .all (.op 17 .none (.nil)))))))))))))))))), [0, 0, 0, 0, 8, 0, 0, 64, 224, 480, 0, 0, 3072, 7168, 16355, 32739, 65535, 131071]⟩)], inL []⟩
theorem en48 {args : List CV} {m : Mem} {R : List CV → Mem → Prop} (hlen : Nat.ble args.length Try.f48.ntmps = true) (h : xwp c48 (bodyOf Try.f48) (QRet tt.get Try.f48.results.toList R) ⟨initF args, [], m, []⟩) : Spec Try.prog 48 args m R :=
  Spec.of_body (c := c48) Try.func48 (by kernel_rfl) (by kernel_rfl) tt_ok wide (by kernel_rfl) hlen h
/- slices.heapSortOrdered[string] -/
noncomputable def c49 : Cfg := ⟨Try.prog, tt.get, inL [], atL [(10, ⟨.op 0 .all (.op 1 .all (.op 2 .all (.op 3 .all (.op 4 .all (.op 5 .all (.op 6 .all (.op 7 .all (.op 8 .all (.op 9 .all (.op 10 .all (.op 11 .all (.op 12 .all (.op 13 .all (.op 14 .all (.op 15 .all (.op 16 .all (.op 17 .none (.op 18 .all (.op 19 .none (.nil)))))))))))))))))))), [0, 0, 0, 0, 0, 24, 0, 0, 0, 384, 960, 1984, 0, 0, 12288, 28672, 65475, 131011, 262143, 524287]⟩)], inL []⟩
theorem en49 {args : List CV} {m : Mem} {R : List CV → Mem → Prop} (hlen : Nat.ble args.length Try.f49.ntmps = true) (h : xwp c49 (bodyOf Try.f49) (QRet tt.get Try.f49.results.toList R) ⟨initF args, [], m, []⟩) : Spec Try.prog 49 args m R :=
  Spec.of_body (c := c49) Try.func49 (by kernel_rfl) (by kernel_rfl) tt_ok wide (by kernel_rfl) hlen h
/- slices.breakPatternsOrdered[string] -/
noncomputable def c50 : Cfg := ⟨Try.prog, tt.get, inL [], atL [(10, ⟨.op 0 .all (.op 1 .all (.op 2 .all (.op 3 .all (.op 4 .all (.op 5 .all (.op 6 .all (.op 7 .all (.op 8 .all (.op 9 .all (.op 10 .all (.op 11 .all (.op 12 .all (.op 13 .all (.op 14 .all (.op 15 .all (.op 16 .all (.op 17 .none (.op 18 .all (.op 19 .none (.nil)))))))))))))))))))), [0, 0, 0, 0, 0, 24, 0, 0, 0, 384, 960, 1984, 0, 0, 12288, 28672, 65475, 131011, 262143, 524287]⟩)], inL []⟩
theorem en50 {args : List CV} {m : Mem} {R : List CV → Mem → Prop} (hlen : Nat.ble args.length Try.f50.ntmps = true) (h : xwp c50 (bodyOf Try.f50) (QRet tt.get Try.f50.results.toList R) ⟨initF args, [], m, []⟩) : Spec Try.prog 50 args m R :=
  Spec.of_body (c := c50) Try.func50 (by kernel_rfl) (by kernel_rfl) tt_ok wide (by kernel_rfl) hlen h
/- slices.choosePivotOrdered[string] -/
noncomputable def c51 : Cfg := ⟨Try.prog, tt.get, inL [], atL [], inL []⟩
theorem en51 {args : List CV} {m : Mem} {R : List CV → Mem → Prop} (hlen : Nat.ble args.length Try.f51.ntmps = true) (h : xwp c51 (bodyOf Try.f51) (QRet tt.get Try.f51.results.toList R) ⟨initF args, [], m, []⟩) : Spec Try.prog 51 args m R :=
  Spec.of_body (c := c51) Try.func51 (by kernel_rfl) (by kernel_rfl) tt_ok wide (by kernel_rfl) hlen h
/- slices.reverseRangeOrdered[string] -/
noncomputable def c52 : Cfg := ⟨Try.prog, tt.get, inL [], atL [(3, ⟨.op 0 .all (.op 1 .all (.op 2 .all (.op 3 .all (.op 4 .all (.op 5 .all (.op 6 .all (.op 7 .all (.op 8 .all (.op 9 .all (.op 10 .all (.op 11 .all (.op 12 .all (.op 13 .none (.op 14 .all (.op 15 .none (.nil)))))))))))))))), [0, 0, 0, 0, 0, 0, 48, 112, 0, 0, 768, 1792, 4083, 8179, 16383, 32767]⟩)], inL []⟩
theorem en52 {args : List CV} {m : Mem} {R : List CV → Mem → Prop} (hlen : Nat.ble args.length Try.f52.ntmps = true) (h : xwp c52 (bodyOf Try.f52) (QRet tt.get Try.f52.results.toList R) ⟨initF args, [], m, []⟩) : Spec Try.prog 52 args m R :=
  Spec.of_body (c := c52) Try.func52 (by kernel_rfl) (by kernel_rfl) tt_ok wide (by kernel_rfl) hlen h
/- slices.partialInsertionSortOrdered[string] -/
noncomputable def c53 : Cfg := ⟨Try.prog, tt.get, inL [], atL [(5, ⟨.op 0 .all (.op 1 .all (.op 2 .all (.op 3 .all (.op 4 .all (.op 5 .all (.op 6 .all (.op 7 .all (.op 8 .all (.op 9 .all (.op 10 .all (.op 11 .all (.op 12 .all (.op 13 .none (.op 14 .all (.op 15 .all (.nil)))))))))))))))), [0, 0, 3, 7, 15, 15, 63, 127, 15, 15, 527, 1807, 3855, 8191, 16383, 32767]⟩),
  (11, ⟨.op 0 .all (.op 1 .all (.op 2 .all (.op 3 .all (.op 4 .all (.op 5 .all (.op 6 .all (.op 7 .all (.op 8 .all (.op 9 .all (.op 10 .all (.op 11 .all (.op 12 .all (.op 13 .all (.op 14 .all (.op 15 .none (.op 16 .all (.op 17 .none (.nil)))))))))))))))))), [0, 0, 0, 0, 8, 0, 0, 64, 224, 480, 0, 0, 3072, 7168, 16355, 32739, 65535, 131071]⟩),
  (16, ⟨.op 0 .all (.op 1 .all (.op 2 .all (.op 3 .all (.op 4 .all (.op 5 .all (.op 6 .all (.op 7 .all (.op 8 .all (.op 9 .none (.op 10 .all (.nil))))))))))), [0, 0, 3, 7, 0, 0, 32, 112, 240, 511, 1023]⟩),
  (17, ⟨.op 0 .all (.op 1 .all (.op 2 .all (.op 3 .all (.op 4 .all (.op 5 .all (.op 6 .all (.op 7 .all (.op 8 .all (.op 9 .all (.op 10 .all (.op 11 .all (.op 12 .all (.op 13 .all (.op 14 .all (.op 15 .none (.op 16 .all (.op 17 .none (.nil)))))))))))))))))), [0, 0, 0, 0, 8, 0, 0, 64, 224, 480, 0, 0, 3072, 7168, 16355, 32739, 65535, 131071]⟩),
  (22, ⟨.op 0 .all (.op 1 .all (.op 2 .all (.op 3 .all (.op 4 .all (.op 5 .all (.op 6 .all (.op 7 .all (.op 8 .all (.op 9 .none (.op 10 .all (.nil))))))))))), [0, 0, 3, 7, 0, 0, 32, 112, 240, 511, 1023]⟩),
  (23, ⟨.op 0 .all (.op 1 .all (.op 2 .all (.op 3 .all (.op 4 .all (.op 5 .all (.op 6 .all (.op 7 .all (.op 8 .all (.op 9 .all (.op 10 .all (.op 11 .all (.op 12 .all (.op 13 .all (.op 14 .all (.op 15 .none (.op 16 .all (.op 17 .none (.nil)))))))))))))))))), [0, 0, 0, 0, 8, 0, 0, 64, 224, 480, 0, 0, 3072, 7168, 16355, 32739, 65535, 131071]⟩)], inL []⟩
theorem en53 {args : List CV} {m : Mem} {R : List CV → Mem → Prop} (hlen : Nat.ble args.length Try.f53.ntmps = true) (h : xwp c53 (bodyOf Try.f53) (QRet tt.get Try.f53.results.toList R) ⟨initF args, [], m, []⟩) : Spec Try.prog 53 args m R :=
  Spec.of_body (c := c53) Try.func53 (by kernel_rfl) (by kernel_rfl) tt_ok wide (by kernel_rfl) hlen h
/- cmp.Less[string] -/
noncomputable def c54 : Cfg := ⟨Try.prog, tt.get, inL [], atL [], inL []⟩
theorem en54 {args : List CV} {m : Mem} {R : List CV → Mem → Prop} (hlen : Nat.ble args.length Try.f54.ntmps = true) (h : xwp c54 (bodyOf Try.f54) (QRet tt.get Try.f54.results.toList R) ⟨initF args, [], m, []⟩) : Spec Try.prog 54 args m R :=
  Spec.of_body (c := c54) Try.func54 (by kernel_rfl) (by kernel_rfl) tt_ok wide (by kernel_rfl) hlen h
/- slices.partitionEqualOrdered[string] -/
noncomputable def c55 : Cfg := ⟨Try.prog, tt.get, inL [], atL [(1, ⟨.op 0 .all (.op 1 .all (.op 2 .all (.op 3 .all (.op 4 .all (.op 5 .all (.op 6 .all (.op 7 .all (.op 8 .all (.op 9 .all (.op 10 .all (.op 11 .all (.op 12 .all (.op 13 .none (.op 14 .all (.op 15 .none (.nil)))))))))))))))), [0, 0, 0, 0, 0, 0, 48, 112, 0, 0, 768, 1792, 4083, 8179, 16383, 32767]⟩),
  (3, ⟨.op 0 .all (.op 1 .all (.op 2 .all (.op 3 .all (.op 4 .all (.op 5 .all (.op 6 .all (.op 7 .all (.op 8 .all (.op 9 .all (.op 10 .all (.op 11 .all (.op 12 .none (.op 13 .all (.op 14 .all (.nil))))))))))))))), [0, 0, 3, 7, 15, 15, 63, 127, 15, 15, 783, 1807, 4095, 8191, 16383]⟩),
  (5, ⟨.op 0 .all (.op 1 .all (.op 2 .all (.op 3 .all (.op 4 .all (.op 5 .all (.op 6 .all (.op 7 .all (.op 8 .all (.op 9 .all (.op 10 .all (.op 11 .all (.op 12 .none (.op 13 .all (.nil)))))))))))))), [0, 0, 3, 7, 15, 15, 63, 127, 15, 15, 783, 1807, 4095, 8191]⟩),
  (8, ⟨.op 0 .all (.op 1 .all (.op 2 .all (.op 3 .all (.op 4 .all (.op 5 .all (.op 6 .all (.op 7 .all (.op 8 .all (.op 9 .all (.op 10 .all (.op 11 .all (.op 12 .all (.op 13 .none (.op 14 .all (.op 15 .none (.nil)))))))))))))))), [0, 0, 0, 0, 0, 0, 48, 112, 0, 0, 768, 1792, 4083, 8179, 16383, 32767]⟩)], inL []⟩
theorem en55 {args : List CV} {m : Mem} {R : List CV → Mem → Prop} (hlen : Nat.ble args.length Try.f55.ntmps = true) (h : xwp c55 (bodyOf Try.f55) (QRet tt.get Try.f55.results.toList R) ⟨initF args, [], m, []⟩) : Spec Try.prog 55 args m R :=
  Spec.of_body (c := c55) Try.func55 (by kernel_rfl) (by kernel_rfl) tt_ok wide (by kernel_rfl) hlen h
/- slices.partitionOrdered[string] -/
noncomputable def c56 : Cfg := ⟨Try.prog, tt.get, inL [], atL [(1, ⟨.op 0 .all (.op 1 .all (.op 2 .all (.op 3 .all (.op 4 .all (.op 5 .all (.op 6 .all (.op 7 .all (.op 8 .all (.op 9 .all (.op 10 .all (.op 11 .all (.op 12 .all (.op 13 .none (.op 14 .all (.op 15 .none (.nil)))))))))))))))), [0, 0, 0, 0, 0, 0, 48, 112, 0, 0, 768, 1792, 4083, 8179, 16383, 32767]⟩),
  (3, ⟨.op 0 .all (.op 1 .all (.op 2 .all (.op 3 .all (.op 4 .all (.op 5 .all (.op 6 .all (.op 7 .all (.op 8 .all (.op 9 .all (.op 10 .all (.op 11 .all (.op 12 .none (.op 13 .all (.nil)))))))))))))), [0, 0, 3, 7, 15, 15, 63, 127, 15, 15, 783, 1807, 4095, 8191]⟩),
  (5, ⟨.op 0 .all (.op 1 .all (.op 2 .all (.op 3 .all (.op 4 .all (.op 5 .all (.op 6 .all (.op 7 .all (.op 8 .all (.op 9 .all (.op 10 .all (.op 11 .all (.op 12 .none (.op 13 .all (.op 14 .all (.nil))))))))))))))), [0, 0, 3, 7, 15, 15, 63, 127, 15, 15, 783, 1807, 4095, 8191, 16383]⟩),
  (8, ⟨.op 0 .all (.op 1 .all (.op 2 .all (.op 3 .all (.op 4 .all (.op 5 .all (.op 6 .all (.op 7 .all (.op 8 .all (.op 9 .all (.op 10 .all (.op 11 .all (.op 12 .all (.op 13 .none (.op 14 .all (.op 15 .none (.nil)))))))))))))))), [0, 0, 0, 0, 0, 0, 48, 112, 0, 0, 768, 1792, 4083, 8179, 16383, 32767]⟩),
  (10, ⟨.op 0 .all (.op 1 .all (.op 2 .all (.op 3 .all (.op 4 .all (.op 5 .all (.op 6 .all (.op 7 .all (.op 8 .all (.op 9 .all (.op 10 .all (.op 11 .all (.op 12 .all (.op 13 .none (.op 14 .all (.op 15 .none (.nil)))))))))))))))), [0, 0, 0, 0, 0, 0, 48, 112, 0, 0, 768, 1792, 4083, 8179, 16383, 32767]⟩),
  (13, ⟨.op 0 .all (.op 1 .all (.op 2 .all (.op 3 .all (.op 4 .all (.op 5 .all (.op 6 .all (.op 7 .all (.op 8 .all (.op 9 .all (.op 10 .all (.op 11 .all (.op 12 .none (.op 13 .all (.nil)))))))))))))), [0, 0, 3, 7, 15, 15, 63, 127, 15, 15, 783, 1807, 4095, 8191]⟩),
  (15, ⟨.op 0 .all (.op 1 .all (.op 2 .all (.op 3 .all (.op 4 .all (.op 5 .all (.op 6 .all (.op 7 .all (.op 8 .all (.op 9 .all (.op 10 .all (.op 11 .all (.op 12 .none (.op 13 .all (.op 14 .all (.nil))))))))))))))), [0, 0, 3, 7, 15, 15, 63, 127, 15, 15, 783, 1807, 4095, 8191, 16383]⟩),
  (18, ⟨.op 0 .all (.op 1 .all (.op 2 .all (.op 3 .all (.op 4 .all (.op 5 .all (.op 6 .all (.op 7 .all (.op 8 .all (.op 9 .all (.op 10 .all (.op 11 .all (.op 12 .all (.op 13 .none (.op 14 .all (.op 15 .none (.nil)))))))))))))))), [0, 0, 0, 0, 0, 0, 48, 112, 0, 0, 768, 1792, 4083, 8179, 16383, 32767]⟩),
  (21, ⟨.op 0 .all (.op 1 .all (.op 2 .all (.op 3 .all (.op 4 .all (.op 5 .all (.op 6 .all (.op 7 .all (.op 8 .all (.op 9 .all (.op 10 .all (.op 11 .all (.op 12 .all (.op 13 .none (.op 14 .all (.op 15 .none (.nil)))))))))))))))), [0, 0, 0, 0, 0, 0, 48, 112, 0, 0, 768, 1792, 4083, 8179, 16383, 32767]⟩)], inL []⟩
theorem en56 {args : List CV} {m : Mem} {R : List CV → Mem → Prop} (hlen : Nat.ble args.length Try.f56.ntmps = true) (h : xwp c56 (bodyOf Try.f56) (QRet tt.get Try.f56.results.toList R) ⟨initF args, [], m, []⟩) : Spec Try.prog 56 args m R :=
  Spec.of_body (c := c56) Try.func56 (by kernel_rfl) (by kernel_rfl) tt_ok wide (by kernel_rfl) hlen h
/- math bits.Len32 -/
noncomputable def c57 : Cfg := ⟨Try.prog, tt.get, inL [], atL [], inL []⟩
theorem en57 {args : List CV} {m : Mem} {R : List CV → Mem → Prop} (hlen : Nat.ble args.length Try.f57.ntmps = true) (h : xwp c57 (bodyOf Try.f57) (QRet tt.get Try.f57.results.toList R) ⟨initF args, [], m, []⟩) : Spec Try.prog 57 args m R :=
  Spec.of_body (c := c57) Try.func57 (by kernel_rfl) (by kernel_rfl) tt_ok wide (by kernel_rfl) hlen h
/- math bits.Len64 -/
noncomputable def c58 : Cfg := ⟨Try.prog, tt.get, inL [], atL [], inL []⟩
theorem en58 {args : List CV} {m : Mem} {R : List CV → Mem → Prop} (hlen : Nat.ble args.length Try.f58.ntmps = true) (h : xwp c58 (bodyOf Try.f58) (QRet tt.get Try.f58.results.toList R) ⟨initF args, [], m, []⟩) : Spec Try.prog 58 args m R :=
  Spec.of_body (c := c58) Try.func58 (by kernel_rfl) (by kernel_rfl) tt_ok wide (by kernel_rfl) hlen h
/- slices.siftDownOrdered[string] -/
noncomputable def c59 : Cfg := ⟨Try.prog, tt.get, inL [], atL [(3, ⟨.op 0 .all (.op 1 .all (.op 2 .all (.op 3 .all (.op 4 .all (.op 5 .all (.op 6 .all (.op 7 .all (.op 8 .all (.op 9 .all (.op 10 .all (.op 11 .all (.op 12 .all (.op 13 .all (.op 14 .all (.op 15 .all (.op 16 .all (.op 17 .all (.op 18 .none (.op 19 .all (.nil)))))))))))))))))))), [0, 1, 0, 7, 15, 31, 31, 31, 223, 511, 1023, 31, 31, 31, 12319, 28703, 63519, 129055, 262143, 524287]⟩),
  (5, ⟨.op 0 .all (.op 1 .all (.op 2 .all (.op 3 .all (.op 4 .all (.op 5 .all (.op 6 .all (.op 7 .all (.op 8 .all (.op 9 .all (.op 10 .all (.op 11 .all (.op 12 .none (.op 13 .all (.nil)))))))))))))), [0, 0, 0, 6, 15, 31, 0, 0, 0, 384, 960, 1984, 4095, 8191]⟩),
  (6, ⟨.op 0 .all (.op 1 .all (.op 2 .all (.op 3 .all (.op 4 .all (.op 5 .all (.op 6 .all (.op 7 .all (.op 8 .all (.op 9 .all (.op 10 .all (.op 11 .all (.op 12 .all (.op 13 .all (.op 14 .all (.op 15 .all (.op 16 .all (.op 17 .all (.op 18 .all (.op 19 .all (.op 20 .all (.op 21 .none (.op 22 .all (.op 23 .none (.nil)))))))))))))))))))))))), [0, 0, 0, 6, 0, 0, 0, 96, 0, 0, 0, 1536, 3840, 7936, 0, 0, 0, 98304, 245760, 507904, 1048335, 2096911, 4194303, 8388607]⟩)], inL []⟩
theorem en59 {args : List CV} {m : Mem} {R : List CV → Mem → Prop} (hlen : Nat.ble args.length Try.f59.ntmps = true) (h : xwp c59 (bodyOf Try.f59) (QRet tt.get Try.f59.results.toList R) ⟨initF args, [], m, []⟩) : Spec Try.prog 59 args m R :=
  Spec.of_body (c := c59) Try.func59 (by kernel_rfl) (by kernel_rfl) tt_ok wide (by kernel_rfl) hlen h
/- slices.nextPowerOfTwo -/
noncomputable def c60 : Cfg := ⟨Try.prog, tt.get, inL [], atL [], inL []⟩
theorem en60 {args : List CV} {m : Mem} {R : List CV → Mem → Prop} (hlen : Nat.ble args.length Try.f60.ntmps = true) (h : xwp c60 (bodyOf Try.f60) (QRet tt.get Try.f60.results.toList R) ⟨initF args, [], m, []⟩) : Spec Try.prog 60 args m R :=
  Spec.of_body (c := c60) Try.func60 (by kernel_rfl) (by kernel_rfl) tt_ok wide (by kernel_rfl) hlen h
/- (*slices.xorshift).Next -/
noncomputable def c61 : Cfg := ⟨Try.prog, tt.get, inL [], atL [(1, ⟨.op 0 .all (.op 1 .all (.op 2 .all (.op 3 .all (.op 4 .all (.op 5 .all (.op 6 .all (.op 7 .all (.op 8 .all (.op 9 .none (.nil)))))))))), [0, 1, 3, 0, 8, 24, 56, 127, 255, 511]⟩),
  (2, ⟨.op 0 .all (.op 1 .all (.op 2 .all (.op 3 .all (.op 4 .all (.op 5 .all (.op 6 .all (.op 7 .all (.op 8 .all (.op 9 .none (.nil)))))))))), [0, 1, 3, 0, 8, 24, 56, 127, 255, 511]⟩),
  (3, ⟨.op 0 .all (.op 1 .all (.op 2 .all (.op 3 .all (.op 4 .all (.op 5 .all (.op 6 .all (.op 7 .all (.op 8 .all (.op 9 .none (.nil)))))))))), [0, 1, 3, 0, 8, 24, 56, 127, 255, 511]⟩)], inL []⟩
theorem en61 {args : List CV} {m : Mem} {R : List CV → Mem → Prop} (hlen : Nat.ble args.length Try.f61.ntmps = true) (h : xwp c61 (bodyOf Try.f61) (QRet tt.get Try.f61.results.toList R) ⟨initF args, [], m, []⟩) : Spec Try.prog 61 args m R :=
  Spec.of_body (c := c61) Try.func61 (by kernel_rfl) (by kernel_rfl) tt_ok wide (by kernel_rfl) hlen h
/- slices.medianAdjacentOrdered[string] -/
noncomputable def c62 : Cfg := ⟨Try.prog, tt.get, inL [], atL [], inL []⟩
theorem en62 {args : List CV} {m : Mem} {R : List CV → Mem → Prop} (hlen : Nat.ble args.length Try.f62.ntmps = true) (h : xwp c62 (bodyOf Try.f62) (QRet tt.get Try.f62.results.toList R) ⟨initF args, [], m, []⟩) : Spec Try.prog 62 args m R :=
  Spec.of_body (c := c62) Try.func62 (by kernel_rfl) (by kernel_rfl) tt_ok wide (by kernel_rfl) hlen h
/- slices.medianOrdered[string] -/
noncomputable def c63 : Cfg := ⟨Try.prog, tt.get, inL [], atL [], inL []⟩
theorem en63 {args : List CV} {m : Mem} {R : List CV → Mem → Prop} (hlen : Nat.ble args.length Try.f63.ntmps = true) (h : xwp c63 (bodyOf Try.f63) (QRet tt.get Try.f63.results.toList R) ⟨initF args, [], m, []⟩) : Spec Try.prog 63 args m R :=
  Spec.of_body (c := c63) Try.func63 (by kernel_rfl) (by kernel_rfl) tt_ok wide (by kernel_rfl) hlen h
/- cmp.isNaN[string] -/
noncomputable def c64 : Cfg := ⟨Try.prog, tt.get, inL [], atL [], inL []⟩
theorem en64 {args : List CV} {m : Mem} {R : List CV → Mem → Prop} (hlen : Nat.ble args.length Try.f64.ntmps = true) (h : xwp c64 (bodyOf Try.f64) (QRet tt.get Try.f64.results.toList R) ⟨initF args, [], m, []⟩) : Spec Try.prog 64 args m R :=
  Spec.of_body (c := c64) Try.func64 (by kernel_rfl) (by kernel_rfl) tt_ok wide (by kernel_rfl) hlen h
/- slices.order2Ordered[string] -/
noncomputable def c65 : Cfg := ⟨Try.prog, tt.get, inL [], atL [(1, ⟨.op 0 .all (.op 1 .all (.op 2 .all (.op 3 .all (.op 4 .all (.op 5 .all (.op 6 .all (.op 7 .all (.op 8 .none (.nil))))))))), [0, 0, 3, 7, 0, 0, 48, 112, 255]⟩)], inL []⟩
theorem en65 {args : List CV} {m : Mem} {R : List CV → Mem → Prop} (hlen : Nat.ble args.length Try.f65.ntmps = true) (h : xwp c65 (bodyOf Try.f65) (QRet tt.get Try.f65.results.toList R) ⟨initF args, [], m, []⟩) : Spec Try.prog 65 args m R :=
  Spec.of_body (c := c65) Try.func65 (by kernel_rfl) (by kernel_rfl) tt_ok wide (by kernel_rfl) hlen h
end Go.E.Ytghdapflkhadoaa

/-
  Small things for the contracts.
-/
namespace Go.E
abbrev u64 (n : Int) : CV := .v (.int .u64 n)
abbrev i64 (n : Int) : CV := .v (.int .i64 n)
abbrev boolV (b : Bool) : CV := .v (.bool b)
theorem xretk {P : Program} {f : FuncId} {args : List CV} {m : Mem} {r : List CV} {x : List Nat} {K : List CV → Mem → Prop} (h : Ret P f args m r) (k : K r m) : XCall P f args m fun r' m' => Kept x m m' ∧ K r' m' :=
  xret h ⟨fun _ _ => rfl, k⟩
theorem wu {n : Int} (h0 : 0 ≤ n) (h1 : n < 18446744073709551616) : IntKind.u64.wrap n = n := by rw [IntKind.wrap_u64, Int.emod_eq_of_lt h0 h1]
theorem wi {n : Int} (h0 : -9223372036854775808 ≤ n) (h1 : n < 9223372036854775808) : IntKind.i64.wrap n = n := by rw [IntKind.wrap_i64]; omega
theorem iadd {i : Nat} (h : i < 1000000000000) : IntKind.i64.wrap ((i : Int) + 1) = ((i + 1 : Nat) : Int) := by rw [wi (by omega) (by omega)]; omega
end Go.E

/-
  Bytes: what is owned, appended.
-/
namespace Go.E.Ytghdapflkhadoaa
open Go.Proofs
set_option maxRecDepth 100000

theorem Own.store {p : Mem} {e : TypeId} {b o n c k : Nat} {l : List Value} {x : Value} (h : Own p e 1 (.slice (some ⟨b, o, none⟩) n c) l) (hk : k < l.length) (hx : x.oneCell' = true) :
    ∃ arr, p b = some (.cells arr e (0, 0)) ∧ o + k < arr.size ∧ Own (p.set b (.cells (arr.setIfInBounds (o + k) x) e (0, 0))) e 1 (.slice (some ⟨b, o, none⟩) n c) (l.set k x) := by
  rcases h with ⟨h, _⟩ | ⟨b', o', c', n', arr, h, h1, h2, h3, h4, h5, h6⟩
  · cases h
  · cases h
    rw [Nat.mul_one] at h2 h4
    refine ⟨arr, h1, by omega, .inr ⟨b, o, c, n, _, rfl, Mem.set_same .., by simp; omega, h3, by simp; omega, fun j u hu => ?_, fun u hu => ?_⟩⟩
    · rw [List.getElem?_set] at hu
      rw [Array.getElem?_setIfInBounds]
      by_cases e : k = j
      · subst e
        rw [if_pos rfl, if_pos hk] at hu
        cases hu
        rw [if_pos rfl, if_pos (by omega)]
      · rw [if_neg e] at hu
        rw [if_neg (by omega)]
        exact h5 j u hu
    · rcases List.mem_or_eq_of_mem_set hu with hu | rfl
      · exact h6 u hu
      · exact hx
/-- bytes that are owned -/
def Bs (m : Mem) (v : Value) (l : List Int) : Prop := Own m 5 1 v (bc l)
theorem Bs.lb {p : Mem} {v : Value} {l : List Int} (h : Bs p v l) : Lb p v l := Own.lies h
theorem Bs.len {p : Mem} {v : Value} {l : List Int} (h : Bs p v l) : lenV v = l.length := h.lb.len
theorem Bs.sub {m m' : Mem} {v : Value} {l : List Int} (h : Bs m v l) (hs : Sub m m') : Bs m' v l := Own.sub h hs
theorem Bs.keep {m m' : Mem} {v : Value} {l : List Int} (h : Bs m v l) (hs : ∀ b, blkV v = some b → m' b = m b) : Bs m' v l := Own.keep h hs
theorem Bs.store {p : Mem} {b o n c k : Nat} {l : List Int} {x : Int} (h : Bs p (.slice (some ⟨b, o, none⟩) n c) l) (hk : k < l.length) :
    ∃ arr, p b = some (.cells arr 5 (0, 0)) ∧ o + k < arr.size ∧ Bs (p.set b (.cells (arr.setIfInBounds (o + k) (.int .u8 x)) 5 (0, 0))) (.slice (some ⟨b, o, none⟩) n c) (l.set k x) := by
  obtain ⟨arr, h1, h2, h3⟩ := Own.store (k := k) (x := .int .u8 x) h (by simpa [bc] using hk) rfl
  refine ⟨arr, h1, h2, ?_⟩
  rw [show (bc l).set k (.int .u8 x) = bc (l.set k x) by simp [bc, List.map_set]] at h3
  exact h3
theorem Bs.nil (m : Mem) : Bs m (.slice none 0 0) [] := .inl ⟨rfl, rfl⟩
theorem Bs.blk {m : Mem} {b : Nat} {l : List Int} {n : Nat} (hb : m b = some (.cells (bc l).toArray 5)) (hn : l.length = n) : Bs m (.slice (some ⟨b, 0, none⟩) n n) l := by
  subst hn
  refine .inr ⟨b, 0, l.length, l.length, _, rfl, hb, by simp [bc], Nat.le_refl _, by simp [bc], ?_, bc_one⟩
  intro j u hu; rw [Nat.zero_add, List.getElem?_toArray]; exact hu
theorem hU8 : tt.get 5 = some ⟨.int .u8, 1, 1, [.one (.int .u8 0)], false⟩ := by rfl
theorem hBs : tt.get 34 = some ⟨.slice 5, 1, 24, [.one (.slice none 0 0)], false⟩ := by rfl
/-- what an append of bytes leaves -/
structure BApd (m : Mem) (v : Value) (l : List Int) (v' : Value) (m' : Mem) : Prop where
  own : Bs m' v' l
  keep : ∀ b o, m b = some o → blkV v ≠ some b → m' b = some o
  new : ∀ b, blkV v' = some b → blkV v = some b ∨ m b = none
theorem appendB {m : Mem} {v x : Value} {l news : List Int} (hv : Bs m v l) (hg : La m x news) (hb : l.length + news.length ≤ 1000000000) :
    PrimSpec Try.prog (.builtin .append [34, 34]) [.v v, .v x] m fun r m' => ∃ v', r = [.v v'] ∧ BApd m v (l ++ news) v' m' := by
  have e1 := hv.len
  have e2 := hg.len
  refine (append_spec tt_ok hBs rfl hU8 hBs rfl hv hg.gives (by rw [e1, e2]; simp only; omega) (by rw [e1, e2]; omega)).mono fun r m' ⟨v', h1, h2⟩ => ⟨v', h1, ?_⟩
  rw [← bc_append] at h2
  exact ⟨h2.own, h2.keep, h2.new⟩
theorem appendBat {m p : Mem} {ls : List Mem} {i : Nat} {v x : Value} {l news : List Int} (hs : Split m ls) (hi : ls[i]? = some p) (hv : Bs p v l) (hg : La m x news) (hb : l.length + news.length ≤ 1000000000) :
    PrimSpec Try.prog (.builtin .append [34, 34]) [.v v, .v x] m fun r m' => ∃ v' p', r = [.v v'] ∧ Split m' (ls.set i p') ∧ BApd p v (l ++ news) v' p' := by
  have e1 := hv.len
  have e2 := hg.len
  refine (append_at tt_ok hBs rfl hU8 hBs rfl hs hi hv hg.gives (by rw [e1, e2]; simp only; omega) (by rw [e1, e2]; omega)).mono fun r m' ⟨v', p', h1, h2, h3⟩ => ⟨v', p', h1, h2, ?_⟩
  rw [← bc_append] at h3
  exact ⟨h3.own, h3.keep, h3.new⟩
theorem build1 {m : Mem} {x : Int} : PrimSpec Try.prog (.buildSlice 34 1 [0]) [.v (.int .u8 x)] m fun r m' => ∃ b, m b = none ∧ r = [.v (.slice (some ⟨b, 0, none⟩) 1 1)] ∧ m' = m.set b (.cells (bc [x]).toArray 5) :=
  buildSlice_spec (n := 1) tt_ok hBs rfl hU8 rfl rfl (by simp [CV.cs]) (by simp) (by simp)
theorem build2 {m : Mem} {x y : Int} : PrimSpec Try.prog (.buildSlice 34 2 [0, 1]) [.v (.int .u8 x), .v (.int .u8 y)] m fun r m' => ∃ b, m b = none ∧ r = [.v (.slice (some ⟨b, 0, none⟩) 2 2)] ∧ m' = m.set b (.cells (bc [x, y]).toArray 5) :=
  buildSlice_spec (n := 2) tt_ok hBs rfl hU8 rfl rfl (by simp [CV.cs]) (by simp) (by simp)
theorem build3 {m : Mem} {x y z : Int} : PrimSpec Try.prog (.buildSlice 34 3 [0, 1, 2]) [.v (.int .u8 x), .v (.int .u8 y), .v (.int .u8 z)] m fun r m' => ∃ b, m b = none ∧ r = [.v (.slice (some ⟨b, 0, none⟩) 3 3)] ∧ m' = m.set b (.cells (bc [x, y, z]).toArray 5) :=
  buildSlice_spec (n := 3) tt_ok hBs rfl hU8 rfl rfl (by simp [CV.cs]) (by simp) (by simp)
theorem conv_spec {m : Mem} {b n c : Nat} {l : List Int} (hb : m b = some (.cells (bc l).toArray 5)) : PrimSpec Try.prog (.conv 34 34) [.v (.slice (some ⟨b, 0, none⟩) n c)] m fun r m' => r = [.v (.slice (some ⟨b, 0, none⟩) n c)] ∧ m' = m.set b (.cells (bc l).toArray 5 ((bc l).toArray.size, (bc l).toArray.size + 1)) :=
  convConst_spec tt_ok hBs rfl hU8 rfl hb
theorem Bs.none0 {m : Mem} {b : Nat} (hb : m b = some (.cells #[] 5)) : Bs m (.slice (some ⟨b, 0, none⟩) 0 0) [] := Bs.blk (l := []) (by simpa [bc] using hb) rfl
theorem buildB0 {m : Mem} : PrimSpec Try.prog (.buildSlice 34 0 []) [] m fun r m' => ∃ b, m b = none ∧ r = [.v (.slice (some ⟨b, 0, none⟩) 0 0)] ∧ m' = m.set b (.cells #[] 5) :=
  buildSlice0_spec tt_ok hBs rfl hU8
theorem Lb.blk {m : Mem} {b : Nat} {l : List Int} {n : Nat} (hb : m b = some (.cells (bc l).toArray 5)) (hn : l.length = n) : Lb m (.slice (some ⟨b, 0, none⟩) n n) l := (Bs.blk hb hn).lb
/-- one byte more -/
theorem Bs.one {m : Mem} {ls : List Mem} {p : Mem} {b' : Nat} {y : Int} (hs : Split m (p :: ls)) (hb : m b' = none) {x : Value} {l : List Int} (hx : Bs p x l) (hl : l.length ≤ 100000000) :
    PrimSpec Try.prog (.builtin .append [34, 34]) [.v x, .v (.slice (some ⟨b', 0, none⟩) 1 1)] (m.set b' (.cells (bc [y]).toArray 5)) fun r m' => ∃ v' p', r = [.v v'] ∧ Split m' (p' :: ls) ∧ Bs p' v' (l ++ [y]) := by
  have hs1 := hs.new hb (.cells (bc [y]).toArray 5)
  refine (appendBat (i := 1) hs1 rfl hx (Lb.blk (l := [y]) (Mem.set_same ..) rfl).la (by simp; omega)).mono fun r m' ⟨v', p', h1, h2, h3⟩ => ⟨v', p', h1, h2.erase 0, h3.own⟩
/-- one byte, onto a slice: both operations' memory -/
theorem push_mem {m m' : Mem} {b' : Nat} {o : Obj} {v v' : Value} {l : List Int} (hb : m b' = none) (h : BApd (m.set b' o) v l v' m') : BApd m v l v' m' :=
  ⟨h.own, fun b u hm hn => h.keep b u (Mem.sub_set _ hb _ _ hm) hn, fun b hv => (h.new b hv).imp id fun hx => by
    by_cases e : b = b'
    · subst e; exact hb
    · rw [Mem.set_ne _ _ e] at hx; exact hx⟩
theorem Lb.own {m : Mem} {v : Value} {l : List Int} (h : Lb m v l) : (∃ c, v = .slice none 0 c) ∨ ∃ a c, v = .slice (some a) l.length c := by
  rcases h.cases with ⟨c, rfl, _⟩ | ⟨b, o, c, arr, t, fr, rfl, _⟩
  · exact .inl ⟨c, rfl⟩
  · exact .inr ⟨_, c, rfl⟩
end Go.E.Ytghdapflkhadoaa

/-
  More operations: how much room there is; new room.
-/
namespace Go.E
section
variable {P : Program} {T : Tab}
theorem cap_spec (hT : TabOk P T) {t e : TypeId} {ti : TI} (ht : T t = some ti) (hk : ti.k = .slice e) {m : Mem} {a : Option Addr} {n c : Nat} :
    PrimSpec P (.builtin .cap [t]) [.v (.slice a n c)] m fun r m' => r = [.v (.int .i64 c)] ∧ m = m' := by
  intro _ ty W hW
  refine ⟨[.v (.int .i64 c)], m, W, ?_, ?_, ⟨rfl, rfl⟩, After.refl hW⟩
  · simp [Prim.run, Prim.out, Prim.tup, cond_false, CV.val, resVal, Builtin.cap_, run_underlying ((hT t ti ht).slice hk)]; rfl
  · intro x hx; simp at hx; subst hx; rfl
theorem makeFunc_spec {f : FuncId} {n : Nat} {cs : List Value} {m : Mem} (hone : ∀ x ∈ cs, x.oneCell' = true) :
    PrimSpec P (.makeFunc (.func f) n) (cs.map CV.v) m fun r m' => r = [.v (.func (.func f) (cs.take n).toArray (cs.drop n).toArray)] ∧ m = m' := by
  intro _ ty W hW
  refine ⟨[.v (.func (.func f) (cs.take n).toArray (cs.drop n).toArray)], m, W, ?_, ?_, ⟨rfl, rfl⟩, After.refl hW⟩
  · simp [Prim.run, Prim.out, Prim.tup, cond_false, CV.val, resVal, Instr.makeFunc, List.map_map, Function.comp_def]
  · intro x hx; simp at hx; subst hx; rfl
theorem int_desc {d : TypeDesc} {k : IntKind} (h : TK.of d = .int k) : d = .int k := by
  cases d <;> simp [TK.of] at h; subst h; rfl
/-- append of k zeros, where there is no room for them: a new row -/
theorem appendZeros_spec (hT : TabOk P T) {t e tn : TypeId} {ti ei ni : TI} {kn : IntKind} (ht : T t = some ti) (hk : ti.k = .slice e) (he : T e = some ei) (hn : T tn = some ni) (hkn : ni.k = .int kn) (hpos : 0 < ei.size) {m : Mem} {v : Value} {a : Option Addr} {n c k : Nat} {l : List Value}
    (hv : v = .slice a n c) (hl : Lies m ei.size v l) (h0 : 0 < k) (hg : c < n + k) (hb : (2 * (n + k) + 768) * ei.bytes ≤ 281474976710656) (hb1 : n + k ≤ 9223372036854775807) :
    PrimSpec P (.builtin .append [t, tn]) [.v v, .v (.int .i64 k)] m fun r m' => ∃ b C, m b = none ∧ n + k ≤ C ∧ r = [.v (.slice (some ⟨b, 0, none⟩) (n + k) C)] ∧
      m' = m.set b (.cells (l.toArray ++ Builtin.zeroCells (LB.cells ei.zero).toArray k ++ Builtin.zeroCells (LB.cells ei.zero).toArray (C - (n + k))) e) := by
  intro _ ty W hW
  subst hv
  obtain ⟨j, hj, hjs, hjb, z, hjz, hzc⟩ := (hT e ei he).inf
  have hsl := (hT t ti ht).slice hk
  obtain ⟨d, h1, h2⟩ := (hT tn ni hn).desc
  rw [hkn] at h2
  have hd := int_desc h2
  subst hd
  have hold : (Builtin.firstCells j.size n (.slice a n c)).run P W.drew = .ok l.toArray W.drew := by
    rw [hjs]
    rcases hl with ⟨c', e', rfl⟩ | ⟨b, o, c', n', arr, t', fr, e', g1, g2, _, g3, g4⟩
    · cases e'; simp [Builtin.firstCells]
    · cases e'
      refine run_firstCells_some W.drew ei.size n _ n c l g2 (fun i u hu => ?_)
      rw [add_none]
      have hW1 : W.drew.heap[b]? = some (.cells arr t' fr) := hW _ _ g1
      rw [cell_at hW1]
      exact g3 i u hu
  have hbk : k * ei.bytes ≤ 281474976710656 := Nat.le_trans (Nat.mul_le_mul_right _ (by omega)) hb
  have hrun := Lib.run_append_grow_zeros W t tn ty e j z .i64 kn hsl h1 hj hjz a n c l hold k h0 (by omega) hg (by omega) (by rw [hjb]; exact hbk) (by rw [hjb]; exact Nat.le_trans (Nat.mul_le_mul_right _ (nextcap_le hg)) hb)
  have hcap := grownCap_ge W (n + k) c e
  generalize grownCap W (n + k) c e = C at hrun hcap
  rw [hzc] at hrun
  exact ⟨[.v (.slice (some ⟨W.heap.size, 0, none⟩) (n + k) C)], _, _, hrun, (by intro y hy; simp at hy; subst hy; rfl), ⟨W.heap.size, C, hW.none (Nat.le_refl _), hcap, rfl, rfl⟩, (After.refl hW).drew.alloc _⟩
end
end Go.E

/-
  Bytes: room made; lists of bytes, one behind the other.
-/
namespace Go.E.Ytghdapflkhadoaa
open Go.Proofs
set_option maxRecDepth 100000
theorem hI : tt.get 3 = some ⟨.int .i64, 1, 8, [.one (.int .i64 0)], false⟩ := by rfl
/-- a list of bytes -/
structure Lists (m : Mem) (v : Value) (ps : List (Value × List Int)) : Prop where
  lies : Lies m 1 v (ps.map (·.1))
  la : ∀ p ∈ ps, La m p.1 p.2
theorem Lists.sub {m m' : Mem} {v : Value} {ps : List (Value × List Int)} (h : Lists m v ps) (hs : Sub m m') : Lists m' v ps := ⟨h.lies.sub hs, fun p hp => (h.la p hp).sub hs⟩
theorem Lists.shape {m : Mem} {v : Value} {ps : List (Value × List Int)} (h : Lists m v ps) : ∃ a c, v = .slice a ps.length c := by
  rcases h.lies with ⟨c, rfl, e⟩ | ⟨b, o, c, n, arr, t, fr, rfl, _, e, _⟩
  · have : ps.length = 0 := by simpa using congrArg List.length e
    exact ⟨none, c, by rw [this]⟩
  · have : ps.length = n := by simpa using e
    exact ⟨_, c, by rw [this]⟩
theorem Lists.real {m : Mem} {v : Value} {ps : List (Value × List Int)} (h : Lists m v ps) {i : Nat} (hi : i < ps.length) : ∃ b o c, v = .slice (some ⟨b, o, none⟩) ps.length c ∧ ∀ (i : Nat) (hi : i < ps.length), mcell m b (o + i) = some ps[i].1 := by
  rcases h.lies with ⟨c, rfl, e⟩ | ⟨b, o, c, n, arr, t, fr, rfl, g1, e, _, g2, _⟩
  · have : ps.length = 0 := by simpa using congrArg List.length e
    omega
  · have : ps.length = n := by simpa using e
    exact ⟨b, o, c, by rw [this], fun j hj => mcell_of g1 (g2 j _ (by simp [hj]))⟩
def catB (ps : List (Value × List Int)) : List Int := (ps.map (·.2)).flatten
theorem catB_take {ps : List (Value × List Int)} {i : Nat} (h : i < ps.length) : catB (ps.take i) ++ ps[i].2 = catB (ps.take (i + 1)) := by
  rw [List.take_succ_eq_append_getElem h, catB, catB, List.map_append, List.flatten_append]; simp
theorem catB_le {ps : List (Value × List Int)} (i : Nat) : (catB (ps.take i)).length ≤ (catB ps).length := by
  have e : catB ps = catB (ps.take i) ++ catB (ps.drop i) := by
    rw [catB, catB, catB, ← List.flatten_append, ← List.map_append, List.take_append_drop]
  rw [e, List.length_append]; omega
theorem iadd' {i : Nat} (h : i < 1000000000000) : IntKind.i64.wrap ((i : Int) + 1) = ((i + 1 : Nat) : Int) := by rw [wi (by omega) (by omega)]; omega
theorem Lists.blk {m : Mem} {b n : Nat} {ps : List (Value × List Int)} {t : TypeId} {fr : Nat × Nat} (h : m b = some (.cells (ps.map (·.1)).toArray t fr)) (hn : ps.length = n) (hl : ∀ p ∈ ps, La m p.1 p.2) : Lists m (.slice (some ⟨b, 0, none⟩) n n) ps := by
  refine ⟨.inr ⟨b, 0, n, n, _, _, _, rfl, h, by simp [hn], Nat.le_refl _, fun j u hu => by simpa using hu, fun u hu => ?_⟩, fun p hp => hl p hp⟩
  obtain ⟨p, hp, rfl⟩ := List.mem_map.1 hu
  exact (hl p hp).one
theorem Lists.one {m : Mem} {b : Nat} {v : Value} {l : List Int} {t : TypeId} {fr : Nat × Nat} (h : m b = some (.cells #[v] t fr)) (hl : La m v l) : Lists m (.slice (some ⟨b, 0, none⟩) 1 1) [(v, l)] :=
  Lists.blk (ps := [(v, l)]) h rfl (by simpa using hl)
theorem Lists.two {m : Mem} {b : Nat} {v w : Value} {l k : List Int} {t : TypeId} {fr : Nat × Nat} (h : m b = some (.cells #[v, w] t fr)) (hl : La m v l) (hk : La m w k) : Lists m (.slice (some ⟨b, 0, none⟩) 2 2) [(v, l), (w, k)] :=
  Lists.blk (ps := [(v, l), (w, k)]) h rfl (by simpa using ⟨hl, hk⟩)
theorem Lists.three {m : Mem} {b : Nat} {v w u : Value} {l k j : List Int} {t : TypeId} {fr : Nat × Nat} (h : m b = some (.cells #[v, w, u] t fr)) (hl : La m v l) (hk : La m w k) (hj : La m u j) : Lists m (.slice (some ⟨b, 0, none⟩) 3 3) [(v, l), (w, k), (u, j)] :=
  Lists.blk (ps := [(v, l), (w, k), (u, j)]) h rfl (by simpa using ⟨hl, hk, hj⟩)
theorem Lists.own {m p : Mem} {y : Value} {ps : List (Value × List Int)} (hy : Own p 34 1 y (ps.map (·.1))) (hs : Sub p m) (hl : ∀ q ∈ ps, La m q.1 q.2) : Lists m y ps :=
  ⟨hy.lies.sub hs, fun q hq => hl q hq⟩
end Go.E.Ytghdapflkhadoaa

/-
  More operations: the bytes of a text that is no constant.
-/
namespace Go.E
/-- the bytes of a text, as numbers -/
def chs (s : ByteArray) : List Nat := s.data.toList.map UInt8.toNat
theorem chs_len (s : ByteArray) : (chs s).length = s.size := by simp [chs]
theorem chs_lt (s : ByteArray) : ∀ x ∈ chs s, x < 256 := by
  intro x hx
  simp only [chs, List.mem_map] at hx
  obtain ⟨a, _, rfl⟩ := hx
  exact a.toNat_lt
section
variable {P : Program} {T : Tab}
theorem convStr_spec (hT : TabOk P T) {t t' e : TypeId} {ti' ti ei : TI} (ht' : T t' = some ti') (ht : T t = some ti) (hk : ti.k = .slice e) (he : T e = some ei) (hek : ei.k = .int .u8) {m : Mem} {s : ByteArray} :
    PrimSpec P (.conv t' t) [.v (.string s)] m fun r m' => ∃ b c o, m b = none ∧ r = [.v (.slice (some ⟨b, 0, none⟩) s.size c)] ∧ m' = m.set b o ∧ Lb m' (.slice (some ⟨b, 0, none⟩) s.size c) ((chs s).map fun (n : Nat) => (n : Int)) := by
  intro hok ty W hW
  have hu := (hT t ti ht).slice hk
  have hue : P.underlying e = some (.int .u8) := by
    obtain ⟨d, h1, h2⟩ := (hT e ei he).desc
    rw [hek] at h2
    cases d <;> simp [TK.of] at h2
    rw [h1, h2]
  obtain ⟨d', hs, _⟩ := (hT t' ti' ht').desc
  have hr := Lib.run_convert_string_bytes (P := P) W t' t e s hs hu hue
  have hsz := Lib.bytesWorld_size W e s
  refine ⟨_, m.set W.heap.size (.cells (Lib.bytesCells W e s) e ((Lib.bytesCells W e s).size, (Lib.bytesCells W e s).size + 1)), Lib.bytesWorld W e s, ?_, ?_, ⟨W.heap.size, grownCap W s.size 0 e, _, hW.none (Nat.le_refl _), rfl, rfl, ?_⟩, ?_⟩
  · simpa [Prim.run, Prim.out, Prim.tup, cond_false, resVal, CV.val] using hr
  · intro x hx
    simp at hx; subst hx; rfl
  · have hcap := grownCap_ge W s.size 0 e
    refine Lb.mk (Mem.set_same ..) (by simp [chs]) hcap (fun j n hj => ?_)
    rw [List.getElem?_map] at hj
    obtain ⟨x, hx, rfl⟩ := Option.map_eq_some_iff.1 hj
    simp only [chs, List.getElem?_map] at hx
    obtain ⟨y, hy, rfl⟩ := Option.map_eq_some_iff.1 hx
    have hl := (List.getElem?_eq_some_iff.1 hy).1
    rw [Nat.zero_add, Lib.bytesCells, Array.getElem?_append_left (by simpa using hl), Array.getElem?_map]
    rw [← Array.getElem?_toList, hy]; rfl
  · refine ⟨?_, by rw [hsz]; omega, rfl, rfl, rfl, ?_⟩
    · intro x u hx
      by_cases ex : x = W.heap.size
      · subst ex; rw [Mem.set_same] at hx; cases hx; exact Lib.bytesWorld_at_new W e s
      · rw [Mem.set_ne _ _ ex] at hx
        rw [Lib.bytesWorld_at_old W e s x (hW.lt hx)]; exact hW _ _ hx
    · intro x hx hm
      exact ⟨by rw [Mem.set_ne _ _ (by omega)]; exact hm, Lib.bytesWorld_at_old W e s x hx⟩
end
end Go.E

/-
  Calls that the model answers itself: numbers that are loaded and added to, whole.
-/
namespace Go.E
section
variable {P : Program} {f : FuncId} {fn : Func}
theorem xext {args : List CV} {m : Mem} {R K : List CV → Mem → Prop} (h : ExtSpec P f args m R) (k : ∀ r m', R r m' → K r m') : XCall P f args m K := .ext R h k
theorem ext_load (hf : P.funcs[f]? = some fn) (hname : (fn.name == "runtime.NumGoroutine") = false) (hb : fn.body.isNone = true) (hn : Extern.findNext fn = none) (k : IntKind)
    (he : Extern.find fn = some (Extern.Atomic.loadT (.int k))) {m : Mem} {b off : Nat} {x : Int} (hc : mcell m b off = some (.int k x)) :
    ExtSpec P f [.v (.pointer (some ⟨b, off, none⟩))] m fun r m' => r = [.v (.int k x)] ∧ m' = m := by
  intro _ W hW
  have hcell : W.cell? ⟨b, off, none⟩ = some (.int k x) := by
    unfold mcell at hc
    cases hm : m b with
    | none => simp [hm] at hc
    | some o =>
      cases o with
      | cells arr t fr =>
        simp only [hm] at hc
        rw [cell_at (hW _ _ hm)]; exact hc
      | _ => simp [hm] at hc
  exact ⟨[.v (.int k x)], m, W, run_call_load hf hname hb hn k he hcell, (by intro y hy; simp at hy; subst hy; rfl), ⟨rfl, rfl⟩, After.refl hW⟩
theorem ext_add (hf : P.funcs[f]? = some fn) (hname : (fn.name == "runtime.NumGoroutine") = false) (hb : fn.body.isNone = true) (hn : Extern.findNext fn = none)
    (he : Extern.find fn = some (Extern.Atomic.update (Op.intArith .add) .u64 true)) {m : Mem} {b off : Nat} {x y : Int} {arr : Array Value} {t : TypeId} (hm : m b = some (.cells arr t (0, 0))) (hx : arr[off]? = some (.int .u64 x)) :
    ExtSpec P f [.v (.pointer (some ⟨b, off, none⟩)), .v (.int .u64 y)] m fun r m' => r = [.v (.int .u64 (IntKind.u64.wrap (x + y)))] ∧ m' = m.set b (.cells (arr.setIfInBounds off (.int .u64 (IntKind.u64.wrap (x + y)))) t (0, 0)) := by
  intro _ W hW
  have hg := hW _ _ hm
  have hcell : W.cell? ⟨b, off, none⟩ = some (.int .u64 x) := by rw [cell_at hg]; exact hx
  have hz : W.frozen? ⟨b, off, none⟩ = false := by simp [World.frozen?, hg]
  have hset : W.setCell ⟨b, off, none⟩ (.int .u64 (IntKind.u64.wrap (x + y))) = W.setRow b (arr.setIfInBounds off (.int .u64 (IntKind.u64.wrap (x + y)))) := setCell_eq_setRow W b off arr t (0, 0) _ hg
  have hs : (Op.intArith .add .u64 x y).run P W = .ok (.int .u64 (IntKind.u64.wrap (x + y))) W := by simp [Op.intArith]
  have hr := run_call_add hf hname hb hn .u64 he hcell hz hs
  rw [hset] at hr
  exact ⟨[.v (.int .u64 (IntKind.u64.wrap (x + y)))], _, _, hr, (by intro y hy; simp at hy; subst hy; rfl), ⟨rfl, rfl⟩, (After.refl hW).setRow hm _⟩
end
end Go.E

/-
  More operations: copy and clear of elements of any size; slices.overlaps.
-/
namespace Go.E
section
variable {P : Program} {T : Tab}
theorem take_mul_len {α : Type} {l : List α} {k n s : Nat} (h : l.length = k * s) : (l.take (n * s)).length = min k n * s := by
  rw [List.length_take, h]
  rcases Nat.le_total k n with h1 | h1
  · rw [Nat.min_eq_left h1, Nat.min_eq_right (Nat.mul_le_mul_right _ h1)]
  · rw [Nat.min_eq_right h1, Nat.min_eq_left (Nat.mul_le_mul_right _ h1)]
/-- copy of whole elements -/
theorem copyN_spec (hT : TabOk P T) {t e tx : TypeId} {ti ei : TI} (ht : T t = some ti) (hk : ti.k = .slice e) (he : T e = some ei) {m : Mem} {b o n c : Nat} {arr : Array Value} {te : TypeId} (hb : m b = some (.cells arr te)) (hfit : o + n * ei.size ≤ arr.size)
    {x : Value} {news : List Value} (hx : Lies m ei.size x news) :
    PrimSpec P (.builtin .copy [t, tx]) [.v (.slice (some ⟨b, o, none⟩) n c), .v x] m fun r m' => r = [.v (.int .i64 ((min (lenV x) n : Nat) : Int))] ∧ m' = m.set b (.cells (arr.toList.take o ++ news.take (n * ei.size) ++ arr.toList.drop (o + (news.take (n * ei.size)).length)).toArray te) := by
  intro hok ty W hW
  obtain ⟨j, hj, hjs, _⟩ := (hT e ei he).inf
  have hu := (hT t ti ht).slice hk
  have hWb := hW _ _ hb
  rcases hx with ⟨c', rfl, rfl⟩ | ⟨b', o', c', n', arr', t', fr', rfl, h1, h2, h3, h4, h5⟩
  · refine ⟨[.v (.int .i64 0)], _, W, ?_, ?_, ⟨by simp [lenV], rfl⟩, ?_⟩
    · simp [Prim.run, Prim.out, Prim.tup, cond_false, CV.val, resVal, Builtin.copy_, run_underlying hu, Builtin.lenOf, Builtin.firstCells, sizeOf, typeInfo, hj, storeCells]
      rfl
    · intro y hy; simp at hy; subst hy; rfl
    · simp only [List.take_nil, List.append_nil, List.length_nil, Nat.add_zero, List.take_append_drop, Array.toArray_toList]
      rw [Mem.set_same_eq hb]
      exact After.refl hW
  · have hlen : (news.take (n * ei.size)).length = min n' n * ei.size := take_mul_len h2
    have hld := run_loadCells_list (P := P) W ⟨b', o', none⟩ (news.take (n * ei.size)) (fun j v hv => by
      rw [add_none, cell_at (hW _ _ h1)]
      refine h4 j v ?_
      have hl := (List.getElem?_eq_some_iff.1 hv).1
      rw [hlen] at hl
      rw [List.getElem?_take] at hv
      split at hv
      · exact hv
      · cases hv)
    rw [hlen] at hld
    have hst := run_storeCells_at P b o te (news.take (n * ei.size)) 0 arr W hWb (by rw [hlen]; have := Nat.mul_le_mul_right ei.size (Nat.min_le_right n' n); omega) (fun v hv => h5 v (List.mem_of_mem_take hv))
    refine ⟨[.v (.int .i64 ((min n' n : Nat) : Int))], _, _, ?_, ?_, ⟨rfl, rfl⟩, (After.refl hW).setRow hb _⟩
    · simp only [Prim.run, Prim.out, Prim.tup, cond_false, List.map_cons, List.map_nil, CV.val, resVal]
      have hm : Nat.min n' n = min n' n := rfl
      simp only [Nat.add_zero] at hst
      simp [Builtin.copy_, run_underlying hu, Builtin.lenOf, Builtin.firstCells, sizeOf, typeInfo, hj, hjs, hm, hld, hst]
      rfl
    · intro y hy; simp at hy; subst hy; rfl
/-- copy of whole elements, of which as many are known as are copied -/
theorem copyP_spec (hT : TabOk P T) {t e tx : TypeId} {ti ei : TI} (ht : T t = some ti) (hk : ti.k = .slice e) (he : T e = some ei) {m : Mem} {b o n c b' o' n' c' : Nat} {arr arr' : Array Value} {te t' : TypeId} {fr' : Nat × Nat} (hb : m b = some (.cells arr te)) (hfit : o + min n' n * ei.size ≤ arr.size)
    {news : List Value} (hb' : m b' = some (.cells arr' t' fr')) (hlen : news.length = min n' n * ei.size) (h4 : ∀ j u, news[j]? = some u → arr'[o' + j]? = some u) (h5 : ∀ u ∈ news, u.oneCell' = true) :
    PrimSpec P (.builtin .copy [t, tx]) [.v (.slice (some ⟨b, o, none⟩) n c), .v (.slice (some ⟨b', o', none⟩) n' c')] m fun r m' => r = [.v (.int .i64 ((min n' n : Nat) : Int))] ∧ m' = m.set b (.cells (arr.toList.take o ++ (news ++ arr.toList.drop (o + news.length))).toArray te) := by
  intro hok ty W hW
  obtain ⟨j, hj, hjs, _⟩ := (hT e ei he).inf
  have hu := (hT t ti ht).slice hk
  have hWb := hW _ _ hb
  have hld := run_loadCells_list (P := P) W ⟨b', o', none⟩ news (fun j v hv => by rw [add_none, cell_at (hW _ _ hb')]; exact h4 j v hv)
  rw [hlen] at hld
  have hst := run_storeCells_at P b o te news 0 arr W hWb (by rw [hlen]; omega) h5
  refine ⟨[.v (.int .i64 ((min n' n : Nat) : Int))], _, _, ?_, ?_, ⟨rfl, rfl⟩, (After.refl hW).setRow hb _⟩
  · simp only [Prim.run, Prim.out, Prim.tup, cond_false, List.map_cons, List.map_nil, CV.val, resVal]
    have hm : Nat.min n' n = min n' n := rfl
    simp only [Nat.add_zero, List.append_assoc] at hst
    simp [Builtin.copy_, run_underlying hu, Builtin.lenOf, Builtin.firstCells, sizeOf, typeInfo, hj, hjs, hm, hld, hst]
    rfl
  · intro y hy; simp at hy; subst hy; rfl
/-- clear of no elements -/
theorem clear0_spec (hT : TabOk P T) {t e : TypeId} {ti : TI} (ht : T t = some ti) (hk : ti.k = .slice e) {m : Mem} {a : Option Addr} {c : Nat} :
    PrimSpec P (.builtin .clear [t]) [.v (.slice a 0 c)] m fun r m' => r = [] ∧ m' = m := by
  intro hok ty W hW
  have hu := (hT t ti ht).slice hk
  refine ⟨[], m, W, ?_, (by intro y hy; cases hy), ⟨rfl, rfl⟩, After.refl hW⟩
  cases a <;> simp [Prim.run, Prim.out, Prim.tup, cond_false, CV.val, resVal, Builtin.clear_, run_underlying hu]
/-- clear of elements -/
theorem clearN_spec (hT : TabOk P T) {t e : TypeId} {ti ei : TI} (ht : T t = some ti) (hk : ti.k = .slice e) (he : T e = some ei) (hz : (LB.cells ei.zero).length = ei.size) (hone : ∀ u ∈ LB.cells ei.zero, u.oneCell' = true) {m : Mem} {b o n c : Nat} {arr : Array Value} {te : TypeId} (hb : m b = some (.cells arr te)) (hn : 0 < n) (hfit : o + n * ei.size ≤ arr.size) :
    PrimSpec P (.builtin .clear [t]) [.v (.slice (some ⟨b, o, none⟩) n c)] m fun r m' => r = [] ∧ ∃ zs, zs.length = n * ei.size ∧ (∀ u ∈ zs, u.oneCell' = true) ∧ m' = m.set b (.cells (arr.toList.take o ++ zs ++ arr.toList.drop (o + n * ei.size)).toArray te) := by
  intro hok ty W hW
  obtain ⟨j, hj, hjs, _, z, hjz, hzc⟩ := (hT e ei he).inf
  have hu := (hT t ti ht).slice hk
  have hWb := hW _ _ hb
  have hzsz : z.cells.size = ei.size := by rw [hzc]; simpa using hz
  have hzl : (Builtin.zeroCells z.cells n).toList.length = n * ei.size := by rw [Array.length_toList, zeroCells_size, hzsz]
  have hzo : ∀ u ∈ (Builtin.zeroCells z.cells n).toList, u.oneCell' = true := by
    intro u hu
    rw [Array.mem_toList_iff, Builtin.zeroCells, Array.mem_map] at hu
    obtain ⟨i, hi, rfl⟩ := hu
    have hi2 := Array.mem_range.1 hi
    have hlt : i % z.cells.size < z.cells.size := Nat.mod_lt _ (by rcases Nat.eq_zero_or_pos z.cells.size with h | h; simp [h] at hi2; exact h)
    refine hone _ ?_
    have : z.cells[i % z.cells.size]! ∈ z.cells.toList := by
      rw [Array.mem_toList_iff, getElem!_pos z.cells _ hlt]; exact Array.getElem_mem hlt
    rw [hzc] at this ⊢
    exact this
  have hst := run_storeCells_at P b o te (Builtin.zeroCells z.cells n).toList 0 arr W hWb (by rw [hzl]; omega) hzo
  simp only [Nat.add_zero] at hst
  obtain ⟨k, rfl⟩ : ∃ k, n = k + 1 := ⟨n - 1, by omega⟩
  have hzv : (zeroValue e).run P W = .ok z W := by simp [zeroValue, typeInfo, hj, hjz]
  rw [hzl] at hst
  refine ⟨[], _, _, ?_, (by intro y hy; cases hy), ⟨rfl, (Builtin.zeroCells z.cells (k + 1)).toList, hzl, hzo, rfl⟩, (After.refl hW).setRow hb _⟩
  simp only [Prim.run, Prim.out, Prim.tup, cond_false, List.map_cons, List.map_nil, CV.val, resVal]
  simp [Builtin.clear_, run_underlying hu, hzv, hst]
/-- slices.overlaps: two blocks, the first of which is plain -/
theorem ext_apart {f : FuncId} {fn : Func} (hT : TabOk P T) (hf : P.funcs[f]? = some fn) (hname : (fn.name == "runtime.NumGoroutine") = false) (hb : fn.body.isNone = true) (hn : Extern.findNext fn = none)
    {t tr e : TypeId} {ti ei : TI} (ht : T t = some ti) (hk : ti.k = .slice e) (he : T e = some ei) (hx : Extern.find fn = some (Extern.SlicesOverlaps.overlaps #[t, t] #[tr]))
    {m : Mem} {b b' o o' n n' c c' : Nat} {arr arr' : Array Value} {te te' : TypeId} {fr' : Nat × Nat} (h1 : m b = some (.cells arr te)) (h2 : m b' = some (.cells arr' te' fr')) (hne : b ≠ b') (hpos : arr'.size ≠ 0) :
    ExtSpec P f [.v (.slice (some ⟨b, o, none⟩) n c), .v (.slice (some ⟨b', o', none⟩) n' c')] m fun r m' => r = [.v (.bool false)] ∧ m' = m := by
  intro _ W hW
  obtain ⟨j, hj, hjs, _⟩ := (hT e ei he).inf
  have hu := (hT t ti ht).slice hk
  have g1 := hW _ _ h1
  have g2 := hW _ _ h2
  have hr := Lib.run_overlaps_apart (P := P) W t tr e hu j.size (fun w => by simp [sizeOf, typeInfo, hj]) ⟨b, o, none⟩ ⟨b', o', none⟩ n c n' c' hne te te' arr.size arr'.size
    (by unfold World.shape?; rw [g1]) (by unfold World.shape?; rw [g2]) hpos (by simp [World.frozen?, g1]) (by simp [World.frozen?, g1])
  exact ⟨[.v (.bool false)], m, W, by simp only [List.map_cons, List.map_nil, CV.val, resVal]; rw [run_callFunc_extern hf hname hb hn hx]; exact congrArg (fun r : Result Value => r.andThen fun v w' => Result.ok (Next.value v) w') hr, (by intro y hy; simp at hy; subst hy; rfl), ⟨rfl, rfl⟩, After.refl hW⟩
end
end Go.E

/-
  Lists of elements of any one size, laid one behind the other.
-/
namespace Go.E
section
variable {α : Type} {enc : α → List Value} {s : Nat}
/-- each element has this many cells, of one cell each -/
structure EncOk (enc : α → List Value) (s : Nat) : Prop where
  len : ∀ x, (enc x).length = s
  one : ∀ x, ∀ u ∈ enc x, u.oneCell' = true
  pos : 0 < s
theorem EncOk.flen (h : EncOk enc s) : ∀ (E : List α), (E.flatMap enc).length = E.length * s
  | [] => by simp
  | x :: E => by rw [List.flatMap_cons, List.length_append, h.len, h.flen E, List.length_cons, Nat.succ_mul]; omega
theorem EncOk.fone (h : EncOk enc s) {E : List α} : ∀ u ∈ E.flatMap enc, u.oneCell' = true := fun u hu => by
  obtain ⟨x, _, hx⟩ := List.mem_flatMap.1 hu
  exact h.one x u hx
theorem EncOk.at (h : EncOk enc s) : ∀ {E : List α} {i j : Nat} {u : Value} (hi : i < E.length), (enc E[i])[j]? = some u → (E.flatMap enc)[i * s + j]? = some u
  | x :: E, 0, j, u, _, hu => by
    have hl := (List.getElem?_eq_some_iff.1 hu).1
    rw [List.flatMap_cons, List.getElem?_append_left (by simpa using hl)]
    simpa using hu
  | x :: E, i + 1, j, u, hi, hu => by
    have ih := h.at (E := E) (i := i) (j := j) (u := u) (by simpa using hi) (by simpa using hu)
    rw [List.flatMap_cons, List.getElem?_append_right (by rw [h.len, Nat.succ_mul]; omega), h.len, Nat.succ_mul, show i * s + s + j - s = i * s + j by omega]
    exact ih
theorem EncOk.take (h : EncOk enc s) : ∀ (E : List α) (i : Nat), (E.flatMap enc).take (i * s) = (E.take i).flatMap enc
  | [], i => by simp
  | x :: E, 0 => by simp
  | x :: E, i + 1 => by
    rw [List.flatMap_cons, List.take_succ_cons, List.flatMap_cons, Nat.succ_mul, List.take_append, h.len, List.take_of_length_le (by rw [h.len]; omega), show i * s + s - s = i * s by omega, h.take E i]
theorem EncOk.drop (h : EncOk enc s) : ∀ (E : List α) (i : Nat), (E.flatMap enc).drop (i * s) = (E.drop i).flatMap enc
  | [], i => by simp
  | x :: E, 0 => by simp
  | x :: E, i + 1 => by
    rw [List.flatMap_cons, List.drop_succ_cons, Nat.succ_mul, List.drop_append, h.len, List.drop_of_length_le (by rw [h.len]; omega), List.nil_append, show i * s + s - s = i * s by omega, h.drop E i]
theorem EncOk.count (h : EncOk enc s) {E : List α} {n : Nat} (e : (E.flatMap enc).length = n * s) : E.length = n := by
  rw [h.flen] at e
  exact Nat.eq_of_mul_eq_mul_right h.pos e
theorem EncOk.shape (h : EncOk enc s) {m : Mem} {v : Value} {E : List α} (hl : Lies m s v (E.flatMap enc)) : ∃ a c, v = .slice a E.length c := by
  rcases hl with ⟨c, rfl, e⟩ | ⟨b, o, c, n, arr, t, fr, rfl, _, e, _⟩
  · have : E.length = 0 := h.count (n := 0) (by rw [e]; simp)
    exact ⟨none, c, by rw [this]⟩
  · exact ⟨_, c, by rw [h.count e]⟩
theorem EncOk.real (h : EncOk enc s) {m : Mem} {v : Value} {E : List α} (hl : Lies m s v (E.flatMap enc)) {i : Nat} (hi : i < E.length) : ∃ b o c, v = .slice (some ⟨b, o, none⟩) E.length c ∧ ∀ j (hj : j < E.length), MRange m b (o + j * s) (enc E[j]) := by
  rcases hl with ⟨c, rfl, e⟩ | ⟨b, o, c, n, arr, t, fr, rfl, g1, e, _, g2, _⟩
  · have : E.length = 0 := h.count (n := 0) (by rw [e]; simp)
    omega
  · refine ⟨b, o, c, by rw [h.count e], fun j hj => ⟨arr, t, fr, g1, fun k u hu => ?_⟩⟩
    rw [Nat.add_assoc]
    exact g2 _ _ (h.at hj hu)
/-- an owned slice that is not nil, and its row -/
theorem EncOk.row (h : EncOk enc s) {p : Mem} {T : TypeId} {b o n c : Nat} {E : List α} (hl : Own p T s (.slice (some ⟨b, o, none⟩) n c) (E.flatMap enc)) : ∃ arr, p b = some (.cells arr T (0, 0)) ∧ E.length = n ∧ n ≤ c ∧ o + c * s ≤ arr.size ∧ (∀ j u, (E.flatMap enc)[j]? = some u → arr[o + j]? = some u) := by
  rcases hl with ⟨e, _⟩ | ⟨b', o', c', n', arr, e, h1, h2, h3, h4, h5, _⟩
  · cases e
  · cases e
    exact ⟨arr, h1, h.count h2, h3, h4, h5⟩
theorem EncOk.mk' (h : EncOk enc s) {p : Mem} {T : TypeId} {b o n c : Nat} {arr : Array Value} {E : List α} (h1 : p b = some (.cells arr T (0, 0))) (h2 : E.length = n) (h3 : n ≤ c) (h4 : o + c * s ≤ arr.size) (h5 : ∀ j u, (E.flatMap enc)[j]? = some u → arr[o + j]? = some u) : Own p T s (.slice (some ⟨b, o, none⟩) n c) (E.flatMap enc) :=
  .inr ⟨b, o, c, n, arr, rfl, h1, by rw [h.flen, h2], h3, h4, h5, h.fone⟩
/-- a beginning of an owned slice -/
theorem EncOk.cut (h : EncOk enc s) {p : Mem} {T : TypeId} {b o n c : Nat} {E : List α} (hl : Own p T s (.slice (some ⟨b, o, none⟩) n c) (E.flatMap enc)) {i : Nat} (hi : i ≤ n) : Own p T s (.slice (some ⟨b, o, none⟩) i c) ((E.take i).flatMap enc) := by
  obtain ⟨arr, h1, h2, h3, h4, h5⟩ := h.row hl
  refine h.mk' h1 (by rw [List.length_take]; omega) (by omega) h4 fun j u hu => h5 j u ?_
  rw [← h.take] at hu
  rw [List.getElem?_take] at hu
  split at hu
  · exact hu
  · cases hu
/-- a beginning of a slice -/
theorem EncOk.pre (h : EncOk enc s) {m : Mem} {b o n c c' : Nat} {E : List α} (hl : Lies m s (.slice (some ⟨b, o, none⟩) n c) (E.flatMap enc)) {i : Nat} (hi : i ≤ n) (hc : i ≤ c' := by omega) : Lies m s (.slice (some ⟨b, o, none⟩) i c') ((E.take i).flatMap enc) := by
  rcases hl with ⟨c', e, _⟩ | ⟨b', o2, c2, n', arr, t, fr, e, g1, g2, g3, g4, g5⟩
  · cases e
  · cases e
    refine .inr ⟨b, o, c', i, arr, t, fr, rfl, g1, by rw [h.flen, List.length_take, h.count g2, Nat.min_eq_left hi], hc, fun j u hu => g4 j u ?_, h.fone⟩
    rw [← h.take, List.getElem?_take] at hu
    split at hu
    · exact hu
    · cases hu
/-- how much room there is, at least -/
theorem lies_cap {m : Mem} {a : Option Addr} {n c : Nat} {l : List Value} (hp : 0 < s) (hl : Lies m s (.slice a n c) l) : n ≤ c ∨ n = 0 := by
  rcases hl with ⟨c', e, h⟩ | ⟨b', o2, c2, n', arr, t, fr, e, g1, g2, g3, g4, g5⟩
  · cases e; exact .inr rfl
  · cases e; exact .inl g3
/-- what a store of one element's cells at a place leaves -/
theorem put_cells {arr : Array Value} {cs : List Value} {a j : Nat} {u : Value} (hfit : a + cs.length ≤ arr.size) : (arr.toList.take a ++ (cs ++ arr.toList.drop (a + cs.length))).toArray[j]? = some u ↔ if j < a then arr[j]? = some u else if j < a + cs.length then cs[j - a]? = some u else arr[j]? = some u := by
  rw [List.getElem?_toArray]
  have hl : (arr.toList.take a).length = a := by rw [List.length_take, Array.length_toList]; omega
  by_cases h1 : j < a
  · rw [if_pos h1, List.getElem?_append_left (by omega), List.getElem?_take, if_pos h1, Array.getElem?_toList]
  · rw [if_neg h1, List.getElem?_append_right (by omega), hl]
    by_cases h2 : j < a + cs.length
    · rw [if_pos h2, List.getElem?_append_left (by omega)]
    · rw [if_neg h2, List.getElem?_append_right (by omega), List.getElem?_drop, Array.getElem?_toList, show a + cs.length + (j - a - cs.length) = j by omega]
theorem EncOk.set (h : EncOk enc s) {p : Mem} {T : TypeId} {b o n c : Nat} {E : List α} (hl : Own p T s (.slice (some ⟨b, o, none⟩) n c) (E.flatMap enc)) {i : Nat} (hi : i < E.length) (x : α) :
    ∃ arr, p b = some (.cells arr T (0, 0)) ∧ o + i * s + s ≤ arr.size ∧ Own (p.set b (.cells (arr.toList.take (o + i * s) ++ (enc x ++ arr.toList.drop (o + i * s + s))).toArray T (0, 0))) T s (.slice (some ⟨b, o, none⟩) n c) ((E.set i x).flatMap enc) := by
  obtain ⟨arr, h1, h2, h3, h4, h5⟩ := h.row hl
  have hmul : i * s + s ≤ c * s := by rw [← Nat.succ_mul]; exact Nat.mul_le_mul_right _ (by omega)
  refine ⟨arr, h1, by omega, h.mk' (Mem.set_same ..) (by rw [List.length_set]; omega) h3 ?_ fun j u hu => ?_⟩
  · simp only [List.size_toArray, List.length_append, List.length_take, List.length_drop, Array.length_toList, h.len]; omega
  · have hp := put_cells (arr := arr) (cs := enc x) (a := o + i * s) (j := o + j) (u := u) (by rw [h.len]; omega)
    rw [h.len] at hp
    rw [hp]
    have hjl := (List.getElem?_eq_some_iff.1 hu).1
    rw [h.flen, List.length_set] at hjl
    -- the element in which j lies
    have hs := h.pos
    have hq : j / s < E.length := Nat.div_lt_of_lt_mul (by rw [Nat.mul_comm]; exact hjl)
    have hjd : j = j / s * s + j % s := by rw [Nat.mul_comm]; exact (Nat.div_add_mod j s).symm
    have hml := Nat.mod_lt j hs
    have key : ∀ (F : List α) (hF : j / s < F.length), (F.flatMap enc)[j]? = (enc F[j / s])[j % s]? := fun F hF => by
      cases hx : (enc F[j / s])[j % s]? with
      | none => have := List.getElem?_eq_none_iff.1 hx; rw [h.len] at this; omega
      | some w => have := h.at hF hx; rw [← hjd] at this; exact this
    rw [key _ (by rw [List.length_set]; exact hq)] at hu
    by_cases e : j / s = i
    · subst e
      rw [List.getElem_set_self] at hu
      rw [if_neg (by omega), if_pos (by omega), show o + j - (o + j / s * s) = j % s by omega]
      exact hu
    · rw [List.getElem_set_ne (Ne.symm e)] at hu
      have h5' := h5 j u (by rw [key _ hq]; exact hu)
      by_cases hlt : j / s < i
      · have : j / s * s + s ≤ i * s := by rw [← Nat.succ_mul]; exact Nat.mul_le_mul_right _ hlt
        rw [if_pos (by omega)]; exact h5'
      · have : i * s + s ≤ j / s * s := by rw [← Nat.succ_mul]; exact Nat.mul_le_mul_right _ (by omega)
        rw [if_neg (by omega), if_neg (by omega)]; exact h5'
/-- the rest of a slice, from an element on -/
theorem EncOk.post (h : EncOk enc s) {m : Mem} {b o n c : Nat} {E : List α} (hl : Lies m s (.slice (some ⟨b, o, none⟩) n c) (E.flatMap enc)) {i : Nat} (hi : i ≤ n) {o' : Nat} (ho : i < n → o' = o + i * s) : Lies m s (.slice (some ⟨b, o', none⟩) (n - i) (c - i)) ((E.drop i).flatMap enc) := by
  rcases hl with ⟨c', e, _⟩ | ⟨b', o2, c', n', arr, t, fr, e, g1, g2, g3, g4, g5⟩
  · cases e
  · cases e
    have hn := h.count g2
    refine .inr ⟨b, o', c - i, n - i, arr, t, fr, rfl, g1, by rw [h.flen, List.length_drop, hn], by omega, fun j u hu => ?_, h.fone⟩
    have hjl := (List.getElem?_eq_some_iff.1 hu).1
    rw [h.flen, List.length_drop, hn] at hjl
    have hlt : i < n := by
      by_cases e : i < n
      · exact e
      · rw [show n - i = 0 by omega] at hjl; simp at hjl
    rw [← h.drop, List.getElem?_drop] at hu
    have := g4 _ _ hu
    rw [ho hlt, Nat.add_assoc]; exact this
end
theorem Split.grow {m m' : Mem} {l : List Mem} (h : Split m l) (hs : Sub m m') : Split m' l := ⟨h.1.trans hs, h.2⟩
/-- a row has these cells from a place on -/
def RowHas (arr : Array Value) (o : Nat) (l : List Value) : Prop := ∀ j u, l[j]? = some u → arr[o + j]? = some u
theorem RowHas.append {arr : Array Value} {o : Nat} {a b : List Value} (ha : RowHas arr o a) (hb : RowHas arr (o + a.length) b) : RowHas arr o (a ++ b) := fun j u hu => by
  by_cases h : j < a.length
  · rw [List.getElem?_append_left h] at hu; exact ha j u hu
  · rw [List.getElem?_append_right (by omega)] at hu
    have := hb _ _ hu
    rw [show o + a.length + (j - a.length) = o + j by omega] at this
    exact this
theorem RowHas.left {arr : Array Value} {o : Nat} {a b : List Value} (h : RowHas arr o (a ++ b)) : RowHas arr o a := fun j u hu => h j u (by rw [List.getElem?_append_left (List.getElem?_eq_some_iff.1 hu).1]; exact hu)
theorem RowHas.right {arr : Array Value} {o : Nat} {a b : List Value} (h : RowHas arr o (a ++ b)) : RowHas arr (o + a.length) b := fun j u hu => by
  rw [Nat.add_assoc]
  exact h (a.length + j) u (by rw [List.getElem?_append_right (by omega), show a.length + j - a.length = j by omega]; exact hu)
theorem RowHas.putSame {arr : Array Value} {a : Nat} {cs : List Value} (hfit : a + cs.length ≤ arr.size) : RowHas (arr.toList.take a ++ (cs ++ arr.toList.drop (a + cs.length))).toArray a cs := fun j u hu => by
  have hl := (List.getElem?_eq_some_iff.1 hu).1
  rw [put_cells hfit, if_neg (by omega), if_pos (by omega), show a + j - a = j by omega]; exact hu
theorem RowHas.putOther {arr : Array Value} {a o : Nat} {cs l : List Value} (h : RowHas arr o l) (hfit : a + cs.length ≤ arr.size) (hd : o + l.length ≤ a ∨ a + cs.length ≤ o) : RowHas (arr.toList.take a ++ (cs ++ arr.toList.drop (a + cs.length))).toArray o l := fun j u hu => by
  have hl := (List.getElem?_eq_some_iff.1 hu).1
  rw [put_cells hfit]
  rcases hd with hd | hd
  · rw [if_pos (by omega)]; exact h j u hu
  · rw [if_neg (by omega), if_neg (by omega)]; exact h j u hu
theorem put_size {arr : Array Value} {a : Nat} {cs : List Value} (hfit : a + cs.length ≤ arr.size) : (arr.toList.take a ++ (cs ++ arr.toList.drop (a + cs.length))).toArray.size = arr.size := by
  simp only [List.size_toArray, List.length_append, List.length_take, List.length_drop, Array.length_toList]; omega
/-- a store over the whole of a new block -/
theorem storeAll {mm : Mem} {b : Nat} {old : Array Value} {t : TypeId} {fr : Nat × Nat} {v : LB} (hsz : LB.size v = old.size) :
    (mm.set b (.cells old t fr)).set b (.cells (old.toList.take 0 ++ (LB.cells v ++ old.toList.drop (0 + LB.size v))).toArray t fr) = mm.set b (.cells (LB.cells v).toArray t fr) := by
  rw [Mem.set_set]
  have e : (old.toList.take 0 ++ (LB.cells v ++ old.toList.drop (0 + LB.size v))).toArray = (LB.cells v).toArray := by
    rw [List.drop_of_length_le (by rw [Array.length_toList]; omega)]; simp
  rw [e]
theorem noFr {n k : Nat} : ∀ j, j < n → ¬ (((0, 0) : Nat × Nat).1 ≤ k + j ∧ k + j < ((0, 0) : Nat × Nat).2) := fun j _ h => by simp only at h; omega
end Go.E

/-
  Maps: made, looked up, set, deleted from, ranged over.
-/
namespace Go.E
/-- an entry of a map: a key, what it leads to, when it was born -/
structure Men (α : Type) where
  k : α
  v : CV
  b : Nat
def Men.entry {α : Type} (enc : α → Value) (e : Men α) : MapEntry := ⟨enc e.k, e.v.val, e.b⟩
def mapO {α : Type} (enc : α → Value) (es : List (Men α)) (clock : Nat) : Obj := .map (es.map (Men.entry enc)).toArray clock
/-- keys that are compared at once -/
structure KeyOk {α : Type} [DecidableEq α] (enc : α → Value) (d : TypeDesc) : Prop where
  same : ∀ a b, Instr.sameNow d (enc a) (enc b) = some (decide (a = b))
  isK : ∀ a, MapKept.IsKey d (enc a)
  bits : ∀ a, Instr.sameBits 10000 (enc a) (enc a) = true
  one : ∀ a, (enc a).oneCell' = true
theorem bytesBeq (a b : ByteArray) : (a == b) = decide (a = b) := by
  rcases a with ⟨a⟩; rcases b with ⟨b⟩
  have h : ((⟨a⟩ : ByteArray) == ⟨b⟩) = (a == b) := rfl
  rw [h]
  by_cases e : a = b
  · subst e; simp
  · have : ¬ (⟨a⟩ : ByteArray) = ⟨b⟩ := fun h => e (by injection h)
    rw [decide_eq_false this]; exact beq_false_of_ne e
theorem strKey : KeyOk Value.string .string :=
  ⟨fun a b => by simp [Instr.sameNow, bytesBeq], fun _ => trivial, fun a => by simp [Instr.sameBits, bytesBeq], fun _ => rfl⟩
theorem intKey (k : IntKind) : KeyOk (Value.int k) (.int k) :=
  ⟨fun a b => by by_cases h : a = b <;> simp [Instr.sameNow, h], fun _ => rfl, fun a => by simp [Instr.sameBits], fun _ => rfl⟩
section
variable {α : Type} [DecidableEq α]
def findM (k : α) (es : List (Men α)) : Option CV := (es.find? fun e => decide (k = e.k)).map (·.v)
def setM (k : α) (v : CV) (clock : Nat) : List (Men α) → List (Men α)
  | [] => [⟨k, v, clock⟩]
  | e :: es => if k = e.k then ⟨k, v, e.b⟩ :: es else e :: setM k v clock es
def clockM (k : α) (clock : Nat) (es : List (Men α)) : Nat := if (findM k es).isSome then clock else clock + 1
def delM (k : α) : List (Men α) → List (Men α)
  | [] => []
  | e :: es => if k = e.k then es else e :: delM k es
theorem findNow_eq {enc : α → Value} {d : TypeDesc} (hk : KeyOk enc d) (k : α) : ∀ (es : List (Men α)) (i : Nat),
    Instr.findNow d (enc k) (es.map (Men.entry enc)) i = some (match es.findIdx? fun e => decide (k = e.k) with
      | some j => some (i + j, ((es[j]?).map fun e => e.v.val).getD undef)
      | none => none)
  | [], i => rfl
  | e :: es, i => by
    simp only [List.map_cons, Instr.findNow, Men.entry, hk.same, List.findIdx?_cons]
    by_cases h : k = e.k
    · simp [h]
    · have ih := findNow_eq hk k es (i + 1)
      simp only [h, decide_false, if_false, Bool.false_eq_true]
      rw [ih]
      cases es.findIdx? fun e => decide (k = e.k) with
      | none => rfl
      | some j => simp only [List.getElem?_cons_succ]; congr 2; rw [Prod.mk.injEq]; exact ⟨by simp only; omega, rfl⟩
theorem find_idx (k : α) : ∀ (es : List (Men α)), (match es.findIdx? fun e => decide (k = e.k) with
    | some j => ∃ e, es[j]? = some e ∧ findM k es = some e.v ∧ e.k = k
    | none => findM k es = none)
  | [] => rfl
  | e :: es => by
    rw [List.findIdx?_cons]
    by_cases h : k = e.k
    · simp only [h, decide_true, cond_true, if_true]
      exact ⟨e, rfl, by simp [findM], rfl⟩
    · have ih := find_idx k es
      simp only [h, decide_false, if_false, Bool.false_eq_true]
      have hf : findM k (e :: es) = findM k es := by simp [findM, h]
      rw [hf]
      cases hx : es.findIdx? fun e => decide (k = e.k) with
      | none => rw [hx] at ih; exact ih
      | some j => rw [hx] at ih; exact ih
theorem set_modify (enc : α → Value) (k : α) (v : CV) (clock : Nat) : ∀ (es : List (Men α)), (match es.findIdx? fun e => decide (k = e.k) with
    | some j => (es.map (Men.entry enc)).modify j (fun e => { e with key := enc k, val := v.val }) = (setM k v clock es).map (Men.entry enc)
    | none => es.map (Men.entry enc) ++ [⟨enc k, v.val, clock⟩] = (setM k v clock es).map (Men.entry enc))
  | [] => rfl
  | e :: es => by
    rw [List.findIdx?_cons]
    by_cases h : k = e.k
    · subst h
      simp [setM, Men.entry]
    · have ih := set_modify enc k v clock es
      simp only [h, decide_false, if_false, Bool.false_eq_true]
      cases hx : es.findIdx? fun e => decide (k = e.k) with
      | none => rw [hx] at ih; simp only [Option.map_none, List.map_cons, setM, h, if_false, List.cons_append] at ih ⊢; rw [ih]
      | some j => rw [hx] at ih; simp only [Option.map_some, List.map_cons, setM, h, if_false, List.modify_succ_cons] at ih ⊢; rw [ih]
theorem del_erase (enc : α → Value) (k : α) : ∀ (es : List (Men α)), (match es.findIdx? fun e => decide (k = e.k) with
    | some j => (es.map (Men.entry enc)).eraseIdx j = (delM k es).map (Men.entry enc)
    | none => es.map (Men.entry enc) = (delM k es).map (Men.entry enc))
  | [] => rfl
  | e :: es => by
    rw [List.findIdx?_cons]
    by_cases h : k = e.k
    · subst h
      simp [delM]
    · have ih := del_erase enc k es
      simp only [h, decide_false, if_false, Bool.false_eq_true]
      cases hx : es.findIdx? fun e => decide (k = e.k) with
      | none => rw [hx] at ih; simp only [Option.map_none, List.map_cons, delM, h, if_false] at ih ⊢; rw [ih]
      | some j => rw [hx] at ih; simp only [Option.map_some, List.map_cons, delM, h, if_false, List.eraseIdx_cons_succ] at ih ⊢; rw [ih]
end
section
variable {P : Program} {T : Tab} {α : Type} [DecidableEq α] {enc : α → Value}
theorem run_checkKey' {w : World} {kt : TypeId} {d : TypeDesc} {k : Value} (hd : P.underlying kt = some d) (hk : MapKept.IsKey d k) (e : Bool) : (Instr.checkKey e 10000 kt k).run P w = .ok () w := MapKept.run_checkKey hd hk e 9999
omit [DecidableEq α] in
theorem makeMap_spec {t : TypeId} {m : Mem} : PrimSpec P (.makeMap t) [] m fun r m' => ∃ b, m b = none ∧ r = [.v (.map (some b))] ∧ m' = m.set b (mapO enc [] 0) := by
  intro _ ty W hW
  refine ⟨[.v (.map (some W.heap.size))], _, _, ?_, (by intro y hy; simp at hy; subst hy; rfl), ⟨W.heap.size, hW.none (Nat.le_refl _), rfl, rfl⟩, (After.refl hW).alloc (mapO enc [] 0)⟩
  simp [Prim.run, Prim.out, Prim.tup, resVal, CV.val, Instr.makeMap, mapO, newObj, Sem.run, Result.andThen]
theorem run_find {d : TypeDesc} {kt : TypeId} (hk : KeyOk enc d) (hd : P.underlying kt = some d) (w : World) (k : α) (es : List (Men α)) :
    (Instr.findKey kt (enc k) (es.map (Men.entry enc))).run P w = .ok (match es.findIdx? fun e => decide (k = e.k) with
      | some j => some (j, ((es[j]?).map fun e => e.v.val).getD undef)
      | none => none) w := by
  have := findNow_eq hk k es 0
  simp only [Nat.zero_add] at this
  exact MapKept.run_findKey hd this
theorem lookup_spec {mt kt et : TypeId} {d : TypeDesc} (hk : KeyOk enc d) (hm : P.underlying mt = some (.map kt et)) (hd : P.underlying kt = some d) {z : CV} (hz : (P.info? et).bind (·.zero) = some z.val) (hzok : z.ok) {m : Mem} {b clock : Nat} {es : List (Men α)} {k : α}
    (hb : m b = some (mapO enc es clock)) (hes : ∀ e ∈ es, e.v.ok) (ok : Bool) :
    PrimSpec P (.lookup mt ok) [.v (.map (some b)), .v (enc k)] m fun r m' => r = (if ok then [(findM k es).getD z, .v (.bool (findM k es).isSome)] else [(findM k es).getD z]) ∧ m = m' := by
  intro _ ty W hW
  have hWb := hW _ _ hb
  have hzv : (zeroValue et).run P W = .ok z.val W := by
    cases hi : P.info? et with
    | none => simp [hi] at hz
    | some i => simp [hi] at hz; simp [zeroValue, typeInfo, hi, hz]
  have hf := run_find hk hd W k es
  have hx := find_idx k es
  have hck : ∀ e, (Instr.checkKey e 10000 kt (enc k)).run P W = .ok () W := fun e => run_checkKey' hd (hk.isK k) e
  have hvok : ((findM k es).getD z).ok := by
    unfold findM
    cases hq : es.find? (fun e => decide (k = e.k)) with
    | none => exact hzok
    | some e => exact hes e (List.mem_of_find?_eq_some hq)
  refine ⟨_, m, W, ?_, ?_, ⟨rfl, rfl⟩, After.refl hW⟩
  · cases hi : es.findIdx? fun e => decide (k = e.k) with
    | none =>
      rw [hi] at hx hf
      simp only at hx hf
      rw [hx]
      cases ok <;> simp [Prim.run, Prim.out, Prim.tup, CV.val, resVal, Instr.lookup, run_underlying hm, MapKept.run_getObj_map hWb, hck, hf, hzv, mapO] <;> rfl
    | some j =>
      rw [hi] at hx hf
      obtain ⟨e, h1, h2, _⟩ := hx
      simp only [h1, Option.map_some, Option.getD_some] at hf
      rw [h2]
      cases ok <;> simp [Prim.run, Prim.out, Prim.tup, CV.val, resVal, Instr.lookup, run_underlying hm, MapKept.run_getObj_map hWb, hck, hf, mapO] <;> rfl
  · intro y hy
    cases ok
    · simp at hy; subst hy; exact hvok
    · simp at hy
      rcases hy with rfl | rfl
      · exact hvok
      · rfl
theorem After.put {m : Mem} {W : World} (hW : Over m W) {b : Nat} {o : Obj} (hb : m b = some o) (o' : Obj) : After m W (m.set b o') { W with heap := W.heap.setIfInBounds b o' } := by
  obtain ⟨h1, h2⟩ := MapKept.heap_set (o' := o') (hW _ _ hb)
  exact After.setObj hW hb (by simp) h1 h2
theorem mapSet_spec {mt kt et : TypeId} {d : TypeDesc} (hk : KeyOk enc d) (hm : P.underlying mt = some (.map kt et)) (hd : P.underlying kt = some d) {m : Mem} {b clock : Nat} {es : List (Men α)} {k : α} {v : CV} (hb : m b = some (mapO enc es clock)) :
    PrimSpec P (.mapUpdate mt) [.v (.map (some b)), .v (enc k), v] m fun r m' => m' = m.set b (mapO enc (setM k v clock es) (clockM k clock es)) := by
  intro _ ty W hW
  have hWb := hW _ _ hb
  have hf := run_find hk hd W k es
  have hx := find_idx k es
  have hset := set_modify enc k v clock es
  have hck : (Instr.checkKey false 10000 kt (enc k)).run P W = .ok () W := run_checkKey' hd (hk.isK k) false
  have ha : List.map CV.val [.v (.map (some b)), .v (enc k), v] = [.map (some b), enc k, v.val] := rfl
  rw [ha]
  cases hi : es.findIdx? fun e => decide (k = e.k) with
  | none =>
    rw [hi] at hx hf hset
    simp only at hx hf hset
    refine ⟨[], _, _, ?_, (by intro y hy; cases hy), rfl, After.put hW hb _⟩
    have hc : clockM k clock es = clock + 1 := by simp [clockM, hx]
    have he : (es.map (Men.entry enc)).toArray.push ⟨enc k, v.val, clock⟩ = ((setM k v clock es).map (Men.entry enc)).toArray := by
      rw [← hset]; simp
    have hr : (Instr.mapUpdate mt (.map (some b)) (enc k) v.val).run P W = .ok () { W with heap := W.heap.setIfInBounds b (mapO enc (setM k v clock es) (clockM k clock es)) } := by
      simp only [Instr.mapUpdate, Sem.run_bind, run_underlying hm, MapKept.run_getObj_map hWb, hck, hf, Result.andThen_ok, List.toList_toArray, he, hc, MapKept.run_setObj_map _ hWb, mapO]
    simp only [Prim.run, Sem.run_bind, hr, Result.andThen_ok, Sem.run_pure]
    rfl
  | some j =>
    rw [hi] at hx hf hset
    obtain ⟨e, h1, h2, h3⟩ := hx
    simp only [h1, Option.map_some, Option.getD_some] at hf hset
    refine ⟨[], _, _, ?_, (by intro y hy; cases hy), rfl, After.put hW hb _⟩
    have hc : clockM k clock es = clock := by simp [clockM, h2]
    have hkey : ((((es.map (Men.entry enc)).toArray[j]?).map (·.key)).getD (enc k)) = enc k := by
      simp [h1, Men.entry, h3]
    have hsb := hk.bits k
    have he : (es.map (Men.entry enc)).toArray.modify j (fun e => { e with key := enc k, val := v.val }) = ((setM k v clock es).map (Men.entry enc)).toArray := by
      rw [← hset]; simp
    have hr : (Instr.mapUpdate mt (.map (some b)) (enc k) v.val).run P W = .ok () { W with heap := W.heap.setIfInBounds b (mapO enc (setM k v clock es) (clockM k clock es)) } := by
      simp only [Instr.mapUpdate, Sem.run_bind, run_underlying hm, MapKept.run_getObj_map hWb, hck, hf, Result.andThen_ok, List.toList_toArray, hkey, Instr.keyThatStays, hsb, if_true, Sem.run_pure, he, hc, MapKept.run_setObj_map _ hWb, mapO]
    simp only [Prim.run, Sem.run_bind, hr, Result.andThen_ok, Sem.run_pure]
    rfl
theorem mapDel_spec {mt kt et : TypeId} {d : TypeDesc} {ats : List TypeId} (hk : KeyOk enc d) (hm : P.underlying mt = some (.map kt et)) (hd : P.underlying kt = some d) {m : Mem} {b clock : Nat} {es : List (Men α)} {k : α} (hb : m b = some (mapO enc es clock)) :
    PrimSpec P (.builtin .delete (mt :: ats)) [.v (.map (some b)), .v (enc k)] m fun r m' => r = [] ∧ m' = m.set b (mapO enc (delM k es) clock) := by
  intro _ ty W hW
  have hWb := hW _ _ hb
  have hf := run_find hk hd W k es
  have hset := del_erase enc k es
  have hck : ∀ e, (Instr.checkKey e 10000 kt (enc k)).run P W = .ok () W := fun e => run_checkKey' hd (hk.isK k) e
  refine ⟨[], _, _, ?_, (by intro y hy; cases hy), ⟨rfl, rfl⟩, After.put hW hb _⟩
  cases hi : es.findIdx? fun e => decide (k = e.k) with
  | none =>
    rw [hi] at hf hset
    simp only at hf hset
    simp [Prim.run, Prim.out, Prim.tup, CV.val, resVal, Builtin.delete_, run_underlying hm, MapKept.run_getObj_map hWb, hck, hf, mapO, MapKept.run_setObj_map _ hWb, ← hset]
  | some j =>
    rw [hi] at hf hset
    simp only at hf hset
    have he : (es.map (Men.entry enc)).toArray.eraseIdxIfInBounds j = ((delM k es).map (Men.entry enc)).toArray := by
      rw [← hset]; simp
    simp [Prim.run, Prim.out, Prim.tup, CV.val, resVal, Builtin.delete_, run_underlying hm, MapKept.run_getObj_map hWb, hck, hf, mapO, MapKept.run_setObj_map _ hWb, ← hset]
end
end Go.E

/-
  A range over a map: whatever order it goes in.
-/
namespace Go.E
section
variable {P : Program} {α : Type} {enc : α → Value}
/-- an iterator over the map b, that has been at these entries -/
def iterO (b clock : Nat) (vis : List Nat) : Obj := .mapIter (some b) clock vis.toArray clock
def leftM (vis : List Nat) (es : List (Men α)) : List (Men α) := es.filter fun e => !vis.contains e.b
theorem rangeM_spec {mt kt et : TypeId} (hm : P.underlying mt = some (.map kt et)) {m : Mem} {b clock : Nat} {es : List (Men α)} (hb : m b = some (mapO enc es clock)) :
    PrimSpec P (.range mt) [.v (.map (some b))] m fun r m' => ∃ it, m it = none ∧ r = [.v (.pointer (some ⟨it, 0, none⟩))] ∧ m' = m.set it (iterO b clock []) := by
  intro _ ty W hW
  refine ⟨[.v (.pointer (some ⟨W.heap.size, 0, none⟩))], _, _, ?_, (by intro y hy; simp at hy; subst hy; rfl), ⟨W.heap.size, hW.none (Nat.le_refl _), rfl, rfl⟩, (After.refl hW).alloc (iterO b clock [])⟩
  simp [Prim.run, Prim.out, Prim.tup, resVal, CV.val, Instr.range, run_underlying hm, MapKept.run_getObj_map (hW _ _ hb), mapO, newObj, Sem.run, Result.andThen, iterO]
theorem rangeM_nil {mt kt et : TypeId} (hm : P.underlying mt = some (.map kt et)) {m : Mem} :
    PrimSpec P (.range mt) [.v (.map none)] m fun r m' => ∃ it, m it = none ∧ r = [.v (.pointer (some ⟨it, 0, none⟩))] ∧ m' = m.set it (.mapIter none 0 #[] 0) := by
  intro _ ty W hW
  refine ⟨[.v (.pointer (some ⟨W.heap.size, 0, none⟩))], _, _, ?_, (by intro y hy; simp at hy; subst hy; rfl), ⟨W.heap.size, hW.none (Nat.le_refl _), rfl, rfl⟩, (After.refl hW).alloc (.mapIter none 0 #[] 0)⟩
  simp [Prim.run, Prim.out, Prim.tup, resVal, CV.val, Instr.range, run_underlying hm, newObj, Sem.run, Result.andThen]
theorem nextM_nil {m : Mem} {it : Nat} (hit : m it = some (.mapIter none 0 #[] 0)) : PrimSpec P (.next false) [.v (.pointer (some ⟨it, 0, none⟩))] m fun r m' => r = [.v (.bool false)] ∧ m' = m := by
  intro _ ty W hW
  have hWi := hW _ _ hit
  refine ⟨[.v (.bool false)], m, W, ?_, (by intro y hy; simp at hy; subst hy; rfl), ⟨rfl, rfl⟩, After.refl hW⟩
  simp [Prim.run, Prim.out, Prim.tup, CV.val, Instr.next, getObj, Sem.run, hWi, Result.andThen]
theorem nextM_spec {m : Mem} {it b clock : Nat} {vis : List Nat} {es : List (Men α)} (hit : m it = some (iterO b clock vis)) (hb : m b = some (mapO enc es clock)) (hborn : ∀ e ∈ es, e.b < clock) (hok : ∀ e ∈ es, e.v.ok) (hone : ∀ a, (enc a).oneCell' = true) :
    PrimSpec P (.next false) [.v (.pointer (some ⟨it, 0, none⟩))] m fun r m' => (leftM vis es = [] ∧ r = [.v (.bool false)] ∧ m' = m) ∨ ∃ e, e ∈ leftM vis es ∧ r = [.v (.bool true), .v (enc e.k), e.v] ∧ m' = m.set it (iterO b clock (vis ++ [e.b])) := by
  intro _ ty W hW
  have hWi := hW _ _ hit
  have hWb := hW _ _ hb
  -- what is left
  have e1 : ((es.map (Men.entry enc)).toArray.filter fun e => !vis.toArray.contains e.born) = ((leftM vis es).map (Men.entry enc)).toArray := by
    simp only [List.filter_toArray, List.filter_map, leftM]
    congr 2
    exact List.filter_congr fun e _ => by simp [Men.entry]; exact decide_eq_decide.2 Iff.rfl
  have e2 : (((leftM vis es).map (Men.entry enc)).toArray.filter fun e => decide (e.born < clock)) = ((leftM vis es).map (Men.entry enc)).toArray := by
    simp only [List.filter_toArray]
    congr 1
    rw [List.filter_eq_self]
    intro x hx
    obtain ⟨e, he, rfl⟩ := List.mem_map.1 hx
    exact decide_eq_true (hborn e (List.mem_filter.1 he).1)
  have e3 : (((leftM vis es).map (Men.entry enc)).toArray.filter fun e => decide (e.born ≥ clock)) = #[] := by
    simp only [List.filter_toArray]
    have : ((leftM vis es).map (Men.entry enc)).filter (fun e => decide (e.born ≥ clock)) = [] := by
      rw [List.filter_eq_nil_iff]
      intro x hx
      obtain ⟨e, he, rfl⟩ := List.mem_map.1 hx
      have := hborn e (List.mem_filter.1 he).1
      intro h
      have h := of_decide_eq_true h
      simp only [Men.entry] at h; omega
    rw [this]
  have e4 : (!vis.toArray.isEmpty && !(es.map (Men.entry enc)).toArray.isEmpty && (es.map (Men.entry enc)).toArray.all fun e => decide (e.born ≥ clock)) = false := by
    cases es with
    | nil => simp
    | cons e es =>
      have h0 := hborn e (by simp)
      have : ((e :: es).map (Men.entry enc)).toArray.all (fun e => decide (e.born ≥ clock)) = false := by
        simp only [List.all_toArray, List.map_cons, List.all_cons, Men.entry]
        rw [decide_eq_false (show ¬ e.b ≥ clock by omega)]; rfl
      rw [this, Bool.and_false]
  have e5 : (Sem.run P (getObj it) W) = .ok (iterO b clock vis) W := by simp [getObj, Sem.run, hWi, iterO]
  cases hl : leftM vis es with
  | nil =>
    rw [hl] at e1 e2 e3
    refine ⟨[.v (.bool false)], m, W, ?_, (by intro y hy; simp at hy; subst hy; rfl), .inl ⟨rfl, rfl, rfl⟩, After.refl hW⟩
    simp only [Prim.run, List.map_cons, List.map_nil, CV.val, Instr.next, Sem.run_bind, e5, Result.andThen_ok, iterO, MapKept.run_getObj_map hWb, mapO, e4, Bool.false_eq_true, if_false, e1, List.map_nil]
    simp [Question.forced, Prim.out, Prim.tup, CV.val]
  | cons e0 es' =>
    have hpos : 0 < (leftM vis es).length := by rw [hl]; simp
    -- which one comes
    have key : ∀ (i : Nat) (W1 : World) (hi : i < (leftM vis es).length), W1.heap = W.heap → After m W m W1 →
        ∃ r m' W', (do
          setObj it (.mapIter (some b) clock (vis.toArray.push ((leftM vis es)[i]).b) clock)
          pure (.tuple #[.bool true, enc ((leftM vis es)[i]).k, ((leftM vis es)[i]).v.val] : Value) : Sem Value).run P W1 = .ok ((Prim.next false).out r) W' ∧ (∀ x ∈ r, x.ok) ∧
          ((leftM vis es = [] ∧ r = [.v (.bool false)] ∧ m' = m) ∨ ∃ e, e ∈ leftM vis es ∧ r = [.v (.bool true), .v (enc e.k), e.v] ∧ m' = m.set it (iterO b clock (vis ++ [e.b]))) ∧ After m W m' W' := by
      intro i W1 hi hheap haft
      have hW1 : Over m W1 := haft.over
      have hm1 := List.getElem_mem hi
      generalize (leftM vis es)[i] = e at hm1
      refine ⟨[.v (.bool true), .v (enc e.k), e.v], _, _, ?_, ?_, .inr ⟨e, hm1, rfl, rfl⟩, haft.trans (After.put hW1 hit _)⟩
      · simp [setObj, Sem.run, hheap, hWi, iterO, Result.andThen, Prim.out, Prim.tup, CV.val]
      · intro y hy
        simp only [List.mem_cons, List.not_mem_nil, or_false] at hy
        rcases hy with rfl | rfl | rfl
        · rfl
        · exact hone _
        · exact hok _ (List.mem_filter.1 hm1).1
    rw [← hl]
    have hne : ((leftM vis es).map (Men.entry enc)).toArray.isEmpty = false := by rw [hl]; simp
    have hsz : (((leftM vis es).map (Men.entry enc)).toArray.map some).size = (leftM vis es).length := by simp
    have hgo : (Instr.next (.pointer (some ⟨it, 0, none⟩)) false ty).run P W = ((choose (.mapNext (leftM vis es).length)).run P W).andThen fun i W1 => (match (((leftM vis es).map (Men.entry enc)).toArray.map some)[i]? with
        | some (some e) => (do setObj it (.mapIter (some b) clock (vis.toArray.push e.born) clock); pure (.tuple #[.bool true, e.key, e.val]) : Sem Value)
        | some none => pure (.tuple #[.bool false])
        | none => stuck "Next: no such candidate").run P W1 := by
      simp only [Instr.next, Sem.run_bind, e5, Result.andThen_ok, iterO, MapKept.run_getObj_map hWb, mapO, e4, Bool.false_eq_true, if_false, e1, e2, e3, hne, Array.append_empty, Array.empty_append, hsz]
      rfl
    have hpick : ∀ i (hi : i < (leftM vis es).length), (((leftM vis es).map (Men.entry enc)).toArray.map some)[i]? = some (some (Men.entry enc (leftM vis es)[i])) := fun i hi => by
      simp [hi]
    have hrun : ∀ a, (Prim.run (.next false) ty [a]) = Instr.next a false ty := fun a => rfl
    simp only [List.map_cons, List.map_nil, CV.val, hrun, hgo, run_choose]
    by_cases hf : (Question.mapNext (leftM vis es).length).forced = true
    · rw [if_pos hf]
      simp only [Result.andThen_ok, hpick 0 hpos]
      exact key 0 W hpos rfl (After.refl hW)
    · rw [if_neg hf]
      have hlt : (Question.mapNext (leftM vis es).length).cut (W.tape W.drawn (.mapNext (leftM vis es).length)) < (leftM vis es).length := Nat.mod_lt _ hpos
      simp only [Result.andThen_ok, hpick _ hlt]
      exact key _ _ hlt rfl (After.refl hW).drew
theorem entryM_spec {m : Mem} {it b clock : Nat} {vis : List Nat} {es : List (Men α)} {e : Men α} (hit : m it = some (iterO b clock (vis ++ [e.b]))) (hb : m b = some (mapO enc es clock)) (he : e ∈ es) (hd : es.Pairwise fun x y => x.b ≠ y.b) (hok : e.v.ok) (hone : (enc e.k).oneCell' = true) :
    PrimSpec P .entry [.v (.pointer (some ⟨it, 0, none⟩))] m fun r m' => r = [.v (enc e.k), e.v] ∧ m = m' := by
  intro _ ty W hW
  have hWi := hW _ _ hit
  have hWb := hW _ _ hb
  have e5 : (Sem.run P (getObj it) W) = .ok (iterO b clock (vis ++ [e.b])) W := by simp [getObj, Sem.run, hWi, iterO]
  have hfind : (es.map (Men.entry enc)).toArray.find? (fun x => x.born == e.b) = some (Men.entry enc e) := by
    rw [List.find?_toArray, List.find?_map]
    have : es.find? ((fun x : MapEntry => x.born == e.b) ∘ Men.entry enc) = some e := by
      clear hb hWb
      induction es with
      | nil => cases he
      | cons x es ih =>
        obtain ⟨h1, h2⟩ := List.pairwise_cons.1 hd
        rw [List.find?_cons]
        rcases List.mem_cons.1 he with rfl | he
        · simp [Men.entry]
        · have hne := h1 e he
          have : ((fun x : MapEntry => x.born == e.b) ∘ Men.entry enc) x = false := by simp [Men.entry, hne]
          rw [this]; exact ih he h2
    rw [this]; rfl
  refine ⟨[.v (enc e.k), e.v], m, W, ?_, ?_, ⟨rfl, rfl⟩, After.refl hW⟩
  · simp only [Prim.run, List.map_cons, List.map_nil, CV.val, Instr.entry, Sem.run_bind, e5, Result.andThen_ok, iterO, MapKept.run_getObj_map hWb, mapO]
    simp [hfind, Prim.out, Prim.tup, resVal, CV.val, Men.entry, MapKept.run_getObj_map hWb]
  · intro y hy
    simp at hy
    rcases hy with rfl | rfl
    · exact hone
    · exact hok
end
end Go.E

/-
  Bytes as numbers.
-/
namespace Go.E.Ytghdapflkhadoaa
abbrev nc (l : List Nat) : List Int := l.map fun (n : Nat) => (n : Int)
theorem nc_len (l : List Nat) : (nc l).length = l.length := by simp
end Go.E.Ytghdapflkhadoaa
