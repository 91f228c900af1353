/-
  Tab, Cfg, H, ByB, By, Bits, Wire, WireD, E25, Cat
-/
import Derived.Test.YtcjmmhamnglmkaaLogBeginsZ5
import Derived.Test.YtcjmmhamnglmkaaProg
import Derived.Lib.AppendZerosOnto
/-
  The table of the types of this seat's program, made by a program, and that it is right.
-/
namespace Go.E.Ytcjmmhamnglmkaa
open Go.Proofs
set_option maxRecDepth 100000
noncomputable def tt : TTree := (.node 70 (.node 35 (.node 17 (.node 9 (.node 5 (.node 3 (.node 2 (.leaf 1 ⟨.func, 1, 8, [.one .nilFunc], false⟩)
 (.leaf 2 ⟨.int .i64, 1, 8, [.one (.int .i64 0)], false⟩))
 (.node 4 (.leaf 3 ⟨.int .i64, 1, 8, [.one (.int .i64 0)], false⟩)
 (.leaf 4 ⟨.bool, 1, 1, [.one (.bool false)], false⟩)))
 (.node 7 (.node 6 (.leaf 5 ⟨.int .u8, 1, 1, [.one (.int .u8 0)], false⟩)
 (.leaf 6 ⟨.int .u8, 1, 1, [.one (.int .u8 0)], false⟩))
 (.node 8 (.leaf 7 ⟨.struct [(0, 2), (1, 3), (2, 4), (3, 6)], 4, 24, [.one (.int .i64 0), .one (.int .i64 0), .one (.bool false), .one (.int .u8 0)], false⟩)
 (.leaf 8 ⟨.struct [(0, 2), (1, 3), (2, 4), (3, 6)], 4, 24, [.one (.int .i64 0), .one (.int .i64 0), .one (.bool false), .one (.int .u8 0)], false⟩))))
 (.node 13 (.node 11 (.node 10 (.leaf 9 ⟨.str, 1, 16, [.one (.string ByteArray.empty)], false⟩)
 (.leaf 10 ⟨.str, 1, 16, [.one (.string ByteArray.empty)], false⟩))
 (.node 12 (.leaf 11 ⟨.str, 1, 16, [.one (.string ByteArray.empty)], false⟩)
 (.leaf 12 ⟨.int .u64, 1, 8, [.one (.int .u64 0)], false⟩)))
 (.node 15 (.node 14 (.leaf 13 ⟨.struct [(0, 9), (1, 12)], 2, 24, [.one (.string ByteArray.empty), .one (.int .u64 0)], false⟩)
 (.leaf 14 ⟨.struct [(0, 9), (1, 12)], 2, 24, [.one (.string ByteArray.empty), .one (.int .u64 0)], false⟩))
 (.node 16 (.leaf 15 ⟨.ptr 127, 1, 8, [.one (.pointer none)], false⟩)
 (.leaf 16 ⟨.ptr 130, 1, 8, [.one (.pointer none)], false⟩)))))
 (.node 25 (.node 21 (.node 19 (.node 18 (.leaf 17 ⟨.ptr 138, 1, 8, [.one (.pointer none)], false⟩)
 (.leaf 18 ⟨.struct [(0, 17)], 1, 8, [.one (.pointer none)], false⟩))
 (.node 20 (.leaf 19 ⟨.struct [(0, 17)], 1, 8, [.one (.pointer none)], false⟩)
 (.leaf 20 ⟨.iface, 1, 16, [.one .nilIface], false⟩)))
 (.node 23 (.node 22 (.leaf 21 ⟨.int .i32, 1, 4, [.one (.int .i32 0)], false⟩)
 (.leaf 22 ⟨.slice 30, 1, 24, [.one (.slice none 0 0)], false⟩))
 (.node 24 (.leaf 23 ⟨.slice 5, 1, 24, [.one (.slice none 0 0)], false⟩)
 (.leaf 24 ⟨.ptr 52, 1, 8, [.one (.pointer none)], false⟩))))
 (.node 30 (.node 28 (.node 27 (.leaf 25 ⟨.int .i64, 1, 8, [.one (.int .i64 0)], false⟩)
 (.leaf 27 ⟨.func, 1, 8, [.one .nilFunc], false⟩))
 (.node 29 (.leaf 28 ⟨.func, 1, 8, [.one .nilFunc], false⟩)
 (.leaf 29 ⟨.struct [(0, 3), (1, 3), (2, 23)], 3, 40, [.one (.int .i64 0), .one (.int .i64 0), .one (.slice none 0 0)], false⟩)))
 (.node 32 (.node 31 (.leaf 30 ⟨.struct [(0, 3), (1, 3), (2, 23)], 3, 40, [.one (.int .i64 0), .one (.int .i64 0), .one (.slice none 0 0)], false⟩)
 (.leaf 31 ⟨.func, 1, 8, [.one .nilFunc], false⟩))
 (.node 33 (.leaf 32 ⟨.ptr 57, 1, 8, [.one (.pointer none)], false⟩)
 (.leaf 33 ⟨.slice 23, 1, 24, [.one (.slice none 0 0)], false⟩))))))
 (.node 52 (.node 44 (.node 40 (.node 38 (.node 37 (.leaf 35 ⟨.func, 1, 8, [.one .nilFunc], false⟩)
 (.leaf 37 ⟨.func, 1, 8, [.one .nilFunc], false⟩))
 (.node 39 (.leaf 38 ⟨.func, 1, 8, [.one .nilFunc], false⟩)
 (.leaf 39 ⟨.func, 1, 8, [.one .nilFunc], false⟩)))
 (.node 42 (.node 41 (.leaf 40 ⟨.func, 1, 8, [.one .nilFunc], false⟩)
 (.leaf 41 ⟨.slice 3, 1, 24, [.one (.slice none 0 0)], false⟩))
 (.node 43 (.leaf 42 ⟨.func, 1, 8, [.one .nilFunc], false⟩)
 (.leaf 43 ⟨.func, 1, 8, [.one .nilFunc], false⟩))))
 (.node 48 (.node 46 (.node 45 (.leaf 44 ⟨.map 9 68, 1, 8, [.one (.map none)], false⟩)
 (.leaf 45 ⟨.struct [], 0, 0, [], false⟩))
 (.node 47 (.leaf 46 ⟨.struct [], 0, 0, [], false⟩)
 (.leaf 47 ⟨.struct [], 0, 0, [], false⟩)))
 (.node 50 (.node 49 (.leaf 48 ⟨.int .u64, 1, 8, [.one (.int .u64 0)], false⟩)
 (.leaf 49 ⟨.struct [(0, 46), (0, 47), (0, 48)], 1, 8, [.one (.int .u64 0)], false⟩))
 (.node 51 (.leaf 50 ⟨.struct [(0, 46), (0, 47), (0, 48)], 1, 8, [.one (.int .u64 0)], false⟩)
 (.leaf 51 ⟨.struct [(0, 3), (1, 44), (2, 50), (3, 50)], 4, 32, [.one (.int .i64 0), .one (.map none), .one (.int .u64 0), .one (.int .u64 0)], false⟩)))))
 (.node 61 (.node 56 (.node 54 (.node 53 (.leaf 52 ⟨.struct [(0, 3), (1, 44), (2, 50), (3, 50)], 4, 32, [.one (.int .i64 0), .one (.map none), .one (.int .u64 0), .one (.int .u64 0)], false⟩)
 (.leaf 53 ⟨.func, 1, 8, [.one .nilFunc], false⟩))
 (.node 55 (.leaf 54 ⟨.struct [(0, 24), (1, 9)], 2, 24, [.one (.pointer none), .one (.string ByteArray.empty)], false⟩)
 (.leaf 55 ⟨.struct [(0, 24), (1, 9)], 2, 24, [.one (.pointer none), .one (.string ByteArray.empty)], false⟩)))
 (.node 59 (.node 57 (.leaf 56 ⟨.struct [(0, 55), (2, 3), (3, 3)], 4, 40, [.one (.pointer none), .one (.string ByteArray.empty), .one (.int .i64 0), .one (.int .i64 0)], false⟩)
 (.leaf 57 ⟨.struct [(0, 55), (2, 3), (3, 3)], 4, 40, [.one (.pointer none), .one (.string ByteArray.empty), .one (.int .i64 0), .one (.int .i64 0)], false⟩))
 (.node 60 (.leaf 59 ⟨.func, 1, 8, [.one .nilFunc], false⟩)
 (.leaf 60 ⟨.func, 1, 8, [.one .nilFunc], false⟩))))
 (.node 66 (.node 64 (.node 63 (.leaf 61 ⟨.func, 1, 8, [.one .nilFunc], false⟩)
 (.leaf 63 ⟨.func, 1, 8, [.one .nilFunc], false⟩))
 (.node 65 (.leaf 64 ⟨.func, 1, 8, [.one .nilFunc], false⟩)
 (.leaf 65 ⟨.func, 1, 8, [.one .nilFunc], false⟩)))
 (.node 68 (.node 67 (.leaf 66 ⟨.slice 9, 1, 24, [.one (.slice none 0 0)], false⟩)
 (.leaf 67 ⟨.func, 1, 8, [.one .nilFunc], false⟩))
 (.node 69 (.leaf 68 ⟨.ptr 70, 1, 8, [.one (.pointer none)], false⟩)
 (.leaf 69 ⟨.struct [(0, 23), (1, 3)], 2, 32, [.one (.slice none 0 0), .one (.int .i64 0)], false⟩)))))))
 (.node 105 (.node 89 (.node 80 (.node 75 (.node 73 (.node 72 (.leaf 70 ⟨.struct [(0, 23), (1, 3)], 2, 32, [.one (.slice none 0 0), .one (.int .i64 0)], false⟩)
 (.leaf 72 ⟨.func, 1, 8, [.one .nilFunc], false⟩))
 (.node 74 (.leaf 73 ⟨.func, 1, 8, [.one .nilFunc], false⟩)
 (.leaf 74 ⟨.func, 1, 8, [.one .nilFunc], false⟩)))
 (.node 78 (.node 77 (.leaf 75 ⟨.func, 1, 8, [.one .nilFunc], false⟩)
 (.leaf 77 ⟨.func, 1, 8, [.one .nilFunc], false⟩))
 (.node 79 (.leaf 78 ⟨.func, 1, 8, [.one .nilFunc], false⟩)
 (.leaf 79 ⟨.func, 1, 8, [.one .nilFunc], false⟩))))
 (.node 84 (.node 82 (.node 81 (.leaf 80 ⟨.func, 1, 8, [.one .nilFunc], false⟩)
 (.leaf 81 ⟨.func, 1, 8, [.one .nilFunc], false⟩))
 (.node 83 (.leaf 82 ⟨.int .u32, 1, 4, [.one (.int .u32 0)], false⟩)
 (.leaf 83 ⟨.func, 1, 8, [.one .nilFunc], false⟩)))
 (.node 87 (.node 86 (.leaf 84 ⟨.func, 1, 8, [.one .nilFunc], false⟩)
 (.leaf 86 ⟨.func, 1, 8, [.one .nilFunc], false⟩))
 (.node 88 (.leaf 87 ⟨.ptr 50, 1, 8, [.one (.pointer none)], false⟩)
 (.leaf 88 ⟨.func, 1, 8, [.one .nilFunc], false⟩)))))
 (.node 97 (.node 93 (.node 91 (.node 90 (.leaf 89 ⟨.ptr 48, 1, 8, [.one (.pointer none)], false⟩)
 (.leaf 90 ⟨.ptr 104, 1, 8, [.one (.pointer none)], false⟩))
 (.node 92 (.leaf 91 ⟨.func, 1, 8, [.one .nilFunc], false⟩)
 (.leaf 92 ⟨.func, 1, 8, [.one .nilFunc], false⟩)))
 (.node 95 (.node 94 (.leaf 93 ⟨.func, 1, 8, [.one .nilFunc], false⟩)
 (.leaf 94 ⟨.func, 1, 8, [.one .nilFunc], false⟩))
 (.node 96 (.leaf 95 ⟨.ptr 97, 1, 8, [.one (.pointer none)], false⟩)
 (.leaf 96 ⟨.struct [(0, 23)], 1, 24, [.one (.slice none 0 0)], false⟩))))
 (.node 101 (.node 99 (.node 98 (.leaf 97 ⟨.struct [(0, 23)], 1, 24, [.one (.slice none 0 0)], false⟩)
 (.leaf 98 ⟨.func, 1, 8, [.one .nilFunc], false⟩))
 (.node 100 (.leaf 99 ⟨.func, 1, 8, [.one .nilFunc], false⟩)
 (.leaf 100 ⟨.int .u64, 1, 8, [.one (.int .u64 0)], false⟩)))
 (.node 103 (.node 102 (.leaf 101 ⟨.func, 1, 8, [.one .nilFunc], false⟩)
 (.leaf 102 ⟨.func, 1, 8, [.one .nilFunc], false⟩))
 (.node 104 (.leaf 103 ⟨.struct [(0, 4), (1, 23), (2, 25)], 3, 40, [.one (.bool false), .one (.slice none 0 0), .one (.int .i64 0)], false⟩)
 (.leaf 104 ⟨.struct [(0, 4), (1, 23), (2, 25)], 3, 40, [.one (.bool false), .one (.slice none 0 0), .one (.int .i64 0)], false⟩))))))
 (.node 123 (.node 115 (.node 110 (.node 107 (.node 106 (.leaf 105 ⟨.func, 1, 8, [.one .nilFunc], false⟩)
 (.leaf 106 ⟨.func, 1, 8, [.one .nilFunc], false⟩))
 (.node 108 (.leaf 107 ⟨.func, 1, 8, [.one .nilFunc], false⟩)
 (.leaf 108 ⟨.int .i64, 1, 8, [.one (.int .i64 0)], false⟩)))
 (.node 112 (.node 111 (.leaf 110 ⟨.func, 1, 8, [.one .nilFunc], false⟩)
 (.leaf 111 ⟨.func, 1, 8, [.one .nilFunc], false⟩))
 (.node 113 (.leaf 112 ⟨.func, 1, 8, [.one .nilFunc], false⟩)
 (.leaf 113 ⟨.func, 1, 8, [.one .nilFunc], false⟩))))
 (.node 119 (.node 117 (.node 116 (.leaf 115 ⟨.func, 1, 8, [.one .nilFunc], false⟩)
 (.leaf 116 ⟨.func, 1, 8, [.one .nilFunc], false⟩))
 (.node 118 (.leaf 117 ⟨.func, 1, 8, [.one .nilFunc], false⟩)
 (.leaf 118 ⟨.int .u64, 1, 8, [.one (.int .u64 0)], false⟩)))
 (.node 121 (.node 120 (.leaf 119 ⟨.func, 1, 8, [.one .nilFunc], false⟩)
 (.leaf 120 ⟨.func, 1, 8, [.one .nilFunc], false⟩))
 (.node 122 (.leaf 121 ⟨.ptr 3, 1, 8, [.one (.pointer none)], false⟩)
 (.leaf 122 ⟨.func, 1, 8, [.one .nilFunc], false⟩)))))
 (.node 132 (.node 128 (.node 126 (.node 125 (.leaf 123 ⟨.ptr 118, 1, 8, [.one (.pointer none)], false⟩)
 (.leaf 125 ⟨.func, 1, 8, [.one .nilFunc], false⟩))
 (.node 127 (.leaf 126 ⟨.struct [(0, 17), (1, 17), (2, 17), (3, 9)], 4, 40, [.one (.pointer none), .one (.pointer none), .one (.pointer none), .one (.string ByteArray.empty)], false⟩)
 (.leaf 127 ⟨.struct [(0, 17), (1, 17), (2, 17), (3, 9)], 4, 40, [.one (.pointer none), .one (.pointer none), .one (.pointer none), .one (.string ByteArray.empty)], false⟩)))
 (.node 130 (.node 129 (.leaf 128 ⟨.array 0 16, 0, 0, [.vals 0 []], false⟩)
 (.leaf 129 ⟨.struct [(0, 128)], 0, 0, [.vals 0 []], false⟩))
 (.node 131 (.leaf 130 ⟨.struct [(0, 128)], 0, 0, [.vals 0 []], false⟩)
 (.leaf 131 ⟨.int .u8, 1, 1, [.one (.int .u8 0)], false⟩))))
 (.node 136 (.node 134 (.node 133 (.leaf 132 ⟨.int .u8, 1, 1, [.one (.int .u8 0)], false⟩)
 (.leaf 133 ⟨.func, 1, 8, [.one .nilFunc], false⟩))
 (.node 135 (.leaf 134 ⟨.ptr 5, 1, 8, [.one (.pointer none)], false⟩)
 (.leaf 135 ⟨.int .i32, 1, 4, [.one (.int .i32 0)], false⟩)))
 (.node 138 (.node 137 (.leaf 136 ⟨.int .i32, 1, 4, [.one (.int .i32 0)], false⟩)
 (.leaf 137 ⟨.struct [(0, 12), (1, 12), (2, 82), (3, 131), (4, 5), (5, 5), (6, 132), (7, 133), (8, 134), (9, 135), (10, 136)], 11, 48, [.one (.int .u64 0), .one (.int .u64 0), .one (.int .u32 0), .one (.int .u8 0), .one (.int .u8 0), .one (.int .u8 0), .one (.int .u8 0), .one .nilFunc, .one (.pointer none), .one (.int .i32 0), .one (.int .i32 0)], false⟩))
 (.node 139 (.leaf 138 ⟨.struct [(0, 12), (1, 12), (2, 82), (3, 131), (4, 5), (5, 5), (6, 132), (7, 133), (8, 134), (9, 135), (10, 136)], 11, 48, [.one (.int .u64 0), .one (.int .u64 0), .one (.int .u32 0), .one (.int .u8 0), .one (.int .u8 0), .one (.int .u8 0), .one (.int .u8 0), .one .nilFunc, .one (.pointer none), .one (.int .i32 0), .one (.int .i32 0)], false⟩)
 (.leaf 139 ⟨.func, 1, 8, [.one .nilFunc], false⟩))))))))
set_option maxHeartbeats 4000000 in
theorem tt_ok : TabOk Try.prog tt.get := tabOk (by kernel_rfl) (by kernel_rfl) (by kernel_rfl)
theorem wide : Try.prog.follows .mixedOrders = true := by kernel_rfl
end Go.E.Ytcjmmhamnglmkaa

/-
  : how the functions named here are run: made by a program.
-/
namespace Go.E.Ytcjmmhamnglmkaa
open Go.Proofs
set_option maxRecDepth 100000
/- maund maundlaw16.LogBegins -/
noncomputable def c3 : Cfg := ⟨Try.prog, tt.get, inL [], atL [(29, ⟨.op 0 .none (.op 1 .all (.op 2 .all (.op 3 .all (.op 4 .all (.op 5 .all (.op 6 .all (.op 7 .all (.op 8 .all (.op 9 .all (.op 10 .all (.op 11 .all (.op 12 .all (.op 13 .all (.op 14 .all (.op 15 .all (.op 16 .all (.op 17 .all (.op 18 .all (.op 19 .all (.op 20 .all (.op 21 .all (.op 22 .all (.op 23 .all (.op 24 .all (.op 25 .all (.op 26 .all (.op 27 .all (.op 28 .all (.op 29 .all (.op 30 .all (.op 31 .all (.op 32 .all (.op 33 .all (.op 34 .all (.op 35 .all (.op 36 .all (.op 37 .all (.op 38 .all (.op 39 .all (.op 40 .all (.op 41 .all (.op 42 .all (.op 43 .all (.op 44 .all (.nil))))))))))))))))))))))))))))))))))))))))))))), [0, 1, 3, 7, 15, 31, 63, 127, 255, 511, 1023, 511, 2559, 8191, 16383, 32767, 65535, 131071, 262143, 524287, 524287, 1572863, 3670015, 8388607, 16777215, 33554431, 67108863, 134217727, 67108863, 536870911, 1073741823, 2147483647, 4294967295, 4294967295, 12884901887, 34359738367, 68719476735, 137438953471, 4294967295, 279172874239, 1099511627775, 2199023255551, 4398046511103, 8796093022207, 17592186044415]⟩)], inL [19, 27]⟩
theorem en3 {args : List CV} {m : Mem} {R : List CV → Mem → Prop} (hlen : Nat.ble args.length Try.f3.ntmps = true) (h : xwp c3 (bodyOf Try.f3) (QRet tt.get Try.f3.results.toList R) ⟨initF args, [], m, []⟩) : Spec Try.prog 3 args m R :=
  Spec.of_body (c := c3) Try.func3 (by kernel_rfl) (by kernel_rfl) tt_ok wide (by kernel_rfl) hlen h
/- maund files.New -/
noncomputable def c4 : Cfg := ⟨Try.prog, tt.get, inL [9], atL [], inL []⟩
theorem en4 {args : List CV} {m : Mem} {R : List CV → Mem → Prop} (hlen : Nat.ble args.length Try.f4.ntmps = true) (h : xwp c4 (bodyOf Try.f4) (QRet tt.get Try.f4.results.toList R) ⟨initF args, [], m, []⟩) : Spec Try.prog 4 args m R :=
  Spec.of_body (c := c4) Try.func4 (by kernel_rfl) (by kernel_rfl) tt_ok wide (by kernel_rfl) hlen h
/- maund maundlaw16.Great -/
noncomputable def c5 : Cfg := ⟨Try.prog, tt.get, inL [], atL [], inL []⟩
theorem en5 {args : List CV} {m : Mem} {R : List CV → Mem → Prop} (hlen : Nat.ble args.length Try.f5.ntmps = true) (h : xwp c5 (bodyOf Try.f5) (QRet tt.get Try.f5.results.toList R) ⟨initF args, [], m, []⟩) : Spec Try.prog 5 args m R :=
  Spec.of_body (c := c5) Try.func5 (by kernel_rfl) (by kernel_rfl) tt_ok wide (by kernel_rfl) hlen h
/- maund maundlaw16.alive -/
noncomputable def c6 : Cfg := ⟨Try.prog, tt.get, inL [], atL [], inL []⟩
theorem en6 {args : List CV} {m : Mem} {R : List CV → Mem → Prop} (hlen : Nat.ble args.length Try.f6.ntmps = true) (h : xwp c6 (bodyOf Try.f6) (QRet tt.get Try.f6.results.toList R) ⟨initF args, [], m, []⟩) : Spec Try.prog 6 args m R :=
  Spec.of_body (c := c6) Try.func6 (by kernel_rfl) (by kernel_rfl) tt_ok wide (by kernel_rfl) hlen h
/- maund log.Open -/
noncomputable def c7 : Cfg := ⟨Try.prog, tt.get, inL [17], atL [], inL []⟩
theorem en7 {args : List CV} {m : Mem} {R : List CV → Mem → Prop} (hlen : Nat.ble args.length Try.f7.ntmps = true) (h : xwp c7 (bodyOf Try.f7) (QRet tt.get Try.f7.results.toList R) ⟨initF args, [], m, []⟩) : Spec Try.prog 7 args m R :=
  Spec.of_body (c := c7) Try.func7 (by kernel_rfl) (by kernel_rfl) tt_ok wide (by kernel_rfl) hlen h
/- (*maund log.Log).Append -/
noncomputable def c8 : Cfg := ⟨Try.prog, tt.get, inL [], atL [(6, ⟨.op 0 .all (.op 1 .all (.op 2 .all (.op 3 .all (.op 4 .all (.op 5 .all (.op 6 .all (.op 7 .all (.op 8 .all (.op 9 .all (.op 10 .all (.op 11 .none (.op 12 .all (.nil))))))))))))), [0, 1, 3, 7, 15, 0, 32, 96, 224, 480, 0, 2047, 4095]⟩)], inL []⟩
theorem en8 {args : List CV} {m : Mem} {R : List CV → Mem → Prop} (hlen : Nat.ble args.length Try.f8.ntmps = true) (h : xwp c8 (bodyOf Try.f8) (QRet tt.get Try.f8.results.toList R) ⟨initF args, [], m, []⟩) : Spec Try.prog 8 args m R :=
  Spec.of_body (c := c8) Try.func8 (by kernel_rfl) (by kernel_rfl) tt_ok wide (by kernel_rfl) hlen h
/- (*maund log.Log).Sync -/
noncomputable def c9 : Cfg := ⟨Try.prog, tt.get, inL [], atL [], inL []⟩
theorem en9 {args : List CV} {m : Mem} {R : List CV → Mem → Prop} (hlen : Nat.ble args.length Try.f9.ntmps = true) (h : xwp c9 (bodyOf Try.f9) (QRet tt.get Try.f9.results.toList R) ⟨initF args, [], m, []⟩) : Spec Try.prog 9 args m R :=
  Spec.of_body (c := c9) Try.func9 (by kernel_rfl) (by kernel_rfl) tt_ok wide (by kernel_rfl) hlen h
/- (*maund log.Log).Sure -/
noncomputable def c10 : Cfg := ⟨Try.prog, tt.get, inL [], atL [], inL []⟩
theorem en10 {args : List CV} {m : Mem} {R : List CV → Mem → Prop} (hlen : Nat.ble args.length Try.f10.ntmps = true) (h : xwp c10 (bodyOf Try.f10) (QRet tt.get Try.f10.results.toList R) ⟨initF args, [], m, []⟩) : Spec Try.prog 10 args m R :=
  Spec.of_body (c := c10) Try.func10 (by kernel_rfl) (by kernel_rfl) tt_ok wide (by kernel_rfl) hlen h
/- (*maund files.Files).Crash -/
noncomputable def c11 : Cfg := ⟨Try.prog, tt.get, inL [], atL [(6, ⟨.op 0 .all (.op 1 .all (.op 2 .all (.op 3 .all (.op 4 .all (.op 5 .all (.op 6 .all (.op 7 .all (.op 8 .all (.op 9 .all (.op 10 .all (.op 11 .all (.op 12 .all (.op 13 .all (.op 14 .all (.op 15 .all (.op 16 .all (.nil))))))))))))))))), [0, 0, 3, 7, 15, 0, 32, 96, 224, 480, 0, 1024, 3072, 7168, 16352, 32767, 65535]⟩),
  (8, ⟨.op 0 .all (.op 1 .all (.op 2 .all (.op 3 .all (.op 4 .all (.op 5 .all (.op 6 .all (.op 7 .all (.op 8 .all (.op 9 .all (.op 10 .all (.op 11 .all (.op 12 .all (.op 13 .all (.op 14 .all (.op 15 .all (.op 16 .none (.nil))))))))))))))))), [0, 0, 2, 6, 14, 0, 32, 96, 224, 0, 512, 1536, 3584, 8190, 16383, 32767, 65535]⟩)], inL []⟩
theorem en11 {args : List CV} {m : Mem} {R : List CV → Mem → Prop} (hlen : Nat.ble args.length Try.f11.ntmps = true) (h : xwp c11 (bodyOf Try.f11) (QRet tt.get Try.f11.results.toList R) ⟨initF args, [], m, []⟩) : Spec Try.prog 11 args m R :=
  Spec.of_body (c := c11) Try.func11 (by kernel_rfl) (by kernel_rfl) tt_ok wide (by kernel_rfl) hlen h
/- maund maundlaw16.same -/
noncomputable def c12 : Cfg := ⟨Try.prog, tt.get, inL [], atL [(6, ⟨.op 0 .all (.op 1 .all (.op 2 .all (.op 3 .all (.op 4 .all (.op 5 .all (.op 6 .all (.op 7 .all (.op 8 .all (.op 9 .all (.op 10 .all (.nil))))))))))), [0, 0, 3, 7, 15, 0, 0, 96, 224, 480, 1023]⟩)], inL []⟩
theorem en12 {args : List CV} {m : Mem} {R : List CV → Mem → Prop} (hlen : Nat.ble args.length Try.f12.ntmps = true) (h : xwp c12 (bodyOf Try.f12) (QRet tt.get Try.f12.results.toList R) ⟨initF args, [], m, []⟩) : Spec Try.prog 12 args m R :=
  Spec.of_body (c := c12) Try.func12 (by kernel_rfl) (by kernel_rfl) tt_ok wide (by kernel_rfl) hlen h
/- (*maund log.Log).All -/
noncomputable def c13 : Cfg := ⟨Try.prog, tt.get, inL [], atL [], inL []⟩
theorem en13 {args : List CV} {m : Mem} {R : List CV → Mem → Prop} (hlen : Nat.ble args.length Try.f13.ntmps = true) (h : xwp c13 (bodyOf Try.f13) (QRet tt.get Try.f13.results.toList R) ⟨initF args, [], m, []⟩) : Spec Try.prog 13 args m R :=
  Spec.of_body (c := c13) Try.func13 (by kernel_rfl) (by kernel_rfl) tt_ok wide (by kernel_rfl) hlen h
/- (*maund log.Log).Name -/
noncomputable def c14 : Cfg := ⟨Try.prog, tt.get, inL [], atL [], inL []⟩
theorem en14 {args : List CV} {m : Mem} {R : List CV → Mem → Prop} (hlen : Nat.ble args.length Try.f14.ntmps = true) (h : xwp c14 (bodyOf Try.f14) (QRet tt.get Try.f14.results.toList R) ⟨initF args, [], m, []⟩) : Spec Try.prog 14 args m R :=
  Spec.of_body (c := c14) Try.func14 (by kernel_rfl) (by kernel_rfl) tt_ok wide (by kernel_rfl) hlen h
/- (*maund files.Files).Used -/
noncomputable def c15 : Cfg := ⟨Try.prog, tt.get, inL [], atL [], inL []⟩
theorem en15 {args : List CV} {m : Mem} {R : List CV → Mem → Prop} (hlen : Nat.ble args.length Try.f15.ntmps = true) (h : xwp c15 (bodyOf Try.f15) (QRet tt.get Try.f15.results.toList R) ⟨initF args, [], m, []⟩) : Spec Try.prog 15 args m R :=
  Spec.of_body (c := c15) Try.func15 (by kernel_rfl) (by kernel_rfl) tt_ok wide (by kernel_rfl) hlen h
/- (*maund files.Files).Read -/
noncomputable def c16 : Cfg := ⟨Try.prog, tt.get, inL [], atL [], inL []⟩
theorem en16 {args : List CV} {m : Mem} {R : List CV → Mem → Prop} (hlen : Nat.ble args.length Try.f16.ntmps = true) (h : xwp c16 (bodyOf Try.f16) (QRet tt.get Try.f16.results.toList R) ⟨initF args, [], m, []⟩) : Spec Try.prog 16 args m R :=
  Spec.of_body (c := c16) Try.func16 (by kernel_rfl) (by kernel_rfl) tt_ok wide (by kernel_rfl) hlen h
/- (*maund files.Files).Append -/
noncomputable def c17 : Cfg := ⟨Try.prog, tt.get, inL [45], atL [(6, ⟨.op 0 .all (.op 1 .all (.op 2 .all (.op 3 .all (.op 4 .all (.op 5 .all (.op 6 .all (.op 8 .all (.op 9 .all (.op 10 .all (.op 11 .all (.op 12 .all (.op 13 .all (.op 14 .all (.op 7 .all (.op 15 .all (.op 16 .all (.op 17 .all (.nil)))))))))))))))))), [0, 1, 3, 7, 15, 31, 63, 127, 63, 319, 831, 1855, 63, 4159, 16191, 32767, 65535, 131071]⟩)], inL [11]⟩
theorem en17 {args : List CV} {m : Mem} {R : List CV → Mem → Prop} (hlen : Nat.ble args.length Try.f17.ntmps = true) (h : xwp c17 (bodyOf Try.f17) (QRet tt.get Try.f17.results.toList R) ⟨initF args, [], m, []⟩) : Spec Try.prog 17 args m R :=
  Spec.of_body (c := c17) Try.func17 (by kernel_rfl) (by kernel_rfl) tt_ok wide (by kernel_rfl) hlen h
/- (*maund files.Files).Remove -/
noncomputable def c18 : Cfg := ⟨Try.prog, tt.get, inL [], atL [], inL []⟩
theorem en18 {args : List CV} {m : Mem} {R : List CV → Mem → Prop} (hlen : Nat.ble args.length Try.f18.ntmps = true) (h : xwp c18 (bodyOf Try.f18) (QRet tt.get Try.f18.results.toList R) ⟨initF args, [], m, []⟩) : Spec Try.prog 18 args m R :=
  Spec.of_body (c := c18) Try.func18 (by kernel_rfl) (by kernel_rfl) tt_ok wide (by kernel_rfl) hlen h
/- maund frame.Read -/
noncomputable def c19 : Cfg := ⟨Try.prog, tt.get, inL [], atL [], inL []⟩
theorem en19 {args : List CV} {m : Mem} {R : List CV → Mem → Prop} (hlen : Nat.ble args.length Try.f19.ntmps = true) (h : xwp c19 (bodyOf Try.f19) (QRet tt.get Try.f19.results.toList R) ⟨initF args, [], m, []⟩) : Spec Try.prog 19 args m R :=
  Spec.of_body (c := c19) Try.func19 (by kernel_rfl) (by kernel_rfl) tt_ok wide (by kernel_rfl) hlen h
/- (*maund files.Files).Cut -/
noncomputable def c20 : Cfg := ⟨Try.prog, tt.get, inL [], atL [(6, ⟨.op 0 .all (.op 1 .all (.op 2 .all (.op 3 .all (.op 4 .all (.op 5 .all (.op 6 .all (.op 7 .all (.op 8 .all (.op 9 .all (.op 10 .all (.op 11 .all (.op 12 .all (.op 13 .all (.op 14 .all (.op 15 .all (.op 16 .all (.op 17 .none (.op 18 .all (.op 19 .all (.op 20 .none (.nil))))))))))))))))))))), [0, 0, 0, 4, 12, 28, 0, 0, 252, 0, 512, 1536, 3584, 0, 15872, 8189, 40957, 106493, 262143, 524287, 1048575]⟩)], inL []⟩
theorem en20 {args : List CV} {m : Mem} {R : List CV → Mem → Prop} (hlen : Nat.ble args.length Try.f20.ntmps = true) (h : xwp c20 (bodyOf Try.f20) (QRet tt.get Try.f20.results.toList R) ⟨initF args, [], m, []⟩) : Spec Try.prog 20 args m R :=
  Spec.of_body (c := c20) Try.func20 (by kernel_rfl) (by kernel_rfl) tt_ok wide (by kernel_rfl) hlen h
/- (maund log.place).sync -/
noncomputable def c21 : Cfg := ⟨Try.prog, tt.get, inL [], atL [], inL []⟩
theorem en21 {args : List CV} {m : Mem} {R : List CV → Mem → Prop} (hlen : Nat.ble args.length Try.f21.ntmps = true) (h : xwp c21 (bodyOf Try.f21) (QRet tt.get Try.f21.results.toList R) ⟨initF args, [], m, []⟩) : Spec Try.prog 21 args m R :=
  Spec.of_body (c := c21) Try.func21 (by kernel_rfl) (by kernel_rfl) tt_ok wide (by kernel_rfl) hlen h
/- (*maund log.Log).made -/
noncomputable def c22 : Cfg := ⟨Try.prog, tt.get, inL [], atL [], inL []⟩
theorem en22 {args : List CV} {m : Mem} {R : List CV → Mem → Prop} (hlen : Nat.ble args.length Try.f22.ntmps = true) (h : xwp c22 (bodyOf Try.f22) (QRet tt.get Try.f22.results.toList R) ⟨initF args, [], m, []⟩) : Spec Try.prog 22 args m R :=
  Spec.of_body (c := c22) Try.func22 (by kernel_rfl) (by kernel_rfl) tt_ok wide (by kernel_rfl) hlen h
/- maund frame.Write -/
noncomputable def c23 : Cfg := ⟨Try.prog, tt.get, inL [], atL [], inL []⟩
theorem en23 {args : List CV} {m : Mem} {R : List CV → Mem → Prop} (hlen : Nat.ble args.length Try.f23.ntmps = true) (h : xwp c23 (bodyOf Try.f23) (QRet tt.get Try.f23.results.toList R) ⟨initF args, [], m, []⟩) : Spec Try.prog 23 args m R :=
  Spec.of_body (c := c23) Try.func23 (by kernel_rfl) (by kernel_rfl) tt_ok wide (by kernel_rfl) hlen h
/- (*maund files.Files).Names -/
noncomputable def c24 : Cfg := ⟨Try.prog, tt.get, inL [], atL [], inL []⟩
theorem en24 {args : List CV} {m : Mem} {R : List CV → Mem → Prop} (hlen : Nat.ble args.length Try.f24.ntmps = true) (h : xwp c24 (bodyOf Try.f24) (QRet tt.get Try.f24.results.toList R) ⟨initF args, [], m, []⟩) : Spec Try.prog 24 args m R :=
  Spec.of_body (c := c24) Try.func24 (by kernel_rfl) (by kernel_rfl) tt_ok wide (by kernel_rfl) hlen h
/- (*maund files.Files).find -/
noncomputable def c25 : Cfg := ⟨Try.prog, tt.get, inL [], atL [], inL []⟩
theorem en25 {args : List CV} {m : Mem} {R : List CV → Mem → Prop} (hlen : Nat.ble args.length Try.f25.ntmps = true) (h : xwp c25 (bodyOf Try.f25) (QRet tt.get Try.f25.results.toList R) ⟨initF args, [], m, []⟩) : Spec Try.prog 25 args m R :=
  Spec.of_body (c := c25) Try.func25 (by kernel_rfl) (by kernel_rfl) tt_ok wide (by kernel_rfl) hlen h
/- slices.Clone[[]byte,byte] -/
noncomputable def c26 : Cfg := ⟨Try.prog, tt.get, inL [], atL [], inL []⟩
theorem en26 {args : List CV} {m : Mem} {R : List CV → Mem → Prop} (hlen : Nat.ble args.length Try.f26.ntmps = true) (h : xwp c26 (bodyOf Try.f26) (QRet tt.get Try.f26.results.toList R) ⟨initF args, [], m, []⟩) : Spec Try.prog 26 args m R :=
  Spec.of_body (c := c26) Try.func26 (by kernel_rfl) (by kernel_rfl) tt_ok wide (by kernel_rfl) hlen h
/- maund files.isName -/
noncomputable def c27 : Cfg := ⟨Try.prog, tt.get, inL [], atL [], inL []⟩
theorem en27 {args : List CV} {m : Mem} {R : List CV → Mem → Prop} (hlen : Nat.ble args.length Try.f27.ntmps = true) (h : xwp c27 (bodyOf Try.f27) (QRet tt.get Try.f27.results.toList R) ⟨initF args, [], m, []⟩) : Spec Try.prog 27 args m R :=
  Spec.of_body (c := c27) Try.func27 (by kernel_rfl) (by kernel_rfl) tt_ok wide (by kernel_rfl) hlen h
/- (*sync atomic.Uint64).Add -/
noncomputable def c28 : Cfg := ⟨Try.prog, tt.get, inL [], atL [], inL []⟩
theorem en28 {args : List CV} {m : Mem} {R : List CV → Mem → Prop} (hlen : Nat.ble args.length Try.f28.ntmps = true) (h : xwp c28 (bodyOf Try.f28) (QRet tt.get Try.f28.results.toList R) ⟨initF args, [], m, []⟩) : Spec Try.prog 28 args m R :=
  Spec.of_body (c := c28) Try.func28 (by kernel_rfl) (by kernel_rfl) tt_ok wide (by kernel_rfl) hlen h
/- maund frame.next -/
noncomputable def c29 : Cfg := ⟨Try.prog, tt.get, inL [], atL [(11, ⟨.op 0 .all (.op 3 .all (.op 4 .all (.op 5 .all (.op 6 .all (.op 7 .all (.op 8 .all (.op 9 .all (.op 10 .all (.op 11 .all (.op 1 .none (.op 2 .none (.op 12 .none (.op 13 .all (.nil)))))))))))))), [0, 1, 3, 0, 0, 0, 48, 0, 0, 384, 896, 2040, 4095, 8191]⟩)], inL []⟩
theorem en29 {args : List CV} {m : Mem} {R : List CV → Mem → Prop} (hlen : Nat.ble args.length Try.f29.ntmps = true) (h : xwp c29 (bodyOf Try.f29) (QRet tt.get Try.f29.results.toList R) ⟨initF args, [], m, []⟩) : Spec Try.prog 29 args m R :=
  Spec.of_body (c := c29) Try.func29 (by kernel_rfl) (by kernel_rfl) tt_ok wide (by kernel_rfl) hlen h
/- (*maund files.Files).Sync -/
noncomputable def c30 : Cfg := ⟨Try.prog, tt.get, inL [], atL [], inL []⟩
theorem en30 {args : List CV} {m : Mem} {R : List CV → Mem → Prop} (hlen : Nat.ble args.length Try.f30.ntmps = true) (h : xwp c30 (bodyOf Try.f30) (QRet tt.get Try.f30.results.toList R) ⟨initF args, [], m, []⟩) : Spec Try.prog 30 args m R :=
  Spec.of_body (c := c30) Try.func30 (by kernel_rfl) (by kernel_rfl) tt_ok wide (by kernel_rfl) hlen h
/- maund frame.isRecord -/
noncomputable def c31 : Cfg := ⟨Try.prog, tt.get, inL [], atL [], inL []⟩
theorem en31 {args : List CV} {m : Mem} {R : List CV → Mem → Prop} (hlen : Nat.ble args.length Try.f31.ntmps = true) (h : xwp c31 (bodyOf Try.f31) (QRet tt.get Try.f31.results.toList R) ⟨initF args, [], m, []⟩) : Spec Try.prog 31 args m R :=
  Spec.of_body (c := c31) Try.func31 (by kernel_rfl) (by kernel_rfl) tt_ok wide (by kernel_rfl) hlen h
/- slices.Concat[[]byte,byte] -/
noncomputable def c32 : Cfg := ⟨Try.prog, tt.get, inL [], atL [], inL []⟩
theorem en32 {args : List CV} {m : Mem} {R : List CV → Mem → Prop} (hlen : Nat.ble args.length Try.f32.ntmps = true) (h : xwp c32 (bodyOf Try.f32) (QRet tt.get Try.f32.results.toList R) ⟨initF args, [], m, []⟩) : Spec Try.prog 32 args m R :=
  Spec.of_body (c := c32) Try.func32 (by kernel_rfl) (by kernel_rfl) tt_ok wide (by kernel_rfl) hlen h
/- maund frame.head -/
noncomputable def c33 : Cfg := ⟨Try.prog, tt.get, inL [5], atL [], inL []⟩
theorem en33 {args : List CV} {m : Mem} {R : List CV → Mem → Prop} (hlen : Nat.ble args.length Try.f33.ntmps = true) (h : xwp c33 (bodyOf Try.f33) (QRet tt.get Try.f33.results.toList R) ⟨initF args, [], m, []⟩) : Spec Try.prog 33 args m R :=
  Spec.of_body (c := c33) Try.func33 (by kernel_rfl) (by kernel_rfl) tt_ok wide (by kernel_rfl) hlen h
/- maund frame.four -/
noncomputable def c34 : Cfg := ⟨Try.prog, tt.get, inL [], atL [], inL []⟩
theorem en34 {args : List CV} {m : Mem} {R : List CV → Mem → Prop} (hlen : Nat.ble args.length Try.f34.ntmps = true) (h : xwp c34 (bodyOf Try.f34) (QRet tt.get Try.f34.results.toList R) ⟨initF args, [], m, []⟩) : Spec Try.prog 34 args m R :=
  Spec.of_body (c := c34) Try.func34 (by kernel_rfl) (by kernel_rfl) tt_ok wide (by kernel_rfl) hlen h
/- maund frame.Sum -/
noncomputable def c35 : Cfg := ⟨Try.prog, tt.get, inL [], atL [], inL []⟩
theorem en35 {args : List CV} {m : Mem} {R : List CV → Mem → Prop} (hlen : Nat.ble args.length Try.f35.ntmps = true) (h : xwp c35 (bodyOf Try.f35) (QRet tt.get Try.f35.results.toList R) ⟨initF args, [], m, []⟩) : Spec Try.prog 35 args m R :=
  Spec.of_body (c := c35) Try.func35 (by kernel_rfl) (by kernel_rfl) tt_ok wide (by kernel_rfl) hlen h
/- slices.Sort[[]string,string] -/
noncomputable def c36 : Cfg := ⟨Try.prog, tt.get, inL [], atL [], inL []⟩
theorem en36 {args : List CV} {m : Mem} {R : List CV → Mem → Prop} (hlen : Nat.ble args.length Try.f36.ntmps = true) (h : xwp c36 (bodyOf Try.f36) (QRet tt.get Try.f36.results.toList R) ⟨initF args, [], m, []⟩) : Spec Try.prog 36 args m R :=
  Spec.of_body (c := c36) Try.func36 (by kernel_rfl) (by kernel_rfl) tt_ok wide (by kernel_rfl) hlen h
/- (*maund files.Files).made -/
noncomputable def c37 : Cfg := ⟨Try.prog, tt.get, inL [], atL [], inL []⟩
theorem en37 {args : List CV} {m : Mem} {R : List CV → Mem → Prop} (hlen : Nat.ble args.length Try.f37.ntmps = true) (h : xwp c37 (bodyOf Try.f37) (QRet tt.get Try.f37.results.toList R) ⟨initF args, [], m, []⟩) : Spec Try.prog 37 args m R :=
  Spec.of_body (c := c37) Try.func37 (by kernel_rfl) (by kernel_rfl) tt_ok wide (by kernel_rfl) hlen h
/- maund files.isByte -/
noncomputable def c38 : Cfg := ⟨Try.prog, tt.get, inL [], atL [], inL []⟩
theorem en38 {args : List CV} {m : Mem} {R : List CV → Mem → Prop} (hlen : Nat.ble args.length Try.f38.ntmps = true) (h : xwp c38 (bodyOf Try.f38) (QRet tt.get Try.f38.results.toList R) ⟨initF args, [], m, []⟩) : Spec Try.prog 38 args m R :=
  Spec.of_body (c := c38) Try.func38 (by kernel_rfl) (by kernel_rfl) tt_ok wide (by kernel_rfl) hlen h
/- maund wire.From -/
noncomputable def c40 : Cfg := ⟨Try.prog, tt.get, inL [6], atL [], inL []⟩
theorem en40 {args : List CV} {m : Mem} {R : List CV → Mem → Prop} (hlen : Nat.ble args.length Try.f40.ntmps = true) (h : xwp c40 (bodyOf Try.f40) (QRet tt.get Try.f40.results.toList R) ⟨initF args, [], m, []⟩) : Spec Try.prog 40 args m R :=
  Spec.of_body (c := c40) Try.func40 (by kernel_rfl) (by kernel_rfl) tt_ok wide (by kernel_rfl) hlen h
/- (*maund wire.Reader).Small -/
noncomputable def c41 : Cfg := ⟨Try.prog, tt.get, inL [], atL [], inL []⟩
theorem en41 {args : List CV} {m : Mem} {R : List CV → Mem → Prop} (hlen : Nat.ble args.length Try.f41.ntmps = true) (h : xwp c41 (bodyOf Try.f41) (QRet tt.get Try.f41.results.toList R) ⟨initF args, [], m, []⟩) : Spec Try.prog 41 args m R :=
  Spec.of_body (c := c41) Try.func41 (by kernel_rfl) (by kernel_rfl) tt_ok wide (by kernel_rfl) hlen h
/- (*maund wire.Reader).Err -/
noncomputable def c42 : Cfg := ⟨Try.prog, tt.get, inL [], atL [], inL []⟩
theorem en42 {args : List CV} {m : Mem} {R : List CV → Mem → Prop} (hlen : Nat.ble args.length Try.f42.ntmps = true) (h : xwp c42 (bodyOf Try.f42) (QRet tt.get Try.f42.results.toList R) ⟨initF args, [], m, []⟩) : Spec Try.prog 42 args m R :=
  Spec.of_body (c := c42) Try.func42 (by kernel_rfl) (by kernel_rfl) tt_ok wide (by kernel_rfl) hlen h
/- slices.Equal[[]byte,byte] -/
noncomputable def c43 : Cfg := ⟨Try.prog, tt.get, inL [], atL [(6, ⟨.op 0 .all (.op 1 .all (.op 2 .all (.op 3 .all (.op 4 .all (.op 5 .all (.op 6 .all (.op 7 .all (.op 8 .all (.nil))))))))), [0, 0, 3, 7, 0, 0, 48, 112, 255]⟩)], inL []⟩
theorem en43 {args : List CV} {m : Mem} {R : List CV → Mem → Prop} (hlen : Nat.ble args.length Try.f43.ntmps = true) (h : xwp c43 (bodyOf Try.f43) (QRet tt.get Try.f43.results.toList R) ⟨initF args, [], m, []⟩) : Spec Try.prog 43 args m R :=
  Spec.of_body (c := c43) Try.func43 (by kernel_rfl) (by kernel_rfl) tt_ok wide (by kernel_rfl) hlen h
/- slices.Grow[[]byte,byte] -/
noncomputable def c44 : Cfg := ⟨Try.prog, tt.get, inL [], atL [], inL []⟩
theorem en44 {args : List CV} {m : Mem} {R : List CV → Mem → Prop} (hlen : Nat.ble args.length Try.f44.ntmps = true) (h : xwp c44 (bodyOf Try.f44) (QRet tt.get Try.f44.results.toList R) ⟨initF args, [], m, []⟩) : Spec Try.prog 44 args m R :=
  Spec.of_body (c := c44) Try.func44 (by kernel_rfl) (by kernel_rfl) tt_ok wide (by kernel_rfl) hlen h
/- (*maund wire.Writer).Num -/
noncomputable def c45 : Cfg := ⟨Try.prog, tt.get, inL [], atL [(10, ⟨.op 0 .all (.op 1 .all (.op 2 .all (.op 3 .all (.op 4 .all (.op 5 .all (.op 6 .all (.op 7 .all (.op 8 .all (.op 9 .all (.op 10 .all (.op 11 .none (.op 12 .all (.op 13 .all (.op 14 .none (.nil))))))))))))))), [0, 0, 2, 6, 14, 0, 0, 64, 224, 480, 992, 2046, 4095, 8191, 16383]⟩)], inL []⟩
theorem en45 {args : List CV} {m : Mem} {R : List CV → Mem → Prop} (hlen : Nat.ble args.length Try.f45.ntmps = true) (h : xwp c45 (bodyOf Try.f45) (QRet tt.get Try.f45.results.toList R) ⟨initF args, [], m, []⟩) : Spec Try.prog 45 args m R :=
  Spec.of_body (c := c45) Try.func45 (by kernel_rfl) (by kernel_rfl) tt_ok wide (by kernel_rfl) hlen h
/- (*maund wire.Writer).Bytes -/
noncomputable def c46 : Cfg := ⟨Try.prog, tt.get, inL [], atL [], inL []⟩
theorem en46 {args : List CV} {m : Mem} {R : List CV → Mem → Prop} (hlen : Nat.ble args.length Try.f46.ntmps = true) (h : xwp c46 (bodyOf Try.f46) (QRet tt.get Try.f46.results.toList R) ⟨initF args, [], m, []⟩) : Spec Try.prog 46 args m R :=
  Spec.of_body (c := c46) Try.func46 (by kernel_rfl) (by kernel_rfl) tt_ok wide (by kernel_rfl) hlen h
/- slices.pdqsortOrdered[string] -/
noncomputable def c47 : Cfg := ⟨Try.prog, tt.get, inL [], atL [(17, ⟨.op 0 .all (.op 1 .all (.op 2 .all (.op 3 .all (.op 4 .all (.op 5 .all (.op 6 .all (.op 7 .all (.op 8 .all (.op 9 .all (.op 10 .all (.op 11 .all (.op 12 .none (.op 13 .all (.op 14 .all (.nil))))))))))))))), [0, 1, 3, 7, 7, 23, 63, 127, 7, 7, 775, 1799, 4095, 8191, 16383]⟩)], inL []⟩
theorem en47 {args : List CV} {m : Mem} {R : List CV → Mem → Prop} (hlen : Nat.ble args.length Try.f47.ntmps = true) (h : xwp c47 (bodyOf Try.f47) (QRet tt.get Try.f47.results.toList R) ⟨initF args, [], m, []⟩) : Spec Try.prog 47 args m R :=
  Spec.of_body (c := c47) Try.func47 (by kernel_rfl) (by kernel_rfl) tt_ok wide (by kernel_rfl) hlen h
/- math bits.Len -/
noncomputable def c48 : Cfg := ⟨Try.prog, tt.get, inL [], atL [], inL []⟩
theorem en48 {args : List CV} {m : Mem} {R : List CV → Mem → Prop} (hlen : Nat.ble args.length Try.f48.ntmps = true) (h : xwp c48 (bodyOf Try.f48) (QRet tt.get Try.f48.results.toList R) ⟨initF args, [], m, []⟩) : Spec Try.prog 48 args m R :=
  Spec.of_body (c := c48) Try.func48 (by kernel_rfl) (by kernel_rfl) tt_ok wide (by kernel_rfl) hlen h
/- (*maund wire.Reader).Num -/
noncomputable def c49 : Cfg := ⟨Try.prog, tt.get, inL [], atL [], inL []⟩
theorem en49 {args : List CV} {m : Mem} {R : List CV → Mem → Prop} (hlen : Nat.ble args.length Try.f49.ntmps = true) (h : xwp c49 (bodyOf Try.f49) (QRet tt.get Try.f49.results.toList R) ⟨initF args, [], m, []⟩) : Spec Try.prog 49 args m R :=
  Spec.of_body (c := c49) Try.func49 (by kernel_rfl) (by kernel_rfl) tt_ok wide (by kernel_rfl) hlen h
/- (*maund wire.Reader).Must -/
noncomputable def c50 : Cfg := ⟨Try.prog, tt.get, inL [], atL [], inL []⟩
theorem en50 {args : List CV} {m : Mem} {R : List CV → Mem → Prop} (hlen : Nat.ble args.length Try.f50.ntmps = true) (h : xwp c50 (bodyOf Try.f50) (QRet tt.get Try.f50.results.toList R) ⟨initF args, [], m, []⟩) : Spec Try.prog 50 args m R :=
  Spec.of_body (c := c50) Try.func50 (by kernel_rfl) (by kernel_rfl) tt_ok wide (by kernel_rfl) hlen h
/- slices.insertionSortOrdered[string] -/
noncomputable def c51 : Cfg := ⟨Try.prog, tt.get, inL [], atL [(4, ⟨.op 0 .all (.op 1 .all (.op 2 .all (.op 3 .all (.op 4 .all (.op 5 .all (.op 6 .all (.op 7 .all (.op 8 .all (.op 9 .all (.op 10 .all (.op 11 .all (.op 12 .all (.op 13 .none (.op 14 .all (.nil))))))))))))))), [0, 0, 3, 7, 15, 15, 63, 127, 15, 15, 527, 1807, 3855, 8191, 16383]⟩),
  (6, ⟨.op 0 .all (.op 1 .all (.op 2 .all (.op 3 .all (.op 4 .all (.op 5 .all (.op 6 .all (.op 7 .all (.op 8 .all (.op 9 .all (.op 10 .all (.op 11 .all (.op 12 .all (.op 13 .all (.op 14 .all (.op 15 .none (.op 16 .all (.op 17 .none (.nil)))))))))))))))))), [0, 0, 0, 0, 8, 0, 0, 64, 224, 480, 0, 0, 3072, 7168, 16355, 32739, 65535, 131071]⟩)], inL []⟩
theorem en51 {args : List CV} {m : Mem} {R : List CV → Mem → Prop} (hlen : Nat.ble args.length Try.f51.ntmps = true) (h : xwp c51 (bodyOf Try.f51) (QRet tt.get Try.f51.results.toList R) ⟨initF args, [], m, []⟩) : Spec Try.prog 51 args m R :=
  Spec.of_body (c := c51) Try.func51 (by kernel_rfl) (by kernel_rfl) tt_ok wide (by kernel_rfl) hlen h
/- slices.heapSortOrdered[string] -/
noncomputable def c52 : Cfg := ⟨Try.prog, tt.get, inL [], atL [(10, ⟨.op 0 .all (.op 1 .all (.op 2 .all (.op 3 .all (.op 4 .all (.op 5 .all (.op 6 .all (.op 7 .all (.op 8 .all (.op 9 .all (.op 10 .all (.op 11 .all (.op 12 .all (.op 13 .all (.op 14 .all (.op 15 .all (.op 16 .all (.op 17 .none (.op 18 .all (.op 19 .none (.nil)))))))))))))))))))), [0, 0, 0, 0, 0, 24, 0, 0, 0, 384, 960, 1984, 0, 0, 12288, 28672, 65475, 131011, 262143, 524287]⟩)], inL []⟩
theorem en52 {args : List CV} {m : Mem} {R : List CV → Mem → Prop} (hlen : Nat.ble args.length Try.f52.ntmps = true) (h : xwp c52 (bodyOf Try.f52) (QRet tt.get Try.f52.results.toList R) ⟨initF args, [], m, []⟩) : Spec Try.prog 52 args m R :=
  Spec.of_body (c := c52) Try.func52 (by kernel_rfl) (by kernel_rfl) tt_ok wide (by kernel_rfl) hlen h
/- slices.breakPatternsOrdered[string] -/
noncomputable def c53 : Cfg := ⟨Try.prog, tt.get, inL [], atL [(10, ⟨.op 0 .all (.op 1 .all (.op 2 .all (.op 3 .all (.op 4 .all (.op 5 .all (.op 6 .all (.op 7 .all (.op 8 .all (.op 9 .all (.op 10 .all (.op 11 .all (.op 12 .all (.op 13 .all (.op 14 .all (.op 15 .all (.op 16 .all (.op 17 .none (.op 18 .all (.op 19 .none (.nil)))))))))))))))))))), [0, 0, 0, 0, 0, 24, 0, 0, 0, 384, 960, 1984, 0, 0, 12288, 28672, 65475, 131011, 262143, 524287]⟩)], inL []⟩
theorem en53 {args : List CV} {m : Mem} {R : List CV → Mem → Prop} (hlen : Nat.ble args.length Try.f53.ntmps = true) (h : xwp c53 (bodyOf Try.f53) (QRet tt.get Try.f53.results.toList R) ⟨initF args, [], m, []⟩) : Spec Try.prog 53 args m R :=
  Spec.of_body (c := c53) Try.func53 (by kernel_rfl) (by kernel_rfl) tt_ok wide (by kernel_rfl) hlen h
/- slices.choosePivotOrdered[string] -/
noncomputable def c54 : Cfg := ⟨Try.prog, tt.get, inL [], atL [], inL []⟩
theorem en54 {args : List CV} {m : Mem} {R : List CV → Mem → Prop} (hlen : Nat.ble args.length Try.f54.ntmps = true) (h : xwp c54 (bodyOf Try.f54) (QRet tt.get Try.f54.results.toList R) ⟨initF args, [], m, []⟩) : Spec Try.prog 54 args m R :=
  Spec.of_body (c := c54) Try.func54 (by kernel_rfl) (by kernel_rfl) tt_ok wide (by kernel_rfl) hlen h
/- slices.reverseRangeOrdered[string] -/
noncomputable def c55 : Cfg := ⟨Try.prog, tt.get, inL [], atL [(3, ⟨.op 0 .all (.op 1 .all (.op 2 .all (.op 3 .all (.op 4 .all (.op 5 .all (.op 6 .all (.op 7 .all (.op 8 .all (.op 9 .all (.op 10 .all (.op 11 .all (.op 12 .all (.op 13 .none (.op 14 .all (.op 15 .none (.nil)))))))))))))))), [0, 0, 0, 0, 0, 0, 48, 112, 0, 0, 768, 1792, 4083, 8179, 16383, 32767]⟩)], inL []⟩
theorem en55 {args : List CV} {m : Mem} {R : List CV → Mem → Prop} (hlen : Nat.ble args.length Try.f55.ntmps = true) (h : xwp c55 (bodyOf Try.f55) (QRet tt.get Try.f55.results.toList R) ⟨initF args, [], m, []⟩) : Spec Try.prog 55 args m R :=
  Spec.of_body (c := c55) Try.func55 (by kernel_rfl) (by kernel_rfl) tt_ok wide (by kernel_rfl) hlen h
/- slices.partialInsertionSortOrdered[string] -/
noncomputable def c56 : Cfg := ⟨Try.prog, tt.get, inL [], atL [(5, ⟨.op 0 .all (.op 1 .all (.op 2 .all (.op 3 .all (.op 4 .all (.op 5 .all (.op 6 .all (.op 7 .all (.op 8 .all (.op 9 .all (.op 10 .all (.op 11 .all (.op 12 .all (.op 13 .none (.op 14 .all (.op 15 .all (.nil)))))))))))))))), [0, 0, 3, 7, 15, 15, 63, 127, 15, 15, 527, 1807, 3855, 8191, 16383, 32767]⟩),
  (11, ⟨.op 0 .all (.op 1 .all (.op 2 .all (.op 3 .all (.op 4 .all (.op 5 .all (.op 6 .all (.op 7 .all (.op 8 .all (.op 9 .all (.op 10 .all (.op 11 .all (.op 12 .all (.op 13 .all (.op 14 .all (.op 15 .none (.op 16 .all (.op 17 .none (.nil)))))))))))))))))), [0, 0, 0, 0, 8, 0, 0, 64, 224, 480, 0, 0, 3072, 7168, 16355, 32739, 65535, 131071]⟩),
  (16, ⟨.op 0 .all (.op 1 .all (.op 2 .all (.op 3 .all (.op 4 .all (.op 5 .all (.op 6 .all (.op 7 .all (.op 8 .all (.op 9 .none (.op 10 .all (.nil))))))))))), [0, 0, 3, 7, 0, 0, 32, 112, 240, 511, 1023]⟩),
  (17, ⟨.op 0 .all (.op 1 .all (.op 2 .all (.op 3 .all (.op 4 .all (.op 5 .all (.op 6 .all (.op 7 .all (.op 8 .all (.op 9 .all (.op 10 .all (.op 11 .all (.op 12 .all (.op 13 .all (.op 14 .all (.op 15 .none (.op 16 .all (.op 17 .none (.nil)))))))))))))))))), [0, 0, 0, 0, 8, 0, 0, 64, 224, 480, 0, 0, 3072, 7168, 16355, 32739, 65535, 131071]⟩),
  (22, ⟨.op 0 .all (.op 1 .all (.op 2 .all (.op 3 .all (.op 4 .all (.op 5 .all (.op 6 .all (.op 7 .all (.op 8 .all (.op 9 .none (.op 10 .all (.nil))))))))))), [0, 0, 3, 7, 0, 0, 32, 112, 240, 511, 1023]⟩),
  (23, ⟨.op 0 .all (.op 1 .all (.op 2 .all (.op 3 .all (.op 4 .all (.op 5 .all (.op 6 .all (.op 7 .all (.op 8 .all (.op 9 .all (.op 10 .all (.op 11 .all (.op 12 .all (.op 13 .all (.op 14 .all (.op 15 .none (.op 16 .all (.op 17 .none (.nil)))))))))))))))))), [0, 0, 0, 0, 8, 0, 0, 64, 224, 480, 0, 0, 3072, 7168, 16355, 32739, 65535, 131071]⟩)], inL []⟩
theorem en56 {args : List CV} {m : Mem} {R : List CV → Mem → Prop} (hlen : Nat.ble args.length Try.f56.ntmps = true) (h : xwp c56 (bodyOf Try.f56) (QRet tt.get Try.f56.results.toList R) ⟨initF args, [], m, []⟩) : Spec Try.prog 56 args m R :=
  Spec.of_body (c := c56) Try.func56 (by kernel_rfl) (by kernel_rfl) tt_ok wide (by kernel_rfl) hlen h
/- cmp.Less[string] -/
noncomputable def c57 : Cfg := ⟨Try.prog, tt.get, inL [], atL [], inL []⟩
theorem en57 {args : List CV} {m : Mem} {R : List CV → Mem → Prop} (hlen : Nat.ble args.length Try.f57.ntmps = true) (h : xwp c57 (bodyOf Try.f57) (QRet tt.get Try.f57.results.toList R) ⟨initF args, [], m, []⟩) : Spec Try.prog 57 args m R :=
  Spec.of_body (c := c57) Try.func57 (by kernel_rfl) (by kernel_rfl) tt_ok wide (by kernel_rfl) hlen h
/- slices.partitionEqualOrdered[string] -/
noncomputable def c58 : Cfg := ⟨Try.prog, tt.get, inL [], atL [(1, ⟨.op 0 .all (.op 1 .all (.op 2 .all (.op 3 .all (.op 4 .all (.op 5 .all (.op 6 .all (.op 7 .all (.op 8 .all (.op 9 .all (.op 10 .all (.op 11 .all (.op 12 .all (.op 13 .none (.op 14 .all (.op 15 .none (.nil)))))))))))))))), [0, 0, 0, 0, 0, 0, 48, 112, 0, 0, 768, 1792, 4083, 8179, 16383, 32767]⟩),
  (3, ⟨.op 0 .all (.op 1 .all (.op 2 .all (.op 3 .all (.op 4 .all (.op 5 .all (.op 6 .all (.op 7 .all (.op 8 .all (.op 9 .all (.op 10 .all (.op 11 .all (.op 12 .none (.op 13 .all (.op 14 .all (.nil))))))))))))))), [0, 0, 3, 7, 15, 15, 63, 127, 15, 15, 783, 1807, 4095, 8191, 16383]⟩),
  (5, ⟨.op 0 .all (.op 1 .all (.op 2 .all (.op 3 .all (.op 4 .all (.op 5 .all (.op 6 .all (.op 7 .all (.op 8 .all (.op 9 .all (.op 10 .all (.op 11 .all (.op 12 .none (.op 13 .all (.nil)))))))))))))), [0, 0, 3, 7, 15, 15, 63, 127, 15, 15, 783, 1807, 4095, 8191]⟩),
  (8, ⟨.op 0 .all (.op 1 .all (.op 2 .all (.op 3 .all (.op 4 .all (.op 5 .all (.op 6 .all (.op 7 .all (.op 8 .all (.op 9 .all (.op 10 .all (.op 11 .all (.op 12 .all (.op 13 .none (.op 14 .all (.op 15 .none (.nil)))))))))))))))), [0, 0, 0, 0, 0, 0, 48, 112, 0, 0, 768, 1792, 4083, 8179, 16383, 32767]⟩)], inL []⟩
theorem en58 {args : List CV} {m : Mem} {R : List CV → Mem → Prop} (hlen : Nat.ble args.length Try.f58.ntmps = true) (h : xwp c58 (bodyOf Try.f58) (QRet tt.get Try.f58.results.toList R) ⟨initF args, [], m, []⟩) : Spec Try.prog 58 args m R :=
  Spec.of_body (c := c58) Try.func58 (by kernel_rfl) (by kernel_rfl) tt_ok wide (by kernel_rfl) hlen h
/- slices.partitionOrdered[string] -/
noncomputable def c59 : Cfg := ⟨Try.prog, tt.get, inL [], atL [(1, ⟨.op 0 .all (.op 1 .all (.op 2 .all (.op 3 .all (.op 4 .all (.op 5 .all (.op 6 .all (.op 7 .all (.op 8 .all (.op 9 .all (.op 10 .all (.op 11 .all (.op 12 .all (.op 13 .none (.op 14 .all (.op 15 .none (.nil)))))))))))))))), [0, 0, 0, 0, 0, 0, 48, 112, 0, 0, 768, 1792, 4083, 8179, 16383, 32767]⟩),
  (3, ⟨.op 0 .all (.op 1 .all (.op 2 .all (.op 3 .all (.op 4 .all (.op 5 .all (.op 6 .all (.op 7 .all (.op 8 .all (.op 9 .all (.op 10 .all (.op 11 .all (.op 12 .none (.op 13 .all (.nil)))))))))))))), [0, 0, 3, 7, 15, 15, 63, 127, 15, 15, 783, 1807, 4095, 8191]⟩),
  (5, ⟨.op 0 .all (.op 1 .all (.op 2 .all (.op 3 .all (.op 4 .all (.op 5 .all (.op 6 .all (.op 7 .all (.op 8 .all (.op 9 .all (.op 10 .all (.op 11 .all (.op 12 .none (.op 13 .all (.op 14 .all (.nil))))))))))))))), [0, 0, 3, 7, 15, 15, 63, 127, 15, 15, 783, 1807, 4095, 8191, 16383]⟩),
  (8, ⟨.op 0 .all (.op 1 .all (.op 2 .all (.op 3 .all (.op 4 .all (.op 5 .all (.op 6 .all (.op 7 .all (.op 8 .all (.op 9 .all (.op 10 .all (.op 11 .all (.op 12 .all (.op 13 .none (.op 14 .all (.op 15 .none (.nil)))))))))))))))), [0, 0, 0, 0, 0, 0, 48, 112, 0, 0, 768, 1792, 4083, 8179, 16383, 32767]⟩),
  (10, ⟨.op 0 .all (.op 1 .all (.op 2 .all (.op 3 .all (.op 4 .all (.op 5 .all (.op 6 .all (.op 7 .all (.op 8 .all (.op 9 .all (.op 10 .all (.op 11 .all (.op 12 .all (.op 13 .none (.op 14 .all (.op 15 .none (.nil)))))))))))))))), [0, 0, 0, 0, 0, 0, 48, 112, 0, 0, 768, 1792, 4083, 8179, 16383, 32767]⟩),
  (13, ⟨.op 0 .all (.op 1 .all (.op 2 .all (.op 3 .all (.op 4 .all (.op 5 .all (.op 6 .all (.op 7 .all (.op 8 .all (.op 9 .all (.op 10 .all (.op 11 .all (.op 12 .none (.op 13 .all (.nil)))))))))))))), [0, 0, 3, 7, 15, 15, 63, 127, 15, 15, 783, 1807, 4095, 8191]⟩),
  (15, ⟨.op 0 .all (.op 1 .all (.op 2 .all (.op 3 .all (.op 4 .all (.op 5 .all (.op 6 .all (.op 7 .all (.op 8 .all (.op 9 .all (.op 10 .all (.op 11 .all (.op 12 .none (.op 13 .all (.op 14 .all (.nil))))))))))))))), [0, 0, 3, 7, 15, 15, 63, 127, 15, 15, 783, 1807, 4095, 8191, 16383]⟩),
  (18, ⟨.op 0 .all (.op 1 .all (.op 2 .all (.op 3 .all (.op 4 .all (.op 5 .all (.op 6 .all (.op 7 .all (.op 8 .all (.op 9 .all (.op 10 .all (.op 11 .all (.op 12 .all (.op 13 .none (.op 14 .all (.op 15 .none (.nil)))))))))))))))), [0, 0, 0, 0, 0, 0, 48, 112, 0, 0, 768, 1792, 4083, 8179, 16383, 32767]⟩),
  (21, ⟨.op 0 .all (.op 1 .all (.op 2 .all (.op 3 .all (.op 4 .all (.op 5 .all (.op 6 .all (.op 7 .all (.op 8 .all (.op 9 .all (.op 10 .all (.op 11 .all (.op 12 .all (.op 13 .none (.op 14 .all (.op 15 .none (.nil)))))))))))))))), [0, 0, 0, 0, 0, 0, 48, 112, 0, 0, 768, 1792, 4083, 8179, 16383, 32767]⟩)], inL []⟩
theorem en59 {args : List CV} {m : Mem} {R : List CV → Mem → Prop} (hlen : Nat.ble args.length Try.f59.ntmps = true) (h : xwp c59 (bodyOf Try.f59) (QRet tt.get Try.f59.results.toList R) ⟨initF args, [], m, []⟩) : Spec Try.prog 59 args m R :=
  Spec.of_body (c := c59) Try.func59 (by kernel_rfl) (by kernel_rfl) tt_ok wide (by kernel_rfl) hlen h
/- math bits.Len32 -/
noncomputable def c60 : Cfg := ⟨Try.prog, tt.get, inL [], atL [], inL []⟩
theorem en60 {args : List CV} {m : Mem} {R : List CV → Mem → Prop} (hlen : Nat.ble args.length Try.f60.ntmps = true) (h : xwp c60 (bodyOf Try.f60) (QRet tt.get Try.f60.results.toList R) ⟨initF args, [], m, []⟩) : Spec Try.prog 60 args m R :=
  Spec.of_body (c := c60) Try.func60 (by kernel_rfl) (by kernel_rfl) tt_ok wide (by kernel_rfl) hlen h
/- math bits.Len64 -/
noncomputable def c61 : Cfg := ⟨Try.prog, tt.get, inL [], atL [], inL []⟩
theorem en61 {args : List CV} {m : Mem} {R : List CV → Mem → Prop} (hlen : Nat.ble args.length Try.f61.ntmps = true) (h : xwp c61 (bodyOf Try.f61) (QRet tt.get Try.f61.results.toList R) ⟨initF args, [], m, []⟩) : Spec Try.prog 61 args m R :=
  Spec.of_body (c := c61) Try.func61 (by kernel_rfl) (by kernel_rfl) tt_ok wide (by kernel_rfl) hlen h
/- (*maund wire.Reader).take -/
noncomputable def c62 : Cfg := ⟨Try.prog, tt.get, inL [], atL [], inL []⟩
theorem en62 {args : List CV} {m : Mem} {R : List CV → Mem → Prop} (hlen : Nat.ble args.length Try.f62.ntmps = true) (h : xwp c62 (bodyOf Try.f62) (QRet tt.get Try.f62.results.toList R) ⟨initF args, [], m, []⟩) : Spec Try.prog 62 args m R :=
  Spec.of_body (c := c62) Try.func62 (by kernel_rfl) (by kernel_rfl) tt_ok wide (by kernel_rfl) hlen h
/- slices.siftDownOrdered[string] -/
noncomputable def c63 : Cfg := ⟨Try.prog, tt.get, inL [], atL [(3, ⟨.op 0 .all (.op 1 .all (.op 2 .all (.op 3 .all (.op 4 .all (.op 5 .all (.op 6 .all (.op 7 .all (.op 8 .all (.op 9 .all (.op 10 .all (.op 11 .all (.op 12 .all (.op 13 .all (.op 14 .all (.op 15 .all (.op 16 .all (.op 17 .all (.op 18 .none (.op 19 .all (.nil)))))))))))))))))))), [0, 1, 0, 7, 15, 31, 31, 31, 223, 511, 1023, 31, 31, 31, 12319, 28703, 63519, 129055, 262143, 524287]⟩),
  (5, ⟨.op 0 .all (.op 1 .all (.op 2 .all (.op 3 .all (.op 4 .all (.op 5 .all (.op 6 .all (.op 7 .all (.op 8 .all (.op 9 .all (.op 10 .all (.op 11 .all (.op 12 .none (.op 13 .all (.nil)))))))))))))), [0, 0, 0, 6, 15, 31, 0, 0, 0, 384, 960, 1984, 4095, 8191]⟩),
  (6, ⟨.op 0 .all (.op 1 .all (.op 2 .all (.op 3 .all (.op 4 .all (.op 5 .all (.op 6 .all (.op 7 .all (.op 8 .all (.op 9 .all (.op 10 .all (.op 11 .all (.op 12 .all (.op 13 .all (.op 14 .all (.op 15 .all (.op 16 .all (.op 17 .all (.op 18 .all (.op 19 .all (.op 20 .all (.op 21 .none (.op 22 .all (.op 23 .none (.nil)))))))))))))))))))))))), [0, 0, 0, 6, 0, 0, 0, 96, 0, 0, 0, 1536, 3840, 7936, 0, 0, 0, 98304, 245760, 507904, 1048335, 2096911, 4194303, 8388607]⟩)], inL []⟩
theorem en63 {args : List CV} {m : Mem} {R : List CV → Mem → Prop} (hlen : Nat.ble args.length Try.f63.ntmps = true) (h : xwp c63 (bodyOf Try.f63) (QRet tt.get Try.f63.results.toList R) ⟨initF args, [], m, []⟩) : Spec Try.prog 63 args m R :=
  Spec.of_body (c := c63) Try.func63 (by kernel_rfl) (by kernel_rfl) tt_ok wide (by kernel_rfl) hlen h
/- slices.nextPowerOfTwo -/
noncomputable def c64 : Cfg := ⟨Try.prog, tt.get, inL [], atL [], inL []⟩
theorem en64 {args : List CV} {m : Mem} {R : List CV → Mem → Prop} (hlen : Nat.ble args.length Try.f64.ntmps = true) (h : xwp c64 (bodyOf Try.f64) (QRet tt.get Try.f64.results.toList R) ⟨initF args, [], m, []⟩) : Spec Try.prog 64 args m R :=
  Spec.of_body (c := c64) Try.func64 (by kernel_rfl) (by kernel_rfl) tt_ok wide (by kernel_rfl) hlen h
/- (*slices.xorshift).Next -/
noncomputable def c65 : Cfg := ⟨Try.prog, tt.get, inL [], atL [(1, ⟨.op 0 .all (.op 1 .all (.op 2 .all (.op 3 .all (.op 4 .all (.op 5 .all (.op 6 .all (.op 7 .all (.op 8 .all (.op 9 .none (.nil)))))))))), [0, 1, 3, 0, 8, 24, 56, 127, 255, 511]⟩),
  (2, ⟨.op 0 .all (.op 1 .all (.op 2 .all (.op 3 .all (.op 4 .all (.op 5 .all (.op 6 .all (.op 7 .all (.op 8 .all (.op 9 .none (.nil)))))))))), [0, 1, 3, 0, 8, 24, 56, 127, 255, 511]⟩),
  (3, ⟨.op 0 .all (.op 1 .all (.op 2 .all (.op 3 .all (.op 4 .all (.op 5 .all (.op 6 .all (.op 7 .all (.op 8 .all (.op 9 .none (.nil)))))))))), [0, 1, 3, 0, 8, 24, 56, 127, 255, 511]⟩)], inL []⟩
theorem en65 {args : List CV} {m : Mem} {R : List CV → Mem → Prop} (hlen : Nat.ble args.length Try.f65.ntmps = true) (h : xwp c65 (bodyOf Try.f65) (QRet tt.get Try.f65.results.toList R) ⟨initF args, [], m, []⟩) : Spec Try.prog 65 args m R :=
  Spec.of_body (c := c65) Try.func65 (by kernel_rfl) (by kernel_rfl) tt_ok wide (by kernel_rfl) hlen h
/- slices.medianAdjacentOrdered[string] -/
noncomputable def c66 : Cfg := ⟨Try.prog, tt.get, inL [], atL [], inL []⟩
theorem en66 {args : List CV} {m : Mem} {R : List CV → Mem → Prop} (hlen : Nat.ble args.length Try.f66.ntmps = true) (h : xwp c66 (bodyOf Try.f66) (QRet tt.get Try.f66.results.toList R) ⟨initF args, [], m, []⟩) : Spec Try.prog 66 args m R :=
  Spec.of_body (c := c66) Try.func66 (by kernel_rfl) (by kernel_rfl) tt_ok wide (by kernel_rfl) hlen h
/- slices.medianOrdered[string] -/
noncomputable def c67 : Cfg := ⟨Try.prog, tt.get, inL [], atL [], inL []⟩
theorem en67 {args : List CV} {m : Mem} {R : List CV → Mem → Prop} (hlen : Nat.ble args.length Try.f67.ntmps = true) (h : xwp c67 (bodyOf Try.f67) (QRet tt.get Try.f67.results.toList R) ⟨initF args, [], m, []⟩) : Spec Try.prog 67 args m R :=
  Spec.of_body (c := c67) Try.func67 (by kernel_rfl) (by kernel_rfl) tt_ok wide (by kernel_rfl) hlen h
/- cmp.isNaN[string] -/
noncomputable def c68 : Cfg := ⟨Try.prog, tt.get, inL [], atL [], inL []⟩
theorem en68 {args : List CV} {m : Mem} {R : List CV → Mem → Prop} (hlen : Nat.ble args.length Try.f68.ntmps = true) (h : xwp c68 (bodyOf Try.f68) (QRet tt.get Try.f68.results.toList R) ⟨initF args, [], m, []⟩) : Spec Try.prog 68 args m R :=
  Spec.of_body (c := c68) Try.func68 (by kernel_rfl) (by kernel_rfl) tt_ok wide (by kernel_rfl) hlen h
/- slices.order2Ordered[string] -/
noncomputable def c69 : Cfg := ⟨Try.prog, tt.get, inL [], atL [(1, ⟨.op 0 .all (.op 1 .all (.op 2 .all (.op 3 .all (.op 4 .all (.op 5 .all (.op 6 .all (.op 7 .all (.op 8 .none (.nil))))))))), [0, 0, 3, 7, 0, 0, 48, 112, 255]⟩)], inL []⟩
theorem en69 {args : List CV} {m : Mem} {R : List CV → Mem → Prop} (hlen : Nat.ble args.length Try.f69.ntmps = true) (h : xwp c69 (bodyOf Try.f69) (QRet tt.get Try.f69.results.toList R) ⟨initF args, [], m, []⟩) : Spec Try.prog 69 args m R :=
  Spec.of_body (c := c69) Try.func69 (by kernel_rfl) (by kernel_rfl) tt_ok wide (by kernel_rfl) hlen h
end Go.E.Ytcjmmhamnglmkaa

/-
  Small things for the contracts.
-/
namespace Go.E
abbrev u64 (n : Int) : CV := .v (.int .u64 n)
abbrev i64 (n : Int) : CV := .v (.int .i64 n)
abbrev boolV (b : Bool) : CV := .v (.bool b)
theorem xretk {P : Program} {f : FuncId} {args : List CV} {m : Mem} {r : List CV} {x : List Nat} {K : List CV → Mem → Prop} (h : Ret P f args m r) (k : K r m) : XCall P f args m fun r' m' => Kept x m m' ∧ K r' m' :=
  xret h ⟨fun _ _ => rfl, k⟩
theorem wu {n : Int} (h0 : 0 ≤ n) (h1 : n < 18446744073709551616) : IntKind.u64.wrap n = n := by rw [IntKind.wrap_u64, Int.emod_eq_of_lt h0 h1]
theorem wi {n : Int} (h0 : -9223372036854775808 ≤ n) (h1 : n < 9223372036854775808) : IntKind.i64.wrap n = n := by rw [IntKind.wrap_i64]; omega
theorem iadd {i : Nat} (h : i < 1000000000000) : IntKind.i64.wrap ((i : Int) + 1) = ((i + 1 : Nat) : Int) := by rw [wi (by omega) (by omega)]; omega
end Go.E

/-
  Bytes: what is owned, appended.
-/
namespace Go.E.Ytcjmmhamnglmkaa
open Go.Proofs
set_option maxRecDepth 100000

theorem Own.store {p : Mem} {e : TypeId} {b o n c k : Nat} {l : List Value} {x : Value} (h : Own p e 1 (.slice (some ⟨b, o, none⟩) n c) l) (hk : k < l.length) (hx : x.oneCell' = true) :
    ∃ arr, p b = some (.cells arr e (0, 0)) ∧ o + k < arr.size ∧ Own (p.set b (.cells (arr.setIfInBounds (o + k) x) e (0, 0))) e 1 (.slice (some ⟨b, o, none⟩) n c) (l.set k x) := by
  rcases h with ⟨h, _⟩ | ⟨b', o', c', n', arr, h, h1, h2, h3, h4, h5, h6⟩
  · cases h
  · cases h
    rw [Nat.mul_one] at h2 h4
    refine ⟨arr, h1, by omega, .inr ⟨b, o, c, n, _, rfl, Mem.set_same .., by simp; omega, h3, by simp; omega, fun j u hu => ?_, fun u hu => ?_⟩⟩
    · rw [List.getElem?_set] at hu
      rw [Array.getElem?_setIfInBounds]
      by_cases e : k = j
      · subst e
        rw [if_pos rfl, if_pos hk] at hu
        cases hu
        rw [if_pos rfl, if_pos (by omega)]
      · rw [if_neg e] at hu
        rw [if_neg (by omega)]
        exact h5 j u hu
    · rcases List.mem_or_eq_of_mem_set hu with hu | rfl
      · exact h6 u hu
      · exact hx
/-- bytes that are owned -/
def Bs (m : Mem) (v : Value) (l : List Int) : Prop := Own m 5 1 v (bc l)
theorem Bs.lb {p : Mem} {v : Value} {l : List Int} (h : Bs p v l) : Lb p v l := Own.lies h
theorem Bs.len {p : Mem} {v : Value} {l : List Int} (h : Bs p v l) : lenV v = l.length := h.lb.len
theorem Bs.sub {m m' : Mem} {v : Value} {l : List Int} (h : Bs m v l) (hs : Sub m m') : Bs m' v l := Own.sub h hs
theorem Bs.keep {m m' : Mem} {v : Value} {l : List Int} (h : Bs m v l) (hs : ∀ b, blkV v = some b → m' b = m b) : Bs m' v l := Own.keep h hs
theorem Bs.store {p : Mem} {b o n c k : Nat} {l : List Int} {x : Int} (h : Bs p (.slice (some ⟨b, o, none⟩) n c) l) (hk : k < l.length) :
    ∃ arr, p b = some (.cells arr 5 (0, 0)) ∧ o + k < arr.size ∧ Bs (p.set b (.cells (arr.setIfInBounds (o + k) (.int .u8 x)) 5 (0, 0))) (.slice (some ⟨b, o, none⟩) n c) (l.set k x) := by
  obtain ⟨arr, h1, h2, h3⟩ := Own.store (k := k) (x := .int .u8 x) h (by simpa [bc] using hk) rfl
  refine ⟨arr, h1, h2, ?_⟩
  rw [show (bc l).set k (.int .u8 x) = bc (l.set k x) by simp [bc, List.map_set]] at h3
  exact h3
theorem Bs.nil (m : Mem) : Bs m (.slice none 0 0) [] := .inl ⟨rfl, rfl⟩
theorem Bs.blk {m : Mem} {b : Nat} {l : List Int} {n : Nat} (hb : m b = some (.cells (bc l).toArray 5)) (hn : l.length = n) : Bs m (.slice (some ⟨b, 0, none⟩) n n) l := by
  subst hn
  refine .inr ⟨b, 0, l.length, l.length, _, rfl, hb, by simp [bc], Nat.le_refl _, by simp [bc], ?_, bc_one⟩
  intro j u hu; rw [Nat.zero_add, List.getElem?_toArray]; exact hu
theorem hU8 : tt.get 5 = some ⟨.int .u8, 1, 1, [.one (.int .u8 0)], false⟩ := by rfl
theorem hBs : tt.get 23 = some ⟨.slice 5, 1, 24, [.one (.slice none 0 0)], false⟩ := by rfl
/-- what an append of bytes leaves -/
structure BApd (m : Mem) (v : Value) (l : List Int) (v' : Value) (m' : Mem) : Prop where
  own : Bs m' v' l
  keep : ∀ b o, m b = some o → blkV v ≠ some b → m' b = some o
  new : ∀ b, blkV v' = some b → blkV v = some b ∨ m b = none
theorem appendB {m : Mem} {v x : Value} {l news : List Int} (hv : Bs m v l) (hg : La m x news) (hb : l.length + news.length ≤ 1000000000) :
    PrimSpec Try.prog (.builtin .append [23, 23]) [.v v, .v x] m fun r m' => ∃ v', r = [.v v'] ∧ BApd m v (l ++ news) v' m' := by
  have e1 := hv.len
  have e2 := hg.len
  refine (append_spec tt_ok hBs rfl hU8 hBs rfl hv hg.gives (by rw [e1, e2]; simp only; omega) (by rw [e1, e2]; omega)).mono fun r m' ⟨v', h1, h2⟩ => ⟨v', h1, ?_⟩
  rw [← bc_append] at h2
  exact ⟨h2.own, h2.keep, h2.new⟩
theorem appendBat {m p : Mem} {ls : List Mem} {i : Nat} {v x : Value} {l news : List Int} (hs : Split m ls) (hi : ls[i]? = some p) (hv : Bs p v l) (hg : La m x news) (hb : l.length + news.length ≤ 1000000000) :
    PrimSpec Try.prog (.builtin .append [23, 23]) [.v v, .v x] m fun r m' => ∃ v' p', r = [.v v'] ∧ Split m' (ls.set i p') ∧ BApd p v (l ++ news) v' p' := by
  have e1 := hv.len
  have e2 := hg.len
  refine (append_at tt_ok hBs rfl hU8 hBs rfl hs hi hv hg.gives (by rw [e1, e2]; simp only; omega) (by rw [e1, e2]; omega)).mono fun r m' ⟨v', p', h1, h2, h3⟩ => ⟨v', p', h1, h2, ?_⟩
  rw [← bc_append] at h3
  exact ⟨h3.own, h3.keep, h3.new⟩
theorem build1 {m : Mem} {x : Int} : PrimSpec Try.prog (.buildSlice 23 1 [0]) [.v (.int .u8 x)] m fun r m' => ∃ b, m b = none ∧ r = [.v (.slice (some ⟨b, 0, none⟩) 1 1)] ∧ m' = m.set b (.cells (bc [x]).toArray 5) :=
  buildSlice_spec (n := 1) tt_ok hBs rfl hU8 rfl rfl (by simp [CV.cs]) (by simp) (by simp)
theorem build2 {m : Mem} {x y : Int} : PrimSpec Try.prog (.buildSlice 23 2 [0, 1]) [.v (.int .u8 x), .v (.int .u8 y)] m fun r m' => ∃ b, m b = none ∧ r = [.v (.slice (some ⟨b, 0, none⟩) 2 2)] ∧ m' = m.set b (.cells (bc [x, y]).toArray 5) :=
  buildSlice_spec (n := 2) tt_ok hBs rfl hU8 rfl rfl (by simp [CV.cs]) (by simp) (by simp)
theorem build3 {m : Mem} {x y z : Int} : PrimSpec Try.prog (.buildSlice 23 3 [0, 1, 2]) [.v (.int .u8 x), .v (.int .u8 y), .v (.int .u8 z)] m fun r m' => ∃ b, m b = none ∧ r = [.v (.slice (some ⟨b, 0, none⟩) 3 3)] ∧ m' = m.set b (.cells (bc [x, y, z]).toArray 5) :=
  buildSlice_spec (n := 3) tt_ok hBs rfl hU8 rfl rfl (by simp [CV.cs]) (by simp) (by simp)
theorem conv_spec {m : Mem} {b n c : Nat} {l : List Int} (hb : m b = some (.cells (bc l).toArray 5)) : PrimSpec Try.prog (.conv 23 23) [.v (.slice (some ⟨b, 0, none⟩) n c)] m fun r m' => r = [.v (.slice (some ⟨b, 0, none⟩) n c)] ∧ m' = m.set b (.cells (bc l).toArray 5 ((bc l).toArray.size, (bc l).toArray.size + 1)) :=
  convConst_spec tt_ok hBs rfl hU8 rfl hb
theorem Bs.none0 {m : Mem} {b : Nat} (hb : m b = some (.cells #[] 5)) : Bs m (.slice (some ⟨b, 0, none⟩) 0 0) [] := Bs.blk (l := []) (by simpa [bc] using hb) rfl
theorem buildB0 {m : Mem} : PrimSpec Try.prog (.buildSlice 23 0 []) [] m fun r m' => ∃ b, m b = none ∧ r = [.v (.slice (some ⟨b, 0, none⟩) 0 0)] ∧ m' = m.set b (.cells #[] 5) :=
  buildSlice0_spec tt_ok hBs rfl hU8
theorem Lb.blk {m : Mem} {b : Nat} {l : List Int} {n : Nat} (hb : m b = some (.cells (bc l).toArray 5)) (hn : l.length = n) : Lb m (.slice (some ⟨b, 0, none⟩) n n) l := (Bs.blk hb hn).lb
/-- one byte more -/
theorem Bs.one {m : Mem} {ls : List Mem} {p : Mem} {b' : Nat} {y : Int} (hs : Split m (p :: ls)) (hb : m b' = none) {x : Value} {l : List Int} (hx : Bs p x l) (hl : l.length ≤ 100000000) :
    PrimSpec Try.prog (.builtin .append [23, 23]) [.v x, .v (.slice (some ⟨b', 0, none⟩) 1 1)] (m.set b' (.cells (bc [y]).toArray 5)) fun r m' => ∃ v' p', r = [.v v'] ∧ Split m' (p' :: ls) ∧ Bs p' v' (l ++ [y]) := by
  have hs1 := hs.new hb (.cells (bc [y]).toArray 5)
  refine (appendBat (i := 1) hs1 rfl hx (Lb.blk (l := [y]) (Mem.set_same ..) rfl).la (by simp; omega)).mono fun r m' ⟨v', p', h1, h2, h3⟩ => ⟨v', p', h1, h2.erase 0, h3.own⟩
/-- one byte, onto a slice: both operations' memory -/
theorem push_mem {m m' : Mem} {b' : Nat} {o : Obj} {v v' : Value} {l : List Int} (hb : m b' = none) (h : BApd (m.set b' o) v l v' m') : BApd m v l v' m' :=
  ⟨h.own, fun b u hm hn => h.keep b u (Mem.sub_set _ hb _ _ hm) hn, fun b hv => (h.new b hv).imp id fun hx => by
    by_cases e : b = b'
    · subst e; exact hb
    · rw [Mem.set_ne _ _ e] at hx; exact hx⟩
theorem Lb.own {m : Mem} {v : Value} {l : List Int} (h : Lb m v l) : (∃ c, v = .slice none 0 c) ∨ ∃ a c, v = .slice (some a) l.length c := by
  rcases h.cases with ⟨c, rfl, _⟩ | ⟨b, o, c, arr, t, fr, rfl, _⟩
  · exact .inl ⟨c, rfl⟩
  · exact .inr ⟨_, c, rfl⟩
end Go.E.Ytcjmmhamnglmkaa

/-
  Bytes: cloned.
-/
namespace Go.E.Ytcjmmhamnglmkaa
open Go.Proofs
set_option maxRecDepth 100000
/-- Clone: new bytes -/
theorem clone_spec {m : Mem} {v : Value} {l : List Int} (hv : La m v l) (hb : l.length ≤ 100000000) :
    Spec Try.prog 26 [.v v] m fun r m' => ∃ v' p, r = [.v v'] ∧ Split m' [p, m] ∧ Bs p v' l := by
  have key : (∃ c, v = .slice none 0 c ∧ l = []) ∨ ∃ a c, v = .slice (some a) l.length c := by
    rcases hv with hv | ⟨rfl, a, rfl⟩
    · rcases hv.cases with ⟨c, rfl, rfl⟩ | ⟨b, o, c, arr, t, fr, rfl, _⟩
      · exact .inl ⟨c, rfl, rfl⟩
      · exact .inr ⟨_, _, rfl⟩
    · exact .inr ⟨_, _, rfl⟩
  rcases key with ⟨c, rfl, rfl⟩ | ⟨a, c, rfl⟩
  · refine en26 rfl (goY ?_)
    conv => whnf
    refine ⟨fun _ => ?_, fun h => absurd h (by decide)⟩
    conv => whnf
    exact ⟨_, emp, rfl, (Split.one m).addEmp, Bs.nil _⟩
  · refine en26 rfl (goY ?_)
    conv => whnf
    refine ⟨fun h => absurd h (by decide), fun _ => ?_⟩
    conv => whnf
    refine .mk _ (buildSlice0_spec tt_ok hBs rfl hU8) ?_
    rintro _ _ ⟨b', hb', rfl, rfl⟩
    conv => whnf
    refine .mk _ (appendBat (i := 0) ((Split.one m).new hb' _) rfl (Bs.blk (l := []) (blk1_same ..) rfl) (hv.sub (Mem.sub_set _ hb')) (by simp; omega)) ?_
    rintro _ m' ⟨v', p', rfl, h1, h2⟩
    conv => whnf
    exact ⟨v', p', rfl, h1, h2.own⟩
end Go.E.Ytcjmmhamnglmkaa

/-
  Bits of numbers, plainly.
-/
namespace Go.E
theorem ofInt_nat (w a : Nat) : BitVec.ofInt w (a : Int) = BitVec.ofNat w a := by simp
theorem toNat_ofInt {w a : Nat} (h : a < 2 ^ w) : (BitVec.ofInt w (a : Int)).toNat = a := by
  rw [ofInt_nat, BitVec.toNat_ofNat, Nat.mod_eq_of_lt h]
theorem or_u64 {a b : Nat} (ha : a < 2 ^ 64) (hb : b < 2 ^ 64) : bitsOf .or .u64 a b = ((a ||| b : Nat) : Int) := by
  have h := Nat.or_lt_two_pow ha hb
  show IntKind.u64.wrap ((BitVec.ofInt 64 a ||| BitVec.ofInt 64 b).toNat : Int) = _
  rw [BitVec.toNat_or, toNat_ofInt ha, toNat_ofInt hb, wu (by omega) (by omega)]
theorem and_u64 {a b : Nat} (ha : a < 2 ^ 64) (hb : b < 2 ^ 64) : bitsOf .and .u64 a b = ((a &&& b : Nat) : Int) := by
  have h := Nat.and_lt_two_pow a hb
  show IntKind.u64.wrap ((BitVec.ofInt 64 a &&& BitVec.ofInt 64 b).toNat : Int) = _
  rw [BitVec.toNat_and, toNat_ofInt ha, toNat_ofInt hb, wu (by omega) (by omega)]
theorem xor_u64 {a b : Nat} (ha : a < 2 ^ 64) (hb : b < 2 ^ 64) : bitsOf .xor .u64 a b = ((a ^^^ b : Nat) : Int) := by
  have h := Nat.xor_lt_two_pow ha hb
  show IntKind.u64.wrap ((BitVec.ofInt 64 a ^^^ BitVec.ofInt 64 b).toNat : Int) = _
  rw [BitVec.toNat_xor, toNat_ofInt ha, toNat_ofInt hb, wu (by omega) (by omega)]
theorem wu32 {n : Int} (h0 : 0 ≤ n) (h1 : n < 4294967296) : IntKind.u32.wrap n = n := by rw [IntKind.wrap_u32, Int.emod_eq_of_lt h0 h1]
theorem wu8 {n : Int} (h0 : 0 ≤ n) (h1 : n < 256) : IntKind.u8.wrap n = n := by rw [IntKind.wrap_u8, Int.emod_eq_of_lt h0 h1]
theorem or_u32 {a b : Nat} (ha : a < 2 ^ 32) (hb : b < 2 ^ 32) : bitsOf .or .u32 a b = ((a ||| b : Nat) : Int) := by
  have h := Nat.or_lt_two_pow ha hb
  show IntKind.u32.wrap ((BitVec.ofInt 32 a ||| BitVec.ofInt 32 b).toNat : Int) = _
  rw [BitVec.toNat_or, toNat_ofInt ha, toNat_ofInt hb, wu32 (by omega) (by omega)]
theorem and_u32 {a b : Nat} (ha : a < 2 ^ 32) (hb : b < 2 ^ 32) : bitsOf .and .u32 a b = ((a &&& b : Nat) : Int) := by
  have h := Nat.and_lt_two_pow a hb
  show IntKind.u32.wrap ((BitVec.ofInt 32 a &&& BitVec.ofInt 32 b).toNat : Int) = _
  rw [BitVec.toNat_and, toNat_ofInt ha, toNat_ofInt hb, wu32 (by omega) (by omega)]
theorem xor_u32 {a b : Nat} (ha : a < 2 ^ 32) (hb : b < 2 ^ 32) : bitsOf .xor .u32 a b = ((a ^^^ b : Nat) : Int) := by
  have h := Nat.xor_lt_two_pow ha hb
  show IntKind.u32.wrap ((BitVec.ofInt 32 a ^^^ BitVec.ofInt 32 b).toNat : Int) = _
  rw [BitVec.toNat_xor, toNat_ofInt ha, toNat_ofInt hb, wu32 (by omega) (by omega)]
theorem xor_u8 {a b : Nat} (ha : a < 2 ^ 8) (hb : b < 2 ^ 8) : bitsOf .xor .u8 a b = ((a ^^^ b : Nat) : Int) := by
  have h := Nat.xor_lt_two_pow ha hb
  show IntKind.u8.wrap ((BitVec.ofInt 8 a ^^^ BitVec.ofInt 8 b).toNat : Int) = _
  rw [BitVec.toNat_xor, toNat_ofInt ha, toNat_ofInt hb, wu8 (by omega) (by omega)]
/-- low bits below, the rest above -/
theorem or_low {a c : Nat} (k : Nat) (hc : c < 2 ^ k) : (a * 2 ^ k) ||| c = a * 2 ^ k + c := by
  rw [Nat.mul_comm, Nat.two_pow_add_eq_or_of_lt hc]
/-- all bits turned -/
theorem not_i64 {n : Int} (h0 : -9223372036854775808 ≤ n) (h1 : n ≤ 9223372036854775807) : bitsOf .xor .i64 (if IntKind.i64.signed = true then -1 else IntKind.i64.max) n = -n - 1 := by
  show IntKind.i64.wrap ((BitVec.ofInt 64 (-1) ^^^ BitVec.ofInt 64 n).toNat : Int) = _
  have e : BitVec.ofInt 64 (-1) = BitVec.allOnes 64 := by rfl
  have e2 : BitVec.allOnes 64 ^^^ BitVec.ofInt 64 n = ~~~ (BitVec.ofInt 64 n) := BitVec.allOnes_xor
  rw [e, e2, BitVec.toNat_not, BitVec.toNat_ofInt, IntKind.wrap_i64]
  omega
theorem not_u32 {n : Nat} (h1 : n < 2 ^ 32) : bitsOf .xor .u32 (if IntKind.u32.signed = true then -1 else IntKind.u32.max) n = ((4294967295 - n : Nat) : Int) := by
  show IntKind.u32.wrap ((BitVec.ofInt 32 4294967295 ^^^ BitVec.ofInt 32 n).toNat : Int) = _
  have e : BitVec.ofInt 32 4294967295 = BitVec.allOnes 32 := by rfl
  have e2 : BitVec.allOnes 32 ^^^ BitVec.ofInt 32 n = ~~~ (BitVec.ofInt 32 n) := BitVec.allOnes_xor
  rw [e, e2, BitVec.toNat_not, toNat_ofInt h1, wu32 (by omega) (by omega)]
theorem shr_nat {k : IntKind} {x n : Nat} (hn : n ≤ k.bits) : shrOf k (x : Int) (n : Int) = ((x / 2 ^ n : Nat) : Int) := by
  show (x : Int).fdiv (2 ^ (min ((n : Int).toNat) k.bits)) = _
  rw [Int.toNat_natCast, Nat.min_eq_left hn, Int.fdiv_eq_ediv_of_nonneg _ (Int.le_of_lt (Int.pow_pos (by decide)))]
  simp
theorem shl_u64 {x n : Nat} (hn : n ≤ 64) (hx : x * 2 ^ n < 18446744073709551616) : shlOf .u64 (x : Int) (n : Int) = ((x * 2 ^ n : Nat) : Int) := by
  show IntKind.u64.wrap ((x : Int) * 2 ^ (min ((n : Int).toNat) 64)) = _
  have : ((x : Int) * 2 ^ n) = ((x * 2 ^ n : Nat) : Int) := by simp
  rw [Int.toNat_natCast, Nat.min_eq_left hn, this, wu (by omega) (by omega)]
theorem tmod_nat (a b : Nat) : Int.tmod (a : Int) (b : Int) = ((a % b : Nat) : Int) := by rw [Int.tmod_eq_emod_of_nonneg (by omega)]; omega
theorem tdiv_nat (a b : Nat) : Int.tdiv (a : Int) (b : Int) = ((a / b : Nat) : Int) := by rw [Int.tdiv_eq_ediv_of_nonneg (by omega)]; omega
end Go.E

/-
  Contracts of wire: what a writer writes.
-/
namespace Go.E.Ytcjmmhamnglmkaa
open Go.Proofs
set_option maxRecDepth 100000

/-- a writer: its own block, and its bytes -/
def Wr (m : Mem) (bp : Nat) (l : List Int) : Prop := ∃ v, m bp = some (.cells #[v] 97) ∧ Bs m v l ∧ blkV v ≠ some bp
theorem shr8 (n : Int) (i : Nat) : shrOf .u64 ((n.toNat / 256 ^ i : Nat) : Int) 8 = ((n.toNat / 256 ^ (i + 1) : Nat) : Int) := by
  have e : shrOf .u64 ((n.toNat / 256 ^ i : Nat) : Int) 8 = ((n.toNat / 256 ^ i : Nat) : Int).fdiv 256 := rfl
  rw [e, Int.fdiv_eq_ediv_of_nonneg _ (by decide), Nat.pow_succ, ← Nat.div_div_eq_div_mul]; rfl
/-- the field is set to what append gave -/
theorem Wr.appended {m m' : Mem} {bp : Nat} {v v' : Value} {l : List Int} {t : TypeId} {fr : Nat × Nat} (hb : m bp = some (.cells #[v] t fr)) (hn : blkV v ≠ some bp) (h : BApd m v l v' m') (ht : t = 97 := by rfl) (hfr : fr = (0, 0) := by rfl) :
    m' bp = some (.cells #[v] t fr) ∧ Wr (m'.set bp (.cells (#[v].setIfInBounds 0 v') t fr)) bp l := by
  subst ht hfr
  have hv' : blkV v' ≠ some bp := fun e => by
    rcases h.new bp e with h' | h'
    · exact hn h'
    · rw [hb] at h'; cases h'
  refine ⟨h.keep _ _ hb hn, v', Mem.set_same .., h.own.keep fun b e => ?_, hv'⟩
  exact Mem.set_ne _ _ (fun e' => hv' (by rw [e, e']))
theorem kept1 {m m' : Mem} {b : Nat} (h : m' b = m b) : Kept [b] m m' := fun x hx => by rw [List.mem_singleton.1 hx]; exact h
theorem wbyte {n : Int} (hn : U64 n) {j : Nat} {e : Int} (hj : j < (beB n).length) (he : e = ((8 * ((beB n).length - 1 - j) : Nat) : Int)) : IntKind.u8.wrap (shrOf .u64 n e) = (beB n)[j] := by
  have h8 := beB_len n
  have h := beB_at hj
  rw [List.getElem?_eq_getElem hj, Option.some.injEq] at h
  rw [h, he]
  have e1 : shrOf .u64 n ((8 * ((beB n).length - 1 - j) : Nat) : Int) = n.fdiv (2 ^ (8 * ((beB n).length - 1 - j))) := by
    show n.fdiv (2 ^ (min _ 64)) = _
    rw [Int.toNat_natCast, Nat.min_eq_left (by omega)]
  rw [e1, fdiv_pow hn, IntKind.wrap_u8]
  omega
set_option maxHeartbeats 1000000 in
theorem wnum_spec {m : Mem} {bp : Nat} {l : List Int} {n : Int} (hw : Wr m bp l) (hn : U64 n) (hb : l.length ≤ 100000000) :
    Spec Try.prog 45 [ptrV bp, u64 n] m fun r m' => r = [] ∧ Wr m' bp (l ++ numB n) := by
  obtain ⟨v, hbp, hv, hne⟩ := hw
  have h8 := beB_len n
  have hn0 := hn.1
  have hn1 := hn.2
  refine en45 rfl (goY ?_)
  conv => whnf
  refine ⟨fun h => absurd h (by decide), fun _ => ?_⟩
  conv => whnf
  refine .mk (ι := Nat) (fun i => (beB n).length - i) (fun i mm => i ≤ (beB n).length ∧ mm = m)
    (fun i => [(0, .c (ptrV bp)), (1, .c (u64 n)), (4, .c (i64 i)), (5, .c (u64 ((n.toNat / 256 ^ i : Nat) : Int)))]) (fun _ => []) 0 ⟨by omega, rfl⟩ ?_ ?_
  · conv => whnf
    repeat (refine And.intro (by first | with_reducible rfl | (exact congrArg (Value.int _) (by simp; omega)) | exact congrArg (Value.int _) (wi (by omega) (by omega)) | exact wi (by omega) (by omega) | rfl) ?_; conv => whnf)
    first | exact trivial | exact fun _ _ h => h
  rintro i mm ⟨hi, rfl⟩
  conv => whnf
  refine ⟨fun h => ?_, fun h => ?_⟩
  · have h' := of_decide_eq_true h
    have hlt : i < (beB n).length := (beB_pos hn i).1 (by omega)
    conv => whnf
    refine ⟨i + 1, ⟨by omega, rfl⟩, by omega, ?_⟩
    conv => whnf
    repeat (refine And.intro (by first | with_reducible rfl | (first | exact congrArg (Value.int _) (iadd (by omega)) | exact congrArg (Value.int _) (shr8 n i)) | exact congrArg (Value.int _) (wi (by omega) (by omega)) | exact wi (by omega) (by omega) | rfl) ?_; conv => whnf)
    first | exact trivial | exact fun _ _ h => h
  · have h' := of_decide_eq_false h
    have hi' : i = (beB n).length := by
      have := (not_congr (beB_pos hn i)).1 (by omega)
      omega
    subst hi'
    conv => whnf
    refine ⟨v, mcell_of hbp rfl, hv.lb.one, ?_⟩
    conv => whnf
    refine .mk _ (build1) ?_
    rintro _ _ ⟨b', hb', rfl, rfl⟩
    conv => whnf
    refine .mk _ (appendB (hv.sub (Mem.sub_set _ hb')) (Lb.blk (Mem.set_same ..) rfl).la (by simp; omega)) ?_
    rintro _ m' ⟨v', rfl, h1⟩
    conv => whnf
    obtain ⟨h2, h3⟩ := Wr.appended hbp hne (push_mem hb' h1)
    refine ⟨_, _, _, h2, ⟨by simp, by omega⟩, ?_⟩
    conv => whnf
    have hk : IntKind.u8.wrap ((beB n).length : Int) = ((beB n).length : Int) := by rw [IntKind.wrap_u8]; omega
    rw [hk] at h3
    refine .mk (ι := Nat) (fun j => (beB n).length - j) (fun j mm => j ≤ (beB n).length ∧ Wr mm bp (l ++ (((beB n).length : Int) :: (beB n).take j)))
      (fun j => [(0, .c (ptrV bp)), (1, .c (u64 n)), (6, .c (i64 (((beB n).length : Int) - 1 - j)))]) (fun _ => []) 0 ⟨by omega, by simpa using h3⟩ ?_ ?_
    · conv => whnf
      repeat (refine And.intro (by first | with_reducible rfl | (exact congrArg (Value.int _) (by rw [wi (by omega) (by omega)]; omega)) | exact congrArg (Value.int _) (wi (by omega) (by omega)) | exact wi (by omega) (by omega) | rfl) ?_; conv => whnf)
      first | exact trivial | exact fun _ _ h => h
    rintro j m2 ⟨hj, v2, hbp2, hv2, hne2⟩
    conv => whnf
    refine ⟨fun h => ?_, fun h => ?_⟩
    · have h' := of_decide_eq_true h
      conv => whnf
      refine ⟨v2, mcell_of hbp2 rfl, hv2.lb.one, ?_⟩
      conv => whnf
      have hw8 : IntKind.i64.wrap (8 * (((beB n).length : Int) - 1 - j)) = ((8 * ((beB n).length - 1 - j) : Nat) : Int) := by rw [wi (by omega) (by omega)]; omega
      refine ⟨by omega, ?_⟩
      conv => whnf
      refine .mk _ build1 ?_
      rintro _ _ ⟨b2, hb2, rfl, rfl⟩
      refine ⟨kept1 (by rw [Mem.set_ne _ _ (fun e => by subst e; rw [hbp2] at hb2; cases hb2)]), ?_⟩
      conv => whnf
      refine .mk _ (appendB (hv2.sub (Mem.sub_set _ hb2)) (Lb.blk (Mem.set_same ..) rfl).la (by simp; omega)) ?_
      rintro _ m3 ⟨v3, rfl, h4⟩
      have h4 := push_mem hb2 h4
      rw [wbyte hn (by omega) hw8] at h4
      obtain ⟨h5, h6⟩ := Wr.appended hbp2 hne2 h4
      conv => whnf
      refine ⟨_, _, _, h5, ⟨by simp, by omega⟩, ?_⟩
      conv => whnf
      refine ⟨j + 1, ⟨by omega, ?_⟩, by omega, ?_⟩
      · rw [← List.take_append_getElem (by omega)]; simpa using h6
      · conv => whnf
        repeat (refine And.intro (by first | with_reducible rfl | (exact congrArg (Value.int _) (by rw [wi (by omega) (by omega)]; omega)) | exact congrArg (Value.int _) (wi (by omega) (by omega)) | exact wi (by omega) (by omega) | rfl) ?_; conv => whnf)
        first | exact trivial | exact fun _ _ h => h
    · have h' := of_decide_eq_false h
      have : j = (beB n).length := by omega
      subst this
      conv => whnf
      rw [List.take_length] at hv2
      exact ⟨rfl, v2, hbp2, hv2, hne2⟩
theorem wnum_nil {m : Mem} {n : Int} : Spec Try.prog 45 [nilP, u64 n] m fun r m' => r = [] ∧ m' = m := by
  refine en45 rfl (goY ?_)
  conv => whnf
  refine ⟨fun _ => ?_, fun h => absurd h (by decide)⟩
  conv => whnf
  exact ⟨rfl, rfl⟩
/-- a whole number that fits -/
def I64 (n : Int) : Prop := -9223372036854775808 ≤ n ∧ n ≤ 9223372036854775807
theorem intU_U {n : Int} (h : I64 n) : U64 (intU n) := by
  have := h.1; have := h.2
  unfold intU U64; split <;> omega
theorem wint_pos {n : Int} (h : I64 n) (h0 : 0 ≤ n) : shlOf .u64 (IntKind.u64.wrap n) 1 = intU n := by
  have := h.2
  rw [wu h0 (by omega)]
  show IntKind.u64.wrap (n * 2) = intU n
  rw [wu (by omega) (by omega), intU, if_pos h0]; omega
theorem wint_neg {n : Int} (h : I64 n) (h0 : n < 0) : bitsOf BinOp.or .u64 (shlOf .u64 (IntKind.u64.wrap (bitsOf .xor .i64 (if IntKind.i64.signed = true then -1 else IntKind.i64.max) n)) 1) 1 = intU n := by
  have := h.1
  rw [not_i64 h.1 h.2, wu (by omega) (by omega)]
  have e1 : shlOf .u64 (-n - 1) 1 = (((-n - 1).toNat * 2 ^ 1 : Nat) : Int) := by
    show IntKind.u64.wrap ((-n - 1) * 2) = _
    rw [wu (by omega) (by omega)]; omega
  have e2 := or_u64 (a := (-n - 1).toNat * 2 ^ 1) (b := 1) (by omega) (by omega)
  rw [e1]
  refine e2.trans ?_
  rw [or_low 1 (by omega), intU, if_neg (by omega)]
  omega
theorem numB_U {k : Nat} (h : k < 1000000000000) : U64 k := ⟨by omega, by omega⟩
/-- a digest, a vector -/
abbrev digV (d : List Int) : CV := .a [.ints .u8 32 d]
abbrev wvecV (v : List Int) : CV := .a [.ints .u64 8 v]
theorem Lb.dig {m : Mem} {b : Nat} {d : List Int} {t : TypeId} {fr : Nat × Nat} (h : m b = some (.cells (LB.cells [.ints .u8 32 d]).toArray t fr)) (hd : d.length = 32) : Lb m (.slice (some ⟨b, 0, none⟩) 32 32) d :=
  Lb.mk h hd (Nat.le_refl _) fun j n hj => by simp [LB.cells, Seg.cells, hj]
/-- a vector of numbers that fit -/
def WV8 (v : List Int) : Prop := v.length = 8 ∧ ∀ x ∈ v, U64 x
theorem vecB_len (v : List Int) : (vecB v).length ≤ 9 * v.length := by
  induction v with
  | nil => simp [vecB]
  | cons a v ih => have := numB_len a; simp only [vecB, List.map_cons, List.flatten_cons, List.length_append, List.length_cons] at ih ⊢; omega
theorem vecB_take {v : List Int} {i : Nat} (h : i < v.length) : vecB (v.take i) ++ numB (v.getD i 0) = vecB (v.take (i + 1)) := by
  rw [List.take_succ_eq_append_getElem h, vecB, vecB, List.map_append, List.flatten_append]; simp [h]
theorem WV8.at {v : List Int} (h : WV8 v) (i : Nat) : U64 (v.getD i 0) := by
  by_cases hi : i < v.length
  · have : v.getD i 0 ∈ v := by simp [hi]
    exact h.2 _ this
  · simp [List.getElem?_eq_none (Nat.le_of_not_lt hi)]; exact ⟨by decide, by decide⟩
theorem wbytes_spec {m : Mem} {bp : Nat} {l : List Int} (hw : Wr m bp l) (hb : l.length ≤ 100000000) :
    Spec Try.prog 46 [ptrV bp] m fun r m' => ∃ v' p, r = [.v v'] ∧ Split m' [p, m] ∧ Bs p v' l := by
  obtain ⟨v, hbp, hv, hne⟩ := hw
  refine en46 rfl (goY ?_)
  conv => whnf
  refine ⟨fun h => absurd h (by decide), fun _ => ?_⟩
  conv => whnf
  refine ⟨v, mcell_of hbp rfl, hv.lb.one, ?_⟩
  conv => whnf
  refine xcall (clone_spec hv.lb.la hb) ?_
  rintro _ m' ⟨v', p, rfl, h1, h2⟩
  conv => whnf
  exact ⟨v', p, rfl, h1, h2⟩
theorem wbytes_nil {m : Mem} : Ret Try.prog 46 [nilP] m [.v (.slice none 0 0)] := by
  refine en46 rfl (goY ?_)
  conv => whnf
  refine ⟨fun _ => ?_, fun h => absurd h (by decide)⟩
  conv => whnf
  exact ⟨rfl, rfl⟩
end Go.E.Ytcjmmhamnglmkaa

/-
  Contracts of wire's reader.
-/
namespace Go.E.Ytcjmmhamnglmkaa
open Go.Proofs
set_option maxRecDepth 100000

/-- a reader: its own block, and the bytes that are left -/
def Rd (m : Mem) (bp : Nat) (s : RS) : Prop := ∃ v, m bp = some (.cells #[.bool true, v, .int .i64 s.2] 104) ∧ Lb m v s.1 ∧ blkV v ≠ some bp ∧ Byt s.1 ∧ s.1.length ≤ 100000000
/-- bytes that are not in the reader's own block -/
def Lx (m : Mem) (bp : Nat) (v : Value) (l : List Int) : Prop := Lb m v l ∧ blkV v ≠ some bp
theorem Lies.setOther {m : Mem} {size : Nat} {v : Value} {l : List Value} {b : Nat} {o : Obj} (h : Lies m size v l) (hn : blkV v ≠ some b) : Lies (m.set b o) size v l :=
  h.keep fun x hx => Mem.set_ne _ _ fun e => hn (by rw [hx, e])
theorem from_spec {m : Mem} {v : Value} {l : List Int} (hv : La m v l) (hb : Byt l) (hl : l.length ≤ 100000000) :
    Spec Try.prog 40 [.v v] m fun r m' => ∃ bp p, r = [ptrV bp] ∧ Split m' [p, m] ∧ Rd p bp (l, 0) := by
  refine en40 rfl (goY ?_)
  conv => whnf
  refine xcall (clone_spec hv hl) ?_
  rintro _ m1 ⟨v1, p1, rfl, hs1, hv1⟩
  conv => whnf
  intro b hb1
  conv => whnf
  have hp : p1 b = none := hs1.none hb1 p1 (by simp)
  have hs2 := (hs1.new hb1 (.cells (LB.cells [.one (.bool true), .one v1, .one (.int .i64 0)]).toArray 104)).pair
  refine ⟨b, _, rfl, hs2, v1, ?_, ?_, ?_, hb, hl⟩
  · rw [joinM_blk1, Mem.set_same]; rfl
  · rw [joinM_blk1]; exact hv1.lb.sub (Mem.sub_set _ hp)
  · intro e
    rcases hv1 with ⟨rfl, _⟩ | ⟨b', o, c, n, arr, rfl, h1, _⟩
    · simp [blkV] at e
    · simp [blkV] at e; subst e; rw [h1] at hp; cases hp
theorem err_spec {m : Mem} {bp : Nat} {s : RS} (h : Rd m bp s) : Ret Try.prog 42 [ptrV bp] m [i64 s.2] := by
  obtain ⟨v, hb, hv, hn, _⟩ := h
  refine en42 rfl (goY ?_)
  conv => whnf
  refine ⟨fun h => absurd h (by decide), fun _ => ?_⟩
  conv => whnf
  refine ⟨_, mcell_of hb rfl, rfl, ?_⟩
  conv => whnf
  refine ⟨fun h => absurd h (by decide), fun _ => ?_⟩
  conv => whnf
  refine ⟨_, mcell_of hb rfl, rfl, ?_⟩
  conv => whnf
  exact ⟨rfl, rfl⟩
/-- no block but bp has changed -/
def Only (m m' : Mem) (bp : Nat) : Prop := ∀ b, b ≠ bp → m' b = m b
theorem Only.refl (m : Mem) (bp : Nat) : Only m m bp := fun _ _ => rfl
theorem Only.trans {m m' m'' : Mem} {bp : Nat} (h : Only m m' bp) (k : Only m' m'' bp) : Only m m'' bp := fun b hb => (k b hb).trans (h b hb)
theorem Only.set (m : Mem) (bp : Nat) (o : Obj) : Only m (m.set bp o) bp := fun _ hb => Mem.set_ne _ _ hb
theorem Lx.only {m m' : Mem} {bp : Nat} {v : Value} {l : List Int} (h : Lx m bp v l) (k : Only m m' bp) : Lx m' bp v l := ⟨h.1.keep fun b hb => k b fun e => h.2 (by rw [hb, e]), h.2⟩
theorem must_spec {m : Mem} {bp : Nat} {s : RS} {is : Bool} (h : Rd m bp s) :
    Spec Try.prog 50 [ptrV bp, boolV is] m fun r m' => r = [] ∧ Rd m' bp (rMust is s) ∧ Only m m' bp := by
  have h0 := h
  obtain ⟨v, hb, hv, hn, hby, hl⟩ := h
  refine en50 rfl (goY ?_)
  conv => whnf
  first | refine xretk (err_spec h0) ?_ | refine xret (err_spec h0) ?_
  conv => whnf
  refine ⟨fun h1 => ?_, fun h1 => ?_⟩
  · have h1' : s.2 = 0 := by simpa using h1
    conv => whnf
    refine ⟨fun h2 => ?_, fun h2 => ?_⟩
    · have h2' : is = false := by simpa using h2
      conv => whnf
      refine ⟨_, _, _, hb, ⟨by simp, by omega⟩, ?_⟩
      conv => whnf
      refine ⟨rfl, ?_, Only.set _ _ _⟩
      rw [rMust, if_pos ⟨h1', h2'⟩]
      exact ⟨v, Mem.set_same .., Lies.setOther hv hn, hn, hby, hl⟩
    · have h2' : is = true := by simpa using h2
      conv => whnf
      refine ⟨rfl, ?_, Only.refl _ _⟩
      rw [rMust, if_neg (by simp [h2'])]
      exact h0
  · have h1' : s.2 ≠ 0 := by simpa using h1
    conv => whnf
    refine ⟨rfl, ?_, Only.refl _ _⟩
    rw [rMust, if_neg (by simp [h1'])]
    exact h0
set_option maxHeartbeats 1000000 in
theorem take_spec {m : Mem} {bp : Nat} {s : RS} {n : Nat} (h : Rd m bp s) (hn1 : n < 9223372036854775808) :
    Spec Try.prog 62 [ptrV bp, i64 n] m fun r m' => ∃ v', r = [.v v'] ∧ Lx m' bp v' (rTake n s).1 ∧ Rd m' bp (rTake n s).2 ∧ Only m m' bp := by
  have h0 := h
  obtain ⟨l, e⟩ := s
  obtain ⟨v, hb, hv, hn, hby, hl⟩ := h
  simp only at hb hv hby hl
  refine en62 rfl (goY ?_)
  conv => whnf
  first | refine xretk (err_spec h0) ?_ | refine xret (err_spec h0) ?_
  conv => whnf
  refine ⟨fun h1 => ?_, fun h1 => ?_⟩
  · have h1' : e ≠ 0 := by simpa using h1
    conv => whnf
    rw [rTake, if_pos h1']
    exact ⟨_, rfl, ⟨Lb.nil .., by simp [blkV]⟩, h0, Only.refl _ _⟩
  · have h1' : e = 0 := by simpa using h1
    subst h1'
    conv => whnf
    refine ⟨v, mcell_of hb rfl, hv.one, ?_⟩
    obtain ⟨a, c, rfl⟩ := hv.shape
    conv => whnf
    refine ⟨fun h2 => ?_, fun h2 => ?_⟩
    · have h2' := of_decide_eq_true h2
      conv => whnf
      refine ⟨_, _, _, hb, ⟨by simp, by omega⟩, ?_⟩
      conv => whnf
      rw [rTake, if_neg (by simp), if_pos (by show l.length < n; omega)]
      exact ⟨_, rfl, ⟨Lb.nil .., by simp [blkV]⟩, ⟨_, Mem.set_same .., Lies.setOther hv hn, hn, hby, hl⟩, Only.set _ _ _⟩
    · have h2' := of_decide_eq_false h2
      have hln : n ≤ l.length := by omega
      conv => whnf
      refine ⟨.slice a l.length c, mcell_of hb rfl, hv.one, ?_⟩
      rw [rTake, if_neg (by simp), if_neg (by show ¬ (l.length < n); omega)]
      rcases hv.cases with ⟨c', e1, e2⟩ | ⟨b, o, c', arr, t, fr, e1, g1, g2, g3⟩
      · subst e2
        cases e1
        obtain rfl : n = 0 := by simpa using hln
        conv => whnf
        repeat (refine And.intro (by first | omega | (simp only [times]; omega)) ?_; conv => whnf)
        refine ⟨.slice none 0 c, mcell_of hb rfl, hv.one, ?_⟩
        conv => whnf
        repeat (refine And.intro (by first | omega | (simp only [times]; omega)) ?_; conv => whnf)
        refine ⟨_, _, _, hb, ⟨by simp, by omega⟩, ?_⟩
        conv => whnf
        exact ⟨_, rfl, ⟨Lb.nil .., by simp [blkV]⟩, ⟨_, Mem.set_same .., Lb.nil .., by simp [blkV], Byt.nil, by simp⟩, Only.set _ _ _⟩
      · cases e1
        have hbn : b ≠ bp := fun e => hn (by rw [e]; rfl)
        conv => whnf
        repeat (refine And.intro (by first | omega | (simp only [times]; omega)) ?_; conv => whnf)
        intro o1 ho1 ho1'
        obtain rfl : o1 = o := by
          rcases Nat.eq_zero_or_pos n with h | h
          · exact ho1' (by omega)
          · have := ho1 (by omega); simpa using this
        conv => whnf
        refine ⟨.slice (some ⟨b, o1, none⟩) l.length c, mcell_of hb rfl, hv.one, ?_⟩
        conv => whnf
        repeat (refine And.intro (by first | omega | (simp only [times]; omega)) ?_; conv => whnf)
        intro o2 ho2 ho2'
        conv => whnf
        refine ⟨_, _, _, hb, ⟨by simp, by omega⟩, ?_⟩
        conv => whnf
        refine ⟨_, rfl, ⟨Lb.mk (arr := arr) (t := t) (fr := fr) ?_ (by simp; omega) (by simp) ?_, ?_⟩, ⟨_, Mem.set_same .., Lb.mk (arr := arr) (t := t) (fr := fr) ?_ (by simp) (by omega) ?_, ?_, hby.drop n, by simp; omega⟩, Only.set _ _ _⟩
        · rw [Mem.set_ne _ _ hbn]; exact g1
        · intro j u hu
          have := (List.getElem?_eq_some_iff.1 hu).1
          simp only [List.length_take] at this
          rw [List.getElem?_take, if_pos (by omega)] at hu
          exact g3 j u hu
        · intro e; simp [blkV] at e; exact hbn e
        · rw [Mem.set_ne _ _ hbn]; exact g1
        · intro j u hu
          rw [List.getElem?_drop] at hu
          have : n + j < l.length := (List.getElem?_eq_some_iff.1 hu).1
          have e2 := ho2 (by omega)
          simp only [Nat.mul_one] at e2
          have := g3 _ u hu
          rw [show o2 + j = o1 + (n + j) by simp at e2; omega]
          exact this
        · intro e; simp [blkV] at e; exact hbn e
theorem Lx.head {m : Mem} {bp : Nat} {v : Value} {l : List Int} (h : Lx m bp v l) (hl : l ≠ []) : ∃ b o c arr t fr, v = .slice (some ⟨b, o, none⟩) l.length c ∧ b ≠ bp ∧ m b = some (.cells arr t fr) ∧ (∀ j n, l[j]? = some n → arr[o + j]? = some (.int .u8 n)) := by
  rcases h.1.cases with ⟨c, rfl, h'⟩ | ⟨b, o, c, arr, t, fr, rfl, g1, g2, g3⟩
  · exact absurd h' hl
  · exact ⟨b, o, c, arr, t, fr, rfl, fun e => h.2 (by rw [e]; rfl), g1, g3⟩
theorem shl8or {a c : Int} (ha : 0 ≤ a) (ha' : a < 72057594037927936) (hc : 0 ≤ c ∧ c < 256) : bitsOf .or .u64 (shlOf .u64 a 8) (IntKind.u64.wrap c) = 256 * a + c := by
  obtain ⟨a, rfl⟩ := Int.eq_ofNat_of_zero_le ha
  obtain ⟨c, rfl⟩ := Int.eq_ofNat_of_zero_le hc.1
  rw [wu (by omega) (by omega)]
  have e1 : shlOf .u64 (a : Int) 8 = ((a * 2 ^ 8 : Nat) : Int) := by
    show IntKind.u64.wrap ((a : Int) * 256) = _
    rw [wu (by omega) (by omega)]; omega
  rw [e1, or_u64 (by omega) (by omega), or_low 8 (by omega)]
  omega
set_option maxHeartbeats 2000000 in
theorem num_spec {m : Mem} {bp : Nat} {s : RS} (h : Rd m bp s) :
    Spec Try.prog 49 [ptrV bp] m fun r m' => r = [u64 (rNum s).1] ∧ Rd m' bp (rNum s).2 ∧ Only m m' bp := by
  have hbs : Byt s.1 := by obtain ⟨v, _, _, _, h, _⟩ := h; exact h
  have ht1 := rTake_byt (n := 1) hbs
  have hl1 := rTake_len (n := 1) (s := s)
  rcases hr1 : rTake 1 s with ⟨hd, s1⟩
  rw [hr1] at ht1 hl1
  simp only at ht1 hl1
  rcases hd with _ | ⟨c, _ | ⟨c', hd'⟩⟩
  · have e : rNum s = (0, s1) := by simp [rNum, hr1]
    refine en49 rfl (goY ?_)
    conv => whnf
    refine xcall (take_spec (n := 1) h (by omega)) ?_
    rintro _ m1 ⟨v1, rfl, hv1, h1, o1⟩
    conv => whnf
    rw [hr1] at hv1 h1
    simp only at hv1 h1
    obtain ⟨a1, c1, rfl⟩ := hv1.1.shape
    conv => whnf
    refine ⟨fun _ => ?_, fun h => absurd h (by decide)⟩
    conv => whnf
    rw [e]
    exact ⟨rfl, h1, o1⟩
  · have hc := ht1.1 c (by simp)
    have hcw : IntKind.i64.wrap c = (c.toNat : Int) := by rw [wi (by omega) (by omega)]; omega
    have ht2 := rTake_byt (n := c.toNat) (rMust_byt (b := decide (c ≤ 8)) ht1.2)
    have hl2 := rTake_len (n := c.toNat) (s := rMust (decide (c ≤ 8)) s1)
    have hc8 : c.toNat ≤ 8 ∨ (rTake c.toNat (rMust (decide (c ≤ 8)) s1)).1 = [] := by
      by_cases h8 : c ≤ 8
      · exact .inl (by omega)
      · refine .inr ?_
        have : (rMust (decide (c ≤ 8)) s1).2 ≠ 0 := by
          unfold rMust; split
          · simp
          · rename_i h; simp [h8] at h; exact h
        rw [rTake, if_pos this]
    rcases hr2 : rTake c.toNat (rMust (decide (c ≤ 8)) s1) with ⟨l, s3⟩
    rw [hr2] at ht2 hl2 hc8
    simp only at ht2 hl2 hc8
    have hl8 : l.length ≤ 8 := by
      rcases hc8 with h | h
      · omega
      · rw [h]; simp
    have e : rNum s = (if (rMust (l.isEmpty || decide (0 < hd0 l)) s3).2 ≠ 0 then 0 else beN l, rMust (l.isEmpty || decide (0 < hd0 l)) s3) := by
      unfold rNum; rw [hr1]; dsimp only; rw [if_neg (by simp), show hd0 [c] = c from rfl, hr2]
    rcases l with _ | ⟨x, l'⟩
    · refine en49 rfl (goY ?_)
      conv => whnf
      refine xcall (take_spec (n := 1) h (by omega)) ?_
      rintro _ m1 ⟨v1, rfl, hv1, h1, o1⟩
      conv => whnf
      rw [hr1] at hv1 h1
      simp only at hv1 h1
      obtain ⟨b, o, cc, arr, t, fr, rfl, hbn, hb1, hat⟩ := hv1.head (by simp)
      conv => whnf
      refine ⟨fun h => absurd h (by simp), fun _ => ?_⟩
      conv => whnf
      refine ⟨⟨by simp, by simp⟩, ?_⟩
      conv => whnf
      refine ⟨.int .u8 c, mcell_of hb1 (hat 0 c rfl), rfl, ?_⟩
      conv => whnf
      refine xcall (must_spec (is := decide (c ≤ 8)) h1) ?_
      rintro _ m2 ⟨rfl, h2, o2⟩
      conv => whnf
      have hb2 : m2 b = some (.cells arr t fr) := by rw [o2 b hbn]; exact hb1
      refine ⟨⟨by simp, by simp⟩, ?_⟩
      conv => whnf
      refine ⟨.int .u8 c, mcell_of hb2 (hat 0 c rfl), rfl, ?_⟩
      conv => whnf
      rw [hcw]
      refine xcall (take_spec (n := c.toNat) h2 (by omega)) ?_
      rintro _ m3 ⟨v3, rfl, hv3, h3, o3⟩
      conv => whnf
      rw [hr2] at hv3 h3
      simp only at hv3 h3
      obtain ⟨a3, c3, rfl⟩ := hv3.1.shape
      conv => whnf
      refine ⟨fun _ => ?_, fun h => absurd h (by decide)⟩
      conv => whnf
      refine xcall (must_spec (is := true) h3) ?_
      rintro _ m4 ⟨rfl, h4, o4⟩
      conv => whnf
      refine .mk (ι := Unit) (fun _ => 0) (fun _ mm => mm = m4) (fun _ => [(0, .c (ptrV bp)), (5, .c (u64 0)), (36, .c (.v (.slice a3 0 c3))), (37, .c (i64 0)), (38, .c (i64 0))]) (fun _ => []) () rfl ?_ ?_
      · conv => whnf
        repeat (refine And.intro (by first | with_reducible rfl | exact congrArg (Value.int _) (wi (by omega) (by omega)) | exact wi (by omega) (by omega) | rfl) ?_; conv => whnf)
        first | exact trivial | exact fun _ _ h => h
      rintro _ _ rfl
      conv => whnf
      refine ⟨fun h => absurd h (by decide), fun _ => ?_⟩
      conv => whnf
      have h4' := h4
      obtain ⟨v4, hb4, _⟩ := h4'
      refine ⟨_, mcell_of hb4 rfl, rfl, ?_⟩
      conv => whnf
      have fin : rNum s = (0, rMust true s3) := by rw [e]; simp [beN]
      rw [fin]
      refine ⟨fun h5 => ?_, fun h5 => ?_⟩
      · conv => whnf
        exact ⟨rfl, h4, ((o1.trans o2).trans o3).trans o4⟩
      · conv => whnf
        exact ⟨rfl, h4, ((o1.trans o2).trans o3).trans o4⟩
    · refine en49 rfl (goY ?_)
      conv => whnf
      refine xcall (take_spec (n := 1) h (by omega)) ?_
      rintro _ m1 ⟨v1, rfl, hv1, h1, o1⟩
      conv => whnf
      rw [hr1] at hv1 h1
      simp only at hv1 h1
      obtain ⟨b, o, cc, arr, t, fr, rfl, hbn, hb1, hat⟩ := hv1.head (by simp)
      conv => whnf
      refine ⟨fun h => absurd h (by simp), fun _ => ?_⟩
      conv => whnf
      refine ⟨⟨by simp, by simp⟩, ?_⟩
      conv => whnf
      refine ⟨.int .u8 c, mcell_of hb1 (hat 0 c rfl), rfl, ?_⟩
      conv => whnf
      refine xcall (must_spec (is := decide (c ≤ 8)) h1) ?_
      rintro _ m2 ⟨rfl, h2, o2⟩
      conv => whnf
      have hb2 : m2 b = some (.cells arr t fr) := by rw [o2 b hbn]; exact hb1
      refine ⟨⟨by simp, by simp⟩, ?_⟩
      conv => whnf
      refine ⟨.int .u8 c, mcell_of hb2 (hat 0 c rfl), rfl, ?_⟩
      conv => whnf
      rw [hcw]
      refine xcall (take_spec (n := c.toNat) h2 (by omega)) ?_
      rintro _ m3 ⟨v3, rfl, hv3, h3, o3⟩
      conv => whnf
      rw [hr2] at hv3 h3
      simp only at hv3 h3
      obtain ⟨b3, o3', cc3, arr3, t3, fr3, rfl, hbn3, hb3, hat3⟩ := hv3.head (by simp)
      conv => whnf
      refine ⟨fun h => absurd h (by simp; omega), fun _ => ?_⟩
      conv => whnf
      refine ⟨⟨by simp, by simp⟩, ?_⟩
      conv => whnf
      refine ⟨.int .u8 x, mcell_of hb3 (hat3 0 x rfl), rfl, ?_⟩
      conv => whnf
      refine xcall (must_spec (is := decide (0 < x)) h3) ?_
      rintro _ m4 ⟨rfl, h4, o4⟩
      conv => whnf
      have e4 : rMust ((x :: l').isEmpty || decide (0 < hd0 (x :: l'))) s3 = rMust (decide (0 < x)) s3 := rfl
      rw [e4] at e
      have hv4 := hv3.only o4
      refine .mk (ι := Nat) (fun i => (x :: l').length - i) (fun i mm => m4 = mm ∧ i ≤ (x :: l').length) (fun i => [(0, .c (ptrV bp)), (5, .c (u64 (beN ((x :: l').take i)))), (36, .c (.v (.slice (some ⟨b3, o3', none⟩) (x :: l').length cc3))), (37, .c (i64 (x :: l').length)), (38, .c (i64 i))]) (fun _ => []) 0 ⟨rfl, by simp⟩ ?_ ?_
      · conv => whnf
        repeat (refine And.intro (by first | with_reducible rfl | exact congrArg (Value.int _) (wi (by omega) (by omega)) | exact wi (by omega) (by omega) | rfl) ?_; conv => whnf)
        first | exact trivial | exact fun _ _ h => h
      rintro i _ ⟨rfl, hi⟩
      conv => whnf
      refine ⟨fun h5 => ?_, fun h5 => ?_⟩
      · have h5' := of_decide_eq_true h5
        have hlt : i < (x :: l').length := by omega
        conv => whnf
        repeat (refine And.intro (by first | omega | (simp only [times]; omega)) ?_; conv => whnf)
        have hb4' : m4 b3 = some (.cells arr3 t3 fr3) := by rw [o4 b3 hbn3]; exact hb3
        refine ⟨.int .u8 (x :: l')[i], mcell_of hb4' (hat3 i _ (by simp)), rfl, ?_⟩
        conv => whnf
        refine ⟨i + 1, ⟨rfl, by omega⟩, by omega, ?_⟩
        have hbt := beN_bound (ht2.1.take i)
        have hpw : (256 : Nat) ^ ((x :: l').take i).length ≤ 256 ^ 7 := Nat.pow_le_pow_right (by decide) (by rw [List.length_take]; omega)
        have hpe : ((256 ^ ((x :: l').take i).length : Nat) : Int) = (256 : Int) ^ ((x :: l').take i).length := by simp
        have hx := ht2.1 (x :: l')[i] (by simp)
        have hst : bitsOf .or .u64 (shlOf .u64 (beN ((x :: l').take i)) 8) (IntKind.u64.wrap (x :: l')[i]) = beN ((x :: l').take (i + 1)) := by
          rw [shl8or hbt.1 (by omega) hx, List.take_succ_eq_append_getElem hlt, beN_snoc]
        conv => whnf
        repeat (refine And.intro (by first | with_reducible rfl | (first | exact congrArg (Value.int _) (iadd (by omega)) | exact congrArg (Value.int _) hst) | exact congrArg (Value.int _) (wi (by omega) (by omega)) | exact wi (by omega) (by omega) | rfl) ?_; conv => whnf)
        first | exact trivial | exact fun _ _ h => h
      · have h5' := of_decide_eq_false h5
        obtain rfl : i = (x :: l').length := by omega
        conv => whnf
        have h4' := h4
        obtain ⟨v4, hb4, _⟩ := h4'
        refine ⟨_, mcell_of hb4 rfl, rfl, ?_⟩
        conv => whnf
        rw [e]
        refine ⟨fun h6 => ?_, fun h6 => ?_⟩
        · have h6' : (rMust (decide (0 < x)) s3).2 ≠ 0 := by simpa using h6
          conv => whnf
          rw [if_pos h6']
          exact ⟨rfl, h4, ((o1.trans o2).trans o3).trans o4⟩
        · have h6' : (rMust (decide (0 < x)) s3).2 = 0 := by simpa using h6
          conv => whnf
          rw [if_neg (by simp [h6']), List.take_length]
          exact ⟨rfl, h4, ((o1.trans o2).trans o3).trans o4⟩
  · simp at hl1
theorem rNum_U {s : RS} (h : Byt s.1) : U64 (rNum s).1 := by
  have z : U64 0 := ⟨by decide, by decide⟩
  unfold rNum
  rcases hr : rTake 1 s with ⟨hd, s1⟩
  have b1 := rTake_byt (n := 1) h
  rw [hr] at b1
  dsimp only
  split
  · exact z
  · rcases hr2 : rTake (hd0 hd).toNat (rMust (decide (hd0 hd ≤ 8)) s1) with ⟨l, s3⟩
    have b2 := rTake_byt (n := (hd0 hd).toNat) (rMust_byt (b := decide (hd0 hd ≤ 8)) b1.2)
    have l2 := rTake_len (n := (hd0 hd).toNat) (s := rMust (decide (hd0 hd ≤ 8)) s1)
    rw [hr2] at b2 l2
    dsimp only
    split
    · exact z
    · refine beN_U b2.1 ?_
      by_cases h8 : hd0 hd ≤ 8
      · exact Nat.le_trans l2 (by omega)
      · have : (rMust (decide (hd0 hd ≤ 8)) s1).2 ≠ 0 := by
          unfold rMust; split
          · simp
          · rename_i h; simp [h8] at h; exact h
        rw [rTake, if_pos this] at hr2
        cases hr2
        simp
theorem Rd.byt {m : Mem} {bp : Nat} {s : RS} (h : Rd m bp s) : Byt s.1 := by obtain ⟨v, _, _, _, h, _⟩ := h; exact h
theorem small_spec {m : Mem} {bp : Nat} {s : RS} {most : Int} (h : Rd m bp s) (hm : I64 most) :
    Spec Try.prog 41 [ptrV bp, i64 most] m fun r m' => r = [i64 (rSmall most s).1] ∧ Rd m' bp (rSmall most s).2 ∧ Only m m' bp := by
  have hU := rNum_U h.byt
  have hU0 := hU.1
  have hU1 := hU.2
  have hm0 := hm.1
  have hm1 := hm.2
  rcases hr : rNum s with ⟨n, s1⟩
  rw [hr] at hU0 hU1
  simp only at hU0 hU1
  have key : ∀ is : Bool, is = (decide (0 ≤ most) && decide (n ≤ max most 0)) → rSmall most s = (if (rMust is s1).2 ≠ 0 then 0 else n, rMust is s1) := by
    rintro is rfl; simp only [rSmall, hr]
  refine en41 rfl (goY ?_)
  conv => whnf
  refine xcall (num_spec h) ?_
  rintro _ m1 ⟨rfl, h1, o1⟩
  conv => whnf
  rw [hr] at h1
  simp only [hr] at h1
  refine ⟨fun h2 => ?_, fun h2 => ?_⟩
  · have h2' := of_decide_eq_true h2
    conv => whnf
    have k := key (decide (n ≤ max most 0)) (by simp [h2'])
    rw [hr]
    have ew : IntKind.u64.wrap (max most 0) = max most 0 := wu (by omega) (by omega)
    rw [ew]
    refine xcall (must_spec (is := decide (n ≤ max most 0)) h1) ?_
    rintro _ m3 ⟨rfl, h3, o3⟩
    conv => whnf
    first | refine xretk (err_spec h3) ?_ | refine xret (err_spec h3) ?_
    conv => whnf
    rw [k]
    refine ⟨fun h4 => ?_, fun h4 => ?_⟩
    · have h4' : (rMust (decide (n ≤ max most 0)) s1).2 ≠ 0 := by simpa using h4
      conv => whnf
      rw [if_pos h4']
      exact ⟨rfl, h3, o1.trans o3⟩
    · have h4' : (rMust (decide (n ≤ max most 0)) s1).2 = 0 := by simpa using h4
      conv => whnf
      have hle : n ≤ max most 0 := by
        unfold rMust at h4'
        split at h4'
        · simp at h4'
        · rename_i hh; simp [h4'] at hh; omega
      rw [if_neg (by simp [h4']), wi (by omega) (by omega)]
      exact ⟨rfl, h3, o1.trans o3⟩
  · have h2' := of_decide_eq_false h2
    conv => whnf
    have k := key false (by simp [h2'])
    refine xcall (must_spec (is := false) h1) ?_
    rintro _ m3 ⟨rfl, h3, o3⟩
    conv => whnf
    first | refine xretk (err_spec h3) ?_ | refine xret (err_spec h3) ?_
    conv => whnf
    rw [k]
    have hne : (rMust false s1).2 ≠ 0 := by
      unfold rMust; split
      · simp
      · rename_i hh; simpa using hh
    refine ⟨fun h4 => ?_, fun h4 => ?_⟩
    · conv => whnf
      rw [if_pos hne]
      exact ⟨rfl, h3, o1.trans o3⟩
    · exact absurd h4 (by simpa using hne)
theorem shr1 {n : Int} (h : U64 n) : shrOf .u64 n 1 = n / 2 := by
  show n.fdiv 2 = _
  rw [Int.fdiv_eq_ediv_of_nonneg _ (by decide)]
theorem and1 {n : Int} (h : U64 n) : bitsOf .and .u64 n 1 = n % 2 := by
  obtain ⟨k, rfl⟩ := Int.eq_ofNat_of_zero_le h.1
  have := h.2
  have e := and_u64 (a := k) (b := 1) (by omega) (by omega)
  refine e.trans ?_
  rw [Nat.and_one_is_mod]; rfl
theorem rMust_zero {b : Bool} {s : RS} (h : (rMust b s).2 = 0) : s.2 = 0 ∧ b = true := by
  unfold rMust at h
  split at h
  · simp at h
  · rename_i hh
    refine ⟨h, ?_⟩
    cases b with
    | true => rfl
    | false => exact absurd ⟨h, rfl⟩ hh
theorem rSmall_nat {most : Int} {s : RS} (h : Byt s.1) (hm : I64 most) : 0 ≤ (rSmall most s).1 ∧ (rSmall most s).1 ≤ max most 0 := by
  have hU := rNum_U h
  rcases hr : rNum s with ⟨n, s1⟩
  rw [hr] at hU
  have hU0 : 0 ≤ n := hU.1
  simp only [rSmall, hr]
  split
  · omega
  · rename_i hh
    have := (rMust_zero (by simpa using hh)).2
    simp at this
    omega
theorem rTake_big {n : Nat} {s : RS} (h : 1000000000 ≤ n) (hl : s.1.length ≤ 100000000) : rTake n s = ([], if s.2 ≠ 0 then s else (s.1, 8)) := by
  unfold rTake
  split
  · rfl
  · rw [if_pos (by omega)]
theorem Rd.mono {m m' : Mem} {bp : Nat} {s : RS} (h : Rd m bp s) (hs : Sub m m') : Rd m' bp s := by
  obtain ⟨v, h1, h2, h3⟩ := h
  exact ⟨v, hs _ _ h1, h2.sub hs, h3⟩
theorem Rd.other {m : Mem} {bp b : Nat} {s : RS} {o : Obj} (h : Rd m bp s) (hb : b ≠ bp) (hv : ∀ v t, m bp = some (.cells #[.bool true, v, .int .i64 s.2] t) → blkV v ≠ some b) : Rd (m.set b o) bp s := by
  obtain ⟨v, h1, h2, h3⟩ := h
  exact ⟨v, by rw [Mem.set_ne _ _ (Ne.symm hb)]; exact h1, Lies.setOther h2 (hv v _ h1), h3⟩
theorem rTake_32 {s : RS} : (rTake 32 s).1 = [] ∨ (rTake 32 s).1.length = 32 := by
  unfold rTake; split
  · exact .inl rfl
  · split
    · exact .inl rfl
    · exact .inr (by simp; omega)
theorem rNums_len : ∀ (k : Nat) (s : RS), (rNums k s).1.length = k
  | 0, _ => rfl
  | k + 1, s => by simp [rNums, rNums_len k s]
theorem rNums_set {k : Nat} {s : RS} (h : k < 8) : ((rNums k s).1 ++ List.replicate (8 - k) 0).set k (rNum (rNums k s).2).1 = (rNums (k + 1) s).1 ++ List.replicate (8 - (k + 1)) 0 := by
  have hl := rNums_len k s
  rw [List.set_append_right _ _ (by omega), hl, Nat.sub_self]
  obtain ⟨j, hj⟩ : ∃ j, 8 - k = j + 1 := ⟨8 - k - 1, by omega⟩
  rw [hj, List.replicate_succ, List.set_cons_zero, show 8 - (k + 1) = j by omega]
  simp [rNums]
end Go.E.Ytcjmmhamnglmkaa
/-
  More operations: how much room there is; new room.
-/
namespace Go.E
section
variable {P : Program} {T : Tab}
theorem cap_spec (hT : TabOk P T) {t e : TypeId} {ti : TI} (ht : T t = some ti) (hk : ti.k = .slice e) {m : Mem} {a : Option Addr} {n c : Nat} :
    PrimSpec P (.builtin .cap [t]) [.v (.slice a n c)] m fun r m' => r = [.v (.int .i64 c)] ∧ m = m' := by
  intro _ ty W hW
  refine ⟨[.v (.int .i64 c)], m, W, ?_, ?_, ⟨rfl, rfl⟩, After.refl hW⟩
  · simp [Prim.run, Prim.out, Prim.tup, cond_false, CV.val, resVal, Builtin.cap_, run_underlying ((hT t ti ht).slice hk)]; rfl
  · intro x hx; simp at hx; subst hx; rfl
theorem makeFunc_spec {f : FuncId} {n : Nat} {cs : List Value} {m : Mem} (hone : ∀ x ∈ cs, x.oneCell' = true) :
    PrimSpec P (.makeFunc (.func f) n) (cs.map CV.v) m fun r m' => r = [.v (.func (.func f) (cs.take n).toArray (cs.drop n).toArray)] ∧ m = m' := by
  intro _ ty W hW
  refine ⟨[.v (.func (.func f) (cs.take n).toArray (cs.drop n).toArray)], m, W, ?_, ?_, ⟨rfl, rfl⟩, After.refl hW⟩
  · simp [Prim.run, Prim.out, Prim.tup, cond_false, CV.val, resVal, Instr.makeFunc, List.map_map, Function.comp_def]
  · intro x hx; simp at hx; subst hx; rfl
theorem int_desc {d : TypeDesc} {k : IntKind} (h : TK.of d = .int k) : d = .int k := by
  cases d <;> simp [TK.of] at h; subst h; rfl
/-- append of k zeros, where there is no room for them: a new row -/
theorem appendZeros_spec (hT : TabOk P T) {t e tn : TypeId} {ti ei ni : TI} {kn : IntKind} (ht : T t = some ti) (hk : ti.k = .slice e) (he : T e = some ei) (hn : T tn = some ni) (hkn : ni.k = .int kn) (hpos : 0 < ei.size) {m : Mem} {v : Value} {a : Option Addr} {n c k : Nat} {l : List Value}
    (hv : v = .slice a n c) (hl : Lies m ei.size v l) (h0 : 0 < k) (hg : c < n + k) (hb : (2 * (n + k) + 768) * ei.bytes ≤ 281474976710656) (hb1 : n + k ≤ 9223372036854775807) :
    PrimSpec P (.builtin .append [t, tn]) [.v v, .v (.int .i64 k)] m fun r m' => ∃ b C, m b = none ∧ n + k ≤ C ∧ r = [.v (.slice (some ⟨b, 0, none⟩) (n + k) C)] ∧
      m' = m.set b (.cells (l.toArray ++ Builtin.zeroCells (LB.cells ei.zero).toArray k ++ Builtin.zeroCells (LB.cells ei.zero).toArray (C - (n + k))) e) := by
  intro _ ty W hW
  subst hv
  obtain ⟨j, hj, hjs, hjb, z, hjz, hzc⟩ := (hT e ei he).inf
  have hsl := (hT t ti ht).slice hk
  obtain ⟨d, h1, h2⟩ := (hT tn ni hn).desc
  rw [hkn] at h2
  have hd := int_desc h2
  subst hd
  have hold : (Builtin.firstCells j.size n (.slice a n c)).run P W.drew = .ok l.toArray W.drew := by
    rw [hjs]
    rcases hl with ⟨c', e', rfl⟩ | ⟨b, o, c', n', arr, t', fr, e', g1, g2, _, g3, g4⟩
    · cases e'; simp [Builtin.firstCells]
    · cases e'
      refine run_firstCells_some W.drew ei.size n _ n c l g2 (fun i u hu => ?_)
      rw [add_none]
      have hW1 : W.drew.heap[b]? = some (.cells arr t' fr) := hW _ _ g1
      rw [cell_at hW1]
      exact g3 i u hu
  have hbk : k * ei.bytes ≤ 281474976710656 := Nat.le_trans (Nat.mul_le_mul_right _ (by omega)) hb
  have hrun := Lib.run_append_grow_zeros W t tn ty e j z .i64 kn hsl h1 hj hjz a n c l hold k h0 (by omega) hg (by omega) (by rw [hjb]; exact hbk) (by rw [hjb]; exact Nat.le_trans (Nat.mul_le_mul_right _ (nextcap_le hg)) hb)
  have hcap := grownCap_ge W (n + k) c e
  generalize grownCap W (n + k) c e = C at hrun hcap
  rw [hzc] at hrun
  exact ⟨[.v (.slice (some ⟨W.heap.size, 0, none⟩) (n + k) C)], _, _, hrun, (by intro y hy; simp at hy; subst hy; rfl), ⟨W.heap.size, C, hW.none (Nat.le_refl _), hcap, rfl, rfl⟩, (After.refl hW).drew.alloc _⟩
end
end Go.E

/-
  Bytes: room made; lists of bytes, one behind the other.
-/
namespace Go.E.Ytcjmmhamnglmkaa
open Go.Proofs
set_option maxRecDepth 100000
theorem hI : tt.get 3 = some ⟨.int .i64, 1, 8, [.one (.int .i64 0)], false⟩ := by rfl
/-- new room for n bytes, with nothing in it -/
theorem grow_spec {m : Mem} {n : Nat} (hn : n ≤ 100000000) :
    Spec Try.prog 44 [.v (.slice none 0 0), .v (.int .i64 n)] m fun r m' => ∃ v p, r = [.v v] ∧ Split m' [p, m] ∧ Bs p v [] := by
  refine en44 rfl (goY ?_)
  conv => whnf
  refine ⟨fun h => absurd h (by (simp; try omega)), fun _ => ?_⟩
  conv => whnf
  refine .mk _ (cap_spec tt_ok hBs rfl) ?_
  rintro _ _ ⟨rfl, rfl⟩
  conv => whnf
  have e : IntKind.i64.wrap ((n : Int) - IntKind.i64.wrap (((0 : Nat) : Int) - ((0 : Nat) : Int))) = (n : Int) := by rw [wi (n := ((0 : Nat) : Int) - ((0 : Nat) : Int)) (by omega) (by omega), wi (by omega) (by omega)]; omega
  rw [e]
  refine ⟨fun h => ?_, fun h => ?_⟩
  · have h' := of_decide_eq_true h
    conv => whnf
    refine .mk _ (cap_spec tt_ok hBs rfl) ?_
    rintro _ _ ⟨rfl, rfl⟩
    conv => whnf
    repeat (refine And.intro (by first | omega | (simp only [times]; omega)) ?_; conv => whnf)
    refine .mk _ (appendZeros_spec (n := 0) (c := 0) (a := none) (l := []) tt_ok hBs rfl hU8 hI rfl (by decide) rfl (.inl ⟨0, rfl, rfl⟩) (by omega) (by omega) (by simp only; omega) (by omega)) ?_
    rintro _ _ ⟨b, C, hb, hC, rfl, rfl⟩
    conv => whnf
    repeat (refine And.intro (by first | omega | (simp only [times]; omega)) ?_; conv => whnf)
    intro o' h1 h2
    obtain rfl : o' = 0 := by have := h1 (by omega); simpa using this
    conv => whnf
    refine ⟨_, blk1 b _, rfl, (Split.one m).new hb _, .inr ⟨b, 0, C, 0, _, rfl, blk1_same .., rfl, Nat.zero_le _, ?_, by intro j u hu; simp [bc] at hu, by simp [bc]⟩⟩
    simp only [Array.size_append, zeroCells_size, List.size_toArray, List.length_nil, LB.cells, Seg.cells, List.length_append, List.length_cons]
    omega
  · have h' := of_decide_eq_false h
    conv => whnf
    exact ⟨_, emp, rfl, (Split.one m).addEmp, Bs.nil _⟩
/-- a list of bytes -/
structure Lists (m : Mem) (v : Value) (ps : List (Value × List Int)) : Prop where
  lies : Lies m 1 v (ps.map (·.1))
  la : ∀ p ∈ ps, La m p.1 p.2
theorem Lists.sub {m m' : Mem} {v : Value} {ps : List (Value × List Int)} (h : Lists m v ps) (hs : Sub m m') : Lists m' v ps := ⟨h.lies.sub hs, fun p hp => (h.la p hp).sub hs⟩
theorem Lists.shape {m : Mem} {v : Value} {ps : List (Value × List Int)} (h : Lists m v ps) : ∃ a c, v = .slice a ps.length c := by
  rcases h.lies with ⟨c, rfl, e⟩ | ⟨b, o, c, n, arr, t, fr, rfl, _, e, _⟩
  · have : ps.length = 0 := by simpa using congrArg List.length e
    exact ⟨none, c, by rw [this]⟩
  · have : ps.length = n := by simpa using e
    exact ⟨_, c, by rw [this]⟩
theorem Lists.real {m : Mem} {v : Value} {ps : List (Value × List Int)} (h : Lists m v ps) {i : Nat} (hi : i < ps.length) : ∃ b o c, v = .slice (some ⟨b, o, none⟩) ps.length c ∧ ∀ (i : Nat) (hi : i < ps.length), mcell m b (o + i) = some ps[i].1 := by
  rcases h.lies with ⟨c, rfl, e⟩ | ⟨b, o, c, n, arr, t, fr, rfl, g1, e, _, g2, _⟩
  · have : ps.length = 0 := by simpa using congrArg List.length e
    omega
  · have : ps.length = n := by simpa using e
    exact ⟨b, o, c, by rw [this], fun j hj => mcell_of g1 (g2 j _ (by simp [hj]))⟩
def catB (ps : List (Value × List Int)) : List Int := (ps.map (·.2)).flatten
theorem catB_take {ps : List (Value × List Int)} {i : Nat} (h : i < ps.length) : catB (ps.take i) ++ ps[i].2 = catB (ps.take (i + 1)) := by
  rw [List.take_succ_eq_append_getElem h, catB, catB, List.map_append, List.flatten_append]; simp
theorem catB_le {ps : List (Value × List Int)} (i : Nat) : (catB (ps.take i)).length ≤ (catB ps).length := by
  have e : catB ps = catB (ps.take i) ++ catB (ps.drop i) := by
    rw [catB, catB, catB, ← List.flatten_append, ← List.map_append, List.take_append_drop]
  rw [e, List.length_append]; omega
theorem iadd' {i : Nat} (h : i < 1000000000000) : IntKind.i64.wrap ((i : Int) + 1) = ((i + 1 : Nat) : Int) := by rw [wi (by omega) (by omega)]; omega
set_option maxHeartbeats 1000000 in
theorem concat_spec {m : Mem} {v : Value} {ps : List (Value × List Int)} (h : Lists m v ps) (hb : (catB ps).length ≤ 10000000) (hn : ps.length ≤ 10000000) :
    Spec Try.prog 32 [.v v] m fun r m' => ∃ v' p, r = [.v v'] ∧ Split m' [p, m] ∧ Bs p v' (catB ps) := by
  obtain ⟨a, c, rfl⟩ := h.shape
  refine en32 rfl (goY ?_)
  conv => whnf
  refine .mk (ι := Nat) (fun i => ps.length - i) (fun i mm => i ≤ ps.length ∧ mm = m) (fun i => [(0, .c (.v (.slice a ps.length c))), (3, .c (i64 (catB (ps.take i)).length)), (9, .c (.v (.slice a ps.length c))), (10, .c (i64 ps.length)), (11, .c (i64 i))]) (fun _ => []) 0 ⟨by omega, rfl⟩ ?_ ?_
  · conv => whnf
    repeat (refine And.intro (by first | with_reducible rfl | exact congrArg (Value.int _) (wi (by omega) (by omega)) | exact wi (by omega) (by omega) | rfl) ?_; conv => whnf)
    first | exact trivial | exact fun _ _ h => h
  rintro i mm ⟨hi, he⟩
  subst mm
  conv => whnf
  refine ⟨fun h1 => ?_, fun h1 => ?_⟩
  · have h1' := of_decide_eq_true h1
    have hlt : i < ps.length := by omega
    obtain ⟨b, o, c', e, hat⟩ := h.real hlt
    cases e
    have hla := h.la ps[i] (by simp)
    obtain ⟨ai, ci, hvi⟩ := hla.shape
    have hc := hat i hlt
    rw [hvi] at hc
    have hle := catB_le (ps := ps) (i + 1)
    rw [← catB_take hlt, List.length_append] at hle
    conv => whnf
    repeat (refine And.intro (by first | omega | (simp only [times]; omega)) ?_; conv => whnf)
    refine ⟨_, hc, rfl, ?_⟩
    conv => whnf
    have e3 : IntKind.i64.wrap (((catB (ps.take i)).length : Int) + (ps[i].2.length : Int)) = ((catB (ps.take (i + 1))).length : Int) := by
      rw [← catB_take hlt, List.length_append, wi (by omega) (by omega)]; omega
    rw [e3]
    refine ⟨fun h => absurd h (by (simp; try omega)), fun _ => ?_⟩
    conv => whnf
    refine ⟨i + 1, ⟨by omega, rfl⟩, by omega, ?_⟩
    conv => whnf
    repeat (refine And.intro (by first | with_reducible rfl | (exact congrArg (Value.int _) (iadd' (by omega))) | exact congrArg (Value.int _) (wi (by omega) (by omega)) | exact wi (by omega) (by omega) | rfl) ?_; conv => whnf)
    first | exact trivial | exact fun _ _ h => h
  · have h1' := of_decide_eq_false h1
    obtain rfl : i = ps.length := by omega
    rw [List.take_length]
    conv => whnf
    refine xcall (grow_spec (n := (catB ps).length) (by omega)) ?_
    rintro _ m2 ⟨v2, p2, rfl, hs2, hv2⟩
    conv => whnf
    refine .mk (ι := Nat × Value) (fun i => ps.length - i.1) (fun ⟨i, x⟩ mm => i ≤ ps.length ∧ ∃ p, Split mm [p, m] ∧ Bs p x (catB (ps.take i))) (fun ⟨i, x⟩ => [(6, .c (.v x)), (25, .c (.v (.slice a ps.length c))), (26, .c (i64 ps.length)), (27, .c (i64 i))]) (fun _ => []) (0, v2) ⟨by omega, p2, hs2, by simpa [catB] using hv2⟩ ?_ ?_
    · conv => whnf
      repeat (refine And.intro (by first | with_reducible rfl | exact congrArg (Value.int _) (wi (by omega) (by omega)) | exact wi (by omega) (by omega) | rfl) ?_; conv => whnf)
      first | exact trivial | exact fun _ _ h => h
    rintro ⟨i, x⟩ mm ⟨hi, p, hs, hx⟩
    conv => whnf
    refine ⟨fun h2 => ?_, fun h2 => ?_⟩
    · have h2' := of_decide_eq_true h2
      have hlt : i < ps.length := by omega
      obtain ⟨b, o, c', e, hat⟩ := h.real hlt
      cases e
      have hla := h.la ps[i] (by simp)
      have hle := catB_le (ps := ps) (i + 1)
      rw [← catB_take hlt, List.length_append] at hle
      have hc : mcell mm b (o + i) = some ps[i].1 := by
        have := hat i hlt
        unfold mcell at this ⊢
        split at this
        · rename_i arr t fr hm
          rw [hs.at (i := 1) rfl _ _ hm]; exact this
        · cases this
      conv => whnf
      repeat (refine And.intro (by first | omega | (simp only [times]; omega)) ?_; conv => whnf)
      refine ⟨_, hc, hla.one, ?_⟩
      conv => whnf
      refine .mk _ (appendBat (i := 0) hs rfl hx (hla.sub (hs.at (i := 1) rfl)) (by omega)) ?_
      rintro _ m3 ⟨v3, p3, rfl, hs3, hv3⟩
      conv => whnf
      refine ⟨(i + 1, v3), ⟨by omega, p3, hs3, ?_⟩, by simp only; omega, ?_⟩
      · have := hv3.own
        rw [catB_take hlt] at this; exact this
      · conv => whnf
        repeat (refine And.intro (by first | with_reducible rfl | (exact congrArg (Value.int _) (iadd' (by omega))) | exact congrArg (Value.int _) (wi (by omega) (by omega)) | exact wi (by omega) (by omega) | rfl) ?_; conv => whnf)
        first | exact trivial | exact fun _ _ h => h
    · have h2' := of_decide_eq_false h2
      obtain rfl : i = ps.length := by omega
      rw [List.take_length] at hx
      conv => whnf
      exact ⟨x, p, rfl, hs, hx⟩
theorem hLs : tt.get 33 = some ⟨.slice 23, 1, 24, [.one (.slice none 0 0)], false⟩ := by rfl
theorem buildL1 {m : Mem} {x : Value} : PrimSpec Try.prog (.buildSlice 33 1 [0]) [.v x] m fun r m' => ∃ b, m b = none ∧ r = [.v (.slice (some ⟨b, 0, none⟩) 1 1)] ∧ m' = m.set b (.cells #[x] 23) :=
  buildSlice_spec (n := 1) tt_ok hLs rfl hBs rfl rfl (by simp [CV.cs]) (by simp) (by simp)
theorem buildL2 {m : Mem} {x y : Value} : PrimSpec Try.prog (.buildSlice 33 2 [0, 1]) [.v x, .v y] m fun r m' => ∃ b, m b = none ∧ r = [.v (.slice (some ⟨b, 0, none⟩) 2 2)] ∧ m' = m.set b (.cells #[x, y] 23) :=
  buildSlice_spec (n := 2) tt_ok hLs rfl hBs rfl rfl (by simp [CV.cs]) (by simp) (by simp)
theorem Lists.blk {m : Mem} {b n : Nat} {ps : List (Value × List Int)} {t : TypeId} {fr : Nat × Nat} (h : m b = some (.cells (ps.map (·.1)).toArray t fr)) (hn : ps.length = n) (hl : ∀ p ∈ ps, La m p.1 p.2) : Lists m (.slice (some ⟨b, 0, none⟩) n n) ps := by
  refine ⟨.inr ⟨b, 0, n, n, _, _, _, rfl, h, by simp [hn], Nat.le_refl _, fun j u hu => by simpa using hu, fun u hu => ?_⟩, fun p hp => hl p hp⟩
  obtain ⟨p, hp, rfl⟩ := List.mem_map.1 hu
  exact (hl p hp).one
theorem Lists.one {m : Mem} {b : Nat} {v : Value} {l : List Int} {t : TypeId} {fr : Nat × Nat} (h : m b = some (.cells #[v] t fr)) (hl : La m v l) : Lists m (.slice (some ⟨b, 0, none⟩) 1 1) [(v, l)] :=
  Lists.blk (ps := [(v, l)]) h rfl (by simpa using hl)
theorem Lists.two {m : Mem} {b : Nat} {v w : Value} {l k : List Int} {t : TypeId} {fr : Nat × Nat} (h : m b = some (.cells #[v, w] t fr)) (hl : La m v l) (hk : La m w k) : Lists m (.slice (some ⟨b, 0, none⟩) 2 2) [(v, l), (w, k)] :=
  Lists.blk (ps := [(v, l), (w, k)]) h rfl (by simpa using ⟨hl, hk⟩)
theorem Lists.three {m : Mem} {b : Nat} {v w u : Value} {l k j : List Int} {t : TypeId} {fr : Nat × Nat} (h : m b = some (.cells #[v, w, u] t fr)) (hl : La m v l) (hk : La m w k) (hj : La m u j) : Lists m (.slice (some ⟨b, 0, none⟩) 3 3) [(v, l), (w, k), (u, j)] :=
  Lists.blk (ps := [(v, l), (w, k), (u, j)]) h rfl (by simpa using ⟨hl, hk, hj⟩)
theorem buildL3 {m : Mem} {x y z : Value} : PrimSpec Try.prog (.buildSlice 33 3 [0, 1, 2]) [.v x, .v y, .v z] m fun r m' => ∃ b, m b = none ∧ r = [.v (.slice (some ⟨b, 0, none⟩) 3 3)] ∧ m' = m.set b (.cells #[x, y, z] 23) :=
  buildSlice_spec (n := 3) tt_ok hLs rfl hBs rfl rfl (by simp [CV.cs]) (by simp) (by simp)
/-- one piece more -/
theorem pushL {m : Mem} {ls : List Mem} {p : Mem} {b' : Nat} {x y : Value} {vs : List Value} (hs : Split m (p :: ls)) (hb : m b' = none) (hx : x.oneCell' = true) (hy : Own p 23 1 y vs) (hl : vs.length ≤ 100000000) :
    PrimSpec Try.prog (.builtin .append [33, 33]) [.v y, .v (.slice (some ⟨b', 0, none⟩) 1 1)] (m.set b' (.cells #[x] 23)) fun r m' => ∃ y' p', r = [.v y'] ∧ Split m' (p' :: ls) ∧ Own p' 23 1 y' (vs ++ [x]) := by
  have hs1 := hs.new hb (.cells #[x] 23)
  have e1 := hy.lies.len
  have e2 : lenV (.slice (some ⟨b', 0, none⟩) 1 1) = 1 := rfl
  have g : Gives (m.set b' (.cells #[x] 23)) 1 (.slice 23) (.slice (some ⟨b', 0, none⟩) 1 1) [x] :=
    .inl ⟨_, rfl, .inl (.inr ⟨b', 0, 1, 1, _, _, _, rfl, Mem.set_same .., rfl, Nat.le_refl _, fun j u hu => by simpa using hu, by simpa using hx⟩)⟩
  refine (append_at tt_ok hLs rfl hBs hLs rfl hs1 (i := 1) rfl hy g (by rw [e2]; simp only; omega) (by rw [e2]; omega)).mono fun r m' ⟨v', p', h1, h2, h3⟩ => ⟨v', p', h1, h2.erase 0, h3.own⟩
theorem Lists.own {m p : Mem} {y : Value} {ps : List (Value × List Int)} (hy : Own p 23 1 y (ps.map (·.1))) (hs : Sub p m) (hl : ∀ q ∈ ps, La m q.1 q.2) : Lists m y ps :=
  ⟨hy.lies.sub hs, fun q hq => hl q hq⟩
end Go.E.Ytcjmmhamnglmkaa
