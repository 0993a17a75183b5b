/- Facts on the types and the constants of the program, by program (gen_ty.py). -/
import Derived.Test.YtdfoobfofjbjiaaChecked
import Derived.Test.YtdfoobfofjbjiaaAbSimp
set_option maxRecDepth 100000
namespace Go.Ab
open Go.Proofs
theorem hmix : Try.prog.follows .mixedOrders = true := by kernel_rfl
@[simp] theorem tAgg_1 : tAgg Try.prog 1 = some false := by kernel_rfl
@[simp] theorem tSize_1 : tSize Try.prog 1 = some 1 := by kernel_rfl
@[simp] theorem zero_1 : zeroCells Try.prog 1 = some [.nilfunc] := by kernel_rfl
@[simp] theorem und_2 : Try.prog.underlying 2 = some (.int .i64) := by kernel_rfl
@[simp] theorem isIface_2 : isIfaceT Try.prog 2 = false := by kernel_rfl
@[simp] theorem tAgg_2 : tAgg Try.prog 2 = some false := by kernel_rfl
@[simp] theorem tSize_2 : tSize Try.prog 2 = some 1 := by kernel_rfl
@[simp] theorem tBytes_2 : tBytes Try.prog 2 = some 8 := by kernel_rfl
@[simp] theorem tElem_2 : tElem Try.prog 2 = none := by kernel_rfl
@[simp] theorem zero_2 : zeroCells Try.prog 2 = some [.int .i64 0] := by kernel_rfl
@[simp] theorem und_3 : Try.prog.underlying 3 = some (.int .i64) := by kernel_rfl
@[simp] theorem isIface_3 : isIfaceT Try.prog 3 = false := by kernel_rfl
@[simp] theorem tAgg_3 : tAgg Try.prog 3 = some false := by kernel_rfl
@[simp] theorem tSize_3 : tSize Try.prog 3 = some 1 := by kernel_rfl
@[simp] theorem tBytes_3 : tBytes Try.prog 3 = some 8 := by kernel_rfl
@[simp] theorem tElem_3 : tElem Try.prog 3 = none := by kernel_rfl
@[simp] theorem zero_3 : zeroCells Try.prog 3 = some [.int .i64 0] := by kernel_rfl
@[simp] theorem und_4 : Try.prog.underlying 4 = some .bool := by kernel_rfl
@[simp] theorem isBool_4 : isBoolT Try.prog 4 = true := by kernel_rfl
@[simp] theorem isIface_4 : isIfaceT Try.prog 4 = false := by kernel_rfl
@[simp] theorem tAgg_4 : tAgg Try.prog 4 = some false := by kernel_rfl
@[simp] theorem tSize_4 : tSize Try.prog 4 = some 1 := by kernel_rfl
@[simp] theorem tBytes_4 : tBytes Try.prog 4 = some 1 := by kernel_rfl
@[simp] theorem tElem_4 : tElem Try.prog 4 = none := by kernel_rfl
@[simp] theorem zero_4 : zeroCells Try.prog 4 = some [.bool false] := by kernel_rfl
@[simp] theorem und_5 : Try.prog.underlying 5 = some (.int .u8) := by kernel_rfl
@[simp] theorem isIface_5 : isIfaceT Try.prog 5 = false := by kernel_rfl
@[simp] theorem tAgg_5 : tAgg Try.prog 5 = some false := by kernel_rfl
@[simp] theorem tSize_5 : tSize Try.prog 5 = some 1 := by kernel_rfl
@[simp] theorem tBytes_5 : tBytes Try.prog 5 = some 1 := by kernel_rfl
@[simp] theorem tElem_5 : tElem Try.prog 5 = none := by kernel_rfl
@[simp] theorem zero_5 : zeroCells Try.prog 5 = some [.int .u8 0] := by kernel_rfl
@[simp] theorem und_6 : Try.prog.underlying 6 = some (.int .u8) := by kernel_rfl
@[simp] theorem isIface_6 : isIfaceT Try.prog 6 = false := by kernel_rfl
@[simp] theorem tAgg_6 : tAgg Try.prog 6 = some false := by kernel_rfl
@[simp] theorem tSize_6 : tSize Try.prog 6 = some 1 := by kernel_rfl
@[simp] theorem tBytes_6 : tBytes Try.prog 6 = some 1 := by kernel_rfl
@[simp] theorem tElem_6 : tElem Try.prog 6 = none := by kernel_rfl
@[simp] theorem zero_6 : zeroCells Try.prog 6 = some [.int .u8 0] := by kernel_rfl
@[simp] theorem isIface_7 : isIfaceT Try.prog 7 = false := by kernel_rfl
@[simp] theorem undS_7 : (Try.prog.underlying 7).isSome = true := by kernel_rfl
@[simp] theorem tAgg_7 : tAgg Try.prog 7 = some true := by kernel_rfl
@[simp] theorem tSize_7 : tSize Try.prog 7 = some 4 := by kernel_rfl
@[simp] theorem tBytes_7 : tBytes Try.prog 7 = some 24 := by kernel_rfl
@[simp] theorem tElem_7 : tElem Try.prog 7 = none := by kernel_rfl
@[simp] theorem zero_7 : zeroCells Try.prog 7 = some [.int .i64 0, .int .i64 0, .bool false, .int .u8 0] := by kernel_rfl
@[simp] theorem tField_7_0 : tField Try.prog 7 0 = some (0, 2) := by kernel_rfl
@[simp] theorem tField_7_1 : tField Try.prog 7 1 = some (1, 3) := by kernel_rfl
@[simp] theorem tField_7_2 : tField Try.prog 7 2 = some (2, 4) := by kernel_rfl
@[simp] theorem tField_7_3 : tField Try.prog 7 3 = some (3, 6) := by kernel_rfl
@[simp] theorem tPlaces_7 : tPlaces Try.prog 7 = some [(0, 1), (1, 1), (2, 1), (3, 1)] := by kernel_rfl
@[simp] theorem isIface_8 : isIfaceT Try.prog 8 = false := by kernel_rfl
@[simp] theorem undS_8 : (Try.prog.underlying 8).isSome = true := by kernel_rfl
@[simp] theorem tAgg_8 : tAgg Try.prog 8 = some true := by kernel_rfl
@[simp] theorem tSize_8 : tSize Try.prog 8 = some 4 := by kernel_rfl
@[simp] theorem tBytes_8 : tBytes Try.prog 8 = some 24 := by kernel_rfl
@[simp] theorem tElem_8 : tElem Try.prog 8 = none := by kernel_rfl
@[simp] theorem zero_8 : zeroCells Try.prog 8 = some [.int .i64 0, .int .i64 0, .bool false, .int .u8 0] := by kernel_rfl
@[simp] theorem tField_8_0 : tField Try.prog 8 0 = some (0, 2) := by kernel_rfl
@[simp] theorem tField_8_1 : tField Try.prog 8 1 = some (1, 3) := by kernel_rfl
@[simp] theorem tField_8_2 : tField Try.prog 8 2 = some (2, 4) := by kernel_rfl
@[simp] theorem tField_8_3 : tField Try.prog 8 3 = some (3, 6) := by kernel_rfl
@[simp] theorem tPlaces_8 : tPlaces Try.prog 8 = some [(0, 1), (1, 1), (2, 1), (3, 1)] := by kernel_rfl
@[simp] theorem und_9 : Try.prog.underlying 9 = some .string := by kernel_rfl
@[simp] theorem isStr_9 : isStringT Try.prog 9 = true := by kernel_rfl
@[simp] theorem isIface_9 : isIfaceT Try.prog 9 = false := by kernel_rfl
@[simp] theorem tAgg_9 : tAgg Try.prog 9 = some false := by kernel_rfl
@[simp] theorem tSize_9 : tSize Try.prog 9 = some 1 := by kernel_rfl
@[simp] theorem tBytes_9 : tBytes Try.prog 9 = some 16 := by kernel_rfl
@[simp] theorem tElem_9 : tElem Try.prog 9 = none := by kernel_rfl
@[simp] theorem zero_9 : zeroCells Try.prog 9 = some [.string []] := by kernel_rfl
@[simp] theorem und_10 : Try.prog.underlying 10 = some .string := by kernel_rfl
@[simp] theorem isStr_10 : isStringT Try.prog 10 = true := by kernel_rfl
@[simp] theorem isIface_10 : isIfaceT Try.prog 10 = false := by kernel_rfl
@[simp] theorem tAgg_10 : tAgg Try.prog 10 = some false := by kernel_rfl
@[simp] theorem tSize_10 : tSize Try.prog 10 = some 1 := by kernel_rfl
@[simp] theorem tBytes_10 : tBytes Try.prog 10 = some 16 := by kernel_rfl
@[simp] theorem tElem_10 : tElem Try.prog 10 = none := by kernel_rfl
@[simp] theorem zero_10 : zeroCells Try.prog 10 = some [.string []] := by kernel_rfl
@[simp] theorem und_11 : Try.prog.underlying 11 = some .string := by kernel_rfl
@[simp] theorem isStr_11 : isStringT Try.prog 11 = true := by kernel_rfl
@[simp] theorem isIface_11 : isIfaceT Try.prog 11 = false := by kernel_rfl
@[simp] theorem tAgg_11 : tAgg Try.prog 11 = some false := by kernel_rfl
@[simp] theorem tSize_11 : tSize Try.prog 11 = some 1 := by kernel_rfl
@[simp] theorem tBytes_11 : tBytes Try.prog 11 = some 16 := by kernel_rfl
@[simp] theorem tElem_11 : tElem Try.prog 11 = none := by kernel_rfl
@[simp] theorem zero_11 : zeroCells Try.prog 11 = some [.string []] := by kernel_rfl
@[simp] theorem und_12 : Try.prog.underlying 12 = some (.int .u64) := by kernel_rfl
@[simp] theorem isIface_12 : isIfaceT Try.prog 12 = false := by kernel_rfl
@[simp] theorem tAgg_12 : tAgg Try.prog 12 = some false := by kernel_rfl
@[simp] theorem tSize_12 : tSize Try.prog 12 = some 1 := by kernel_rfl
@[simp] theorem tBytes_12 : tBytes Try.prog 12 = some 8 := by kernel_rfl
@[simp] theorem tElem_12 : tElem Try.prog 12 = none := by kernel_rfl
@[simp] theorem zero_12 : zeroCells Try.prog 12 = some [.int .u64 0] := by kernel_rfl
@[simp] theorem isIface_13 : isIfaceT Try.prog 13 = false := by kernel_rfl
@[simp] theorem undS_13 : (Try.prog.underlying 13).isSome = true := by kernel_rfl
@[simp] theorem tAgg_13 : tAgg Try.prog 13 = some true := by kernel_rfl
@[simp] theorem tSize_13 : tSize Try.prog 13 = some 2 := by kernel_rfl
@[simp] theorem tBytes_13 : tBytes Try.prog 13 = some 24 := by kernel_rfl
@[simp] theorem tElem_13 : tElem Try.prog 13 = none := by kernel_rfl
@[simp] theorem zero_13 : zeroCells Try.prog 13 = some [.string [], .int .u64 0] := by kernel_rfl
@[simp] theorem tField_13_0 : tField Try.prog 13 0 = some (0, 9) := by kernel_rfl
@[simp] theorem tField_13_1 : tField Try.prog 13 1 = some (1, 12) := by kernel_rfl
@[simp] theorem tPlaces_13 : tPlaces Try.prog 13 = some [(0, 1), (1, 1)] := by kernel_rfl
@[simp] theorem isIface_14 : isIfaceT Try.prog 14 = false := by kernel_rfl
@[simp] theorem undS_14 : (Try.prog.underlying 14).isSome = true := by kernel_rfl
@[simp] theorem tAgg_14 : tAgg Try.prog 14 = some true := by kernel_rfl
@[simp] theorem tSize_14 : tSize Try.prog 14 = some 2 := by kernel_rfl
@[simp] theorem tBytes_14 : tBytes Try.prog 14 = some 24 := by kernel_rfl
@[simp] theorem tElem_14 : tElem Try.prog 14 = none := by kernel_rfl
@[simp] theorem zero_14 : zeroCells Try.prog 14 = some [.string [], .int .u64 0] := by kernel_rfl
@[simp] theorem tField_14_0 : tField Try.prog 14 0 = some (0, 9) := by kernel_rfl
@[simp] theorem tField_14_1 : tField Try.prog 14 1 = some (1, 12) := by kernel_rfl
@[simp] theorem tPlaces_14 : tPlaces Try.prog 14 = some [(0, 1), (1, 1)] := by kernel_rfl
@[simp] theorem isIface_15 : isIfaceT Try.prog 15 = false := by kernel_rfl
@[simp] theorem undS_15 : (Try.prog.underlying 15).isSome = true := by kernel_rfl
@[simp] theorem tAgg_15 : tAgg Try.prog 15 = some false := by kernel_rfl
@[simp] theorem tSize_15 : tSize Try.prog 15 = some 1 := by kernel_rfl
@[simp] theorem tBytes_15 : tBytes Try.prog 15 = some 8 := by kernel_rfl
@[simp] theorem tElem_15 : tElem Try.prog 15 = none := by kernel_rfl
@[simp] theorem zero_15 : zeroCells Try.prog 15 = some [.nilptr] := by kernel_rfl
@[simp] theorem isIface_16 : isIfaceT Try.prog 16 = false := by kernel_rfl
@[simp] theorem undS_16 : (Try.prog.underlying 16).isSome = true := by kernel_rfl
@[simp] theorem tAgg_16 : tAgg Try.prog 16 = some false := by kernel_rfl
@[simp] theorem tSize_16 : tSize Try.prog 16 = some 1 := by kernel_rfl
@[simp] theorem tBytes_16 : tBytes Try.prog 16 = some 8 := by kernel_rfl
@[simp] theorem tElem_16 : tElem Try.prog 16 = none := by kernel_rfl
@[simp] theorem zero_16 : zeroCells Try.prog 16 = some [.nilptr] := by kernel_rfl
@[simp] theorem isIface_17 : isIfaceT Try.prog 17 = false := by kernel_rfl
@[simp] theorem undS_17 : (Try.prog.underlying 17).isSome = true := by kernel_rfl
@[simp] theorem tAgg_17 : tAgg Try.prog 17 = some false := by kernel_rfl
@[simp] theorem tSize_17 : tSize Try.prog 17 = some 1 := by kernel_rfl
@[simp] theorem tBytes_17 : tBytes Try.prog 17 = some 8 := by kernel_rfl
@[simp] theorem tElem_17 : tElem Try.prog 17 = none := by kernel_rfl
@[simp] theorem zero_17 : zeroCells Try.prog 17 = some [.nilptr] := by kernel_rfl
@[simp] theorem isIface_18 : isIfaceT Try.prog 18 = false := by kernel_rfl
@[simp] theorem undS_18 : (Try.prog.underlying 18).isSome = true := by kernel_rfl
@[simp] theorem tAgg_18 : tAgg Try.prog 18 = some true := by kernel_rfl
@[simp] theorem tSize_18 : tSize Try.prog 18 = some 1 := by kernel_rfl
@[simp] theorem tBytes_18 : tBytes Try.prog 18 = some 8 := by kernel_rfl
@[simp] theorem tElem_18 : tElem Try.prog 18 = none := by kernel_rfl
@[simp] theorem zero_18 : zeroCells Try.prog 18 = some [.nilptr] := by kernel_rfl
@[simp] theorem tField_18_0 : tField Try.prog 18 0 = some (0, 17) := by kernel_rfl
@[simp] theorem tPlaces_18 : tPlaces Try.prog 18 = some [(0, 1)] := by kernel_rfl
@[simp] theorem isIface_19 : isIfaceT Try.prog 19 = false := by kernel_rfl
@[simp] theorem undS_19 : (Try.prog.underlying 19).isSome = true := by kernel_rfl
@[simp] theorem tAgg_19 : tAgg Try.prog 19 = some true := by kernel_rfl
@[simp] theorem tSize_19 : tSize Try.prog 19 = some 1 := by kernel_rfl
@[simp] theorem tBytes_19 : tBytes Try.prog 19 = some 8 := by kernel_rfl
@[simp] theorem tElem_19 : tElem Try.prog 19 = none := by kernel_rfl
@[simp] theorem zero_19 : zeroCells Try.prog 19 = some [.nilptr] := by kernel_rfl
@[simp] theorem tField_19_0 : tField Try.prog 19 0 = some (0, 17) := by kernel_rfl
@[simp] theorem tPlaces_19 : tPlaces Try.prog 19 = some [(0, 1)] := by kernel_rfl
@[simp] theorem isIface_20 : isIfaceT Try.prog 20 = true := by kernel_rfl
@[simp] theorem undS_20 : (Try.prog.underlying 20).isSome = true := by kernel_rfl
@[simp] theorem tAgg_20 : tAgg Try.prog 20 = some false := by kernel_rfl
@[simp] theorem tSize_20 : tSize Try.prog 20 = some 1 := by kernel_rfl
@[simp] theorem tBytes_20 : tBytes Try.prog 20 = some 16 := by kernel_rfl
@[simp] theorem tElem_20 : tElem Try.prog 20 = none := by kernel_rfl
@[simp] theorem zero_20 : zeroCells Try.prog 20 = some [.nilface] := by kernel_rfl
@[simp] theorem und_21 : Try.prog.underlying 21 = some (.int .i32) := by kernel_rfl
@[simp] theorem isIface_21 : isIfaceT Try.prog 21 = false := by kernel_rfl
@[simp] theorem tAgg_21 : tAgg Try.prog 21 = some false := by kernel_rfl
@[simp] theorem tSize_21 : tSize Try.prog 21 = some 1 := by kernel_rfl
@[simp] theorem tBytes_21 : tBytes Try.prog 21 = some 4 := by kernel_rfl
@[simp] theorem tElem_21 : tElem Try.prog 21 = none := by kernel_rfl
@[simp] theorem zero_21 : zeroCells Try.prog 21 = some [.int .i32 0] := by kernel_rfl
@[simp] theorem isIface_22 : isIfaceT Try.prog 22 = false := by kernel_rfl
@[simp] theorem undS_22 : (Try.prog.underlying 22).isSome = true := by kernel_rfl
@[simp] theorem tAgg_22 : tAgg Try.prog 22 = some false := by kernel_rfl
@[simp] theorem tSize_22 : tSize Try.prog 22 = some 1 := by kernel_rfl
@[simp] theorem tBytes_22 : tBytes Try.prog 22 = some 24 := by kernel_rfl
@[simp] theorem tElem_22 : tElem Try.prog 22 = some 2 := by kernel_rfl
@[simp] theorem isSlice_22 : isSliceT Try.prog 22 = true := by kernel_rfl
@[simp] theorem zero_22 : zeroCells Try.prog 22 = some [.nilslice] := by kernel_rfl
@[simp] theorem tApp_22 : tAppend Try.prog #[22, 22] = some (1, 8) := by kernel_rfl
@[simp] theorem tCopy_22 : tCopy Try.prog #[22, 22] = some 1 := by kernel_rfl
@[simp] theorem isIface_23 : isIfaceT Try.prog 23 = false := by kernel_rfl
@[simp] theorem undS_23 : (Try.prog.underlying 23).isSome = true := by kernel_rfl
@[simp] theorem tAgg_23 : tAgg Try.prog 23 = some false := by kernel_rfl
@[simp] theorem tSize_23 : tSize Try.prog 23 = some 1 := by kernel_rfl
@[simp] theorem tBytes_23 : tBytes Try.prog 23 = some 24 := by kernel_rfl
@[simp] theorem tElem_23 : tElem Try.prog 23 = some 26 := by kernel_rfl
@[simp] theorem isSlice_23 : isSliceT Try.prog 23 = true := by kernel_rfl
@[simp] theorem zero_23 : zeroCells Try.prog 23 = some [.nilslice] := by kernel_rfl
@[simp] theorem tApp_23 : tAppend Try.prog #[23, 23] = some (1, 4) := by kernel_rfl
@[simp] theorem tCopy_23 : tCopy Try.prog #[23, 23] = some 1 := by kernel_rfl
@[simp] theorem isIface_24 : isIfaceT Try.prog 24 = false := by kernel_rfl
@[simp] theorem undS_24 : (Try.prog.underlying 24).isSome = true := by kernel_rfl
@[simp] theorem tAgg_24 : tAgg Try.prog 24 = some true := by kernel_rfl
@[simp] theorem tSize_24 : tSize Try.prog 24 = some 4 := by kernel_rfl
@[simp] theorem tBytes_24 : tBytes Try.prog 24 = some 80 := by kernel_rfl
@[simp] theorem tElem_24 : tElem Try.prog 24 = none := by kernel_rfl
@[simp] theorem zero_24 : zeroCells Try.prog 24 = some [.int .i64 0, .nilslice, .nilslice, .nilslice] := by kernel_rfl
@[simp] theorem tField_24_0 : tField Try.prog 24 0 = some (0, 2) := by kernel_rfl
@[simp] theorem tField_24_1 : tField Try.prog 24 1 = some (1, 22) := by kernel_rfl
@[simp] theorem tField_24_2 : tField Try.prog 24 2 = some (2, 22) := by kernel_rfl
@[simp] theorem tField_24_3 : tField Try.prog 24 3 = some (3, 23) := by kernel_rfl
@[simp] theorem tPlaces_24 : tPlaces Try.prog 24 = some [(0, 1), (1, 1), (2, 1), (3, 1)] := by kernel_rfl
@[simp] theorem isIface_25 : isIfaceT Try.prog 25 = false := by kernel_rfl
@[simp] theorem undS_25 : (Try.prog.underlying 25).isSome = true := by kernel_rfl
@[simp] theorem tAgg_25 : tAgg Try.prog 25 = some true := by kernel_rfl
@[simp] theorem tSize_25 : tSize Try.prog 25 = some 4 := by kernel_rfl
@[simp] theorem tBytes_25 : tBytes Try.prog 25 = some 80 := by kernel_rfl
@[simp] theorem tElem_25 : tElem Try.prog 25 = none := by kernel_rfl
@[simp] theorem zero_25 : zeroCells Try.prog 25 = some [.int .i64 0, .nilslice, .nilslice, .nilslice] := by kernel_rfl
@[simp] theorem tField_25_0 : tField Try.prog 25 0 = some (0, 2) := by kernel_rfl
@[simp] theorem tField_25_1 : tField Try.prog 25 1 = some (1, 22) := by kernel_rfl
@[simp] theorem tField_25_2 : tField Try.prog 25 2 = some (2, 22) := by kernel_rfl
@[simp] theorem tField_25_3 : tField Try.prog 25 3 = some (3, 23) := by kernel_rfl
@[simp] theorem tPlaces_25 : tPlaces Try.prog 25 = some [(0, 1), (1, 1), (2, 1), (3, 1)] := by kernel_rfl
@[simp] theorem und_26 : Try.prog.underlying 26 = some (.float .f32) := by kernel_rfl
@[simp] theorem isIface_26 : isIfaceT Try.prog 26 = false := by kernel_rfl
@[simp] theorem tAgg_26 : tAgg Try.prog 26 = some false := by kernel_rfl
@[simp] theorem tSize_26 : tSize Try.prog 26 = some 1 := by kernel_rfl
@[simp] theorem tBytes_26 : tBytes Try.prog 26 = some 4 := by kernel_rfl
@[simp] theorem tElem_26 : tElem Try.prog 26 = none := by kernel_rfl
@[simp] theorem zero_26 : zeroCells Try.prog 26 = some [.float .f32 0] := by kernel_rfl
@[simp] theorem tAgg_27 : tAgg Try.prog 27 = some false := by kernel_rfl
@[simp] theorem tSize_27 : tSize Try.prog 27 = some 1 := by kernel_rfl
@[simp] theorem zero_27 : zeroCells Try.prog 27 = some [.nilfunc] := by kernel_rfl
@[simp] theorem tAgg_29 : tAgg Try.prog 29 = some false := by kernel_rfl
@[simp] theorem tSize_29 : tSize Try.prog 29 = some 1 := by kernel_rfl
@[simp] theorem zero_29 : zeroCells Try.prog 29 = some [.nilfunc] := by kernel_rfl
@[simp] theorem isIface_30 : isIfaceT Try.prog 30 = false := by kernel_rfl
@[simp] theorem undS_30 : (Try.prog.underlying 30).isSome = true := by kernel_rfl
@[simp] theorem tAgg_30 : tAgg Try.prog 30 = some true := by kernel_rfl
@[simp] theorem tSize_30 : tSize Try.prog 30 = some 4 := by kernel_rfl
@[simp] theorem tBytes_30 : tBytes Try.prog 30 = some 80 := by kernel_rfl
@[simp] theorem tElem_30 : tElem Try.prog 30 = none := by kernel_rfl
@[simp] theorem zero_30 : zeroCells Try.prog 30 = some [.int .i64 0, .nilslice, .nilslice, .nilslice] := by kernel_rfl
@[simp] theorem tField_30_0 : tField Try.prog 30 0 = some (0, 2) := by kernel_rfl
@[simp] theorem tField_30_1 : tField Try.prog 30 1 = some (1, 22) := by kernel_rfl
@[simp] theorem tField_30_2 : tField Try.prog 30 2 = some (2, 22) := by kernel_rfl
@[simp] theorem tField_30_3 : tField Try.prog 30 3 = some (3, 23) := by kernel_rfl
@[simp] theorem tPlaces_30 : tPlaces Try.prog 30 = some [(0, 1), (1, 1), (2, 1), (3, 1)] := by kernel_rfl
@[simp] theorem tAgg_31 : tAgg Try.prog 31 = some false := by kernel_rfl
@[simp] theorem tSize_31 : tSize Try.prog 31 = some 1 := by kernel_rfl
@[simp] theorem zero_31 : zeroCells Try.prog 31 = some [.nilfunc] := by kernel_rfl
@[simp] theorem tAgg_32 : tAgg Try.prog 32 = some false := by kernel_rfl
@[simp] theorem tSize_32 : tSize Try.prog 32 = some 1 := by kernel_rfl
@[simp] theorem zero_32 : zeroCells Try.prog 32 = some [.nilfunc] := by kernel_rfl
@[simp] theorem tAgg_33 : tAgg Try.prog 33 = some false := by kernel_rfl
@[simp] theorem tSize_33 : tSize Try.prog 33 = some 1 := by kernel_rfl
@[simp] theorem zero_33 : zeroCells Try.prog 33 = some [.nilfunc] := by kernel_rfl
@[simp] theorem tAgg_34 : tAgg Try.prog 34 = some false := by kernel_rfl
@[simp] theorem tSize_34 : tSize Try.prog 34 = some 1 := by kernel_rfl
@[simp] theorem zero_34 : zeroCells Try.prog 34 = some [.nilfunc] := by kernel_rfl
@[simp] theorem tAgg_35 : tAgg Try.prog 35 = some false := by kernel_rfl
@[simp] theorem tSize_35 : tSize Try.prog 35 = some 1 := by kernel_rfl
@[simp] theorem zero_35 : zeroCells Try.prog 35 = some [.nilfunc] := by kernel_rfl
@[simp] theorem tAgg_36 : tAgg Try.prog 36 = some false := by kernel_rfl
@[simp] theorem tSize_36 : tSize Try.prog 36 = some 1 := by kernel_rfl
@[simp] theorem zero_36 : zeroCells Try.prog 36 = some [.nilfunc] := by kernel_rfl
@[simp] theorem tAgg_37 : tAgg Try.prog 37 = some false := by kernel_rfl
@[simp] theorem tSize_37 : tSize Try.prog 37 = some 1 := by kernel_rfl
@[simp] theorem zero_37 : zeroCells Try.prog 37 = some [.nilfunc] := by kernel_rfl
@[simp] theorem isIface_38 : isIfaceT Try.prog 38 = false := by kernel_rfl
@[simp] theorem undS_38 : (Try.prog.underlying 38).isSome = true := by kernel_rfl
@[simp] theorem tAgg_38 : tAgg Try.prog 38 = some false := by kernel_rfl
@[simp] theorem tSize_38 : tSize Try.prog 38 = some 1 := by kernel_rfl
@[simp] theorem tBytes_38 : tBytes Try.prog 38 = some 24 := by kernel_rfl
@[simp] theorem tElem_38 : tElem Try.prog 38 = some 5 := by kernel_rfl
@[simp] theorem isSlice_38 : isSliceT Try.prog 38 = true := by kernel_rfl
@[simp] theorem zero_38 : zeroCells Try.prog 38 = some [.nilslice] := by kernel_rfl
@[simp] theorem tApp_38 : tAppend Try.prog #[38, 38] = some (1, 1) := by kernel_rfl
@[simp] theorem tCopy_38 : tCopy Try.prog #[38, 38] = some 1 := by kernel_rfl
@[simp] theorem tAgg_39 : tAgg Try.prog 39 = some false := by kernel_rfl
@[simp] theorem tSize_39 : tSize Try.prog 39 = some 1 := by kernel_rfl
@[simp] theorem zero_39 : zeroCells Try.prog 39 = some [.nilfunc] := by kernel_rfl
@[simp] theorem tAgg_40 : tAgg Try.prog 40 = some false := by kernel_rfl
@[simp] theorem tSize_40 : tSize Try.prog 40 = some 1 := by kernel_rfl
@[simp] theorem zero_40 : zeroCells Try.prog 40 = some [.nilfunc] := by kernel_rfl
@[simp] theorem tAgg_42 : tAgg Try.prog 42 = some false := by kernel_rfl
@[simp] theorem tSize_42 : tSize Try.prog 42 = some 1 := by kernel_rfl
@[simp] theorem zero_42 : zeroCells Try.prog 42 = some [.nilfunc] := by kernel_rfl
@[simp] theorem isIface_43 : isIfaceT Try.prog 43 = false := by kernel_rfl
@[simp] theorem undS_43 : (Try.prog.underlying 43).isSome = true := by kernel_rfl
@[simp] theorem tAgg_43 : tAgg Try.prog 43 = some false := by kernel_rfl
@[simp] theorem tSize_43 : tSize Try.prog 43 = some 1 := by kernel_rfl
@[simp] theorem tBytes_43 : tBytes Try.prog 43 = some 24 := by kernel_rfl
@[simp] theorem tElem_43 : tElem Try.prog 43 = some 126 := by kernel_rfl
@[simp] theorem isSlice_43 : isSliceT Try.prog 43 = true := by kernel_rfl
@[simp] theorem zero_43 : zeroCells Try.prog 43 = some [.nilslice] := by kernel_rfl
@[simp] theorem tApp_43 : tAppend Try.prog #[43, 43] = some (3, 24) := by kernel_rfl
@[simp] theorem tCopy_43 : tCopy Try.prog #[43, 43] = some 3 := by kernel_rfl
@[simp] theorem tAgg_44 : tAgg Try.prog 44 = some false := by kernel_rfl
@[simp] theorem tSize_44 : tSize Try.prog 44 = some 1 := by kernel_rfl
@[simp] theorem zero_44 : zeroCells Try.prog 44 = some [.nilfunc] := by kernel_rfl
@[simp] theorem tAgg_46 : tAgg Try.prog 46 = some false := by kernel_rfl
@[simp] theorem tSize_46 : tSize Try.prog 46 = some 1 := by kernel_rfl
@[simp] theorem zero_46 : zeroCells Try.prog 46 = some [.nilfunc] := by kernel_rfl
@[simp] theorem tAgg_47 : tAgg Try.prog 47 = some false := by kernel_rfl
@[simp] theorem tSize_47 : tSize Try.prog 47 = some 1 := by kernel_rfl
@[simp] theorem zero_47 : zeroCells Try.prog 47 = some [.nilfunc] := by kernel_rfl
@[simp] theorem tAgg_48 : tAgg Try.prog 48 = some false := by kernel_rfl
@[simp] theorem tSize_48 : tSize Try.prog 48 = some 1 := by kernel_rfl
@[simp] theorem zero_48 : zeroCells Try.prog 48 = some [.nilfunc] := by kernel_rfl
@[simp] theorem tAgg_50 : tAgg Try.prog 50 = some false := by kernel_rfl
@[simp] theorem tSize_50 : tSize Try.prog 50 = some 1 := by kernel_rfl
@[simp] theorem zero_50 : zeroCells Try.prog 50 = some [.nilfunc] := by kernel_rfl
@[simp] theorem tAgg_51 : tAgg Try.prog 51 = some false := by kernel_rfl
@[simp] theorem tSize_51 : tSize Try.prog 51 = some 1 := by kernel_rfl
@[simp] theorem zero_51 : zeroCells Try.prog 51 = some [.nilfunc] := by kernel_rfl
@[simp] theorem tAgg_52 : tAgg Try.prog 52 = some false := by kernel_rfl
@[simp] theorem tSize_52 : tSize Try.prog 52 = some 1 := by kernel_rfl
@[simp] theorem zero_52 : zeroCells Try.prog 52 = some [.nilfunc] := by kernel_rfl
@[simp] theorem tAgg_53 : tAgg Try.prog 53 = some false := by kernel_rfl
@[simp] theorem tSize_53 : tSize Try.prog 53 = some 1 := by kernel_rfl
@[simp] theorem zero_53 : zeroCells Try.prog 53 = some [.nilfunc] := by kernel_rfl
@[simp] theorem tAgg_54 : tAgg Try.prog 54 = some false := by kernel_rfl
@[simp] theorem tSize_54 : tSize Try.prog 54 = some 1 := by kernel_rfl
@[simp] theorem zero_54 : zeroCells Try.prog 54 = some [.nilfunc] := by kernel_rfl
@[simp] theorem tAgg_55 : tAgg Try.prog 55 = some false := by kernel_rfl
@[simp] theorem tSize_55 : tSize Try.prog 55 = some 1 := by kernel_rfl
@[simp] theorem zero_55 : zeroCells Try.prog 55 = some [.nilfunc] := by kernel_rfl
@[simp] theorem und_56 : Try.prog.underlying 56 = some (.float .f64) := by kernel_rfl
@[simp] theorem isIface_56 : isIfaceT Try.prog 56 = false := by kernel_rfl
@[simp] theorem tAgg_56 : tAgg Try.prog 56 = some false := by kernel_rfl
@[simp] theorem tSize_56 : tSize Try.prog 56 = some 1 := by kernel_rfl
@[simp] theorem tBytes_56 : tBytes Try.prog 56 = some 8 := by kernel_rfl
@[simp] theorem tElem_56 : tElem Try.prog 56 = none := by kernel_rfl
@[simp] theorem zero_56 : zeroCells Try.prog 56 = some [.float .f64 0] := by kernel_rfl
@[simp] theorem tAgg_57 : tAgg Try.prog 57 = some false := by kernel_rfl
@[simp] theorem tSize_57 : tSize Try.prog 57 = some 1 := by kernel_rfl
@[simp] theorem zero_57 : zeroCells Try.prog 57 = some [.nilfunc] := by kernel_rfl
@[simp] theorem tAgg_59 : tAgg Try.prog 59 = some false := by kernel_rfl
@[simp] theorem tSize_59 : tSize Try.prog 59 = some 1 := by kernel_rfl
@[simp] theorem zero_59 : zeroCells Try.prog 59 = some [.nilfunc] := by kernel_rfl
@[simp] theorem tAgg_61 : tAgg Try.prog 61 = some false := by kernel_rfl
@[simp] theorem tSize_61 : tSize Try.prog 61 = some 1 := by kernel_rfl
@[simp] theorem zero_61 : zeroCells Try.prog 61 = some [.nilfunc] := by kernel_rfl
@[simp] theorem tAgg_62 : tAgg Try.prog 62 = some false := by kernel_rfl
@[simp] theorem tSize_62 : tSize Try.prog 62 = some 1 := by kernel_rfl
@[simp] theorem zero_62 : zeroCells Try.prog 62 = some [.nilfunc] := by kernel_rfl
@[simp] theorem tAgg_63 : tAgg Try.prog 63 = some false := by kernel_rfl
@[simp] theorem tSize_63 : tSize Try.prog 63 = some 1 := by kernel_rfl
@[simp] theorem zero_63 : zeroCells Try.prog 63 = some [.nilfunc] := by kernel_rfl
@[simp] theorem isIface_64 : isIfaceT Try.prog 64 = false := by kernel_rfl
@[simp] theorem undS_64 : (Try.prog.underlying 64).isSome = true := by kernel_rfl
@[simp] theorem tAgg_64 : tAgg Try.prog 64 = some true := by kernel_rfl
@[simp] theorem tSize_64 : tSize Try.prog 64 = some 3 := by kernel_rfl
@[simp] theorem tBytes_64 : tBytes Try.prog 64 = some 40 := by kernel_rfl
@[simp] theorem tElem_64 : tElem Try.prog 64 = none := by kernel_rfl
@[simp] theorem zero_64 : zeroCells Try.prog 64 = some [.int .i64 0, .int .i64 0, .nilslice] := by kernel_rfl
@[simp] theorem tField_64_0 : tField Try.prog 64 0 = some (0, 2) := by kernel_rfl
@[simp] theorem tField_64_1 : tField Try.prog 64 1 = some (1, 2) := by kernel_rfl
@[simp] theorem tField_64_2 : tField Try.prog 64 2 = some (2, 22) := by kernel_rfl
@[simp] theorem tPlaces_64 : tPlaces Try.prog 64 = some [(0, 1), (1, 1), (2, 1)] := by kernel_rfl
@[simp] theorem isIface_65 : isIfaceT Try.prog 65 = false := by kernel_rfl
@[simp] theorem undS_65 : (Try.prog.underlying 65).isSome = true := by kernel_rfl
@[simp] theorem tAgg_65 : tAgg Try.prog 65 = some true := by kernel_rfl
@[simp] theorem tSize_65 : tSize Try.prog 65 = some 3 := by kernel_rfl
@[simp] theorem tBytes_65 : tBytes Try.prog 65 = some 40 := by kernel_rfl
@[simp] theorem tElem_65 : tElem Try.prog 65 = none := by kernel_rfl
@[simp] theorem zero_65 : zeroCells Try.prog 65 = some [.int .i64 0, .int .i64 0, .nilslice] := by kernel_rfl
@[simp] theorem tField_65_0 : tField Try.prog 65 0 = some (0, 2) := by kernel_rfl
@[simp] theorem tField_65_1 : tField Try.prog 65 1 = some (1, 2) := by kernel_rfl
@[simp] theorem tField_65_2 : tField Try.prog 65 2 = some (2, 22) := by kernel_rfl
@[simp] theorem tPlaces_65 : tPlaces Try.prog 65 = some [(0, 1), (1, 1), (2, 1)] := by kernel_rfl
@[simp] theorem tAgg_66 : tAgg Try.prog 66 = some false := by kernel_rfl
@[simp] theorem tSize_66 : tSize Try.prog 66 = some 1 := by kernel_rfl
@[simp] theorem zero_66 : zeroCells Try.prog 66 = some [.nilfunc] := by kernel_rfl
@[simp] theorem tAgg_68 : tAgg Try.prog 68 = some false := by kernel_rfl
@[simp] theorem tSize_68 : tSize Try.prog 68 = some 1 := by kernel_rfl
@[simp] theorem zero_68 : zeroCells Try.prog 68 = some [.nilfunc] := by kernel_rfl
@[simp] theorem tAgg_69 : tAgg Try.prog 69 = some false := by kernel_rfl
@[simp] theorem tSize_69 : tSize Try.prog 69 = some 1 := by kernel_rfl
@[simp] theorem zero_69 : zeroCells Try.prog 69 = some [.nilfunc] := by kernel_rfl
@[simp] theorem tAgg_70 : tAgg Try.prog 70 = some false := by kernel_rfl
@[simp] theorem tSize_70 : tSize Try.prog 70 = some 1 := by kernel_rfl
@[simp] theorem zero_70 : zeroCells Try.prog 70 = some [.nilfunc] := by kernel_rfl
@[simp] theorem tAgg_71 : tAgg Try.prog 71 = some false := by kernel_rfl
@[simp] theorem tSize_71 : tSize Try.prog 71 = some 1 := by kernel_rfl
@[simp] theorem zero_71 : zeroCells Try.prog 71 = some [.nilfunc] := by kernel_rfl
@[simp] theorem tAgg_73 : tAgg Try.prog 73 = some false := by kernel_rfl
@[simp] theorem tSize_73 : tSize Try.prog 73 = some 1 := by kernel_rfl
@[simp] theorem zero_73 : zeroCells Try.prog 73 = some [.nilfunc] := by kernel_rfl
@[simp] theorem tAgg_74 : tAgg Try.prog 74 = some false := by kernel_rfl
@[simp] theorem tSize_74 : tSize Try.prog 74 = some 1 := by kernel_rfl
@[simp] theorem zero_74 : zeroCells Try.prog 74 = some [.nilfunc] := by kernel_rfl
@[simp] theorem isIface_75 : isIfaceT Try.prog 75 = false := by kernel_rfl
@[simp] theorem undS_75 : (Try.prog.underlying 75).isSome = true := by kernel_rfl
@[simp] theorem tAgg_75 : tAgg Try.prog 75 = some true := by kernel_rfl
@[simp] theorem tSize_75 : tSize Try.prog 75 = some 3 := by kernel_rfl
@[simp] theorem tBytes_75 : tBytes Try.prog 75 = some 40 := by kernel_rfl
@[simp] theorem tElem_75 : tElem Try.prog 75 = none := by kernel_rfl
@[simp] theorem zero_75 : zeroCells Try.prog 75 = some [.int .i64 0, .int .i64 0, .nilslice] := by kernel_rfl
@[simp] theorem tField_75_0 : tField Try.prog 75 0 = some (0, 2) := by kernel_rfl
@[simp] theorem tField_75_1 : tField Try.prog 75 1 = some (1, 2) := by kernel_rfl
@[simp] theorem tField_75_2 : tField Try.prog 75 2 = some (2, 23) := by kernel_rfl
@[simp] theorem tPlaces_75 : tPlaces Try.prog 75 = some [(0, 1), (1, 1), (2, 1)] := by kernel_rfl
@[simp] theorem isIface_76 : isIfaceT Try.prog 76 = false := by kernel_rfl
@[simp] theorem undS_76 : (Try.prog.underlying 76).isSome = true := by kernel_rfl
@[simp] theorem tAgg_76 : tAgg Try.prog 76 = some true := by kernel_rfl
@[simp] theorem tSize_76 : tSize Try.prog 76 = some 3 := by kernel_rfl
@[simp] theorem tBytes_76 : tBytes Try.prog 76 = some 40 := by kernel_rfl
@[simp] theorem tElem_76 : tElem Try.prog 76 = none := by kernel_rfl
@[simp] theorem zero_76 : zeroCells Try.prog 76 = some [.int .i64 0, .int .i64 0, .nilslice] := by kernel_rfl
@[simp] theorem tField_76_0 : tField Try.prog 76 0 = some (0, 2) := by kernel_rfl
@[simp] theorem tField_76_1 : tField Try.prog 76 1 = some (1, 2) := by kernel_rfl
@[simp] theorem tField_76_2 : tField Try.prog 76 2 = some (2, 23) := by kernel_rfl
@[simp] theorem tPlaces_76 : tPlaces Try.prog 76 = some [(0, 1), (1, 1), (2, 1)] := by kernel_rfl
@[simp] theorem tAgg_78 : tAgg Try.prog 78 = some false := by kernel_rfl
@[simp] theorem tSize_78 : tSize Try.prog 78 = some 1 := by kernel_rfl
@[simp] theorem zero_78 : zeroCells Try.prog 78 = some [.nilfunc] := by kernel_rfl
@[simp] theorem tAgg_79 : tAgg Try.prog 79 = some false := by kernel_rfl
@[simp] theorem tSize_79 : tSize Try.prog 79 = some 1 := by kernel_rfl
@[simp] theorem zero_79 : zeroCells Try.prog 79 = some [.nilfunc] := by kernel_rfl
@[simp] theorem tAgg_80 : tAgg Try.prog 80 = some false := by kernel_rfl
@[simp] theorem tSize_80 : tSize Try.prog 80 = some 1 := by kernel_rfl
@[simp] theorem zero_80 : zeroCells Try.prog 80 = some [.nilfunc] := by kernel_rfl
@[simp] theorem tAgg_81 : tAgg Try.prog 81 = some false := by kernel_rfl
@[simp] theorem tSize_81 : tSize Try.prog 81 = some 1 := by kernel_rfl
@[simp] theorem zero_81 : zeroCells Try.prog 81 = some [.nilfunc] := by kernel_rfl
@[simp] theorem tAgg_82 : tAgg Try.prog 82 = some false := by kernel_rfl
@[simp] theorem tSize_82 : tSize Try.prog 82 = some 1 := by kernel_rfl
@[simp] theorem zero_82 : zeroCells Try.prog 82 = some [.nilfunc] := by kernel_rfl
@[simp] theorem tAgg_83 : tAgg Try.prog 83 = some false := by kernel_rfl
@[simp] theorem tSize_83 : tSize Try.prog 83 = some 1 := by kernel_rfl
@[simp] theorem zero_83 : zeroCells Try.prog 83 = some [.nilfunc] := by kernel_rfl
@[simp] theorem tAgg_84 : tAgg Try.prog 84 = some false := by kernel_rfl
@[simp] theorem tSize_84 : tSize Try.prog 84 = some 1 := by kernel_rfl
@[simp] theorem zero_84 : zeroCells Try.prog 84 = some [.nilfunc] := by kernel_rfl
@[simp] theorem tAgg_85 : tAgg Try.prog 85 = some false := by kernel_rfl
@[simp] theorem tSize_85 : tSize Try.prog 85 = some 1 := by kernel_rfl
@[simp] theorem zero_85 : zeroCells Try.prog 85 = some [.nilfunc] := by kernel_rfl
@[simp] theorem tAgg_86 : tAgg Try.prog 86 = some false := by kernel_rfl
@[simp] theorem tSize_86 : tSize Try.prog 86 = some 1 := by kernel_rfl
@[simp] theorem zero_86 : zeroCells Try.prog 86 = some [.nilfunc] := by kernel_rfl
@[simp] theorem tAgg_87 : tAgg Try.prog 87 = some false := by kernel_rfl
@[simp] theorem tSize_87 : tSize Try.prog 87 = some 1 := by kernel_rfl
@[simp] theorem zero_87 : zeroCells Try.prog 87 = some [.nilfunc] := by kernel_rfl
@[simp] theorem tAgg_88 : tAgg Try.prog 88 = some false := by kernel_rfl
@[simp] theorem tSize_88 : tSize Try.prog 88 = some 1 := by kernel_rfl
@[simp] theorem zero_88 : zeroCells Try.prog 88 = some [.nilfunc] := by kernel_rfl
@[simp] theorem tAgg_89 : tAgg Try.prog 89 = some false := by kernel_rfl
@[simp] theorem tSize_89 : tSize Try.prog 89 = some 1 := by kernel_rfl
@[simp] theorem zero_89 : zeroCells Try.prog 89 = some [.nilfunc] := by kernel_rfl
@[simp] theorem tAgg_90 : tAgg Try.prog 90 = some false := by kernel_rfl
@[simp] theorem tSize_90 : tSize Try.prog 90 = some 1 := by kernel_rfl
@[simp] theorem zero_90 : zeroCells Try.prog 90 = some [.nilfunc] := by kernel_rfl
@[simp] theorem tAgg_91 : tAgg Try.prog 91 = some false := by kernel_rfl
@[simp] theorem tSize_91 : tSize Try.prog 91 = some 1 := by kernel_rfl
@[simp] theorem zero_91 : zeroCells Try.prog 91 = some [.nilfunc] := by kernel_rfl
@[simp] theorem tAgg_92 : tAgg Try.prog 92 = some false := by kernel_rfl
@[simp] theorem tSize_92 : tSize Try.prog 92 = some 1 := by kernel_rfl
@[simp] theorem zero_92 : zeroCells Try.prog 92 = some [.nilfunc] := by kernel_rfl
@[simp] theorem tAgg_93 : tAgg Try.prog 93 = some false := by kernel_rfl
@[simp] theorem tSize_93 : tSize Try.prog 93 = some 1 := by kernel_rfl
@[simp] theorem zero_93 : zeroCells Try.prog 93 = some [.nilfunc] := by kernel_rfl
@[simp] theorem tAgg_94 : tAgg Try.prog 94 = some false := by kernel_rfl
@[simp] theorem tSize_94 : tSize Try.prog 94 = some 1 := by kernel_rfl
@[simp] theorem zero_94 : zeroCells Try.prog 94 = some [.nilfunc] := by kernel_rfl
@[simp] theorem tAgg_95 : tAgg Try.prog 95 = some false := by kernel_rfl
@[simp] theorem tSize_95 : tSize Try.prog 95 = some 1 := by kernel_rfl
@[simp] theorem zero_95 : zeroCells Try.prog 95 = some [.nilfunc] := by kernel_rfl
@[simp] theorem tAgg_97 : tAgg Try.prog 97 = some false := by kernel_rfl
@[simp] theorem tSize_97 : tSize Try.prog 97 = some 1 := by kernel_rfl
@[simp] theorem zero_97 : zeroCells Try.prog 97 = some [.nilfunc] := by kernel_rfl
@[simp] theorem tAgg_98 : tAgg Try.prog 98 = some false := by kernel_rfl
@[simp] theorem tSize_98 : tSize Try.prog 98 = some 1 := by kernel_rfl
@[simp] theorem zero_98 : zeroCells Try.prog 98 = some [.nilfunc] := by kernel_rfl
@[simp] theorem tAgg_99 : tAgg Try.prog 99 = some false := by kernel_rfl
@[simp] theorem tSize_99 : tSize Try.prog 99 = some 1 := by kernel_rfl
@[simp] theorem zero_99 : zeroCells Try.prog 99 = some [.nilfunc] := by kernel_rfl
@[simp] theorem isIface_100 : isIfaceT Try.prog 100 = false := by kernel_rfl
@[simp] theorem undS_100 : (Try.prog.underlying 100).isSome = true := by kernel_rfl
@[simp] theorem tAgg_100 : tAgg Try.prog 100 = some false := by kernel_rfl
@[simp] theorem tSize_100 : tSize Try.prog 100 = some 1 := by kernel_rfl
@[simp] theorem tBytes_100 : tBytes Try.prog 100 = some 8 := by kernel_rfl
@[simp] theorem tElem_100 : tElem Try.prog 100 = none := by kernel_rfl
@[simp] theorem zero_100 : zeroCells Try.prog 100 = some [.nilptr] := by kernel_rfl
@[simp] theorem tAgg_101 : tAgg Try.prog 101 = some false := by kernel_rfl
@[simp] theorem tSize_101 : tSize Try.prog 101 = some 1 := by kernel_rfl
@[simp] theorem zero_101 : zeroCells Try.prog 101 = some [.nilfunc] := by kernel_rfl
@[simp] theorem tAgg_102 : tAgg Try.prog 102 = some false := by kernel_rfl
@[simp] theorem tSize_102 : tSize Try.prog 102 = some 1 := by kernel_rfl
@[simp] theorem zero_102 : zeroCells Try.prog 102 = some [.nilfunc] := by kernel_rfl
@[simp] theorem isIface_103 : isIfaceT Try.prog 103 = false := by kernel_rfl
@[simp] theorem undS_103 : (Try.prog.underlying 103).isSome = true := by kernel_rfl
@[simp] theorem tAgg_103 : tAgg Try.prog 103 = some false := by kernel_rfl
@[simp] theorem tSize_103 : tSize Try.prog 103 = some 1 := by kernel_rfl
@[simp] theorem tBytes_103 : tBytes Try.prog 103 = some 24 := by kernel_rfl
@[simp] theorem tElem_103 : tElem Try.prog 103 = some 4 := by kernel_rfl
@[simp] theorem isSlice_103 : isSliceT Try.prog 103 = true := by kernel_rfl
@[simp] theorem zero_103 : zeroCells Try.prog 103 = some [.nilslice] := by kernel_rfl
@[simp] theorem tApp_103 : tAppend Try.prog #[103, 103] = some (1, 1) := by kernel_rfl
@[simp] theorem tCopy_103 : tCopy Try.prog #[103, 103] = some 1 := by kernel_rfl
@[simp] theorem isIface_104 : isIfaceT Try.prog 104 = false := by kernel_rfl
@[simp] theorem undS_104 : (Try.prog.underlying 104).isSome = true := by kernel_rfl
@[simp] theorem tAgg_104 : tAgg Try.prog 104 = some true := by kernel_rfl
@[simp] theorem tSize_104 : tSize Try.prog 104 = some 3 := by kernel_rfl
@[simp] theorem tBytes_104 : tBytes Try.prog 104 = some 56 := by kernel_rfl
@[simp] theorem tElem_104 : tElem Try.prog 104 = none := by kernel_rfl
@[simp] theorem zero_104 : zeroCells Try.prog 104 = some [.int .i64 0, .nilslice, .nilslice] := by kernel_rfl
@[simp] theorem tField_104_0 : tField Try.prog 104 0 = some (0, 2) := by kernel_rfl
@[simp] theorem tField_104_1 : tField Try.prog 104 1 = some (1, 103) := by kernel_rfl
@[simp] theorem tField_104_2 : tField Try.prog 104 2 = some (2, 23) := by kernel_rfl
@[simp] theorem tPlaces_104 : tPlaces Try.prog 104 = some [(0, 1), (1, 1), (2, 1)] := by kernel_rfl
@[simp] theorem isIface_105 : isIfaceT Try.prog 105 = false := by kernel_rfl
@[simp] theorem undS_105 : (Try.prog.underlying 105).isSome = true := by kernel_rfl
@[simp] theorem tAgg_105 : tAgg Try.prog 105 = some true := by kernel_rfl
@[simp] theorem tSize_105 : tSize Try.prog 105 = some 3 := by kernel_rfl
@[simp] theorem tBytes_105 : tBytes Try.prog 105 = some 56 := by kernel_rfl
@[simp] theorem tElem_105 : tElem Try.prog 105 = none := by kernel_rfl
@[simp] theorem zero_105 : zeroCells Try.prog 105 = some [.int .i64 0, .nilslice, .nilslice] := by kernel_rfl
@[simp] theorem tField_105_0 : tField Try.prog 105 0 = some (0, 2) := by kernel_rfl
@[simp] theorem tField_105_1 : tField Try.prog 105 1 = some (1, 103) := by kernel_rfl
@[simp] theorem tField_105_2 : tField Try.prog 105 2 = some (2, 23) := by kernel_rfl
@[simp] theorem tPlaces_105 : tPlaces Try.prog 105 = some [(0, 1), (1, 1), (2, 1)] := by kernel_rfl
@[simp] theorem tAgg_106 : tAgg Try.prog 106 = some false := by kernel_rfl
@[simp] theorem tSize_106 : tSize Try.prog 106 = some 1 := by kernel_rfl
@[simp] theorem zero_106 : zeroCells Try.prog 106 = some [.nilfunc] := by kernel_rfl
@[simp] theorem tAgg_107 : tAgg Try.prog 107 = some false := by kernel_rfl
@[simp] theorem tSize_107 : tSize Try.prog 107 = some 1 := by kernel_rfl
@[simp] theorem zero_107 : zeroCells Try.prog 107 = some [.nilfunc] := by kernel_rfl
@[simp] theorem tAgg_108 : tAgg Try.prog 108 = some false := by kernel_rfl
@[simp] theorem tSize_108 : tSize Try.prog 108 = some 1 := by kernel_rfl
@[simp] theorem zero_108 : zeroCells Try.prog 108 = some [.nilfunc] := by kernel_rfl
@[simp] theorem tAgg_109 : tAgg Try.prog 109 = some false := by kernel_rfl
@[simp] theorem tSize_109 : tSize Try.prog 109 = some 1 := by kernel_rfl
@[simp] theorem zero_109 : zeroCells Try.prog 109 = some [.nilfunc] := by kernel_rfl
@[simp] theorem tAgg_110 : tAgg Try.prog 110 = some false := by kernel_rfl
@[simp] theorem tSize_110 : tSize Try.prog 110 = some 1 := by kernel_rfl
@[simp] theorem zero_110 : zeroCells Try.prog 110 = some [.nilfunc] := by kernel_rfl
@[simp] theorem tAgg_111 : tAgg Try.prog 111 = some false := by kernel_rfl
@[simp] theorem tSize_111 : tSize Try.prog 111 = some 1 := by kernel_rfl
@[simp] theorem zero_111 : zeroCells Try.prog 111 = some [.nilfunc] := by kernel_rfl
@[simp] theorem isIface_112 : isIfaceT Try.prog 112 = false := by kernel_rfl
@[simp] theorem undS_112 : (Try.prog.underlying 112).isSome = true := by kernel_rfl
@[simp] theorem isMap_112 : isMapT Try.prog 112 = true := by kernel_rfl
@[simp] theorem tAgg_112 : tAgg Try.prog 112 = some false := by kernel_rfl
@[simp] theorem tSize_112 : tSize Try.prog 112 = some 1 := by kernel_rfl
@[simp] theorem tBytes_112 : tBytes Try.prog 112 = some 8 := by kernel_rfl
@[simp] theorem tElem_112 : tElem Try.prog 112 = none := by kernel_rfl
@[simp] theorem zero_112 : zeroCells Try.prog 112 = some [.nilmap] := by kernel_rfl
@[simp] theorem tAgg_113 : tAgg Try.prog 113 = some false := by kernel_rfl
@[simp] theorem tSize_113 : tSize Try.prog 113 = some 1 := by kernel_rfl
@[simp] theorem zero_113 : zeroCells Try.prog 113 = some [.nilfunc] := by kernel_rfl
@[simp] theorem isIface_114 : isIfaceT Try.prog 114 = false := by kernel_rfl
@[simp] theorem undS_114 : (Try.prog.underlying 114).isSome = true := by kernel_rfl
@[simp] theorem tAgg_114 : tAgg Try.prog 114 = some true := by kernel_rfl
@[simp] theorem tSize_114 : tSize Try.prog 114 = some 2 := by kernel_rfl
@[simp] theorem tBytes_114 : tBytes Try.prog 114 = some 16 := by kernel_rfl
@[simp] theorem tElem_114 : tElem Try.prog 114 = none := by kernel_rfl
@[simp] theorem zero_114 : zeroCells Try.prog 114 = some [.int .i64 0, .int .i64 0] := by kernel_rfl
@[simp] theorem tField_114_0 : tField Try.prog 114 0 = some (0, 2) := by kernel_rfl
@[simp] theorem tField_114_1 : tField Try.prog 114 1 = some (1, 2) := by kernel_rfl
@[simp] theorem tPlaces_114 : tPlaces Try.prog 114 = some [(0, 1), (1, 1)] := by kernel_rfl
@[simp] theorem isIface_115 : isIfaceT Try.prog 115 = false := by kernel_rfl
@[simp] theorem undS_115 : (Try.prog.underlying 115).isSome = true := by kernel_rfl
@[simp] theorem tAgg_115 : tAgg Try.prog 115 = some true := by kernel_rfl
@[simp] theorem tSize_115 : tSize Try.prog 115 = some 2 := by kernel_rfl
@[simp] theorem tBytes_115 : tBytes Try.prog 115 = some 16 := by kernel_rfl
@[simp] theorem tElem_115 : tElem Try.prog 115 = none := by kernel_rfl
@[simp] theorem zero_115 : zeroCells Try.prog 115 = some [.int .i64 0, .int .i64 0] := by kernel_rfl
@[simp] theorem tField_115_0 : tField Try.prog 115 0 = some (0, 2) := by kernel_rfl
@[simp] theorem tField_115_1 : tField Try.prog 115 1 = some (1, 2) := by kernel_rfl
@[simp] theorem tPlaces_115 : tPlaces Try.prog 115 = some [(0, 1), (1, 1)] := by kernel_rfl
@[simp] theorem tAgg_116 : tAgg Try.prog 116 = some false := by kernel_rfl
@[simp] theorem tSize_116 : tSize Try.prog 116 = some 1 := by kernel_rfl
@[simp] theorem zero_116 : zeroCells Try.prog 116 = some [.nilfunc] := by kernel_rfl
@[simp] theorem tAgg_117 : tAgg Try.prog 117 = some false := by kernel_rfl
@[simp] theorem tSize_117 : tSize Try.prog 117 = some 1 := by kernel_rfl
@[simp] theorem zero_117 : zeroCells Try.prog 117 = some [.nilfunc] := by kernel_rfl
@[simp] theorem tAgg_118 : tAgg Try.prog 118 = some false := by kernel_rfl
@[simp] theorem tSize_118 : tSize Try.prog 118 = some 1 := by kernel_rfl
@[simp] theorem zero_118 : zeroCells Try.prog 118 = some [.nilfunc] := by kernel_rfl
@[simp] theorem tAgg_119 : tAgg Try.prog 119 = some false := by kernel_rfl
@[simp] theorem tSize_119 : tSize Try.prog 119 = some 1 := by kernel_rfl
@[simp] theorem zero_119 : zeroCells Try.prog 119 = some [.nilfunc] := by kernel_rfl
@[simp] theorem tAgg_120 : tAgg Try.prog 120 = some false := by kernel_rfl
@[simp] theorem tSize_120 : tSize Try.prog 120 = some 1 := by kernel_rfl
@[simp] theorem zero_120 : zeroCells Try.prog 120 = some [.nilfunc] := by kernel_rfl
@[simp] theorem tAgg_121 : tAgg Try.prog 121 = some false := by kernel_rfl
@[simp] theorem tSize_121 : tSize Try.prog 121 = some 1 := by kernel_rfl
@[simp] theorem zero_121 : zeroCells Try.prog 121 = some [.nilfunc] := by kernel_rfl
@[simp] theorem isIface_122 : isIfaceT Try.prog 122 = false := by kernel_rfl
@[simp] theorem undS_122 : (Try.prog.underlying 122).isSome = true := by kernel_rfl
@[simp] theorem tAgg_122 : tAgg Try.prog 122 = some false := by kernel_rfl
@[simp] theorem tSize_122 : tSize Try.prog 122 = some 1 := by kernel_rfl
@[simp] theorem tBytes_122 : tBytes Try.prog 122 = some 8 := by kernel_rfl
@[simp] theorem tElem_122 : tElem Try.prog 122 = none := by kernel_rfl
@[simp] theorem zero_122 : zeroCells Try.prog 122 = some [.nilptr] := by kernel_rfl
@[simp] theorem tAgg_123 : tAgg Try.prog 123 = some false := by kernel_rfl
@[simp] theorem tSize_123 : tSize Try.prog 123 = some 1 := by kernel_rfl
@[simp] theorem zero_123 : zeroCells Try.prog 123 = some [.nilfunc] := by kernel_rfl
@[simp] theorem tAgg_124 : tAgg Try.prog 124 = some false := by kernel_rfl
@[simp] theorem tSize_124 : tSize Try.prog 124 = some 1 := by kernel_rfl
@[simp] theorem zero_124 : zeroCells Try.prog 124 = some [.nilfunc] := by kernel_rfl
@[simp] theorem isIface_125 : isIfaceT Try.prog 125 = false := by kernel_rfl
@[simp] theorem undS_125 : (Try.prog.underlying 125).isSome = true := by kernel_rfl
@[simp] theorem tAgg_125 : tAgg Try.prog 125 = some true := by kernel_rfl
@[simp] theorem tSize_125 : tSize Try.prog 125 = some 3 := by kernel_rfl
@[simp] theorem tBytes_125 : tBytes Try.prog 125 = some 24 := by kernel_rfl
@[simp] theorem tElem_125 : tElem Try.prog 125 = none := by kernel_rfl
@[simp] theorem zero_125 : zeroCells Try.prog 125 = some [.int .i64 0, .int .i64 0, .float .f32 0] := by kernel_rfl
@[simp] theorem tField_125_0 : tField Try.prog 125 0 = some (0, 2) := by kernel_rfl
@[simp] theorem tField_125_1 : tField Try.prog 125 1 = some (1, 2) := by kernel_rfl
@[simp] theorem tField_125_2 : tField Try.prog 125 2 = some (2, 26) := by kernel_rfl
@[simp] theorem tPlaces_125 : tPlaces Try.prog 125 = some [(0, 1), (1, 1), (2, 1)] := by kernel_rfl
@[simp] theorem isIface_126 : isIfaceT Try.prog 126 = false := by kernel_rfl
@[simp] theorem undS_126 : (Try.prog.underlying 126).isSome = true := by kernel_rfl
@[simp] theorem tAgg_126 : tAgg Try.prog 126 = some true := by kernel_rfl
@[simp] theorem tSize_126 : tSize Try.prog 126 = some 3 := by kernel_rfl
@[simp] theorem tBytes_126 : tBytes Try.prog 126 = some 24 := by kernel_rfl
@[simp] theorem tElem_126 : tElem Try.prog 126 = none := by kernel_rfl
@[simp] theorem zero_126 : zeroCells Try.prog 126 = some [.int .i64 0, .int .i64 0, .float .f32 0] := by kernel_rfl
@[simp] theorem tField_126_0 : tField Try.prog 126 0 = some (0, 2) := by kernel_rfl
@[simp] theorem tField_126_1 : tField Try.prog 126 1 = some (1, 2) := by kernel_rfl
@[simp] theorem tField_126_2 : tField Try.prog 126 2 = some (2, 26) := by kernel_rfl
@[simp] theorem tPlaces_126 : tPlaces Try.prog 126 = some [(0, 1), (1, 1), (2, 1)] := by kernel_rfl
@[simp] theorem tAgg_127 : tAgg Try.prog 127 = some false := by kernel_rfl
@[simp] theorem tSize_127 : tSize Try.prog 127 = some 1 := by kernel_rfl
@[simp] theorem zero_127 : zeroCells Try.prog 127 = some [.nilfunc] := by kernel_rfl
@[simp] theorem tAgg_128 : tAgg Try.prog 128 = some false := by kernel_rfl
@[simp] theorem tSize_128 : tSize Try.prog 128 = some 1 := by kernel_rfl
@[simp] theorem zero_128 : zeroCells Try.prog 128 = some [.nilfunc] := by kernel_rfl
@[simp] theorem isIface_129 : isIfaceT Try.prog 129 = false := by kernel_rfl
@[simp] theorem undS_129 : (Try.prog.underlying 129).isSome = true := by kernel_rfl
@[simp] theorem tAgg_129 : tAgg Try.prog 129 = some false := by kernel_rfl
@[simp] theorem tSize_129 : tSize Try.prog 129 = some 1 := by kernel_rfl
@[simp] theorem tBytes_129 : tBytes Try.prog 129 = some 8 := by kernel_rfl
@[simp] theorem tElem_129 : tElem Try.prog 129 = none := by kernel_rfl
@[simp] theorem zero_129 : zeroCells Try.prog 129 = some [.nilptr] := by kernel_rfl
@[simp] theorem tAgg_130 : tAgg Try.prog 130 = some false := by kernel_rfl
@[simp] theorem tSize_130 : tSize Try.prog 130 = some 1 := by kernel_rfl
@[simp] theorem zero_130 : zeroCells Try.prog 130 = some [.nilfunc] := by kernel_rfl
@[simp] theorem isIface_131 : isIfaceT Try.prog 131 = false := by kernel_rfl
@[simp] theorem undS_131 : (Try.prog.underlying 131).isSome = true := by kernel_rfl
@[simp] theorem tAgg_131 : tAgg Try.prog 131 = some false := by kernel_rfl
@[simp] theorem tSize_131 : tSize Try.prog 131 = some 1 := by kernel_rfl
@[simp] theorem tBytes_131 : tBytes Try.prog 131 = some 8 := by kernel_rfl
@[simp] theorem tElem_131 : tElem Try.prog 131 = none := by kernel_rfl
@[simp] theorem zero_131 : zeroCells Try.prog 131 = some [.nilptr] := by kernel_rfl
@[simp] theorem tAgg_132 : tAgg Try.prog 132 = some false := by kernel_rfl
@[simp] theorem tSize_132 : tSize Try.prog 132 = some 1 := by kernel_rfl
@[simp] theorem zero_132 : zeroCells Try.prog 132 = some [.nilfunc] := by kernel_rfl
@[simp] theorem tAgg_133 : tAgg Try.prog 133 = some false := by kernel_rfl
@[simp] theorem tSize_133 : tSize Try.prog 133 = some 1 := by kernel_rfl
@[simp] theorem zero_133 : zeroCells Try.prog 133 = some [.nilfunc] := by kernel_rfl
@[simp] theorem tAgg_134 : tAgg Try.prog 134 = some false := by kernel_rfl
@[simp] theorem tSize_134 : tSize Try.prog 134 = some 1 := by kernel_rfl
@[simp] theorem zero_134 : zeroCells Try.prog 134 = some [.nilfunc] := by kernel_rfl
@[simp] theorem tAgg_135 : tAgg Try.prog 135 = some false := by kernel_rfl
@[simp] theorem tSize_135 : tSize Try.prog 135 = some 1 := by kernel_rfl
@[simp] theorem zero_135 : zeroCells Try.prog 135 = some [.nilfunc] := by kernel_rfl
@[simp] theorem tAgg_136 : tAgg Try.prog 136 = some false := by kernel_rfl
@[simp] theorem tSize_136 : tSize Try.prog 136 = some 1 := by kernel_rfl
@[simp] theorem zero_136 : zeroCells Try.prog 136 = some [.nilfunc] := by kernel_rfl
@[simp] theorem tAgg_137 : tAgg Try.prog 137 = some false := by kernel_rfl
@[simp] theorem tSize_137 : tSize Try.prog 137 = some 1 := by kernel_rfl
@[simp] theorem zero_137 : zeroCells Try.prog 137 = some [.nilfunc] := by kernel_rfl
@[simp] theorem tAgg_138 : tAgg Try.prog 138 = some false := by kernel_rfl
@[simp] theorem tSize_138 : tSize Try.prog 138 = some 1 := by kernel_rfl
@[simp] theorem zero_138 : zeroCells Try.prog 138 = some [.nilfunc] := by kernel_rfl
@[simp] theorem tAgg_139 : tAgg Try.prog 139 = some false := by kernel_rfl
@[simp] theorem tSize_139 : tSize Try.prog 139 = some 1 := by kernel_rfl
@[simp] theorem zero_139 : zeroCells Try.prog 139 = some [.nilfunc] := by kernel_rfl
@[simp] theorem tAgg_140 : tAgg Try.prog 140 = some false := by kernel_rfl
@[simp] theorem tSize_140 : tSize Try.prog 140 = some 1 := by kernel_rfl
@[simp] theorem zero_140 : zeroCells Try.prog 140 = some [.nilfunc] := by kernel_rfl
@[simp] theorem tAgg_141 : tAgg Try.prog 141 = some false := by kernel_rfl
@[simp] theorem tSize_141 : tSize Try.prog 141 = some 1 := by kernel_rfl
@[simp] theorem zero_141 : zeroCells Try.prog 141 = some [.nilfunc] := by kernel_rfl
@[simp] theorem tAgg_142 : tAgg Try.prog 142 = some false := by kernel_rfl
@[simp] theorem tSize_142 : tSize Try.prog 142 = some 1 := by kernel_rfl
@[simp] theorem zero_142 : zeroCells Try.prog 142 = some [.nilfunc] := by kernel_rfl
@[simp] theorem tAgg_143 : tAgg Try.prog 143 = some false := by kernel_rfl
@[simp] theorem tSize_143 : tSize Try.prog 143 = some 1 := by kernel_rfl
@[simp] theorem zero_143 : zeroCells Try.prog 143 = some [.nilfunc] := by kernel_rfl
@[simp] theorem tAgg_144 : tAgg Try.prog 144 = some false := by kernel_rfl
@[simp] theorem tSize_144 : tSize Try.prog 144 = some 1 := by kernel_rfl
@[simp] theorem zero_144 : zeroCells Try.prog 144 = some [.nilfunc] := by kernel_rfl
@[simp] theorem tAgg_145 : tAgg Try.prog 145 = some false := by kernel_rfl
@[simp] theorem tSize_145 : tSize Try.prog 145 = some 1 := by kernel_rfl
@[simp] theorem zero_145 : zeroCells Try.prog 145 = some [.nilfunc] := by kernel_rfl
@[simp] theorem isIface_146 : isIfaceT Try.prog 146 = false := by kernel_rfl
@[simp] theorem undS_146 : (Try.prog.underlying 146).isSome = true := by kernel_rfl
@[simp] theorem tAgg_146 : tAgg Try.prog 146 = some false := by kernel_rfl
@[simp] theorem tSize_146 : tSize Try.prog 146 = some 1 := by kernel_rfl
@[simp] theorem tBytes_146 : tBytes Try.prog 146 = some 24 := by kernel_rfl
@[simp] theorem tElem_146 : tElem Try.prog 146 = some 22 := by kernel_rfl
@[simp] theorem isSlice_146 : isSliceT Try.prog 146 = true := by kernel_rfl
@[simp] theorem zero_146 : zeroCells Try.prog 146 = some [.nilslice] := by kernel_rfl
@[simp] theorem tApp_146 : tAppend Try.prog #[146, 146] = some (1, 24) := by kernel_rfl
@[simp] theorem tCopy_146 : tCopy Try.prog #[146, 146] = some 1 := by kernel_rfl
@[simp] theorem tAgg_147 : tAgg Try.prog 147 = some false := by kernel_rfl
@[simp] theorem tSize_147 : tSize Try.prog 147 = some 1 := by kernel_rfl
@[simp] theorem zero_147 : zeroCells Try.prog 147 = some [.nilfunc] := by kernel_rfl
@[simp] theorem tAgg_149 : tAgg Try.prog 149 = some false := by kernel_rfl
@[simp] theorem tSize_149 : tSize Try.prog 149 = some 1 := by kernel_rfl
@[simp] theorem zero_149 : zeroCells Try.prog 149 = some [.nilfunc] := by kernel_rfl
@[simp] theorem tAgg_150 : tAgg Try.prog 150 = some false := by kernel_rfl
@[simp] theorem tSize_150 : tSize Try.prog 150 = some 1 := by kernel_rfl
@[simp] theorem zero_150 : zeroCells Try.prog 150 = some [.nilfunc] := by kernel_rfl
@[simp] theorem tAgg_151 : tAgg Try.prog 151 = some false := by kernel_rfl
@[simp] theorem tSize_151 : tSize Try.prog 151 = some 1 := by kernel_rfl
@[simp] theorem zero_151 : zeroCells Try.prog 151 = some [.nilfunc] := by kernel_rfl
@[simp] theorem tAgg_152 : tAgg Try.prog 152 = some false := by kernel_rfl
@[simp] theorem tSize_152 : tSize Try.prog 152 = some 1 := by kernel_rfl
@[simp] theorem zero_152 : zeroCells Try.prog 152 = some [.nilfunc] := by kernel_rfl
@[simp] theorem tAgg_153 : tAgg Try.prog 153 = some false := by kernel_rfl
@[simp] theorem tSize_153 : tSize Try.prog 153 = some 1 := by kernel_rfl
@[simp] theorem zero_153 : zeroCells Try.prog 153 = some [.nilfunc] := by kernel_rfl
@[simp] theorem tAgg_154 : tAgg Try.prog 154 = some false := by kernel_rfl
@[simp] theorem tSize_154 : tSize Try.prog 154 = some 1 := by kernel_rfl
@[simp] theorem zero_154 : zeroCells Try.prog 154 = some [.nilfunc] := by kernel_rfl
@[simp] theorem tAgg_155 : tAgg Try.prog 155 = some false := by kernel_rfl
@[simp] theorem tSize_155 : tSize Try.prog 155 = some 1 := by kernel_rfl
@[simp] theorem zero_155 : zeroCells Try.prog 155 = some [.nilfunc] := by kernel_rfl
@[simp] theorem tAgg_156 : tAgg Try.prog 156 = some false := by kernel_rfl
@[simp] theorem tSize_156 : tSize Try.prog 156 = some 1 := by kernel_rfl
@[simp] theorem zero_156 : zeroCells Try.prog 156 = some [.nilfunc] := by kernel_rfl
@[simp] theorem tAgg_157 : tAgg Try.prog 157 = some false := by kernel_rfl
@[simp] theorem tSize_157 : tSize Try.prog 157 = some 1 := by kernel_rfl
@[simp] theorem zero_157 : zeroCells Try.prog 157 = some [.nilfunc] := by kernel_rfl
@[simp] theorem tAgg_158 : tAgg Try.prog 158 = some false := by kernel_rfl
@[simp] theorem tSize_158 : tSize Try.prog 158 = some 1 := by kernel_rfl
@[simp] theorem zero_158 : zeroCells Try.prog 158 = some [.nilfunc] := by kernel_rfl
@[simp] theorem tAgg_159 : tAgg Try.prog 159 = some false := by kernel_rfl
@[simp] theorem tSize_159 : tSize Try.prog 159 = some 1 := by kernel_rfl
@[simp] theorem zero_159 : zeroCells Try.prog 159 = some [.nilfunc] := by kernel_rfl
@[simp] theorem tAgg_160 : tAgg Try.prog 160 = some false := by kernel_rfl
@[simp] theorem tSize_160 : tSize Try.prog 160 = some 1 := by kernel_rfl
@[simp] theorem zero_160 : zeroCells Try.prog 160 = some [.nilfunc] := by kernel_rfl
@[simp] theorem tAgg_161 : tAgg Try.prog 161 = some false := by kernel_rfl
@[simp] theorem tSize_161 : tSize Try.prog 161 = some 1 := by kernel_rfl
@[simp] theorem zero_161 : zeroCells Try.prog 161 = some [.nilfunc] := by kernel_rfl
@[simp] theorem tAgg_162 : tAgg Try.prog 162 = some false := by kernel_rfl
@[simp] theorem tSize_162 : tSize Try.prog 162 = some 1 := by kernel_rfl
@[simp] theorem zero_162 : zeroCells Try.prog 162 = some [.nilfunc] := by kernel_rfl
@[simp] theorem tAgg_163 : tAgg Try.prog 163 = some false := by kernel_rfl
@[simp] theorem tSize_163 : tSize Try.prog 163 = some 1 := by kernel_rfl
@[simp] theorem zero_163 : zeroCells Try.prog 163 = some [.nilfunc] := by kernel_rfl
@[simp] theorem tAgg_164 : tAgg Try.prog 164 = some false := by kernel_rfl
@[simp] theorem tSize_164 : tSize Try.prog 164 = some 1 := by kernel_rfl
@[simp] theorem zero_164 : zeroCells Try.prog 164 = some [.nilfunc] := by kernel_rfl
@[simp] theorem tAgg_165 : tAgg Try.prog 165 = some false := by kernel_rfl
@[simp] theorem tSize_165 : tSize Try.prog 165 = some 1 := by kernel_rfl
@[simp] theorem zero_165 : zeroCells Try.prog 165 = some [.nilfunc] := by kernel_rfl
@[simp] theorem tAgg_166 : tAgg Try.prog 166 = some false := by kernel_rfl
@[simp] theorem tSize_166 : tSize Try.prog 166 = some 1 := by kernel_rfl
@[simp] theorem zero_166 : zeroCells Try.prog 166 = some [.nilfunc] := by kernel_rfl
@[simp] theorem tAgg_167 : tAgg Try.prog 167 = some false := by kernel_rfl
@[simp] theorem tSize_167 : tSize Try.prog 167 = some 1 := by kernel_rfl
@[simp] theorem zero_167 : zeroCells Try.prog 167 = some [.nilfunc] := by kernel_rfl
@[simp] theorem und_168 : Try.prog.underlying 168 = some (.int .u64) := by kernel_rfl
@[simp] theorem isIface_168 : isIfaceT Try.prog 168 = false := by kernel_rfl
@[simp] theorem tAgg_168 : tAgg Try.prog 168 = some false := by kernel_rfl
@[simp] theorem tSize_168 : tSize Try.prog 168 = some 1 := by kernel_rfl
@[simp] theorem tBytes_168 : tBytes Try.prog 168 = some 8 := by kernel_rfl
@[simp] theorem tElem_168 : tElem Try.prog 168 = none := by kernel_rfl
@[simp] theorem zero_168 : zeroCells Try.prog 168 = some [.int .u64 0] := by kernel_rfl
@[simp] theorem isIface_169 : isIfaceT Try.prog 169 = false := by kernel_rfl
@[simp] theorem undS_169 : (Try.prog.underlying 169).isSome = true := by kernel_rfl
@[simp] theorem tAgg_169 : tAgg Try.prog 169 = some true := by kernel_rfl
@[simp] theorem tSize_169 : tSize Try.prog 169 = some 3 := by kernel_rfl
@[simp] theorem tBytes_169 : tBytes Try.prog 169 = some 40 := by kernel_rfl
@[simp] theorem tElem_169 : tElem Try.prog 169 = none := by kernel_rfl
@[simp] theorem zero_169 : zeroCells Try.prog 169 = some [.nilslice, .int .i64 0, .int .u64 0] := by kernel_rfl
@[simp] theorem tField_169_0 : tField Try.prog 169 0 = some (0, 38) := by kernel_rfl
@[simp] theorem tField_169_1 : tField Try.prog 169 1 = some (1, 3) := by kernel_rfl
@[simp] theorem tField_169_2 : tField Try.prog 169 2 = some (2, 168) := by kernel_rfl
@[simp] theorem tPlaces_169 : tPlaces Try.prog 169 = some [(0, 1), (1, 1), (2, 1)] := by kernel_rfl
@[simp] theorem isIface_170 : isIfaceT Try.prog 170 = false := by kernel_rfl
@[simp] theorem undS_170 : (Try.prog.underlying 170).isSome = true := by kernel_rfl
@[simp] theorem tAgg_170 : tAgg Try.prog 170 = some true := by kernel_rfl
@[simp] theorem tSize_170 : tSize Try.prog 170 = some 3 := by kernel_rfl
@[simp] theorem tBytes_170 : tBytes Try.prog 170 = some 40 := by kernel_rfl
@[simp] theorem tElem_170 : tElem Try.prog 170 = none := by kernel_rfl
@[simp] theorem zero_170 : zeroCells Try.prog 170 = some [.nilslice, .int .i64 0, .int .u64 0] := by kernel_rfl
@[simp] theorem tField_170_0 : tField Try.prog 170 0 = some (0, 38) := by kernel_rfl
@[simp] theorem tField_170_1 : tField Try.prog 170 1 = some (1, 3) := by kernel_rfl
@[simp] theorem tField_170_2 : tField Try.prog 170 2 = some (2, 168) := by kernel_rfl
@[simp] theorem tPlaces_170 : tPlaces Try.prog 170 = some [(0, 1), (1, 1), (2, 1)] := by kernel_rfl
@[simp] theorem tAgg_171 : tAgg Try.prog 171 = some false := by kernel_rfl
@[simp] theorem tSize_171 : tSize Try.prog 171 = some 1 := by kernel_rfl
@[simp] theorem zero_171 : zeroCells Try.prog 171 = some [.nilfunc] := by kernel_rfl
@[simp] theorem tAgg_172 : tAgg Try.prog 172 = some false := by kernel_rfl
@[simp] theorem tSize_172 : tSize Try.prog 172 = some 1 := by kernel_rfl
@[simp] theorem zero_172 : zeroCells Try.prog 172 = some [.nilfunc] := by kernel_rfl
@[simp] theorem tAgg_173 : tAgg Try.prog 173 = some false := by kernel_rfl
@[simp] theorem tSize_173 : tSize Try.prog 173 = some 1 := by kernel_rfl
@[simp] theorem zero_173 : zeroCells Try.prog 173 = some [.nilfunc] := by kernel_rfl
@[simp] theorem tAgg_174 : tAgg Try.prog 174 = some false := by kernel_rfl
@[simp] theorem tSize_174 : tSize Try.prog 174 = some 1 := by kernel_rfl
@[simp] theorem zero_174 : zeroCells Try.prog 174 = some [.nilfunc] := by kernel_rfl
@[simp] theorem tAgg_175 : tAgg Try.prog 175 = some false := by kernel_rfl
@[simp] theorem tSize_175 : tSize Try.prog 175 = some 1 := by kernel_rfl
@[simp] theorem zero_175 : zeroCells Try.prog 175 = some [.nilfunc] := by kernel_rfl
@[simp] theorem tAgg_176 : tAgg Try.prog 176 = some false := by kernel_rfl
@[simp] theorem tSize_176 : tSize Try.prog 176 = some 1 := by kernel_rfl
@[simp] theorem zero_176 : zeroCells Try.prog 176 = some [.nilfunc] := by kernel_rfl
@[simp] theorem tAgg_177 : tAgg Try.prog 177 = some false := by kernel_rfl
@[simp] theorem tSize_177 : tSize Try.prog 177 = some 1 := by kernel_rfl
@[simp] theorem zero_177 : zeroCells Try.prog 177 = some [.nilfunc] := by kernel_rfl
@[simp] theorem tAgg_178 : tAgg Try.prog 178 = some false := by kernel_rfl
@[simp] theorem tSize_178 : tSize Try.prog 178 = some 1 := by kernel_rfl
@[simp] theorem zero_178 : zeroCells Try.prog 178 = some [.nilfunc] := by kernel_rfl
@[simp] theorem tAgg_179 : tAgg Try.prog 179 = some false := by kernel_rfl
@[simp] theorem tSize_179 : tSize Try.prog 179 = some 1 := by kernel_rfl
@[simp] theorem zero_179 : zeroCells Try.prog 179 = some [.nilfunc] := by kernel_rfl
@[simp] theorem tAgg_180 : tAgg Try.prog 180 = some false := by kernel_rfl
@[simp] theorem tSize_180 : tSize Try.prog 180 = some 1 := by kernel_rfl
@[simp] theorem zero_180 : zeroCells Try.prog 180 = some [.nilfunc] := by kernel_rfl
@[simp] theorem tAgg_181 : tAgg Try.prog 181 = some false := by kernel_rfl
@[simp] theorem tSize_181 : tSize Try.prog 181 = some 1 := by kernel_rfl
@[simp] theorem zero_181 : zeroCells Try.prog 181 = some [.nilfunc] := by kernel_rfl
@[simp] theorem tAgg_182 : tAgg Try.prog 182 = some false := by kernel_rfl
@[simp] theorem tSize_182 : tSize Try.prog 182 = some 1 := by kernel_rfl
@[simp] theorem zero_182 : zeroCells Try.prog 182 = some [.nilfunc] := by kernel_rfl
@[simp] theorem tAgg_183 : tAgg Try.prog 183 = some false := by kernel_rfl
@[simp] theorem tSize_183 : tSize Try.prog 183 = some 1 := by kernel_rfl
@[simp] theorem zero_183 : zeroCells Try.prog 183 = some [.nilfunc] := by kernel_rfl
@[simp] theorem tAgg_184 : tAgg Try.prog 184 = some false := by kernel_rfl
@[simp] theorem tSize_184 : tSize Try.prog 184 = some 1 := by kernel_rfl
@[simp] theorem zero_184 : zeroCells Try.prog 184 = some [.nilfunc] := by kernel_rfl
@[simp] theorem tAgg_185 : tAgg Try.prog 185 = some false := by kernel_rfl
@[simp] theorem tSize_185 : tSize Try.prog 185 = some 1 := by kernel_rfl
@[simp] theorem zero_185 : zeroCells Try.prog 185 = some [.nilfunc] := by kernel_rfl
@[simp] theorem tAgg_186 : tAgg Try.prog 186 = some false := by kernel_rfl
@[simp] theorem tSize_186 : tSize Try.prog 186 = some 1 := by kernel_rfl
@[simp] theorem zero_186 : zeroCells Try.prog 186 = some [.nilfunc] := by kernel_rfl
@[simp] theorem tAgg_187 : tAgg Try.prog 187 = some false := by kernel_rfl
@[simp] theorem tSize_187 : tSize Try.prog 187 = some 1 := by kernel_rfl
@[simp] theorem zero_187 : zeroCells Try.prog 187 = some [.nilfunc] := by kernel_rfl
@[simp] theorem tAgg_188 : tAgg Try.prog 188 = some false := by kernel_rfl
@[simp] theorem tSize_188 : tSize Try.prog 188 = some 1 := by kernel_rfl
@[simp] theorem zero_188 : zeroCells Try.prog 188 = some [.nilfunc] := by kernel_rfl
@[simp] theorem tAgg_189 : tAgg Try.prog 189 = some false := by kernel_rfl
@[simp] theorem tSize_189 : tSize Try.prog 189 = some 1 := by kernel_rfl
@[simp] theorem zero_189 : zeroCells Try.prog 189 = some [.nilfunc] := by kernel_rfl
@[simp] theorem tAgg_190 : tAgg Try.prog 190 = some false := by kernel_rfl
@[simp] theorem tSize_190 : tSize Try.prog 190 = some 1 := by kernel_rfl
@[simp] theorem zero_190 : zeroCells Try.prog 190 = some [.nilfunc] := by kernel_rfl
@[simp] theorem tAgg_191 : tAgg Try.prog 191 = some false := by kernel_rfl
@[simp] theorem tSize_191 : tSize Try.prog 191 = some 1 := by kernel_rfl
@[simp] theorem zero_191 : zeroCells Try.prog 191 = some [.nilfunc] := by kernel_rfl
@[simp] theorem tAgg_192 : tAgg Try.prog 192 = some false := by kernel_rfl
@[simp] theorem tSize_192 : tSize Try.prog 192 = some 1 := by kernel_rfl
@[simp] theorem zero_192 : zeroCells Try.prog 192 = some [.nilfunc] := by kernel_rfl
@[simp] theorem und_193 : Try.prog.underlying 193 = some (.int .u64) := by kernel_rfl
@[simp] theorem isIface_193 : isIfaceT Try.prog 193 = false := by kernel_rfl
@[simp] theorem tAgg_193 : tAgg Try.prog 193 = some false := by kernel_rfl
@[simp] theorem tSize_193 : tSize Try.prog 193 = some 1 := by kernel_rfl
@[simp] theorem tBytes_193 : tBytes Try.prog 193 = some 8 := by kernel_rfl
@[simp] theorem tElem_193 : tElem Try.prog 193 = none := by kernel_rfl
@[simp] theorem zero_193 : zeroCells Try.prog 193 = some [.int .u64 0] := by kernel_rfl
@[simp] theorem tAgg_194 : tAgg Try.prog 194 = some false := by kernel_rfl
@[simp] theorem tSize_194 : tSize Try.prog 194 = some 1 := by kernel_rfl
@[simp] theorem zero_194 : zeroCells Try.prog 194 = some [.nilfunc] := by kernel_rfl
@[simp] theorem und_195 : Try.prog.underlying 195 = some (.int .u32) := by kernel_rfl
@[simp] theorem isIface_195 : isIfaceT Try.prog 195 = false := by kernel_rfl
@[simp] theorem tAgg_195 : tAgg Try.prog 195 = some false := by kernel_rfl
@[simp] theorem tSize_195 : tSize Try.prog 195 = some 1 := by kernel_rfl
@[simp] theorem tBytes_195 : tBytes Try.prog 195 = some 4 := by kernel_rfl
@[simp] theorem tElem_195 : tElem Try.prog 195 = none := by kernel_rfl
@[simp] theorem zero_195 : zeroCells Try.prog 195 = some [.int .u32 0] := by kernel_rfl
@[simp] theorem tAgg_196 : tAgg Try.prog 196 = some false := by kernel_rfl
@[simp] theorem tSize_196 : tSize Try.prog 196 = some 1 := by kernel_rfl
@[simp] theorem zero_196 : zeroCells Try.prog 196 = some [.nilfunc] := by kernel_rfl
@[simp] theorem tAgg_198 : tAgg Try.prog 198 = some false := by kernel_rfl
@[simp] theorem tSize_198 : tSize Try.prog 198 = some 1 := by kernel_rfl
@[simp] theorem zero_198 : zeroCells Try.prog 198 = some [.nilfunc] := by kernel_rfl
@[simp] theorem tAgg_199 : tAgg Try.prog 199 = some false := by kernel_rfl
@[simp] theorem tSize_199 : tSize Try.prog 199 = some 1 := by kernel_rfl
@[simp] theorem zero_199 : zeroCells Try.prog 199 = some [.nilfunc] := by kernel_rfl
@[simp] theorem tAgg_200 : tAgg Try.prog 200 = some false := by kernel_rfl
@[simp] theorem tSize_200 : tSize Try.prog 200 = some 1 := by kernel_rfl
@[simp] theorem zero_200 : zeroCells Try.prog 200 = some [.nilfunc] := by kernel_rfl
@[simp] theorem tAgg_201 : tAgg Try.prog 201 = some false := by kernel_rfl
@[simp] theorem tSize_201 : tSize Try.prog 201 = some 1 := by kernel_rfl
@[simp] theorem zero_201 : zeroCells Try.prog 201 = some [.nilfunc] := by kernel_rfl
@[simp] theorem tAgg_202 : tAgg Try.prog 202 = some false := by kernel_rfl
@[simp] theorem tSize_202 : tSize Try.prog 202 = some 1 := by kernel_rfl
@[simp] theorem zero_202 : zeroCells Try.prog 202 = some [.nilfunc] := by kernel_rfl
@[simp] theorem tAgg_203 : tAgg Try.prog 203 = some false := by kernel_rfl
@[simp] theorem tSize_203 : tSize Try.prog 203 = some 1 := by kernel_rfl
@[simp] theorem zero_203 : zeroCells Try.prog 203 = some [.nilfunc] := by kernel_rfl
@[simp] theorem und_204 : Try.prog.underlying 204 = some (.int .i64) := by kernel_rfl
@[simp] theorem isIface_204 : isIfaceT Try.prog 204 = false := by kernel_rfl
@[simp] theorem tAgg_204 : tAgg Try.prog 204 = some false := by kernel_rfl
@[simp] theorem tSize_204 : tSize Try.prog 204 = some 1 := by kernel_rfl
@[simp] theorem tBytes_204 : tBytes Try.prog 204 = some 8 := by kernel_rfl
@[simp] theorem tElem_204 : tElem Try.prog 204 = none := by kernel_rfl
@[simp] theorem zero_204 : zeroCells Try.prog 204 = some [.int .i64 0] := by kernel_rfl
@[simp] theorem tAgg_206 : tAgg Try.prog 206 = some false := by kernel_rfl
@[simp] theorem tSize_206 : tSize Try.prog 206 = some 1 := by kernel_rfl
@[simp] theorem zero_206 : zeroCells Try.prog 206 = some [.nilfunc] := by kernel_rfl
@[simp] theorem tAgg_207 : tAgg Try.prog 207 = some false := by kernel_rfl
@[simp] theorem tSize_207 : tSize Try.prog 207 = some 1 := by kernel_rfl
@[simp] theorem zero_207 : zeroCells Try.prog 207 = some [.nilfunc] := by kernel_rfl
@[simp] theorem tAgg_208 : tAgg Try.prog 208 = some false := by kernel_rfl
@[simp] theorem tSize_208 : tSize Try.prog 208 = some 1 := by kernel_rfl
@[simp] theorem zero_208 : zeroCells Try.prog 208 = some [.nilfunc] := by kernel_rfl
@[simp] theorem tAgg_210 : tAgg Try.prog 210 = some false := by kernel_rfl
@[simp] theorem tSize_210 : tSize Try.prog 210 = some 1 := by kernel_rfl
@[simp] theorem zero_210 : zeroCells Try.prog 210 = some [.nilfunc] := by kernel_rfl
@[simp] theorem tAgg_211 : tAgg Try.prog 211 = some false := by kernel_rfl
@[simp] theorem tSize_211 : tSize Try.prog 211 = some 1 := by kernel_rfl
@[simp] theorem zero_211 : zeroCells Try.prog 211 = some [.nilfunc] := by kernel_rfl
@[simp] theorem tAgg_212 : tAgg Try.prog 212 = some false := by kernel_rfl
@[simp] theorem tSize_212 : tSize Try.prog 212 = some 1 := by kernel_rfl
@[simp] theorem zero_212 : zeroCells Try.prog 212 = some [.nilfunc] := by kernel_rfl
@[simp] theorem und_213 : Try.prog.underlying 213 = some (.int .u64) := by kernel_rfl
@[simp] theorem isIface_213 : isIfaceT Try.prog 213 = false := by kernel_rfl
@[simp] theorem tAgg_213 : tAgg Try.prog 213 = some false := by kernel_rfl
@[simp] theorem tSize_213 : tSize Try.prog 213 = some 1 := by kernel_rfl
@[simp] theorem tBytes_213 : tBytes Try.prog 213 = some 8 := by kernel_rfl
@[simp] theorem tElem_213 : tElem Try.prog 213 = none := by kernel_rfl
@[simp] theorem zero_213 : zeroCells Try.prog 213 = some [.int .u64 0] := by kernel_rfl
@[simp] theorem tAgg_214 : tAgg Try.prog 214 = some false := by kernel_rfl
@[simp] theorem tSize_214 : tSize Try.prog 214 = some 1 := by kernel_rfl
@[simp] theorem zero_214 : zeroCells Try.prog 214 = some [.nilfunc] := by kernel_rfl
@[simp] theorem tAgg_215 : tAgg Try.prog 215 = some false := by kernel_rfl
@[simp] theorem tSize_215 : tSize Try.prog 215 = some 1 := by kernel_rfl
@[simp] theorem zero_215 : zeroCells Try.prog 215 = some [.nilfunc] := by kernel_rfl
@[simp] theorem tAgg_216 : tAgg Try.prog 216 = some false := by kernel_rfl
@[simp] theorem tSize_216 : tSize Try.prog 216 = some 1 := by kernel_rfl
@[simp] theorem zero_216 : zeroCells Try.prog 216 = some [.nilfunc] := by kernel_rfl
@[simp] theorem isIface_217 : isIfaceT Try.prog 217 = false := by kernel_rfl
@[simp] theorem undS_217 : (Try.prog.underlying 217).isSome = true := by kernel_rfl
@[simp] theorem tAgg_217 : tAgg Try.prog 217 = some false := by kernel_rfl
@[simp] theorem tSize_217 : tSize Try.prog 217 = some 1 := by kernel_rfl
@[simp] theorem tBytes_217 : tBytes Try.prog 217 = some 8 := by kernel_rfl
@[simp] theorem tElem_217 : tElem Try.prog 217 = none := by kernel_rfl
@[simp] theorem zero_217 : zeroCells Try.prog 217 = some [.nilptr] := by kernel_rfl
@[simp] theorem tAgg_218 : tAgg Try.prog 218 = some false := by kernel_rfl
@[simp] theorem tSize_218 : tSize Try.prog 218 = some 1 := by kernel_rfl
@[simp] theorem zero_218 : zeroCells Try.prog 218 = some [.nilfunc] := by kernel_rfl
@[simp] theorem isIface_219 : isIfaceT Try.prog 219 = false := by kernel_rfl
@[simp] theorem undS_219 : (Try.prog.underlying 219).isSome = true := by kernel_rfl
@[simp] theorem tAgg_219 : tAgg Try.prog 219 = some false := by kernel_rfl
@[simp] theorem tSize_219 : tSize Try.prog 219 = some 1 := by kernel_rfl
@[simp] theorem tBytes_219 : tBytes Try.prog 219 = some 8 := by kernel_rfl
@[simp] theorem tElem_219 : tElem Try.prog 219 = none := by kernel_rfl
@[simp] theorem zero_219 : zeroCells Try.prog 219 = some [.nilptr] := by kernel_rfl
@[simp] theorem tAgg_221 : tAgg Try.prog 221 = some false := by kernel_rfl
@[simp] theorem tSize_221 : tSize Try.prog 221 = some 1 := by kernel_rfl
@[simp] theorem zero_221 : zeroCells Try.prog 221 = some [.nilfunc] := by kernel_rfl
@[simp] theorem tAgg_222 : tAgg Try.prog 222 = some false := by kernel_rfl
@[simp] theorem tSize_222 : tSize Try.prog 222 = some 1 := by kernel_rfl
@[simp] theorem zero_222 : zeroCells Try.prog 222 = some [.nilfunc] := by kernel_rfl
@[simp] theorem isIface_223 : isIfaceT Try.prog 223 = false := by kernel_rfl
@[simp] theorem undS_223 : (Try.prog.underlying 223).isSome = true := by kernel_rfl
@[simp] theorem tAgg_223 : tAgg Try.prog 223 = some true := by kernel_rfl
@[simp] theorem tSize_223 : tSize Try.prog 223 = some 4 := by kernel_rfl
@[simp] theorem tBytes_223 : tBytes Try.prog 223 = some 40 := by kernel_rfl
@[simp] theorem tElem_223 : tElem Try.prog 223 = none := by kernel_rfl
@[simp] theorem zero_223 : zeroCells Try.prog 223 = some [.nilptr, .nilptr, .nilptr, .string []] := by kernel_rfl
@[simp] theorem tField_223_0 : tField Try.prog 223 0 = some (0, 17) := by kernel_rfl
@[simp] theorem tField_223_1 : tField Try.prog 223 1 = some (1, 17) := by kernel_rfl
@[simp] theorem tField_223_2 : tField Try.prog 223 2 = some (2, 17) := by kernel_rfl
@[simp] theorem tField_223_3 : tField Try.prog 223 3 = some (3, 9) := by kernel_rfl
@[simp] theorem tPlaces_223 : tPlaces Try.prog 223 = some [(0, 1), (1, 1), (2, 1), (3, 1)] := by kernel_rfl
@[simp] theorem isIface_224 : isIfaceT Try.prog 224 = false := by kernel_rfl
@[simp] theorem undS_224 : (Try.prog.underlying 224).isSome = true := by kernel_rfl
@[simp] theorem tAgg_224 : tAgg Try.prog 224 = some true := by kernel_rfl
@[simp] theorem tSize_224 : tSize Try.prog 224 = some 4 := by kernel_rfl
@[simp] theorem tBytes_224 : tBytes Try.prog 224 = some 40 := by kernel_rfl
@[simp] theorem tElem_224 : tElem Try.prog 224 = none := by kernel_rfl
@[simp] theorem zero_224 : zeroCells Try.prog 224 = some [.nilptr, .nilptr, .nilptr, .string []] := by kernel_rfl
@[simp] theorem tField_224_0 : tField Try.prog 224 0 = some (0, 17) := by kernel_rfl
@[simp] theorem tField_224_1 : tField Try.prog 224 1 = some (1, 17) := by kernel_rfl
@[simp] theorem tField_224_2 : tField Try.prog 224 2 = some (2, 17) := by kernel_rfl
@[simp] theorem tField_224_3 : tField Try.prog 224 3 = some (3, 9) := by kernel_rfl
@[simp] theorem tPlaces_224 : tPlaces Try.prog 224 = some [(0, 1), (1, 1), (2, 1), (3, 1)] := by kernel_rfl
@[simp] theorem isIface_225 : isIfaceT Try.prog 225 = false := by kernel_rfl
@[simp] theorem undS_225 : (Try.prog.underlying 225).isSome = true := by kernel_rfl
@[simp] theorem tAgg_225 : tAgg Try.prog 225 = some true := by kernel_rfl
@[simp] theorem tSize_225 : tSize Try.prog 225 = some 0 := by kernel_rfl
@[simp] theorem tBytes_225 : tBytes Try.prog 225 = some 0 := by kernel_rfl
@[simp] theorem tElem_225 : tElem Try.prog 225 = none := by kernel_rfl
@[simp] theorem tArr_225 : tArr Try.prog 225 = some (0, 16) := by kernel_rfl
@[simp] theorem zero_225 : zeroCells Try.prog 225 = some [] := by kernel_rfl
@[simp] theorem isIface_226 : isIfaceT Try.prog 226 = false := by kernel_rfl
@[simp] theorem undS_226 : (Try.prog.underlying 226).isSome = true := by kernel_rfl
@[simp] theorem tAgg_226 : tAgg Try.prog 226 = some true := by kernel_rfl
@[simp] theorem tSize_226 : tSize Try.prog 226 = some 0 := by kernel_rfl
@[simp] theorem tBytes_226 : tBytes Try.prog 226 = some 0 := by kernel_rfl
@[simp] theorem tElem_226 : tElem Try.prog 226 = none := by kernel_rfl
@[simp] theorem zero_226 : zeroCells Try.prog 226 = some [] := by kernel_rfl
@[simp] theorem tField_226_0 : tField Try.prog 226 0 = none := by kernel_rfl
@[simp] theorem tPlaces_226 : tPlaces Try.prog 226 = some [(0, 0)] := by kernel_rfl
@[simp] theorem isIface_227 : isIfaceT Try.prog 227 = false := by kernel_rfl
@[simp] theorem undS_227 : (Try.prog.underlying 227).isSome = true := by kernel_rfl
@[simp] theorem tAgg_227 : tAgg Try.prog 227 = some true := by kernel_rfl
@[simp] theorem tSize_227 : tSize Try.prog 227 = some 0 := by kernel_rfl
@[simp] theorem tBytes_227 : tBytes Try.prog 227 = some 0 := by kernel_rfl
@[simp] theorem tElem_227 : tElem Try.prog 227 = none := by kernel_rfl
@[simp] theorem zero_227 : zeroCells Try.prog 227 = some [] := by kernel_rfl
@[simp] theorem tField_227_0 : tField Try.prog 227 0 = none := by kernel_rfl
@[simp] theorem tPlaces_227 : tPlaces Try.prog 227 = some [(0, 0)] := by kernel_rfl
@[simp] theorem tAgg_228 : tAgg Try.prog 228 = some false := by kernel_rfl
@[simp] theorem tSize_228 : tSize Try.prog 228 = some 1 := by kernel_rfl
@[simp] theorem zero_228 : zeroCells Try.prog 228 = some [.nilfunc] := by kernel_rfl
@[simp] theorem und_229 : Try.prog.underlying 229 = some (.int .u8) := by kernel_rfl
@[simp] theorem isIface_229 : isIfaceT Try.prog 229 = false := by kernel_rfl
@[simp] theorem tAgg_229 : tAgg Try.prog 229 = some false := by kernel_rfl
@[simp] theorem tSize_229 : tSize Try.prog 229 = some 1 := by kernel_rfl
@[simp] theorem tBytes_229 : tBytes Try.prog 229 = some 1 := by kernel_rfl
@[simp] theorem tElem_229 : tElem Try.prog 229 = none := by kernel_rfl
@[simp] theorem zero_229 : zeroCells Try.prog 229 = some [.int .u8 0] := by kernel_rfl
@[simp] theorem und_230 : Try.prog.underlying 230 = some (.int .u8) := by kernel_rfl
@[simp] theorem isIface_230 : isIfaceT Try.prog 230 = false := by kernel_rfl
@[simp] theorem tAgg_230 : tAgg Try.prog 230 = some false := by kernel_rfl
@[simp] theorem tSize_230 : tSize Try.prog 230 = some 1 := by kernel_rfl
@[simp] theorem tBytes_230 : tBytes Try.prog 230 = some 1 := by kernel_rfl
@[simp] theorem tElem_230 : tElem Try.prog 230 = none := by kernel_rfl
@[simp] theorem zero_230 : zeroCells Try.prog 230 = some [.int .u8 0] := by kernel_rfl
@[simp] theorem tAgg_231 : tAgg Try.prog 231 = some false := by kernel_rfl
@[simp] theorem tSize_231 : tSize Try.prog 231 = some 1 := by kernel_rfl
@[simp] theorem zero_231 : zeroCells Try.prog 231 = some [.nilfunc] := by kernel_rfl
@[simp] theorem isIface_232 : isIfaceT Try.prog 232 = false := by kernel_rfl
@[simp] theorem undS_232 : (Try.prog.underlying 232).isSome = true := by kernel_rfl
@[simp] theorem tAgg_232 : tAgg Try.prog 232 = some false := by kernel_rfl
@[simp] theorem tSize_232 : tSize Try.prog 232 = some 1 := by kernel_rfl
@[simp] theorem tBytes_232 : tBytes Try.prog 232 = some 8 := by kernel_rfl
@[simp] theorem tElem_232 : tElem Try.prog 232 = none := by kernel_rfl
@[simp] theorem zero_232 : zeroCells Try.prog 232 = some [.nilptr] := by kernel_rfl
@[simp] theorem und_233 : Try.prog.underlying 233 = some (.int .i32) := by kernel_rfl
@[simp] theorem isIface_233 : isIfaceT Try.prog 233 = false := by kernel_rfl
@[simp] theorem tAgg_233 : tAgg Try.prog 233 = some false := by kernel_rfl
@[simp] theorem tSize_233 : tSize Try.prog 233 = some 1 := by kernel_rfl
@[simp] theorem tBytes_233 : tBytes Try.prog 233 = some 4 := by kernel_rfl
@[simp] theorem tElem_233 : tElem Try.prog 233 = none := by kernel_rfl
@[simp] theorem zero_233 : zeroCells Try.prog 233 = some [.int .i32 0] := by kernel_rfl
@[simp] theorem und_234 : Try.prog.underlying 234 = some (.int .i32) := by kernel_rfl
@[simp] theorem isIface_234 : isIfaceT Try.prog 234 = false := by kernel_rfl
@[simp] theorem tAgg_234 : tAgg Try.prog 234 = some false := by kernel_rfl
@[simp] theorem tSize_234 : tSize Try.prog 234 = some 1 := by kernel_rfl
@[simp] theorem tBytes_234 : tBytes Try.prog 234 = some 4 := by kernel_rfl
@[simp] theorem tElem_234 : tElem Try.prog 234 = none := by kernel_rfl
@[simp] theorem zero_234 : zeroCells Try.prog 234 = some [.int .i32 0] := by kernel_rfl
@[simp] theorem isIface_235 : isIfaceT Try.prog 235 = false := by kernel_rfl
@[simp] theorem undS_235 : (Try.prog.underlying 235).isSome = true := by kernel_rfl
@[simp] theorem tAgg_235 : tAgg Try.prog 235 = some true := by kernel_rfl
@[simp] theorem tSize_235 : tSize Try.prog 235 = some 11 := by kernel_rfl
@[simp] theorem tBytes_235 : tBytes Try.prog 235 = some 48 := by kernel_rfl
@[simp] theorem tElem_235 : tElem Try.prog 235 = none := by kernel_rfl
@[simp] theorem zero_235 : zeroCells Try.prog 235 = some [.int .u64 0, .int .u64 0, .int .u32 0, .int .u8 0, .int .u8 0, .int .u8 0, .int .u8 0, .nilfunc, .nilptr, .int .i32 0, .int .i32 0] := by kernel_rfl
@[simp] theorem tField_235_0 : tField Try.prog 235 0 = some (0, 12) := by kernel_rfl
@[simp] theorem tField_235_1 : tField Try.prog 235 1 = some (1, 12) := by kernel_rfl
@[simp] theorem tField_235_2 : tField Try.prog 235 2 = some (2, 195) := by kernel_rfl
@[simp] theorem tField_235_3 : tField Try.prog 235 3 = some (3, 229) := by kernel_rfl
@[simp] theorem tField_235_4 : tField Try.prog 235 4 = some (4, 5) := by kernel_rfl
@[simp] theorem tField_235_5 : tField Try.prog 235 5 = some (5, 5) := by kernel_rfl
@[simp] theorem tField_235_6 : tField Try.prog 235 6 = some (6, 230) := by kernel_rfl
@[simp] theorem tField_235_7 : tField Try.prog 235 7 = some (7, 231) := by kernel_rfl
@[simp] theorem tField_235_8 : tField Try.prog 235 8 = some (8, 232) := by kernel_rfl
@[simp] theorem tField_235_9 : tField Try.prog 235 9 = some (9, 233) := by kernel_rfl
@[simp] theorem tField_235_10 : tField Try.prog 235 10 = some (10, 234) := by kernel_rfl
@[simp] theorem tPlaces_235 : tPlaces Try.prog 235 = some [(0, 1), (1, 1), (2, 1), (3, 1), (4, 1), (5, 1), (6, 1), (7, 1), (8, 1), (9, 1), (10, 1)] := by kernel_rfl
@[simp] theorem isIface_236 : isIfaceT Try.prog 236 = false := by kernel_rfl
@[simp] theorem undS_236 : (Try.prog.underlying 236).isSome = true := by kernel_rfl
@[simp] theorem tAgg_236 : tAgg Try.prog 236 = some true := by kernel_rfl
@[simp] theorem tSize_236 : tSize Try.prog 236 = some 11 := by kernel_rfl
@[simp] theorem tBytes_236 : tBytes Try.prog 236 = some 48 := by kernel_rfl
@[simp] theorem tElem_236 : tElem Try.prog 236 = none := by kernel_rfl
@[simp] theorem zero_236 : zeroCells Try.prog 236 = some [.int .u64 0, .int .u64 0, .int .u32 0, .int .u8 0, .int .u8 0, .int .u8 0, .int .u8 0, .nilfunc, .nilptr, .int .i32 0, .int .i32 0] := by kernel_rfl
@[simp] theorem tField_236_0 : tField Try.prog 236 0 = some (0, 12) := by kernel_rfl
@[simp] theorem tField_236_1 : tField Try.prog 236 1 = some (1, 12) := by kernel_rfl
@[simp] theorem tField_236_2 : tField Try.prog 236 2 = some (2, 195) := by kernel_rfl
@[simp] theorem tField_236_3 : tField Try.prog 236 3 = some (3, 229) := by kernel_rfl
@[simp] theorem tField_236_4 : tField Try.prog 236 4 = some (4, 5) := by kernel_rfl
@[simp] theorem tField_236_5 : tField Try.prog 236 5 = some (5, 5) := by kernel_rfl
@[simp] theorem tField_236_6 : tField Try.prog 236 6 = some (6, 230) := by kernel_rfl
@[simp] theorem tField_236_7 : tField Try.prog 236 7 = some (7, 231) := by kernel_rfl
@[simp] theorem tField_236_8 : tField Try.prog 236 8 = some (8, 232) := by kernel_rfl
@[simp] theorem tField_236_9 : tField Try.prog 236 9 = some (9, 233) := by kernel_rfl
@[simp] theorem tField_236_10 : tField Try.prog 236 10 = some (10, 234) := by kernel_rfl
@[simp] theorem tPlaces_236 : tPlaces Try.prog 236 = some [(0, 1), (1, 1), (2, 1), (3, 1), (4, 1), (5, 1), (6, 1), (7, 1), (8, 1), (9, 1), (10, 1)] := by kernel_rfl
@[simp] theorem tAgg_237 : tAgg Try.prog 237 = some false := by kernel_rfl
@[simp] theorem tSize_237 : tSize Try.prog 237 = some 1 := by kernel_rfl
@[simp] theorem zero_237 : zeroCells Try.prog 237 = some [.nilfunc] := by kernel_rfl
@[simp] theorem tAgg_238 : tAgg Try.prog 238 = some false := by kernel_rfl
@[simp] theorem tSize_238 : tSize Try.prog 238 = some 1 := by kernel_rfl
@[simp] theorem zero_238 : zeroCells Try.prog 238 = some [.nilfunc] := by kernel_rfl
@[simp] theorem tAgg_239 : tAgg Try.prog 239 = some false := by kernel_rfl
@[simp] theorem tSize_239 : tSize Try.prog 239 = some 1 := by kernel_rfl
@[simp] theorem zero_239 : zeroCells Try.prog 239 = some [.nilfunc] := by kernel_rfl
@[simp] theorem canon_f32_0 : canon .f32 0 = 0 := by kernel_rfl
@[simp] theorem canon_f32_1056964608 : canon .f32 1056964608 = 1056964608 := by kernel_rfl
@[simp] theorem canon_f32_1065353216 : canon .f32 1065353216 = 1065353216 := by kernel_rfl
@[simp] theorem canon_f32_1073741824 : canon .f32 1073741824 = 1073741824 := by kernel_rfl
@[simp] theorem canon_f32_1082130432 : canon .f32 1082130432 = 1082130432 := by kernel_rfl
@[simp] theorem canon_f32_3212836864 : canon .f32 3212836864 = 3212836864 := by kernel_rfl
@[simp] theorem canon_f64_0 : canon .f64 0 = 0 := by kernel_rfl
@[simp] theorem canon_f64_4562254508917369340 : canon .f64 4562254508917369340 = 4562254508917369340 := by kernel_rfl
@[simp] theorem canon_f64_4576918229304087675 : canon .f64 4576918229304087675 = 4576918229304087675 := by kernel_rfl
@[simp] theorem canon_f64_4607182418800017408 : canon .f64 4607182418800017408 = 4607182418800017408 := by kernel_rfl
@[simp] theorem canon_f64_4611686018427387904 : canon .f64 4611686018427387904 = 4611686018427387904 := by kernel_rfl
@[simp] theorem canon_f64_4696837146684686336 : canon .f64 4696837146684686336 = 4696837146684686336 := by kernel_rfl
@[simp] theorem canon_f64_9218868437227405311 : canon .f64 9218868437227405311 = 9218868437227405311 := by kernel_rfl
end Go.Ab
