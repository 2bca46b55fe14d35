/-
  Facts on the types of this program, each by reckoning. Printed by al.py.
-/
import Derived.Test.YtfocnmkbnccilaaProg
import Derived.Test.YtfocnmkbnccilaaAlJ0
namespace Go.Proofs.Ytfocnmkbnccilaa
open Go.RowKit
theorem tyA_32 : tyAgg Try.prog 32 = true := by kernel_rfl
theorem tyS_32 : tySize Try.prog 32 = 10 := by kernel_rfl
theorem tyR_44 : tyRow Try.prog 44 = some (42, 3, 40) := by kernel_rfl
theorem tyB_42 : tyParts Try.prog 42 = some ([(0, 1), (1, 1), (2, 1)], [Value.int IntKind.i64 0, Value.int IntKind.i64 0, Value.slice none 0 0]) := by kernel_rfl
theorem tyA_38 : tyAgg Try.prog 38 = true := by kernel_rfl
theorem tyS_38 : tySize Try.prog 38 = 5 := by kernel_rfl
theorem tyE_23 : tyElem Try.prog 23 = (2, 1) := by kernel_rfl
theorem tyK_23 : tyK Try.prog 23 = TyK.slice := by kernel_rfl
theorem tyK_3 : tyK Try.prog 3 = TyK.int := by kernel_rfl
theorem tyR_23 : tyRow Try.prog 23 = some (2, 1, 8) := by kernel_rfl
theorem tyF_38_0 : fOff Try.prog 38 0 = some 0 := by kernel_rfl
theorem tyA_23 : tyAgg Try.prog 23 = false := by kernel_rfl
theorem tyS_23 : tySize Try.prog 23 = 1 := by kernel_rfl
theorem tyF_38_1 : fOff Try.prog 38 1 = some 1 := by kernel_rfl
theorem tyA_3 : tyAgg Try.prog 3 = false := by kernel_rfl
theorem tyS_3 : tySize Try.prog 3 = 1 := by kernel_rfl
theorem tyF_38_2 : fOff Try.prog 38 2 = some 2 := by kernel_rfl
theorem tyR_36 : tyRow Try.prog 36 = some (3, 1, 8) := by kernel_rfl
theorem tyF_38_3 : fOff Try.prog 38 3 = some 3 := by kernel_rfl
theorem tyA_36 : tyAgg Try.prog 36 = false := by kernel_rfl
theorem tyS_36 : tySize Try.prog 36 = 1 := by kernel_rfl
theorem tyF_38_4 : fOff Try.prog 38 4 = some 4 := by kernel_rfl
theorem tyB_38 : tyParts Try.prog 38 = some ([(0, 1), (1, 1), (2, 1), (3, 1), (4, 1)], [Value.slice none 0 0, Value.int IntKind.i64 0, Value.int IntKind.i64 0, Value.slice none 0 0, Value.slice none 0 0]) := by kernel_rfl
theorem tyZ_38 : tyZero Try.prog 38 = some (Value.agg #[Value.slice none 0 0, Value.int IntKind.i64 0, Value.int IntKind.i64 0, Value.slice none 0 0, Value.slice none 0 0]) := by kernel_rfl
theorem tyE_44 : tyElem Try.prog 44 = (42, 3) := by kernel_rfl
theorem tyK_44 : tyK Try.prog 44 = TyK.slice := by kernel_rfl
theorem tyF_42_2 : fOff Try.prog 42 2 = some 2 := by kernel_rfl
theorem tyA_2 : tyAgg Try.prog 2 = false := by kernel_rfl
theorem tyS_2 : tySize Try.prog 2 = 1 := by kernel_rfl
theorem tyA_42 : tyAgg Try.prog 42 = true := by kernel_rfl
theorem tyS_42 : tySize Try.prog 42 = 3 := by kernel_rfl
theorem tyK_48 : tyK Try.prog 48 = TyK.int := by kernel_rfl
theorem tyE_36 : tyElem Try.prog 36 = (3, 1) := by kernel_rfl
theorem tyK_36 : tyK Try.prog 36 = TyK.slice := by kernel_rfl
theorem tyE_30 : tyElem Try.prog 30 = (57, 2) := by kernel_rfl
theorem tyK_30 : tyK Try.prog 30 = TyK.slice := by kernel_rfl
theorem tyA_57 : tyAgg Try.prog 57 = true := by kernel_rfl
theorem tyS_57 : tySize Try.prog 57 = 2 := by kernel_rfl
theorem tyK_57 : tyK Try.prog 57 = TyK.other := by kernel_rfl
theorem tyF_32_6 : fOff Try.prog 32 6 = some 6 := by kernel_rfl
theorem tyA_27 : tyAgg Try.prog 27 = false := by kernel_rfl
theorem tyS_27 : tySize Try.prog 27 = 1 := by kernel_rfl
theorem tyE_27 : tyElem Try.prog 27 = (62, 3) := by kernel_rfl
theorem tyK_27 : tyK Try.prog 27 = TyK.slice := by kernel_rfl
theorem tyF_32_7 : fOff Try.prog 32 7 = some 7 := by kernel_rfl
theorem tyA_28 : tyAgg Try.prog 28 = false := by kernel_rfl
theorem tyS_28 : tySize Try.prog 28 = 1 := by kernel_rfl
theorem tyE_28 : tyElem Try.prog 28 = (64, 5) := by kernel_rfl
theorem tyK_28 : tyK Try.prog 28 = TyK.slice := by kernel_rfl
theorem tyF_32_4 : fOff Try.prog 32 4 = some 4 := by kernel_rfl
theorem tyA_25 : tyAgg Try.prog 25 = false := by kernel_rfl
theorem tyS_25 : tySize Try.prog 25 = 1 := by kernel_rfl
theorem tyE_25 : tyElem Try.prog 25 = (70, 2) := by kernel_rfl
theorem tyK_25 : tyK Try.prog 25 = TyK.slice := by kernel_rfl
theorem tyF_32_5 : fOff Try.prog 32 5 = some 5 := by kernel_rfl
theorem tyA_26 : tyAgg Try.prog 26 = false := by kernel_rfl
theorem tyS_26 : tySize Try.prog 26 = 1 := by kernel_rfl
theorem tyE_26 : tyElem Try.prog 26 = (66, 5) := by kernel_rfl
theorem tyK_26 : tyK Try.prog 26 = TyK.slice := by kernel_rfl
theorem tyF_32_0 : fOff Try.prog 32 0 = some 0 := by kernel_rfl
theorem tyA_22 : tyAgg Try.prog 22 = false := by kernel_rfl
theorem tyS_22 : tySize Try.prog 22 = 1 := by kernel_rfl
theorem tyE_22 : tyElem Try.prog 22 = (9, 1) := by kernel_rfl
theorem tyK_22 : tyK Try.prog 22 = TyK.slice := by kernel_rfl
theorem tyF_32_2 : fOff Try.prog 32 2 = some 2 := by kernel_rfl
theorem tyF_32_3 : fOff Try.prog 32 3 = some 3 := by kernel_rfl
theorem tyA_24 : tyAgg Try.prog 24 = false := by kernel_rfl
theorem tyS_24 : tySize Try.prog 24 = 1 := by kernel_rfl
theorem tyE_24 : tyElem Try.prog 24 = (68, 2) := by kernel_rfl
theorem tyK_24 : tyK Try.prog 24 = TyK.slice := by kernel_rfl
theorem tyF_32_8 : fOff Try.prog 32 8 = some 8 := by kernel_rfl
theorem tyA_29 : tyAgg Try.prog 29 = false := by kernel_rfl
theorem tyS_29 : tySize Try.prog 29 = 1 := by kernel_rfl
theorem tyE_29 : tyElem Try.prog 29 = (104, 2) := by kernel_rfl
theorem tyK_29 : tyK Try.prog 29 = TyK.slice := by kernel_rfl
theorem tyF_32_9 : fOff Try.prog 32 9 = some 9 := by kernel_rfl
theorem tyA_30 : tyAgg Try.prog 30 = false := by kernel_rfl
theorem tyS_30 : tySize Try.prog 30 = 1 := by kernel_rfl
theorem tyF_32_1 : fOff Try.prog 32 1 = some 1 := by kernel_rfl
theorem tyF_62_2 : fOff Try.prog 62 2 = some 2 := by kernel_rfl
theorem tyA_60 : tyAgg Try.prog 60 = false := by kernel_rfl
theorem tyS_60 : tySize Try.prog 60 = 1 := by kernel_rfl
theorem tyE_60 : tyElem Try.prog 60 = (92, 7) := by kernel_rfl
theorem tyK_60 : tyK Try.prog 60 = TyK.slice := by kernel_rfl
theorem tyF_64_3 : fOff Try.prog 64 3 = some 3 := by kernel_rfl
theorem tyF_66_3 : fOff Try.prog 66 3 = some 3 := by kernel_rfl
theorem tyR_22 : tyRow Try.prog 22 = some (9, 1, 16) := by kernel_rfl
theorem tyB_68 : tyParts Try.prog 68 = some ([(0, 1), (1, 1)], [Value.string ByteArray.empty, Value.int IntKind.i64 0]) := by kernel_rfl
theorem tyR_24 : tyRow Try.prog 24 = some (68, 2, 24) := by kernel_rfl
theorem tyB_70 : tyParts Try.prog 70 = some ([(0, 1), (1, 1)], [Value.string ByteArray.empty, Value.int IntKind.i64 0]) := by kernel_rfl
theorem tyR_25 : tyRow Try.prog 25 = some (70, 2, 24) := by kernel_rfl
theorem tyB_66 : tyParts Try.prog 66 = some ([(0, 1), (1, 1), (2, 1), (3, 1), (4, 1)], [Value.string ByteArray.empty, Value.int IntKind.i64 0, Value.int IntKind.i64 0, Value.slice none 0 0, Value.int IntKind.i64 0]) := by kernel_rfl
theorem tyR_26 : tyRow Try.prog 26 = some (66, 5, 64) := by kernel_rfl
theorem tyB_32 : tyParts Try.prog 32 = some ([(0, 1), (1, 1), (2, 1), (3, 1), (4, 1), (5, 1), (6, 1), (7, 1), (8, 1), (9, 1)], [Value.slice none 0 0, Value.slice none 0 0, Value.slice none 0 0, Value.slice none 0 0, Value.slice none 0 0, Value.slice none 0 0, Value.slice none 0 0, Value.slice none 0 0, Value.slice none 0 0, Value.slice none 0 0]) := by kernel_rfl
theorem tyZ_32 : tyZero Try.prog 32 = some (Value.agg #[Value.slice none 0 0, Value.slice none 0 0, Value.slice none 0 0, Value.slice none 0 0, Value.slice none 0 0, Value.slice none 0 0, Value.slice none 0 0, Value.slice none 0 0, Value.slice none 0 0, Value.slice none 0 0]) := by kernel_rfl
theorem tyK_2 : tyK Try.prog 2 = TyK.int := by kernel_rfl
theorem tyF_42_0 : fOff Try.prog 42 0 = some 0 := by kernel_rfl
theorem tyF_42_1 : fOff Try.prog 42 1 = some 1 := by kernel_rfl
theorem tyZ_42 : tyZero Try.prog 42 = some (Value.agg #[Value.int IntKind.i64 0, Value.int IntKind.i64 0, Value.slice none 0 0]) := by kernel_rfl
theorem tyF_66_4 : fOff Try.prog 66 4 = some 4 := by kernel_rfl
theorem tyA_66 : tyAgg Try.prog 66 = true := by kernel_rfl
theorem tyS_66 : tySize Try.prog 66 = 5 := by kernel_rfl
theorem tyZ_66 : tyZero Try.prog 66 = some (Value.agg #[Value.string ByteArray.empty, Value.int IntKind.i64 0, Value.int IntKind.i64 0, Value.slice none 0 0, Value.int IntKind.i64 0]) := by kernel_rfl
theorem tyF_70_1 : fOff Try.prog 70 1 = some 1 := by kernel_rfl
theorem tyB_62 : tyParts Try.prog 62 = some ([(0, 1), (1, 1), (2, 1)], [Value.int IntKind.i64 0, Value.int IntKind.i64 0, Value.slice none 0 0]) := by kernel_rfl
theorem tyR_27 : tyRow Try.prog 27 = some (62, 3, 40) := by kernel_rfl
theorem tyB_64 : tyParts Try.prog 64 = some ([(0, 1), (1, 1), (2, 1), (3, 1), (4, 1)], [Value.string ByteArray.empty, Value.int IntKind.i64 0, Value.int IntKind.i64 0, Value.slice none 0 0, Value.bool false]) := by kernel_rfl
theorem tyR_28 : tyRow Try.prog 28 = some (64, 5, 64) := by kernel_rfl
theorem tyB_57 : tyParts Try.prog 57 = some ([(0, 1), (1, 1)], [Value.bool false, Value.int IntKind.i64 0]) := by kernel_rfl
theorem tyR_30 : tyRow Try.prog 30 = some (57, 2, 16) := by kernel_rfl
theorem tyZ_30 : tyZero Try.prog 30 = some (Value.slice none 0 0) := by kernel_rfl
theorem tyR_96 : tyRow Try.prog 96 = some (4, 1, 1) := by kernel_rfl
theorem tyE_96 : tyElem Try.prog 96 = (4, 1) := by kernel_rfl
theorem tyS_4 : tySize Try.prog 4 = 1 := by kernel_rfl
theorem tyA_4 : tyAgg Try.prog 4 = false := by kernel_rfl
theorem tyZ_57 : tyZero Try.prog 57 = some (Value.agg #[Value.bool false, Value.int IntKind.i64 0]) := by kernel_rfl
theorem tyF_68_1 : fOff Try.prog 68 1 = some 1 := by kernel_rfl
theorem tyF_66_1 : fOff Try.prog 66 1 = some 1 := by kernel_rfl
theorem tyF_66_2 : fOff Try.prog 66 2 = some 2 := by kernel_rfl
theorem tyA_62 : tyAgg Try.prog 62 = true := by kernel_rfl
theorem tyS_62 : tySize Try.prog 62 = 3 := by kernel_rfl
theorem tyZ_62 : tyZero Try.prog 62 = some (Value.agg #[Value.int IntKind.i64 0, Value.int IntKind.i64 0, Value.slice none 0 0]) := by kernel_rfl
theorem tyF_62_0 : fOff Try.prog 62 0 = some 0 := by kernel_rfl
theorem tyF_62_1 : fOff Try.prog 62 1 = some 1 := by kernel_rfl
theorem tyA_64 : tyAgg Try.prog 64 = true := by kernel_rfl
theorem tyS_64 : tySize Try.prog 64 = 5 := by kernel_rfl
theorem tyZ_64 : tyZero Try.prog 64 = some (Value.agg #[Value.string ByteArray.empty, Value.int IntKind.i64 0, Value.int IntKind.i64 0, Value.slice none 0 0, Value.bool false]) := by kernel_rfl
theorem tyF_64_1 : fOff Try.prog 64 1 = some 1 := by kernel_rfl
theorem tyF_64_2 : fOff Try.prog 64 2 = some 2 := by kernel_rfl
theorem tyF_104_0 : fOff Try.prog 104 0 = some 0 := by kernel_rfl
theorem tyF_104_1 : fOff Try.prog 104 1 = some 1 := by kernel_rfl
theorem tyF_57_0 : fOff Try.prog 57 0 = some 0 := by kernel_rfl
theorem tyF_57_1 : fOff Try.prog 57 1 = some 1 := by kernel_rfl
theorem tyA_92 : tyAgg Try.prog 92 = true := by kernel_rfl
theorem tyS_92 : tySize Try.prog 92 = 7 := by kernel_rfl
theorem tyF_92_0 : fOff Try.prog 92 0 = some 0 := by kernel_rfl
theorem tyF_92_3 : fOff Try.prog 92 3 = some 5 := by kernel_rfl
theorem tyZ_117 : tyZero Try.prog 117 = some (Value.agg #[Value.int IntKind.i64 0, Value.int IntKind.i64 0, Value.slice none 0 0, Value.int IntKind.i64 0]) := by kernel_rfl
theorem tyS_117 : tySize Try.prog 117 = 4 := by kernel_rfl
theorem tyF_117_2 : fOff Try.prog 117 2 = some 2 := by kernel_rfl
theorem tyF_117_3 : fOff Try.prog 117 3 = some 3 := by kernel_rfl
theorem tyF_117_0 : fOff Try.prog 117 0 = some 0 := by kernel_rfl
theorem tyK_96 : tyK Try.prog 96 = TyK.slice := by kernel_rfl
theorem tyB_132 : tyParts Try.prog 132 = some ([(0, 1), (1, 2), (3, 2), (5, 1), (6, 1), (7, 2)], [Value.int IntKind.i64 0, Value.string ByteArray.empty, Value.int IntKind.i64 0, Value.string ByteArray.empty, Value.int IntKind.i64 0, Value.string ByteArray.empty, Value.string ByteArray.empty, Value.int IntKind.i64 0, Value.int IntKind.i64 0]) := by kernel_rfl
theorem tyR_126 : tyRow Try.prog 126 = some (132, 9, 104) := by kernel_rfl
theorem tyF_92_1 : fOff Try.prog 92 1 = some 1 := by kernel_rfl
theorem tyF_90_0 : fOff Try.prog 90 0 = some 0 := by kernel_rfl
theorem tyF_90_1 : fOff Try.prog 90 1 = some 1 := by kernel_rfl
theorem tyF_92_2 : fOff Try.prog 92 2 = some 3 := by kernel_rfl
theorem tyZ_4 : tyZero Try.prog 4 = some (Value.bool false) := by kernel_rfl
theorem tyF_117_1 : fOff Try.prog 117 1 = some 1 := by kernel_rfl
theorem tyK_4 : tyK Try.prog 4 = TyK.bool := by kernel_rfl
theorem tyA_117 : tyAgg Try.prog 117 = true := by kernel_rfl
theorem tyB_117 : tyParts Try.prog 117 = some ([(0, 1), (1, 1), (2, 1), (3, 1)], [Value.int IntKind.i64 0, Value.int IntKind.i64 0, Value.slice none 0 0, Value.int IntKind.i64 0]) := by kernel_rfl
theorem tyA_70 : tyAgg Try.prog 70 = true := by kernel_rfl
theorem tyS_70 : tySize Try.prog 70 = 2 := by kernel_rfl
theorem tyZ_70 : tyZero Try.prog 70 = some (Value.agg #[Value.string ByteArray.empty, Value.int IntKind.i64 0]) := by kernel_rfl
theorem tyE_126 : tyElem Try.prog 126 = (132, 9) := by kernel_rfl
theorem tyK_126 : tyK Try.prog 126 = TyK.slice := by kernel_rfl
theorem tyF_92_4 : fOff Try.prog 92 4 = some 6 := by kernel_rfl
theorem tyA_104 : tyAgg Try.prog 104 = true := by kernel_rfl
theorem tyS_104 : tySize Try.prog 104 = 2 := by kernel_rfl
theorem tyZ_104 : tyZero Try.prog 104 = some (Value.agg #[Value.int IntKind.i64 0, Value.int IntKind.i64 0]) := by kernel_rfl
theorem tyA_48 : tyAgg Try.prog 48 = false := by kernel_rfl
theorem tyS_48 : tySize Try.prog 48 = 1 := by kernel_rfl
theorem tyZ_48 : tyZero Try.prog 48 = some (Value.int IntKind.i64 0) := by kernel_rfl
theorem tyK_148 : tyK Try.prog 148 = TyK.other := by kernel_rfl
theorem tyB_162 : tyParts Try.prog 162 = some ([(0, 5), (5, 1), (6, 1)], [Value.slice none 0 0, Value.int IntKind.i64 0, Value.int IntKind.i64 0, Value.slice none 0 0, Value.slice none 0 0, Value.nilFunc, Value.slice none 0 0]) := by kernel_rfl
theorem tyZ_92 : tyZero Try.prog 92 = some (Value.agg #[Value.int IntKind.i64 0, Value.int IntKind.i64 0, Value.int IntKind.i64 0, Value.int IntKind.i64 0, Value.int IntKind.i64 0, Value.int IntKind.i64 0, Value.int IntKind.i64 0]) := by kernel_rfl
theorem tyA_90 : tyAgg Try.prog 90 = true := by kernel_rfl
theorem tyS_90 : tySize Try.prog 90 = 2 := by kernel_rfl
theorem tyB_166 : tyParts Try.prog 166 = some ([], []) := by kernel_rfl
theorem tyF_132_0 : fOff Try.prog 132 0 = some 0 := by kernel_rfl
theorem tyF_64_4 : fOff Try.prog 64 4 = some 4 := by kernel_rfl
theorem tyK_20 : tyK Try.prog 20 = TyK.other := by kernel_rfl
theorem tyZ_166 : tyZero Try.prog 166 = some (Value.agg #[]) := by kernel_rfl
theorem tyS_166 : tySize Try.prog 166 = 0 := by kernel_rfl
theorem tyF_162_1 : fOff Try.prog 162 1 = some 5 := by kernel_rfl
theorem tyA_148 : tyAgg Try.prog 148 = false := by kernel_rfl
theorem tyS_148 : tySize Try.prog 148 = 1 := by kernel_rfl
theorem tyF_162_0 : fOff Try.prog 162 0 = some 0 := by kernel_rfl
theorem tyF_162_2 : fOff Try.prog 162 2 = some 6 := by kernel_rfl
theorem tyA_160 : tyAgg Try.prog 160 = false := by kernel_rfl
theorem tyS_160 : tySize Try.prog 160 = 1 := by kernel_rfl
theorem tyE_160 : tyElem Try.prog 160 = (20, 1) := by kernel_rfl
theorem tyK_160 : tyK Try.prog 160 = TyK.slice := by kernel_rfl
theorem tyA_20 : tyAgg Try.prog 20 = false := by kernel_rfl
theorem tyS_20 : tySize Try.prog 20 = 1 := by kernel_rfl
theorem tyA_132 : tyAgg Try.prog 132 = true := by kernel_rfl
theorem tyS_132 : tySize Try.prog 132 = 9 := by kernel_rfl
theorem tyZ_132 : tyZero Try.prog 132 = some (Value.agg #[Value.int IntKind.i64 0, Value.string ByteArray.empty, Value.int IntKind.i64 0, Value.string ByteArray.empty, Value.int IntKind.i64 0, Value.string ByteArray.empty, Value.string ByteArray.empty, Value.int IntKind.i64 0, Value.int IntKind.i64 0]) := by kernel_rfl
theorem tyE_176 : tyElem Try.prog 176 = (172, 1) := by kernel_rfl
theorem tyK_176 : tyK Try.prog 176 = TyK.slice := by kernel_rfl
theorem tyA_172 : tyAgg Try.prog 172 = false := by kernel_rfl
theorem tyS_172 : tySize Try.prog 172 = 1 := by kernel_rfl
theorem tyR_160 : tyRow Try.prog 160 = some (20, 1, 16) := by kernel_rfl
theorem tyB_180 : tyParts Try.prog 180 = some ([(0, 1)], [Value.int IntKind.i64 0]) := by kernel_rfl
theorem tyR_176 : tyRow Try.prog 176 = some (172, 1, 16) := by kernel_rfl
theorem tyB_182 : tyParts Try.prog 182 = some ([(0, 1), (1, 1)], [Value.int IntKind.i64 0, Value.nilIface]) := by kernel_rfl
theorem tyB_184 : tyParts Try.prog 184 = some ([(0, 1), (1, 1), (2, 1)], [Value.int IntKind.i64 0, Value.nilIface, Value.nilIface]) := by kernel_rfl
theorem tyZ_2 : tyZero Try.prog 2 = some (Value.int IntKind.i64 0) := by kernel_rfl
theorem tyZ_3 : tyZero Try.prog 3 = some (Value.int IntKind.i64 0) := by kernel_rfl
end Go.Proofs.Ytfocnmkbnccilaa
