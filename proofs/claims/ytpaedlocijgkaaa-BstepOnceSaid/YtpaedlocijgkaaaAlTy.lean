/-
  Facts on the types of this program, each by reckoning. Printed by al.py.
-/
import Derived.Test.YtpaedlocijgkaaaProg
import Derived.Test.YtpaedlocijgkaaaAlJ0
namespace Go.Proofs.Ytpaedlocijgkaaa
open Go.RowKit
theorem tyK_4 : tyK Try.prog 4 = TyK.bool := by kernel_rfl
theorem tyE_24 : tyElem Try.prog 24 = (58, 7) := by kernel_rfl
theorem tyK_24 : tyK Try.prog 24 = TyK.slice := by kernel_rfl
theorem tyK_3 : tyK Try.prog 3 = TyK.int := by kernel_rfl
theorem tyF_28_0 : fOff Try.prog 28 0 = some 0 := by kernel_rfl
theorem tyA_25 : tyAgg Try.prog 25 = false := by kernel_rfl
theorem tyS_25 : tySize Try.prog 25 = 1 := by kernel_rfl
theorem tyE_25 : tyElem Try.prog 25 = (2, 1) := by kernel_rfl
theorem tyK_25 : tyK Try.prog 25 = TyK.slice := by kernel_rfl
theorem tyA_28 : tyAgg Try.prog 28 = true := by kernel_rfl
theorem tyS_28 : tySize Try.prog 28 = 5 := by kernel_rfl
theorem tyK_29 : tyK Try.prog 29 = TyK.int := by kernel_rfl
theorem tyA_43 : tyAgg Try.prog 43 = true := by kernel_rfl
theorem tyS_43 : tySize Try.prog 43 = 10 := by kernel_rfl
theorem tyZ_28 : tyZero Try.prog 28 = some (Value.agg #[Value.slice none 0 0, Value.int IntKind.i64 0, Value.int IntKind.i64 0, Value.slice none 0 0, Value.slice none 0 0]) := by kernel_rfl
theorem tyF_28_3 : fOff Try.prog 28 3 = some 3 := by kernel_rfl
theorem tyA_26 : tyAgg Try.prog 26 = false := by kernel_rfl
theorem tyS_26 : tySize Try.prog 26 = 1 := by kernel_rfl
theorem tyF_28_4 : fOff Try.prog 28 4 = some 4 := by kernel_rfl
theorem tyF_43_7 : fOff Try.prog 43 7 = some 7 := by kernel_rfl
theorem tyA_39 : tyAgg Try.prog 39 = false := by kernel_rfl
theorem tyS_39 : tySize Try.prog 39 = 1 := by kernel_rfl
theorem tyE_39 : tyElem Try.prog 39 = (52, 5) := by kernel_rfl
theorem tyK_39 : tyK Try.prog 39 = TyK.slice := by kernel_rfl
theorem tyF_52_1 : fOff Try.prog 52 1 = some 1 := by kernel_rfl
theorem tyA_3 : tyAgg Try.prog 3 = false := by kernel_rfl
theorem tyS_3 : tySize Try.prog 3 = 1 := by kernel_rfl
theorem tyF_28_2 : fOff Try.prog 28 2 = some 2 := by kernel_rfl
theorem tyF_28_1 : fOff Try.prog 28 1 = some 1 := by kernel_rfl
theorem tyK_2 : tyK Try.prog 2 = TyK.int := by kernel_rfl
theorem tyB_56 : tyParts Try.prog 56 = some ([(0, 1), (1, 1)], [Value.int IntKind.i64 0, Value.int IntKind.i64 0]) := by kernel_rfl
theorem tyB_58 : tyParts Try.prog 58 = some ([(0, 1), (1, 2), (3, 2), (5, 1), (6, 1)], [Value.int IntKind.i64 0, Value.int IntKind.i64 0, Value.int IntKind.i64 0, Value.int IntKind.i64 0, Value.int IntKind.i64 0, Value.int IntKind.i64 0, Value.int IntKind.i64 0]) := by kernel_rfl
theorem tyR_24 : tyRow Try.prog 24 = some (58, 7, 56) := by kernel_rfl
theorem tyR_25 : tyRow Try.prog 25 = some (2, 1, 8) := by kernel_rfl
theorem tyB_28 : tyParts Try.prog 28 = some ([(0, 1), (1, 1), (2, 1), (3, 1), (4, 1)], [Value.slice none 0 0, Value.int IntKind.i64 0, Value.int IntKind.i64 0, Value.slice none 0 0, Value.slice none 0 0]) := by kernel_rfl
theorem tyF_43_6 : fOff Try.prog 43 6 = some 6 := by kernel_rfl
theorem tyA_38 : tyAgg Try.prog 38 = false := by kernel_rfl
theorem tyS_38 : tySize Try.prog 38 = 1 := by kernel_rfl
theorem tyE_38 : tyElem Try.prog 38 = (63, 3) := by kernel_rfl
theorem tyK_38 : tyK Try.prog 38 = TyK.slice := by kernel_rfl
theorem tyF_43_4 : fOff Try.prog 43 4 = some 4 := by kernel_rfl
theorem tyA_36 : tyAgg Try.prog 36 = false := by kernel_rfl
theorem tyS_36 : tySize Try.prog 36 = 1 := by kernel_rfl
theorem tyE_36 : tyElem Try.prog 36 = (67, 2) := by kernel_rfl
theorem tyK_36 : tyK Try.prog 36 = TyK.slice := by kernel_rfl
theorem tyF_43_5 : fOff Try.prog 43 5 = some 5 := by kernel_rfl
theorem tyA_37 : tyAgg Try.prog 37 = false := by kernel_rfl
theorem tyS_37 : tySize Try.prog 37 = 1 := by kernel_rfl
theorem tyE_37 : tyElem Try.prog 37 = (65, 5) := by kernel_rfl
theorem tyK_37 : tyK Try.prog 37 = TyK.slice := by kernel_rfl
theorem tyF_43_0 : fOff Try.prog 43 0 = some 0 := by kernel_rfl
theorem tyA_34 : tyAgg Try.prog 34 = false := by kernel_rfl
theorem tyS_34 : tySize Try.prog 34 = 1 := by kernel_rfl
theorem tyE_34 : tyElem Try.prog 34 = (9, 1) := by kernel_rfl
theorem tyK_34 : tyK Try.prog 34 = TyK.slice := by kernel_rfl
theorem tyF_43_2 : fOff Try.prog 43 2 = some 2 := by kernel_rfl
theorem tyF_43_3 : fOff Try.prog 43 3 = some 3 := by kernel_rfl
theorem tyA_35 : tyAgg Try.prog 35 = false := by kernel_rfl
theorem tyS_35 : tySize Try.prog 35 = 1 := by kernel_rfl
theorem tyE_35 : tyElem Try.prog 35 = (100, 2) := by kernel_rfl
theorem tyK_35 : tyK Try.prog 35 = TyK.slice := by kernel_rfl
theorem tyF_43_8 : fOff Try.prog 43 8 = some 8 := by kernel_rfl
theorem tyA_40 : tyAgg Try.prog 40 = false := by kernel_rfl
theorem tyS_40 : tySize Try.prog 40 = 1 := by kernel_rfl
theorem tyE_40 : tyElem Try.prog 40 = (105, 2) := by kernel_rfl
theorem tyK_40 : tyK Try.prog 40 = TyK.slice := by kernel_rfl
theorem tyF_43_9 : fOff Try.prog 43 9 = some 9 := by kernel_rfl
theorem tyA_41 : tyAgg Try.prog 41 = false := by kernel_rfl
theorem tyS_41 : tySize Try.prog 41 = 1 := by kernel_rfl
theorem tyE_41 : tyElem Try.prog 41 = (69, 2) := by kernel_rfl
theorem tyK_41 : tyK Try.prog 41 = TyK.slice := by kernel_rfl
theorem tyF_43_1 : fOff Try.prog 43 1 = some 1 := by kernel_rfl
theorem tyF_63_2 : fOff Try.prog 63 2 = some 2 := by kernel_rfl
theorem tyA_24 : tyAgg Try.prog 24 = false := by kernel_rfl
theorem tyS_24 : tySize Try.prog 24 = 1 := by kernel_rfl
theorem tyF_52_3 : fOff Try.prog 52 3 = some 3 := by kernel_rfl
theorem tyF_65_3 : fOff Try.prog 65 3 = some 3 := by kernel_rfl
theorem tyE_26 : tyElem Try.prog 26 = (3, 1) := by kernel_rfl
theorem tyK_26 : tyK Try.prog 26 = TyK.slice := by kernel_rfl
theorem tyB_67 : tyParts Try.prog 67 = some ([(0, 1), (1, 1)], [Value.string ByteArray.empty, Value.int IntKind.i64 0]) := by kernel_rfl
theorem tyR_36 : tyRow Try.prog 36 = some (67, 2, 24) := by kernel_rfl
theorem tyB_63 : tyParts Try.prog 63 = some ([(0, 1), (1, 1), (2, 1)], [Value.int IntKind.i64 0, Value.int IntKind.i64 0, Value.slice none 0 0]) := by kernel_rfl
theorem tyR_38 : tyRow Try.prog 38 = some (63, 3, 40) := by kernel_rfl
theorem tyB_69 : tyParts Try.prog 69 = some ([(0, 1), (1, 1)], [Value.bool false, Value.int IntKind.i64 0]) := by kernel_rfl
theorem tyR_41 : tyRow Try.prog 41 = some (69, 2, 16) := by kernel_rfl
theorem tyB_43 : tyParts Try.prog 43 = some ([(0, 1), (1, 1), (2, 1), (3, 1), (4, 1), (5, 1), (6, 1), (7, 1), (8, 1), (9, 1)], [Value.slice none 0 0, Value.slice none 0 0, Value.slice none 0 0, Value.slice none 0 0, Value.slice none 0 0, Value.slice none 0 0, Value.slice none 0 0, Value.slice none 0 0, Value.slice none 0 0, Value.slice none 0 0]) := by kernel_rfl
theorem tyZ_43 : tyZero Try.prog 43 = some (Value.agg #[Value.slice none 0 0, Value.slice none 0 0, Value.slice none 0 0, Value.slice none 0 0, Value.slice none 0 0, Value.slice none 0 0, Value.slice none 0 0, Value.slice none 0 0, Value.slice none 0 0, Value.slice none 0 0]) := by kernel_rfl
theorem tyT_28_1 : fTyp Try.prog 28 1 = 3 := by kernel_rfl
theorem tyA_69 : tyAgg Try.prog 69 = true := by kernel_rfl
theorem tyS_69 : tySize Try.prog 69 = 2 := by kernel_rfl
theorem tyZ_69 : tyZero Try.prog 69 = some (Value.agg #[Value.bool false, Value.int IntKind.i64 0]) := by kernel_rfl
theorem tyA_2 : tyAgg Try.prog 2 = false := by kernel_rfl
theorem tyS_2 : tySize Try.prog 2 = 1 := by kernel_rfl
theorem tyF_67_1 : fOff Try.prog 67 1 = some 1 := by kernel_rfl
theorem tyA_4 : tyAgg Try.prog 4 = false := by kernel_rfl
theorem tyS_4 : tySize Try.prog 4 = 1 := by kernel_rfl
theorem tyA_29 : tyAgg Try.prog 29 = false := by kernel_rfl
theorem tyS_29 : tySize Try.prog 29 = 1 := by kernel_rfl
theorem tyZ_4 : tyZero Try.prog 4 = some (Value.bool false) := by kernel_rfl
theorem tyZ_29 : tyZero Try.prog 29 = some (Value.int IntKind.i64 0) := by kernel_rfl
theorem tyK_61 : tyK Try.prog 61 = TyK.other := by kernel_rfl
theorem tyB_89 : tyParts Try.prog 89 = some ([(0, 5), (5, 1), (6, 1)], [Value.slice none 0 0, Value.int IntKind.i64 0, Value.int IntKind.i64 0, Value.slice none 0 0, Value.slice none 0 0, Value.nilFunc, Value.slice none 0 0]) := by kernel_rfl
theorem tyA_58 : tyAgg Try.prog 58 = true := by kernel_rfl
theorem tyS_58 : tySize Try.prog 58 = 7 := by kernel_rfl
theorem tyZ_58 : tyZero Try.prog 58 = some (Value.agg #[Value.int IntKind.i64 0, Value.int IntKind.i64 0, Value.int IntKind.i64 0, Value.int IntKind.i64 0, Value.int IntKind.i64 0, Value.int IntKind.i64 0, Value.int IntKind.i64 0]) := by kernel_rfl
theorem tyA_56 : tyAgg Try.prog 56 = true := by kernel_rfl
theorem tyS_56 : tySize Try.prog 56 = 2 := by kernel_rfl
theorem tyF_56_0 : fOff Try.prog 56 0 = some 0 := by kernel_rfl
theorem tyF_56_1 : fOff Try.prog 56 1 = some 1 := by kernel_rfl
theorem tyB_92 : tyParts Try.prog 92 = some ([], []) := by kernel_rfl
theorem tyZ_94 : tyZero Try.prog 94 = some (Value.agg #[Value.int IntKind.i64 0, Value.int IntKind.i64 0, Value.slice none 0 0, Value.int IntKind.i64 0]) := by kernel_rfl
theorem tyS_94 : tySize Try.prog 94 = 4 := by kernel_rfl
theorem tyF_94_2 : fOff Try.prog 94 2 = some 2 := by kernel_rfl
theorem tyF_69_0 : fOff Try.prog 69 0 = some 0 := by kernel_rfl
theorem tyF_94_3 : fOff Try.prog 94 3 = some 3 := by kernel_rfl
theorem tyF_94_0 : fOff Try.prog 94 0 = some 0 := by kernel_rfl
theorem tyR_26 : tyRow Try.prog 26 = some (3, 1, 8) := by kernel_rfl
theorem tyA_52 : tyAgg Try.prog 52 = true := by kernel_rfl
theorem tyS_52 : tySize Try.prog 52 = 5 := by kernel_rfl
theorem tyZ_52 : tyZero Try.prog 52 = some (Value.agg #[Value.string ByteArray.empty, Value.int IntKind.i64 0, Value.int IntKind.i64 0, Value.slice none 0 0, Value.bool false]) := by kernel_rfl
theorem tyF_100_1 : fOff Try.prog 100 1 = some 1 := by kernel_rfl
theorem tyA_65 : tyAgg Try.prog 65 = true := by kernel_rfl
theorem tyS_65 : tySize Try.prog 65 = 5 := by kernel_rfl
theorem tyZ_65 : tyZero Try.prog 65 = some (Value.agg #[Value.string ByteArray.empty, Value.int IntKind.i64 0, Value.int IntKind.i64 0, Value.slice none 0 0, Value.int IntKind.i64 0]) := by kernel_rfl
theorem tyF_65_1 : fOff Try.prog 65 1 = some 1 := by kernel_rfl
theorem tyF_65_2 : fOff Try.prog 65 2 = some 2 := by kernel_rfl
theorem tyA_63 : tyAgg Try.prog 63 = true := by kernel_rfl
theorem tyS_63 : tySize Try.prog 63 = 3 := by kernel_rfl
theorem tyZ_63 : tyZero Try.prog 63 = some (Value.agg #[Value.int IntKind.i64 0, Value.int IntKind.i64 0, Value.slice none 0 0]) := by kernel_rfl
theorem tyF_63_0 : fOff Try.prog 63 0 = some 0 := by kernel_rfl
theorem tyF_63_1 : fOff Try.prog 63 1 = some 1 := by kernel_rfl
theorem tyF_52_2 : fOff Try.prog 52 2 = some 2 := by kernel_rfl
theorem tyF_105_0 : fOff Try.prog 105 0 = some 0 := by kernel_rfl
theorem tyF_105_1 : fOff Try.prog 105 1 = some 1 := by kernel_rfl
theorem tyF_65_4 : fOff Try.prog 65 4 = some 4 := by kernel_rfl
theorem tyR_110 : tyRow Try.prog 110 = some (4, 1, 1) := by kernel_rfl
theorem tyE_110 : tyElem Try.prog 110 = (4, 1) := by kernel_rfl
theorem tyK_69 : tyK Try.prog 69 = TyK.other := by kernel_rfl
theorem tyK_20 : tyK Try.prog 20 = TyK.other := by kernel_rfl
theorem tyZ_92 : tyZero Try.prog 92 = some (Value.agg #[]) := by kernel_rfl
theorem tyS_92 : tySize Try.prog 92 = 0 := by kernel_rfl
theorem tyF_58_0 : fOff Try.prog 58 0 = some 0 := by kernel_rfl
theorem tyB_123 : tyParts Try.prog 123 = some ([(0, 1), (1, 2), (3, 2), (5, 1), (6, 1), (7, 2)], [Value.int IntKind.i64 0, Value.string ByteArray.empty, Value.int IntKind.i64 0, Value.string ByteArray.empty, Value.int IntKind.i64 0, Value.string ByteArray.empty, Value.string ByteArray.empty, Value.int IntKind.i64 0, Value.int IntKind.i64 0]) := by kernel_rfl
theorem tyR_84 : tyRow Try.prog 84 = some (123, 9, 104) := by kernel_rfl
theorem tyF_89_1 : fOff Try.prog 89 1 = some 5 := by kernel_rfl
theorem tyA_61 : tyAgg Try.prog 61 = false := by kernel_rfl
theorem tyS_61 : tySize Try.prog 61 = 1 := by kernel_rfl
theorem tyF_58_1 : fOff Try.prog 58 1 = some 1 := by kernel_rfl
theorem tyF_58_2 : fOff Try.prog 58 2 = some 3 := by kernel_rfl
theorem tyF_89_0 : fOff Try.prog 89 0 = some 0 := by kernel_rfl
theorem tyF_58_3 : fOff Try.prog 58 3 = some 5 := by kernel_rfl
theorem tyF_89_2 : fOff Try.prog 89 2 = some 6 := by kernel_rfl
theorem tyA_87 : tyAgg Try.prog 87 = false := by kernel_rfl
theorem tyS_87 : tySize Try.prog 87 = 1 := by kernel_rfl
theorem tyE_87 : tyElem Try.prog 87 = (20, 1) := by kernel_rfl
theorem tyK_87 : tyK Try.prog 87 = TyK.slice := by kernel_rfl
theorem tyA_20 : tyAgg Try.prog 20 = false := by kernel_rfl
theorem tyS_20 : tySize Try.prog 20 = 1 := by kernel_rfl
theorem tyF_94_1 : fOff Try.prog 94 1 = some 1 := by kernel_rfl
theorem tyA_94 : tyAgg Try.prog 94 = true := by kernel_rfl
theorem tyF_69_1 : fOff Try.prog 69 1 = some 1 := by kernel_rfl
theorem tyB_94 : tyParts Try.prog 94 = some ([(0, 1), (1, 1), (2, 1), (3, 1)], [Value.int IntKind.i64 0, Value.int IntKind.i64 0, Value.slice none 0 0, Value.int IntKind.i64 0]) := by kernel_rfl
theorem tyA_67 : tyAgg Try.prog 67 = true := by kernel_rfl
theorem tyS_67 : tySize Try.prog 67 = 2 := by kernel_rfl
theorem tyZ_67 : tyZero Try.prog 67 = some (Value.agg #[Value.string ByteArray.empty, Value.int IntKind.i64 0]) := by kernel_rfl
theorem tyE_84 : tyElem Try.prog 84 = (123, 9) := by kernel_rfl
theorem tyK_84 : tyK Try.prog 84 = TyK.slice := by kernel_rfl
theorem tyA_123 : tyAgg Try.prog 123 = true := by kernel_rfl
theorem tyS_123 : tySize Try.prog 123 = 9 := by kernel_rfl
theorem tyZ_123 : tyZero Try.prog 123 = some (Value.agg #[Value.int IntKind.i64 0, Value.string ByteArray.empty, Value.int IntKind.i64 0, Value.string ByteArray.empty, Value.int IntKind.i64 0, Value.string ByteArray.empty, Value.string ByteArray.empty, Value.int IntKind.i64 0, Value.int IntKind.i64 0]) := by kernel_rfl
theorem tyF_123_0 : fOff Try.prog 123 0 = some 0 := by kernel_rfl
theorem tyE_132 : tyElem Try.prog 132 = (115, 1) := by kernel_rfl
theorem tyK_132 : tyK Try.prog 132 = TyK.slice := by kernel_rfl
theorem tyA_115 : tyAgg Try.prog 115 = false := by kernel_rfl
theorem tyS_115 : tySize Try.prog 115 = 1 := by kernel_rfl
theorem tyR_87 : tyRow Try.prog 87 = some (20, 1, 16) := by kernel_rfl
theorem tyF_58_4 : fOff Try.prog 58 4 = some 6 := by kernel_rfl
theorem tyB_140 : tyParts Try.prog 140 = some ([(0, 1)], [Value.int IntKind.i64 0]) := by kernel_rfl
theorem tyR_132 : tyRow Try.prog 132 = some (115, 1, 16) := by kernel_rfl
theorem tyB_142 : tyParts Try.prog 142 = some ([(0, 1), (1, 1)], [Value.int IntKind.i64 0, Value.nilIface]) := by kernel_rfl
theorem tyB_144 : tyParts Try.prog 144 = some ([(0, 1), (1, 1), (2, 1)], [Value.int IntKind.i64 0, Value.nilIface, Value.nilIface]) := by kernel_rfl
end Go.Proofs.Ytpaedlocijgkaaa
