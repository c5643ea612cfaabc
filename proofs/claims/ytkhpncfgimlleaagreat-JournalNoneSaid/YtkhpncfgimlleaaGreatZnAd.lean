/- Texts of this claim, merged by program: Facts. -/
import Derived.Test.YtkhpncfgimlleaaGreatZnAc
import Derived.Test.YtkhpncfgimlleaaGreatRows
import Derived.KernelRfl
set_option linter.unusedSimpArgs false
set_option linter.unusedVariables false
namespace Go.Proofs
open Go Go.Ev
@[push_cast] theorem Tryz.ty3 : tyI Tryz.prog 3 = some (1, false) := by kernel_rfl
@[push_cast] theorem Tryz.zl3 : zeroL Tryz.prog 3 = some [.int .i64 0] := by kernel_rfl
@[push_cast] theorem Tryz.in3 : intI Tryz.prog 3 = some .i64 := by kernel_rfl
@[push_cast] theorem Tryz.st3 : isStr Tryz.prog 3 = false := by kernel_rfl
@[push_cast] theorem Tryz.by3 : isBytes Tryz.prog 3 = false := by kernel_rfl
@[push_cast] theorem Tryz.ty4 : tyI Tryz.prog 4 = some (1, false) := by kernel_rfl
@[push_cast] theorem Tryz.ty5 : tyI Tryz.prog 5 = some (1, false) := by kernel_rfl
@[push_cast] theorem Tryz.in5 : intI Tryz.prog 5 = some .u8 := by kernel_rfl
@[push_cast] theorem Tryz.st5 : isStr Tryz.prog 5 = false := by kernel_rfl
@[push_cast] theorem Tryz.by5 : isBytes Tryz.prog 5 = false := by kernel_rfl
@[push_cast] theorem Tryz.ty9 : tyI Tryz.prog 9 = some (1, false) := by kernel_rfl
@[push_cast] theorem Tryz.zl9 : zeroL Tryz.prog 9 = some [.string ByteArray.empty] := by kernel_rfl
@[push_cast] theorem Tryz.st9 : isStr Tryz.prog 9 = true := by kernel_rfl
@[push_cast] theorem Tryz.el22 : elemI Tryz.prog 22 = some (none, 4, true) := by kernel_rfl
@[push_cast] theorem Tryz.el23 : elemI Tryz.prog 23 = some (none, 5, true) := by kernel_rfl
@[push_cast] theorem Tryz.ty26 : tyI Tryz.prog 26 = some (20, true) := by kernel_rfl
@[push_cast] theorem Tryz.zl26 : zeroL Tryz.prog 26 = some [.int .u8 0, .int .u8 0, .int .u8 0, .int .u8 0, .int .u8 0, .int .u8 0, .int .u8 0, .int .u8 0, .int .u8 0, .int .u8 0, .int .u8 0, .int .u8 0, .int .u8 0, .int .u8 0, .int .u8 0, .int .u8 0, .int .u8 0, .int .u8 0, .int .u8 0, .int .u8 0] := by kernel_rfl
@[push_cast] theorem Tryz.el26 : elemI Tryz.prog 26 = some (some 20, 1, false) := by kernel_rfl
@[push_cast] theorem Tryz.st26 : isStr Tryz.prog 26 = false := by kernel_rfl
@[push_cast] theorem Tryz.pl26_0 : placeOf Tryz.prog 26 0 = some (0, 1) := by kernel_rfl
@[push_cast] theorem Tryz.fo26 : fieldsOk Tryz.prog 26 = true := by kernel_rfl
@[push_cast] theorem Tryz.ty27 : tyI Tryz.prog 27 = some (1, false) := by kernel_rfl
@[push_cast] theorem Tryz.zl27 : zeroL Tryz.prog 27 = some [.int .u64 0] := by kernel_rfl
@[push_cast] theorem Tryz.in27 : intI Tryz.prog 27 = some .u64 := by kernel_rfl
@[push_cast] theorem Tryz.st27 : isStr Tryz.prog 27 = false := by kernel_rfl
@[push_cast] theorem Tryz.by27 : isBytes Tryz.prog 27 = false := by kernel_rfl
@[push_cast] theorem Tryz.ty29 : tyI Tryz.prog 29 = some (4, true) := by kernel_rfl
@[push_cast] theorem Tryz.zl29 : zeroL Tryz.prog 29 = some [.int .u64 0, .int .u64 0, .int .u64 0, .int .u64 0] := by kernel_rfl
@[push_cast] theorem Tryz.el29 : elemI Tryz.prog 29 = some (some 4, 1, false) := by kernel_rfl
@[push_cast] theorem Tryz.st29 : isStr Tryz.prog 29 = false := by kernel_rfl
@[push_cast] theorem Tryz.pl29_0 : placeOf Tryz.prog 29 0 = some (0, 1) := by kernel_rfl
@[push_cast] theorem Tryz.fo29 : fieldsOk Tryz.prog 29 = true := by kernel_rfl
@[push_cast] theorem Tryz.fk29 : flatK Tryz.prog 12 29 = some [.i, .i, .i, .i] := by kernel_rfl
@[push_cast] theorem Tryz.eg29 : Program.eqGuardType Tryz.prog (Program.depth Tryz.prog) 29 = false := by kernel_rfl
@[push_cast] theorem Tryz.ty31 : tyI Tryz.prog 31 = some (31, true) := by kernel_rfl
@[push_cast] theorem Tryz.zl31 : zeroL Tryz.prog 31 = some [.int .i64 0, .int .u8 0, .int .u8 0, .int .u8 0, .int .u8 0, .int .u8 0, .int .u8 0, .int .u8 0, .int .u8 0, .int .u8 0, .int .u8 0, .int .u8 0, .int .u8 0, .int .u8 0, .int .u8 0, .int .u8 0, .int .u8 0, .int .u8 0, .int .u8 0, .int .u8 0, .int .u8 0, .int .u64 0, .int .u64 0, .int .u64 0, .int .u64 0, .int .u64 0, .int .u64 0, .int .u64 0, .int .u64 0, .int .i64 0, .string ByteArray.empty] := by kernel_rfl
@[push_cast] theorem Tryz.fi31_0 : fieldI Tryz.prog 31 0 = some (0, 1, false) := by kernel_rfl
@[push_cast] theorem Tryz.pl31_0 : placeOf Tryz.prog 31 0 = some (0, 1) := by kernel_rfl
@[push_cast] theorem Tryz.fi31_1 : fieldI Tryz.prog 31 1 = some (1, 20, true) := by kernel_rfl
@[push_cast] theorem Tryz.pl31_1 : placeOf Tryz.prog 31 1 = some (1, 20) := by kernel_rfl
@[push_cast] theorem Tryz.fi31_2 : fieldI Tryz.prog 31 2 = some (21, 4, true) := by kernel_rfl
@[push_cast] theorem Tryz.fi31_3 : fieldI Tryz.prog 31 3 = some (25, 4, true) := by kernel_rfl
@[push_cast] theorem Tryz.pl31_3 : placeOf Tryz.prog 31 3 = some (25, 4) := by kernel_rfl
@[push_cast] theorem Tryz.fi31_4 : fieldI Tryz.prog 31 4 = some (29, 1, false) := by kernel_rfl
@[push_cast] theorem Tryz.pl31_4 : placeOf Tryz.prog 31 4 = some (29, 1) := by kernel_rfl
@[push_cast] theorem Tryz.fi31_5 : fieldI Tryz.prog 31 5 = some (30, 1, false) := by kernel_rfl
@[push_cast] theorem Tryz.fo31 : fieldsOk Tryz.prog 31 = true := by kernel_rfl
@[push_cast] theorem Tryz.ty33 : tyI Tryz.prog 33 = some (1, false) := by kernel_rfl
@[push_cast] theorem Tryz.zl33 : zeroL Tryz.prog 33 = some [.slice none 0 0] := by kernel_rfl
@[push_cast] theorem Tryz.el33 : elemI Tryz.prog 33 = some (none, 27, true) := by kernel_rfl
@[push_cast] theorem Tryz.sl33 : slI Tryz.prog 33 = some (44, 27, 104) := by kernel_rfl
attribute [push_cast] Tryz.underlying33
@[push_cast] theorem Tryz.in33 : intI Tryz.prog 33 = none := by kernel_rfl
@[push_cast] theorem Tryz.st33 : isStr Tryz.prog 33 = false := by kernel_rfl
@[push_cast] theorem Tryz.ty34 : tyI Tryz.prog 34 = some (1, false) := by kernel_rfl
@[push_cast] theorem Tryz.el34 : elemI Tryz.prog 34 = some (none, 31, true) := by kernel_rfl
@[push_cast] theorem Tryz.sl34 : slI Tryz.prog 34 = some (31, 31, 120) := by kernel_rfl
attribute [push_cast] Tryz.underlying34
@[push_cast] theorem Tryz.in34 : intI Tryz.prog 34 = none := by kernel_rfl
@[push_cast] theorem Tryz.st34 : isStr Tryz.prog 34 = false := by kernel_rfl
@[push_cast] theorem Tryz.ty35 : tyI Tryz.prog 35 = some (1, false) := by kernel_rfl
@[push_cast] theorem Tryz.el35 : elemI Tryz.prog 35 = some (none, 1, false) := by kernel_rfl
@[push_cast] theorem Tryz.sl35 : slI Tryz.prog 35 = some (3, 1, 8) := by kernel_rfl
attribute [push_cast] Tryz.underlying35
@[push_cast] theorem Tryz.in35 : intI Tryz.prog 35 = none := by kernel_rfl
@[push_cast] theorem Tryz.st35 : isStr Tryz.prog 35 = false := by kernel_rfl
@[push_cast] theorem Tryz.ty37 : tyI Tryz.prog 37 = some (3, true) := by kernel_rfl
@[push_cast] theorem Tryz.zl37 : zeroL Tryz.prog 37 = some [.slice none 0 0, .slice none 0 0, .slice none 0 0] := by kernel_rfl
@[push_cast] theorem Tryz.fi37_0 : fieldI Tryz.prog 37 0 = some (0, 1, false) := by kernel_rfl
@[push_cast] theorem Tryz.pl37_0 : placeOf Tryz.prog 37 0 = some (0, 1) := by kernel_rfl
@[push_cast] theorem Tryz.fi37_1 : fieldI Tryz.prog 37 1 = some (1, 1, false) := by kernel_rfl
@[push_cast] theorem Tryz.pl37_1 : placeOf Tryz.prog 37 1 = some (1, 1) := by kernel_rfl
@[push_cast] theorem Tryz.fi37_2 : fieldI Tryz.prog 37 2 = some (2, 1, false) := by kernel_rfl
@[push_cast] theorem Tryz.pl37_2 : placeOf Tryz.prog 37 2 = some (2, 1) := by kernel_rfl
@[push_cast] theorem Tryz.fo37 : fieldsOk Tryz.prog 37 = true := by kernel_rfl
@[push_cast] theorem Tryz.ty42 : tyI Tryz.prog 42 = some (1, false) := by kernel_rfl
@[push_cast] theorem Tryz.zl42 : zeroL Tryz.prog 42 = some [.slice none 0 0] := by kernel_rfl
@[push_cast] theorem Tryz.el42 : elemI Tryz.prog 42 = some (none, 8, true) := by kernel_rfl
@[push_cast] theorem Tryz.sl42 : slI Tryz.prog 42 = some (84, 8, 64) := by kernel_rfl
attribute [push_cast] Tryz.underlying42
@[push_cast] theorem Tryz.in42 : intI Tryz.prog 42 = none := by kernel_rfl
@[push_cast] theorem Tryz.ty44 : tyI Tryz.prog 44 = some (27, true) := by kernel_rfl
@[push_cast] theorem Tryz.zl44 : zeroL Tryz.prog 44 = some [.int .u8 0, .int .u8 0, .int .u8 0, .int .u8 0, .int .u8 0, .int .u8 0, .int .u8 0, .int .u8 0, .int .u8 0, .int .u8 0, .int .u8 0, .int .u8 0, .int .u8 0, .int .u8 0, .int .u8 0, .int .u8 0, .int .u8 0, .int .u8 0, .int .u8 0, .int .u8 0, .int .u64 0, .int .u64 0, .int .u64 0, .int .u64 0, .int .i64 0, .string ByteArray.empty, .slice none 0 0] := by kernel_rfl
@[push_cast] theorem Tryz.fi44_0 : fieldI Tryz.prog 44 0 = some (0, 20, true) := by kernel_rfl
@[push_cast] theorem Tryz.pl44_0 : placeOf Tryz.prog 44 0 = some (0, 20) := by kernel_rfl
@[push_cast] theorem Tryz.fi44_1 : fieldI Tryz.prog 44 1 = some (20, 4, true) := by kernel_rfl
@[push_cast] theorem Tryz.fi44_2 : fieldI Tryz.prog 44 2 = some (24, 1, false) := by kernel_rfl
@[push_cast] theorem Tryz.fi44_3 : fieldI Tryz.prog 44 3 = some (25, 1, false) := by kernel_rfl
@[push_cast] theorem Tryz.fi44_4 : fieldI Tryz.prog 44 4 = some (26, 1, false) := by kernel_rfl
@[push_cast] theorem Tryz.fo44 : fieldsOk Tryz.prog 44 = true := by kernel_rfl
@[push_cast] theorem Tryz.ty46 : tyI Tryz.prog 46 = some (4, true) := by kernel_rfl
@[push_cast] theorem Tryz.zl46 : zeroL Tryz.prog 46 = some [.int .i64 0, .int .i64 0, .int .i64 0, .int .i64 0] := by kernel_rfl
@[push_cast] theorem Tryz.el46 : elemI Tryz.prog 46 = some (some 4, 1, false) := by kernel_rfl
@[push_cast] theorem Tryz.pl46_0 : placeOf Tryz.prog 46 0 = some (0, 1) := by kernel_rfl
@[push_cast] theorem Tryz.pl46_1 : placeOf Tryz.prog 46 1 = some (1, 1) := by kernel_rfl
@[push_cast] theorem Tryz.pl46_2 : placeOf Tryz.prog 46 2 = some (2, 1) := by kernel_rfl
@[push_cast] theorem Tryz.pl46_3 : placeOf Tryz.prog 46 3 = some (3, 1) := by kernel_rfl
@[push_cast] theorem Tryz.fo46 : fieldsOk Tryz.prog 46 = true := by kernel_rfl
@[push_cast] theorem Tryz.ty47 : tyI Tryz.prog 47 = some (1, false) := by kernel_rfl
@[push_cast] theorem Tryz.zl47 : zeroL Tryz.prog 47 = some [.int .i64 0] := by kernel_rfl
@[push_cast] theorem Tryz.ty60 : tyI Tryz.prog 60 = some (5, true) := by kernel_rfl
@[push_cast] theorem Tryz.el60 : elemI Tryz.prog 60 = some (some 5, 1, false) := by kernel_rfl
@[push_cast] theorem Tryz.el69 : elemI Tryz.prog 69 = some (none, 1, false) := by kernel_rfl
@[push_cast] theorem Tryz.sl69 : slI Tryz.prog 69 = some (9, 1, 16) := by kernel_rfl
@[push_cast] theorem Tryz.ty84 : tyI Tryz.prog 84 = some (8, true) := by kernel_rfl
@[push_cast] theorem Tryz.zl84 : zeroL Tryz.prog 84 = some [.int .u64 0, .int .u64 0, .int .u64 0, .int .u64 0, .int .u64 0, .int .u64 0, .int .u64 0, .int .u64 0] := by kernel_rfl
@[push_cast] theorem Tryz.fi84_0 : fieldI Tryz.prog 84 0 = some (0, 4, true) := by kernel_rfl
@[push_cast] theorem Tryz.pl84_0 : placeOf Tryz.prog 84 0 = some (0, 4) := by kernel_rfl
@[push_cast] theorem Tryz.fi84_1 : fieldI Tryz.prog 84 1 = some (4, 4, true) := by kernel_rfl
@[push_cast] theorem Tryz.pl84_1 : placeOf Tryz.prog 84 1 = some (4, 4) := by kernel_rfl
@[push_cast] theorem Tryz.fo84 : fieldsOk Tryz.prog 84 = true := by kernel_rfl
@[push_cast] theorem Tryz.fk84 : flatK Tryz.prog 12 84 = some [.i, .i, .i, .i, .i, .i, .i, .i] := by kernel_rfl
@[push_cast] theorem Tryz.eg84 : Program.eqGuardType Tryz.prog (Program.depth Tryz.prog) 84 = false := by kernel_rfl
@[push_cast] theorem Tryz.ty90 : tyI Tryz.prog 90 = some (1, false) := by kernel_rfl
@[push_cast] theorem Tryz.el90 : elemI Tryz.prog 90 = some (none, 31, true) := by kernel_rfl
@[push_cast] theorem Tryz.in117 : intI Tryz.prog 117 = some .u64 := by kernel_rfl
@[push_cast] theorem Tryz.st117 : isStr Tryz.prog 117 = false := by kernel_rfl
@[push_cast] theorem Tryz.by117 : isBytes Tryz.prog 117 = false := by kernel_rfl
@[push_cast] theorem Tryz.ty120 : tyI Tryz.prog 120 = some (1, false) := by kernel_rfl
@[push_cast] theorem Tryz.el120 : elemI Tryz.prog 120 = some (none, 8, true) := by kernel_rfl
@[push_cast] theorem Tryz.sl120 : slI Tryz.prog 120 = some (132, 8, 64) := by kernel_rfl
@[push_cast] theorem Tryz.in120 : intI Tryz.prog 120 = none := by kernel_rfl
@[push_cast] theorem Tryz.st120 : isStr Tryz.prog 120 = false := by kernel_rfl
@[push_cast] theorem Tryz.ty121 : tyI Tryz.prog 121 = some (1, false) := by kernel_rfl
@[push_cast] theorem Tryz.ty123 : tyI Tryz.prog 123 = some (2, true) := by kernel_rfl
@[push_cast] theorem Tryz.zl123 : zeroL Tryz.prog 123 = some [.slice none 0 0, .nilFunc] := by kernel_rfl
@[push_cast] theorem Tryz.fi123_0 : fieldI Tryz.prog 123 0 = some (0, 1, false) := by kernel_rfl
@[push_cast] theorem Tryz.fi123_1 : fieldI Tryz.prog 123 1 = some (1, 1, false) := by kernel_rfl
@[push_cast] theorem Tryz.pl123_1 : placeOf Tryz.prog 123 1 = some (1, 1) := by kernel_rfl
@[push_cast] theorem Tryz.fo123 : fieldsOk Tryz.prog 123 = true := by kernel_rfl
@[push_cast] theorem Tryz.ty129 : tyI Tryz.prog 129 = some (13, true) := by kernel_rfl
@[push_cast] theorem Tryz.zl129 : zeroL Tryz.prog 129 = some [.int .u64 0, .int .u64 0, .int .u64 0, .int .u64 0, .int .u64 0, .int .u64 0, .int .u64 0, .int .u64 0, .int .u64 0, .int .u64 0, .int .u64 0, .int .u64 0, .bool false] := by kernel_rfl
@[push_cast] theorem Tryz.fi129_0 : fieldI Tryz.prog 129 0 = some (0, 4, true) := by kernel_rfl
@[push_cast] theorem Tryz.fi129_1 : fieldI Tryz.prog 129 1 = some (4, 4, true) := by kernel_rfl
@[push_cast] theorem Tryz.fi129_2 : fieldI Tryz.prog 129 2 = some (8, 4, true) := by kernel_rfl
@[push_cast] theorem Tryz.fi129_3 : fieldI Tryz.prog 129 3 = some (12, 1, false) := by kernel_rfl
@[push_cast] theorem Tryz.zl132 : zeroL Tryz.prog 132 = some [.int .u64 0, .int .u64 0, .int .u64 0, .int .u64 0, .int .u64 0, .int .u64 0, .int .u64 0, .int .u64 0] := by kernel_rfl
@[push_cast] theorem Tryz.fi132_0 : fieldI Tryz.prog 132 0 = some (0, 4, true) := by kernel_rfl
@[push_cast] theorem Tryz.pl132_0 : placeOf Tryz.prog 132 0 = some (0, 4) := by kernel_rfl
@[push_cast] theorem Tryz.fi132_1 : fieldI Tryz.prog 132 1 = some (4, 4, true) := by kernel_rfl
@[push_cast] theorem Tryz.pl132_1 : placeOf Tryz.prog 132 1 = some (4, 4) := by kernel_rfl
@[push_cast] theorem Tryz.fo132 : fieldsOk Tryz.prog 132 = true := by kernel_rfl
@[push_cast] theorem Tryz.el136 : elemI Tryz.prog 136 = some (none, 1, false) := by kernel_rfl
@[push_cast] theorem Tryz.sl136 : slI Tryz.prog 136 = some (27, 1, 8) := by kernel_rfl
attribute [push_cast] Tryz.underlying136
@[push_cast] theorem Tryz.in136 : intI Tryz.prog 136 = none := by kernel_rfl
@[push_cast] def Tryz.pl6 : Plans := fun i => if i = 10 then [(0, 0), (1, 0), (2, 0), (3, 0), (4, 0), (5, 0), (6, 0)] else if i = 12 then [(0, 0), (1, 0), (2, 0), (3, 0), (4, 0), (5, 0), (6, 0), (7, 0), (8, 2), (9, 1), (10, 0)] else []
@[push_cast] def Tryz.pl7 : Plans := fun i => []
@[push_cast] def Tryz.pl8 : Plans := fun i => if i = 5 then [(0, 0), (1, 0), (2, 0), (3, 0), (4, 0), (5, 2), (6, 1)] else []
@[push_cast] def Tryz.pl9 : Plans := fun i => []
@[push_cast] def Tryz.pl10 : Plans := fun i => []
@[push_cast] def Tryz.pl11 : Plans := fun i => []
@[push_cast] def Tryz.pl12 : Plans := fun i => if i = 1 then [(0, 0), (1, 0), (2, 0), (3, 0), (4, 0), (5, 0), (6, 0), (7, 0), (8, 2), (9, 1)] else []
@[push_cast] def Tryz.pl13 : Plans := fun i => []
@[push_cast] def Tryz.pl14 : Plans := fun i => []
@[push_cast] def Tryz.pl15 : Plans := fun i => if i = 6 then [(0, 0), (1, 0), (2, 0), (3, 0), (4, 0), (5, 0), (6, 0), (7, 0), (8, 0), (9, 0), (10, 0)] else if i = 11 then [(0, 0), (1, 0), (2, 0), (3, 0), (4, 0), (5, 0), (6, 0), (7, 0), (8, 0), (9, 0), (10, 0)] else []
@[push_cast] def Tryz.pl16 : Plans := fun i => []
@[push_cast] def Tryz.pl17 : Plans := fun i => if i = 7 then [(0, 0), (1, 0), (2, 0), (3, 0), (4, 0), (5, 0), (6, 0), (7, 0), (8, 0), (9, 0), (10, 0), (11, 0), (12, 0), (13, 0), (14, 0), (15, 0), (16, 0), (17, 0)] else []
@[push_cast] def Tryz.pl18 : Plans := fun i => []
@[push_cast] def Tryz.pl19 : Plans := fun i => if i = 9 then [(0, 0), (1, 0), (2, 0), (3, 0), (4, 0), (5, 0), (6, 0), (7, 0), (8, 0), (9, 0), (10, 0), (11, 2), (12, 0), (13, 1), (14, 0)] else []
@[push_cast] def Tryz.pl20 : Plans := fun i => []
@[push_cast] def Tryz.pl21 : Plans := fun i => []
@[push_cast] def Tryz.pl22 : Plans := fun i => if i = 6 then [(0, 0), (2, 0), (3, 0), (4, 0), (5, 0), (1, 2), (6, 0), (7, 1), (8, 0), (9, 1)] else []
@[push_cast] def Tryz.pl23 : Plans := fun i => []
@[push_cast] def Tryz.pl24 : Plans := fun i => []
@[push_cast] def Tryz.pl25 : Plans := fun i => []
@[push_cast] def Tryz.pl26 : Plans := fun i => if i = 1 then [(0, 0), (1, 0), (2, 0), (3, 0), (4, 1)] else []
@[push_cast] def Tryz.pl27 : Plans := fun i => if i = 6 then [(0, 0), (1, 0), (2, 0), (3, 0), (4, 0), (5, 0), (6, 0), (7, 0), (8, 0), (9, 0)] else []
@[push_cast] def Tryz.pl28 : Plans := fun i => []
@[push_cast] def Tryz.pl29 : Plans := fun i => if i = 8 then [(0, 0), (1, 0), (2, 0), (3, 0), (4, 0), (5, 0), (6, 0), (7, 2), (8, 0), (9, 0), (10, 0), (11, 1)] else if i = 11 then [(0, 0), (1, 0), (2, 0), (3, 0), (4, 0), (5, 0), (6, 0), (7, 2), (8, 0), (9, 0), (10, 0), (11, 1)] else if i = 3 then [(0, 0), (1, 0), (2, 0), (3, 0), (4, 0), (5, 0), (6, 0), (7, 0), (8, 0), (9, 0), (10, 0), (11, 2), (12, 2), (13, 0), (14, 0), (15, 0), (16, 1)] else []
@[push_cast] def Tryz.pl30 : Plans := fun i => []
@[push_cast] def Tryz.pl31 : Plans := fun i => []
@[push_cast] def Tryz.pl32 : Plans := fun i => []
@[push_cast] def Tryz.pl33 : Plans := fun i => if i = 4 then [(0, 0), (1, 0), (2, 0), (3, 0), (4, 0), (5, 0), (6, 0), (7, 0), (8, 0), (9, 0), (10, 0), (11, 0), (12, 0), (13, 0), (14, 0), (15, 0), (16, 0), (17, 0), (18, 0), (19, 0), (20, 0), (21, 0), (22, 0)] else []
@[push_cast] def Tryz.pl34 : Plans := fun i => []
@[push_cast] def Tryz.pl35 : Plans := fun i => if i = 4 then [(0, 0), (1, 0), (2, 0), (3, 0), (4, 0), (5, 0), (6, 0), (7, 0), (8, 0), (9, 0), (10, 0), (11, 0), (12, 0), (13, 0), (14, 0), (15, 0), (16, 0), (17, 0), (18, 0), (19, 0), (20, 0), (21, 0), (22, 0), (23, 0), (24, 0), (25, 0), (26, 0), (27, 0), (28, 0), (29, 0), (30, 0), (31, 0)] else []
@[push_cast] def Tryz.pl36 : Plans := fun i => []
@[push_cast] def Tryz.pl37 : Plans := fun i => if i = 4 then [(0, 0), (1, 0), (2, 0), (3, 0), (4, 0), (5, 0), (6, 0), (7, 0), (8, 0), (9, 0)] else []
@[push_cast] def Tryz.pl38 : Plans := fun i => []
@[push_cast] def Tryz.pl39 : Plans := fun i => if i = 6 then [(0, 4), (1, 3), (2, 1)] else []
@[push_cast] def Tryz.pl40 : Plans := fun i => []
@[push_cast] def Tryz.pl41 : Plans := fun i => if i = 1 then [(0, 0), (1, 0), (3, 0), (4, 0), (6, 0), (7, 0), (2, 2), (9, 0), (5, 2), (8, 2), (10, 1), (11, 0), (12, 1), (13, 0), (14, 1)] else []
@[push_cast] def Tryz.pl42 : Plans := fun i => if i = 9 then [(0, 0), (1, 0), (2, 0), (3, 1), (4, 0)] else []
@[push_cast] def Tryz.pl44 : Plans := fun i => if i = 24 then [(0, 0), (1, 0), (2, 0), (3, 1), (4, 0)] else []
@[push_cast] def Tryz.pl45 : Plans := fun i => []
@[push_cast] def Tryz.pl46 : Plans := fun i => []
@[push_cast] def Tryz.pl47 : Plans := fun i => []
@[push_cast] def Tryz.pl48 : Plans := fun i => if i = 1 then [(0, 0), (1, 0), (2, 0), (3, 0)] else []
@[push_cast] def Tryz.pl49 : Plans := fun i => []
@[push_cast] def Tryz.pl50 : Plans := fun i => []
@[push_cast] def Tryz.pl51 : Plans := fun i => []
@[push_cast] def Tryz.pl52 : Plans := fun i => []
@[push_cast] def Tryz.pl53 : Plans := fun i => if i = 4 then [(0, 0), (1, 0), (2, 0), (3, 0), (4, 0), (5, 0), (6, 0)] else if i = 5 then [(0, 0), (1, 0), (2, 0), (3, 0), (4, 0), (5, 0), (6, 0), (7, 0)] else []
@[push_cast] def Tryz.pl54 : Plans := fun i => []
@[push_cast] def Tryz.pl55 : Plans := fun i => []
@[push_cast] def Tryz.pl56 : Plans := fun i => []
@[push_cast] def Tryz.pl57 : Plans := fun i => []
@[push_cast] def Tryz.pl58 : Plans := fun i => []
@[push_cast] def Tryz.pl59 : Plans := fun i => []
@[push_cast] def Tryz.pl60 : Plans := fun i => []
@[push_cast] def Tryz.pl61 : Plans := fun i => if i = 6 then [(0, 0), (1, 0), (2, 0), (4, 0), (3, 4), (5, 3), (6, 0), (7, 1)] else if i = 8 then [(0, 0), (1, 0), (2, 0), (4, 0), (3, 4), (5, 3), (6, 0), (7, 1)] else if i = 10 then [(0, 0), (1, 0), (2, 0), (4, 0), (3, 4), (5, 3), (6, 0), (7, 1)] else if i = 12 then [(0, 0), (1, 0), (2, 0), (4, 0), (7, 0), (3, 4), (5, 4), (6, 0), (8, 1), (9, 0), (10, 1)] else if i = 14 then [(0, 0), (2, 0), (1, 4), (3, 3), (4, 1), (5, 0)] else []
@[push_cast] def Tryz.pl62 : Plans := fun i => []
@[push_cast] def Tryz.pl63 : Plans := fun i => []
@[push_cast] def Tryz.pl64 : Plans := fun i => if i = 4 then [(0, 0), (1, 0), (2, 0), (3, 0), (4, 0), (5, 0), (6, 0)] else []
@[push_cast] def Tryz.pl65 : Plans := fun i => if i = 4 then [(0, 0), (1, 0), (2, 0), (3, 0), (4, 0), (5, 0), (6, 0)] else []
@[push_cast] def Tryz.pl66 : Plans := fun i => []
@[push_cast] def Tryz.pl67 : Plans := fun i => if i = 8 then [(0, 0), (1, 0), (2, 0), (3, 0), (4, 0), (5, 0), (6, 0), (7, 0)] else if i = 9 then [(0, 0), (1, 0), (2, 0), (3, 0), (4, 0), (5, 0), (6, 0), (7, 0), (8, 0), (9, 0), (10, 0), (11, 0)] else []
@[push_cast] def Tryz.pl68 : Plans := fun i => if i = 6 then [(0, 0), (1, 0), (2, 0), (3, 0), (4, 0), (5, 0), (6, 0), (7, 0), (8, 0)] else []
@[push_cast] def Tryz.pl69 : Plans := fun i => []
@[push_cast] def Tryz.pl70 : Plans := fun i => []
@[push_cast] def Tryz.pl71 : Plans := fun i => []
@[push_cast] def Tryz.pl72 : Plans := fun i => []
@[push_cast] def Tryz.pl73 : Plans := fun i => []
@[push_cast] def Tryz.pl74 : Plans := fun i => []
@[push_cast] def Tryz.pl75 : Plans := fun i => []
@[push_cast] def Tryz.pl76 : Plans := fun i => []
@[push_cast] def Tryz.pl77 : Plans := fun i => []
@[push_cast] def Tryz.pl78 : Plans := fun i => if i = 5 then [(0, 0), (1, 0), (2, 0), (3, 0), (4, 0), (5, 0), (6, 0), (7, 0)] else if i = 8 then [(0, 0), (1, 0), (2, 0), (3, 0), (4, 0), (5, 0), (6, 0), (7, 0), (8, 0), (9, 0), (10, 0), (11, 0), (12, 0), (13, 0), (14, 0), (15, 0)] else []
@[push_cast] def Tryz.pl79 : Plans := fun i => []
@[push_cast] def Tryz.pl80 : Plans := fun i => if i = 5 then [(0, 0), (1, 0), (2, 0), (3, 0), (4, 0), (5, 0), (6, 1), (7, 0)] else []
@[push_cast] def Tryz.pl81 : Plans := fun i => if i = 11 then [(0, 0), (1, 0), (2, 0), (3, 0), (4, 0), (5, 0), (6, 0), (7, 0), (8, 1)] else if i = 15 then [(0, 0), (1, 0), (2, 0), (3, 0), (4, 0), (5, 0), (6, 0), (7, 0), (8, 1)] else []
@[push_cast] def Tryz.pl82 : Plans := fun i => if i = 7 then [(0, 0), (1, 0), (2, 0), (3, 0), (4, 0), (5, 0), (6, 0), (7, 0), (8, 0), (9, 0), (10, 0), (11, 2), (12, 0)] else []
@[push_cast] def Tryz.pl83 : Plans := fun i => []
@[push_cast] def Tryz.pl84 : Plans := fun i => []
@[push_cast] def Tryz.pl85 : Plans := fun i => []
@[push_cast] def Tryz.pl87 : Plans := fun i => if i = 4 then [(0, 0), (1, 0), (2, 0), (3, 0), (4, 0), (5, 0), (6, 0), (7, 0), (8, 0), (9, 0), (10, 0), (11, 0), (12, 0)] else []
@[push_cast] def Tryz.pl88 : Plans := fun i => []
@[push_cast] def Tryz.pl89 : Plans := fun i => []
@[push_cast] def Tryz.pl90 : Plans := fun i => []
@[push_cast] def Tryz.pl93 : Plans := fun i => if i = 6 then [(0, 0), (1, 0), (2, 0), (3, 0), (4, 0), (5, 0), (6, 0)] else if i = 7 then [(0, 0), (1, 0), (2, 0), (3, 0), (4, 0), (5, 0), (6, 0), (7, 0), (8, 0), (9, 0), (10, 0), (11, 0)] else []
@[push_cast] def Tryz.pl94 : Plans := fun i => []
@[push_cast] def Tryz.pl95 : Plans := fun i => if i = 4 then [(0, 0), (1, 0), (2, 0), (3, 0), (4, 0), (5, 0), (6, 0), (7, 0), (8, 0), (9, 0), (10, 0), (11, 0), (12, 0), (13, 0), (14, 0), (15, 0), (16, 0), (17, 0), (18, 0), (19, 0), (20, 0)] else []
@[push_cast] def Tryz.pl96 : Plans := fun i => if i = 4 then [(0, 0), (1, 0), (2, 0), (3, 0), (4, 0), (5, 0), (6, 0)] else if i = 6 then [(0, 0), (1, 0), (2, 0), (3, 0), (4, 0), (5, 0), (6, 0)] else []
@[push_cast] def Tryz.pl97 : Plans := fun i => []
@[push_cast] def Tryz.pl98 : Plans := fun i => []
@[push_cast] def Tryz.pl100 : Plans := fun i => if i = 1 then [(0, 0), (2, 0), (1, 2), (3, 2), (4, 0), (5, 0)] else []
@[push_cast] def Tryz.pl101 : Plans := fun i => if i = 0 then [(0, 0), (1, 0), (2, 0), (3, 0), (4, 0), (5, 0)] else if i = 3 then [(0, 0), (1, 0), (2, 0), (3, 0), (4, 0), (5, 0), (6, 0), (7, 0), (8, 0), (9, 0), (10, 0), (11, 0)] else if i = 10 then [(0, 0), (1, 0), (2, 0), (3, 0), (4, 0), (5, 0), (6, 0), (8, 0), (9, 0), (10, 0), (7, 4), (11, 3), (12, 0), (13, 1), (14, 0)] else if i = 12 then [(0, 0), (1, 0), (2, 0), (3, 0), (4, 0), (5, 0), (6, 0), (8, 0), (9, 0), (10, 0), (7, 4), (11, 3), (12, 0), (13, 1), (14, 0), (15, 1), (16, 0)] else []
@[push_cast] def Tryz.pl103 : Plans := fun i => []
@[push_cast] def Tryz.pl104 : Plans := fun i => []
@[push_cast] def Tryz.pl105 : Plans := fun i => []
@[push_cast] def Tryz.pl106 : Plans := fun i => []
@[push_cast] def Tryz.pl107 : Plans := fun i => if i = 3 then [(0, 0), (1, 0), (2, 0), (3, 0), (4, 0), (5, 0), (6, 0), (7, 0), (8, 0), (9, 0), (10, 0), (11, 0), (12, 0), (13, 1), (14, 0), (15, 1)] else []
@[push_cast] def Tryz.pl108 : Plans := fun i => []
theorem Tryz.mix : Tryz.prog.follows .mixedOrders = true := by kernel_rfl
end Go.Proofs
