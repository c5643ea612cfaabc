/- Texts of this claim, merged by program: Facts. -/
import Derived.Test.YtpcjmmdgopihcaaGreatDoorZgAc
import Derived.Test.YtpcjmmdgopihcaaGreatDoorRows
import Derived.KernelRfl
set_option linter.unusedSimpArgs false
set_option linter.unusedVariables false
namespace Go.Proofs
open Go Go.Ev
@[push_cast] theorem Tryz.ty3 : tyI Tryz.prog 3 = some (1, false) := by kernel_rfl
@[push_cast] theorem Tryz.zl3 : zeroL Tryz.prog 3 = some [.int .i64 0] := by kernel_rfl
@[push_cast] theorem Tryz.in3 : intI Tryz.prog 3 = some .i64 := by kernel_rfl
@[push_cast] theorem Tryz.st3 : isStr Tryz.prog 3 = false := by kernel_rfl
@[push_cast] theorem Tryz.by3 : isBytes Tryz.prog 3 = false := by kernel_rfl
@[push_cast] theorem Tryz.ty4 : tyI Tryz.prog 4 = some (1, false) := by kernel_rfl
@[push_cast] theorem Tryz.zl4 : zeroL Tryz.prog 4 = some [.bool false] := by kernel_rfl
attribute [push_cast] Tryz.underlying4
@[push_cast] theorem Tryz.ty5 : tyI Tryz.prog 5 = some (1, false) := by kernel_rfl
@[push_cast] theorem Tryz.zl5 : zeroL Tryz.prog 5 = some [.int .u8 0] := by kernel_rfl
@[push_cast] theorem Tryz.in5 : intI Tryz.prog 5 = some .u8 := by kernel_rfl
@[push_cast] theorem Tryz.st5 : isStr Tryz.prog 5 = false := by kernel_rfl
@[push_cast] theorem Tryz.by5 : isBytes Tryz.prog 5 = false := by kernel_rfl
@[push_cast] theorem Tryz.ty9 : tyI Tryz.prog 9 = some (1, false) := by kernel_rfl
@[push_cast] theorem Tryz.zl9 : zeroL Tryz.prog 9 = some [.string ByteArray.empty] := by kernel_rfl
@[push_cast] theorem Tryz.el9 : elemI Tryz.prog 9 = none := by kernel_rfl
@[push_cast] theorem Tryz.in9 : intI Tryz.prog 9 = none := by kernel_rfl
@[push_cast] theorem Tryz.st9 : isStr Tryz.prog 9 = true := by kernel_rfl
@[push_cast] theorem Tryz.by9 : isBytes Tryz.prog 9 = false := by kernel_rfl
@[push_cast] theorem Tryz.ty22 : tyI Tryz.prog 22 = some (1, false) := by kernel_rfl
@[push_cast] theorem Tryz.zl22 : zeroL Tryz.prog 22 = some [.slice none 0 0] := by kernel_rfl
@[push_cast] theorem Tryz.el22 : elemI Tryz.prog 22 = some (none, 27, true) := by kernel_rfl
@[push_cast] theorem Tryz.sl22 : slI Tryz.prog 22 = some (31, 27, 104) := by kernel_rfl
attribute [push_cast] Tryz.underlying22
@[push_cast] theorem Tryz.in22 : intI Tryz.prog 22 = none := by kernel_rfl
@[push_cast] theorem Tryz.st22 : isStr Tryz.prog 22 = false := by kernel_rfl
@[push_cast] theorem Tryz.el23 : elemI Tryz.prog 23 = some (none, 4, true) := by kernel_rfl
@[push_cast] theorem Tryz.ty25 : tyI Tryz.prog 25 = some (20, true) := by kernel_rfl
@[push_cast] theorem Tryz.zl25 : zeroL Tryz.prog 25 = some [.int .u8 0, .int .u8 0, .int .u8 0, .int .u8 0, .int .u8 0, .int .u8 0, .int .u8 0, .int .u8 0, .int .u8 0, .int .u8 0, .int .u8 0, .int .u8 0, .int .u8 0, .int .u8 0, .int .u8 0, .int .u8 0, .int .u8 0, .int .u8 0, .int .u8 0, .int .u8 0] := by kernel_rfl
@[push_cast] theorem Tryz.el25 : elemI Tryz.prog 25 = some (some 20, 1, false) := by kernel_rfl
@[push_cast] theorem Tryz.st25 : isStr Tryz.prog 25 = false := by kernel_rfl
@[push_cast] theorem Tryz.pl25_0 : placeOf Tryz.prog 25 0 = some (0, 1) := by kernel_rfl
@[push_cast] theorem Tryz.pl25_1 : placeOf Tryz.prog 25 1 = some (1, 1) := by kernel_rfl
@[push_cast] theorem Tryz.fo25 : fieldsOk Tryz.prog 25 = true := by kernel_rfl
@[push_cast] theorem Tryz.ty26 : tyI Tryz.prog 26 = some (1, false) := by kernel_rfl
@[push_cast] theorem Tryz.zl26 : zeroL Tryz.prog 26 = some [.int .u64 0] := by kernel_rfl
@[push_cast] theorem Tryz.in26 : intI Tryz.prog 26 = some .u64 := by kernel_rfl
@[push_cast] theorem Tryz.st26 : isStr Tryz.prog 26 = false := by kernel_rfl
@[push_cast] theorem Tryz.by26 : isBytes Tryz.prog 26 = false := by kernel_rfl
@[push_cast] theorem Tryz.ty28 : tyI Tryz.prog 28 = some (4, true) := by kernel_rfl
@[push_cast] theorem Tryz.zl28 : zeroL Tryz.prog 28 = some [.int .u64 0, .int .u64 0, .int .u64 0, .int .u64 0] := by kernel_rfl
@[push_cast] theorem Tryz.el28 : elemI Tryz.prog 28 = some (some 4, 1, false) := by kernel_rfl
@[push_cast] theorem Tryz.st28 : isStr Tryz.prog 28 = false := by kernel_rfl
@[push_cast] theorem Tryz.pl28_0 : placeOf Tryz.prog 28 0 = some (0, 1) := by kernel_rfl
@[push_cast] theorem Tryz.pl28_1 : placeOf Tryz.prog 28 1 = some (1, 1) := by kernel_rfl
@[push_cast] theorem Tryz.pl28_2 : placeOf Tryz.prog 28 2 = some (2, 1) := by kernel_rfl
@[push_cast] theorem Tryz.pl28_3 : placeOf Tryz.prog 28 3 = some (3, 1) := by kernel_rfl
@[push_cast] theorem Tryz.fo28 : fieldsOk Tryz.prog 28 = true := by kernel_rfl
@[push_cast] theorem Tryz.fk28 : flatK Tryz.prog 12 28 = some [.i, .i, .i, .i] := by kernel_rfl
@[push_cast] theorem Tryz.eg28 : Program.eqGuardType Tryz.prog (Program.depth Tryz.prog) 28 = false := by kernel_rfl
@[push_cast] theorem Tryz.ty29 : tyI Tryz.prog 29 = some (1, false) := by kernel_rfl
@[push_cast] theorem Tryz.zl29 : zeroL Tryz.prog 29 = some [.slice none 0 0] := by kernel_rfl
@[push_cast] theorem Tryz.el29 : elemI Tryz.prog 29 = some (none, 8, true) := by kernel_rfl
@[push_cast] theorem Tryz.sl29 : slI Tryz.prog 29 = some (67, 8, 64) := by kernel_rfl
attribute [push_cast] Tryz.underlying29
@[push_cast] theorem Tryz.in29 : intI Tryz.prog 29 = none := by kernel_rfl
@[push_cast] theorem Tryz.ty31 : tyI Tryz.prog 31 = some (27, true) := by kernel_rfl
@[push_cast] theorem Tryz.zl31 : zeroL Tryz.prog 31 = some [.int .u8 0, .int .u8 0, .int .u8 0, .int .u8 0, .int .u8 0, .int .u8 0, .int .u8 0, .int .u8 0, .int .u8 0, .int .u8 0, .int .u8 0, .int .u8 0, .int .u8 0, .int .u8 0, .int .u8 0, .int .u8 0, .int .u8 0, .int .u8 0, .int .u8 0, .int .u8 0, .int .u64 0, .int .u64 0, .int .u64 0, .int .u64 0, .int .i64 0, .string ByteArray.empty, .slice none 0 0] := by kernel_rfl
@[push_cast] theorem Tryz.fi31_0 : fieldI Tryz.prog 31 0 = some (0, 20, true) := by kernel_rfl
@[push_cast] theorem Tryz.pl31_0 : placeOf Tryz.prog 31 0 = some (0, 20) := by kernel_rfl
@[push_cast] theorem Tryz.fi31_1 : fieldI Tryz.prog 31 1 = some (20, 4, true) := by kernel_rfl
@[push_cast] theorem Tryz.fi31_2 : fieldI Tryz.prog 31 2 = some (24, 1, false) := by kernel_rfl
@[push_cast] theorem Tryz.pl31_2 : placeOf Tryz.prog 31 2 = some (24, 1) := by kernel_rfl
@[push_cast] theorem Tryz.fi31_3 : fieldI Tryz.prog 31 3 = some (25, 1, false) := by kernel_rfl
@[push_cast] theorem Tryz.fi31_4 : fieldI Tryz.prog 31 4 = some (26, 1, false) := by kernel_rfl
@[push_cast] theorem Tryz.fo31 : fieldsOk Tryz.prog 31 = true := by kernel_rfl
@[push_cast] theorem Tryz.ty33 : tyI Tryz.prog 33 = some (31, true) := by kernel_rfl
@[push_cast] theorem Tryz.zl33 : zeroL Tryz.prog 33 = some [.int .i64 0, .int .u8 0, .int .u8 0, .int .u8 0, .int .u8 0, .int .u8 0, .int .u8 0, .int .u8 0, .int .u8 0, .int .u8 0, .int .u8 0, .int .u8 0, .int .u8 0, .int .u8 0, .int .u8 0, .int .u8 0, .int .u8 0, .int .u8 0, .int .u8 0, .int .u8 0, .int .u8 0, .int .u64 0, .int .u64 0, .int .u64 0, .int .u64 0, .int .u64 0, .int .u64 0, .int .u64 0, .int .u64 0, .int .i64 0, .string ByteArray.empty] := by kernel_rfl
@[push_cast] theorem Tryz.fi33_0 : fieldI Tryz.prog 33 0 = some (0, 1, false) := by kernel_rfl
@[push_cast] theorem Tryz.pl33_0 : placeOf Tryz.prog 33 0 = some (0, 1) := by kernel_rfl
@[push_cast] theorem Tryz.fi33_1 : fieldI Tryz.prog 33 1 = some (1, 20, true) := by kernel_rfl
@[push_cast] theorem Tryz.pl33_1 : placeOf Tryz.prog 33 1 = some (1, 20) := by kernel_rfl
@[push_cast] theorem Tryz.fi33_2 : fieldI Tryz.prog 33 2 = some (21, 4, true) := by kernel_rfl
@[push_cast] theorem Tryz.pl33_2 : placeOf Tryz.prog 33 2 = some (21, 4) := by kernel_rfl
@[push_cast] theorem Tryz.fi33_3 : fieldI Tryz.prog 33 3 = some (25, 4, true) := by kernel_rfl
@[push_cast] theorem Tryz.pl33_3 : placeOf Tryz.prog 33 3 = some (25, 4) := by kernel_rfl
@[push_cast] theorem Tryz.fi33_4 : fieldI Tryz.prog 33 4 = some (29, 1, false) := by kernel_rfl
@[push_cast] theorem Tryz.fi33_5 : fieldI Tryz.prog 33 5 = some (30, 1, false) := by kernel_rfl
@[push_cast] theorem Tryz.fo33 : fieldsOk Tryz.prog 33 = true := by kernel_rfl
@[push_cast] theorem Tryz.ty34 : tyI Tryz.prog 34 = some (4, true) := by kernel_rfl
@[push_cast] theorem Tryz.el34 : elemI Tryz.prog 34 = some (some 4, 1, false) := by kernel_rfl
@[push_cast] theorem Tryz.el38 : elemI Tryz.prog 38 = some (none, 1, false) := by kernel_rfl
@[push_cast] theorem Tryz.sl38 : slI Tryz.prog 38 = some (22, 1, 24) := by kernel_rfl
@[push_cast] theorem Tryz.el43 : elemI Tryz.prog 43 = some (none, 20, true) := by kernel_rfl
@[push_cast] theorem Tryz.sl43 : slI Tryz.prog 43 = some (25, 20, 20) := by kernel_rfl
@[push_cast] theorem Tryz.st43 : isStr Tryz.prog 43 = false := by kernel_rfl
@[push_cast] theorem Tryz.el50 : elemI Tryz.prog 50 = some (none, 31, true) := by kernel_rfl
@[push_cast] theorem Tryz.sl50 : slI Tryz.prog 50 = some (33, 31, 120) := by kernel_rfl
@[push_cast] theorem Tryz.st50 : isStr Tryz.prog 50 = false := by kernel_rfl
@[push_cast] theorem Tryz.ty67 : tyI Tryz.prog 67 = some (8, true) := by kernel_rfl
@[push_cast] theorem Tryz.zl67 : zeroL Tryz.prog 67 = some [.int .u64 0, .int .u64 0, .int .u64 0, .int .u64 0, .int .u64 0, .int .u64 0, .int .u64 0, .int .u64 0] := by kernel_rfl
@[push_cast] theorem Tryz.fi67_0 : fieldI Tryz.prog 67 0 = some (0, 4, true) := by kernel_rfl
@[push_cast] theorem Tryz.pl67_0 : placeOf Tryz.prog 67 0 = some (0, 4) := by kernel_rfl
@[push_cast] theorem Tryz.fi67_1 : fieldI Tryz.prog 67 1 = some (4, 4, true) := by kernel_rfl
@[push_cast] theorem Tryz.pl67_1 : placeOf Tryz.prog 67 1 = some (4, 4) := by kernel_rfl
@[push_cast] theorem Tryz.fo67 : fieldsOk Tryz.prog 67 = true := by kernel_rfl
@[push_cast] theorem Tryz.fk67 : flatK Tryz.prog 12 67 = some [.i, .i, .i, .i, .i, .i, .i, .i] := by kernel_rfl
@[push_cast] theorem Tryz.eg67 : Program.eqGuardType Tryz.prog (Program.depth Tryz.prog) 67 = false := by kernel_rfl
@[push_cast] theorem Tryz.el80 : elemI Tryz.prog 80 = some (none, 1, false) := by kernel_rfl
@[push_cast] theorem Tryz.sl80 : slI Tryz.prog 80 = some (9, 1, 16) := by kernel_rfl
@[push_cast] theorem Tryz.ty88 : tyI Tryz.prog 88 = some (1, false) := by kernel_rfl
@[push_cast] theorem Tryz.el88 : elemI Tryz.prog 88 = some (none, 3, true) := by kernel_rfl
@[push_cast] theorem Tryz.sl88 : slI Tryz.prog 88 = some (90, 3, 48) := by kernel_rfl
@[push_cast] theorem Tryz.in88 : intI Tryz.prog 88 = none := by kernel_rfl
@[push_cast] theorem Tryz.st88 : isStr Tryz.prog 88 = false := by kernel_rfl
@[push_cast] theorem Tryz.ty90 : tyI Tryz.prog 90 = some (3, true) := by kernel_rfl
@[push_cast] theorem Tryz.zl90 : zeroL Tryz.prog 90 = some [.bool false, .string ByteArray.empty, .slice none 0 0] := by kernel_rfl
@[push_cast] theorem Tryz.fi90_0 : fieldI Tryz.prog 90 0 = some (0, 1, false) := by kernel_rfl
@[push_cast] theorem Tryz.pl90_0 : placeOf Tryz.prog 90 0 = some (0, 1) := by kernel_rfl
@[push_cast] theorem Tryz.fi90_1 : fieldI Tryz.prog 90 1 = some (1, 1, false) := by kernel_rfl
@[push_cast] theorem Tryz.pl90_1 : placeOf Tryz.prog 90 1 = some (1, 1) := by kernel_rfl
@[push_cast] theorem Tryz.fi90_2 : fieldI Tryz.prog 90 2 = some (2, 1, false) := by kernel_rfl
@[push_cast] theorem Tryz.pl90_2 : placeOf Tryz.prog 90 2 = some (2, 1) := by kernel_rfl
@[push_cast] theorem Tryz.fo90 : fieldsOk Tryz.prog 90 = true := by kernel_rfl
@[push_cast] theorem Tryz.ty98 : tyI Tryz.prog 98 = some (1, false) := by kernel_rfl
@[push_cast] theorem Tryz.ty101 : tyI Tryz.prog 101 = some (1, false) := by kernel_rfl
@[push_cast] theorem Tryz.el101 : elemI Tryz.prog 101 = some (none, 1, false) := by kernel_rfl
@[push_cast] theorem Tryz.sl101 : slI Tryz.prog 101 = some (5, 1, 1) := by kernel_rfl
@[push_cast] theorem Tryz.in101 : intI Tryz.prog 101 = none := by kernel_rfl
@[push_cast] theorem Tryz.st101 : isStr Tryz.prog 101 = false := by kernel_rfl
@[push_cast] theorem Tryz.by101 : isBytes Tryz.prog 101 = true := by kernel_rfl
@[push_cast] theorem Tryz.in103 : intI Tryz.prog 103 = some .u64 := by kernel_rfl
@[push_cast] theorem Tryz.st103 : isStr Tryz.prog 103 = false := by kernel_rfl
@[push_cast] theorem Tryz.by103 : isBytes Tryz.prog 103 = false := by kernel_rfl
@[push_cast] theorem Tryz.ty107 : tyI Tryz.prog 107 = some (1, false) := by kernel_rfl
@[push_cast] theorem Tryz.ty110 : tyI Tryz.prog 110 = some (1, false) := by kernel_rfl
@[push_cast] theorem Tryz.zl110 : zeroL Tryz.prog 110 = some [.nilFunc] := by kernel_rfl
@[push_cast] theorem Tryz.ty114 : tyI Tryz.prog 114 = some (25, true) := by kernel_rfl
@[push_cast] theorem Tryz.zl114 : zeroL Tryz.prog 114 = some [.int .u64 0, .int .u64 0, .int .u64 0, .int .u64 0, .int .u64 0, .int .u64 0, .int .u64 0, .int .u64 0, .int .u64 0, .int .u64 0, .int .u64 0, .int .u64 0, .int .u64 0, .int .u64 0, .int .u64 0, .int .u64 0, .int .u64 0, .int .u64 0, .int .u64 0, .int .u64 0, .int .u64 0, .int .u64 0, .int .u64 0, .int .u64 0, .int .u64 0] := by kernel_rfl
@[push_cast] theorem Tryz.el114 : elemI Tryz.prog 114 = some (some 25, 1, false) := by kernel_rfl
@[push_cast] theorem Tryz.ty135 : tyI Tryz.prog 135 = some (24, true) := by kernel_rfl
@[push_cast] theorem Tryz.el135 : elemI Tryz.prog 135 = some (some 24, 1, false) := by kernel_rfl
@[push_cast] theorem Tryz.ty138 : tyI Tryz.prog 138 = some (1, false) := by kernel_rfl
@[push_cast] theorem Tryz.el138 : elemI Tryz.prog 138 = some (none, 8, true) := by kernel_rfl
@[push_cast] theorem Tryz.sl138 : slI Tryz.prog 138 = some (179, 8, 64) := by kernel_rfl
@[push_cast] theorem Tryz.in138 : intI Tryz.prog 138 = none := by kernel_rfl
@[push_cast] theorem Tryz.st138 : isStr Tryz.prog 138 = false := by kernel_rfl
@[push_cast] theorem Tryz.ty140 : tyI Tryz.prog 140 = some (2, true) := by kernel_rfl
@[push_cast] theorem Tryz.zl140 : zeroL Tryz.prog 140 = some [.slice none 0 0, .nilFunc] := by kernel_rfl
@[push_cast] theorem Tryz.fi140_0 : fieldI Tryz.prog 140 0 = some (0, 1, false) := by kernel_rfl
@[push_cast] theorem Tryz.fi140_1 : fieldI Tryz.prog 140 1 = some (1, 1, false) := by kernel_rfl
@[push_cast] theorem Tryz.pl140_1 : placeOf Tryz.prog 140 1 = some (1, 1) := by kernel_rfl
@[push_cast] theorem Tryz.fo140 : fieldsOk Tryz.prog 140 = true := by kernel_rfl
@[push_cast] theorem Tryz.ty147 : tyI Tryz.prog 147 = some (13, true) := by kernel_rfl
@[push_cast] theorem Tryz.zl147 : zeroL Tryz.prog 147 = some [.int .u64 0, .int .u64 0, .int .u64 0, .int .u64 0, .int .u64 0, .int .u64 0, .int .u64 0, .int .u64 0, .int .u64 0, .int .u64 0, .int .u64 0, .int .u64 0, .bool false] := by kernel_rfl
@[push_cast] theorem Tryz.fi147_0 : fieldI Tryz.prog 147 0 = some (0, 4, true) := by kernel_rfl
@[push_cast] theorem Tryz.fi147_1 : fieldI Tryz.prog 147 1 = some (4, 4, true) := by kernel_rfl
@[push_cast] theorem Tryz.fi147_2 : fieldI Tryz.prog 147 2 = some (8, 4, true) := by kernel_rfl
@[push_cast] theorem Tryz.fi147_3 : fieldI Tryz.prog 147 3 = some (12, 1, false) := by kernel_rfl
@[push_cast] theorem Tryz.ty149 : tyI Tryz.prog 149 = some (1, false) := by kernel_rfl
@[push_cast] theorem Tryz.ty150 : tyI Tryz.prog 150 = some (1, false) := by kernel_rfl
attribute [push_cast] Tryz.underlying150
@[push_cast] theorem Tryz.in150 : intI Tryz.prog 150 = none := by kernel_rfl
@[push_cast] theorem Tryz.st150 : isStr Tryz.prog 150 = false := by kernel_rfl
@[push_cast] theorem Tryz.by150 : isBytes Tryz.prog 150 = false := by kernel_rfl
@[push_cast] theorem Tryz.zl152 : zeroL Tryz.prog 152 = some [.pointer none, .slice none 0 0] := by kernel_rfl
@[push_cast] theorem Tryz.fi152_0 : fieldI Tryz.prog 152 0 = some (0, 1, false) := by kernel_rfl
@[push_cast] theorem Tryz.fi152_1 : fieldI Tryz.prog 152 1 = some (1, 1, false) := by kernel_rfl
@[push_cast] theorem Tryz.zl172 : zeroL Tryz.prog 172 = some [.int .u64 0, .int .u64 0, .int .u64 0, .int .u64 0, .int .u64 0] := by kernel_rfl
@[push_cast] theorem Tryz.el172 : elemI Tryz.prog 172 = some (some 5, 1, false) := by kernel_rfl
@[push_cast] theorem Tryz.el173 : elemI Tryz.prog 173 = some (none, 1, false) := by kernel_rfl
@[push_cast] theorem Tryz.sl173 : slI Tryz.prog 173 = some (3, 1, 8) := by kernel_rfl
@[push_cast] theorem Tryz.in173 : intI Tryz.prog 173 = none := by kernel_rfl
@[push_cast] theorem Tryz.st173 : isStr Tryz.prog 173 = false := by kernel_rfl
@[push_cast] theorem Tryz.zl179 : zeroL Tryz.prog 179 = some [.int .u64 0, .int .u64 0, .int .u64 0, .int .u64 0, .int .u64 0, .int .u64 0, .int .u64 0, .int .u64 0] := by kernel_rfl
@[push_cast] theorem Tryz.fi179_0 : fieldI Tryz.prog 179 0 = some (0, 4, true) := by kernel_rfl
@[push_cast] theorem Tryz.pl179_0 : placeOf Tryz.prog 179 0 = some (0, 4) := by kernel_rfl
@[push_cast] theorem Tryz.fi179_1 : fieldI Tryz.prog 179 1 = some (4, 4, true) := by kernel_rfl
@[push_cast] theorem Tryz.pl179_1 : placeOf Tryz.prog 179 1 = some (4, 4) := by kernel_rfl
@[push_cast] theorem Tryz.fo179 : fieldsOk Tryz.prog 179 = true := by kernel_rfl
@[push_cast] theorem Tryz.el190 : elemI Tryz.prog 190 = some (none, 1, false) := by kernel_rfl
@[push_cast] theorem Tryz.sl190 : slI Tryz.prog 190 = some (26, 1, 8) := by kernel_rfl
attribute [push_cast] Tryz.underlying190
@[push_cast] theorem Tryz.in190 : intI Tryz.prog 190 = none := by kernel_rfl
@[push_cast] theorem Tryz.in193 : intI Tryz.prog 193 = none := by kernel_rfl
@[push_cast] theorem Tryz.st193 : isStr Tryz.prog 193 = false := by kernel_rfl
@[push_cast] theorem Tryz.by193 : isBytes Tryz.prog 193 = false := by kernel_rfl
@[push_cast] def Tryz.pl3 : Plans := fun i => if i = 14 then [(0, 0), (1, 0), (2, 0), (3, 0), (4, 0), (5, 0), (6, 0), (7, 0), (8, 0), (9, 0), (10, 0), (11, 0), (12, 0), (13, 0), (14, 0), (15, 0), (16, 0), (17, 0), (18, 0), (19, 0), (20, 0)] else if i = 16 then [(0, 0), (1, 0), (2, 0), (3, 0), (4, 0), (7, 0), (5, 2), (6, 0)] else if i = 19 then [(0, 0), (1, 0), (3, 0), (4, 0), (2, 2), (5, 2), (6, 0), (7, 0)] else if i = 26 then [(0, 0), (1, 0), (2, 0), (5, 0), (3, 2), (4, 0)] else []
@[push_cast] def Tryz.pl9 : Plans := fun i => if i = 3 then [(0, 0), (1, 0), (2, 0), (3, 0), (4, 0), (5, 0), (6, 0), (7, 0), (8, 0), (9, 2), (10, 0), (11, 1), (12, 0)] else if i = 5 then [(0, 0), (1, 0), (2, 0), (3, 0), (4, 0), (5, 0), (6, 0), (7, 0), (8, 0), (9, 0), (10, 0), (11, 0), (12, 2), (13, 0), (14, 1), (15, 0)] else if i = 12 then [(0, 0), (1, 0), (2, 0), (3, 0), (4, 0), (5, 0), (6, 0), (7, 0), (8, 0), (9, 0), (10, 0), (11, 0), (12, 0), (13, 0), (14, 0), (15, 0), (16, 0), (17, 0), (18, 0), (19, 0), (20, 0), (21, 0), (22, 0), (23, 0), (24, 0), (25, 0), (26, 0), (27, 0), (28, 0), (29, 0), (30, 0), (31, 0), (32, 0), (33, 0), (34, 0), (35, 0), (36, 0), (37, 0), (38, 0), (39, 0), (40, 0), (41, 0), (42, 0), (43, 0), (44, 0), (45, 0), (46, 0), (47, 0), (48, 0), (49, 0), (50, 0), (51, 0), (52, 0), (53, 0), (54, 0), (55, 0), (56, 0), (57, 0), (58, 0), (59, 0), (60, 0), (61, 0), (62, 0), (63, 0), (64, 0), (65, 0), (66, 0), (67, 0), (68, 0), (69, 0), (70, 0), (71, 0), (72, 0), (73, 0), (74, 0), (75, 0), (76, 0), (77, 0), (78, 0), (79, 0), (80, 0)] else []
@[push_cast] def Tryz.pl10 : Plans := fun i => []
@[push_cast] def Tryz.pl11 : Plans := fun i => []
@[push_cast] def Tryz.pl12 : Plans := fun i => if i = 4 then [(0, 0), (1, 0), (2, 0), (3, 0), (4, 0), (5, 0), (6, 0), (7, 0), (8, 0), (9, 0), (10, 0), (11, 0), (12, 0), (13, 0), (14, 0), (15, 0), (16, 0), (17, 0), (18, 0), (19, 0), (20, 0), (21, 0), (22, 0)] else []
@[push_cast] def Tryz.pl13 : Plans := fun i => if i = 4 then [(0, 0), (1, 0), (2, 0), (3, 0), (4, 0), (5, 0), (6, 0), (7, 0), (8, 0), (9, 0), (10, 0), (11, 0), (12, 0), (13, 0), (14, 0), (15, 0), (16, 0), (17, 0), (18, 0), (19, 0), (20, 0), (21, 0), (22, 0), (23, 0), (24, 0), (25, 0), (26, 0), (27, 0), (28, 0), (29, 0), (30, 0), (31, 0)] else []
@[push_cast] def Tryz.pl14 : Plans := fun i => []
@[push_cast] def Tryz.pl15 : Plans := fun i => if i = 6 then [(0, 0), (1, 0), (2, 0), (3, 0), (4, 0), (5, 0), (6, 0), (7, 0), (8, 0), (9, 0)] else []
@[push_cast] def Tryz.pl16 : Plans := fun i => []
@[push_cast] def Tryz.pl17 : Plans := fun i => []
@[push_cast] def Tryz.pl18 : Plans := fun i => []
@[push_cast] def Tryz.pl19 : Plans := fun i => []
@[push_cast] def Tryz.pl20 : Plans := fun i => []
@[push_cast] def Tryz.pl21 : Plans := fun i => if i = 4 then [(0, 0), (1, 0), (2, 0), (3, 0), (4, 0), (5, 0), (6, 0)] else []
@[push_cast] def Tryz.pl22 : Plans := fun i => []
@[push_cast] def Tryz.pl23 : Plans := fun i => if i = 8 then [(0, 0), (1, 0), (2, 0), (3, 0), (4, 0), (5, 0), (6, 0), (7, 0)] else if i = 9 then [(0, 0), (1, 0), (2, 0), (3, 0), (4, 0), (5, 0), (6, 0), (7, 0), (8, 0), (9, 0), (10, 0), (11, 0)] else []
@[push_cast] def Tryz.pl24 : Plans := fun i => if i = 1 then [(0, 0), (1, 0), (2, 0), (3, 0), (4, 0), (5, 0), (6, 0), (7, 0), (8, 2), (9, 1)] else []
@[push_cast] def Tryz.pl25 : Plans := fun i => if i = 9 then [(0, 0), (1, 0), (2, 0), (3, 1), (4, 0)] else []
@[push_cast] def Tryz.pl26 : Plans := fun i => if i = 24 then [(0, 0), (1, 0), (2, 0), (3, 1), (4, 0)] else []
@[push_cast] def Tryz.pl27 : Plans := fun i => []
@[push_cast] def Tryz.pl28 : Plans := fun i => []
@[push_cast] def Tryz.pl29 : Plans := fun i => []
@[push_cast] def Tryz.pl31 : Plans := fun i => []
@[push_cast] def Tryz.pl32 : Plans := fun i => if i = 1 then [(0, 0), (1, 0), (2, 0), (3, 0)] else []
@[push_cast] def Tryz.pl33 : Plans := fun i => []
@[push_cast] def Tryz.pl34 : Plans := fun i => if i = 4 then [(0, 0), (1, 0), (2, 0), (3, 0), (4, 0), (5, 0), (6, 0)] else if i = 5 then [(0, 0), (1, 0), (2, 0), (3, 0), (4, 0), (5, 0), (6, 0), (7, 0)] else []
@[push_cast] def Tryz.pl35 : Plans := fun i => []
@[push_cast] def Tryz.pl36 : Plans := fun i => []
@[push_cast] def Tryz.pl37 : Plans := fun i => if i = 6 then [(0, 0), (1, 0), (2, 0), (3, 0), (4, 0), (5, 0), (6, 0), (7, 0), (8, 0)] else []
@[push_cast] def Tryz.pl38 : Plans := fun i => if i = 6 then [(0, 0), (1, 0), (2, 0), (3, 0), (4, 0), (5, 0), (6, 0), (7, 0), (8, 0)] else []
@[push_cast] def Tryz.pl39 : Plans := fun i => []
@[push_cast] def Tryz.pl40 : Plans := fun i => []
@[push_cast] def Tryz.pl41 : Plans := fun i => []
@[push_cast] def Tryz.pl42 : Plans := fun i => []
@[push_cast] def Tryz.pl43 : Plans := fun i => []
@[push_cast] def Tryz.pl44 : Plans := fun i => if i = 5 then [(0, 0), (1, 0), (2, 0), (3, 0), (4, 0), (5, 0), (6, 0), (7, 0)] else if i = 8 then [(0, 0), (1, 0), (2, 0), (3, 0), (4, 0), (5, 0), (6, 0), (7, 0), (8, 0), (9, 0), (10, 0), (11, 0), (12, 0), (13, 0), (14, 0), (15, 0)] else []
@[push_cast] def Tryz.pl45 : Plans := fun i => []
@[push_cast] def Tryz.pl46 : Plans := fun i => if i = 5 then [(0, 0), (1, 0), (2, 0), (3, 0), (4, 0), (5, 0), (6, 1), (7, 0)] else []
@[push_cast] def Tryz.pl47 : Plans := fun i => if i = 11 then [(0, 0), (1, 0), (2, 0), (3, 0), (4, 0), (5, 0), (6, 0), (7, 0), (8, 1)] else if i = 15 then [(0, 0), (1, 0), (2, 0), (3, 0), (4, 0), (5, 0), (6, 0), (7, 0), (8, 1)] else []
@[push_cast] def Tryz.pl48 : Plans := fun i => if i = 6 then [(0, 0), (1, 0), (2, 0), (4, 0), (3, 4), (5, 3), (6, 0), (7, 1)] else if i = 8 then [(0, 0), (1, 0), (2, 0), (4, 0), (3, 4), (5, 3), (6, 0), (7, 1)] else if i = 10 then [(0, 0), (1, 0), (2, 0), (4, 0), (3, 4), (5, 3), (6, 0), (7, 1)] else if i = 12 then [(0, 0), (1, 0), (2, 0), (4, 0), (7, 0), (3, 4), (5, 4), (6, 0), (8, 1), (9, 0), (10, 1)] else if i = 14 then [(0, 0), (2, 0), (1, 4), (3, 3), (4, 1), (5, 0)] else []
@[push_cast] def Tryz.pl49 : Plans := fun i => []
@[push_cast] def Tryz.pl50 : Plans := fun i => if i = 4 then [(0, 0), (1, 0), (2, 0), (3, 0), (4, 0), (5, 0), (6, 0)] else []
@[push_cast] def Tryz.pl51 : Plans := fun i => []
@[push_cast] def Tryz.pl52 : Plans := fun i => []
@[push_cast] def Tryz.pl53 : Plans := fun i => []
@[push_cast] def Tryz.pl54 : Plans := fun i => []
@[push_cast] def Tryz.pl55 : Plans := fun i => []
@[push_cast] def Tryz.pl56 : Plans := fun i => if i = 9 then [(0, 0), (1, 0), (2, 0), (3, 0), (4, 0), (5, 0), (6, 0), (7, 0), (8, 0), (9, 0), (10, 0), (11, 0), (12, 0), (13, 1)] else []
@[push_cast] def Tryz.pl57 : Plans := fun i => []
@[push_cast] def Tryz.pl58 : Plans := fun i => []
@[push_cast] def Tryz.pl59 : Plans := fun i => []
@[push_cast] def Tryz.pl61 : Plans := fun i => if i = 4 then [(0, 0), (1, 0), (2, 0), (3, 0), (4, 0), (5, 0), (6, 0)] else if i = 6 then [(0, 0), (1, 0), (2, 0), (3, 0), (4, 0), (5, 0), (6, 0)] else []
@[push_cast] def Tryz.pl62 : Plans := fun i => []
@[push_cast] def Tryz.pl63 : Plans := fun i => []
@[push_cast] def Tryz.pl64 : Plans := fun i => []
@[push_cast] def Tryz.pl65 : Plans := fun i => []
@[push_cast] def Tryz.pl68 : Plans := fun i => []
@[push_cast] def Tryz.pl69 : Plans := fun i => []
@[push_cast] def Tryz.pl70 : Plans := fun i => if i = 7 then [(0, 0), (1, 0), (2, 0), (3, 0), (4, 0), (5, 0), (6, 0), (7, 0), (8, 0), (9, 0), (10, 0), (11, 2), (12, 0)] else []
@[push_cast] def Tryz.pl71 : Plans := fun i => []
@[push_cast] def Tryz.pl72 : Plans := fun i => if i = 6 then [(0, 0), (1, 0), (2, 0), (3, 0), (4, 0), (5, 0), (6, 0), (7, 0)] else []
@[push_cast] def Tryz.pl73 : Plans := fun i => if i = 3 then [(0, 0), (1, 0), (2, 0), (3, 2), (4, 1), (5, 0), (6, 3), (7, 3)] else []
@[push_cast] def Tryz.pl74 : Plans := fun i => if i = 1 then [(0, 0), (1, 0), (3, 0), (4, 0), (2, 2), (5, 2), (6, 2), (7, 2), (8, 1)] else []
@[push_cast] def Tryz.pl75 : Plans := fun i => []
@[push_cast] def Tryz.pl76 : Plans := fun i => if i = 3 then [(0, 0), (1, 0), (2, 0), (3, 0), (5, 0), (6, 0), (9, 0), (10, 0), (12, 0), (13, 0), (15, 0), (16, 0), (17, 0), (4, 2), (7, 0), (8, 2), (11, 2), (14, 2), (18, 2), (19, 2), (20, 2), (21, 2), (22, 0), (23, 0)] else []
@[push_cast] def Tryz.pl77 : Plans := fun i => []
@[push_cast] def Tryz.pl78 : Plans := fun i => []
@[push_cast] def Tryz.pl79 : Plans := fun i => []
@[push_cast] def Tryz.pl80 : Plans := fun i => []
@[push_cast] def Tryz.pl81 : Plans := fun i => []
@[push_cast] def Tryz.pl82 : Plans := fun i => []
@[push_cast] def Tryz.pl83 : Plans := fun i => []
@[push_cast] def Tryz.pl84 : Plans := fun i => []
@[push_cast] def Tryz.pl85 : Plans := fun i => if i = 4 then [(0, 0), (1, 0), (2, 0), (3, 0), (4, 0), (5, 0), (6, 0), (7, 0)] else []
@[push_cast] def Tryz.pl86 : Plans := fun i => []
@[push_cast] def Tryz.pl87 : Plans := fun i => []
@[push_cast] def Tryz.pl88 : Plans := fun i => []
@[push_cast] def Tryz.pl89 : Plans := fun i => []
@[push_cast] def Tryz.pl90 : Plans := fun i => []
@[push_cast] def Tryz.pl91 : Plans := fun i => []
@[push_cast] def Tryz.pl92 : Plans := fun i => []
@[push_cast] def Tryz.pl94 : Plans := fun i => if i = 4 then [(0, 0), (1, 0), (2, 0), (3, 0), (4, 0), (5, 0), (6, 0), (7, 0), (8, 0), (9, 0), (10, 0), (11, 0), (12, 0)] else []
@[push_cast] def Tryz.pl96 : Plans := fun i => []
@[push_cast] def Tryz.pl97 : Plans := fun i => []
@[push_cast] def Tryz.pl98 : Plans := fun i => []
@[push_cast] def Tryz.pl99 : Plans := fun i => if i = 6 then [(0, 0), (1, 0), (2, 0), (3, 0), (4, 0), (5, 0), (6, 0)] else if i = 7 then [(0, 0), (1, 0), (2, 0), (3, 0), (4, 0), (5, 0), (6, 0), (7, 0), (8, 0), (9, 0), (10, 0), (11, 0)] else []
@[push_cast] def Tryz.pl100 : Plans := fun i => []
@[push_cast] def Tryz.pl101 : Plans := fun i => []
@[push_cast] def Tryz.pl102 : Plans := fun i => []
@[push_cast] def Tryz.pl103 : Plans := fun i => []
@[push_cast] def Tryz.pl104 : Plans := fun i => []
@[push_cast] def Tryz.pl105 : Plans := fun i => []
@[push_cast] def Tryz.pl106 : Plans := fun i => if i = 3 then [(0, 0), (1, 0), (2, 0), (3, 0), (4, 0), (5, 0), (6, 0)] else []
@[push_cast] def Tryz.pl107 : Plans := fun i => if i = 4 then [(0, 0), (1, 0), (2, 0), (3, 0), (4, 0), (5, 0), (6, 0), (7, 0), (8, 0), (9, 0), (10, 0), (11, 0), (12, 0), (13, 0), (14, 0), (15, 0), (16, 0), (17, 0), (18, 0), (19, 0), (20, 0), (21, 0), (22, 0), (23, 1)] else []
@[push_cast] def Tryz.pl108 : Plans := fun i => []
@[push_cast] def Tryz.pl109 : Plans := fun i => if i = 5 then [(0, 0), (1, 0), (2, 0), (3, 0), (4, 0), (5, 0), (6, 0), (7, 0), (8, 0), (9, 0), (10, 1)] else if i = 9 then [(0, 0), (1, 0), (2, 0), (3, 0), (4, 0), (5, 0), (6, 0), (7, 0), (8, 0), (9, 0), (10, 0), (11, 0), (12, 0), (13, 0), (14, 0), (15, 0), (16, 0), (17, 0), (18, 0), (19, 0), (20, 1)] else []
@[push_cast] def Tryz.pl110 : Plans := fun i => []
@[push_cast] def Tryz.pl111 : Plans := fun i => []
@[push_cast] def Tryz.pl112 : Plans := fun i => []
@[push_cast] def Tryz.pl113 : Plans := fun i => []
@[push_cast] def Tryz.pl114 : Plans := fun i => []
@[push_cast] def Tryz.pl115 : Plans := fun i => if i = 11 then [(0, 0), (1, 0), (2, 0), (3, 0), (4, 0), (5, 0), (6, 0), (7, 0), (8, 0), (9, 0), (10, 0), (11, 0), (12, 0), (13, 0), (14, 0), (15, 0), (16, 0), (17, 0), (18, 1)] else if i = 20 then [(0, 0), (1, 0), (2, 0), (3, 0), (4, 0), (5, 0), (6, 0), (7, 0), (8, 0), (9, 0), (10, 0), (11, 0), (12, 0), (13, 0), (14, 0), (15, 1)] else []
@[push_cast] def Tryz.pl116 : Plans := fun i => []
@[push_cast] def Tryz.pl117 : Plans := fun i => if i = 4 then [(0, 0), (1, 0), (2, 0), (3, 0), (4, 0), (5, 0), (6, 0), (7, 0), (8, 0), (9, 0), (10, 0), (11, 0), (12, 0), (13, 0), (14, 0), (15, 0), (16, 0), (17, 0), (18, 0), (19, 0), (20, 0)] else []
@[push_cast] def Tryz.pl119 : Plans := fun i => []
@[push_cast] def Tryz.pl120 : Plans := fun i => []
@[push_cast] def Tryz.pl121 : Plans := fun i => []
@[push_cast] def Tryz.pl122 : Plans := fun i => []
@[push_cast] def Tryz.pl124 : Plans := fun i => []
@[push_cast] def Tryz.pl125 : Plans := fun i => []
@[push_cast] def Tryz.pl129 : Plans := fun i => []
@[push_cast] def Tryz.pl130 : Plans := fun i => []
@[push_cast] def Tryz.pl131 : Plans := fun i => []
@[push_cast] def Tryz.pl132 : Plans := fun i => []
@[push_cast] def Tryz.pl133 : Plans := fun i => []
@[push_cast] def Tryz.pl134 : Plans := fun i => []
@[push_cast] def Tryz.pl135 : Plans := fun i => []
@[push_cast] def Tryz.pl136 : Plans := fun i => if i = 8 then [(0, 0), (1, 0), (2, 0), (3, 0), (4, 0), (5, 0), (6, 0), (7, 0), (8, 0), (9, 0), (10, 1)] else if i = 9 then [(0, 0), (1, 0), (2, 0), (3, 0), (4, 0), (5, 0), (6, 0), (7, 0), (8, 0), (9, 0), (10, 1)] else if i = 10 then [(0, 0), (1, 0), (2, 0), (3, 0), (4, 0), (5, 0), (6, 0), (7, 0), (8, 0), (9, 0), (10, 1)] else if i = 11 then [(0, 0), (1, 0), (2, 0), (3, 0), (4, 0), (5, 0), (6, 0), (7, 0), (8, 0), (9, 0), (10, 1)] else []
@[push_cast] def Tryz.pl137 : Plans := fun i => if i = 11 then [(0, 0), (1, 0), (2, 0), (3, 0), (4, 0), (5, 0), (6, 0), (7, 0), (8, 0), (9, 0), (10, 0), (11, 0), (12, 0), (13, 0), (14, 0), (15, 0), (16, 0), (17, 0), (18, 0), (19, 0), (20, 0), (21, 0), (22, 0), (23, 0), (24, 0), (25, 0), (26, 0), (27, 0), (28, 0), (29, 0), (30, 0), (31, 0), (32, 0), (33, 0), (34, 1)] else []
@[push_cast] def Tryz.pl138 : Plans := fun i => []
@[push_cast] def Tryz.pl139 : Plans := fun i => []
@[push_cast] def Tryz.pl140 : Plans := fun i => if i = 21 then [(0, 0), (1, 0), (2, 0), (3, 0), (4, 0), (5, 0), (6, 0), (7, 0), (8, 0), (9, 0), (10, 0), (11, 0), (12, 0), (13, 0), (14, 0), (15, 0), (16, 0), (17, 0), (18, 0), (19, 0), (20, 0), (21, 0)] else []
@[push_cast] def Tryz.pl141 : Plans := fun i => if i = 1 then [(0, 0), (2, 0), (1, 2), (3, 2), (4, 0), (5, 0)] else []
@[push_cast] def Tryz.pl142 : Plans := fun i => if i = 0 then [(0, 0), (1, 0), (2, 0), (3, 0), (4, 0), (5, 0)] else if i = 3 then [(0, 0), (1, 0), (2, 0), (3, 0), (4, 0), (5, 0), (6, 0), (7, 0), (8, 0), (9, 0), (10, 0), (11, 0)] else if i = 10 then [(0, 0), (1, 0), (2, 0), (3, 0), (4, 0), (5, 0), (6, 0), (8, 0), (9, 0), (10, 0), (7, 4), (11, 3), (12, 0), (13, 1), (14, 0)] else if i = 12 then [(0, 0), (1, 0), (2, 0), (3, 0), (4, 0), (5, 0), (6, 0), (8, 0), (9, 0), (10, 0), (7, 4), (11, 3), (12, 0), (13, 1), (14, 0), (15, 1), (16, 0)] else []
@[push_cast] def Tryz.pl143 : Plans := fun i => []
@[push_cast] def Tryz.pl147 : Plans := fun i => []
@[push_cast] def Tryz.pl148 : Plans := fun i => []
@[push_cast] def Tryz.pl149 : Plans := fun i => []
@[push_cast] def Tryz.pl150 : Plans := fun i => []
@[push_cast] def Tryz.pl151 : Plans := fun i => []
@[push_cast] def Tryz.pl152 : Plans := fun i => []
@[push_cast] def Tryz.pl153 : Plans := fun i => []
@[push_cast] def Tryz.pl157 : Plans := fun i => []
@[push_cast] def Tryz.pl158 : Plans := fun i => if i = 3 then [(0, 0), (1, 0), (2, 0), (3, 0), (4, 0), (5, 0), (6, 0), (7, 0), (8, 0), (9, 0), (10, 0), (11, 0), (12, 0), (13, 1), (14, 0), (15, 1)] else []
@[push_cast] def Tryz.pl159 : Plans := fun i => []
theorem Tryz.mix : Tryz.prog.follows .mixedOrders = true := by kernel_rfl
end Go.Proofs
