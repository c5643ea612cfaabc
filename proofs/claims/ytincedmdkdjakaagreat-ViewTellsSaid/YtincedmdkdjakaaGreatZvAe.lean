/- Texts of this claim, merged by program: Facts. -/
import Derived.Test.YtincedmdkdjakaaGreatZvAc
import Derived.Test.YtincedmdkdjakaaGreatRows
import Derived.KernelRfl
set_option linter.unusedSimpArgs false
set_option linter.unusedVariables false
namespace Go.Proofs
open Go Go.Ev
@[push_cast] theorem Tryz.ty3 : tyI Tryz.prog 3 = some (1, false) := by kernel_rfl
@[push_cast] theorem Tryz.zl3 : zeroL Tryz.prog 3 = some [.int .i64 0] := by kernel_rfl
@[push_cast] theorem Tryz.in3 : intI Tryz.prog 3 = some .i64 := by kernel_rfl
@[push_cast] theorem Tryz.st3 : isStr Tryz.prog 3 = false := by kernel_rfl
@[push_cast] theorem Tryz.by3 : isBytes Tryz.prog 3 = false := by kernel_rfl
@[push_cast] theorem Tryz.ty4 : tyI Tryz.prog 4 = some (1, false) := by kernel_rfl
@[push_cast] theorem Tryz.zl4 : zeroL Tryz.prog 4 = some [.bool false] := by kernel_rfl
attribute [push_cast] Tryz.underlying4
@[push_cast] theorem Tryz.ty5 : tyI Tryz.prog 5 = some (1, false) := by kernel_rfl
@[push_cast] theorem Tryz.in5 : intI Tryz.prog 5 = some .u8 := by kernel_rfl
@[push_cast] theorem Tryz.st5 : isStr Tryz.prog 5 = false := by kernel_rfl
@[push_cast] theorem Tryz.by5 : isBytes Tryz.prog 5 = false := by kernel_rfl
@[push_cast] theorem Tryz.ty9 : tyI Tryz.prog 9 = some (1, false) := by kernel_rfl
@[push_cast] theorem Tryz.zl9 : zeroL Tryz.prog 9 = some [.string ByteArray.empty] := by kernel_rfl
@[push_cast] theorem Tryz.st9 : isStr Tryz.prog 9 = true := by kernel_rfl
@[push_cast] theorem Tryz.el22 : elemI Tryz.prog 22 = some (none, 4, true) := by kernel_rfl
@[push_cast] theorem Tryz.ty23 : tyI Tryz.prog 23 = some (1, false) := by kernel_rfl
@[push_cast] theorem Tryz.el23 : elemI Tryz.prog 23 = some (none, 2, true) := by kernel_rfl
@[push_cast] theorem Tryz.ty24 : tyI Tryz.prog 24 = some (2, true) := by kernel_rfl
@[push_cast] theorem Tryz.el24 : elemI Tryz.prog 24 = some (some 2, 1, false) := by kernel_rfl
@[push_cast] theorem Tryz.el25 : elemI Tryz.prog 25 = some (some 2, 1, false) := by kernel_rfl
@[push_cast] theorem Tryz.ty27 : tyI Tryz.prog 27 = some (1, false) := by kernel_rfl
@[push_cast] theorem Tryz.zl27 : zeroL Tryz.prog 27 = some [.slice none 0 0] := by kernel_rfl
@[push_cast] theorem Tryz.el27 : elemI Tryz.prog 27 = some (none, 27, true) := by kernel_rfl
@[push_cast] theorem Tryz.sl27 : slI Tryz.prog 27 = some (53, 27, 104) := by kernel_rfl
attribute [push_cast] Tryz.underlying27
@[push_cast] theorem Tryz.in27 : intI Tryz.prog 27 = none := by kernel_rfl
@[push_cast] theorem Tryz.st27 : isStr Tryz.prog 27 = false := by kernel_rfl
@[push_cast] theorem Tryz.ty28 : tyI Tryz.prog 28 = some (1, false) := by kernel_rfl
@[push_cast] theorem Tryz.zl28 : zeroL Tryz.prog 28 = some [.slice none 0 0] := by kernel_rfl
@[push_cast] theorem Tryz.el28 : elemI Tryz.prog 28 = some (none, 25, true) := by kernel_rfl
@[push_cast] theorem Tryz.sl28 : slI Tryz.prog 28 = some (45, 25, 56) := by kernel_rfl
attribute [push_cast] Tryz.underlying28
@[push_cast] theorem Tryz.in28 : intI Tryz.prog 28 = none := by kernel_rfl
@[push_cast] theorem Tryz.st28 : isStr Tryz.prog 28 = false := by kernel_rfl
@[push_cast] theorem Tryz.ty30 : tyI Tryz.prog 30 = some (2, true) := by kernel_rfl
@[push_cast] theorem Tryz.zl30 : zeroL Tryz.prog 30 = some [.slice none 0 0, .slice none 0 0] := by kernel_rfl
@[push_cast] theorem Tryz.fi30_0 : fieldI Tryz.prog 30 0 = some (0, 1, false) := by kernel_rfl
@[push_cast] theorem Tryz.pl30_0 : placeOf Tryz.prog 30 0 = some (0, 1) := by kernel_rfl
@[push_cast] theorem Tryz.fi30_1 : fieldI Tryz.prog 30 1 = some (1, 1, false) := by kernel_rfl
@[push_cast] theorem Tryz.pl30_1 : placeOf Tryz.prog 30 1 = some (1, 1) := by kernel_rfl
@[push_cast] theorem Tryz.fo30 : fieldsOk Tryz.prog 30 = true := by kernel_rfl
@[push_cast] theorem Tryz.ty31 : tyI Tryz.prog 31 = some (1, false) := by kernel_rfl
@[push_cast] theorem Tryz.el31 : elemI Tryz.prog 31 = some (none, 35, true) := by kernel_rfl
@[push_cast] theorem Tryz.sl31 : slI Tryz.prog 31 = some (74, 35, 144) := by kernel_rfl
attribute [push_cast] Tryz.underlying31
@[push_cast] theorem Tryz.in31 : intI Tryz.prog 31 = none := by kernel_rfl
@[push_cast] theorem Tryz.st31 : isStr Tryz.prog 31 = false := by kernel_rfl
@[push_cast] theorem Tryz.ty33 : tyI Tryz.prog 33 = some (4, true) := by kernel_rfl
@[push_cast] theorem Tryz.zl33 : zeroL Tryz.prog 33 = some [.slice none 0 0, .slice none 0 0, .slice none 0 0, .slice none 0 0] := by kernel_rfl
@[push_cast] theorem Tryz.fi33_0 : fieldI Tryz.prog 33 0 = some (0, 1, false) := by kernel_rfl
@[push_cast] theorem Tryz.pl33_0 : placeOf Tryz.prog 33 0 = some (0, 1) := by kernel_rfl
@[push_cast] theorem Tryz.fi33_1 : fieldI Tryz.prog 33 1 = some (1, 2, true) := by kernel_rfl
@[push_cast] theorem Tryz.pl33_1 : placeOf Tryz.prog 33 1 = some (1, 2) := by kernel_rfl
@[push_cast] theorem Tryz.fi33_2 : fieldI Tryz.prog 33 2 = some (3, 1, false) := by kernel_rfl
@[push_cast] theorem Tryz.pl33_2 : placeOf Tryz.prog 33 2 = some (3, 1) := by kernel_rfl
@[push_cast] theorem Tryz.fo33 : fieldsOk Tryz.prog 33 = true := by kernel_rfl
@[push_cast] theorem Tryz.ty36 : tyI Tryz.prog 36 = some (20, true) := by kernel_rfl
@[push_cast] theorem Tryz.zl36 : zeroL Tryz.prog 36 = some [.int .u8 0, .int .u8 0, .int .u8 0, .int .u8 0, .int .u8 0, .int .u8 0, .int .u8 0, .int .u8 0, .int .u8 0, .int .u8 0, .int .u8 0, .int .u8 0, .int .u8 0, .int .u8 0, .int .u8 0, .int .u8 0, .int .u8 0, .int .u8 0, .int .u8 0, .int .u8 0] := by kernel_rfl
@[push_cast] theorem Tryz.el36 : elemI Tryz.prog 36 = some (some 20, 1, false) := by kernel_rfl
@[push_cast] theorem Tryz.st36 : isStr Tryz.prog 36 = false := by kernel_rfl
@[push_cast] theorem Tryz.pl36_0 : placeOf Tryz.prog 36 0 = some (0, 1) := by kernel_rfl
@[push_cast] theorem Tryz.fo36 : fieldsOk Tryz.prog 36 = true := by kernel_rfl
@[push_cast] theorem Tryz.ty37 : tyI Tryz.prog 37 = some (1, false) := by kernel_rfl
@[push_cast] theorem Tryz.zl37 : zeroL Tryz.prog 37 = some [.int .u64 0] := by kernel_rfl
@[push_cast] theorem Tryz.in37 : intI Tryz.prog 37 = some .u64 := by kernel_rfl
@[push_cast] theorem Tryz.st37 : isStr Tryz.prog 37 = false := by kernel_rfl
@[push_cast] theorem Tryz.by37 : isBytes Tryz.prog 37 = false := by kernel_rfl
@[push_cast] theorem Tryz.ty39 : tyI Tryz.prog 39 = some (4, true) := by kernel_rfl
@[push_cast] theorem Tryz.zl39 : zeroL Tryz.prog 39 = some [.int .u64 0, .int .u64 0, .int .u64 0, .int .u64 0] := by kernel_rfl
@[push_cast] theorem Tryz.el39 : elemI Tryz.prog 39 = some (some 4, 1, false) := by kernel_rfl
@[push_cast] theorem Tryz.st39 : isStr Tryz.prog 39 = false := by kernel_rfl
@[push_cast] theorem Tryz.pl39_0 : placeOf Tryz.prog 39 0 = some (0, 1) := by kernel_rfl
@[push_cast] theorem Tryz.fo39 : fieldsOk Tryz.prog 39 = true := by kernel_rfl
@[push_cast] theorem Tryz.fk39 : flatK Tryz.prog 12 39 = some [.i, .i, .i, .i] := by kernel_rfl
@[push_cast] theorem Tryz.eg39 : Program.eqGuardType Tryz.prog (Program.depth Tryz.prog) 39 = false := by kernel_rfl
@[push_cast] theorem Tryz.ty41 : tyI Tryz.prog 41 = some (31, true) := by kernel_rfl
@[push_cast] theorem Tryz.zl41 : zeroL Tryz.prog 41 = some [.int .i64 0, .int .u8 0, .int .u8 0, .int .u8 0, .int .u8 0, .int .u8 0, .int .u8 0, .int .u8 0, .int .u8 0, .int .u8 0, .int .u8 0, .int .u8 0, .int .u8 0, .int .u8 0, .int .u8 0, .int .u8 0, .int .u8 0, .int .u8 0, .int .u8 0, .int .u8 0, .int .u8 0, .int .u64 0, .int .u64 0, .int .u64 0, .int .u64 0, .int .u64 0, .int .u64 0, .int .u64 0, .int .u64 0, .int .i64 0, .string ByteArray.empty] := by kernel_rfl
@[push_cast] theorem Tryz.fi41_0 : fieldI Tryz.prog 41 0 = some (0, 1, false) := by kernel_rfl
@[push_cast] theorem Tryz.pl41_0 : placeOf Tryz.prog 41 0 = some (0, 1) := by kernel_rfl
@[push_cast] theorem Tryz.fi41_1 : fieldI Tryz.prog 41 1 = some (1, 20, true) := by kernel_rfl
@[push_cast] theorem Tryz.pl41_1 : placeOf Tryz.prog 41 1 = some (1, 20) := by kernel_rfl
@[push_cast] theorem Tryz.fi41_2 : fieldI Tryz.prog 41 2 = some (21, 4, true) := by kernel_rfl
@[push_cast] theorem Tryz.fi41_3 : fieldI Tryz.prog 41 3 = some (25, 4, true) := by kernel_rfl
@[push_cast] theorem Tryz.fi41_4 : fieldI Tryz.prog 41 4 = some (29, 1, false) := by kernel_rfl
@[push_cast] theorem Tryz.fi41_5 : fieldI Tryz.prog 41 5 = some (30, 1, false) := by kernel_rfl
@[push_cast] theorem Tryz.fo41 : fieldsOk Tryz.prog 41 = true := by kernel_rfl
@[push_cast] theorem Tryz.ty43 : tyI Tryz.prog 43 = some (4, true) := by kernel_rfl
@[push_cast] theorem Tryz.el43 : elemI Tryz.prog 43 = some (some 4, 1, false) := by kernel_rfl
@[push_cast] theorem Tryz.ty45 : tyI Tryz.prog 45 = some (25, true) := by kernel_rfl
@[push_cast] theorem Tryz.zl45 : zeroL Tryz.prog 45 = some [.int .u8 0, .int .u8 0, .int .u8 0, .int .u8 0, .int .u8 0, .int .u8 0, .int .u8 0, .int .u8 0, .int .u8 0, .int .u8 0, .int .u8 0, .int .u8 0, .int .u8 0, .int .u8 0, .int .u8 0, .int .u8 0, .int .u8 0, .int .u8 0, .int .u8 0, .int .u8 0, .bool false, .int .u64 0, .int .u64 0, .int .u64 0, .int .u64 0] := by kernel_rfl
@[push_cast] theorem Tryz.fi45_0 : fieldI Tryz.prog 45 0 = some (0, 20, true) := by kernel_rfl
@[push_cast] theorem Tryz.pl45_0 : placeOf Tryz.prog 45 0 = some (0, 20) := by kernel_rfl
@[push_cast] theorem Tryz.fi45_1 : fieldI Tryz.prog 45 1 = some (20, 1, false) := by kernel_rfl
@[push_cast] theorem Tryz.pl45_1 : placeOf Tryz.prog 45 1 = some (20, 1) := by kernel_rfl
@[push_cast] theorem Tryz.fi45_2 : fieldI Tryz.prog 45 2 = some (21, 4, true) := by kernel_rfl
@[push_cast] theorem Tryz.pl45_2 : placeOf Tryz.prog 45 2 = some (21, 4) := by kernel_rfl
@[push_cast] theorem Tryz.fo45 : fieldsOk Tryz.prog 45 = true := by kernel_rfl
@[push_cast] theorem Tryz.ty47 : tyI Tryz.prog 47 = some (1, false) := by kernel_rfl
@[push_cast] theorem Tryz.zl47 : zeroL Tryz.prog 47 = some [.int .i64 0] := by kernel_rfl
@[push_cast] theorem Tryz.ty51 : tyI Tryz.prog 51 = some (1, false) := by kernel_rfl
@[push_cast] theorem Tryz.zl51 : zeroL Tryz.prog 51 = some [.slice none 0 0] := by kernel_rfl
@[push_cast] theorem Tryz.el51 : elemI Tryz.prog 51 = some (none, 8, true) := by kernel_rfl
@[push_cast] theorem Tryz.sl51 : slI Tryz.prog 51 = some (91, 8, 64) := by kernel_rfl
attribute [push_cast] Tryz.underlying51
@[push_cast] theorem Tryz.in51 : intI Tryz.prog 51 = none := by kernel_rfl
@[push_cast] theorem Tryz.ty53 : tyI Tryz.prog 53 = some (27, true) := by kernel_rfl
@[push_cast] theorem Tryz.zl53 : zeroL Tryz.prog 53 = some [.int .u8 0, .int .u8 0, .int .u8 0, .int .u8 0, .int .u8 0, .int .u8 0, .int .u8 0, .int .u8 0, .int .u8 0, .int .u8 0, .int .u8 0, .int .u8 0, .int .u8 0, .int .u8 0, .int .u8 0, .int .u8 0, .int .u8 0, .int .u8 0, .int .u8 0, .int .u8 0, .int .u64 0, .int .u64 0, .int .u64 0, .int .u64 0, .int .i64 0, .string ByteArray.empty, .slice none 0 0] := by kernel_rfl
@[push_cast] theorem Tryz.fi53_0 : fieldI Tryz.prog 53 0 = some (0, 20, true) := by kernel_rfl
@[push_cast] theorem Tryz.pl53_0 : placeOf Tryz.prog 53 0 = some (0, 20) := by kernel_rfl
@[push_cast] theorem Tryz.fi53_1 : fieldI Tryz.prog 53 1 = some (20, 4, true) := by kernel_rfl
@[push_cast] theorem Tryz.pl53_1 : placeOf Tryz.prog 53 1 = some (20, 4) := by kernel_rfl
@[push_cast] theorem Tryz.fi53_2 : fieldI Tryz.prog 53 2 = some (24, 1, false) := by kernel_rfl
@[push_cast] theorem Tryz.pl53_2 : placeOf Tryz.prog 53 2 = some (24, 1) := by kernel_rfl
@[push_cast] theorem Tryz.fi53_3 : fieldI Tryz.prog 53 3 = some (25, 1, false) := by kernel_rfl
@[push_cast] theorem Tryz.pl53_3 : placeOf Tryz.prog 53 3 = some (25, 1) := by kernel_rfl
@[push_cast] theorem Tryz.fi53_4 : fieldI Tryz.prog 53 4 = some (26, 1, false) := by kernel_rfl
@[push_cast] theorem Tryz.pl53_4 : placeOf Tryz.prog 53 4 = some (26, 1) := by kernel_rfl
@[push_cast] theorem Tryz.fo53 : fieldsOk Tryz.prog 53 = true := by kernel_rfl
@[push_cast] theorem Tryz.ty74 : tyI Tryz.prog 74 = some (35, true) := by kernel_rfl
@[push_cast] theorem Tryz.zl74 : zeroL Tryz.prog 74 = some [.int .u8 0, .int .u8 0, .int .u8 0, .int .u8 0, .int .u8 0, .int .u8 0, .int .u8 0, .int .u8 0, .int .u8 0, .int .u8 0, .int .u8 0, .int .u8 0, .int .u8 0, .int .u8 0, .int .u8 0, .int .u8 0, .int .u8 0, .int .u8 0, .int .u8 0, .int .u8 0, .bool false, .int .u64 0, .int .u64 0, .int .u64 0, .int .u64 0, .int .u64 0, .int .u64 0, .int .u64 0, .int .u64 0, .int .i64 0, .string ByteArray.empty, .int .u64 0, .int .u64 0, .int .u64 0, .int .u64 0] := by kernel_rfl
@[push_cast] theorem Tryz.fi74_0 : fieldI Tryz.prog 74 0 = some (0, 25, true) := by kernel_rfl
@[push_cast] theorem Tryz.pl74_0 : placeOf Tryz.prog 74 0 = some (0, 25) := by kernel_rfl
@[push_cast] theorem Tryz.fi74_1 : fieldI Tryz.prog 74 1 = some (25, 4, true) := by kernel_rfl
@[push_cast] theorem Tryz.pl74_1 : placeOf Tryz.prog 74 1 = some (25, 4) := by kernel_rfl
@[push_cast] theorem Tryz.fi74_2 : fieldI Tryz.prog 74 2 = some (29, 1, false) := by kernel_rfl
@[push_cast] theorem Tryz.pl74_2 : placeOf Tryz.prog 74 2 = some (29, 1) := by kernel_rfl
@[push_cast] theorem Tryz.fi74_3 : fieldI Tryz.prog 74 3 = some (30, 1, false) := by kernel_rfl
@[push_cast] theorem Tryz.pl74_3 : placeOf Tryz.prog 74 3 = some (30, 1) := by kernel_rfl
@[push_cast] theorem Tryz.fi74_4 : fieldI Tryz.prog 74 4 = some (31, 4, true) := by kernel_rfl
@[push_cast] theorem Tryz.pl74_4 : placeOf Tryz.prog 74 4 = some (31, 4) := by kernel_rfl
@[push_cast] theorem Tryz.fo74 : fieldsOk Tryz.prog 74 = true := by kernel_rfl
@[push_cast] theorem Tryz.el76 : elemI Tryz.prog 76 = some (none, 4, true) := by kernel_rfl
@[push_cast] theorem Tryz.sl76 : slI Tryz.prog 76 = some (33, 4, 96) := by kernel_rfl
@[push_cast] theorem Tryz.el81 : elemI Tryz.prog 81 = some (none, 1, false) := by kernel_rfl
@[push_cast] theorem Tryz.sl81 : slI Tryz.prog 81 = some (27, 1, 24) := by kernel_rfl
@[push_cast] theorem Tryz.el86 : elemI Tryz.prog 86 = some (none, 1, false) := by kernel_rfl
@[push_cast] theorem Tryz.sl86 : slI Tryz.prog 86 = some (3, 1, 8) := by kernel_rfl
@[push_cast] theorem Tryz.ty91 : tyI Tryz.prog 91 = some (8, true) := by kernel_rfl
@[push_cast] theorem Tryz.zl91 : zeroL Tryz.prog 91 = some [.int .u64 0, .int .u64 0, .int .u64 0, .int .u64 0, .int .u64 0, .int .u64 0, .int .u64 0, .int .u64 0] := by kernel_rfl
@[push_cast] theorem Tryz.fi91_0 : fieldI Tryz.prog 91 0 = some (0, 4, true) := by kernel_rfl
@[push_cast] theorem Tryz.pl91_0 : placeOf Tryz.prog 91 0 = some (0, 4) := by kernel_rfl
@[push_cast] theorem Tryz.fi91_1 : fieldI Tryz.prog 91 1 = some (4, 4, true) := by kernel_rfl
@[push_cast] theorem Tryz.pl91_1 : placeOf Tryz.prog 91 1 = some (4, 4) := by kernel_rfl
@[push_cast] theorem Tryz.fo91 : fieldsOk Tryz.prog 91 = true := by kernel_rfl
@[push_cast] theorem Tryz.fk91 : flatK Tryz.prog 12 91 = some [.i, .i, .i, .i, .i, .i, .i, .i] := by kernel_rfl
@[push_cast] theorem Tryz.eg91 : Program.eqGuardType Tryz.prog (Program.depth Tryz.prog) 91 = false := by kernel_rfl
@[push_cast] theorem Tryz.el95 : elemI Tryz.prog 95 = some (none, 1, false) := by kernel_rfl
@[push_cast] theorem Tryz.sl95 : slI Tryz.prog 95 = some (9, 1, 16) := by kernel_rfl
@[push_cast] theorem Tryz.ty120 : tyI Tryz.prog 120 = some (1, false) := by kernel_rfl
@[push_cast] theorem Tryz.el120 : elemI Tryz.prog 120 = some (none, 1, false) := by kernel_rfl
@[push_cast] theorem Tryz.sl120 : slI Tryz.prog 120 = some (28, 1, 24) := by kernel_rfl
@[push_cast] theorem Tryz.ty142 : tyI Tryz.prog 142 = some (1, false) := by kernel_rfl
@[push_cast] theorem Tryz.in152 : intI Tryz.prog 152 = some .u64 := by kernel_rfl
@[push_cast] theorem Tryz.st152 : isStr Tryz.prog 152 = false := by kernel_rfl
@[push_cast] theorem Tryz.by152 : isBytes Tryz.prog 152 = false := by kernel_rfl
@[push_cast] theorem Tryz.ty164 : tyI Tryz.prog 164 = some (1, false) := by kernel_rfl
@[push_cast] theorem Tryz.el164 : elemI Tryz.prog 164 = some (none, 8, true) := by kernel_rfl
@[push_cast] theorem Tryz.sl164 : slI Tryz.prog 164 = some (178, 8, 64) := by kernel_rfl
@[push_cast] theorem Tryz.in164 : intI Tryz.prog 164 = none := by kernel_rfl
@[push_cast] theorem Tryz.st164 : isStr Tryz.prog 164 = false := by kernel_rfl
@[push_cast] theorem Tryz.ty166 : tyI Tryz.prog 166 = some (2, true) := by kernel_rfl
@[push_cast] theorem Tryz.zl166 : zeroL Tryz.prog 166 = some [.slice none 0 0, .nilFunc] := by kernel_rfl
@[push_cast] theorem Tryz.fi166_0 : fieldI Tryz.prog 166 0 = some (0, 1, false) := by kernel_rfl
@[push_cast] theorem Tryz.fi166_1 : fieldI Tryz.prog 166 1 = some (1, 1, false) := by kernel_rfl
@[push_cast] theorem Tryz.pl166_1 : placeOf Tryz.prog 166 1 = some (1, 1) := by kernel_rfl
@[push_cast] theorem Tryz.fo166 : fieldsOk Tryz.prog 166 = true := by kernel_rfl
@[push_cast] theorem Tryz.ty170 : tyI Tryz.prog 170 = some (13, true) := by kernel_rfl
@[push_cast] theorem Tryz.zl170 : zeroL Tryz.prog 170 = some [.int .u64 0, .int .u64 0, .int .u64 0, .int .u64 0, .int .u64 0, .int .u64 0, .int .u64 0, .int .u64 0, .int .u64 0, .int .u64 0, .int .u64 0, .int .u64 0, .bool false] := by kernel_rfl
@[push_cast] theorem Tryz.fi170_0 : fieldI Tryz.prog 170 0 = some (0, 4, true) := by kernel_rfl
@[push_cast] theorem Tryz.fi170_1 : fieldI Tryz.prog 170 1 = some (4, 4, true) := by kernel_rfl
@[push_cast] theorem Tryz.fi170_2 : fieldI Tryz.prog 170 2 = some (8, 4, true) := by kernel_rfl
@[push_cast] theorem Tryz.fi170_3 : fieldI Tryz.prog 170 3 = some (12, 1, false) := by kernel_rfl
@[push_cast] theorem Tryz.el174 : elemI Tryz.prog 174 = some (none, 1, false) := by kernel_rfl
@[push_cast] theorem Tryz.sl174 : slI Tryz.prog 174 = some (37, 1, 8) := by kernel_rfl
attribute [push_cast] Tryz.underlying174
@[push_cast] theorem Tryz.in174 : intI Tryz.prog 174 = none := by kernel_rfl
@[push_cast] theorem Tryz.zl178 : zeroL Tryz.prog 178 = some [.int .u64 0, .int .u64 0, .int .u64 0, .int .u64 0, .int .u64 0, .int .u64 0, .int .u64 0, .int .u64 0] := by kernel_rfl
@[push_cast] theorem Tryz.fi178_0 : fieldI Tryz.prog 178 0 = some (0, 4, true) := by kernel_rfl
@[push_cast] theorem Tryz.pl178_0 : placeOf Tryz.prog 178 0 = some (0, 4) := by kernel_rfl
@[push_cast] theorem Tryz.fi178_1 : fieldI Tryz.prog 178 1 = some (4, 4, true) := by kernel_rfl
@[push_cast] theorem Tryz.pl178_1 : placeOf Tryz.prog 178 1 = some (4, 4) := by kernel_rfl
@[push_cast] theorem Tryz.fo178 : fieldsOk Tryz.prog 178 = true := by kernel_rfl
@[push_cast] def Tryz.pl7 : Plans := fun i => if i = 19 then [(0, 0), (1, 0), (2, 0), (3, 0), (4, 0), (5, 0), (6, 0), (7, 0), (8, 0), (9, 0), (10, 0), (11, 0), (12, 0), (13, 0), (14, 0), (15, 0)] else []
@[push_cast] def Tryz.pl10 : Plans := fun i => if i = 3 then [(0, 0), (1, 0), (2, 0), (3, 0), (4, 0), (5, 0), (6, 2), (7, 0), (8, 2), (9, 0)] else if i = 4 then [(0, 0), (1, 0), (2, 0), (3, 0), (4, 2), (5, 1)] else if i = 6 then [(0, 0), (1, 0), (2, 0), (3, 0), (4, 0), (5, 0), (6, 0), (7, 0), (8, 2), (9, 1), (10, 0)] else if i = 7 then [(0, 0), (1, 0), (2, 0), (3, 0), (4, 0), (5, 0), (6, 0), (7, 0), (8, 0), (9, 0), (10, 2), (11, 1), (12, 0)] else if i = 10 then [(0, 0), (1, 0), (2, 0), (3, 0), (4, 0), (5, 0), (6, 2), (7, 0), (8, 0), (9, 0), (10, 1), (11, 0)] else if i = 11 then [(0, 0), (1, 0), (2, 0), (3, 0), (4, 0), (5, 0), (6, 0), (7, 0), (8, 2), (9, 1), (10, 0)] else if i = 16 then [(0, 0), (1, 0), (2, 0), (3, 0), (4, 0), (5, 0), (6, 0), (7, 0), (8, 0), (9, 0), (10, 0), (11, 0), (12, 0), (13, 0), (14, 0), (15, 0), (16, 0), (17, 0), (18, 0), (19, 0), (20, 0), (21, 0), (22, 0), (23, 0), (24, 0), (25, 0), (26, 0), (27, 0), (28, 0), (29, 0), (30, 0), (31, 0), (32, 0), (33, 0), (34, 0), (35, 0), (36, 0), (37, 0), (38, 0), (39, 0), (40, 0), (41, 0), (42, 0), (43, 0), (44, 0), (45, 0), (46, 0), (47, 0), (48, 0), (49, 0), (50, 0), (51, 0), (52, 0), (53, 0), (54, 0), (55, 0), (56, 0), (57, 0), (58, 0), (59, 0), (60, 0), (61, 0), (62, 0), (63, 0), (64, 2), (65, 0), (66, 0), (67, 0), (68, 0), (69, 0)] else []
@[push_cast] def Tryz.pl11 : Plans := fun i => if i = 1 then [(0, 0), (1, 0), (2, 0), (3, 0), (4, 0), (5, 0), (6, 0), (7, 0), (8, 0), (9, 0), (10, 0), (11, 2), (12, 1), (13, 0)] else if i = 5 then [(0, 0), (1, 0), (2, 0), (3, 0), (4, 0), (5, 2), (6, 1)] else []
@[push_cast] def Tryz.pl12 : Plans := fun i => if i = 1 then [(0, 0), (1, 0), (2, 0), (3, 0), (4, 0), (5, 0), (6, 0), (7, 0), (8, 2), (9, 1)] else []
@[push_cast] def Tryz.pl13 : Plans := fun i => []
@[push_cast] def Tryz.pl14 : Plans := fun i => if i = 24 then [(0, 0), (1, 0), (2, 0), (3, 1), (4, 0)] else []
@[push_cast] def Tryz.pl15 : Plans := fun i => []
@[push_cast] def Tryz.pl16 : Plans := fun i => []
@[push_cast] def Tryz.pl17 : Plans := fun i => []
@[push_cast] def Tryz.pl18 : Plans := fun i => []
@[push_cast] def Tryz.pl19 : Plans := fun i => if i = 6 then [(0, 0), (1, 0), (2, 0), (3, 0), (4, 0), (5, 0), (6, 0), (7, 0), (8, 0), (9, 0), (10, 2), (11, 1), (12, 0)] else []
@[push_cast] def Tryz.pl20 : Plans := fun i => if i = 4 then [(0, 0), (1, 0), (2, 0), (3, 0), (4, 0), (5, 0), (6, 0), (7, 0), (8, 0), (9, 0), (10, 0), (11, 0), (12, 0), (13, 0), (14, 0), (15, 0), (16, 0), (17, 0), (18, 0), (19, 0), (20, 0), (21, 0), (22, 0), (23, 0), (24, 0), (25, 0), (26, 0), (27, 0), (28, 0), (29, 0), (30, 0), (31, 0)] else []
@[push_cast] def Tryz.pl21 : Plans := fun i => if i = 4 then [(0, 0), (1, 0), (2, 0), (3, 0), (4, 0), (5, 0), (6, 0)] else []
@[push_cast] def Tryz.pl22 : Plans := fun i => if i = 4 then [(0, 0), (1, 0), (2, 0), (3, 0), (4, 0), (5, 0), (6, 0)] else []
@[push_cast] def Tryz.pl24 : Plans := fun i => if i = 6 then [(0, 0), (1, 0), (2, 0), (3, 0), (4, 0), (5, 0), (6, 0), (7, 0), (8, 0), (9, 0)] else []
@[push_cast] def Tryz.pl25 : Plans := fun i => []
@[push_cast] def Tryz.pl26 : Plans := fun i => []
@[push_cast] def Tryz.pl27 : Plans := fun i => []
@[push_cast] def Tryz.pl28 : Plans := fun i => []
@[push_cast] def Tryz.pl29 : Plans := fun i => if i = 4 then [(0, 0), (1, 0), (2, 0), (3, 0), (4, 0), (5, 0), (6, 0), (7, 0), (8, 0), (9, 0), (10, 0), (11, 0), (12, 0), (13, 0), (14, 0), (15, 0), (16, 0), (17, 0), (18, 0), (19, 0), (20, 0), (21, 0), (22, 0), (23, 0), (24, 0), (25, 0)] else []
@[push_cast] def Tryz.pl30 : Plans := fun i => if i = 4 then [(0, 0), (1, 0), (2, 0), (3, 0), (4, 0), (5, 0), (6, 0), (7, 0), (8, 0), (9, 0), (10, 0), (11, 0), (12, 0), (13, 0), (14, 0), (15, 0), (16, 0), (17, 0), (18, 0), (19, 0), (20, 0), (21, 0), (22, 0), (23, 0), (24, 0), (25, 0), (26, 0), (27, 0), (28, 0), (29, 0), (30, 0), (31, 0), (32, 0), (33, 0), (34, 0), (35, 0), (36, 0), (37, 0), (38, 0), (39, 0)] else []
@[push_cast] def Tryz.pl31 : Plans := fun i => if i = 6 then [(0, 0), (1, 0), (2, 0), (3, 0), (4, 0), (5, 0), (6, 0), (7, 0), (8, 0), (9, 0), (10, 0)] else []
@[push_cast] def Tryz.pl32 : Plans := fun i => []
@[push_cast] def Tryz.pl33 : Plans := fun i => if i = 9 then [(0, 0), (1, 0), (2, 0), (5, 0), (3, 2), (4, 0), (6, 0), (7, 1), (8, 0)] else []
@[push_cast] def Tryz.pl34 : Plans := fun i => []
@[push_cast] def Tryz.pl35 : Plans := fun i => []
@[push_cast] def Tryz.pl36 : Plans := fun i => []
@[push_cast] def Tryz.pl37 : Plans := fun i => []
@[push_cast] def Tryz.pl38 : Plans := fun i => []
@[push_cast] def Tryz.pl39 : Plans := fun i => []
@[push_cast] def Tryz.pl41 : Plans := fun i => []
@[push_cast] def Tryz.pl42 : Plans := fun i => []
@[push_cast] def Tryz.pl43 : Plans := fun i => if i = 4 then [(0, 0), (1, 0), (2, 0), (3, 0), (4, 0), (5, 0), (6, 0), (7, 0), (8, 0), (9, 2), (10, 0), (11, 0), (12, 0), (13, 1)] else if i = 5 then [(0, 0), (1, 0), (2, 0), (3, 0), (4, 0), (5, 0), (6, 0), (7, 0), (8, 0), (9, 0), (10, 0), (11, 2), (12, 0), (13, 0), (14, 0), (15, 1)] else []
@[push_cast] def Tryz.pl44 : Plans := fun i => []
@[push_cast] def Tryz.pl45 : Plans := fun i => []
@[push_cast] def Tryz.pl46 : Plans := fun i => if i = 4 then [(0, 0), (1, 0), (2, 0), (3, 0), (4, 0), (5, 0)] else []
@[push_cast] def Tryz.pl47 : Plans := fun i => []
@[push_cast] def Tryz.pl48 : Plans := fun i => []
@[push_cast] def Tryz.pl49 : Plans := fun i => if i = 8 then [(0, 0), (1, 0), (2, 0), (3, 0), (4, 0), (5, 0), (6, 0), (7, 0)] else if i = 9 then [(0, 0), (1, 0), (2, 0), (3, 0), (4, 0), (5, 0), (6, 0), (7, 0), (8, 0), (9, 0), (10, 0), (11, 0)] else []
@[push_cast] def Tryz.pl50 : Plans := fun i => []
@[push_cast] def Tryz.pl51 : Plans := fun i => []
@[push_cast] def Tryz.pl52 : Plans := fun i => if i = 6 then [(0, 0), (1, 0), (2, 0), (3, 0), (4, 0), (5, 0), (6, 0), (7, 0), (8, 0)] else []
@[push_cast] def Tryz.pl53 : Plans := fun i => if i = 4 then [(0, 0), (1, 0), (2, 0), (3, 0), (4, 0), (5, 0), (6, 0), (7, 0), (8, 0), (9, 0), (10, 0), (11, 0), (12, 0), (13, 0), (14, 0), (15, 0), (16, 0), (17, 0), (18, 0), (19, 0), (20, 0), (21, 0), (22, 0)] else []
@[push_cast] def Tryz.pl54 : Plans := fun i => if i = 5 then [(0, 0), (1, 0), (2, 0), (3, 0), (4, 0), (5, 0), (6, 0), (7, 0), (8, 0), (9, 2), (10, 0), (11, 0), (12, 1)] else if i = 7 then [(0, 0), (1, 0), (2, 0), (4, 0), (5, 0), (6, 0), (3, 2), (7, 2), (8, 0), (9, 0), (10, 1)] else []
@[push_cast] def Tryz.pl55 : Plans := fun i => []
@[push_cast] def Tryz.pl56 : Plans := fun i => []
@[push_cast] def Tryz.pl57 : Plans := fun i => []
@[push_cast] def Tryz.pl58 : Plans := fun i => []
@[push_cast] def Tryz.pl59 : Plans := fun i => []
@[push_cast] def Tryz.pl60 : Plans := fun i => []
@[push_cast] def Tryz.pl61 : Plans := fun i => if i = 4 then [(0, 0), (1, 0), (2, 0), (3, 0), (4, 0), (5, 0), (6, 0)] else if i = 5 then [(0, 0), (1, 0), (2, 0), (3, 0), (4, 0), (5, 0), (6, 0), (7, 0)] else []
@[push_cast] def Tryz.pl62 : Plans := fun i => []
@[push_cast] def Tryz.pl65 : Plans := fun i => []
@[push_cast] def Tryz.pl66 : Plans := fun i => []
@[push_cast] def Tryz.pl67 : Plans := fun i => []
@[push_cast] def Tryz.pl68 : Plans := fun i => []
@[push_cast] def Tryz.pl69 : Plans := fun i => []
@[push_cast] def Tryz.pl70 : Plans := fun i => if i = 4 then [(0, 0), (1, 0), (2, 0), (3, 0), (4, 0), (5, 0), (6, 0), (7, 0), (8, 0)] else if i = 6 then [(0, 0), (1, 0), (2, 0), (3, 0), (4, 0), (5, 0), (6, 0), (7, 0), (8, 0)] else []
@[push_cast] def Tryz.pl71 : Plans := fun i => []
@[push_cast] def Tryz.pl72 : Plans := fun i => []
@[push_cast] def Tryz.pl73 : Plans := fun i => if i = 4 then [(0, 0), (1, 0), (2, 0), (3, 0), (4, 0), (5, 0), (6, 0), (7, 0)] else []
@[push_cast] def Tryz.pl74 : Plans := fun i => []
@[push_cast] def Tryz.pl75 : Plans := fun i => if i = 11 then [(0, 0), (1, 0), (2, 0), (3, 0), (4, 0), (5, 0), (6, 0), (7, 0), (8, 0), (9, 0)] else []
@[push_cast] def Tryz.pl76 : Plans := fun i => []
@[push_cast] def Tryz.pl77 : Plans := fun i => []
@[push_cast] def Tryz.pl78 : Plans := fun i => if i = 5 then [(0, 0), (1, 0), (2, 0), (3, 0), (4, 0), (6, 0), (7, 0), (8, 0), (9, 0), (5, 4), (10, 4), (11, 0), (12, 2), (13, 1), (14, 0)] else []
@[push_cast] def Tryz.pl79 : Plans := fun i => if i = 7 then [(0, 0), (1, 0), (2, 0), (3, 0), (4, 0), (5, 0), (6, 0), (7, 0), (8, 0), (9, 0), (10, 0), (11, 2), (12, 0)] else []
@[push_cast] def Tryz.pl80 : Plans := fun i => []
@[push_cast] def Tryz.pl81 : Plans := fun i => []
@[push_cast] def Tryz.pl82 : Plans := fun i => []
@[push_cast] def Tryz.pl83 : Plans := fun i => []
@[push_cast] def Tryz.pl84 : Plans := fun i => if i = 1 then [(0, 0), (1, 0), (2, 0), (3, 0)] else []
@[push_cast] def Tryz.pl85 : Plans := fun i => []
@[push_cast] def Tryz.pl86 : Plans := fun i => []
@[push_cast] def Tryz.pl87 : Plans := fun i => []
@[push_cast] def Tryz.pl88 : Plans := fun i => []
@[push_cast] def Tryz.pl89 : Plans := fun i => []
@[push_cast] def Tryz.pl90 : Plans := fun i => []
@[push_cast] def Tryz.pl91 : Plans := fun i => []
@[push_cast] def Tryz.pl92 : Plans := fun i => []
@[push_cast] def Tryz.pl93 : Plans := fun i => []
@[push_cast] def Tryz.pl94 : Plans := fun i => []
@[push_cast] def Tryz.pl95 : Plans := fun i => if i = 5 then [(0, 0), (1, 0), (2, 0), (3, 0), (4, 0), (5, 0), (6, 0), (7, 0)] else if i = 8 then [(0, 0), (1, 0), (2, 0), (3, 0), (4, 0), (5, 0), (6, 0), (7, 0), (8, 0), (9, 0), (10, 0), (11, 0), (12, 0), (13, 0), (14, 0), (15, 0)] else []
@[push_cast] def Tryz.pl96 : Plans := fun i => []
@[push_cast] def Tryz.pl97 : Plans := fun i => if i = 5 then [(0, 0), (1, 0), (2, 0), (3, 0), (4, 0), (5, 0), (6, 1), (7, 0)] else []
@[push_cast] def Tryz.pl98 : Plans := fun i => if i = 11 then [(0, 0), (1, 0), (2, 0), (3, 0), (4, 0), (5, 0), (6, 0), (7, 0), (8, 1)] else if i = 15 then [(0, 0), (1, 0), (2, 0), (3, 0), (4, 0), (5, 0), (6, 0), (7, 0), (8, 1)] else []
@[push_cast] def Tryz.pl99 : Plans := fun i => []
@[push_cast] def Tryz.pl100 : Plans := fun i => []
@[push_cast] def Tryz.pl101 : Plans := fun i => if i = 2 then [(0, 0), (1, 0), (2, 0), (3, 0), (4, 0), (5, 0), (6, 0), (7, 0), (8, 0), (9, 0), (10, 0), (11, 0), (12, 0), (13, 0), (14, 0), (15, 0), (16, 0), (17, 2), (18, 0), (19, 0)] else []
@[push_cast] def Tryz.pl102 : Plans := fun i => []
@[push_cast] def Tryz.pl103 : Plans := fun i => []
@[push_cast] def Tryz.pl104 : Plans := fun i => []
@[push_cast] def Tryz.pl105 : Plans := fun i => if i = 4 then [(0, 0), (1, 0), (2, 0), (3, 0), (4, 0), (5, 0), (6, 0), (7, 0), (8, 0), (9, 0), (10, 0), (11, 0)] else []
@[push_cast] def Tryz.pl106 : Plans := fun i => if i = 6 then [(0, 0), (1, 0), (2, 0), (3, 0), (4, 0), (5, 0), (6, 0), (7, 0), (8, 0), (9, 0)] else if i = 11 then [(0, 0), (1, 0), (2, 0), (3, 0), (4, 0), (5, 0), (6, 0), (7, 0), (8, 0), (9, 0)] else []
@[push_cast] def Tryz.pl107 : Plans := fun i => if i = 4 then [(0, 0), (1, 0), (2, 0), (3, 0), (4, 0), (5, 0), (6, 0)] else if i = 6 then [(0, 0), (1, 0), (2, 0), (3, 0), (4, 0), (5, 0), (6, 0)] else []
@[push_cast] def Tryz.pl108 : Plans := fun i => if i = 4 then [(0, 0), (1, 0), (2, 0), (3, 0), (4, 0), (5, 0), (6, 0), (7, 0), (8, 0), (9, 0), (10, 0), (11, 0), (12, 0), (13, 0), (14, 0), (15, 0), (16, 0), (17, 0), (18, 0), (19, 0), (20, 0), (21, 0), (22, 0)] else []
@[push_cast] def Tryz.pl109 : Plans := fun i => if i = 6 then [(0, 0), (1, 0), (2, 0), (3, 0), (4, 0), (5, 0), (6, 0), (7, 0), (8, 0)] else []
@[push_cast] def Tryz.pl110 : Plans := fun i => if i = 11 then [(0, 0), (1, 0), (2, 0), (3, 0), (4, 0), (5, 0), (6, 0), (7, 0), (8, 1)] else if i = 15 then [(0, 0), (1, 0), (2, 0), (3, 0), (4, 0), (5, 0), (6, 0), (7, 0), (8, 1)] else []
@[push_cast] def Tryz.pl111 : Plans := fun i => if i = 6 then [(0, 0), (1, 0), (2, 0), (3, 0), (4, 0), (5, 0), (6, 0)] else []
@[push_cast] def Tryz.pl112 : Plans := fun i => if i = 4 then [(0, 0), (1, 0), (2, 0), (3, 0), (4, 0), (5, 0), (6, 0), (7, 0), (8, 0), (9, 0), (10, 0), (11, 0), (12, 0)] else []
@[push_cast] def Tryz.pl113 : Plans := fun i => if i = 6 then [(0, 0), (1, 0), (2, 0), (3, 0), (4, 0), (5, 0), (6, 0)] else if i = 7 then [(0, 0), (1, 0), (2, 0), (3, 0), (4, 0), (5, 0), (6, 0), (7, 0), (8, 0), (9, 0), (10, 0), (11, 0)] else []
@[push_cast] def Tryz.pl114 : Plans := fun i => if i = 5 then [(0, 0), (1, 0), (2, 0), (3, 0), (4, 0), (5, 0), (6, 0), (7, 0)] else if i = 8 then [(0, 0), (1, 0), (2, 0), (3, 0), (4, 0), (5, 0), (6, 0), (7, 0), (8, 0), (9, 0), (10, 0), (11, 0), (12, 0), (13, 0), (14, 0), (15, 0)] else []
@[push_cast] def Tryz.pl115 : Plans := fun i => []
@[push_cast] def Tryz.pl116 : Plans := fun i => []
@[push_cast] def Tryz.pl117 : Plans := fun i => []
@[push_cast] def Tryz.pl118 : Plans := fun i => []
@[push_cast] def Tryz.pl119 : Plans := fun i => []
@[push_cast] def Tryz.pl122 : Plans := fun i => if i = 4 then [(0, 0), (1, 0), (2, 0), (3, 0), (4, 0), (5, 0)] else []
@[push_cast] def Tryz.pl123 : Plans := fun i => []
@[push_cast] def Tryz.pl124 : Plans := fun i => []
@[push_cast] def Tryz.pl125 : Plans := fun i => []
@[push_cast] def Tryz.pl126 : Plans := fun i => if i = 1 then [(0, 0), (2, 0), (1, 2), (3, 2), (4, 0), (5, 0)] else []
@[push_cast] def Tryz.pl127 : Plans := fun i => []
@[push_cast] def Tryz.pl128 : Plans := fun i => []
@[push_cast] def Tryz.pl131 : Plans := fun i => []
@[push_cast] def Tryz.pl132 : Plans := fun i => []
@[push_cast] def Tryz.pl133 : Plans := fun i => []
@[push_cast] def Tryz.pl135 : Plans := fun i => []
@[push_cast] def Tryz.pl136 : Plans := fun i => []
@[push_cast] def Tryz.pl137 : Plans := fun i => []
@[push_cast] def Tryz.pl139 : Plans := fun i => []
@[push_cast] def Tryz.pl140 : Plans := fun i => []
@[push_cast] def Tryz.pl141 : Plans := fun i => []
@[push_cast] def Tryz.pl142 : Plans := fun i => []
@[push_cast] def Tryz.pl143 : Plans := fun i => []
@[push_cast] def Tryz.pl145 : Plans := fun i => if i = 4 then [(0, 0), (1, 0), (2, 0), (3, 0), (4, 0), (5, 0), (6, 0), (7, 0), (8, 0), (9, 0), (10, 0), (11, 0), (12, 0), (13, 0), (14, 0), (15, 0), (16, 0), (17, 0), (18, 0), (19, 0), (20, 0)] else []
@[push_cast] def Tryz.pl146 : Plans := fun i => if i = 0 then [(0, 0), (1, 0), (2, 0), (3, 0), (4, 0), (5, 0)] else if i = 3 then [(0, 0), (1, 0), (2, 0), (3, 0), (4, 0), (5, 0), (6, 0), (7, 0), (8, 0), (9, 0), (10, 0), (11, 0)] else if i = 10 then [(0, 0), (1, 0), (2, 0), (3, 0), (4, 0), (5, 0), (6, 0), (8, 0), (9, 0), (10, 0), (7, 4), (11, 3), (12, 0), (13, 1), (14, 0)] else if i = 12 then [(0, 0), (1, 0), (2, 0), (3, 0), (4, 0), (5, 0), (6, 0), (8, 0), (9, 0), (10, 0), (7, 4), (11, 3), (12, 0), (13, 1), (14, 0), (15, 1), (16, 0)] else []
@[push_cast] def Tryz.pl148 : Plans := fun i => []
@[push_cast] def Tryz.pl149 : Plans := fun i => if i = 3 then [(0, 0), (1, 0), (2, 0), (3, 0), (4, 0), (5, 0), (6, 0), (7, 0), (8, 0), (9, 0), (10, 0), (11, 0), (12, 0), (13, 1), (14, 0), (15, 1)] else []
@[push_cast] def Tryz.pl150 : Plans := fun i => []
theorem Tryz.mix : Tryz.prog.follows .mixedOrders = true := by kernel_rfl
end Go.Proofs
