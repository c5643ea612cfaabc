/- Texts of this claim, merged by program: Facts. -/
import Derived.Test.YtolmipnaheifcaaGreatDoorZfAc
import Derived.Test.YtolmipnaheifcaaGreatDoorRows
import Derived.KernelRfl
set_option linter.unusedSimpArgs false
set_option linter.unusedVariables false
namespace Go.Proofs
open Go Go.Ev
@[push_cast] theorem Tryz.ty3 : tyI Tryz.prog 3 = some (1, false) := by kernel_rfl
@[push_cast] theorem Tryz.zl3 : zeroL Tryz.prog 3 = some [.int .i64 0] := by kernel_rfl
@[push_cast] theorem Tryz.in3 : intI Tryz.prog 3 = some .i64 := by kernel_rfl
@[push_cast] theorem Tryz.st3 : isStr Tryz.prog 3 = false := by kernel_rfl
@[push_cast] theorem Tryz.by3 : isBytes Tryz.prog 3 = false := by kernel_rfl
@[push_cast] theorem Tryz.ty4 : tyI Tryz.prog 4 = some (1, false) := by kernel_rfl
@[push_cast] theorem Tryz.zl4 : zeroL Tryz.prog 4 = some [.bool false] := by kernel_rfl
attribute [push_cast] Tryz.underlying4
@[push_cast] theorem Tryz.ty5 : tyI Tryz.prog 5 = some (1, false) := by kernel_rfl
@[push_cast] theorem Tryz.zl5 : zeroL Tryz.prog 5 = some [.int .u8 0] := by kernel_rfl
@[push_cast] theorem Tryz.in5 : intI Tryz.prog 5 = some .u8 := by kernel_rfl
@[push_cast] theorem Tryz.st5 : isStr Tryz.prog 5 = false := by kernel_rfl
@[push_cast] theorem Tryz.by5 : isBytes Tryz.prog 5 = false := by kernel_rfl
@[push_cast] theorem Tryz.ty9 : tyI Tryz.prog 9 = some (1, false) := by kernel_rfl
@[push_cast] theorem Tryz.zl9 : zeroL Tryz.prog 9 = some [.string ByteArray.empty] := by kernel_rfl
@[push_cast] theorem Tryz.el9 : elemI Tryz.prog 9 = none := by kernel_rfl
@[push_cast] theorem Tryz.in9 : intI Tryz.prog 9 = none := by kernel_rfl
@[push_cast] theorem Tryz.st9 : isStr Tryz.prog 9 = true := by kernel_rfl
@[push_cast] theorem Tryz.by9 : isBytes Tryz.prog 9 = false := by kernel_rfl
attribute [push_cast] Tryz.underlying20
@[push_cast] theorem Tryz.el22 : elemI Tryz.prog 22 = some (none, 2, true) := by kernel_rfl
@[push_cast] theorem Tryz.st22 : isStr Tryz.prog 22 = false := by kernel_rfl
@[push_cast] theorem Tryz.ty23 : tyI Tryz.prog 23 = some (1, false) := by kernel_rfl
@[push_cast] theorem Tryz.in23 : intI Tryz.prog 23 = some .u64 := by kernel_rfl
@[push_cast] theorem Tryz.st23 : isStr Tryz.prog 23 = false := by kernel_rfl
@[push_cast] theorem Tryz.by23 : isBytes Tryz.prog 23 = false := by kernel_rfl
@[push_cast] theorem Tryz.ty25 : tyI Tryz.prog 25 = some (4, true) := by kernel_rfl
@[push_cast] theorem Tryz.zl25 : zeroL Tryz.prog 25 = some [.int .u64 0, .int .u64 0, .int .u64 0, .int .u64 0] := by kernel_rfl
@[push_cast] theorem Tryz.el25 : elemI Tryz.prog 25 = some (some 4, 1, false) := by kernel_rfl
@[push_cast] theorem Tryz.pl25_0 : placeOf Tryz.prog 25 0 = some (0, 1) := by kernel_rfl
@[push_cast] theorem Tryz.pl25_1 : placeOf Tryz.prog 25 1 = some (1, 1) := by kernel_rfl
@[push_cast] theorem Tryz.pl25_2 : placeOf Tryz.prog 25 2 = some (2, 1) := by kernel_rfl
@[push_cast] theorem Tryz.pl25_3 : placeOf Tryz.prog 25 3 = some (3, 1) := by kernel_rfl
@[push_cast] theorem Tryz.fo25 : fieldsOk Tryz.prog 25 = true := by kernel_rfl
@[push_cast] theorem Tryz.fk25 : flatK Tryz.prog 12 25 = some [.i, .i, .i, .i] := by kernel_rfl
@[push_cast] theorem Tryz.eg25 : Program.eqGuardType Tryz.prog (Program.depth Tryz.prog) 25 = false := by kernel_rfl
@[push_cast] theorem Tryz.ty27 : tyI Tryz.prog 27 = some (1, false) := by kernel_rfl
@[push_cast] theorem Tryz.el27 : elemI Tryz.prog 27 = some (none, 3, true) := by kernel_rfl
@[push_cast] theorem Tryz.sl27 : slI Tryz.prog 27 = some (29, 3, 48) := by kernel_rfl
@[push_cast] theorem Tryz.in27 : intI Tryz.prog 27 = none := by kernel_rfl
@[push_cast] theorem Tryz.st27 : isStr Tryz.prog 27 = false := by kernel_rfl
@[push_cast] theorem Tryz.ty29 : tyI Tryz.prog 29 = some (3, true) := by kernel_rfl
@[push_cast] theorem Tryz.zl29 : zeroL Tryz.prog 29 = some [.bool false, .string ByteArray.empty, .slice none 0 0] := by kernel_rfl
@[push_cast] theorem Tryz.fi29_0 : fieldI Tryz.prog 29 0 = some (0, 1, false) := by kernel_rfl
@[push_cast] theorem Tryz.pl29_0 : placeOf Tryz.prog 29 0 = some (0, 1) := by kernel_rfl
@[push_cast] theorem Tryz.fi29_1 : fieldI Tryz.prog 29 1 = some (1, 1, false) := by kernel_rfl
@[push_cast] theorem Tryz.pl29_1 : placeOf Tryz.prog 29 1 = some (1, 1) := by kernel_rfl
@[push_cast] theorem Tryz.fi29_2 : fieldI Tryz.prog 29 2 = some (2, 1, false) := by kernel_rfl
@[push_cast] theorem Tryz.pl29_2 : placeOf Tryz.prog 29 2 = some (2, 1) := by kernel_rfl
@[push_cast] theorem Tryz.fo29 : fieldsOk Tryz.prog 29 = true := by kernel_rfl
@[push_cast] theorem Tryz.ty35 : tyI Tryz.prog 35 = some (1, false) := by kernel_rfl
@[push_cast] theorem Tryz.el43 : elemI Tryz.prog 43 = some (none, 1, false) := by kernel_rfl
@[push_cast] theorem Tryz.sl43 : slI Tryz.prog 43 = some (9, 1, 16) := by kernel_rfl
@[push_cast] theorem Tryz.st43 : isStr Tryz.prog 43 = false := by kernel_rfl
@[push_cast] theorem Tryz.el48 : elemI Tryz.prog 48 = some (some 2, 1, false) := by kernel_rfl
@[push_cast] theorem Tryz.ty49 : tyI Tryz.prog 49 = some (1, false) := by kernel_rfl
@[push_cast] theorem Tryz.el49 : elemI Tryz.prog 49 = some (none, 1, false) := by kernel_rfl
@[push_cast] theorem Tryz.sl49 : slI Tryz.prog 49 = some (5, 1, 1) := by kernel_rfl
attribute [push_cast] Tryz.underlying49
@[push_cast] theorem Tryz.in49 : intI Tryz.prog 49 = none := by kernel_rfl
@[push_cast] theorem Tryz.st49 : isStr Tryz.prog 49 = false := by kernel_rfl
@[push_cast] theorem Tryz.by49 : isBytes Tryz.prog 49 = true := by kernel_rfl
@[push_cast] theorem Tryz.ty52 : tyI Tryz.prog 52 = some (1, false) := by kernel_rfl
attribute [push_cast] Tryz.underlying62
@[push_cast] theorem Tryz.zl66 : zeroL Tryz.prog 66 = some [.string ByteArray.empty, .int .i64 0, .int .i64 0] := by kernel_rfl
@[push_cast] theorem Tryz.fi66_0 : fieldI Tryz.prog 66 0 = some (0, 1, false) := by kernel_rfl
@[push_cast] theorem Tryz.pl66_0 : placeOf Tryz.prog 66 0 = some (0, 1) := by kernel_rfl
@[push_cast] theorem Tryz.fi66_1 : fieldI Tryz.prog 66 1 = some (1, 1, false) := by kernel_rfl
@[push_cast] theorem Tryz.fi66_2 : fieldI Tryz.prog 66 2 = some (2, 1, false) := by kernel_rfl
@[push_cast] theorem Tryz.fo66 : fieldsOk Tryz.prog 66 = true := by kernel_rfl
@[push_cast] theorem Tryz.ty68 : tyI Tryz.prog 68 = some (1, false) := by kernel_rfl
@[push_cast] theorem Tryz.zl68 : zeroL Tryz.prog 68 = some [.pointer none] := by kernel_rfl
attribute [push_cast] Tryz.underlying68
attribute [push_cast] Tryz.underlying70
@[push_cast] theorem Tryz.zl72 : zeroL Tryz.prog 72 = some [.int .i64 0, .int .i64 0] := by kernel_rfl
@[push_cast] theorem Tryz.fi72_0 : fieldI Tryz.prog 72 0 = some (0, 1, false) := by kernel_rfl
@[push_cast] theorem Tryz.pl72_0 : placeOf Tryz.prog 72 0 = some (0, 1) := by kernel_rfl
@[push_cast] theorem Tryz.fi72_1 : fieldI Tryz.prog 72 1 = some (1, 1, false) := by kernel_rfl
@[push_cast] theorem Tryz.pl72_1 : placeOf Tryz.prog 72 1 = some (1, 1) := by kernel_rfl
@[push_cast] theorem Tryz.fo72 : fieldsOk Tryz.prog 72 = true := by kernel_rfl
@[push_cast] theorem Tryz.zl75 : zeroL Tryz.prog 75 = some [.string ByteArray.empty, .int .i64 0, .int .i64 0, .int .i64 0] := by kernel_rfl
@[push_cast] theorem Tryz.fi75_0 : fieldI Tryz.prog 75 0 = some (0, 1, false) := by kernel_rfl
@[push_cast] theorem Tryz.pl75_0 : placeOf Tryz.prog 75 0 = some (0, 1) := by kernel_rfl
@[push_cast] theorem Tryz.fi75_1 : fieldI Tryz.prog 75 1 = some (1, 1, false) := by kernel_rfl
@[push_cast] theorem Tryz.fi75_2 : fieldI Tryz.prog 75 2 = some (2, 1, false) := by kernel_rfl
@[push_cast] theorem Tryz.fi75_3 : fieldI Tryz.prog 75 3 = some (3, 1, false) := by kernel_rfl
@[push_cast] theorem Tryz.fo75 : fieldsOk Tryz.prog 75 = true := by kernel_rfl
@[push_cast] theorem Tryz.el96 : elemI Tryz.prog 96 = some (none, 1, false) := by kernel_rfl
@[push_cast] theorem Tryz.sl96 : slI Tryz.prog 96 = some (3, 1, 8) := by kernel_rfl
@[push_cast] theorem Tryz.in96 : intI Tryz.prog 96 = none := by kernel_rfl
@[push_cast] theorem Tryz.ty98 : tyI Tryz.prog 98 = some (1, false) := by kernel_rfl
@[push_cast] theorem Tryz.in101 : intI Tryz.prog 101 = none := by kernel_rfl
@[push_cast] theorem Tryz.st101 : isStr Tryz.prog 101 = false := by kernel_rfl
@[push_cast] theorem Tryz.by101 : isBytes Tryz.prog 101 = false := by kernel_rfl
@[push_cast] theorem Tryz.ty118 : tyI Tryz.prog 118 = some (1, false) := by kernel_rfl
attribute [push_cast] Tryz.underlying118
@[push_cast] theorem Tryz.in118 : intI Tryz.prog 118 = none := by kernel_rfl
@[push_cast] theorem Tryz.st118 : isStr Tryz.prog 118 = false := by kernel_rfl
@[push_cast] theorem Tryz.by118 : isBytes Tryz.prog 118 = false := by kernel_rfl
@[push_cast] theorem Tryz.zl120 : zeroL Tryz.prog 120 = some [.pointer none, .slice none 0 0] := by kernel_rfl
@[push_cast] theorem Tryz.fi120_0 : fieldI Tryz.prog 120 0 = some (0, 1, false) := by kernel_rfl
@[push_cast] theorem Tryz.fi120_1 : fieldI Tryz.prog 120 1 = some (1, 1, false) := by kernel_rfl
@[push_cast] def Tryz.pl3 : Plans := fun i => if i = 7 then [(0, 0), (1, 0), (2, 0), (3, 0), (4, 0), (5, 0), (6, 0), (7, 0), (12, 0), (8, 2), (9, 0), (10, 2), (11, 0)] else if i = 14 then [(0, 0), (1, 0), (2, 0), (3, 0), (4, 0), (5, 0), (6, 0), (7, 0), (8, 0), (9, 0), (10, 0), (11, 0), (12, 0), (13, 0), (14, 0), (15, 0), (16, 0), (17, 0), (18, 0), (19, 0), (20, 0), (21, 0), (22, 0), (23, 0), (24, 0), (25, 0), (26, 0), (27, 0), (28, 0), (29, 0), (30, 0), (31, 0), (32, 0), (33, 0)] else if i = 22 then [(0, 0), (1, 0), (2, 0), (3, 0), (4, 0), (5, 0), (6, 0), (7, 0), (8, 0), (9, 0), (10, 0), (11, 0), (12, 0), (13, 0), (14, 0), (15, 0), (16, 0), (17, 0), (18, 0), (19, 0), (20, 0), (21, 0), (22, 0), (23, 0), (24, 0), (25, 0), (26, 0), (27, 0), (28, 0), (31, 0), (29, 2), (30, 0)] else []
@[push_cast] def Tryz.pl4 : Plans := fun i => if i = 9 then [(0, 0), (1, 0), (2, 0), (3, 0), (4, 0), (5, 0), (6, 0), (7, 0), (8, 0), (9, 0), (10, 0), (11, 0), (12, 0), (13, 0), (14, 0), (15, 0), (16, 0), (17, 0), (18, 0), (19, 0), (20, 0), (21, 0), (22, 0), (23, 0), (24, 0), (25, 0), (26, 0), (27, 0), (28, 0), (29, 0), (30, 0), (31, 0), (32, 0), (33, 0), (34, 0), (35, 0), (36, 0), (37, 0), (38, 0), (39, 0), (40, 0), (41, 0), (42, 0), (43, 0), (44, 0), (45, 0), (46, 0), (47, 0), (48, 0), (49, 0), (50, 0), (51, 0), (52, 0), (53, 0), (54, 0), (55, 0), (56, 0), (57, 0), (58, 0), (59, 0), (60, 0), (61, 0), (62, 0), (63, 0), (64, 0), (65, 0), (66, 2), (67, 0), (68, 0), (69, 0), (70, 0)] else []
@[push_cast] def Tryz.pl5 : Plans := fun i => if i = 10 then [(0, 0), (1, 0), (2, 0), (3, 2), (4, 2), (5, 2), (6, 1), (7, 0), (8, 1)] else if i = 12 then [(0, 0), (1, 0), (2, 0), (3, 0), (4, 2), (5, 0), (6, 0), (7, 2), (8, 1), (9, 0), (10, 1)] else if i = 14 then [(0, 0), (1, 0), (2, 0), (3, 0), (4, 0), (5, 2), (6, 0), (7, 0), (8, 2), (9, 1), (10, 0), (11, 1)] else if i = 17 then [(0, 0), (1, 0), (2, 0), (3, 0), (4, 0), (5, 0), (6, 0), (7, 0), (8, 2), (9, 2), (10, 1), (11, 0), (12, 1)] else if i = 8 then [(0, 0), (1, 0), (2, 0), (3, 0), (4, 0), (5, 2), (6, 0), (7, 0), (8, 0), (9, 2), (10, 1), (11, 0), (12, 1)] else []
@[push_cast] def Tryz.pl6 : Plans := fun i => []
@[push_cast] def Tryz.pl7 : Plans := fun i => []
@[push_cast] def Tryz.pl8 : Plans := fun i => []
@[push_cast] def Tryz.pl9 : Plans := fun i => []
@[push_cast] def Tryz.pl10 : Plans := fun i => []
@[push_cast] def Tryz.pl11 : Plans := fun i => []
@[push_cast] def Tryz.pl12 : Plans := fun i => []
@[push_cast] def Tryz.pl13 : Plans := fun i => []
@[push_cast] def Tryz.pl14 : Plans := fun i => []
@[push_cast] def Tryz.pl15 : Plans := fun i => []
@[push_cast] def Tryz.pl16 : Plans := fun i => []
@[push_cast] def Tryz.pl17 : Plans := fun i => if i = 6 then [(0, 0), (1, 0), (2, 0), (3, 0), (4, 0), (5, 0), (6, 0), (7, 0), (8, 0), (9, 0), (10, 0), (11, 0)] else []
@[push_cast] def Tryz.pl18 : Plans := fun i => []
@[push_cast] def Tryz.pl19 : Plans := fun i => []
@[push_cast] def Tryz.pl20 : Plans := fun i => []
@[push_cast] def Tryz.pl21 : Plans := fun i => []
@[push_cast] def Tryz.pl22 : Plans := fun i => []
@[push_cast] def Tryz.pl23 : Plans := fun i => []
@[push_cast] def Tryz.pl24 : Plans := fun i => []
@[push_cast] def Tryz.pl25 : Plans := fun i => []
@[push_cast] def Tryz.pl26 : Plans := fun i => if i = 6 then [(0, 0), (1, 0), (2, 0), (3, 0), (4, 0), (5, 0), (6, 0), (7, 0)] else []
@[push_cast] def Tryz.pl27 : Plans := fun i => if i = 4 then [(0, 0), (1, 0), (2, 0), (3, 0), (4, 0), (5, 0), (6, 0), (7, 0)] else []
@[push_cast] def Tryz.pl28 : Plans := fun i => []
@[push_cast] def Tryz.pl29 : Plans := fun i => if i = 4 then [(0, 0), (1, 0), (2, 0), (3, 0), (4, 0), (5, 0), (6, 0), (7, 0), (8, 0), (9, 0), (10, 0), (11, 0), (12, 1)] else []
@[push_cast] def Tryz.pl30 : Plans := fun i => []
@[push_cast] def Tryz.pl31 : Plans := fun i => []
@[push_cast] def Tryz.pl32 : Plans := fun i => []
@[push_cast] def Tryz.pl33 : Plans := fun i => []
@[push_cast] def Tryz.pl34 : Plans := fun i => []
@[push_cast] def Tryz.pl35 : Plans := fun i => []
@[push_cast] def Tryz.pl36 : Plans := fun i => if i = 2 then [(0, 0), (1, 0), (2, 0), (3, 0), (4, 0), (5, 0), (6, 0), (7, 0), (8, 0), (9, 0), (10, 0), (11, 0), (12, 0), (13, 0)] else []
@[push_cast] def Tryz.pl38 : Plans := fun i => if i = 33 then [(0, 0), (1, 0), (2, 0), (3, 0), (4, 0), (5, 0), (6, 0), (7, 0), (8, 2), (9, 2), (10, 1), (11, 0), (12, 1)] else []
@[push_cast] def Tryz.pl39 : Plans := fun i => []
@[push_cast] def Tryz.pl40 : Plans := fun i => []
@[push_cast] def Tryz.pl44 : Plans := fun i => []
@[push_cast] def Tryz.pl45 : Plans := fun i => []
@[push_cast] def Tryz.pl46 : Plans := fun i => []
@[push_cast] def Tryz.pl47 : Plans := fun i => []
@[push_cast] def Tryz.pl48 : Plans := fun i => []
@[push_cast] def Tryz.pl49 : Plans := fun i => []
@[push_cast] def Tryz.pl50 : Plans := fun i => []
@[push_cast] def Tryz.pl51 : Plans := fun i => []
@[push_cast] def Tryz.pl52 : Plans := fun i => []
@[push_cast] def Tryz.pl53 : Plans := fun i => if i = 5 then [(0, 0), (1, 0), (2, 0), (3, 0), (4, 0), (5, 0), (6, 0), (7, 0), (8, 0), (9, 0), (10, 0), (11, 0), (12, 0), (13, 0), (14, 1)] else []
@[push_cast] def Tryz.pl54 : Plans := fun i => []
@[push_cast] def Tryz.pl55 : Plans := fun i => []
@[push_cast] def Tryz.pl56 : Plans := fun i => if i = 9 then [(0, 0), (1, 0), (2, 0), (3, 0), (4, 0), (5, 0), (6, 0), (7, 0), (8, 0), (9, 0), (10, 2), (11, 1), (12, 0)] else if i = 17 then [(0, 0), (1, 0), (2, 0), (3, 0), (4, 0), (5, 0), (6, 0), (7, 0), (8, 0), (9, 0), (10, 0), (11, 0), (12, 0), (13, 0), (14, 0), (15, 2), (16, 1)] else []
@[push_cast] def Tryz.pl61 : Plans := fun i => if i = 15 then [(0, 0), (1, 0), (2, 0), (3, 0), (4, 0), (5, 0), (6, 0), (7, 0), (8, 0), (9, 0), (10, 0), (11, 0), (12, 0), (13, 0), (14, 0), (15, 0)] else if i = 16 then [(0, 0), (1, 0), (2, 0), (3, 0), (4, 0), (5, 0), (6, 0), (7, 0), (8, 0), (9, 0), (10, 0), (11, 0), (12, 0), (13, 0)] else []
@[push_cast] def Tryz.pl65 : Plans := fun i => []
@[push_cast] def Tryz.pl66 : Plans := fun i => []
@[push_cast] def Tryz.pl67 : Plans := fun i => []
@[push_cast] def Tryz.pl69 : Plans := fun i => []
@[push_cast] def Tryz.pl70 : Plans := fun i => []
@[push_cast] def Tryz.pl71 : Plans := fun i => []
@[push_cast] def Tryz.pl72 : Plans := fun i => if i = 3 then [(0, 0), (1, 0), (2, 0), (3, 0), (4, 0), (5, 0), (6, 0), (7, 0), (8, 0), (9, 0), (10, 0), (11, 0), (12, 0), (13, 1), (14, 0), (15, 1)] else []
@[push_cast] def Tryz.pl73 : Plans := fun i => []
@[push_cast] def Tryz.pl74 : Plans := fun i => if i = 8 then [(0, 0), (1, 0), (2, 0), (3, 0), (4, 0), (5, 0), (6, 0), (7, 0), (8, 0), (9, 0), (10, 0), (11, 0), (12, 0), (13, 0), (14, 0), (15, 0)] else []
@[push_cast] def Tryz.pl75 : Plans := fun i => []
@[push_cast] def Tryz.pl81 : Plans := fun i => []
@[push_cast] def Tryz.pl82 : Plans := fun i => []
theorem Tryz.mix : Tryz.prog.follows .mixedOrders = true := by kernel_rfl
end Go.Proofs
