/- Texts of this claim, merged by program: Facts. -/
import Derived.Test.YtolmipnaheifcaaDoorZeAc
import Derived.Test.YtolmipnaheifcaaDoorRows
import Derived.KernelRfl
set_option linter.unusedSimpArgs false
set_option linter.unusedVariables false
namespace Go.Proofs
open Go Go.Ev
@[push_cast] theorem Tryd.ty3 : tyI Tryd.prog 3 = some (1, false) := by kernel_rfl
@[push_cast] theorem Tryd.zl3 : zeroL Tryd.prog 3 = some [.int .i64 0] := by kernel_rfl
@[push_cast] theorem Tryd.in3 : intI Tryd.prog 3 = some .i64 := by kernel_rfl
@[push_cast] theorem Tryd.st3 : isStr Tryd.prog 3 = false := by kernel_rfl
@[push_cast] theorem Tryd.by3 : isBytes Tryd.prog 3 = false := by kernel_rfl
@[push_cast] theorem Tryd.ty4 : tyI Tryd.prog 4 = some (1, false) := by kernel_rfl
@[push_cast] theorem Tryd.zl4 : zeroL Tryd.prog 4 = some [.bool false] := by kernel_rfl
attribute [push_cast] Tryd.underlying4
@[push_cast] theorem Tryd.ty5 : tyI Tryd.prog 5 = some (1, false) := by kernel_rfl
@[push_cast] theorem Tryd.zl5 : zeroL Tryd.prog 5 = some [.int .u8 0] := by kernel_rfl
@[push_cast] theorem Tryd.in5 : intI Tryd.prog 5 = some .u8 := by kernel_rfl
@[push_cast] theorem Tryd.st5 : isStr Tryd.prog 5 = false := by kernel_rfl
@[push_cast] theorem Tryd.by5 : isBytes Tryd.prog 5 = false := by kernel_rfl
@[push_cast] theorem Tryd.ty9 : tyI Tryd.prog 9 = some (1, false) := by kernel_rfl
@[push_cast] theorem Tryd.zl9 : zeroL Tryd.prog 9 = some [.string ByteArray.empty] := by kernel_rfl
@[push_cast] theorem Tryd.el9 : elemI Tryd.prog 9 = none := by kernel_rfl
@[push_cast] theorem Tryd.in9 : intI Tryd.prog 9 = none := by kernel_rfl
@[push_cast] theorem Tryd.st9 : isStr Tryd.prog 9 = true := by kernel_rfl
@[push_cast] theorem Tryd.by9 : isBytes Tryd.prog 9 = false := by kernel_rfl
attribute [push_cast] Tryd.underlying20
@[push_cast] theorem Tryd.el22 : elemI Tryd.prog 22 = some (none, 2, true) := by kernel_rfl
@[push_cast] theorem Tryd.st22 : isStr Tryd.prog 22 = false := by kernel_rfl
@[push_cast] theorem Tryd.ty24 : tyI Tryd.prog 24 = some (1, false) := by kernel_rfl
@[push_cast] theorem Tryd.ty27 : tyI Tryd.prog 27 = some (1, false) := by kernel_rfl
@[push_cast] theorem Tryd.el27 : elemI Tryd.prog 27 = some (none, 3, true) := by kernel_rfl
@[push_cast] theorem Tryd.sl27 : slI Tryd.prog 27 = some (29, 3, 48) := by kernel_rfl
@[push_cast] theorem Tryd.in27 : intI Tryd.prog 27 = none := by kernel_rfl
@[push_cast] theorem Tryd.ty29 : tyI Tryd.prog 29 = some (3, true) := by kernel_rfl
@[push_cast] theorem Tryd.zl29 : zeroL Tryd.prog 29 = some [.bool false, .string ByteArray.empty, .slice none 0 0] := by kernel_rfl
@[push_cast] theorem Tryd.fi29_0 : fieldI Tryd.prog 29 0 = some (0, 1, false) := by kernel_rfl
@[push_cast] theorem Tryd.pl29_0 : placeOf Tryd.prog 29 0 = some (0, 1) := by kernel_rfl
@[push_cast] theorem Tryd.fi29_1 : fieldI Tryd.prog 29 1 = some (1, 1, false) := by kernel_rfl
@[push_cast] theorem Tryd.pl29_1 : placeOf Tryd.prog 29 1 = some (1, 1) := by kernel_rfl
@[push_cast] theorem Tryd.fi29_2 : fieldI Tryd.prog 29 2 = some (2, 1, false) := by kernel_rfl
@[push_cast] theorem Tryd.pl29_2 : placeOf Tryd.prog 29 2 = some (2, 1) := by kernel_rfl
@[push_cast] theorem Tryd.fo29 : fieldsOk Tryd.prog 29 = true := by kernel_rfl
@[push_cast] theorem Tryd.el32 : elemI Tryd.prog 32 = some (none, 1, false) := by kernel_rfl
@[push_cast] theorem Tryd.sl32 : slI Tryd.prog 32 = some (9, 1, 16) := by kernel_rfl
@[push_cast] theorem Tryd.st32 : isStr Tryd.prog 32 = false := by kernel_rfl
@[push_cast] theorem Tryd.ty37 : tyI Tryd.prog 37 = some (1, false) := by kernel_rfl
@[push_cast] theorem Tryd.in37 : intI Tryd.prog 37 = some .u64 := by kernel_rfl
@[push_cast] theorem Tryd.st37 : isStr Tryd.prog 37 = false := by kernel_rfl
@[push_cast] theorem Tryd.by37 : isBytes Tryd.prog 37 = false := by kernel_rfl
@[push_cast] theorem Tryd.ty39 : tyI Tryd.prog 39 = some (4, true) := by kernel_rfl
@[push_cast] theorem Tryd.zl39 : zeroL Tryd.prog 39 = some [.int .u64 0, .int .u64 0, .int .u64 0, .int .u64 0] := by kernel_rfl
@[push_cast] theorem Tryd.el39 : elemI Tryd.prog 39 = some (some 4, 1, false) := by kernel_rfl
@[push_cast] theorem Tryd.pl39_0 : placeOf Tryd.prog 39 0 = some (0, 1) := by kernel_rfl
@[push_cast] theorem Tryd.pl39_1 : placeOf Tryd.prog 39 1 = some (1, 1) := by kernel_rfl
@[push_cast] theorem Tryd.pl39_2 : placeOf Tryd.prog 39 2 = some (2, 1) := by kernel_rfl
@[push_cast] theorem Tryd.pl39_3 : placeOf Tryd.prog 39 3 = some (3, 1) := by kernel_rfl
@[push_cast] theorem Tryd.fo39 : fieldsOk Tryd.prog 39 = true := by kernel_rfl
@[push_cast] theorem Tryd.fk39 : flatK Tryd.prog 12 39 = some [.i, .i, .i, .i] := by kernel_rfl
@[push_cast] theorem Tryd.eg39 : Program.eqGuardType Tryd.prog (Program.depth Tryd.prog) 39 = false := by kernel_rfl
@[push_cast] theorem Tryd.ty48 : tyI Tryd.prog 48 = some (1, false) := by kernel_rfl
@[push_cast] theorem Tryd.el48 : elemI Tryd.prog 48 = some (none, 1, false) := by kernel_rfl
@[push_cast] theorem Tryd.sl48 : slI Tryd.prog 48 = some (5, 1, 1) := by kernel_rfl
attribute [push_cast] Tryd.underlying48
@[push_cast] theorem Tryd.in48 : intI Tryd.prog 48 = none := by kernel_rfl
@[push_cast] theorem Tryd.st48 : isStr Tryd.prog 48 = false := by kernel_rfl
@[push_cast] theorem Tryd.by48 : isBytes Tryd.prog 48 = true := by kernel_rfl
@[push_cast] theorem Tryd.ty53 : tyI Tryd.prog 53 = some (1, false) := by kernel_rfl
@[push_cast] theorem Tryd.el54 : elemI Tryd.prog 54 = some (some 2, 1, false) := by kernel_rfl
attribute [push_cast] Tryd.underlying56
@[push_cast] theorem Tryd.zl60 : zeroL Tryd.prog 60 = some [.string ByteArray.empty, .int .i64 0, .int .i64 0] := by kernel_rfl
@[push_cast] theorem Tryd.fi60_0 : fieldI Tryd.prog 60 0 = some (0, 1, false) := by kernel_rfl
@[push_cast] theorem Tryd.pl60_0 : placeOf Tryd.prog 60 0 = some (0, 1) := by kernel_rfl
@[push_cast] theorem Tryd.fi60_1 : fieldI Tryd.prog 60 1 = some (1, 1, false) := by kernel_rfl
@[push_cast] theorem Tryd.fi60_2 : fieldI Tryd.prog 60 2 = some (2, 1, false) := by kernel_rfl
@[push_cast] theorem Tryd.fo60 : fieldsOk Tryd.prog 60 = true := by kernel_rfl
@[push_cast] theorem Tryd.ty62 : tyI Tryd.prog 62 = some (1, false) := by kernel_rfl
@[push_cast] theorem Tryd.zl62 : zeroL Tryd.prog 62 = some [.pointer none] := by kernel_rfl
attribute [push_cast] Tryd.underlying62
attribute [push_cast] Tryd.underlying64
@[push_cast] theorem Tryd.zl66 : zeroL Tryd.prog 66 = some [.int .i64 0, .int .i64 0] := by kernel_rfl
@[push_cast] theorem Tryd.fi66_0 : fieldI Tryd.prog 66 0 = some (0, 1, false) := by kernel_rfl
@[push_cast] theorem Tryd.pl66_0 : placeOf Tryd.prog 66 0 = some (0, 1) := by kernel_rfl
@[push_cast] theorem Tryd.fi66_1 : fieldI Tryd.prog 66 1 = some (1, 1, false) := by kernel_rfl
@[push_cast] theorem Tryd.pl66_1 : placeOf Tryd.prog 66 1 = some (1, 1) := by kernel_rfl
@[push_cast] theorem Tryd.fo66 : fieldsOk Tryd.prog 66 = true := by kernel_rfl
@[push_cast] theorem Tryd.in79 : intI Tryd.prog 79 = none := by kernel_rfl
@[push_cast] theorem Tryd.st79 : isStr Tryd.prog 79 = false := by kernel_rfl
@[push_cast] theorem Tryd.by79 : isBytes Tryd.prog 79 = false := by kernel_rfl
@[push_cast] theorem Tryd.ty95 : tyI Tryd.prog 95 = some (1, false) := by kernel_rfl
@[push_cast] theorem Tryd.el109 : elemI Tryd.prog 109 = some (none, 1, false) := by kernel_rfl
@[push_cast] theorem Tryd.sl109 : slI Tryd.prog 109 = some (3, 1, 8) := by kernel_rfl
@[push_cast] theorem Tryd.in109 : intI Tryd.prog 109 = none := by kernel_rfl
@[push_cast] theorem Tryd.ty128 : tyI Tryd.prog 128 = some (1, false) := by kernel_rfl
attribute [push_cast] Tryd.underlying128
@[push_cast] theorem Tryd.in128 : intI Tryd.prog 128 = none := by kernel_rfl
@[push_cast] theorem Tryd.st128 : isStr Tryd.prog 128 = false := by kernel_rfl
@[push_cast] theorem Tryd.by128 : isBytes Tryd.prog 128 = false := by kernel_rfl
@[push_cast] theorem Tryd.zl130 : zeroL Tryd.prog 130 = some [.pointer none, .slice none 0 0] := by kernel_rfl
@[push_cast] theorem Tryd.fi130_0 : fieldI Tryd.prog 130 0 = some (0, 1, false) := by kernel_rfl
@[push_cast] theorem Tryd.fi130_1 : fieldI Tryd.prog 130 1 = some (1, 1, false) := by kernel_rfl
@[push_cast] def Tryd.pl3 : Plans := fun i => if i = 8 then [(0, 0), (1, 0), (2, 0), (3, 0), (4, 0), (5, 0), (6, 0), (7, 0), (8, 0), (9, 0), (10, 0), (11, 0), (12, 0), (13, 0), (14, 0), (15, 0), (16, 0), (17, 0), (18, 0), (19, 0), (20, 0), (21, 0), (22, 0), (23, 0), (24, 0), (27, 0), (25, 2), (26, 0)] else []
@[push_cast] def Tryd.pl8 : Plans := fun i => if i = 9 then [(0, 0), (1, 0), (2, 0), (3, 0), (4, 0), (5, 0), (6, 0), (7, 0), (8, 0), (9, 0), (10, 0), (11, 0), (12, 0), (13, 0), (14, 0), (15, 0), (16, 0), (17, 0), (18, 0), (19, 0), (20, 0), (21, 0), (22, 0), (23, 0), (24, 0), (25, 0), (26, 0), (27, 0), (28, 0), (29, 0), (30, 0), (31, 0), (32, 0), (33, 0), (34, 0), (35, 0), (36, 0), (37, 0), (38, 0), (39, 0), (40, 0), (41, 0), (42, 0), (43, 0), (44, 0), (45, 0), (46, 0), (47, 0), (48, 0), (49, 0), (50, 0), (51, 0), (52, 0), (53, 0), (54, 0), (55, 0), (56, 0), (57, 0), (58, 0), (59, 0), (60, 0), (61, 0), (62, 0), (63, 0), (64, 0), (65, 0), (66, 2), (67, 0), (68, 0), (69, 0), (70, 0)] else []
@[push_cast] def Tryd.pl9 : Plans := fun i => []
@[push_cast] def Tryd.pl10 : Plans := fun i => if i = 10 then [(0, 0), (1, 0), (2, 0), (3, 2), (4, 2), (5, 2), (6, 1), (7, 0), (8, 1)] else if i = 12 then [(0, 0), (1, 0), (2, 0), (3, 0), (4, 2), (5, 0), (6, 0), (7, 2), (8, 1), (9, 0), (10, 1)] else if i = 14 then [(0, 0), (1, 0), (2, 0), (3, 0), (4, 0), (5, 2), (6, 0), (7, 0), (8, 2), (9, 1), (10, 0), (11, 1)] else if i = 17 then [(0, 0), (1, 0), (2, 0), (3, 0), (4, 0), (5, 0), (6, 0), (7, 0), (8, 2), (9, 2), (10, 1), (11, 0), (12, 1)] else if i = 8 then [(0, 0), (1, 0), (2, 0), (3, 0), (4, 0), (5, 2), (6, 0), (7, 0), (8, 0), (9, 2), (10, 1), (11, 0), (12, 1)] else []
@[push_cast] def Tryd.pl11 : Plans := fun i => []
@[push_cast] def Tryd.pl12 : Plans := fun i => []
@[push_cast] def Tryd.pl13 : Plans := fun i => []
@[push_cast] def Tryd.pl14 : Plans := fun i => []
@[push_cast] def Tryd.pl15 : Plans := fun i => []
@[push_cast] def Tryd.pl16 : Plans := fun i => []
@[push_cast] def Tryd.pl17 : Plans := fun i => if i = 4 then [(0, 0), (1, 0), (2, 0), (3, 0), (4, 0), (5, 0), (6, 0)] else if i = 6 then [(0, 0), (1, 0), (2, 0), (3, 0), (4, 0), (5, 0), (6, 0)] else []
@[push_cast] def Tryd.pl18 : Plans := fun i => []
@[push_cast] def Tryd.pl19 : Plans := fun i => []
@[push_cast] def Tryd.pl20 : Plans := fun i => []
@[push_cast] def Tryd.pl21 : Plans := fun i => []
@[push_cast] def Tryd.pl22 : Plans := fun i => []
@[push_cast] def Tryd.pl23 : Plans := fun i => if i = 4 then [(0, 0), (1, 0), (2, 0), (3, 0), (4, 0), (5, 0), (6, 0), (7, 0)] else []
@[push_cast] def Tryd.pl24 : Plans := fun i => []
@[push_cast] def Tryd.pl25 : Plans := fun i => if i = 2 then [(0, 0), (1, 0), (2, 0), (3, 0), (4, 0), (5, 0), (6, 0), (7, 0), (8, 0), (9, 0), (10, 0), (11, 0), (12, 0), (13, 0)] else []
@[push_cast] def Tryd.pl27 : Plans := fun i => if i = 6 then [(0, 0), (1, 0), (2, 0), (3, 0), (4, 0), (5, 0), (6, 0), (7, 0)] else []
@[push_cast] def Tryd.pl28 : Plans := fun i => []
@[push_cast] def Tryd.pl29 : Plans := fun i => []
@[push_cast] def Tryd.pl30 : Plans := fun i => []
@[push_cast] def Tryd.pl31 : Plans := fun i => []
@[push_cast] def Tryd.pl32 : Plans := fun i => if i = 4 then [(0, 0), (1, 0), (2, 0), (3, 0), (4, 0), (5, 0), (6, 0), (7, 0), (8, 0), (9, 0), (10, 0), (11, 0), (12, 1)] else []
@[push_cast] def Tryd.pl33 : Plans := fun i => []
@[push_cast] def Tryd.pl34 : Plans := fun i => []
@[push_cast] def Tryd.pl35 : Plans := fun i => []
@[push_cast] def Tryd.pl36 : Plans := fun i => []
@[push_cast] def Tryd.pl37 : Plans := fun i => []
@[push_cast] def Tryd.pl38 : Plans := fun i => if i = 9 then [(0, 0), (1, 0), (2, 0), (3, 0), (4, 0), (5, 0), (6, 0), (7, 0), (8, 0), (9, 0), (10, 2), (11, 1), (12, 0)] else if i = 17 then [(0, 0), (1, 0), (2, 0), (3, 0), (4, 0), (5, 0), (6, 0), (7, 0), (8, 0), (9, 0), (10, 0), (11, 0), (12, 0), (13, 0), (14, 0), (15, 2), (16, 1)] else []
@[push_cast] def Tryd.pl43 : Plans := fun i => []
@[push_cast] def Tryd.pl44 : Plans := fun i => []
@[push_cast] def Tryd.pl45 : Plans := fun i => []
@[push_cast] def Tryd.pl46 : Plans := fun i => []
@[push_cast] def Tryd.pl47 : Plans := fun i => []
@[push_cast] def Tryd.pl51 : Plans := fun i => []
@[push_cast] def Tryd.pl52 : Plans := fun i => []
@[push_cast] def Tryd.pl53 : Plans := fun i => []
@[push_cast] def Tryd.pl54 : Plans := fun i => []
@[push_cast] def Tryd.pl55 : Plans := fun i => []
@[push_cast] def Tryd.pl56 : Plans := fun i => []
@[push_cast] def Tryd.pl57 : Plans := fun i => []
@[push_cast] def Tryd.pl58 : Plans := fun i => if i = 8 then [(0, 0), (1, 0), (2, 0), (3, 0), (4, 0), (5, 0), (6, 0), (7, 0), (8, 0), (9, 0), (10, 0), (11, 0), (12, 0), (13, 0), (14, 0), (15, 0)] else []
@[push_cast] def Tryd.pl59 : Plans := fun i => []
@[push_cast] def Tryd.pl63 : Plans := fun i => []
@[push_cast] def Tryd.pl65 : Plans := fun i => []
@[push_cast] def Tryd.pl66 : Plans := fun i => []
@[push_cast] def Tryd.pl70 : Plans := fun i => []
@[push_cast] def Tryd.pl71 : Plans := fun i => []
@[push_cast] def Tryd.pl72 : Plans := fun i => []
@[push_cast] def Tryd.pl73 : Plans := fun i => if i = 3 then [(0, 0), (1, 0), (2, 0), (3, 0), (4, 0), (5, 0), (6, 0), (7, 0), (8, 0), (9, 0), (10, 0), (11, 0), (12, 0), (13, 1), (14, 0), (15, 1)] else []
@[push_cast] def Tryd.pl74 : Plans := fun i => []
@[push_cast] def Tryd.pl75 : Plans := fun i => []
theorem Tryd.mix : Tryd.prog.follows .mixedOrders = true := by kernel_rfl
end Go.Proofs
