/- Texts of this claim, merged by program: Facts. -/
import Derived.Test.YtkhpncfgimlleaaGreatZbAc
import Derived.Test.YtkhpncfgimlleaaGreatRows
import Derived.KernelRfl
set_option linter.unusedSimpArgs false
set_option linter.unusedVariables false
namespace Go.Proofs
open Go Go.Ev
@[push_cast] theorem Tryz.ty0 : tyI Tryz.prog 0 = some (1, false) := by kernel_rfl
@[push_cast] theorem Tryz.el0 : elemI Tryz.prog 0 = none := by kernel_rfl
attribute [push_cast] Tryz.underlying0
@[push_cast] theorem Tryz.in0 : intI Tryz.prog 0 = none := by kernel_rfl
@[push_cast] theorem Tryz.st0 : isStr Tryz.prog 0 = false := by kernel_rfl
@[push_cast] theorem Tryz.by0 : isBytes Tryz.prog 0 = false := by kernel_rfl
@[push_cast] theorem Tryz.ty1 : tyI Tryz.prog 1 = some (1, false) := by kernel_rfl
@[push_cast] theorem Tryz.zl1 : zeroL Tryz.prog 1 = some [.nilFunc] := by kernel_rfl
@[push_cast] theorem Tryz.el1 : elemI Tryz.prog 1 = none := by kernel_rfl
attribute [push_cast] Tryz.underlying1
@[push_cast] theorem Tryz.in1 : intI Tryz.prog 1 = none := by kernel_rfl
@[push_cast] theorem Tryz.st1 : isStr Tryz.prog 1 = false := by kernel_rfl
@[push_cast] theorem Tryz.by1 : isBytes Tryz.prog 1 = false := by kernel_rfl
@[push_cast] theorem Tryz.ty2 : tyI Tryz.prog 2 = some (1, false) := by kernel_rfl
@[push_cast] theorem Tryz.zl2 : zeroL Tryz.prog 2 = some [.int .i64 0] := by kernel_rfl
@[push_cast] theorem Tryz.el2 : elemI Tryz.prog 2 = none := by kernel_rfl
attribute [push_cast] Tryz.underlying2
@[push_cast] theorem Tryz.in2 : intI Tryz.prog 2 = some .i64 := by kernel_rfl
@[push_cast] theorem Tryz.st2 : isStr Tryz.prog 2 = false := by kernel_rfl
@[push_cast] theorem Tryz.by2 : isBytes Tryz.prog 2 = false := by kernel_rfl
@[push_cast] theorem Tryz.ty3 : tyI Tryz.prog 3 = some (1, false) := by kernel_rfl
@[push_cast] theorem Tryz.zl3 : zeroL Tryz.prog 3 = some [.int .i64 0] := by kernel_rfl
@[push_cast] theorem Tryz.el3 : elemI Tryz.prog 3 = none := by kernel_rfl
attribute [push_cast] Tryz.underlying3
@[push_cast] theorem Tryz.in3 : intI Tryz.prog 3 = some .i64 := by kernel_rfl
@[push_cast] theorem Tryz.st3 : isStr Tryz.prog 3 = false := by kernel_rfl
@[push_cast] theorem Tryz.by3 : isBytes Tryz.prog 3 = false := by kernel_rfl
@[push_cast] theorem Tryz.ty4 : tyI Tryz.prog 4 = some (1, false) := by kernel_rfl
@[push_cast] theorem Tryz.zl4 : zeroL Tryz.prog 4 = some [.bool false] := by kernel_rfl
@[push_cast] theorem Tryz.el4 : elemI Tryz.prog 4 = none := by kernel_rfl
attribute [push_cast] Tryz.underlying4
@[push_cast] theorem Tryz.in4 : intI Tryz.prog 4 = none := by kernel_rfl
@[push_cast] theorem Tryz.st4 : isStr Tryz.prog 4 = false := by kernel_rfl
@[push_cast] theorem Tryz.by4 : isBytes Tryz.prog 4 = false := by kernel_rfl
@[push_cast] theorem Tryz.ty5 : tyI Tryz.prog 5 = some (1, false) := by kernel_rfl
@[push_cast] theorem Tryz.zl5 : zeroL Tryz.prog 5 = some [.int .u8 0] := by kernel_rfl
@[push_cast] theorem Tryz.el5 : elemI Tryz.prog 5 = none := by kernel_rfl
attribute [push_cast] Tryz.underlying5
@[push_cast] theorem Tryz.in5 : intI Tryz.prog 5 = some .u8 := by kernel_rfl
@[push_cast] theorem Tryz.st5 : isStr Tryz.prog 5 = false := by kernel_rfl
@[push_cast] theorem Tryz.by5 : isBytes Tryz.prog 5 = false := by kernel_rfl
@[push_cast] theorem Tryz.ty6 : tyI Tryz.prog 6 = some (1, false) := by kernel_rfl
@[push_cast] theorem Tryz.zl6 : zeroL Tryz.prog 6 = some [.int .u8 0] := by kernel_rfl
@[push_cast] theorem Tryz.el6 : elemI Tryz.prog 6 = none := by kernel_rfl
attribute [push_cast] Tryz.underlying6
@[push_cast] theorem Tryz.in6 : intI Tryz.prog 6 = some .u8 := by kernel_rfl
@[push_cast] theorem Tryz.st6 : isStr Tryz.prog 6 = false := by kernel_rfl
@[push_cast] theorem Tryz.by6 : isBytes Tryz.prog 6 = false := by kernel_rfl
@[push_cast] theorem Tryz.ty7 : tyI Tryz.prog 7 = some (4, true) := by kernel_rfl
@[push_cast] theorem Tryz.zl7 : zeroL Tryz.prog 7 = some [.int .i64 0, .int .i64 0, .bool false, .int .u8 0] := by kernel_rfl
@[push_cast] theorem Tryz.el7 : elemI Tryz.prog 7 = none := by kernel_rfl
attribute [push_cast] Tryz.underlying7
@[push_cast] theorem Tryz.in7 : intI Tryz.prog 7 = none := by kernel_rfl
@[push_cast] theorem Tryz.st7 : isStr Tryz.prog 7 = false := by kernel_rfl
@[push_cast] theorem Tryz.by7 : isBytes Tryz.prog 7 = false := by kernel_rfl
@[push_cast] theorem Tryz.fi7_0 : fieldI Tryz.prog 7 0 = some (0, 1, false) := by kernel_rfl
@[push_cast] theorem Tryz.pl7_0 : placeOf Tryz.prog 7 0 = some (0, 1) := by kernel_rfl
@[push_cast] theorem Tryz.fi7_1 : fieldI Tryz.prog 7 1 = some (1, 1, false) := by kernel_rfl
@[push_cast] theorem Tryz.pl7_1 : placeOf Tryz.prog 7 1 = some (1, 1) := by kernel_rfl
@[push_cast] theorem Tryz.fi7_2 : fieldI Tryz.prog 7 2 = some (2, 1, false) := by kernel_rfl
@[push_cast] theorem Tryz.pl7_2 : placeOf Tryz.prog 7 2 = some (2, 1) := by kernel_rfl
@[push_cast] theorem Tryz.fi7_3 : fieldI Tryz.prog 7 3 = some (3, 1, false) := by kernel_rfl
@[push_cast] theorem Tryz.pl7_3 : placeOf Tryz.prog 7 3 = some (3, 1) := by kernel_rfl
@[push_cast] theorem Tryz.fo7 : fieldsOk Tryz.prog 7 = true := by kernel_rfl
@[push_cast] theorem Tryz.fk7 : flatK Tryz.prog 12 7 = some [.i, .i, .b, .i] := by kernel_rfl
@[push_cast] theorem Tryz.eg7 : Program.eqGuardType Tryz.prog (Program.depth Tryz.prog) 7 = false := by kernel_rfl
@[push_cast] theorem Tryz.ty8 : tyI Tryz.prog 8 = some (4, true) := by kernel_rfl
@[push_cast] theorem Tryz.zl8 : zeroL Tryz.prog 8 = some [.int .i64 0, .int .i64 0, .bool false, .int .u8 0] := by kernel_rfl
@[push_cast] theorem Tryz.el8 : elemI Tryz.prog 8 = none := by kernel_rfl
attribute [push_cast] Tryz.underlying8
@[push_cast] theorem Tryz.in8 : intI Tryz.prog 8 = none := by kernel_rfl
@[push_cast] theorem Tryz.st8 : isStr Tryz.prog 8 = false := by kernel_rfl
@[push_cast] theorem Tryz.by8 : isBytes Tryz.prog 8 = false := by kernel_rfl
@[push_cast] theorem Tryz.fi8_0 : fieldI Tryz.prog 8 0 = some (0, 1, false) := by kernel_rfl
@[push_cast] theorem Tryz.pl8_0 : placeOf Tryz.prog 8 0 = some (0, 1) := by kernel_rfl
@[push_cast] theorem Tryz.fi8_1 : fieldI Tryz.prog 8 1 = some (1, 1, false) := by kernel_rfl
@[push_cast] theorem Tryz.pl8_1 : placeOf Tryz.prog 8 1 = some (1, 1) := by kernel_rfl
@[push_cast] theorem Tryz.fi8_2 : fieldI Tryz.prog 8 2 = some (2, 1, false) := by kernel_rfl
@[push_cast] theorem Tryz.pl8_2 : placeOf Tryz.prog 8 2 = some (2, 1) := by kernel_rfl
@[push_cast] theorem Tryz.fi8_3 : fieldI Tryz.prog 8 3 = some (3, 1, false) := by kernel_rfl
@[push_cast] theorem Tryz.pl8_3 : placeOf Tryz.prog 8 3 = some (3, 1) := by kernel_rfl
@[push_cast] theorem Tryz.fo8 : fieldsOk Tryz.prog 8 = true := by kernel_rfl
@[push_cast] theorem Tryz.fk8 : flatK Tryz.prog 12 8 = some [.i, .i, .b, .i] := by kernel_rfl
@[push_cast] theorem Tryz.eg8 : Program.eqGuardType Tryz.prog (Program.depth Tryz.prog) 8 = false := by kernel_rfl
@[push_cast] theorem Tryz.ty9 : tyI Tryz.prog 9 = some (1, false) := by kernel_rfl
@[push_cast] theorem Tryz.zl9 : zeroL Tryz.prog 9 = some [.string ByteArray.empty] := by kernel_rfl
@[push_cast] theorem Tryz.el9 : elemI Tryz.prog 9 = none := by kernel_rfl
attribute [push_cast] Tryz.underlying9
@[push_cast] theorem Tryz.in9 : intI Tryz.prog 9 = none := by kernel_rfl
@[push_cast] theorem Tryz.st9 : isStr Tryz.prog 9 = true := by kernel_rfl
@[push_cast] theorem Tryz.by9 : isBytes Tryz.prog 9 = false := by kernel_rfl
@[push_cast] theorem Tryz.ty10 : tyI Tryz.prog 10 = some (1, false) := by kernel_rfl
@[push_cast] theorem Tryz.zl10 : zeroL Tryz.prog 10 = some [.string ByteArray.empty] := by kernel_rfl
@[push_cast] theorem Tryz.el10 : elemI Tryz.prog 10 = none := by kernel_rfl
attribute [push_cast] Tryz.underlying10
@[push_cast] theorem Tryz.in10 : intI Tryz.prog 10 = none := by kernel_rfl
@[push_cast] theorem Tryz.st10 : isStr Tryz.prog 10 = true := by kernel_rfl
@[push_cast] theorem Tryz.by10 : isBytes Tryz.prog 10 = false := by kernel_rfl
@[push_cast] theorem Tryz.ty11 : tyI Tryz.prog 11 = some (1, false) := by kernel_rfl
@[push_cast] theorem Tryz.zl11 : zeroL Tryz.prog 11 = some [.string ByteArray.empty] := by kernel_rfl
@[push_cast] theorem Tryz.el11 : elemI Tryz.prog 11 = none := by kernel_rfl
attribute [push_cast] Tryz.underlying11
@[push_cast] theorem Tryz.in11 : intI Tryz.prog 11 = none := by kernel_rfl
@[push_cast] theorem Tryz.st11 : isStr Tryz.prog 11 = true := by kernel_rfl
@[push_cast] theorem Tryz.by11 : isBytes Tryz.prog 11 = false := by kernel_rfl
@[push_cast] theorem Tryz.ty12 : tyI Tryz.prog 12 = some (1, false) := by kernel_rfl
@[push_cast] theorem Tryz.zl12 : zeroL Tryz.prog 12 = some [.int .u64 0] := by kernel_rfl
@[push_cast] theorem Tryz.el12 : elemI Tryz.prog 12 = none := by kernel_rfl
attribute [push_cast] Tryz.underlying12
@[push_cast] theorem Tryz.in12 : intI Tryz.prog 12 = some .u64 := by kernel_rfl
@[push_cast] theorem Tryz.st12 : isStr Tryz.prog 12 = false := by kernel_rfl
@[push_cast] theorem Tryz.by12 : isBytes Tryz.prog 12 = false := by kernel_rfl
@[push_cast] theorem Tryz.ty13 : tyI Tryz.prog 13 = some (2, true) := by kernel_rfl
@[push_cast] theorem Tryz.zl13 : zeroL Tryz.prog 13 = some [.string ByteArray.empty, .int .u64 0] := by kernel_rfl
@[push_cast] theorem Tryz.el13 : elemI Tryz.prog 13 = none := by kernel_rfl
attribute [push_cast] Tryz.underlying13
@[push_cast] theorem Tryz.in13 : intI Tryz.prog 13 = none := by kernel_rfl
@[push_cast] theorem Tryz.st13 : isStr Tryz.prog 13 = false := by kernel_rfl
@[push_cast] theorem Tryz.by13 : isBytes Tryz.prog 13 = false := by kernel_rfl
@[push_cast] theorem Tryz.fi13_0 : fieldI Tryz.prog 13 0 = some (0, 1, false) := by kernel_rfl
@[push_cast] theorem Tryz.pl13_0 : placeOf Tryz.prog 13 0 = some (0, 1) := by kernel_rfl
@[push_cast] theorem Tryz.fi13_1 : fieldI Tryz.prog 13 1 = some (1, 1, false) := by kernel_rfl
@[push_cast] theorem Tryz.pl13_1 : placeOf Tryz.prog 13 1 = some (1, 1) := by kernel_rfl
@[push_cast] theorem Tryz.fo13 : fieldsOk Tryz.prog 13 = true := by kernel_rfl
@[push_cast] theorem Tryz.ty14 : tyI Tryz.prog 14 = some (2, true) := by kernel_rfl
@[push_cast] theorem Tryz.zl14 : zeroL Tryz.prog 14 = some [.string ByteArray.empty, .int .u64 0] := by kernel_rfl
@[push_cast] theorem Tryz.el14 : elemI Tryz.prog 14 = none := by kernel_rfl
attribute [push_cast] Tryz.underlying14
@[push_cast] theorem Tryz.in14 : intI Tryz.prog 14 = none := by kernel_rfl
@[push_cast] theorem Tryz.st14 : isStr Tryz.prog 14 = false := by kernel_rfl
@[push_cast] theorem Tryz.by14 : isBytes Tryz.prog 14 = false := by kernel_rfl
@[push_cast] theorem Tryz.fi14_0 : fieldI Tryz.prog 14 0 = some (0, 1, false) := by kernel_rfl
@[push_cast] theorem Tryz.pl14_0 : placeOf Tryz.prog 14 0 = some (0, 1) := by kernel_rfl
@[push_cast] theorem Tryz.fi14_1 : fieldI Tryz.prog 14 1 = some (1, 1, false) := by kernel_rfl
@[push_cast] theorem Tryz.pl14_1 : placeOf Tryz.prog 14 1 = some (1, 1) := by kernel_rfl
@[push_cast] theorem Tryz.fo14 : fieldsOk Tryz.prog 14 = true := by kernel_rfl
@[push_cast] theorem Tryz.ty15 : tyI Tryz.prog 15 = some (1, false) := by kernel_rfl
@[push_cast] theorem Tryz.zl15 : zeroL Tryz.prog 15 = some [.pointer none] := by kernel_rfl
@[push_cast] theorem Tryz.el15 : elemI Tryz.prog 15 = none := by kernel_rfl
attribute [push_cast] Tryz.underlying15
@[push_cast] theorem Tryz.in15 : intI Tryz.prog 15 = none := by kernel_rfl
@[push_cast] theorem Tryz.st15 : isStr Tryz.prog 15 = false := by kernel_rfl
@[push_cast] theorem Tryz.by15 : isBytes Tryz.prog 15 = false := by kernel_rfl
@[push_cast] theorem Tryz.ty16 : tyI Tryz.prog 16 = some (1, false) := by kernel_rfl
@[push_cast] theorem Tryz.zl16 : zeroL Tryz.prog 16 = some [.pointer none] := by kernel_rfl
@[push_cast] theorem Tryz.el16 : elemI Tryz.prog 16 = none := by kernel_rfl
attribute [push_cast] Tryz.underlying16
@[push_cast] theorem Tryz.in16 : intI Tryz.prog 16 = none := by kernel_rfl
@[push_cast] theorem Tryz.st16 : isStr Tryz.prog 16 = false := by kernel_rfl
@[push_cast] theorem Tryz.by16 : isBytes Tryz.prog 16 = false := by kernel_rfl
@[push_cast] theorem Tryz.ty17 : tyI Tryz.prog 17 = some (1, false) := by kernel_rfl
@[push_cast] theorem Tryz.zl17 : zeroL Tryz.prog 17 = some [.pointer none] := by kernel_rfl
@[push_cast] theorem Tryz.el17 : elemI Tryz.prog 17 = none := by kernel_rfl
attribute [push_cast] Tryz.underlying17
@[push_cast] theorem Tryz.in17 : intI Tryz.prog 17 = none := by kernel_rfl
@[push_cast] theorem Tryz.st17 : isStr Tryz.prog 17 = false := by kernel_rfl
@[push_cast] theorem Tryz.by17 : isBytes Tryz.prog 17 = false := by kernel_rfl
@[push_cast] theorem Tryz.ty18 : tyI Tryz.prog 18 = some (1, true) := by kernel_rfl
@[push_cast] theorem Tryz.zl18 : zeroL Tryz.prog 18 = some [.pointer none] := by kernel_rfl
@[push_cast] theorem Tryz.el18 : elemI Tryz.prog 18 = none := by kernel_rfl
attribute [push_cast] Tryz.underlying18
@[push_cast] theorem Tryz.in18 : intI Tryz.prog 18 = none := by kernel_rfl
@[push_cast] theorem Tryz.st18 : isStr Tryz.prog 18 = false := by kernel_rfl
@[push_cast] theorem Tryz.by18 : isBytes Tryz.prog 18 = false := by kernel_rfl
@[push_cast] theorem Tryz.fi18_0 : fieldI Tryz.prog 18 0 = some (0, 1, false) := by kernel_rfl
@[push_cast] theorem Tryz.pl18_0 : placeOf Tryz.prog 18 0 = some (0, 1) := by kernel_rfl
@[push_cast] theorem Tryz.fo18 : fieldsOk Tryz.prog 18 = true := by kernel_rfl
@[push_cast] theorem Tryz.ty19 : tyI Tryz.prog 19 = some (1, true) := by kernel_rfl
@[push_cast] theorem Tryz.zl19 : zeroL Tryz.prog 19 = some [.pointer none] := by kernel_rfl
@[push_cast] theorem Tryz.el19 : elemI Tryz.prog 19 = none := by kernel_rfl
attribute [push_cast] Tryz.underlying19
@[push_cast] theorem Tryz.in19 : intI Tryz.prog 19 = none := by kernel_rfl
@[push_cast] theorem Tryz.st19 : isStr Tryz.prog 19 = false := by kernel_rfl
@[push_cast] theorem Tryz.by19 : isBytes Tryz.prog 19 = false := by kernel_rfl
@[push_cast] theorem Tryz.fi19_0 : fieldI Tryz.prog 19 0 = some (0, 1, false) := by kernel_rfl
@[push_cast] theorem Tryz.pl19_0 : placeOf Tryz.prog 19 0 = some (0, 1) := by kernel_rfl
@[push_cast] theorem Tryz.fo19 : fieldsOk Tryz.prog 19 = true := by kernel_rfl
@[push_cast] theorem Tryz.ty20 : tyI Tryz.prog 20 = some (1, false) := by kernel_rfl
@[push_cast] theorem Tryz.zl20 : zeroL Tryz.prog 20 = some [.nilIface] := by kernel_rfl
@[push_cast] theorem Tryz.el20 : elemI Tryz.prog 20 = none := by kernel_rfl
attribute [push_cast] Tryz.underlying20
@[push_cast] theorem Tryz.in20 : intI Tryz.prog 20 = none := by kernel_rfl
@[push_cast] theorem Tryz.st20 : isStr Tryz.prog 20 = false := by kernel_rfl
@[push_cast] theorem Tryz.by20 : isBytes Tryz.prog 20 = false := by kernel_rfl
@[push_cast] theorem Tryz.ty21 : tyI Tryz.prog 21 = some (1, false) := by kernel_rfl
@[push_cast] theorem Tryz.zl21 : zeroL Tryz.prog 21 = some [.int .i32 0] := by kernel_rfl
@[push_cast] theorem Tryz.el21 : elemI Tryz.prog 21 = none := by kernel_rfl
attribute [push_cast] Tryz.underlying21
@[push_cast] theorem Tryz.in21 : intI Tryz.prog 21 = some .i32 := by kernel_rfl
@[push_cast] theorem Tryz.st21 : isStr Tryz.prog 21 = false := by kernel_rfl
@[push_cast] theorem Tryz.by21 : isBytes Tryz.prog 21 = false := by kernel_rfl
@[push_cast] theorem Tryz.ty22 : tyI Tryz.prog 22 = some (1, false) := by kernel_rfl
@[push_cast] theorem Tryz.zl22 : zeroL Tryz.prog 22 = some [.slice none 0 0] := by kernel_rfl
@[push_cast] theorem Tryz.el22 : elemI Tryz.prog 22 = some (none, 4, true) := by kernel_rfl
@[push_cast] theorem Tryz.sl22 : slI Tryz.prog 22 = some (46, 4, 32) := by kernel_rfl
attribute [push_cast] Tryz.underlying22
@[push_cast] theorem Tryz.in22 : intI Tryz.prog 22 = none := by kernel_rfl
@[push_cast] theorem Tryz.st22 : isStr Tryz.prog 22 = false := by kernel_rfl
@[push_cast] theorem Tryz.by22 : isBytes Tryz.prog 22 = false := by kernel_rfl
@[push_cast] theorem Tryz.ty23 : tyI Tryz.prog 23 = some (1, false) := by kernel_rfl
@[push_cast] theorem Tryz.zl23 : zeroL Tryz.prog 23 = some [.slice none 0 0] := by kernel_rfl
@[push_cast] theorem Tryz.el23 : elemI Tryz.prog 23 = some (none, 5, true) := by kernel_rfl
@[push_cast] theorem Tryz.sl23 : slI Tryz.prog 23 = some (60, 5, 40) := by kernel_rfl
attribute [push_cast] Tryz.underlying23
@[push_cast] theorem Tryz.in23 : intI Tryz.prog 23 = none := by kernel_rfl
@[push_cast] theorem Tryz.st23 : isStr Tryz.prog 23 = false := by kernel_rfl
@[push_cast] theorem Tryz.by23 : isBytes Tryz.prog 23 = false := by kernel_rfl
@[push_cast] theorem Tryz.ty24 : tyI Tryz.prog 24 = some (3, true) := by kernel_rfl
@[push_cast] theorem Tryz.zl24 : zeroL Tryz.prog 24 = some [.int .i64 0, .int .i64 0, .int .i64 0] := by kernel_rfl
@[push_cast] theorem Tryz.el24 : elemI Tryz.prog 24 = some (some 3, 1, false) := by kernel_rfl
attribute [push_cast] Tryz.underlying24
@[push_cast] theorem Tryz.in24 : intI Tryz.prog 24 = none := by kernel_rfl
@[push_cast] theorem Tryz.st24 : isStr Tryz.prog 24 = false := by kernel_rfl
@[push_cast] theorem Tryz.by24 : isBytes Tryz.prog 24 = false := by kernel_rfl
@[push_cast] theorem Tryz.pl24_0 : placeOf Tryz.prog 24 0 = some (0, 1) := by kernel_rfl
@[push_cast] theorem Tryz.pl24_1 : placeOf Tryz.prog 24 1 = some (1, 1) := by kernel_rfl
@[push_cast] theorem Tryz.pl24_2 : placeOf Tryz.prog 24 2 = some (2, 1) := by kernel_rfl
@[push_cast] theorem Tryz.fo24 : fieldsOk Tryz.prog 24 = true := by kernel_rfl
@[push_cast] theorem Tryz.fk24 : flatK Tryz.prog 12 24 = some [.i, .i, .i] := by kernel_rfl
@[push_cast] theorem Tryz.eg24 : Program.eqGuardType Tryz.prog (Program.depth Tryz.prog) 24 = false := by kernel_rfl
@[push_cast] theorem Tryz.ty25 : tyI Tryz.prog 25 = some (20, true) := by kernel_rfl
@[push_cast] theorem Tryz.zl25 : zeroL Tryz.prog 25 = some [.int .u8 0, .int .u8 0, .int .u8 0, .int .u8 0, .int .u8 0, .int .u8 0, .int .u8 0, .int .u8 0, .int .u8 0, .int .u8 0, .int .u8 0, .int .u8 0, .int .u8 0, .int .u8 0, .int .u8 0, .int .u8 0, .int .u8 0, .int .u8 0, .int .u8 0, .int .u8 0] := by kernel_rfl
@[push_cast] theorem Tryz.el25 : elemI Tryz.prog 25 = some (some 20, 1, false) := by kernel_rfl
attribute [push_cast] Tryz.underlying25
@[push_cast] theorem Tryz.in25 : intI Tryz.prog 25 = none := by kernel_rfl
@[push_cast] theorem Tryz.st25 : isStr Tryz.prog 25 = false := by kernel_rfl
@[push_cast] theorem Tryz.by25 : isBytes Tryz.prog 25 = false := by kernel_rfl
@[push_cast] theorem Tryz.pl25_0 : placeOf Tryz.prog 25 0 = some (0, 1) := by kernel_rfl
@[push_cast] theorem Tryz.pl25_1 : placeOf Tryz.prog 25 1 = some (1, 1) := by kernel_rfl
@[push_cast] theorem Tryz.pl25_2 : placeOf Tryz.prog 25 2 = some (2, 1) := by kernel_rfl
@[push_cast] theorem Tryz.pl25_3 : placeOf Tryz.prog 25 3 = some (3, 1) := by kernel_rfl
@[push_cast] theorem Tryz.pl25_4 : placeOf Tryz.prog 25 4 = some (4, 1) := by kernel_rfl
@[push_cast] theorem Tryz.pl25_5 : placeOf Tryz.prog 25 5 = some (5, 1) := by kernel_rfl
@[push_cast] theorem Tryz.pl25_6 : placeOf Tryz.prog 25 6 = some (6, 1) := by kernel_rfl
@[push_cast] theorem Tryz.pl25_7 : placeOf Tryz.prog 25 7 = some (7, 1) := by kernel_rfl
@[push_cast] theorem Tryz.pl25_8 : placeOf Tryz.prog 25 8 = some (8, 1) := by kernel_rfl
@[push_cast] theorem Tryz.pl25_9 : placeOf Tryz.prog 25 9 = some (9, 1) := by kernel_rfl
@[push_cast] theorem Tryz.pl25_10 : placeOf Tryz.prog 25 10 = some (10, 1) := by kernel_rfl
@[push_cast] theorem Tryz.pl25_11 : placeOf Tryz.prog 25 11 = some (11, 1) := by kernel_rfl
@[push_cast] theorem Tryz.pl25_12 : placeOf Tryz.prog 25 12 = some (12, 1) := by kernel_rfl
@[push_cast] theorem Tryz.pl25_13 : placeOf Tryz.prog 25 13 = some (13, 1) := by kernel_rfl
@[push_cast] theorem Tryz.pl25_14 : placeOf Tryz.prog 25 14 = some (14, 1) := by kernel_rfl
@[push_cast] theorem Tryz.pl25_15 : placeOf Tryz.prog 25 15 = some (15, 1) := by kernel_rfl
@[push_cast] theorem Tryz.pl25_16 : placeOf Tryz.prog 25 16 = some (16, 1) := by kernel_rfl
@[push_cast] theorem Tryz.pl25_17 : placeOf Tryz.prog 25 17 = some (17, 1) := by kernel_rfl
@[push_cast] theorem Tryz.pl25_18 : placeOf Tryz.prog 25 18 = some (18, 1) := by kernel_rfl
@[push_cast] theorem Tryz.pl25_19 : placeOf Tryz.prog 25 19 = some (19, 1) := by kernel_rfl
@[push_cast] theorem Tryz.fo25 : fieldsOk Tryz.prog 25 = true := by kernel_rfl
@[push_cast] theorem Tryz.fk25 : flatK Tryz.prog 12 25 = some [.i, .i, .i, .i, .i, .i, .i, .i, .i, .i, .i, .i, .i, .i, .i, .i, .i, .i, .i, .i] := by kernel_rfl
@[push_cast] theorem Tryz.eg25 : Program.eqGuardType Tryz.prog (Program.depth Tryz.prog) 25 = false := by kernel_rfl
@[push_cast] theorem Tryz.ty26 : tyI Tryz.prog 26 = some (20, true) := by kernel_rfl
@[push_cast] theorem Tryz.zl26 : zeroL Tryz.prog 26 = some [.int .u8 0, .int .u8 0, .int .u8 0, .int .u8 0, .int .u8 0, .int .u8 0, .int .u8 0, .int .u8 0, .int .u8 0, .int .u8 0, .int .u8 0, .int .u8 0, .int .u8 0, .int .u8 0, .int .u8 0, .int .u8 0, .int .u8 0, .int .u8 0, .int .u8 0, .int .u8 0] := by kernel_rfl
@[push_cast] theorem Tryz.el26 : elemI Tryz.prog 26 = some (some 20, 1, false) := by kernel_rfl
attribute [push_cast] Tryz.underlying26
@[push_cast] theorem Tryz.in26 : intI Tryz.prog 26 = none := by kernel_rfl
@[push_cast] theorem Tryz.st26 : isStr Tryz.prog 26 = false := by kernel_rfl
@[push_cast] theorem Tryz.by26 : isBytes Tryz.prog 26 = false := by kernel_rfl
@[push_cast] theorem Tryz.pl26_0 : placeOf Tryz.prog 26 0 = some (0, 1) := by kernel_rfl
@[push_cast] theorem Tryz.pl26_1 : placeOf Tryz.prog 26 1 = some (1, 1) := by kernel_rfl
@[push_cast] theorem Tryz.pl26_2 : placeOf Tryz.prog 26 2 = some (2, 1) := by kernel_rfl
@[push_cast] theorem Tryz.pl26_3 : placeOf Tryz.prog 26 3 = some (3, 1) := by kernel_rfl
@[push_cast] theorem Tryz.pl26_4 : placeOf Tryz.prog 26 4 = some (4, 1) := by kernel_rfl
@[push_cast] theorem Tryz.pl26_5 : placeOf Tryz.prog 26 5 = some (5, 1) := by kernel_rfl
@[push_cast] theorem Tryz.pl26_6 : placeOf Tryz.prog 26 6 = some (6, 1) := by kernel_rfl
@[push_cast] theorem Tryz.pl26_7 : placeOf Tryz.prog 26 7 = some (7, 1) := by kernel_rfl
@[push_cast] theorem Tryz.pl26_8 : placeOf Tryz.prog 26 8 = some (8, 1) := by kernel_rfl
@[push_cast] theorem Tryz.pl26_9 : placeOf Tryz.prog 26 9 = some (9, 1) := by kernel_rfl
@[push_cast] theorem Tryz.pl26_10 : placeOf Tryz.prog 26 10 = some (10, 1) := by kernel_rfl
@[push_cast] theorem Tryz.pl26_11 : placeOf Tryz.prog 26 11 = some (11, 1) := by kernel_rfl
@[push_cast] theorem Tryz.pl26_12 : placeOf Tryz.prog 26 12 = some (12, 1) := by kernel_rfl
@[push_cast] theorem Tryz.pl26_13 : placeOf Tryz.prog 26 13 = some (13, 1) := by kernel_rfl
@[push_cast] theorem Tryz.pl26_14 : placeOf Tryz.prog 26 14 = some (14, 1) := by kernel_rfl
@[push_cast] theorem Tryz.pl26_15 : placeOf Tryz.prog 26 15 = some (15, 1) := by kernel_rfl
@[push_cast] theorem Tryz.pl26_16 : placeOf Tryz.prog 26 16 = some (16, 1) := by kernel_rfl
@[push_cast] theorem Tryz.pl26_17 : placeOf Tryz.prog 26 17 = some (17, 1) := by kernel_rfl
@[push_cast] theorem Tryz.pl26_18 : placeOf Tryz.prog 26 18 = some (18, 1) := by kernel_rfl
@[push_cast] theorem Tryz.pl26_19 : placeOf Tryz.prog 26 19 = some (19, 1) := by kernel_rfl
@[push_cast] theorem Tryz.fo26 : fieldsOk Tryz.prog 26 = true := by kernel_rfl
@[push_cast] theorem Tryz.fk26 : flatK Tryz.prog 12 26 = some [.i, .i, .i, .i, .i, .i, .i, .i, .i, .i, .i, .i, .i, .i, .i, .i, .i, .i, .i, .i] := by kernel_rfl
@[push_cast] theorem Tryz.eg26 : Program.eqGuardType Tryz.prog (Program.depth Tryz.prog) 26 = false := by kernel_rfl
@[push_cast] theorem Tryz.ty27 : tyI Tryz.prog 27 = some (1, false) := by kernel_rfl
@[push_cast] theorem Tryz.zl27 : zeroL Tryz.prog 27 = some [.int .u64 0] := by kernel_rfl
@[push_cast] theorem Tryz.el27 : elemI Tryz.prog 27 = none := by kernel_rfl
attribute [push_cast] Tryz.underlying27
@[push_cast] theorem Tryz.in27 : intI Tryz.prog 27 = some .u64 := by kernel_rfl
@[push_cast] theorem Tryz.st27 : isStr Tryz.prog 27 = false := by kernel_rfl
@[push_cast] theorem Tryz.by27 : isBytes Tryz.prog 27 = false := by kernel_rfl
@[push_cast] theorem Tryz.ty28 : tyI Tryz.prog 28 = some (4, true) := by kernel_rfl
@[push_cast] theorem Tryz.zl28 : zeroL Tryz.prog 28 = some [.int .u64 0, .int .u64 0, .int .u64 0, .int .u64 0] := by kernel_rfl
@[push_cast] theorem Tryz.el28 : elemI Tryz.prog 28 = some (some 4, 1, false) := by kernel_rfl
attribute [push_cast] Tryz.underlying28
@[push_cast] theorem Tryz.in28 : intI Tryz.prog 28 = none := by kernel_rfl
@[push_cast] theorem Tryz.st28 : isStr Tryz.prog 28 = false := by kernel_rfl
@[push_cast] theorem Tryz.by28 : isBytes Tryz.prog 28 = false := by kernel_rfl
@[push_cast] theorem Tryz.pl28_0 : placeOf Tryz.prog 28 0 = some (0, 1) := by kernel_rfl
@[push_cast] theorem Tryz.pl28_1 : placeOf Tryz.prog 28 1 = some (1, 1) := by kernel_rfl
@[push_cast] theorem Tryz.pl28_2 : placeOf Tryz.prog 28 2 = some (2, 1) := by kernel_rfl
@[push_cast] theorem Tryz.pl28_3 : placeOf Tryz.prog 28 3 = some (3, 1) := by kernel_rfl
@[push_cast] theorem Tryz.fo28 : fieldsOk Tryz.prog 28 = true := by kernel_rfl
@[push_cast] theorem Tryz.fk28 : flatK Tryz.prog 12 28 = some [.i, .i, .i, .i] := by kernel_rfl
@[push_cast] theorem Tryz.eg28 : Program.eqGuardType Tryz.prog (Program.depth Tryz.prog) 28 = false := by kernel_rfl
@[push_cast] theorem Tryz.ty29 : tyI Tryz.prog 29 = some (4, true) := by kernel_rfl
@[push_cast] theorem Tryz.zl29 : zeroL Tryz.prog 29 = some [.int .u64 0, .int .u64 0, .int .u64 0, .int .u64 0] := by kernel_rfl
@[push_cast] theorem Tryz.el29 : elemI Tryz.prog 29 = some (some 4, 1, false) := by kernel_rfl
attribute [push_cast] Tryz.underlying29
@[push_cast] theorem Tryz.in29 : intI Tryz.prog 29 = none := by kernel_rfl
@[push_cast] theorem Tryz.st29 : isStr Tryz.prog 29 = false := by kernel_rfl
@[push_cast] theorem Tryz.by29 : isBytes Tryz.prog 29 = false := by kernel_rfl
@[push_cast] theorem Tryz.pl29_0 : placeOf Tryz.prog 29 0 = some (0, 1) := by kernel_rfl
@[push_cast] theorem Tryz.pl29_1 : placeOf Tryz.prog 29 1 = some (1, 1) := by kernel_rfl
@[push_cast] theorem Tryz.pl29_2 : placeOf Tryz.prog 29 2 = some (2, 1) := by kernel_rfl
@[push_cast] theorem Tryz.pl29_3 : placeOf Tryz.prog 29 3 = some (3, 1) := by kernel_rfl
@[push_cast] theorem Tryz.fo29 : fieldsOk Tryz.prog 29 = true := by kernel_rfl
@[push_cast] theorem Tryz.fk29 : flatK Tryz.prog 12 29 = some [.i, .i, .i, .i] := by kernel_rfl
@[push_cast] theorem Tryz.eg29 : Program.eqGuardType Tryz.prog (Program.depth Tryz.prog) 29 = false := by kernel_rfl
@[push_cast] theorem Tryz.ty30 : tyI Tryz.prog 30 = some (31, true) := by kernel_rfl
@[push_cast] theorem Tryz.zl30 : zeroL Tryz.prog 30 = some [.int .i64 0, .int .u8 0, .int .u8 0, .int .u8 0, .int .u8 0, .int .u8 0, .int .u8 0, .int .u8 0, .int .u8 0, .int .u8 0, .int .u8 0, .int .u8 0, .int .u8 0, .int .u8 0, .int .u8 0, .int .u8 0, .int .u8 0, .int .u8 0, .int .u8 0, .int .u8 0, .int .u8 0, .int .u64 0, .int .u64 0, .int .u64 0, .int .u64 0, .int .u64 0, .int .u64 0, .int .u64 0, .int .u64 0, .int .i64 0, .string ByteArray.empty] := by kernel_rfl
@[push_cast] theorem Tryz.el30 : elemI Tryz.prog 30 = none := by kernel_rfl
attribute [push_cast] Tryz.underlying30
@[push_cast] theorem Tryz.in30 : intI Tryz.prog 30 = none := by kernel_rfl
@[push_cast] theorem Tryz.st30 : isStr Tryz.prog 30 = false := by kernel_rfl
@[push_cast] theorem Tryz.by30 : isBytes Tryz.prog 30 = false := by kernel_rfl
@[push_cast] theorem Tryz.fi30_0 : fieldI Tryz.prog 30 0 = some (0, 1, false) := by kernel_rfl
@[push_cast] theorem Tryz.pl30_0 : placeOf Tryz.prog 30 0 = some (0, 1) := by kernel_rfl
@[push_cast] theorem Tryz.fi30_1 : fieldI Tryz.prog 30 1 = some (1, 20, true) := by kernel_rfl
@[push_cast] theorem Tryz.pl30_1 : placeOf Tryz.prog 30 1 = some (1, 20) := by kernel_rfl
@[push_cast] theorem Tryz.fi30_2 : fieldI Tryz.prog 30 2 = some (21, 4, true) := by kernel_rfl
@[push_cast] theorem Tryz.pl30_2 : placeOf Tryz.prog 30 2 = some (21, 4) := by kernel_rfl
@[push_cast] theorem Tryz.fi30_3 : fieldI Tryz.prog 30 3 = some (25, 4, true) := by kernel_rfl
@[push_cast] theorem Tryz.pl30_3 : placeOf Tryz.prog 30 3 = some (25, 4) := by kernel_rfl
@[push_cast] theorem Tryz.fi30_4 : fieldI Tryz.prog 30 4 = some (29, 1, false) := by kernel_rfl
@[push_cast] theorem Tryz.pl30_4 : placeOf Tryz.prog 30 4 = some (29, 1) := by kernel_rfl
@[push_cast] theorem Tryz.fi30_5 : fieldI Tryz.prog 30 5 = some (30, 1, false) := by kernel_rfl
@[push_cast] theorem Tryz.pl30_5 : placeOf Tryz.prog 30 5 = some (30, 1) := by kernel_rfl
@[push_cast] theorem Tryz.fo30 : fieldsOk Tryz.prog 30 = true := by kernel_rfl
@[push_cast] theorem Tryz.fk30 : flatK Tryz.prog 12 30 = some [.i, .i, .i, .i, .i, .i, .i, .i, .i, .i, .i, .i, .i, .i, .i, .i, .i, .i, .i, .i, .i, .i, .i, .i, .i, .i, .i, .i, .i, .i, .s] := by kernel_rfl
@[push_cast] theorem Tryz.eg30 : Program.eqGuardType Tryz.prog (Program.depth Tryz.prog) 30 = false := by kernel_rfl
@[push_cast] theorem Tryz.ty31 : tyI Tryz.prog 31 = some (31, true) := by kernel_rfl
@[push_cast] theorem Tryz.zl31 : zeroL Tryz.prog 31 = some [.int .i64 0, .int .u8 0, .int .u8 0, .int .u8 0, .int .u8 0, .int .u8 0, .int .u8 0, .int .u8 0, .int .u8 0, .int .u8 0, .int .u8 0, .int .u8 0, .int .u8 0, .int .u8 0, .int .u8 0, .int .u8 0, .int .u8 0, .int .u8 0, .int .u8 0, .int .u8 0, .int .u8 0, .int .u64 0, .int .u64 0, .int .u64 0, .int .u64 0, .int .u64 0, .int .u64 0, .int .u64 0, .int .u64 0, .int .i64 0, .string ByteArray.empty] := by kernel_rfl
@[push_cast] theorem Tryz.el31 : elemI Tryz.prog 31 = none := by kernel_rfl
attribute [push_cast] Tryz.underlying31
@[push_cast] theorem Tryz.in31 : intI Tryz.prog 31 = none := by kernel_rfl
@[push_cast] theorem Tryz.st31 : isStr Tryz.prog 31 = false := by kernel_rfl
@[push_cast] theorem Tryz.by31 : isBytes Tryz.prog 31 = false := by kernel_rfl
@[push_cast] theorem Tryz.fi31_0 : fieldI Tryz.prog 31 0 = some (0, 1, false) := by kernel_rfl
@[push_cast] theorem Tryz.pl31_0 : placeOf Tryz.prog 31 0 = some (0, 1) := by kernel_rfl
@[push_cast] theorem Tryz.fi31_1 : fieldI Tryz.prog 31 1 = some (1, 20, true) := by kernel_rfl
@[push_cast] theorem Tryz.pl31_1 : placeOf Tryz.prog 31 1 = some (1, 20) := by kernel_rfl
@[push_cast] theorem Tryz.fi31_2 : fieldI Tryz.prog 31 2 = some (21, 4, true) := by kernel_rfl
@[push_cast] theorem Tryz.pl31_2 : placeOf Tryz.prog 31 2 = some (21, 4) := by kernel_rfl
@[push_cast] theorem Tryz.fi31_3 : fieldI Tryz.prog 31 3 = some (25, 4, true) := by kernel_rfl
@[push_cast] theorem Tryz.pl31_3 : placeOf Tryz.prog 31 3 = some (25, 4) := by kernel_rfl
@[push_cast] theorem Tryz.fi31_4 : fieldI Tryz.prog 31 4 = some (29, 1, false) := by kernel_rfl
@[push_cast] theorem Tryz.pl31_4 : placeOf Tryz.prog 31 4 = some (29, 1) := by kernel_rfl
@[push_cast] theorem Tryz.fi31_5 : fieldI Tryz.prog 31 5 = some (30, 1, false) := by kernel_rfl
@[push_cast] theorem Tryz.pl31_5 : placeOf Tryz.prog 31 5 = some (30, 1) := by kernel_rfl
@[push_cast] theorem Tryz.fo31 : fieldsOk Tryz.prog 31 = true := by kernel_rfl
@[push_cast] theorem Tryz.fk31 : flatK Tryz.prog 12 31 = some [.i, .i, .i, .i, .i, .i, .i, .i, .i, .i, .i, .i, .i, .i, .i, .i, .i, .i, .i, .i, .i, .i, .i, .i, .i, .i, .i, .i, .i, .i, .s] := by kernel_rfl
@[push_cast] theorem Tryz.eg31 : Program.eqGuardType Tryz.prog (Program.depth Tryz.prog) 31 = false := by kernel_rfl
@[push_cast] theorem Tryz.ty32 : tyI Tryz.prog 32 = some (1, false) := by kernel_rfl
@[push_cast] theorem Tryz.zl32 : zeroL Tryz.prog 32 = some [.nilFunc] := by kernel_rfl
@[push_cast] theorem Tryz.el32 : elemI Tryz.prog 32 = none := by kernel_rfl
attribute [push_cast] Tryz.underlying32
@[push_cast] theorem Tryz.in32 : intI Tryz.prog 32 = none := by kernel_rfl
@[push_cast] theorem Tryz.st32 : isStr Tryz.prog 32 = false := by kernel_rfl
@[push_cast] theorem Tryz.by32 : isBytes Tryz.prog 32 = false := by kernel_rfl
@[push_cast] theorem Tryz.ty33 : tyI Tryz.prog 33 = some (1, false) := by kernel_rfl
@[push_cast] theorem Tryz.zl33 : zeroL Tryz.prog 33 = some [.slice none 0 0] := by kernel_rfl
@[push_cast] theorem Tryz.el33 : elemI Tryz.prog 33 = some (none, 27, true) := by kernel_rfl
@[push_cast] theorem Tryz.sl33 : slI Tryz.prog 33 = some (44, 27, 104) := by kernel_rfl
attribute [push_cast] Tryz.underlying33
@[push_cast] theorem Tryz.in33 : intI Tryz.prog 33 = none := by kernel_rfl
@[push_cast] theorem Tryz.st33 : isStr Tryz.prog 33 = false := by kernel_rfl
@[push_cast] theorem Tryz.by33 : isBytes Tryz.prog 33 = false := by kernel_rfl
@[push_cast] theorem Tryz.ty34 : tyI Tryz.prog 34 = some (1, false) := by kernel_rfl
@[push_cast] theorem Tryz.zl34 : zeroL Tryz.prog 34 = some [.slice none 0 0] := by kernel_rfl
@[push_cast] theorem Tryz.el34 : elemI Tryz.prog 34 = some (none, 31, true) := by kernel_rfl
@[push_cast] theorem Tryz.sl34 : slI Tryz.prog 34 = some (31, 31, 120) := by kernel_rfl
attribute [push_cast] Tryz.underlying34
@[push_cast] theorem Tryz.in34 : intI Tryz.prog 34 = none := by kernel_rfl
@[push_cast] theorem Tryz.st34 : isStr Tryz.prog 34 = false := by kernel_rfl
@[push_cast] theorem Tryz.by34 : isBytes Tryz.prog 34 = false := by kernel_rfl
@[push_cast] theorem Tryz.ty35 : tyI Tryz.prog 35 = some (1, false) := by kernel_rfl
@[push_cast] theorem Tryz.zl35 : zeroL Tryz.prog 35 = some [.slice none 0 0] := by kernel_rfl
@[push_cast] theorem Tryz.el35 : elemI Tryz.prog 35 = some (none, 1, false) := by kernel_rfl
@[push_cast] theorem Tryz.sl35 : slI Tryz.prog 35 = some (3, 1, 8) := by kernel_rfl
attribute [push_cast] Tryz.underlying35
@[push_cast] theorem Tryz.in35 : intI Tryz.prog 35 = none := by kernel_rfl
@[push_cast] theorem Tryz.st35 : isStr Tryz.prog 35 = false := by kernel_rfl
@[push_cast] theorem Tryz.by35 : isBytes Tryz.prog 35 = false := by kernel_rfl
@[push_cast] theorem Tryz.ty36 : tyI Tryz.prog 36 = some (3, true) := by kernel_rfl
@[push_cast] theorem Tryz.zl36 : zeroL Tryz.prog 36 = some [.slice none 0 0, .slice none 0 0, .slice none 0 0] := by kernel_rfl
@[push_cast] theorem Tryz.el36 : elemI Tryz.prog 36 = none := by kernel_rfl
attribute [push_cast] Tryz.underlying36
@[push_cast] theorem Tryz.in36 : intI Tryz.prog 36 = none := by kernel_rfl
@[push_cast] theorem Tryz.st36 : isStr Tryz.prog 36 = false := by kernel_rfl
@[push_cast] theorem Tryz.by36 : isBytes Tryz.prog 36 = false := by kernel_rfl
@[push_cast] theorem Tryz.fi36_0 : fieldI Tryz.prog 36 0 = some (0, 1, false) := by kernel_rfl
@[push_cast] theorem Tryz.pl36_0 : placeOf Tryz.prog 36 0 = some (0, 1) := by kernel_rfl
@[push_cast] theorem Tryz.fi36_1 : fieldI Tryz.prog 36 1 = some (1, 1, false) := by kernel_rfl
@[push_cast] theorem Tryz.pl36_1 : placeOf Tryz.prog 36 1 = some (1, 1) := by kernel_rfl
@[push_cast] theorem Tryz.fi36_2 : fieldI Tryz.prog 36 2 = some (2, 1, false) := by kernel_rfl
@[push_cast] theorem Tryz.pl36_2 : placeOf Tryz.prog 36 2 = some (2, 1) := by kernel_rfl
@[push_cast] theorem Tryz.fo36 : fieldsOk Tryz.prog 36 = true := by kernel_rfl
@[push_cast] theorem Tryz.ty37 : tyI Tryz.prog 37 = some (3, true) := by kernel_rfl
@[push_cast] theorem Tryz.zl37 : zeroL Tryz.prog 37 = some [.slice none 0 0, .slice none 0 0, .slice none 0 0] := by kernel_rfl
@[push_cast] theorem Tryz.el37 : elemI Tryz.prog 37 = none := by kernel_rfl
attribute [push_cast] Tryz.underlying37
@[push_cast] theorem Tryz.in37 : intI Tryz.prog 37 = none := by kernel_rfl
@[push_cast] theorem Tryz.st37 : isStr Tryz.prog 37 = false := by kernel_rfl
@[push_cast] theorem Tryz.by37 : isBytes Tryz.prog 37 = false := by kernel_rfl
@[push_cast] theorem Tryz.fi37_0 : fieldI Tryz.prog 37 0 = some (0, 1, false) := by kernel_rfl
@[push_cast] theorem Tryz.pl37_0 : placeOf Tryz.prog 37 0 = some (0, 1) := by kernel_rfl
@[push_cast] theorem Tryz.fi37_1 : fieldI Tryz.prog 37 1 = some (1, 1, false) := by kernel_rfl
@[push_cast] theorem Tryz.pl37_1 : placeOf Tryz.prog 37 1 = some (1, 1) := by kernel_rfl
@[push_cast] theorem Tryz.fi37_2 : fieldI Tryz.prog 37 2 = some (2, 1, false) := by kernel_rfl
@[push_cast] theorem Tryz.pl37_2 : placeOf Tryz.prog 37 2 = some (2, 1) := by kernel_rfl
@[push_cast] theorem Tryz.fo37 : fieldsOk Tryz.prog 37 = true := by kernel_rfl
@[push_cast] theorem Tryz.ty38 : tyI Tryz.prog 38 = some (1, false) := by kernel_rfl
@[push_cast] theorem Tryz.zl38 : zeroL Tryz.prog 38 = some [.nilFunc] := by kernel_rfl
@[push_cast] theorem Tryz.el38 : elemI Tryz.prog 38 = none := by kernel_rfl
attribute [push_cast] Tryz.underlying38
@[push_cast] theorem Tryz.in38 : intI Tryz.prog 38 = none := by kernel_rfl
@[push_cast] theorem Tryz.st38 : isStr Tryz.prog 38 = false := by kernel_rfl
@[push_cast] theorem Tryz.by38 : isBytes Tryz.prog 38 = false := by kernel_rfl
@[push_cast] theorem Tryz.ty39 : tyI Tryz.prog 39 = some (1, false) := by kernel_rfl
@[push_cast] theorem Tryz.zl39 : zeroL Tryz.prog 39 = some [.nilFunc] := by kernel_rfl
@[push_cast] theorem Tryz.el39 : elemI Tryz.prog 39 = none := by kernel_rfl
attribute [push_cast] Tryz.underlying39
@[push_cast] theorem Tryz.in39 : intI Tryz.prog 39 = none := by kernel_rfl
@[push_cast] theorem Tryz.st39 : isStr Tryz.prog 39 = false := by kernel_rfl
@[push_cast] theorem Tryz.by39 : isBytes Tryz.prog 39 = false := by kernel_rfl
@[push_cast] theorem Tryz.ty40 : tyI Tryz.prog 40 = some (1, false) := by kernel_rfl
@[push_cast] theorem Tryz.zl40 : zeroL Tryz.prog 40 = some [.nilFunc] := by kernel_rfl
@[push_cast] theorem Tryz.el40 : elemI Tryz.prog 40 = none := by kernel_rfl
attribute [push_cast] Tryz.underlying40
@[push_cast] theorem Tryz.in40 : intI Tryz.prog 40 = none := by kernel_rfl
@[push_cast] theorem Tryz.st40 : isStr Tryz.prog 40 = false := by kernel_rfl
@[push_cast] theorem Tryz.by40 : isBytes Tryz.prog 40 = false := by kernel_rfl
@[push_cast] theorem Tryz.ty41 : tyI Tryz.prog 41 = some (1, false) := by kernel_rfl
@[push_cast] theorem Tryz.zl41 : zeroL Tryz.prog 41 = some [.nilFunc] := by kernel_rfl
@[push_cast] theorem Tryz.el41 : elemI Tryz.prog 41 = none := by kernel_rfl
attribute [push_cast] Tryz.underlying41
@[push_cast] theorem Tryz.in41 : intI Tryz.prog 41 = none := by kernel_rfl
@[push_cast] theorem Tryz.st41 : isStr Tryz.prog 41 = false := by kernel_rfl
@[push_cast] theorem Tryz.by41 : isBytes Tryz.prog 41 = false := by kernel_rfl
@[push_cast] theorem Tryz.ty42 : tyI Tryz.prog 42 = some (1, false) := by kernel_rfl
@[push_cast] theorem Tryz.zl42 : zeroL Tryz.prog 42 = some [.slice none 0 0] := by kernel_rfl
@[push_cast] theorem Tryz.el42 : elemI Tryz.prog 42 = some (none, 8, true) := by kernel_rfl
@[push_cast] theorem Tryz.sl42 : slI Tryz.prog 42 = some (84, 8, 64) := by kernel_rfl
attribute [push_cast] Tryz.underlying42
@[push_cast] theorem Tryz.in42 : intI Tryz.prog 42 = none := by kernel_rfl
@[push_cast] theorem Tryz.st42 : isStr Tryz.prog 42 = false := by kernel_rfl
@[push_cast] theorem Tryz.by42 : isBytes Tryz.prog 42 = false := by kernel_rfl
@[push_cast] theorem Tryz.ty43 : tyI Tryz.prog 43 = some (27, true) := by kernel_rfl
@[push_cast] theorem Tryz.zl43 : zeroL Tryz.prog 43 = some [.int .u8 0, .int .u8 0, .int .u8 0, .int .u8 0, .int .u8 0, .int .u8 0, .int .u8 0, .int .u8 0, .int .u8 0, .int .u8 0, .int .u8 0, .int .u8 0, .int .u8 0, .int .u8 0, .int .u8 0, .int .u8 0, .int .u8 0, .int .u8 0, .int .u8 0, .int .u8 0, .int .u64 0, .int .u64 0, .int .u64 0, .int .u64 0, .int .i64 0, .string ByteArray.empty, .slice none 0 0] := by kernel_rfl
@[push_cast] theorem Tryz.el43 : elemI Tryz.prog 43 = none := by kernel_rfl
attribute [push_cast] Tryz.underlying43
@[push_cast] theorem Tryz.in43 : intI Tryz.prog 43 = none := by kernel_rfl
@[push_cast] theorem Tryz.st43 : isStr Tryz.prog 43 = false := by kernel_rfl
@[push_cast] theorem Tryz.by43 : isBytes Tryz.prog 43 = false := by kernel_rfl
@[push_cast] theorem Tryz.fi43_0 : fieldI Tryz.prog 43 0 = some (0, 20, true) := by kernel_rfl
@[push_cast] theorem Tryz.pl43_0 : placeOf Tryz.prog 43 0 = some (0, 20) := by kernel_rfl
@[push_cast] theorem Tryz.fi43_1 : fieldI Tryz.prog 43 1 = some (20, 4, true) := by kernel_rfl
@[push_cast] theorem Tryz.pl43_1 : placeOf Tryz.prog 43 1 = some (20, 4) := by kernel_rfl
@[push_cast] theorem Tryz.fi43_2 : fieldI Tryz.prog 43 2 = some (24, 1, false) := by kernel_rfl
@[push_cast] theorem Tryz.pl43_2 : placeOf Tryz.prog 43 2 = some (24, 1) := by kernel_rfl
@[push_cast] theorem Tryz.fi43_3 : fieldI Tryz.prog 43 3 = some (25, 1, false) := by kernel_rfl
@[push_cast] theorem Tryz.pl43_3 : placeOf Tryz.prog 43 3 = some (25, 1) := by kernel_rfl
@[push_cast] theorem Tryz.fi43_4 : fieldI Tryz.prog 43 4 = some (26, 1, false) := by kernel_rfl
@[push_cast] theorem Tryz.pl43_4 : placeOf Tryz.prog 43 4 = some (26, 1) := by kernel_rfl
@[push_cast] theorem Tryz.fo43 : fieldsOk Tryz.prog 43 = true := by kernel_rfl
@[push_cast] theorem Tryz.ty44 : tyI Tryz.prog 44 = some (27, true) := by kernel_rfl
@[push_cast] theorem Tryz.zl44 : zeroL Tryz.prog 44 = some [.int .u8 0, .int .u8 0, .int .u8 0, .int .u8 0, .int .u8 0, .int .u8 0, .int .u8 0, .int .u8 0, .int .u8 0, .int .u8 0, .int .u8 0, .int .u8 0, .int .u8 0, .int .u8 0, .int .u8 0, .int .u8 0, .int .u8 0, .int .u8 0, .int .u8 0, .int .u8 0, .int .u64 0, .int .u64 0, .int .u64 0, .int .u64 0, .int .i64 0, .string ByteArray.empty, .slice none 0 0] := by kernel_rfl
@[push_cast] theorem Tryz.el44 : elemI Tryz.prog 44 = none := by kernel_rfl
attribute [push_cast] Tryz.underlying44
@[push_cast] theorem Tryz.in44 : intI Tryz.prog 44 = none := by kernel_rfl
@[push_cast] theorem Tryz.st44 : isStr Tryz.prog 44 = false := by kernel_rfl
@[push_cast] theorem Tryz.by44 : isBytes Tryz.prog 44 = false := by kernel_rfl
@[push_cast] theorem Tryz.fi44_0 : fieldI Tryz.prog 44 0 = some (0, 20, true) := by kernel_rfl
@[push_cast] theorem Tryz.pl44_0 : placeOf Tryz.prog 44 0 = some (0, 20) := by kernel_rfl
@[push_cast] theorem Tryz.fi44_1 : fieldI Tryz.prog 44 1 = some (20, 4, true) := by kernel_rfl
@[push_cast] theorem Tryz.pl44_1 : placeOf Tryz.prog 44 1 = some (20, 4) := by kernel_rfl
@[push_cast] theorem Tryz.fi44_2 : fieldI Tryz.prog 44 2 = some (24, 1, false) := by kernel_rfl
@[push_cast] theorem Tryz.pl44_2 : placeOf Tryz.prog 44 2 = some (24, 1) := by kernel_rfl
@[push_cast] theorem Tryz.fi44_3 : fieldI Tryz.prog 44 3 = some (25, 1, false) := by kernel_rfl
@[push_cast] theorem Tryz.pl44_3 : placeOf Tryz.prog 44 3 = some (25, 1) := by kernel_rfl
@[push_cast] theorem Tryz.fi44_4 : fieldI Tryz.prog 44 4 = some (26, 1, false) := by kernel_rfl
@[push_cast] theorem Tryz.pl44_4 : placeOf Tryz.prog 44 4 = some (26, 1) := by kernel_rfl
@[push_cast] theorem Tryz.fo44 : fieldsOk Tryz.prog 44 = true := by kernel_rfl
@[push_cast] theorem Tryz.ty45 : tyI Tryz.prog 45 = some (1, false) := by kernel_rfl
@[push_cast] theorem Tryz.zl45 : zeroL Tryz.prog 45 = some [.nilFunc] := by kernel_rfl
@[push_cast] theorem Tryz.el45 : elemI Tryz.prog 45 = none := by kernel_rfl
attribute [push_cast] Tryz.underlying45
@[push_cast] theorem Tryz.in45 : intI Tryz.prog 45 = none := by kernel_rfl
@[push_cast] theorem Tryz.st45 : isStr Tryz.prog 45 = false := by kernel_rfl
@[push_cast] theorem Tryz.by45 : isBytes Tryz.prog 45 = false := by kernel_rfl
@[push_cast] theorem Tryz.ty46 : tyI Tryz.prog 46 = some (4, true) := by kernel_rfl
@[push_cast] theorem Tryz.zl46 : zeroL Tryz.prog 46 = some [.int .i64 0, .int .i64 0, .int .i64 0, .int .i64 0] := by kernel_rfl
@[push_cast] theorem Tryz.el46 : elemI Tryz.prog 46 = some (some 4, 1, false) := by kernel_rfl
attribute [push_cast] Tryz.underlying46
@[push_cast] theorem Tryz.in46 : intI Tryz.prog 46 = none := by kernel_rfl
@[push_cast] theorem Tryz.st46 : isStr Tryz.prog 46 = false := by kernel_rfl
@[push_cast] theorem Tryz.by46 : isBytes Tryz.prog 46 = false := by kernel_rfl
@[push_cast] theorem Tryz.pl46_0 : placeOf Tryz.prog 46 0 = some (0, 1) := by kernel_rfl
@[push_cast] theorem Tryz.pl46_1 : placeOf Tryz.prog 46 1 = some (1, 1) := by kernel_rfl
@[push_cast] theorem Tryz.pl46_2 : placeOf Tryz.prog 46 2 = some (2, 1) := by kernel_rfl
@[push_cast] theorem Tryz.pl46_3 : placeOf Tryz.prog 46 3 = some (3, 1) := by kernel_rfl
@[push_cast] theorem Tryz.fo46 : fieldsOk Tryz.prog 46 = true := by kernel_rfl
@[push_cast] theorem Tryz.fk46 : flatK Tryz.prog 12 46 = some [.i, .i, .i, .i] := by kernel_rfl
@[push_cast] theorem Tryz.eg46 : Program.eqGuardType Tryz.prog (Program.depth Tryz.prog) 46 = false := by kernel_rfl
@[push_cast] theorem Tryz.ty47 : tyI Tryz.prog 47 = some (1, false) := by kernel_rfl
@[push_cast] theorem Tryz.zl47 : zeroL Tryz.prog 47 = some [.int .i64 0] := by kernel_rfl
@[push_cast] theorem Tryz.el47 : elemI Tryz.prog 47 = none := by kernel_rfl
attribute [push_cast] Tryz.underlying47
@[push_cast] theorem Tryz.in47 : intI Tryz.prog 47 = some .i64 := by kernel_rfl
@[push_cast] theorem Tryz.st47 : isStr Tryz.prog 47 = false := by kernel_rfl
@[push_cast] theorem Tryz.by47 : isBytes Tryz.prog 47 = false := by kernel_rfl
@[push_cast] theorem Tryz.ty48 : tyI Tryz.prog 48 = some (1, false) := by kernel_rfl
@[push_cast] theorem Tryz.el48 : elemI Tryz.prog 48 = none := by kernel_rfl
attribute [push_cast] Tryz.underlying48
@[push_cast] theorem Tryz.in48 : intI Tryz.prog 48 = none := by kernel_rfl
@[push_cast] theorem Tryz.st48 : isStr Tryz.prog 48 = false := by kernel_rfl
@[push_cast] theorem Tryz.by48 : isBytes Tryz.prog 48 = false := by kernel_rfl
@[push_cast] theorem Tryz.ty49 : tyI Tryz.prog 49 = some (1, false) := by kernel_rfl
@[push_cast] theorem Tryz.zl49 : zeroL Tryz.prog 49 = some [.nilFunc] := by kernel_rfl
@[push_cast] theorem Tryz.el49 : elemI Tryz.prog 49 = none := by kernel_rfl
attribute [push_cast] Tryz.underlying49
@[push_cast] theorem Tryz.in49 : intI Tryz.prog 49 = none := by kernel_rfl
@[push_cast] theorem Tryz.st49 : isStr Tryz.prog 49 = false := by kernel_rfl
@[push_cast] theorem Tryz.by49 : isBytes Tryz.prog 49 = false := by kernel_rfl
@[push_cast] theorem Tryz.ty50 : tyI Tryz.prog 50 = some (1, false) := by kernel_rfl
@[push_cast] theorem Tryz.zl50 : zeroL Tryz.prog 50 = some [.nilFunc] := by kernel_rfl
@[push_cast] theorem Tryz.el50 : elemI Tryz.prog 50 = none := by kernel_rfl
attribute [push_cast] Tryz.underlying50
@[push_cast] theorem Tryz.in50 : intI Tryz.prog 50 = none := by kernel_rfl
@[push_cast] theorem Tryz.st50 : isStr Tryz.prog 50 = false := by kernel_rfl
@[push_cast] theorem Tryz.by50 : isBytes Tryz.prog 50 = false := by kernel_rfl
@[push_cast] theorem Tryz.ty51 : tyI Tryz.prog 51 = some (1, false) := by kernel_rfl
@[push_cast] theorem Tryz.zl51 : zeroL Tryz.prog 51 = some [.slice none 0 0] := by kernel_rfl
@[push_cast] theorem Tryz.el51 : elemI Tryz.prog 51 = some (none, 3, true) := by kernel_rfl
@[push_cast] theorem Tryz.sl51 : slI Tryz.prog 51 = some (37, 3, 72) := by kernel_rfl
attribute [push_cast] Tryz.underlying51
@[push_cast] theorem Tryz.in51 : intI Tryz.prog 51 = none := by kernel_rfl
@[push_cast] theorem Tryz.st51 : isStr Tryz.prog 51 = false := by kernel_rfl
@[push_cast] theorem Tryz.by51 : isBytes Tryz.prog 51 = false := by kernel_rfl
@[push_cast] theorem Tryz.ty52 : tyI Tryz.prog 52 = some (1, false) := by kernel_rfl
@[push_cast] theorem Tryz.zl52 : zeroL Tryz.prog 52 = some [.nilFunc] := by kernel_rfl
@[push_cast] theorem Tryz.el52 : elemI Tryz.prog 52 = none := by kernel_rfl
attribute [push_cast] Tryz.underlying52
@[push_cast] theorem Tryz.in52 : intI Tryz.prog 52 = none := by kernel_rfl
@[push_cast] theorem Tryz.st52 : isStr Tryz.prog 52 = false := by kernel_rfl
@[push_cast] theorem Tryz.by52 : isBytes Tryz.prog 52 = false := by kernel_rfl
@[push_cast] theorem Tryz.ty53 : tyI Tryz.prog 53 = some (1, false) := by kernel_rfl
@[push_cast] theorem Tryz.zl53 : zeroL Tryz.prog 53 = some [.slice none 0 0] := by kernel_rfl
@[push_cast] theorem Tryz.el53 : elemI Tryz.prog 53 = some (none, 1, false) := by kernel_rfl
@[push_cast] theorem Tryz.sl53 : slI Tryz.prog 53 = some (34, 1, 24) := by kernel_rfl
attribute [push_cast] Tryz.underlying53
@[push_cast] theorem Tryz.in53 : intI Tryz.prog 53 = none := by kernel_rfl
@[push_cast] theorem Tryz.st53 : isStr Tryz.prog 53 = false := by kernel_rfl
@[push_cast] theorem Tryz.by53 : isBytes Tryz.prog 53 = false := by kernel_rfl
@[push_cast] theorem Tryz.ty54 : tyI Tryz.prog 54 = some (1, false) := by kernel_rfl
@[push_cast] theorem Tryz.zl54 : zeroL Tryz.prog 54 = some [.nilFunc] := by kernel_rfl
@[push_cast] theorem Tryz.el54 : elemI Tryz.prog 54 = none := by kernel_rfl
attribute [push_cast] Tryz.underlying54
@[push_cast] theorem Tryz.in54 : intI Tryz.prog 54 = none := by kernel_rfl
@[push_cast] theorem Tryz.st54 : isStr Tryz.prog 54 = false := by kernel_rfl
@[push_cast] theorem Tryz.by54 : isBytes Tryz.prog 54 = false := by kernel_rfl
@[push_cast] theorem Tryz.ty55 : tyI Tryz.prog 55 = some (1, false) := by kernel_rfl
@[push_cast] theorem Tryz.zl55 : zeroL Tryz.prog 55 = some [.nilFunc] := by kernel_rfl
@[push_cast] theorem Tryz.el55 : elemI Tryz.prog 55 = none := by kernel_rfl
attribute [push_cast] Tryz.underlying55
@[push_cast] theorem Tryz.in55 : intI Tryz.prog 55 = none := by kernel_rfl
@[push_cast] theorem Tryz.st55 : isStr Tryz.prog 55 = false := by kernel_rfl
@[push_cast] theorem Tryz.by55 : isBytes Tryz.prog 55 = false := by kernel_rfl
@[push_cast] theorem Tryz.ty56 : tyI Tryz.prog 56 = some (1, false) := by kernel_rfl
@[push_cast] theorem Tryz.el56 : elemI Tryz.prog 56 = none := by kernel_rfl
attribute [push_cast] Tryz.underlying56
@[push_cast] theorem Tryz.in56 : intI Tryz.prog 56 = none := by kernel_rfl
@[push_cast] theorem Tryz.st56 : isStr Tryz.prog 56 = false := by kernel_rfl
@[push_cast] theorem Tryz.by56 : isBytes Tryz.prog 56 = false := by kernel_rfl
@[push_cast] theorem Tryz.ty57 : tyI Tryz.prog 57 = some (1, false) := by kernel_rfl
@[push_cast] theorem Tryz.zl57 : zeroL Tryz.prog 57 = some [.nilFunc] := by kernel_rfl
@[push_cast] theorem Tryz.el57 : elemI Tryz.prog 57 = none := by kernel_rfl
attribute [push_cast] Tryz.underlying57
@[push_cast] theorem Tryz.in57 : intI Tryz.prog 57 = none := by kernel_rfl
@[push_cast] theorem Tryz.st57 : isStr Tryz.prog 57 = false := by kernel_rfl
@[push_cast] theorem Tryz.by57 : isBytes Tryz.prog 57 = false := by kernel_rfl
@[push_cast] theorem Tryz.ty58 : tyI Tryz.prog 58 = some (1, false) := by kernel_rfl
@[push_cast] theorem Tryz.zl58 : zeroL Tryz.prog 58 = some [.nilFunc] := by kernel_rfl
@[push_cast] theorem Tryz.el58 : elemI Tryz.prog 58 = none := by kernel_rfl
attribute [push_cast] Tryz.underlying58
@[push_cast] theorem Tryz.in58 : intI Tryz.prog 58 = none := by kernel_rfl
@[push_cast] theorem Tryz.st58 : isStr Tryz.prog 58 = false := by kernel_rfl
@[push_cast] theorem Tryz.by58 : isBytes Tryz.prog 58 = false := by kernel_rfl
@[push_cast] theorem Tryz.ty59 : tyI Tryz.prog 59 = some (1, false) := by kernel_rfl
@[push_cast] theorem Tryz.zl59 : zeroL Tryz.prog 59 = some [.nilFunc] := by kernel_rfl
@[push_cast] theorem Tryz.el59 : elemI Tryz.prog 59 = none := by kernel_rfl
attribute [push_cast] Tryz.underlying59
@[push_cast] theorem Tryz.in59 : intI Tryz.prog 59 = none := by kernel_rfl
@[push_cast] theorem Tryz.st59 : isStr Tryz.prog 59 = false := by kernel_rfl
@[push_cast] theorem Tryz.by59 : isBytes Tryz.prog 59 = false := by kernel_rfl
@[push_cast] theorem Tryz.ty60 : tyI Tryz.prog 60 = some (5, true) := by kernel_rfl
@[push_cast] theorem Tryz.zl60 : zeroL Tryz.prog 60 = some [.int .i64 0, .int .i64 0, .int .i64 0, .int .i64 0, .int .i64 0] := by kernel_rfl
@[push_cast] theorem Tryz.el60 : elemI Tryz.prog 60 = some (some 5, 1, false) := by kernel_rfl
attribute [push_cast] Tryz.underlying60
@[push_cast] theorem Tryz.in60 : intI Tryz.prog 60 = none := by kernel_rfl
@[push_cast] theorem Tryz.st60 : isStr Tryz.prog 60 = false := by kernel_rfl
@[push_cast] theorem Tryz.by60 : isBytes Tryz.prog 60 = false := by kernel_rfl
@[push_cast] theorem Tryz.pl60_0 : placeOf Tryz.prog 60 0 = some (0, 1) := by kernel_rfl
@[push_cast] theorem Tryz.pl60_1 : placeOf Tryz.prog 60 1 = some (1, 1) := by kernel_rfl
@[push_cast] theorem Tryz.pl60_2 : placeOf Tryz.prog 60 2 = some (2, 1) := by kernel_rfl
@[push_cast] theorem Tryz.pl60_3 : placeOf Tryz.prog 60 3 = some (3, 1) := by kernel_rfl
@[push_cast] theorem Tryz.pl60_4 : placeOf Tryz.prog 60 4 = some (4, 1) := by kernel_rfl
@[push_cast] theorem Tryz.fo60 : fieldsOk Tryz.prog 60 = true := by kernel_rfl
@[push_cast] theorem Tryz.fk60 : flatK Tryz.prog 12 60 = some [.i, .i, .i, .i, .i] := by kernel_rfl
@[push_cast] theorem Tryz.eg60 : Program.eqGuardType Tryz.prog (Program.depth Tryz.prog) 60 = false := by kernel_rfl
@[push_cast] theorem Tryz.ty61 : tyI Tryz.prog 61 = some (1, false) := by kernel_rfl
@[push_cast] theorem Tryz.zl61 : zeroL Tryz.prog 61 = some [.nilFunc] := by kernel_rfl
@[push_cast] theorem Tryz.el61 : elemI Tryz.prog 61 = none := by kernel_rfl
attribute [push_cast] Tryz.underlying61
@[push_cast] theorem Tryz.in61 : intI Tryz.prog 61 = none := by kernel_rfl
@[push_cast] theorem Tryz.st61 : isStr Tryz.prog 61 = false := by kernel_rfl
@[push_cast] theorem Tryz.by61 : isBytes Tryz.prog 61 = false := by kernel_rfl
@[push_cast] theorem Tryz.ty62 : tyI Tryz.prog 62 = some (1, false) := by kernel_rfl
@[push_cast] theorem Tryz.zl62 : zeroL Tryz.prog 62 = some [.nilFunc] := by kernel_rfl
@[push_cast] theorem Tryz.el62 : elemI Tryz.prog 62 = none := by kernel_rfl
attribute [push_cast] Tryz.underlying62
@[push_cast] theorem Tryz.in62 : intI Tryz.prog 62 = none := by kernel_rfl
@[push_cast] theorem Tryz.st62 : isStr Tryz.prog 62 = false := by kernel_rfl
@[push_cast] theorem Tryz.by62 : isBytes Tryz.prog 62 = false := by kernel_rfl
@[push_cast] theorem Tryz.ty63 : tyI Tryz.prog 63 = some (1, false) := by kernel_rfl
@[push_cast] theorem Tryz.zl63 : zeroL Tryz.prog 63 = some [.nilFunc] := by kernel_rfl
@[push_cast] theorem Tryz.el63 : elemI Tryz.prog 63 = none := by kernel_rfl
attribute [push_cast] Tryz.underlying63
@[push_cast] theorem Tryz.in63 : intI Tryz.prog 63 = none := by kernel_rfl
@[push_cast] theorem Tryz.st63 : isStr Tryz.prog 63 = false := by kernel_rfl
@[push_cast] theorem Tryz.by63 : isBytes Tryz.prog 63 = false := by kernel_rfl
@[push_cast] theorem Tryz.ty64 : tyI Tryz.prog 64 = some (1, false) := by kernel_rfl
@[push_cast] theorem Tryz.zl64 : zeroL Tryz.prog 64 = some [.nilFunc] := by kernel_rfl
@[push_cast] theorem Tryz.el64 : elemI Tryz.prog 64 = none := by kernel_rfl
attribute [push_cast] Tryz.underlying64
@[push_cast] theorem Tryz.in64 : intI Tryz.prog 64 = none := by kernel_rfl
@[push_cast] theorem Tryz.st64 : isStr Tryz.prog 64 = false := by kernel_rfl
@[push_cast] theorem Tryz.by64 : isBytes Tryz.prog 64 = false := by kernel_rfl
@[push_cast] theorem Tryz.ty65 : tyI Tryz.prog 65 = some (1, false) := by kernel_rfl
@[push_cast] theorem Tryz.zl65 : zeroL Tryz.prog 65 = some [.nilFunc] := by kernel_rfl
@[push_cast] theorem Tryz.el65 : elemI Tryz.prog 65 = none := by kernel_rfl
attribute [push_cast] Tryz.underlying65
@[push_cast] theorem Tryz.in65 : intI Tryz.prog 65 = none := by kernel_rfl
@[push_cast] theorem Tryz.st65 : isStr Tryz.prog 65 = false := by kernel_rfl
@[push_cast] theorem Tryz.by65 : isBytes Tryz.prog 65 = false := by kernel_rfl
@[push_cast] theorem Tryz.ty66 : tyI Tryz.prog 66 = some (1, false) := by kernel_rfl
@[push_cast] theorem Tryz.zl66 : zeroL Tryz.prog 66 = some [.nilFunc] := by kernel_rfl
@[push_cast] theorem Tryz.el66 : elemI Tryz.prog 66 = none := by kernel_rfl
attribute [push_cast] Tryz.underlying66
@[push_cast] theorem Tryz.in66 : intI Tryz.prog 66 = none := by kernel_rfl
@[push_cast] theorem Tryz.st66 : isStr Tryz.prog 66 = false := by kernel_rfl
@[push_cast] theorem Tryz.by66 : isBytes Tryz.prog 66 = false := by kernel_rfl
@[push_cast] theorem Tryz.ty67 : tyI Tryz.prog 67 = some (1, false) := by kernel_rfl
@[push_cast] theorem Tryz.zl67 : zeroL Tryz.prog 67 = some [.nilFunc] := by kernel_rfl
@[push_cast] theorem Tryz.el67 : elemI Tryz.prog 67 = none := by kernel_rfl
attribute [push_cast] Tryz.underlying67
@[push_cast] theorem Tryz.in67 : intI Tryz.prog 67 = none := by kernel_rfl
@[push_cast] theorem Tryz.st67 : isStr Tryz.prog 67 = false := by kernel_rfl
@[push_cast] theorem Tryz.by67 : isBytes Tryz.prog 67 = false := by kernel_rfl
@[push_cast] theorem Tryz.ty68 : tyI Tryz.prog 68 = some (1, false) := by kernel_rfl
@[push_cast] theorem Tryz.zl68 : zeroL Tryz.prog 68 = some [.nilFunc] := by kernel_rfl
@[push_cast] theorem Tryz.el68 : elemI Tryz.prog 68 = none := by kernel_rfl
attribute [push_cast] Tryz.underlying68
@[push_cast] theorem Tryz.in68 : intI Tryz.prog 68 = none := by kernel_rfl
@[push_cast] theorem Tryz.st68 : isStr Tryz.prog 68 = false := by kernel_rfl
@[push_cast] theorem Tryz.by68 : isBytes Tryz.prog 68 = false := by kernel_rfl
@[push_cast] theorem Tryz.ty69 : tyI Tryz.prog 69 = some (1, false) := by kernel_rfl
@[push_cast] theorem Tryz.zl69 : zeroL Tryz.prog 69 = some [.slice none 0 0] := by kernel_rfl
@[push_cast] theorem Tryz.el69 : elemI Tryz.prog 69 = some (none, 1, false) := by kernel_rfl
@[push_cast] theorem Tryz.sl69 : slI Tryz.prog 69 = some (9, 1, 16) := by kernel_rfl
attribute [push_cast] Tryz.underlying69
@[push_cast] theorem Tryz.in69 : intI Tryz.prog 69 = none := by kernel_rfl
@[push_cast] theorem Tryz.st69 : isStr Tryz.prog 69 = false := by kernel_rfl
@[push_cast] theorem Tryz.by69 : isBytes Tryz.prog 69 = false := by kernel_rfl
@[push_cast] theorem Tryz.ty70 : tyI Tryz.prog 70 = some (1, false) := by kernel_rfl
@[push_cast] theorem Tryz.zl70 : zeroL Tryz.prog 70 = some [.nilFunc] := by kernel_rfl
@[push_cast] theorem Tryz.el70 : elemI Tryz.prog 70 = none := by kernel_rfl
attribute [push_cast] Tryz.underlying70
@[push_cast] theorem Tryz.in70 : intI Tryz.prog 70 = none := by kernel_rfl
@[push_cast] theorem Tryz.st70 : isStr Tryz.prog 70 = false := by kernel_rfl
@[push_cast] theorem Tryz.by70 : isBytes Tryz.prog 70 = false := by kernel_rfl
@[push_cast] theorem Tryz.ty71 : tyI Tryz.prog 71 = some (1, false) := by kernel_rfl
@[push_cast] theorem Tryz.zl71 : zeroL Tryz.prog 71 = some [.nilFunc] := by kernel_rfl
@[push_cast] theorem Tryz.el71 : elemI Tryz.prog 71 = none := by kernel_rfl
attribute [push_cast] Tryz.underlying71
@[push_cast] theorem Tryz.in71 : intI Tryz.prog 71 = none := by kernel_rfl
@[push_cast] theorem Tryz.st71 : isStr Tryz.prog 71 = false := by kernel_rfl
@[push_cast] theorem Tryz.by71 : isBytes Tryz.prog 71 = false := by kernel_rfl
@[push_cast] theorem Tryz.ty72 : tyI Tryz.prog 72 = some (1, false) := by kernel_rfl
@[push_cast] theorem Tryz.zl72 : zeroL Tryz.prog 72 = some [.nilFunc] := by kernel_rfl
@[push_cast] theorem Tryz.el72 : elemI Tryz.prog 72 = none := by kernel_rfl
attribute [push_cast] Tryz.underlying72
@[push_cast] theorem Tryz.in72 : intI Tryz.prog 72 = none := by kernel_rfl
@[push_cast] theorem Tryz.st72 : isStr Tryz.prog 72 = false := by kernel_rfl
@[push_cast] theorem Tryz.by72 : isBytes Tryz.prog 72 = false := by kernel_rfl
@[push_cast] theorem Tryz.ty73 : tyI Tryz.prog 73 = some (1, false) := by kernel_rfl
@[push_cast] theorem Tryz.zl73 : zeroL Tryz.prog 73 = some [.nilFunc] := by kernel_rfl
@[push_cast] theorem Tryz.el73 : elemI Tryz.prog 73 = none := by kernel_rfl
attribute [push_cast] Tryz.underlying73
@[push_cast] theorem Tryz.in73 : intI Tryz.prog 73 = none := by kernel_rfl
@[push_cast] theorem Tryz.st73 : isStr Tryz.prog 73 = false := by kernel_rfl
@[push_cast] theorem Tryz.by73 : isBytes Tryz.prog 73 = false := by kernel_rfl
@[push_cast] theorem Tryz.ty74 : tyI Tryz.prog 74 = some (1, false) := by kernel_rfl
@[push_cast] theorem Tryz.el74 : elemI Tryz.prog 74 = none := by kernel_rfl
attribute [push_cast] Tryz.underlying74
@[push_cast] theorem Tryz.in74 : intI Tryz.prog 74 = none := by kernel_rfl
@[push_cast] theorem Tryz.st74 : isStr Tryz.prog 74 = false := by kernel_rfl
@[push_cast] theorem Tryz.by74 : isBytes Tryz.prog 74 = false := by kernel_rfl
@[push_cast] theorem Tryz.ty75 : tyI Tryz.prog 75 = some (1, false) := by kernel_rfl
@[push_cast] theorem Tryz.zl75 : zeroL Tryz.prog 75 = some [.nilFunc] := by kernel_rfl
@[push_cast] theorem Tryz.el75 : elemI Tryz.prog 75 = none := by kernel_rfl
attribute [push_cast] Tryz.underlying75
@[push_cast] theorem Tryz.in75 : intI Tryz.prog 75 = none := by kernel_rfl
@[push_cast] theorem Tryz.st75 : isStr Tryz.prog 75 = false := by kernel_rfl
@[push_cast] theorem Tryz.by75 : isBytes Tryz.prog 75 = false := by kernel_rfl
@[push_cast] theorem Tryz.ty76 : tyI Tryz.prog 76 = some (1, false) := by kernel_rfl
@[push_cast] theorem Tryz.zl76 : zeroL Tryz.prog 76 = some [.nilFunc] := by kernel_rfl
@[push_cast] theorem Tryz.el76 : elemI Tryz.prog 76 = none := by kernel_rfl
attribute [push_cast] Tryz.underlying76
@[push_cast] theorem Tryz.in76 : intI Tryz.prog 76 = none := by kernel_rfl
@[push_cast] theorem Tryz.st76 : isStr Tryz.prog 76 = false := by kernel_rfl
@[push_cast] theorem Tryz.by76 : isBytes Tryz.prog 76 = false := by kernel_rfl
@[push_cast] theorem Tryz.ty77 : tyI Tryz.prog 77 = some (1, false) := by kernel_rfl
@[push_cast] theorem Tryz.el77 : elemI Tryz.prog 77 = none := by kernel_rfl
attribute [push_cast] Tryz.underlying77
@[push_cast] theorem Tryz.in77 : intI Tryz.prog 77 = none := by kernel_rfl
@[push_cast] theorem Tryz.st77 : isStr Tryz.prog 77 = false := by kernel_rfl
@[push_cast] theorem Tryz.by77 : isBytes Tryz.prog 77 = false := by kernel_rfl
@[push_cast] theorem Tryz.ty78 : tyI Tryz.prog 78 = some (1, false) := by kernel_rfl
@[push_cast] theorem Tryz.zl78 : zeroL Tryz.prog 78 = some [.nilFunc] := by kernel_rfl
@[push_cast] theorem Tryz.el78 : elemI Tryz.prog 78 = none := by kernel_rfl
attribute [push_cast] Tryz.underlying78
@[push_cast] theorem Tryz.in78 : intI Tryz.prog 78 = none := by kernel_rfl
@[push_cast] theorem Tryz.st78 : isStr Tryz.prog 78 = false := by kernel_rfl
@[push_cast] theorem Tryz.by78 : isBytes Tryz.prog 78 = false := by kernel_rfl
@[push_cast] theorem Tryz.ty79 : tyI Tryz.prog 79 = some (1, false) := by kernel_rfl
@[push_cast] theorem Tryz.zl79 : zeroL Tryz.prog 79 = some [.nilFunc] := by kernel_rfl
@[push_cast] theorem Tryz.el79 : elemI Tryz.prog 79 = none := by kernel_rfl
attribute [push_cast] Tryz.underlying79
@[push_cast] theorem Tryz.in79 : intI Tryz.prog 79 = none := by kernel_rfl
@[push_cast] theorem Tryz.st79 : isStr Tryz.prog 79 = false := by kernel_rfl
@[push_cast] theorem Tryz.by79 : isBytes Tryz.prog 79 = false := by kernel_rfl
@[push_cast] theorem Tryz.ty80 : tyI Tryz.prog 80 = some (1, false) := by kernel_rfl
@[push_cast] theorem Tryz.zl80 : zeroL Tryz.prog 80 = some [.nilFunc] := by kernel_rfl
@[push_cast] theorem Tryz.el80 : elemI Tryz.prog 80 = none := by kernel_rfl
attribute [push_cast] Tryz.underlying80
@[push_cast] theorem Tryz.in80 : intI Tryz.prog 80 = none := by kernel_rfl
@[push_cast] theorem Tryz.st80 : isStr Tryz.prog 80 = false := by kernel_rfl
@[push_cast] theorem Tryz.by80 : isBytes Tryz.prog 80 = false := by kernel_rfl
@[push_cast] theorem Tryz.ty81 : tyI Tryz.prog 81 = some (1, false) := by kernel_rfl
@[push_cast] theorem Tryz.zl81 : zeroL Tryz.prog 81 = some [.nilFunc] := by kernel_rfl
@[push_cast] theorem Tryz.el81 : elemI Tryz.prog 81 = none := by kernel_rfl
attribute [push_cast] Tryz.underlying81
@[push_cast] theorem Tryz.in81 : intI Tryz.prog 81 = none := by kernel_rfl
@[push_cast] theorem Tryz.st81 : isStr Tryz.prog 81 = false := by kernel_rfl
@[push_cast] theorem Tryz.by81 : isBytes Tryz.prog 81 = false := by kernel_rfl
@[push_cast] theorem Tryz.ty82 : tyI Tryz.prog 82 = some (1, false) := by kernel_rfl
@[push_cast] theorem Tryz.zl82 : zeroL Tryz.prog 82 = some [.nilFunc] := by kernel_rfl
@[push_cast] theorem Tryz.el82 : elemI Tryz.prog 82 = none := by kernel_rfl
attribute [push_cast] Tryz.underlying82
@[push_cast] theorem Tryz.in82 : intI Tryz.prog 82 = none := by kernel_rfl
@[push_cast] theorem Tryz.st82 : isStr Tryz.prog 82 = false := by kernel_rfl
@[push_cast] theorem Tryz.by82 : isBytes Tryz.prog 82 = false := by kernel_rfl
@[push_cast] theorem Tryz.ty83 : tyI Tryz.prog 83 = some (8, true) := by kernel_rfl
@[push_cast] theorem Tryz.zl83 : zeroL Tryz.prog 83 = some [.int .u64 0, .int .u64 0, .int .u64 0, .int .u64 0, .int .u64 0, .int .u64 0, .int .u64 0, .int .u64 0] := by kernel_rfl
@[push_cast] theorem Tryz.el83 : elemI Tryz.prog 83 = none := by kernel_rfl
attribute [push_cast] Tryz.underlying83
@[push_cast] theorem Tryz.in83 : intI Tryz.prog 83 = none := by kernel_rfl
@[push_cast] theorem Tryz.st83 : isStr Tryz.prog 83 = false := by kernel_rfl
@[push_cast] theorem Tryz.by83 : isBytes Tryz.prog 83 = false := by kernel_rfl
@[push_cast] theorem Tryz.fi83_0 : fieldI Tryz.prog 83 0 = some (0, 4, true) := by kernel_rfl
@[push_cast] theorem Tryz.pl83_0 : placeOf Tryz.prog 83 0 = some (0, 4) := by kernel_rfl
@[push_cast] theorem Tryz.fi83_1 : fieldI Tryz.prog 83 1 = some (4, 4, true) := by kernel_rfl
@[push_cast] theorem Tryz.pl83_1 : placeOf Tryz.prog 83 1 = some (4, 4) := by kernel_rfl
@[push_cast] theorem Tryz.fo83 : fieldsOk Tryz.prog 83 = true := by kernel_rfl
@[push_cast] theorem Tryz.fk83 : flatK Tryz.prog 12 83 = some [.i, .i, .i, .i, .i, .i, .i, .i] := by kernel_rfl
@[push_cast] theorem Tryz.eg83 : Program.eqGuardType Tryz.prog (Program.depth Tryz.prog) 83 = false := by kernel_rfl
@[push_cast] theorem Tryz.ty84 : tyI Tryz.prog 84 = some (8, true) := by kernel_rfl
@[push_cast] theorem Tryz.zl84 : zeroL Tryz.prog 84 = some [.int .u64 0, .int .u64 0, .int .u64 0, .int .u64 0, .int .u64 0, .int .u64 0, .int .u64 0, .int .u64 0] := by kernel_rfl
@[push_cast] theorem Tryz.el84 : elemI Tryz.prog 84 = none := by kernel_rfl
attribute [push_cast] Tryz.underlying84
@[push_cast] theorem Tryz.in84 : intI Tryz.prog 84 = none := by kernel_rfl
@[push_cast] theorem Tryz.st84 : isStr Tryz.prog 84 = false := by kernel_rfl
@[push_cast] theorem Tryz.by84 : isBytes Tryz.prog 84 = false := by kernel_rfl
@[push_cast] theorem Tryz.fi84_0 : fieldI Tryz.prog 84 0 = some (0, 4, true) := by kernel_rfl
@[push_cast] theorem Tryz.pl84_0 : placeOf Tryz.prog 84 0 = some (0, 4) := by kernel_rfl
@[push_cast] theorem Tryz.fi84_1 : fieldI Tryz.prog 84 1 = some (4, 4, true) := by kernel_rfl
@[push_cast] theorem Tryz.pl84_1 : placeOf Tryz.prog 84 1 = some (4, 4) := by kernel_rfl
@[push_cast] theorem Tryz.fo84 : fieldsOk Tryz.prog 84 = true := by kernel_rfl
@[push_cast] theorem Tryz.fk84 : flatK Tryz.prog 12 84 = some [.i, .i, .i, .i, .i, .i, .i, .i] := by kernel_rfl
@[push_cast] theorem Tryz.eg84 : Program.eqGuardType Tryz.prog (Program.depth Tryz.prog) 84 = false := by kernel_rfl
@[push_cast] theorem Tryz.ty85 : tyI Tryz.prog 85 = some (1, false) := by kernel_rfl
@[push_cast] theorem Tryz.zl85 : zeroL Tryz.prog 85 = some [.nilFunc] := by kernel_rfl
@[push_cast] theorem Tryz.el85 : elemI Tryz.prog 85 = none := by kernel_rfl
attribute [push_cast] Tryz.underlying85
@[push_cast] theorem Tryz.in85 : intI Tryz.prog 85 = none := by kernel_rfl
@[push_cast] theorem Tryz.st85 : isStr Tryz.prog 85 = false := by kernel_rfl
@[push_cast] theorem Tryz.by85 : isBytes Tryz.prog 85 = false := by kernel_rfl
@[push_cast] theorem Tryz.ty86 : tyI Tryz.prog 86 = some (1, false) := by kernel_rfl
@[push_cast] theorem Tryz.zl86 : zeroL Tryz.prog 86 = some [.nilFunc] := by kernel_rfl
@[push_cast] theorem Tryz.el86 : elemI Tryz.prog 86 = none := by kernel_rfl
attribute [push_cast] Tryz.underlying86
@[push_cast] theorem Tryz.in86 : intI Tryz.prog 86 = none := by kernel_rfl
@[push_cast] theorem Tryz.st86 : isStr Tryz.prog 86 = false := by kernel_rfl
@[push_cast] theorem Tryz.by86 : isBytes Tryz.prog 86 = false := by kernel_rfl
@[push_cast] theorem Tryz.ty87 : tyI Tryz.prog 87 = some (1, false) := by kernel_rfl
@[push_cast] theorem Tryz.zl87 : zeroL Tryz.prog 87 = some [.nilFunc] := by kernel_rfl
@[push_cast] theorem Tryz.el87 : elemI Tryz.prog 87 = none := by kernel_rfl
attribute [push_cast] Tryz.underlying87
@[push_cast] theorem Tryz.in87 : intI Tryz.prog 87 = none := by kernel_rfl
@[push_cast] theorem Tryz.st87 : isStr Tryz.prog 87 = false := by kernel_rfl
@[push_cast] theorem Tryz.by87 : isBytes Tryz.prog 87 = false := by kernel_rfl
@[push_cast] theorem Tryz.ty88 : tyI Tryz.prog 88 = some (1, false) := by kernel_rfl
@[push_cast] theorem Tryz.zl88 : zeroL Tryz.prog 88 = some [.nilFunc] := by kernel_rfl
@[push_cast] theorem Tryz.el88 : elemI Tryz.prog 88 = none := by kernel_rfl
attribute [push_cast] Tryz.underlying88
@[push_cast] theorem Tryz.in88 : intI Tryz.prog 88 = none := by kernel_rfl
@[push_cast] theorem Tryz.st88 : isStr Tryz.prog 88 = false := by kernel_rfl
@[push_cast] theorem Tryz.by88 : isBytes Tryz.prog 88 = false := by kernel_rfl
@[push_cast] theorem Tryz.ty89 : tyI Tryz.prog 89 = some (1, false) := by kernel_rfl
@[push_cast] theorem Tryz.zl89 : zeroL Tryz.prog 89 = some [.nilFunc] := by kernel_rfl
@[push_cast] theorem Tryz.el89 : elemI Tryz.prog 89 = none := by kernel_rfl
attribute [push_cast] Tryz.underlying89
@[push_cast] theorem Tryz.in89 : intI Tryz.prog 89 = none := by kernel_rfl
@[push_cast] theorem Tryz.st89 : isStr Tryz.prog 89 = false := by kernel_rfl
@[push_cast] theorem Tryz.by89 : isBytes Tryz.prog 89 = false := by kernel_rfl
@[push_cast] theorem Tryz.ty90 : tyI Tryz.prog 90 = some (1, false) := by kernel_rfl
@[push_cast] theorem Tryz.zl90 : zeroL Tryz.prog 90 = some [.slice none 0 0] := by kernel_rfl
@[push_cast] theorem Tryz.el90 : elemI Tryz.prog 90 = some (none, 31, true) := by kernel_rfl
@[push_cast] theorem Tryz.sl90 : slI Tryz.prog 90 = some (31, 31, 120) := by kernel_rfl
attribute [push_cast] Tryz.underlying90
@[push_cast] theorem Tryz.in90 : intI Tryz.prog 90 = none := by kernel_rfl
@[push_cast] theorem Tryz.st90 : isStr Tryz.prog 90 = false := by kernel_rfl
@[push_cast] theorem Tryz.by90 : isBytes Tryz.prog 90 = false := by kernel_rfl
@[push_cast] theorem Tryz.ty91 : tyI Tryz.prog 91 = some (1, false) := by kernel_rfl
@[push_cast] theorem Tryz.zl91 : zeroL Tryz.prog 91 = some [.nilFunc] := by kernel_rfl
@[push_cast] theorem Tryz.el91 : elemI Tryz.prog 91 = none := by kernel_rfl
attribute [push_cast] Tryz.underlying91
@[push_cast] theorem Tryz.in91 : intI Tryz.prog 91 = none := by kernel_rfl
@[push_cast] theorem Tryz.st91 : isStr Tryz.prog 91 = false := by kernel_rfl
@[push_cast] theorem Tryz.by91 : isBytes Tryz.prog 91 = false := by kernel_rfl
@[push_cast] theorem Tryz.ty92 : tyI Tryz.prog 92 = some (1, false) := by kernel_rfl
@[push_cast] theorem Tryz.zl92 : zeroL Tryz.prog 92 = some [.nilFunc] := by kernel_rfl
@[push_cast] theorem Tryz.el92 : elemI Tryz.prog 92 = none := by kernel_rfl
attribute [push_cast] Tryz.underlying92
@[push_cast] theorem Tryz.in92 : intI Tryz.prog 92 = none := by kernel_rfl
@[push_cast] theorem Tryz.st92 : isStr Tryz.prog 92 = false := by kernel_rfl
@[push_cast] theorem Tryz.by92 : isBytes Tryz.prog 92 = false := by kernel_rfl
@[push_cast] theorem Tryz.ty93 : tyI Tryz.prog 93 = some (1, false) := by kernel_rfl
@[push_cast] theorem Tryz.zl93 : zeroL Tryz.prog 93 = some [.nilFunc] := by kernel_rfl
@[push_cast] theorem Tryz.el93 : elemI Tryz.prog 93 = none := by kernel_rfl
attribute [push_cast] Tryz.underlying93
@[push_cast] theorem Tryz.in93 : intI Tryz.prog 93 = none := by kernel_rfl
@[push_cast] theorem Tryz.st93 : isStr Tryz.prog 93 = false := by kernel_rfl
@[push_cast] theorem Tryz.by93 : isBytes Tryz.prog 93 = false := by kernel_rfl
@[push_cast] theorem Tryz.ty94 : tyI Tryz.prog 94 = some (1, false) := by kernel_rfl
@[push_cast] theorem Tryz.zl94 : zeroL Tryz.prog 94 = some [.nilFunc] := by kernel_rfl
@[push_cast] theorem Tryz.el94 : elemI Tryz.prog 94 = none := by kernel_rfl
attribute [push_cast] Tryz.underlying94
@[push_cast] theorem Tryz.in94 : intI Tryz.prog 94 = none := by kernel_rfl
@[push_cast] theorem Tryz.st94 : isStr Tryz.prog 94 = false := by kernel_rfl
@[push_cast] theorem Tryz.by94 : isBytes Tryz.prog 94 = false := by kernel_rfl
@[push_cast] theorem Tryz.ty95 : tyI Tryz.prog 95 = some (1, false) := by kernel_rfl
@[push_cast] theorem Tryz.el95 : elemI Tryz.prog 95 = none := by kernel_rfl
attribute [push_cast] Tryz.underlying95
@[push_cast] theorem Tryz.in95 : intI Tryz.prog 95 = none := by kernel_rfl
@[push_cast] theorem Tryz.st95 : isStr Tryz.prog 95 = false := by kernel_rfl
@[push_cast] theorem Tryz.by95 : isBytes Tryz.prog 95 = false := by kernel_rfl
@[push_cast] theorem Tryz.ty96 : tyI Tryz.prog 96 = some (1, false) := by kernel_rfl
@[push_cast] theorem Tryz.zl96 : zeroL Tryz.prog 96 = some [.nilFunc] := by kernel_rfl
@[push_cast] theorem Tryz.el96 : elemI Tryz.prog 96 = none := by kernel_rfl
attribute [push_cast] Tryz.underlying96
@[push_cast] theorem Tryz.in96 : intI Tryz.prog 96 = none := by kernel_rfl
@[push_cast] theorem Tryz.st96 : isStr Tryz.prog 96 = false := by kernel_rfl
@[push_cast] theorem Tryz.by96 : isBytes Tryz.prog 96 = false := by kernel_rfl
@[push_cast] theorem Tryz.ty97 : tyI Tryz.prog 97 = some (1, false) := by kernel_rfl
@[push_cast] theorem Tryz.zl97 : zeroL Tryz.prog 97 = some [.nilFunc] := by kernel_rfl
@[push_cast] theorem Tryz.el97 : elemI Tryz.prog 97 = none := by kernel_rfl
attribute [push_cast] Tryz.underlying97
@[push_cast] theorem Tryz.in97 : intI Tryz.prog 97 = none := by kernel_rfl
@[push_cast] theorem Tryz.st97 : isStr Tryz.prog 97 = false := by kernel_rfl
@[push_cast] theorem Tryz.by97 : isBytes Tryz.prog 97 = false := by kernel_rfl
@[push_cast] theorem Tryz.ty98 : tyI Tryz.prog 98 = some (1, false) := by kernel_rfl
@[push_cast] theorem Tryz.zl98 : zeroL Tryz.prog 98 = some [.nilFunc] := by kernel_rfl
@[push_cast] theorem Tryz.el98 : elemI Tryz.prog 98 = none := by kernel_rfl
attribute [push_cast] Tryz.underlying98
@[push_cast] theorem Tryz.in98 : intI Tryz.prog 98 = none := by kernel_rfl
@[push_cast] theorem Tryz.st98 : isStr Tryz.prog 98 = false := by kernel_rfl
@[push_cast] theorem Tryz.by98 : isBytes Tryz.prog 98 = false := by kernel_rfl
@[push_cast] theorem Tryz.ty99 : tyI Tryz.prog 99 = some (1, false) := by kernel_rfl
@[push_cast] theorem Tryz.zl99 : zeroL Tryz.prog 99 = some [.nilFunc] := by kernel_rfl
@[push_cast] theorem Tryz.el99 : elemI Tryz.prog 99 = none := by kernel_rfl
attribute [push_cast] Tryz.underlying99
@[push_cast] theorem Tryz.in99 : intI Tryz.prog 99 = none := by kernel_rfl
@[push_cast] theorem Tryz.st99 : isStr Tryz.prog 99 = false := by kernel_rfl
@[push_cast] theorem Tryz.by99 : isBytes Tryz.prog 99 = false := by kernel_rfl
@[push_cast] theorem Tryz.ty100 : tyI Tryz.prog 100 = some (1, false) := by kernel_rfl
@[push_cast] theorem Tryz.el100 : elemI Tryz.prog 100 = none := by kernel_rfl
attribute [push_cast] Tryz.underlying100
@[push_cast] theorem Tryz.in100 : intI Tryz.prog 100 = none := by kernel_rfl
@[push_cast] theorem Tryz.st100 : isStr Tryz.prog 100 = false := by kernel_rfl
@[push_cast] theorem Tryz.by100 : isBytes Tryz.prog 100 = false := by kernel_rfl
@[push_cast] theorem Tryz.ty101 : tyI Tryz.prog 101 = some (1, false) := by kernel_rfl
@[push_cast] theorem Tryz.zl101 : zeroL Tryz.prog 101 = some [.nilFunc] := by kernel_rfl
@[push_cast] theorem Tryz.el101 : elemI Tryz.prog 101 = none := by kernel_rfl
attribute [push_cast] Tryz.underlying101
@[push_cast] theorem Tryz.in101 : intI Tryz.prog 101 = none := by kernel_rfl
@[push_cast] theorem Tryz.st101 : isStr Tryz.prog 101 = false := by kernel_rfl
@[push_cast] theorem Tryz.by101 : isBytes Tryz.prog 101 = false := by kernel_rfl
@[push_cast] theorem Tryz.ty102 : tyI Tryz.prog 102 = some (1, false) := by kernel_rfl
@[push_cast] theorem Tryz.zl102 : zeroL Tryz.prog 102 = some [.nilFunc] := by kernel_rfl
@[push_cast] theorem Tryz.el102 : elemI Tryz.prog 102 = none := by kernel_rfl
attribute [push_cast] Tryz.underlying102
@[push_cast] theorem Tryz.in102 : intI Tryz.prog 102 = none := by kernel_rfl
@[push_cast] theorem Tryz.st102 : isStr Tryz.prog 102 = false := by kernel_rfl
@[push_cast] theorem Tryz.by102 : isBytes Tryz.prog 102 = false := by kernel_rfl
@[push_cast] theorem Tryz.ty103 : tyI Tryz.prog 103 = some (1, false) := by kernel_rfl
@[push_cast] theorem Tryz.zl103 : zeroL Tryz.prog 103 = some [.nilFunc] := by kernel_rfl
@[push_cast] theorem Tryz.el103 : elemI Tryz.prog 103 = none := by kernel_rfl
attribute [push_cast] Tryz.underlying103
@[push_cast] theorem Tryz.in103 : intI Tryz.prog 103 = none := by kernel_rfl
@[push_cast] theorem Tryz.st103 : isStr Tryz.prog 103 = false := by kernel_rfl
@[push_cast] theorem Tryz.by103 : isBytes Tryz.prog 103 = false := by kernel_rfl
@[push_cast] theorem Tryz.ty104 : tyI Tryz.prog 104 = some (1, false) := by kernel_rfl
@[push_cast] theorem Tryz.zl104 : zeroL Tryz.prog 104 = some [.nilFunc] := by kernel_rfl
@[push_cast] theorem Tryz.el104 : elemI Tryz.prog 104 = none := by kernel_rfl
attribute [push_cast] Tryz.underlying104
@[push_cast] theorem Tryz.in104 : intI Tryz.prog 104 = none := by kernel_rfl
@[push_cast] theorem Tryz.st104 : isStr Tryz.prog 104 = false := by kernel_rfl
@[push_cast] theorem Tryz.by104 : isBytes Tryz.prog 104 = false := by kernel_rfl
@[push_cast] theorem Tryz.ty105 : tyI Tryz.prog 105 = some (1, false) := by kernel_rfl
@[push_cast] theorem Tryz.zl105 : zeroL Tryz.prog 105 = some [.slice none 0 0] := by kernel_rfl
@[push_cast] theorem Tryz.el105 : elemI Tryz.prog 105 = some (none, 1, false) := by kernel_rfl
@[push_cast] theorem Tryz.sl105 : slI Tryz.prog 105 = some (5, 1, 1) := by kernel_rfl
attribute [push_cast] Tryz.underlying105
@[push_cast] theorem Tryz.in105 : intI Tryz.prog 105 = none := by kernel_rfl
@[push_cast] theorem Tryz.st105 : isStr Tryz.prog 105 = false := by kernel_rfl
@[push_cast] theorem Tryz.by105 : isBytes Tryz.prog 105 = true := by kernel_rfl
@[push_cast] theorem Tryz.ty106 : tyI Tryz.prog 106 = some (1, false) := by kernel_rfl
@[push_cast] theorem Tryz.zl106 : zeroL Tryz.prog 106 = some [.nilFunc] := by kernel_rfl
@[push_cast] theorem Tryz.el106 : elemI Tryz.prog 106 = none := by kernel_rfl
attribute [push_cast] Tryz.underlying106
@[push_cast] theorem Tryz.in106 : intI Tryz.prog 106 = none := by kernel_rfl
@[push_cast] theorem Tryz.st106 : isStr Tryz.prog 106 = false := by kernel_rfl
@[push_cast] theorem Tryz.by106 : isBytes Tryz.prog 106 = false := by kernel_rfl
@[push_cast] theorem Tryz.ty107 : tyI Tryz.prog 107 = some (1, false) := by kernel_rfl
@[push_cast] theorem Tryz.zl107 : zeroL Tryz.prog 107 = some [.nilFunc] := by kernel_rfl
@[push_cast] theorem Tryz.el107 : elemI Tryz.prog 107 = none := by kernel_rfl
attribute [push_cast] Tryz.underlying107
@[push_cast] theorem Tryz.in107 : intI Tryz.prog 107 = none := by kernel_rfl
@[push_cast] theorem Tryz.st107 : isStr Tryz.prog 107 = false := by kernel_rfl
@[push_cast] theorem Tryz.by107 : isBytes Tryz.prog 107 = false := by kernel_rfl
@[push_cast] theorem Tryz.ty108 : tyI Tryz.prog 108 = some (1, false) := by kernel_rfl
@[push_cast] theorem Tryz.el108 : elemI Tryz.prog 108 = none := by kernel_rfl
attribute [push_cast] Tryz.underlying108
@[push_cast] theorem Tryz.in108 : intI Tryz.prog 108 = none := by kernel_rfl
@[push_cast] theorem Tryz.st108 : isStr Tryz.prog 108 = false := by kernel_rfl
@[push_cast] theorem Tryz.by108 : isBytes Tryz.prog 108 = false := by kernel_rfl
@[push_cast] theorem Tryz.ty109 : tyI Tryz.prog 109 = some (1, false) := by kernel_rfl
@[push_cast] theorem Tryz.zl109 : zeroL Tryz.prog 109 = some [.nilFunc] := by kernel_rfl
@[push_cast] theorem Tryz.el109 : elemI Tryz.prog 109 = none := by kernel_rfl
attribute [push_cast] Tryz.underlying109
@[push_cast] theorem Tryz.in109 : intI Tryz.prog 109 = none := by kernel_rfl
@[push_cast] theorem Tryz.st109 : isStr Tryz.prog 109 = false := by kernel_rfl
@[push_cast] theorem Tryz.by109 : isBytes Tryz.prog 109 = false := by kernel_rfl
@[push_cast] theorem Tryz.ty110 : tyI Tryz.prog 110 = some (1, false) := by kernel_rfl
@[push_cast] theorem Tryz.zl110 : zeroL Tryz.prog 110 = some [.nilFunc] := by kernel_rfl
@[push_cast] theorem Tryz.el110 : elemI Tryz.prog 110 = none := by kernel_rfl
attribute [push_cast] Tryz.underlying110
@[push_cast] theorem Tryz.in110 : intI Tryz.prog 110 = none := by kernel_rfl
@[push_cast] theorem Tryz.st110 : isStr Tryz.prog 110 = false := by kernel_rfl
@[push_cast] theorem Tryz.by110 : isBytes Tryz.prog 110 = false := by kernel_rfl
@[push_cast] theorem Tryz.ty111 : tyI Tryz.prog 111 = some (1, false) := by kernel_rfl
@[push_cast] theorem Tryz.zl111 : zeroL Tryz.prog 111 = some [.nilFunc] := by kernel_rfl
@[push_cast] theorem Tryz.el111 : elemI Tryz.prog 111 = none := by kernel_rfl
attribute [push_cast] Tryz.underlying111
@[push_cast] theorem Tryz.in111 : intI Tryz.prog 111 = none := by kernel_rfl
@[push_cast] theorem Tryz.st111 : isStr Tryz.prog 111 = false := by kernel_rfl
@[push_cast] theorem Tryz.by111 : isBytes Tryz.prog 111 = false := by kernel_rfl
@[push_cast] theorem Tryz.ty112 : tyI Tryz.prog 112 = some (1, false) := by kernel_rfl
@[push_cast] theorem Tryz.zl112 : zeroL Tryz.prog 112 = some [.nilFunc] := by kernel_rfl
@[push_cast] theorem Tryz.el112 : elemI Tryz.prog 112 = none := by kernel_rfl
attribute [push_cast] Tryz.underlying112
@[push_cast] theorem Tryz.in112 : intI Tryz.prog 112 = none := by kernel_rfl
@[push_cast] theorem Tryz.st112 : isStr Tryz.prog 112 = false := by kernel_rfl
@[push_cast] theorem Tryz.by112 : isBytes Tryz.prog 112 = false := by kernel_rfl
@[push_cast] theorem Tryz.ty113 : tyI Tryz.prog 113 = some (1, false) := by kernel_rfl
@[push_cast] theorem Tryz.zl113 : zeroL Tryz.prog 113 = some [.nilFunc] := by kernel_rfl
@[push_cast] theorem Tryz.el113 : elemI Tryz.prog 113 = none := by kernel_rfl
attribute [push_cast] Tryz.underlying113
@[push_cast] theorem Tryz.in113 : intI Tryz.prog 113 = none := by kernel_rfl
@[push_cast] theorem Tryz.st113 : isStr Tryz.prog 113 = false := by kernel_rfl
@[push_cast] theorem Tryz.by113 : isBytes Tryz.prog 113 = false := by kernel_rfl
@[push_cast] theorem Tryz.ty114 : tyI Tryz.prog 114 = some (1, false) := by kernel_rfl
@[push_cast] theorem Tryz.zl114 : zeroL Tryz.prog 114 = some [.nilFunc] := by kernel_rfl
@[push_cast] theorem Tryz.el114 : elemI Tryz.prog 114 = none := by kernel_rfl
attribute [push_cast] Tryz.underlying114
@[push_cast] theorem Tryz.in114 : intI Tryz.prog 114 = none := by kernel_rfl
@[push_cast] theorem Tryz.st114 : isStr Tryz.prog 114 = false := by kernel_rfl
@[push_cast] theorem Tryz.by114 : isBytes Tryz.prog 114 = false := by kernel_rfl
@[push_cast] theorem Tryz.ty115 : tyI Tryz.prog 115 = some (1, false) := by kernel_rfl
@[push_cast] theorem Tryz.zl115 : zeroL Tryz.prog 115 = some [.nilFunc] := by kernel_rfl
@[push_cast] theorem Tryz.el115 : elemI Tryz.prog 115 = none := by kernel_rfl
attribute [push_cast] Tryz.underlying115
@[push_cast] theorem Tryz.in115 : intI Tryz.prog 115 = none := by kernel_rfl
@[push_cast] theorem Tryz.st115 : isStr Tryz.prog 115 = false := by kernel_rfl
@[push_cast] theorem Tryz.by115 : isBytes Tryz.prog 115 = false := by kernel_rfl
@[push_cast] theorem Tryz.ty116 : tyI Tryz.prog 116 = some (1, false) := by kernel_rfl
@[push_cast] theorem Tryz.zl116 : zeroL Tryz.prog 116 = some [.nilFunc] := by kernel_rfl
@[push_cast] theorem Tryz.el116 : elemI Tryz.prog 116 = none := by kernel_rfl
attribute [push_cast] Tryz.underlying116
@[push_cast] theorem Tryz.in116 : intI Tryz.prog 116 = none := by kernel_rfl
@[push_cast] theorem Tryz.st116 : isStr Tryz.prog 116 = false := by kernel_rfl
@[push_cast] theorem Tryz.by116 : isBytes Tryz.prog 116 = false := by kernel_rfl
@[push_cast] theorem Tryz.ty117 : tyI Tryz.prog 117 = some (1, false) := by kernel_rfl
@[push_cast] theorem Tryz.zl117 : zeroL Tryz.prog 117 = some [.int .u64 0] := by kernel_rfl
@[push_cast] theorem Tryz.el117 : elemI Tryz.prog 117 = none := by kernel_rfl
attribute [push_cast] Tryz.underlying117
@[push_cast] theorem Tryz.in117 : intI Tryz.prog 117 = some .u64 := by kernel_rfl
@[push_cast] theorem Tryz.st117 : isStr Tryz.prog 117 = false := by kernel_rfl
@[push_cast] theorem Tryz.by117 : isBytes Tryz.prog 117 = false := by kernel_rfl
@[push_cast] theorem Tryz.ty118 : tyI Tryz.prog 118 = some (1, false) := by kernel_rfl
@[push_cast] theorem Tryz.zl118 : zeroL Tryz.prog 118 = some [.nilFunc] := by kernel_rfl
@[push_cast] theorem Tryz.el118 : elemI Tryz.prog 118 = none := by kernel_rfl
attribute [push_cast] Tryz.underlying118
@[push_cast] theorem Tryz.in118 : intI Tryz.prog 118 = none := by kernel_rfl
@[push_cast] theorem Tryz.st118 : isStr Tryz.prog 118 = false := by kernel_rfl
@[push_cast] theorem Tryz.by118 : isBytes Tryz.prog 118 = false := by kernel_rfl
@[push_cast] theorem Tryz.ty119 : tyI Tryz.prog 119 = some (1, false) := by kernel_rfl
@[push_cast] theorem Tryz.zl119 : zeroL Tryz.prog 119 = some [.nilFunc] := by kernel_rfl
@[push_cast] theorem Tryz.el119 : elemI Tryz.prog 119 = none := by kernel_rfl
attribute [push_cast] Tryz.underlying119
@[push_cast] theorem Tryz.in119 : intI Tryz.prog 119 = none := by kernel_rfl
@[push_cast] theorem Tryz.st119 : isStr Tryz.prog 119 = false := by kernel_rfl
@[push_cast] theorem Tryz.by119 : isBytes Tryz.prog 119 = false := by kernel_rfl
@[push_cast] theorem Tryz.ty120 : tyI Tryz.prog 120 = some (1, false) := by kernel_rfl
@[push_cast] theorem Tryz.zl120 : zeroL Tryz.prog 120 = some [.slice none 0 0] := by kernel_rfl
@[push_cast] theorem Tryz.el120 : elemI Tryz.prog 120 = some (none, 8, true) := by kernel_rfl
@[push_cast] theorem Tryz.sl120 : slI Tryz.prog 120 = some (132, 8, 64) := by kernel_rfl
attribute [push_cast] Tryz.underlying120
@[push_cast] theorem Tryz.in120 : intI Tryz.prog 120 = none := by kernel_rfl
@[push_cast] theorem Tryz.st120 : isStr Tryz.prog 120 = false := by kernel_rfl
@[push_cast] theorem Tryz.by120 : isBytes Tryz.prog 120 = false := by kernel_rfl
@[push_cast] theorem Tryz.ty121 : tyI Tryz.prog 121 = some (1, false) := by kernel_rfl
@[push_cast] theorem Tryz.zl121 : zeroL Tryz.prog 121 = some [.nilFunc] := by kernel_rfl
@[push_cast] theorem Tryz.el121 : elemI Tryz.prog 121 = none := by kernel_rfl
attribute [push_cast] Tryz.underlying121
@[push_cast] theorem Tryz.in121 : intI Tryz.prog 121 = none := by kernel_rfl
@[push_cast] theorem Tryz.st121 : isStr Tryz.prog 121 = false := by kernel_rfl
@[push_cast] theorem Tryz.by121 : isBytes Tryz.prog 121 = false := by kernel_rfl
@[push_cast] theorem Tryz.ty122 : tyI Tryz.prog 122 = some (2, true) := by kernel_rfl
@[push_cast] theorem Tryz.zl122 : zeroL Tryz.prog 122 = some [.slice none 0 0, .nilFunc] := by kernel_rfl
@[push_cast] theorem Tryz.el122 : elemI Tryz.prog 122 = none := by kernel_rfl
attribute [push_cast] Tryz.underlying122
@[push_cast] theorem Tryz.in122 : intI Tryz.prog 122 = none := by kernel_rfl
@[push_cast] theorem Tryz.st122 : isStr Tryz.prog 122 = false := by kernel_rfl
@[push_cast] theorem Tryz.by122 : isBytes Tryz.prog 122 = false := by kernel_rfl
@[push_cast] theorem Tryz.fi122_0 : fieldI Tryz.prog 122 0 = some (0, 1, false) := by kernel_rfl
@[push_cast] theorem Tryz.pl122_0 : placeOf Tryz.prog 122 0 = some (0, 1) := by kernel_rfl
@[push_cast] theorem Tryz.fi122_1 : fieldI Tryz.prog 122 1 = some (1, 1, false) := by kernel_rfl
@[push_cast] theorem Tryz.pl122_1 : placeOf Tryz.prog 122 1 = some (1, 1) := by kernel_rfl
@[push_cast] theorem Tryz.fo122 : fieldsOk Tryz.prog 122 = true := by kernel_rfl
@[push_cast] theorem Tryz.ty123 : tyI Tryz.prog 123 = some (2, true) := by kernel_rfl
@[push_cast] theorem Tryz.zl123 : zeroL Tryz.prog 123 = some [.slice none 0 0, .nilFunc] := by kernel_rfl
@[push_cast] theorem Tryz.el123 : elemI Tryz.prog 123 = none := by kernel_rfl
attribute [push_cast] Tryz.underlying123
@[push_cast] theorem Tryz.in123 : intI Tryz.prog 123 = none := by kernel_rfl
@[push_cast] theorem Tryz.st123 : isStr Tryz.prog 123 = false := by kernel_rfl
@[push_cast] theorem Tryz.by123 : isBytes Tryz.prog 123 = false := by kernel_rfl
@[push_cast] theorem Tryz.fi123_0 : fieldI Tryz.prog 123 0 = some (0, 1, false) := by kernel_rfl
@[push_cast] theorem Tryz.pl123_0 : placeOf Tryz.prog 123 0 = some (0, 1) := by kernel_rfl
@[push_cast] theorem Tryz.fi123_1 : fieldI Tryz.prog 123 1 = some (1, 1, false) := by kernel_rfl
@[push_cast] theorem Tryz.pl123_1 : placeOf Tryz.prog 123 1 = some (1, 1) := by kernel_rfl
@[push_cast] theorem Tryz.fo123 : fieldsOk Tryz.prog 123 = true := by kernel_rfl
@[push_cast] theorem Tryz.ty124 : tyI Tryz.prog 124 = some (1, false) := by kernel_rfl
@[push_cast] theorem Tryz.zl124 : zeroL Tryz.prog 124 = some [.nilFunc] := by kernel_rfl
@[push_cast] theorem Tryz.el124 : elemI Tryz.prog 124 = none := by kernel_rfl
attribute [push_cast] Tryz.underlying124
@[push_cast] theorem Tryz.in124 : intI Tryz.prog 124 = none := by kernel_rfl
@[push_cast] theorem Tryz.st124 : isStr Tryz.prog 124 = false := by kernel_rfl
@[push_cast] theorem Tryz.by124 : isBytes Tryz.prog 124 = false := by kernel_rfl
@[push_cast] theorem Tryz.ty125 : tyI Tryz.prog 125 = some (1, false) := by kernel_rfl
@[push_cast] theorem Tryz.zl125 : zeroL Tryz.prog 125 = some [.nilFunc] := by kernel_rfl
@[push_cast] theorem Tryz.el125 : elemI Tryz.prog 125 = none := by kernel_rfl
attribute [push_cast] Tryz.underlying125
@[push_cast] theorem Tryz.in125 : intI Tryz.prog 125 = none := by kernel_rfl
@[push_cast] theorem Tryz.st125 : isStr Tryz.prog 125 = false := by kernel_rfl
@[push_cast] theorem Tryz.by125 : isBytes Tryz.prog 125 = false := by kernel_rfl
@[push_cast] theorem Tryz.ty126 : tyI Tryz.prog 126 = some (1, false) := by kernel_rfl
@[push_cast] theorem Tryz.zl126 : zeroL Tryz.prog 126 = some [.nilFunc] := by kernel_rfl
@[push_cast] theorem Tryz.el126 : elemI Tryz.prog 126 = none := by kernel_rfl
attribute [push_cast] Tryz.underlying126
@[push_cast] theorem Tryz.in126 : intI Tryz.prog 126 = none := by kernel_rfl
@[push_cast] theorem Tryz.st126 : isStr Tryz.prog 126 = false := by kernel_rfl
@[push_cast] theorem Tryz.by126 : isBytes Tryz.prog 126 = false := by kernel_rfl
@[push_cast] theorem Tryz.ty127 : tyI Tryz.prog 127 = some (1, false) := by kernel_rfl
@[push_cast] theorem Tryz.zl127 : zeroL Tryz.prog 127 = some [.nilFunc] := by kernel_rfl
@[push_cast] theorem Tryz.el127 : elemI Tryz.prog 127 = none := by kernel_rfl
attribute [push_cast] Tryz.underlying127
@[push_cast] theorem Tryz.in127 : intI Tryz.prog 127 = none := by kernel_rfl
@[push_cast] theorem Tryz.st127 : isStr Tryz.prog 127 = false := by kernel_rfl
@[push_cast] theorem Tryz.by127 : isBytes Tryz.prog 127 = false := by kernel_rfl
@[push_cast] theorem Tryz.ty128 : tyI Tryz.prog 128 = some (13, true) := by kernel_rfl
@[push_cast] theorem Tryz.zl128 : zeroL Tryz.prog 128 = some [.int .u64 0, .int .u64 0, .int .u64 0, .int .u64 0, .int .u64 0, .int .u64 0, .int .u64 0, .int .u64 0, .int .u64 0, .int .u64 0, .int .u64 0, .int .u64 0, .bool false] := by kernel_rfl
@[push_cast] theorem Tryz.el128 : elemI Tryz.prog 128 = none := by kernel_rfl
attribute [push_cast] Tryz.underlying128
@[push_cast] theorem Tryz.in128 : intI Tryz.prog 128 = none := by kernel_rfl
@[push_cast] theorem Tryz.st128 : isStr Tryz.prog 128 = false := by kernel_rfl
@[push_cast] theorem Tryz.by128 : isBytes Tryz.prog 128 = false := by kernel_rfl
@[push_cast] theorem Tryz.fi128_0 : fieldI Tryz.prog 128 0 = some (0, 4, true) := by kernel_rfl
@[push_cast] theorem Tryz.pl128_0 : placeOf Tryz.prog 128 0 = some (0, 4) := by kernel_rfl
@[push_cast] theorem Tryz.fi128_1 : fieldI Tryz.prog 128 1 = some (4, 4, true) := by kernel_rfl
@[push_cast] theorem Tryz.pl128_1 : placeOf Tryz.prog 128 1 = some (4, 4) := by kernel_rfl
@[push_cast] theorem Tryz.fi128_2 : fieldI Tryz.prog 128 2 = some (8, 4, true) := by kernel_rfl
@[push_cast] theorem Tryz.pl128_2 : placeOf Tryz.prog 128 2 = some (8, 4) := by kernel_rfl
@[push_cast] theorem Tryz.fi128_3 : fieldI Tryz.prog 128 3 = some (12, 1, false) := by kernel_rfl
@[push_cast] theorem Tryz.pl128_3 : placeOf Tryz.prog 128 3 = some (12, 1) := by kernel_rfl
@[push_cast] theorem Tryz.fo128 : fieldsOk Tryz.prog 128 = true := by kernel_rfl
@[push_cast] theorem Tryz.fk128 : flatK Tryz.prog 12 128 = some [.i, .i, .i, .i, .i, .i, .i, .i, .i, .i, .i, .i, .b] := by kernel_rfl
@[push_cast] theorem Tryz.eg128 : Program.eqGuardType Tryz.prog (Program.depth Tryz.prog) 128 = false := by kernel_rfl
@[push_cast] theorem Tryz.ty129 : tyI Tryz.prog 129 = some (13, true) := by kernel_rfl
@[push_cast] theorem Tryz.zl129 : zeroL Tryz.prog 129 = some [.int .u64 0, .int .u64 0, .int .u64 0, .int .u64 0, .int .u64 0, .int .u64 0, .int .u64 0, .int .u64 0, .int .u64 0, .int .u64 0, .int .u64 0, .int .u64 0, .bool false] := by kernel_rfl
@[push_cast] theorem Tryz.el129 : elemI Tryz.prog 129 = none := by kernel_rfl
attribute [push_cast] Tryz.underlying129
@[push_cast] theorem Tryz.in129 : intI Tryz.prog 129 = none := by kernel_rfl
@[push_cast] theorem Tryz.st129 : isStr Tryz.prog 129 = false := by kernel_rfl
@[push_cast] theorem Tryz.by129 : isBytes Tryz.prog 129 = false := by kernel_rfl
@[push_cast] theorem Tryz.fi129_0 : fieldI Tryz.prog 129 0 = some (0, 4, true) := by kernel_rfl
@[push_cast] theorem Tryz.pl129_0 : placeOf Tryz.prog 129 0 = some (0, 4) := by kernel_rfl
@[push_cast] theorem Tryz.fi129_1 : fieldI Tryz.prog 129 1 = some (4, 4, true) := by kernel_rfl
@[push_cast] theorem Tryz.pl129_1 : placeOf Tryz.prog 129 1 = some (4, 4) := by kernel_rfl
@[push_cast] theorem Tryz.fi129_2 : fieldI Tryz.prog 129 2 = some (8, 4, true) := by kernel_rfl
@[push_cast] theorem Tryz.pl129_2 : placeOf Tryz.prog 129 2 = some (8, 4) := by kernel_rfl
@[push_cast] theorem Tryz.fi129_3 : fieldI Tryz.prog 129 3 = some (12, 1, false) := by kernel_rfl
@[push_cast] theorem Tryz.pl129_3 : placeOf Tryz.prog 129 3 = some (12, 1) := by kernel_rfl
@[push_cast] theorem Tryz.fo129 : fieldsOk Tryz.prog 129 = true := by kernel_rfl
@[push_cast] theorem Tryz.fk129 : flatK Tryz.prog 12 129 = some [.i, .i, .i, .i, .i, .i, .i, .i, .i, .i, .i, .i, .b] := by kernel_rfl
@[push_cast] theorem Tryz.eg129 : Program.eqGuardType Tryz.prog (Program.depth Tryz.prog) 129 = false := by kernel_rfl
@[push_cast] theorem Tryz.ty130 : tyI Tryz.prog 130 = some (1, false) := by kernel_rfl
@[push_cast] theorem Tryz.zl130 : zeroL Tryz.prog 130 = some [.nilFunc] := by kernel_rfl
@[push_cast] theorem Tryz.el130 : elemI Tryz.prog 130 = none := by kernel_rfl
attribute [push_cast] Tryz.underlying130
@[push_cast] theorem Tryz.in130 : intI Tryz.prog 130 = none := by kernel_rfl
@[push_cast] theorem Tryz.st130 : isStr Tryz.prog 130 = false := by kernel_rfl
@[push_cast] theorem Tryz.by130 : isBytes Tryz.prog 130 = false := by kernel_rfl
@[push_cast] theorem Tryz.ty131 : tyI Tryz.prog 131 = some (8, true) := by kernel_rfl
@[push_cast] theorem Tryz.zl131 : zeroL Tryz.prog 131 = some [.int .u64 0, .int .u64 0, .int .u64 0, .int .u64 0, .int .u64 0, .int .u64 0, .int .u64 0, .int .u64 0] := by kernel_rfl
@[push_cast] theorem Tryz.el131 : elemI Tryz.prog 131 = none := by kernel_rfl
attribute [push_cast] Tryz.underlying131
@[push_cast] theorem Tryz.in131 : intI Tryz.prog 131 = none := by kernel_rfl
@[push_cast] theorem Tryz.st131 : isStr Tryz.prog 131 = false := by kernel_rfl
@[push_cast] theorem Tryz.by131 : isBytes Tryz.prog 131 = false := by kernel_rfl
@[push_cast] theorem Tryz.fi131_0 : fieldI Tryz.prog 131 0 = some (0, 4, true) := by kernel_rfl
@[push_cast] theorem Tryz.pl131_0 : placeOf Tryz.prog 131 0 = some (0, 4) := by kernel_rfl
@[push_cast] theorem Tryz.fi131_1 : fieldI Tryz.prog 131 1 = some (4, 4, true) := by kernel_rfl
@[push_cast] theorem Tryz.pl131_1 : placeOf Tryz.prog 131 1 = some (4, 4) := by kernel_rfl
@[push_cast] theorem Tryz.fo131 : fieldsOk Tryz.prog 131 = true := by kernel_rfl
@[push_cast] theorem Tryz.fk131 : flatK Tryz.prog 12 131 = some [.i, .i, .i, .i, .i, .i, .i, .i] := by kernel_rfl
@[push_cast] theorem Tryz.eg131 : Program.eqGuardType Tryz.prog (Program.depth Tryz.prog) 131 = false := by kernel_rfl
@[push_cast] theorem Tryz.ty132 : tyI Tryz.prog 132 = some (8, true) := by kernel_rfl
@[push_cast] theorem Tryz.zl132 : zeroL Tryz.prog 132 = some [.int .u64 0, .int .u64 0, .int .u64 0, .int .u64 0, .int .u64 0, .int .u64 0, .int .u64 0, .int .u64 0] := by kernel_rfl
@[push_cast] theorem Tryz.el132 : elemI Tryz.prog 132 = none := by kernel_rfl
attribute [push_cast] Tryz.underlying132
@[push_cast] theorem Tryz.in132 : intI Tryz.prog 132 = none := by kernel_rfl
@[push_cast] theorem Tryz.st132 : isStr Tryz.prog 132 = false := by kernel_rfl
@[push_cast] theorem Tryz.by132 : isBytes Tryz.prog 132 = false := by kernel_rfl
@[push_cast] theorem Tryz.fi132_0 : fieldI Tryz.prog 132 0 = some (0, 4, true) := by kernel_rfl
@[push_cast] theorem Tryz.pl132_0 : placeOf Tryz.prog 132 0 = some (0, 4) := by kernel_rfl
@[push_cast] theorem Tryz.fi132_1 : fieldI Tryz.prog 132 1 = some (4, 4, true) := by kernel_rfl
@[push_cast] theorem Tryz.pl132_1 : placeOf Tryz.prog 132 1 = some (4, 4) := by kernel_rfl
@[push_cast] theorem Tryz.fo132 : fieldsOk Tryz.prog 132 = true := by kernel_rfl
@[push_cast] theorem Tryz.fk132 : flatK Tryz.prog 12 132 = some [.i, .i, .i, .i, .i, .i, .i, .i] := by kernel_rfl
@[push_cast] theorem Tryz.eg132 : Program.eqGuardType Tryz.prog (Program.depth Tryz.prog) 132 = false := by kernel_rfl
@[push_cast] theorem Tryz.ty133 : tyI Tryz.prog 133 = some (1, false) := by kernel_rfl
@[push_cast] theorem Tryz.zl133 : zeroL Tryz.prog 133 = some [.nilFunc] := by kernel_rfl
@[push_cast] theorem Tryz.el133 : elemI Tryz.prog 133 = none := by kernel_rfl
attribute [push_cast] Tryz.underlying133
@[push_cast] theorem Tryz.in133 : intI Tryz.prog 133 = none := by kernel_rfl
@[push_cast] theorem Tryz.st133 : isStr Tryz.prog 133 = false := by kernel_rfl
@[push_cast] theorem Tryz.by133 : isBytes Tryz.prog 133 = false := by kernel_rfl
@[push_cast] theorem Tryz.ty134 : tyI Tryz.prog 134 = some (1, false) := by kernel_rfl
@[push_cast] theorem Tryz.zl134 : zeroL Tryz.prog 134 = some [.nilFunc] := by kernel_rfl
@[push_cast] theorem Tryz.el134 : elemI Tryz.prog 134 = none := by kernel_rfl
attribute [push_cast] Tryz.underlying134
@[push_cast] theorem Tryz.in134 : intI Tryz.prog 134 = none := by kernel_rfl
@[push_cast] theorem Tryz.st134 : isStr Tryz.prog 134 = false := by kernel_rfl
@[push_cast] theorem Tryz.by134 : isBytes Tryz.prog 134 = false := by kernel_rfl
@[push_cast] theorem Tryz.ty135 : tyI Tryz.prog 135 = some (1, false) := by kernel_rfl
@[push_cast] theorem Tryz.zl135 : zeroL Tryz.prog 135 = some [.nilFunc] := by kernel_rfl
@[push_cast] theorem Tryz.el135 : elemI Tryz.prog 135 = none := by kernel_rfl
attribute [push_cast] Tryz.underlying135
@[push_cast] theorem Tryz.in135 : intI Tryz.prog 135 = none := by kernel_rfl
@[push_cast] theorem Tryz.st135 : isStr Tryz.prog 135 = false := by kernel_rfl
@[push_cast] theorem Tryz.by135 : isBytes Tryz.prog 135 = false := by kernel_rfl
@[push_cast] theorem Tryz.ty136 : tyI Tryz.prog 136 = some (1, false) := by kernel_rfl
@[push_cast] theorem Tryz.zl136 : zeroL Tryz.prog 136 = some [.slice none 0 0] := by kernel_rfl
@[push_cast] theorem Tryz.el136 : elemI Tryz.prog 136 = some (none, 1, false) := by kernel_rfl
@[push_cast] theorem Tryz.sl136 : slI Tryz.prog 136 = some (27, 1, 8) := by kernel_rfl
attribute [push_cast] Tryz.underlying136
@[push_cast] theorem Tryz.in136 : intI Tryz.prog 136 = none := by kernel_rfl
@[push_cast] theorem Tryz.st136 : isStr Tryz.prog 136 = false := by kernel_rfl
@[push_cast] theorem Tryz.by136 : isBytes Tryz.prog 136 = false := by kernel_rfl
@[push_cast] theorem Tryz.ty137 : tyI Tryz.prog 137 = some (1, false) := by kernel_rfl
@[push_cast] theorem Tryz.zl137 : zeroL Tryz.prog 137 = some [.nilFunc] := by kernel_rfl
@[push_cast] theorem Tryz.el137 : elemI Tryz.prog 137 = none := by kernel_rfl
attribute [push_cast] Tryz.underlying137
@[push_cast] theorem Tryz.in137 : intI Tryz.prog 137 = none := by kernel_rfl
@[push_cast] theorem Tryz.st137 : isStr Tryz.prog 137 = false := by kernel_rfl
@[push_cast] theorem Tryz.by137 : isBytes Tryz.prog 137 = false := by kernel_rfl
@[push_cast] theorem Tryz.ty138 : tyI Tryz.prog 138 = some (1, false) := by kernel_rfl
@[push_cast] theorem Tryz.zl138 : zeroL Tryz.prog 138 = some [.nilFunc] := by kernel_rfl
@[push_cast] theorem Tryz.el138 : elemI Tryz.prog 138 = none := by kernel_rfl
attribute [push_cast] Tryz.underlying138
@[push_cast] theorem Tryz.in138 : intI Tryz.prog 138 = none := by kernel_rfl
@[push_cast] theorem Tryz.st138 : isStr Tryz.prog 138 = false := by kernel_rfl
@[push_cast] theorem Tryz.by138 : isBytes Tryz.prog 138 = false := by kernel_rfl
@[push_cast] theorem Tryz.ty139 : tyI Tryz.prog 139 = some (1, false) := by kernel_rfl
@[push_cast] theorem Tryz.zl139 : zeroL Tryz.prog 139 = some [.nilFunc] := by kernel_rfl
@[push_cast] theorem Tryz.el139 : elemI Tryz.prog 139 = none := by kernel_rfl
attribute [push_cast] Tryz.underlying139
@[push_cast] theorem Tryz.in139 : intI Tryz.prog 139 = none := by kernel_rfl
@[push_cast] theorem Tryz.st139 : isStr Tryz.prog 139 = false := by kernel_rfl
@[push_cast] theorem Tryz.by139 : isBytes Tryz.prog 139 = false := by kernel_rfl
@[push_cast] theorem Tryz.ty140 : tyI Tryz.prog 140 = some (1, false) := by kernel_rfl
@[push_cast] theorem Tryz.zl140 : zeroL Tryz.prog 140 = some [.nilFunc] := by kernel_rfl
@[push_cast] theorem Tryz.el140 : elemI Tryz.prog 140 = none := by kernel_rfl
attribute [push_cast] Tryz.underlying140
@[push_cast] theorem Tryz.in140 : intI Tryz.prog 140 = none := by kernel_rfl
@[push_cast] theorem Tryz.st140 : isStr Tryz.prog 140 = false := by kernel_rfl
@[push_cast] theorem Tryz.by140 : isBytes Tryz.prog 140 = false := by kernel_rfl
@[push_cast] theorem Tryz.ty141 : tyI Tryz.prog 141 = some (1, false) := by kernel_rfl
@[push_cast] theorem Tryz.zl141 : zeroL Tryz.prog 141 = some [.nilFunc] := by kernel_rfl
@[push_cast] theorem Tryz.el141 : elemI Tryz.prog 141 = none := by kernel_rfl
attribute [push_cast] Tryz.underlying141
@[push_cast] theorem Tryz.in141 : intI Tryz.prog 141 = none := by kernel_rfl
@[push_cast] theorem Tryz.st141 : isStr Tryz.prog 141 = false := by kernel_rfl
@[push_cast] theorem Tryz.by141 : isBytes Tryz.prog 141 = false := by kernel_rfl
@[push_cast] theorem Tryz.ty142 : tyI Tryz.prog 142 = some (4, true) := by kernel_rfl
@[push_cast] theorem Tryz.zl142 : zeroL Tryz.prog 142 = some [.pointer none, .pointer none, .pointer none, .string ByteArray.empty] := by kernel_rfl
@[push_cast] theorem Tryz.el142 : elemI Tryz.prog 142 = none := by kernel_rfl
attribute [push_cast] Tryz.underlying142
@[push_cast] theorem Tryz.in142 : intI Tryz.prog 142 = none := by kernel_rfl
@[push_cast] theorem Tryz.st142 : isStr Tryz.prog 142 = false := by kernel_rfl
@[push_cast] theorem Tryz.by142 : isBytes Tryz.prog 142 = false := by kernel_rfl
@[push_cast] theorem Tryz.fi142_0 : fieldI Tryz.prog 142 0 = some (0, 1, false) := by kernel_rfl
@[push_cast] theorem Tryz.pl142_0 : placeOf Tryz.prog 142 0 = some (0, 1) := by kernel_rfl
@[push_cast] theorem Tryz.fi142_1 : fieldI Tryz.prog 142 1 = some (1, 1, false) := by kernel_rfl
@[push_cast] theorem Tryz.pl142_1 : placeOf Tryz.prog 142 1 = some (1, 1) := by kernel_rfl
@[push_cast] theorem Tryz.fi142_2 : fieldI Tryz.prog 142 2 = some (2, 1, false) := by kernel_rfl
@[push_cast] theorem Tryz.pl142_2 : placeOf Tryz.prog 142 2 = some (2, 1) := by kernel_rfl
@[push_cast] theorem Tryz.fi142_3 : fieldI Tryz.prog 142 3 = some (3, 1, false) := by kernel_rfl
@[push_cast] theorem Tryz.pl142_3 : placeOf Tryz.prog 142 3 = some (3, 1) := by kernel_rfl
@[push_cast] theorem Tryz.fo142 : fieldsOk Tryz.prog 142 = true := by kernel_rfl
@[push_cast] theorem Tryz.ty143 : tyI Tryz.prog 143 = some (4, true) := by kernel_rfl
@[push_cast] theorem Tryz.zl143 : zeroL Tryz.prog 143 = some [.pointer none, .pointer none, .pointer none, .string ByteArray.empty] := by kernel_rfl
@[push_cast] theorem Tryz.el143 : elemI Tryz.prog 143 = none := by kernel_rfl
attribute [push_cast] Tryz.underlying143
@[push_cast] theorem Tryz.in143 : intI Tryz.prog 143 = none := by kernel_rfl
@[push_cast] theorem Tryz.st143 : isStr Tryz.prog 143 = false := by kernel_rfl
@[push_cast] theorem Tryz.by143 : isBytes Tryz.prog 143 = false := by kernel_rfl
@[push_cast] theorem Tryz.fi143_0 : fieldI Tryz.prog 143 0 = some (0, 1, false) := by kernel_rfl
@[push_cast] theorem Tryz.pl143_0 : placeOf Tryz.prog 143 0 = some (0, 1) := by kernel_rfl
@[push_cast] theorem Tryz.fi143_1 : fieldI Tryz.prog 143 1 = some (1, 1, false) := by kernel_rfl
@[push_cast] theorem Tryz.pl143_1 : placeOf Tryz.prog 143 1 = some (1, 1) := by kernel_rfl
@[push_cast] theorem Tryz.fi143_2 : fieldI Tryz.prog 143 2 = some (2, 1, false) := by kernel_rfl
@[push_cast] theorem Tryz.pl143_2 : placeOf Tryz.prog 143 2 = some (2, 1) := by kernel_rfl
@[push_cast] theorem Tryz.fi143_3 : fieldI Tryz.prog 143 3 = some (3, 1, false) := by kernel_rfl
@[push_cast] theorem Tryz.pl143_3 : placeOf Tryz.prog 143 3 = some (3, 1) := by kernel_rfl
@[push_cast] theorem Tryz.fo143 : fieldsOk Tryz.prog 143 = true := by kernel_rfl
@[push_cast] theorem Tryz.ty144 : tyI Tryz.prog 144 = some (0, true) := by kernel_rfl
@[push_cast] theorem Tryz.zl144 : zeroL Tryz.prog 144 = some [] := by kernel_rfl
@[push_cast] theorem Tryz.el144 : elemI Tryz.prog 144 = some (some 0, 1, false) := by kernel_rfl
attribute [push_cast] Tryz.underlying144
@[push_cast] theorem Tryz.in144 : intI Tryz.prog 144 = none := by kernel_rfl
@[push_cast] theorem Tryz.st144 : isStr Tryz.prog 144 = false := by kernel_rfl
@[push_cast] theorem Tryz.by144 : isBytes Tryz.prog 144 = false := by kernel_rfl
@[push_cast] theorem Tryz.fo144 : fieldsOk Tryz.prog 144 = true := by kernel_rfl
@[push_cast] theorem Tryz.ty145 : tyI Tryz.prog 145 = some (0, true) := by kernel_rfl
@[push_cast] theorem Tryz.zl145 : zeroL Tryz.prog 145 = some [] := by kernel_rfl
@[push_cast] theorem Tryz.el145 : elemI Tryz.prog 145 = none := by kernel_rfl
attribute [push_cast] Tryz.underlying145
@[push_cast] theorem Tryz.in145 : intI Tryz.prog 145 = none := by kernel_rfl
@[push_cast] theorem Tryz.st145 : isStr Tryz.prog 145 = false := by kernel_rfl
@[push_cast] theorem Tryz.by145 : isBytes Tryz.prog 145 = false := by kernel_rfl
@[push_cast] theorem Tryz.fo145 : fieldsOk Tryz.prog 145 = true := by kernel_rfl
@[push_cast] theorem Tryz.ty146 : tyI Tryz.prog 146 = some (0, true) := by kernel_rfl
@[push_cast] theorem Tryz.zl146 : zeroL Tryz.prog 146 = some [] := by kernel_rfl
@[push_cast] theorem Tryz.el146 : elemI Tryz.prog 146 = none := by kernel_rfl
attribute [push_cast] Tryz.underlying146
@[push_cast] theorem Tryz.in146 : intI Tryz.prog 146 = none := by kernel_rfl
@[push_cast] theorem Tryz.st146 : isStr Tryz.prog 146 = false := by kernel_rfl
@[push_cast] theorem Tryz.by146 : isBytes Tryz.prog 146 = false := by kernel_rfl
@[push_cast] theorem Tryz.fo146 : fieldsOk Tryz.prog 146 = true := by kernel_rfl
@[push_cast] theorem Tryz.ty147 : tyI Tryz.prog 147 = some (1, false) := by kernel_rfl
@[push_cast] theorem Tryz.zl147 : zeroL Tryz.prog 147 = some [.nilFunc] := by kernel_rfl
@[push_cast] theorem Tryz.el147 : elemI Tryz.prog 147 = none := by kernel_rfl
attribute [push_cast] Tryz.underlying147
@[push_cast] theorem Tryz.in147 : intI Tryz.prog 147 = none := by kernel_rfl
@[push_cast] theorem Tryz.st147 : isStr Tryz.prog 147 = false := by kernel_rfl
@[push_cast] theorem Tryz.by147 : isBytes Tryz.prog 147 = false := by kernel_rfl
@[push_cast] theorem Tryz.ty148 : tyI Tryz.prog 148 = some (1, false) := by kernel_rfl
@[push_cast] theorem Tryz.zl148 : zeroL Tryz.prog 148 = some [.int .u32 0] := by kernel_rfl
@[push_cast] theorem Tryz.el148 : elemI Tryz.prog 148 = none := by kernel_rfl
attribute [push_cast] Tryz.underlying148
@[push_cast] theorem Tryz.in148 : intI Tryz.prog 148 = some .u32 := by kernel_rfl
@[push_cast] theorem Tryz.st148 : isStr Tryz.prog 148 = false := by kernel_rfl
@[push_cast] theorem Tryz.by148 : isBytes Tryz.prog 148 = false := by kernel_rfl
@[push_cast] theorem Tryz.ty149 : tyI Tryz.prog 149 = some (1, false) := by kernel_rfl
@[push_cast] theorem Tryz.zl149 : zeroL Tryz.prog 149 = some [.int .u8 0] := by kernel_rfl
@[push_cast] theorem Tryz.el149 : elemI Tryz.prog 149 = none := by kernel_rfl
attribute [push_cast] Tryz.underlying149
@[push_cast] theorem Tryz.in149 : intI Tryz.prog 149 = some .u8 := by kernel_rfl
@[push_cast] theorem Tryz.st149 : isStr Tryz.prog 149 = false := by kernel_rfl
@[push_cast] theorem Tryz.by149 : isBytes Tryz.prog 149 = false := by kernel_rfl
@[push_cast] theorem Tryz.ty150 : tyI Tryz.prog 150 = some (1, false) := by kernel_rfl
@[push_cast] theorem Tryz.zl150 : zeroL Tryz.prog 150 = some [.int .u8 0] := by kernel_rfl
@[push_cast] theorem Tryz.el150 : elemI Tryz.prog 150 = none := by kernel_rfl
attribute [push_cast] Tryz.underlying150
@[push_cast] theorem Tryz.in150 : intI Tryz.prog 150 = some .u8 := by kernel_rfl
@[push_cast] theorem Tryz.st150 : isStr Tryz.prog 150 = false := by kernel_rfl
@[push_cast] theorem Tryz.by150 : isBytes Tryz.prog 150 = false := by kernel_rfl
@[push_cast] theorem Tryz.ty151 : tyI Tryz.prog 151 = some (1, false) := by kernel_rfl
@[push_cast] theorem Tryz.zl151 : zeroL Tryz.prog 151 = some [.nilFunc] := by kernel_rfl
@[push_cast] theorem Tryz.el151 : elemI Tryz.prog 151 = none := by kernel_rfl
attribute [push_cast] Tryz.underlying151
@[push_cast] theorem Tryz.in151 : intI Tryz.prog 151 = none := by kernel_rfl
@[push_cast] theorem Tryz.st151 : isStr Tryz.prog 151 = false := by kernel_rfl
@[push_cast] theorem Tryz.by151 : isBytes Tryz.prog 151 = false := by kernel_rfl
@[push_cast] theorem Tryz.ty152 : tyI Tryz.prog 152 = some (1, false) := by kernel_rfl
@[push_cast] theorem Tryz.zl152 : zeroL Tryz.prog 152 = some [.pointer none] := by kernel_rfl
@[push_cast] theorem Tryz.el152 : elemI Tryz.prog 152 = none := by kernel_rfl
attribute [push_cast] Tryz.underlying152
@[push_cast] theorem Tryz.in152 : intI Tryz.prog 152 = none := by kernel_rfl
@[push_cast] theorem Tryz.st152 : isStr Tryz.prog 152 = false := by kernel_rfl
@[push_cast] theorem Tryz.by152 : isBytes Tryz.prog 152 = false := by kernel_rfl
@[push_cast] theorem Tryz.ty153 : tyI Tryz.prog 153 = some (1, false) := by kernel_rfl
@[push_cast] theorem Tryz.zl153 : zeroL Tryz.prog 153 = some [.int .i32 0] := by kernel_rfl
@[push_cast] theorem Tryz.el153 : elemI Tryz.prog 153 = none := by kernel_rfl
attribute [push_cast] Tryz.underlying153
@[push_cast] theorem Tryz.in153 : intI Tryz.prog 153 = some .i32 := by kernel_rfl
@[push_cast] theorem Tryz.st153 : isStr Tryz.prog 153 = false := by kernel_rfl
@[push_cast] theorem Tryz.by153 : isBytes Tryz.prog 153 = false := by kernel_rfl
@[push_cast] theorem Tryz.ty154 : tyI Tryz.prog 154 = some (1, false) := by kernel_rfl
@[push_cast] theorem Tryz.zl154 : zeroL Tryz.prog 154 = some [.int .i32 0] := by kernel_rfl
@[push_cast] theorem Tryz.el154 : elemI Tryz.prog 154 = none := by kernel_rfl
attribute [push_cast] Tryz.underlying154
@[push_cast] theorem Tryz.in154 : intI Tryz.prog 154 = some .i32 := by kernel_rfl
@[push_cast] theorem Tryz.st154 : isStr Tryz.prog 154 = false := by kernel_rfl
@[push_cast] theorem Tryz.by154 : isBytes Tryz.prog 154 = false := by kernel_rfl
@[push_cast] theorem Tryz.ty155 : tyI Tryz.prog 155 = some (11, true) := by kernel_rfl
@[push_cast] theorem Tryz.zl155 : zeroL Tryz.prog 155 = some [.int .u64 0, .int .u64 0, .int .u32 0, .int .u8 0, .int .u8 0, .int .u8 0, .int .u8 0, .nilFunc, .pointer none, .int .i32 0, .int .i32 0] := by kernel_rfl
@[push_cast] theorem Tryz.el155 : elemI Tryz.prog 155 = none := by kernel_rfl
attribute [push_cast] Tryz.underlying155
@[push_cast] theorem Tryz.in155 : intI Tryz.prog 155 = none := by kernel_rfl
@[push_cast] theorem Tryz.st155 : isStr Tryz.prog 155 = false := by kernel_rfl
@[push_cast] theorem Tryz.by155 : isBytes Tryz.prog 155 = false := by kernel_rfl
@[push_cast] theorem Tryz.fi155_0 : fieldI Tryz.prog 155 0 = some (0, 1, false) := by kernel_rfl
@[push_cast] theorem Tryz.pl155_0 : placeOf Tryz.prog 155 0 = some (0, 1) := by kernel_rfl
@[push_cast] theorem Tryz.fi155_1 : fieldI Tryz.prog 155 1 = some (1, 1, false) := by kernel_rfl
@[push_cast] theorem Tryz.pl155_1 : placeOf Tryz.prog 155 1 = some (1, 1) := by kernel_rfl
@[push_cast] theorem Tryz.fi155_2 : fieldI Tryz.prog 155 2 = some (2, 1, false) := by kernel_rfl
@[push_cast] theorem Tryz.pl155_2 : placeOf Tryz.prog 155 2 = some (2, 1) := by kernel_rfl
@[push_cast] theorem Tryz.fi155_3 : fieldI Tryz.prog 155 3 = some (3, 1, false) := by kernel_rfl
@[push_cast] theorem Tryz.pl155_3 : placeOf Tryz.prog 155 3 = some (3, 1) := by kernel_rfl
@[push_cast] theorem Tryz.fi155_4 : fieldI Tryz.prog 155 4 = some (4, 1, false) := by kernel_rfl
@[push_cast] theorem Tryz.pl155_4 : placeOf Tryz.prog 155 4 = some (4, 1) := by kernel_rfl
@[push_cast] theorem Tryz.fi155_5 : fieldI Tryz.prog 155 5 = some (5, 1, false) := by kernel_rfl
@[push_cast] theorem Tryz.pl155_5 : placeOf Tryz.prog 155 5 = some (5, 1) := by kernel_rfl
@[push_cast] theorem Tryz.fi155_6 : fieldI Tryz.prog 155 6 = some (6, 1, false) := by kernel_rfl
@[push_cast] theorem Tryz.pl155_6 : placeOf Tryz.prog 155 6 = some (6, 1) := by kernel_rfl
@[push_cast] theorem Tryz.fi155_7 : fieldI Tryz.prog 155 7 = some (7, 1, false) := by kernel_rfl
@[push_cast] theorem Tryz.pl155_7 : placeOf Tryz.prog 155 7 = some (7, 1) := by kernel_rfl
@[push_cast] theorem Tryz.fi155_8 : fieldI Tryz.prog 155 8 = some (8, 1, false) := by kernel_rfl
@[push_cast] theorem Tryz.pl155_8 : placeOf Tryz.prog 155 8 = some (8, 1) := by kernel_rfl
@[push_cast] theorem Tryz.fi155_9 : fieldI Tryz.prog 155 9 = some (9, 1, false) := by kernel_rfl
@[push_cast] theorem Tryz.pl155_9 : placeOf Tryz.prog 155 9 = some (9, 1) := by kernel_rfl
@[push_cast] theorem Tryz.fi155_10 : fieldI Tryz.prog 155 10 = some (10, 1, false) := by kernel_rfl
@[push_cast] theorem Tryz.pl155_10 : placeOf Tryz.prog 155 10 = some (10, 1) := by kernel_rfl
@[push_cast] theorem Tryz.fo155 : fieldsOk Tryz.prog 155 = true := by kernel_rfl
@[push_cast] theorem Tryz.ty156 : tyI Tryz.prog 156 = some (11, true) := by kernel_rfl
@[push_cast] theorem Tryz.zl156 : zeroL Tryz.prog 156 = some [.int .u64 0, .int .u64 0, .int .u32 0, .int .u8 0, .int .u8 0, .int .u8 0, .int .u8 0, .nilFunc, .pointer none, .int .i32 0, .int .i32 0] := by kernel_rfl
@[push_cast] theorem Tryz.el156 : elemI Tryz.prog 156 = none := by kernel_rfl
attribute [push_cast] Tryz.underlying156
@[push_cast] theorem Tryz.in156 : intI Tryz.prog 156 = none := by kernel_rfl
@[push_cast] theorem Tryz.st156 : isStr Tryz.prog 156 = false := by kernel_rfl
@[push_cast] theorem Tryz.by156 : isBytes Tryz.prog 156 = false := by kernel_rfl
@[push_cast] theorem Tryz.fi156_0 : fieldI Tryz.prog 156 0 = some (0, 1, false) := by kernel_rfl
@[push_cast] theorem Tryz.pl156_0 : placeOf Tryz.prog 156 0 = some (0, 1) := by kernel_rfl
@[push_cast] theorem Tryz.fi156_1 : fieldI Tryz.prog 156 1 = some (1, 1, false) := by kernel_rfl
@[push_cast] theorem Tryz.pl156_1 : placeOf Tryz.prog 156 1 = some (1, 1) := by kernel_rfl
@[push_cast] theorem Tryz.fi156_2 : fieldI Tryz.prog 156 2 = some (2, 1, false) := by kernel_rfl
@[push_cast] theorem Tryz.pl156_2 : placeOf Tryz.prog 156 2 = some (2, 1) := by kernel_rfl
@[push_cast] theorem Tryz.fi156_3 : fieldI Tryz.prog 156 3 = some (3, 1, false) := by kernel_rfl
@[push_cast] theorem Tryz.pl156_3 : placeOf Tryz.prog 156 3 = some (3, 1) := by kernel_rfl
@[push_cast] theorem Tryz.fi156_4 : fieldI Tryz.prog 156 4 = some (4, 1, false) := by kernel_rfl
@[push_cast] theorem Tryz.pl156_4 : placeOf Tryz.prog 156 4 = some (4, 1) := by kernel_rfl
@[push_cast] theorem Tryz.fi156_5 : fieldI Tryz.prog 156 5 = some (5, 1, false) := by kernel_rfl
@[push_cast] theorem Tryz.pl156_5 : placeOf Tryz.prog 156 5 = some (5, 1) := by kernel_rfl
@[push_cast] theorem Tryz.fi156_6 : fieldI Tryz.prog 156 6 = some (6, 1, false) := by kernel_rfl
@[push_cast] theorem Tryz.pl156_6 : placeOf Tryz.prog 156 6 = some (6, 1) := by kernel_rfl
@[push_cast] theorem Tryz.fi156_7 : fieldI Tryz.prog 156 7 = some (7, 1, false) := by kernel_rfl
@[push_cast] theorem Tryz.pl156_7 : placeOf Tryz.prog 156 7 = some (7, 1) := by kernel_rfl
@[push_cast] theorem Tryz.fi156_8 : fieldI Tryz.prog 156 8 = some (8, 1, false) := by kernel_rfl
@[push_cast] theorem Tryz.pl156_8 : placeOf Tryz.prog 156 8 = some (8, 1) := by kernel_rfl
@[push_cast] theorem Tryz.fi156_9 : fieldI Tryz.prog 156 9 = some (9, 1, false) := by kernel_rfl
@[push_cast] theorem Tryz.pl156_9 : placeOf Tryz.prog 156 9 = some (9, 1) := by kernel_rfl
@[push_cast] theorem Tryz.fi156_10 : fieldI Tryz.prog 156 10 = some (10, 1, false) := by kernel_rfl
@[push_cast] theorem Tryz.pl156_10 : placeOf Tryz.prog 156 10 = some (10, 1) := by kernel_rfl
@[push_cast] theorem Tryz.fo156 : fieldsOk Tryz.prog 156 = true := by kernel_rfl
@[push_cast] theorem Tryz.ty157 : tyI Tryz.prog 157 = some (1, false) := by kernel_rfl
@[push_cast] theorem Tryz.zl157 : zeroL Tryz.prog 157 = some [.pointer none] := by kernel_rfl
@[push_cast] theorem Tryz.el157 : elemI Tryz.prog 157 = none := by kernel_rfl
attribute [push_cast] Tryz.underlying157
@[push_cast] theorem Tryz.in157 : intI Tryz.prog 157 = none := by kernel_rfl
@[push_cast] theorem Tryz.st157 : isStr Tryz.prog 157 = false := by kernel_rfl
@[push_cast] theorem Tryz.by157 : isBytes Tryz.prog 157 = false := by kernel_rfl
@[push_cast] def Tryz.pl2 : Plans := fun i => []
@[push_cast] def Tryz.pl3 : Plans := fun i => if i = 11 then [(0, 0), (1, 0), (2, 0), (3, 0), (4, 0), (5, 0), (6, 2), (7, 0), (8, 1)] else if i = 24 then [(0, 0), (1, 0), (2, 0), (3, 0), (4, 0)] else []
@[push_cast] def Tryz.pl4 : Plans := fun i => if i = 14 then [(0, 0), (1, 0), (2, 0), (3, 0), (4, 0), (5, 0), (6, 0), (7, 2), (8, 0), (9, 0), (10, 0), (11, 1)] else if i = 16 then [(0, 0), (1, 0), (2, 0), (3, 0), (4, 0), (5, 0), (6, 0), (7, 2), (8, 0), (9, 0), (10, 0), (11, 1)] else if i = 10 then [(0, 0), (1, 0), (2, 0), (3, 0), (4, 0), (5, 0), (6, 0), (7, 0), (8, 0), (9, 0), (10, 0), (11, 2), (12, 2), (13, 0), (14, 0), (15, 0), (16, 1)] else []
@[push_cast] def Tryz.pl5 : Plans := fun i => if i = 10 then [(0, 0), (1, 0), (2, 0), (3, 0), (4, 0), (5, 0), (6, 0), (7, 0), (8, 2), (9, 1), (10, 0)] else if i = 12 then [(0, 0), (1, 0), (2, 0), (3, 0), (4, 0), (5, 0), (6, 0), (7, 0), (8, 2), (9, 1), (10, 0)] else []
@[push_cast] def Tryz.pl6 : Plans := fun i => if i = 10 then [(0, 0), (1, 0), (2, 0), (3, 0), (4, 0), (5, 0), (6, 0)] else if i = 12 then [(0, 0), (1, 0), (2, 0), (3, 0), (4, 0), (5, 0), (6, 0), (7, 0), (8, 2), (9, 1), (10, 0)] else []
@[push_cast] def Tryz.pl7 : Plans := fun i => []
@[push_cast] def Tryz.pl8 : Plans := fun i => if i = 5 then [(0, 0), (1, 0), (2, 0), (3, 0), (4, 0), (5, 2), (6, 1)] else []
@[push_cast] def Tryz.pl9 : Plans := fun i => []
@[push_cast] def Tryz.pl10 : Plans := fun i => []
@[push_cast] def Tryz.pl11 : Plans := fun i => []
@[push_cast] def Tryz.pl12 : Plans := fun i => if i = 1 then [(0, 0), (1, 0), (2, 0), (3, 0), (4, 0), (5, 0), (6, 0), (7, 0), (8, 2), (9, 1)] else []
@[push_cast] def Tryz.pl13 : Plans := fun i => []
@[push_cast] def Tryz.pl14 : Plans := fun i => []
@[push_cast] def Tryz.pl15 : Plans := fun i => if i = 6 then [(0, 0), (1, 0), (2, 0), (3, 0), (4, 0), (5, 0), (6, 0), (7, 0), (8, 0), (9, 0), (10, 0)] else if i = 11 then [(0, 0), (1, 0), (2, 0), (3, 0), (4, 0), (5, 0), (6, 0), (7, 0), (8, 0), (9, 0), (10, 0)] else []
@[push_cast] def Tryz.pl16 : Plans := fun i => []
@[push_cast] def Tryz.pl17 : Plans := fun i => if i = 7 then [(0, 0), (1, 0), (2, 0), (3, 0), (4, 0), (5, 0), (6, 0), (7, 0), (8, 0), (9, 0), (10, 0), (11, 0), (12, 0), (13, 0), (14, 0), (15, 0), (16, 0), (17, 0)] else []
@[push_cast] def Tryz.pl18 : Plans := fun i => []
@[push_cast] def Tryz.pl19 : Plans := fun i => if i = 9 then [(0, 0), (1, 0), (2, 0), (3, 0), (4, 0), (5, 0), (6, 0), (7, 0), (8, 0), (9, 0), (10, 0), (11, 2), (12, 0), (13, 1), (14, 0)] else []
@[push_cast] def Tryz.pl20 : Plans := fun i => []
@[push_cast] def Tryz.pl21 : Plans := fun i => []
@[push_cast] def Tryz.pl22 : Plans := fun i => if i = 6 then [(0, 0), (2, 0), (3, 0), (4, 0), (5, 0), (1, 2), (6, 0), (7, 1), (8, 0), (9, 1)] else []
@[push_cast] def Tryz.pl23 : Plans := fun i => []
@[push_cast] def Tryz.pl24 : Plans := fun i => []
@[push_cast] def Tryz.pl25 : Plans := fun i => []
@[push_cast] def Tryz.pl26 : Plans := fun i => if i = 1 then [(0, 0), (1, 0), (2, 0), (3, 0), (4, 1)] else []
@[push_cast] def Tryz.pl27 : Plans := fun i => if i = 6 then [(0, 0), (1, 0), (2, 0), (3, 0), (4, 0), (5, 0), (6, 0), (7, 0), (8, 0), (9, 0)] else []
@[push_cast] def Tryz.pl28 : Plans := fun i => []
@[push_cast] def Tryz.pl29 : Plans := fun i => if i = 8 then [(0, 0), (1, 0), (2, 0), (3, 0), (4, 0), (5, 0), (6, 0), (7, 2), (8, 0), (9, 0), (10, 0), (11, 1)] else if i = 11 then [(0, 0), (1, 0), (2, 0), (3, 0), (4, 0), (5, 0), (6, 0), (7, 2), (8, 0), (9, 0), (10, 0), (11, 1)] else if i = 3 then [(0, 0), (1, 0), (2, 0), (3, 0), (4, 0), (5, 0), (6, 0), (7, 0), (8, 0), (9, 0), (10, 0), (11, 2), (12, 2), (13, 0), (14, 0), (15, 0), (16, 1)] else []
@[push_cast] def Tryz.pl30 : Plans := fun i => []
@[push_cast] def Tryz.pl31 : Plans := fun i => []
@[push_cast] def Tryz.pl32 : Plans := fun i => []
@[push_cast] def Tryz.pl33 : Plans := fun i => if i = 4 then [(0, 0), (1, 0), (2, 0), (3, 0), (4, 0), (5, 0), (6, 0), (7, 0), (8, 0), (9, 0), (10, 0), (11, 0), (12, 0), (13, 0), (14, 0), (15, 0), (16, 0), (17, 0), (18, 0), (19, 0), (20, 0), (21, 0), (22, 0)] else []
@[push_cast] def Tryz.pl34 : Plans := fun i => []
@[push_cast] def Tryz.pl35 : Plans := fun i => if i = 4 then [(0, 0), (1, 0), (2, 0), (3, 0), (4, 0), (5, 0), (6, 0), (7, 0), (8, 0), (9, 0), (10, 0), (11, 0), (12, 0), (13, 0), (14, 0), (15, 0), (16, 0), (17, 0), (18, 0), (19, 0), (20, 0), (21, 0), (22, 0), (23, 0), (24, 0), (25, 0), (26, 0), (27, 0), (28, 0), (29, 0), (30, 0), (31, 0)] else []
@[push_cast] def Tryz.pl36 : Plans := fun i => []
@[push_cast] def Tryz.pl37 : Plans := fun i => if i = 4 then [(0, 0), (1, 0), (2, 0), (3, 0), (4, 0), (5, 0), (6, 0), (7, 0), (8, 0), (9, 0)] else []
@[push_cast] def Tryz.pl38 : Plans := fun i => []
@[push_cast] def Tryz.pl39 : Plans := fun i => if i = 6 then [(0, 4), (1, 3), (2, 1)] else []
@[push_cast] def Tryz.pl40 : Plans := fun i => []
@[push_cast] def Tryz.pl41 : Plans := fun i => if i = 1 then [(0, 0), (1, 0), (3, 0), (4, 0), (6, 0), (7, 0), (2, 2), (9, 0), (5, 2), (8, 2), (10, 1), (11, 0), (12, 1), (13, 0), (14, 1)] else []
@[push_cast] def Tryz.pl42 : Plans := fun i => if i = 9 then [(0, 0), (1, 0), (2, 0), (3, 1), (4, 0)] else []
@[push_cast] def Tryz.pl43 : Plans := fun i => []
@[push_cast] def Tryz.pl44 : Plans := fun i => if i = 24 then [(0, 0), (1, 0), (2, 0), (3, 1), (4, 0)] else []
@[push_cast] def Tryz.pl45 : Plans := fun i => []
@[push_cast] def Tryz.pl46 : Plans := fun i => []
@[push_cast] def Tryz.pl47 : Plans := fun i => []
@[push_cast] def Tryz.pl48 : Plans := fun i => if i = 1 then [(0, 0), (1, 0), (2, 0), (3, 0)] else []
@[push_cast] def Tryz.pl49 : Plans := fun i => []
@[push_cast] def Tryz.pl50 : Plans := fun i => []
@[push_cast] def Tryz.pl51 : Plans := fun i => []
@[push_cast] def Tryz.pl52 : Plans := fun i => []
@[push_cast] def Tryz.pl53 : Plans := fun i => if i = 4 then [(0, 0), (1, 0), (2, 0), (3, 0), (4, 0), (5, 0), (6, 0)] else if i = 5 then [(0, 0), (1, 0), (2, 0), (3, 0), (4, 0), (5, 0), (6, 0), (7, 0)] else []
@[push_cast] def Tryz.pl54 : Plans := fun i => []
@[push_cast] def Tryz.pl55 : Plans := fun i => []
@[push_cast] def Tryz.pl56 : Plans := fun i => []
@[push_cast] def Tryz.pl57 : Plans := fun i => []
@[push_cast] def Tryz.pl58 : Plans := fun i => []
@[push_cast] def Tryz.pl59 : Plans := fun i => []
@[push_cast] def Tryz.pl60 : Plans := fun i => []
@[push_cast] def Tryz.pl61 : Plans := fun i => if i = 6 then [(0, 0), (1, 0), (2, 0), (4, 0), (3, 4), (5, 3), (6, 0), (7, 1)] else if i = 8 then [(0, 0), (1, 0), (2, 0), (4, 0), (3, 4), (5, 3), (6, 0), (7, 1)] else if i = 10 then [(0, 0), (1, 0), (2, 0), (4, 0), (3, 4), (5, 3), (6, 0), (7, 1)] else if i = 12 then [(0, 0), (1, 0), (2, 0), (4, 0), (7, 0), (3, 4), (5, 4), (6, 0), (8, 1), (9, 0), (10, 1)] else if i = 14 then [(0, 0), (2, 0), (1, 4), (3, 3), (4, 1), (5, 0)] else []
@[push_cast] def Tryz.pl62 : Plans := fun i => []
@[push_cast] def Tryz.pl63 : Plans := fun i => []
@[push_cast] def Tryz.pl64 : Plans := fun i => if i = 4 then [(0, 0), (1, 0), (2, 0), (3, 0), (4, 0), (5, 0), (6, 0)] else []
@[push_cast] def Tryz.pl65 : Plans := fun i => if i = 4 then [(0, 0), (1, 0), (2, 0), (3, 0), (4, 0), (5, 0), (6, 0)] else []
@[push_cast] def Tryz.pl66 : Plans := fun i => []
@[push_cast] def Tryz.pl67 : Plans := fun i => if i = 8 then [(0, 0), (1, 0), (2, 0), (3, 0), (4, 0), (5, 0), (6, 0), (7, 0)] else if i = 9 then [(0, 0), (1, 0), (2, 0), (3, 0), (4, 0), (5, 0), (6, 0), (7, 0), (8, 0), (9, 0), (10, 0), (11, 0)] else []
@[push_cast] def Tryz.pl68 : Plans := fun i => if i = 6 then [(0, 0), (1, 0), (2, 0), (3, 0), (4, 0), (5, 0), (6, 0), (7, 0), (8, 0)] else []
@[push_cast] def Tryz.pl69 : Plans := fun i => []
@[push_cast] def Tryz.pl70 : Plans := fun i => []
@[push_cast] def Tryz.pl71 : Plans := fun i => []
@[push_cast] def Tryz.pl72 : Plans := fun i => []
@[push_cast] def Tryz.pl73 : Plans := fun i => []
@[push_cast] def Tryz.pl74 : Plans := fun i => []
@[push_cast] def Tryz.pl75 : Plans := fun i => []
@[push_cast] def Tryz.pl76 : Plans := fun i => []
@[push_cast] def Tryz.pl77 : Plans := fun i => []
@[push_cast] def Tryz.pl78 : Plans := fun i => if i = 5 then [(0, 0), (1, 0), (2, 0), (3, 0), (4, 0), (5, 0), (6, 0), (7, 0)] else if i = 8 then [(0, 0), (1, 0), (2, 0), (3, 0), (4, 0), (5, 0), (6, 0), (7, 0), (8, 0), (9, 0), (10, 0), (11, 0), (12, 0), (13, 0), (14, 0), (15, 0)] else []
@[push_cast] def Tryz.pl79 : Plans := fun i => []
@[push_cast] def Tryz.pl80 : Plans := fun i => if i = 5 then [(0, 0), (1, 0), (2, 0), (3, 0), (4, 0), (5, 0), (6, 1), (7, 0)] else []
@[push_cast] def Tryz.pl81 : Plans := fun i => if i = 11 then [(0, 0), (1, 0), (2, 0), (3, 0), (4, 0), (5, 0), (6, 0), (7, 0), (8, 1)] else if i = 15 then [(0, 0), (1, 0), (2, 0), (3, 0), (4, 0), (5, 0), (6, 0), (7, 0), (8, 1)] else []
@[push_cast] def Tryz.pl82 : Plans := fun i => if i = 7 then [(0, 0), (1, 0), (2, 0), (3, 0), (4, 0), (5, 0), (6, 0), (7, 0), (8, 0), (9, 0), (10, 0), (11, 2), (12, 0)] else []
@[push_cast] def Tryz.pl83 : Plans := fun i => []
@[push_cast] def Tryz.pl84 : Plans := fun i => []
@[push_cast] def Tryz.pl85 : Plans := fun i => []
@[push_cast] def Tryz.pl87 : Plans := fun i => if i = 4 then [(0, 0), (1, 0), (2, 0), (3, 0), (4, 0), (5, 0), (6, 0), (7, 0), (8, 0), (9, 0), (10, 0), (11, 0), (12, 0)] else []
@[push_cast] def Tryz.pl88 : Plans := fun i => []
@[push_cast] def Tryz.pl89 : Plans := fun i => []
@[push_cast] def Tryz.pl90 : Plans := fun i => []
@[push_cast] def Tryz.pl92 : Plans := fun i => []
@[push_cast] def Tryz.pl93 : Plans := fun i => if i = 6 then [(0, 0), (1, 0), (2, 0), (3, 0), (4, 0), (5, 0), (6, 0)] else if i = 7 then [(0, 0), (1, 0), (2, 0), (3, 0), (4, 0), (5, 0), (6, 0), (7, 0), (8, 0), (9, 0), (10, 0), (11, 0)] else []
@[push_cast] def Tryz.pl94 : Plans := fun i => []
@[push_cast] def Tryz.pl95 : Plans := fun i => if i = 4 then [(0, 0), (1, 0), (2, 0), (3, 0), (4, 0), (5, 0), (6, 0), (7, 0), (8, 0), (9, 0), (10, 0), (11, 0), (12, 0), (13, 0), (14, 0), (15, 0), (16, 0), (17, 0), (18, 0), (19, 0), (20, 0)] else []
@[push_cast] def Tryz.pl96 : Plans := fun i => if i = 4 then [(0, 0), (1, 0), (2, 0), (3, 0), (4, 0), (5, 0), (6, 0)] else if i = 6 then [(0, 0), (1, 0), (2, 0), (3, 0), (4, 0), (5, 0), (6, 0)] else []
@[push_cast] def Tryz.pl97 : Plans := fun i => []
@[push_cast] def Tryz.pl98 : Plans := fun i => []
@[push_cast] def Tryz.pl99 : Plans := fun i => []
@[push_cast] def Tryz.pl100 : Plans := fun i => if i = 1 then [(0, 0), (2, 0), (1, 2), (3, 2), (4, 0), (5, 0)] else []
@[push_cast] def Tryz.pl101 : Plans := fun i => if i = 0 then [(0, 0), (1, 0), (2, 0), (3, 0), (4, 0), (5, 0)] else if i = 3 then [(0, 0), (1, 0), (2, 0), (3, 0), (4, 0), (5, 0), (6, 0), (7, 0), (8, 0), (9, 0), (10, 0), (11, 0)] else if i = 10 then [(0, 0), (1, 0), (2, 0), (3, 0), (4, 0), (5, 0), (6, 0), (8, 0), (9, 0), (10, 0), (7, 4), (11, 3), (12, 0), (13, 1), (14, 0)] else if i = 12 then [(0, 0), (1, 0), (2, 0), (3, 0), (4, 0), (5, 0), (6, 0), (8, 0), (9, 0), (10, 0), (7, 4), (11, 3), (12, 0), (13, 1), (14, 0), (15, 1), (16, 0)] else []
@[push_cast] def Tryz.pl102 : Plans := fun i => if i = 3 then [(0, 0), (1, 0), (2, 0), (3, 0), (4, 0), (5, 0), (6, 0), (7, 0), (8, 0), (9, 0), (10, 0), (11, 0), (12, 0), (13, 1), (14, 0), (15, 1)] else []
@[push_cast] def Tryz.pl103 : Plans := fun i => []
@[push_cast] def Tryz.pl104 : Plans := fun i => []
@[push_cast] def Tryz.pl105 : Plans := fun i => []
@[push_cast] def Tryz.pl106 : Plans := fun i => []
@[push_cast] def Tryz.pl107 : Plans := fun i => if i = 3 then [(0, 0), (1, 0), (2, 0), (3, 0), (4, 0), (5, 0), (6, 0), (7, 0), (8, 0), (9, 0), (10, 0), (11, 0), (12, 0), (13, 1), (14, 0), (15, 1)] else []
@[push_cast] def Tryz.pl108 : Plans := fun i => []
theorem Tryz.mix : Tryz.prog.follows .mixedOrders = true := by kernel_rfl
end Go.Proofs
