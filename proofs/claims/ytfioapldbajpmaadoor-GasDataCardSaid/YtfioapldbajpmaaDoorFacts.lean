/- What the types of this seat's program are to the evaluator: written by program (wip/tools/Gen.lean). -/
import Derived.Test.YtfioapldbajpmaaDoorE3
import Derived.Test.YtfioapldbajpmaaDoorRows
import Derived.KernelRfl
set_option linter.unusedSimpArgs false
set_option linter.unusedVariables false
namespace Go.Proofs
open Go Go.Ev
@[push_cast] theorem Tryd.ty0 : tyI Tryd.prog 0 = some (1, false) := by kernel_rfl
@[push_cast] theorem Tryd.el0 : elemI Tryd.prog 0 = none := by kernel_rfl
attribute [push_cast] Tryd.underlying0
@[push_cast] theorem Tryd.in0 : intI Tryd.prog 0 = none := by kernel_rfl
@[push_cast] theorem Tryd.st0 : isStr Tryd.prog 0 = false := by kernel_rfl
@[push_cast] theorem Tryd.by0 : isBytes Tryd.prog 0 = false := by kernel_rfl
@[push_cast] theorem Tryd.ty1 : tyI Tryd.prog 1 = some (1, false) := by kernel_rfl
@[push_cast] theorem Tryd.zl1 : zeroL Tryd.prog 1 = some [.nilFunc] := by kernel_rfl
@[push_cast] theorem Tryd.el1 : elemI Tryd.prog 1 = none := by kernel_rfl
attribute [push_cast] Tryd.underlying1
@[push_cast] theorem Tryd.in1 : intI Tryd.prog 1 = none := by kernel_rfl
@[push_cast] theorem Tryd.st1 : isStr Tryd.prog 1 = false := by kernel_rfl
@[push_cast] theorem Tryd.by1 : isBytes Tryd.prog 1 = false := by kernel_rfl
@[push_cast] theorem Tryd.ty2 : tyI Tryd.prog 2 = some (1, false) := by kernel_rfl
@[push_cast] theorem Tryd.zl2 : zeroL Tryd.prog 2 = some [.int .i64 0] := by kernel_rfl
@[push_cast] theorem Tryd.el2 : elemI Tryd.prog 2 = none := by kernel_rfl
attribute [push_cast] Tryd.underlying2
@[push_cast] theorem Tryd.in2 : intI Tryd.prog 2 = some .i64 := by kernel_rfl
@[push_cast] theorem Tryd.st2 : isStr Tryd.prog 2 = false := by kernel_rfl
@[push_cast] theorem Tryd.by2 : isBytes Tryd.prog 2 = false := by kernel_rfl
@[push_cast] theorem Tryd.ty3 : tyI Tryd.prog 3 = some (1, false) := by kernel_rfl
@[push_cast] theorem Tryd.zl3 : zeroL Tryd.prog 3 = some [.int .i64 0] := by kernel_rfl
@[push_cast] theorem Tryd.el3 : elemI Tryd.prog 3 = none := by kernel_rfl
attribute [push_cast] Tryd.underlying3
@[push_cast] theorem Tryd.in3 : intI Tryd.prog 3 = some .i64 := by kernel_rfl
@[push_cast] theorem Tryd.st3 : isStr Tryd.prog 3 = false := by kernel_rfl
@[push_cast] theorem Tryd.by3 : isBytes Tryd.prog 3 = false := by kernel_rfl
@[push_cast] theorem Tryd.ty4 : tyI Tryd.prog 4 = some (1, false) := by kernel_rfl
@[push_cast] theorem Tryd.zl4 : zeroL Tryd.prog 4 = some [.bool false] := by kernel_rfl
@[push_cast] theorem Tryd.el4 : elemI Tryd.prog 4 = none := by kernel_rfl
attribute [push_cast] Tryd.underlying4
@[push_cast] theorem Tryd.in4 : intI Tryd.prog 4 = none := by kernel_rfl
@[push_cast] theorem Tryd.st4 : isStr Tryd.prog 4 = false := by kernel_rfl
@[push_cast] theorem Tryd.by4 : isBytes Tryd.prog 4 = false := by kernel_rfl
@[push_cast] theorem Tryd.ty5 : tyI Tryd.prog 5 = some (1, false) := by kernel_rfl
@[push_cast] theorem Tryd.zl5 : zeroL Tryd.prog 5 = some [.int .u8 0] := by kernel_rfl
@[push_cast] theorem Tryd.el5 : elemI Tryd.prog 5 = none := by kernel_rfl
attribute [push_cast] Tryd.underlying5
@[push_cast] theorem Tryd.in5 : intI Tryd.prog 5 = some .u8 := by kernel_rfl
@[push_cast] theorem Tryd.st5 : isStr Tryd.prog 5 = false := by kernel_rfl
@[push_cast] theorem Tryd.by5 : isBytes Tryd.prog 5 = false := by kernel_rfl
@[push_cast] theorem Tryd.ty6 : tyI Tryd.prog 6 = some (1, false) := by kernel_rfl
@[push_cast] theorem Tryd.zl6 : zeroL Tryd.prog 6 = some [.int .u8 0] := by kernel_rfl
@[push_cast] theorem Tryd.el6 : elemI Tryd.prog 6 = none := by kernel_rfl
attribute [push_cast] Tryd.underlying6
@[push_cast] theorem Tryd.in6 : intI Tryd.prog 6 = some .u8 := by kernel_rfl
@[push_cast] theorem Tryd.st6 : isStr Tryd.prog 6 = false := by kernel_rfl
@[push_cast] theorem Tryd.by6 : isBytes Tryd.prog 6 = false := by kernel_rfl
@[push_cast] theorem Tryd.ty7 : tyI Tryd.prog 7 = some (4, true) := by kernel_rfl
@[push_cast] theorem Tryd.zl7 : zeroL Tryd.prog 7 = some [.int .i64 0, .int .i64 0, .bool false, .int .u8 0] := by kernel_rfl
@[push_cast] theorem Tryd.el7 : elemI Tryd.prog 7 = none := by kernel_rfl
attribute [push_cast] Tryd.underlying7
@[push_cast] theorem Tryd.in7 : intI Tryd.prog 7 = none := by kernel_rfl
@[push_cast] theorem Tryd.st7 : isStr Tryd.prog 7 = false := by kernel_rfl
@[push_cast] theorem Tryd.by7 : isBytes Tryd.prog 7 = false := by kernel_rfl
@[push_cast] theorem Tryd.fi7_0 : fieldI Tryd.prog 7 0 = some (0, 1, false) := by kernel_rfl
@[push_cast] theorem Tryd.pl7_0 : placeOf Tryd.prog 7 0 = some (0, 1) := by kernel_rfl
@[push_cast] theorem Tryd.fi7_1 : fieldI Tryd.prog 7 1 = some (1, 1, false) := by kernel_rfl
@[push_cast] theorem Tryd.pl7_1 : placeOf Tryd.prog 7 1 = some (1, 1) := by kernel_rfl
@[push_cast] theorem Tryd.fi7_2 : fieldI Tryd.prog 7 2 = some (2, 1, false) := by kernel_rfl
@[push_cast] theorem Tryd.pl7_2 : placeOf Tryd.prog 7 2 = some (2, 1) := by kernel_rfl
@[push_cast] theorem Tryd.fi7_3 : fieldI Tryd.prog 7 3 = some (3, 1, false) := by kernel_rfl
@[push_cast] theorem Tryd.pl7_3 : placeOf Tryd.prog 7 3 = some (3, 1) := by kernel_rfl
@[push_cast] theorem Tryd.fo7 : fieldsOk Tryd.prog 7 = true := by kernel_rfl
@[push_cast] theorem Tryd.fk7 : flatK Tryd.prog 12 7 = some [.i, .i, .b, .i] := by kernel_rfl
@[push_cast] theorem Tryd.eg7 : Program.eqGuardType Tryd.prog (Program.depth Tryd.prog) 7 = false := by kernel_rfl
@[push_cast] theorem Tryd.ty8 : tyI Tryd.prog 8 = some (4, true) := by kernel_rfl
@[push_cast] theorem Tryd.zl8 : zeroL Tryd.prog 8 = some [.int .i64 0, .int .i64 0, .bool false, .int .u8 0] := by kernel_rfl
@[push_cast] theorem Tryd.el8 : elemI Tryd.prog 8 = none := by kernel_rfl
attribute [push_cast] Tryd.underlying8
@[push_cast] theorem Tryd.in8 : intI Tryd.prog 8 = none := by kernel_rfl
@[push_cast] theorem Tryd.st8 : isStr Tryd.prog 8 = false := by kernel_rfl
@[push_cast] theorem Tryd.by8 : isBytes Tryd.prog 8 = false := by kernel_rfl
@[push_cast] theorem Tryd.fi8_0 : fieldI Tryd.prog 8 0 = some (0, 1, false) := by kernel_rfl
@[push_cast] theorem Tryd.pl8_0 : placeOf Tryd.prog 8 0 = some (0, 1) := by kernel_rfl
@[push_cast] theorem Tryd.fi8_1 : fieldI Tryd.prog 8 1 = some (1, 1, false) := by kernel_rfl
@[push_cast] theorem Tryd.pl8_1 : placeOf Tryd.prog 8 1 = some (1, 1) := by kernel_rfl
@[push_cast] theorem Tryd.fi8_2 : fieldI Tryd.prog 8 2 = some (2, 1, false) := by kernel_rfl
@[push_cast] theorem Tryd.pl8_2 : placeOf Tryd.prog 8 2 = some (2, 1) := by kernel_rfl
@[push_cast] theorem Tryd.fi8_3 : fieldI Tryd.prog 8 3 = some (3, 1, false) := by kernel_rfl
@[push_cast] theorem Tryd.pl8_3 : placeOf Tryd.prog 8 3 = some (3, 1) := by kernel_rfl
@[push_cast] theorem Tryd.fo8 : fieldsOk Tryd.prog 8 = true := by kernel_rfl
@[push_cast] theorem Tryd.fk8 : flatK Tryd.prog 12 8 = some [.i, .i, .b, .i] := by kernel_rfl
@[push_cast] theorem Tryd.eg8 : Program.eqGuardType Tryd.prog (Program.depth Tryd.prog) 8 = false := by kernel_rfl
@[push_cast] theorem Tryd.ty9 : tyI Tryd.prog 9 = some (1, false) := by kernel_rfl
@[push_cast] theorem Tryd.zl9 : zeroL Tryd.prog 9 = some [.string ByteArray.empty] := by kernel_rfl
@[push_cast] theorem Tryd.el9 : elemI Tryd.prog 9 = none := by kernel_rfl
attribute [push_cast] Tryd.underlying9
@[push_cast] theorem Tryd.in9 : intI Tryd.prog 9 = none := by kernel_rfl
@[push_cast] theorem Tryd.st9 : isStr Tryd.prog 9 = true := by kernel_rfl
@[push_cast] theorem Tryd.by9 : isBytes Tryd.prog 9 = false := by kernel_rfl
@[push_cast] theorem Tryd.ty10 : tyI Tryd.prog 10 = some (1, false) := by kernel_rfl
@[push_cast] theorem Tryd.zl10 : zeroL Tryd.prog 10 = some [.string ByteArray.empty] := by kernel_rfl
@[push_cast] theorem Tryd.el10 : elemI Tryd.prog 10 = none := by kernel_rfl
attribute [push_cast] Tryd.underlying10
@[push_cast] theorem Tryd.in10 : intI Tryd.prog 10 = none := by kernel_rfl
@[push_cast] theorem Tryd.st10 : isStr Tryd.prog 10 = true := by kernel_rfl
@[push_cast] theorem Tryd.by10 : isBytes Tryd.prog 10 = false := by kernel_rfl
@[push_cast] theorem Tryd.ty11 : tyI Tryd.prog 11 = some (1, false) := by kernel_rfl
@[push_cast] theorem Tryd.zl11 : zeroL Tryd.prog 11 = some [.string ByteArray.empty] := by kernel_rfl
@[push_cast] theorem Tryd.el11 : elemI Tryd.prog 11 = none := by kernel_rfl
attribute [push_cast] Tryd.underlying11
@[push_cast] theorem Tryd.in11 : intI Tryd.prog 11 = none := by kernel_rfl
@[push_cast] theorem Tryd.st11 : isStr Tryd.prog 11 = true := by kernel_rfl
@[push_cast] theorem Tryd.by11 : isBytes Tryd.prog 11 = false := by kernel_rfl
@[push_cast] theorem Tryd.ty12 : tyI Tryd.prog 12 = some (1, false) := by kernel_rfl
@[push_cast] theorem Tryd.zl12 : zeroL Tryd.prog 12 = some [.int .u64 0] := by kernel_rfl
@[push_cast] theorem Tryd.el12 : elemI Tryd.prog 12 = none := by kernel_rfl
attribute [push_cast] Tryd.underlying12
@[push_cast] theorem Tryd.in12 : intI Tryd.prog 12 = some .u64 := by kernel_rfl
@[push_cast] theorem Tryd.st12 : isStr Tryd.prog 12 = false := by kernel_rfl
@[push_cast] theorem Tryd.by12 : isBytes Tryd.prog 12 = false := by kernel_rfl
@[push_cast] theorem Tryd.ty13 : tyI Tryd.prog 13 = some (2, true) := by kernel_rfl
@[push_cast] theorem Tryd.zl13 : zeroL Tryd.prog 13 = some [.string ByteArray.empty, .int .u64 0] := by kernel_rfl
@[push_cast] theorem Tryd.el13 : elemI Tryd.prog 13 = none := by kernel_rfl
attribute [push_cast] Tryd.underlying13
@[push_cast] theorem Tryd.in13 : intI Tryd.prog 13 = none := by kernel_rfl
@[push_cast] theorem Tryd.st13 : isStr Tryd.prog 13 = false := by kernel_rfl
@[push_cast] theorem Tryd.by13 : isBytes Tryd.prog 13 = false := by kernel_rfl
@[push_cast] theorem Tryd.fi13_0 : fieldI Tryd.prog 13 0 = some (0, 1, false) := by kernel_rfl
@[push_cast] theorem Tryd.pl13_0 : placeOf Tryd.prog 13 0 = some (0, 1) := by kernel_rfl
@[push_cast] theorem Tryd.fi13_1 : fieldI Tryd.prog 13 1 = some (1, 1, false) := by kernel_rfl
@[push_cast] theorem Tryd.pl13_1 : placeOf Tryd.prog 13 1 = some (1, 1) := by kernel_rfl
@[push_cast] theorem Tryd.fo13 : fieldsOk Tryd.prog 13 = true := by kernel_rfl
@[push_cast] theorem Tryd.ty14 : tyI Tryd.prog 14 = some (2, true) := by kernel_rfl
@[push_cast] theorem Tryd.zl14 : zeroL Tryd.prog 14 = some [.string ByteArray.empty, .int .u64 0] := by kernel_rfl
@[push_cast] theorem Tryd.el14 : elemI Tryd.prog 14 = none := by kernel_rfl
attribute [push_cast] Tryd.underlying14
@[push_cast] theorem Tryd.in14 : intI Tryd.prog 14 = none := by kernel_rfl
@[push_cast] theorem Tryd.st14 : isStr Tryd.prog 14 = false := by kernel_rfl
@[push_cast] theorem Tryd.by14 : isBytes Tryd.prog 14 = false := by kernel_rfl
@[push_cast] theorem Tryd.fi14_0 : fieldI Tryd.prog 14 0 = some (0, 1, false) := by kernel_rfl
@[push_cast] theorem Tryd.pl14_0 : placeOf Tryd.prog 14 0 = some (0, 1) := by kernel_rfl
@[push_cast] theorem Tryd.fi14_1 : fieldI Tryd.prog 14 1 = some (1, 1, false) := by kernel_rfl
@[push_cast] theorem Tryd.pl14_1 : placeOf Tryd.prog 14 1 = some (1, 1) := by kernel_rfl
@[push_cast] theorem Tryd.fo14 : fieldsOk Tryd.prog 14 = true := by kernel_rfl
@[push_cast] theorem Tryd.ty15 : tyI Tryd.prog 15 = some (1, false) := by kernel_rfl
@[push_cast] theorem Tryd.zl15 : zeroL Tryd.prog 15 = some [.pointer none] := by kernel_rfl
@[push_cast] theorem Tryd.el15 : elemI Tryd.prog 15 = none := by kernel_rfl
attribute [push_cast] Tryd.underlying15
@[push_cast] theorem Tryd.in15 : intI Tryd.prog 15 = none := by kernel_rfl
@[push_cast] theorem Tryd.st15 : isStr Tryd.prog 15 = false := by kernel_rfl
@[push_cast] theorem Tryd.by15 : isBytes Tryd.prog 15 = false := by kernel_rfl
@[push_cast] theorem Tryd.ty16 : tyI Tryd.prog 16 = some (1, false) := by kernel_rfl
@[push_cast] theorem Tryd.zl16 : zeroL Tryd.prog 16 = some [.pointer none] := by kernel_rfl
@[push_cast] theorem Tryd.el16 : elemI Tryd.prog 16 = none := by kernel_rfl
attribute [push_cast] Tryd.underlying16
@[push_cast] theorem Tryd.in16 : intI Tryd.prog 16 = none := by kernel_rfl
@[push_cast] theorem Tryd.st16 : isStr Tryd.prog 16 = false := by kernel_rfl
@[push_cast] theorem Tryd.by16 : isBytes Tryd.prog 16 = false := by kernel_rfl
@[push_cast] theorem Tryd.ty17 : tyI Tryd.prog 17 = some (1, false) := by kernel_rfl
@[push_cast] theorem Tryd.zl17 : zeroL Tryd.prog 17 = some [.pointer none] := by kernel_rfl
@[push_cast] theorem Tryd.el17 : elemI Tryd.prog 17 = none := by kernel_rfl
attribute [push_cast] Tryd.underlying17
@[push_cast] theorem Tryd.in17 : intI Tryd.prog 17 = none := by kernel_rfl
@[push_cast] theorem Tryd.st17 : isStr Tryd.prog 17 = false := by kernel_rfl
@[push_cast] theorem Tryd.by17 : isBytes Tryd.prog 17 = false := by kernel_rfl
@[push_cast] theorem Tryd.ty18 : tyI Tryd.prog 18 = some (1, true) := by kernel_rfl
@[push_cast] theorem Tryd.zl18 : zeroL Tryd.prog 18 = some [.pointer none] := by kernel_rfl
@[push_cast] theorem Tryd.el18 : elemI Tryd.prog 18 = none := by kernel_rfl
attribute [push_cast] Tryd.underlying18
@[push_cast] theorem Tryd.in18 : intI Tryd.prog 18 = none := by kernel_rfl
@[push_cast] theorem Tryd.st18 : isStr Tryd.prog 18 = false := by kernel_rfl
@[push_cast] theorem Tryd.by18 : isBytes Tryd.prog 18 = false := by kernel_rfl
@[push_cast] theorem Tryd.fi18_0 : fieldI Tryd.prog 18 0 = some (0, 1, false) := by kernel_rfl
@[push_cast] theorem Tryd.pl18_0 : placeOf Tryd.prog 18 0 = some (0, 1) := by kernel_rfl
@[push_cast] theorem Tryd.fo18 : fieldsOk Tryd.prog 18 = true := by kernel_rfl
@[push_cast] theorem Tryd.ty19 : tyI Tryd.prog 19 = some (1, true) := by kernel_rfl
@[push_cast] theorem Tryd.zl19 : zeroL Tryd.prog 19 = some [.pointer none] := by kernel_rfl
@[push_cast] theorem Tryd.el19 : elemI Tryd.prog 19 = none := by kernel_rfl
attribute [push_cast] Tryd.underlying19
@[push_cast] theorem Tryd.in19 : intI Tryd.prog 19 = none := by kernel_rfl
@[push_cast] theorem Tryd.st19 : isStr Tryd.prog 19 = false := by kernel_rfl
@[push_cast] theorem Tryd.by19 : isBytes Tryd.prog 19 = false := by kernel_rfl
@[push_cast] theorem Tryd.fi19_0 : fieldI Tryd.prog 19 0 = some (0, 1, false) := by kernel_rfl
@[push_cast] theorem Tryd.pl19_0 : placeOf Tryd.prog 19 0 = some (0, 1) := by kernel_rfl
@[push_cast] theorem Tryd.fo19 : fieldsOk Tryd.prog 19 = true := by kernel_rfl
@[push_cast] theorem Tryd.ty20 : tyI Tryd.prog 20 = some (1, false) := by kernel_rfl
@[push_cast] theorem Tryd.zl20 : zeroL Tryd.prog 20 = some [.nilIface] := by kernel_rfl
@[push_cast] theorem Tryd.el20 : elemI Tryd.prog 20 = none := by kernel_rfl
attribute [push_cast] Tryd.underlying20
@[push_cast] theorem Tryd.in20 : intI Tryd.prog 20 = none := by kernel_rfl
@[push_cast] theorem Tryd.st20 : isStr Tryd.prog 20 = false := by kernel_rfl
@[push_cast] theorem Tryd.by20 : isBytes Tryd.prog 20 = false := by kernel_rfl
@[push_cast] theorem Tryd.ty21 : tyI Tryd.prog 21 = some (1, false) := by kernel_rfl
@[push_cast] theorem Tryd.zl21 : zeroL Tryd.prog 21 = some [.int .i32 0] := by kernel_rfl
@[push_cast] theorem Tryd.el21 : elemI Tryd.prog 21 = none := by kernel_rfl
attribute [push_cast] Tryd.underlying21
@[push_cast] theorem Tryd.in21 : intI Tryd.prog 21 = some .i32 := by kernel_rfl
@[push_cast] theorem Tryd.st21 : isStr Tryd.prog 21 = false := by kernel_rfl
@[push_cast] theorem Tryd.by21 : isBytes Tryd.prog 21 = false := by kernel_rfl
@[push_cast] theorem Tryd.ty22 : tyI Tryd.prog 22 = some (1, false) := by kernel_rfl
@[push_cast] theorem Tryd.zl22 : zeroL Tryd.prog 22 = some [.int .u64 0] := by kernel_rfl
@[push_cast] theorem Tryd.el22 : elemI Tryd.prog 22 = none := by kernel_rfl
attribute [push_cast] Tryd.underlying22
@[push_cast] theorem Tryd.in22 : intI Tryd.prog 22 = some .u64 := by kernel_rfl
@[push_cast] theorem Tryd.st22 : isStr Tryd.prog 22 = false := by kernel_rfl
@[push_cast] theorem Tryd.by22 : isBytes Tryd.prog 22 = false := by kernel_rfl
@[push_cast] theorem Tryd.ty23 : tyI Tryd.prog 23 = some (4, true) := by kernel_rfl
@[push_cast] theorem Tryd.zl23 : zeroL Tryd.prog 23 = some [.int .u64 0, .int .u64 0, .int .u64 0, .int .u64 0] := by kernel_rfl
@[push_cast] theorem Tryd.el23 : elemI Tryd.prog 23 = some (some 4, 1, false) := by kernel_rfl
attribute [push_cast] Tryd.underlying23
@[push_cast] theorem Tryd.in23 : intI Tryd.prog 23 = none := by kernel_rfl
@[push_cast] theorem Tryd.st23 : isStr Tryd.prog 23 = false := by kernel_rfl
@[push_cast] theorem Tryd.by23 : isBytes Tryd.prog 23 = false := by kernel_rfl
@[push_cast] theorem Tryd.pl23_0 : placeOf Tryd.prog 23 0 = some (0, 1) := by kernel_rfl
@[push_cast] theorem Tryd.pl23_1 : placeOf Tryd.prog 23 1 = some (1, 1) := by kernel_rfl
@[push_cast] theorem Tryd.pl23_2 : placeOf Tryd.prog 23 2 = some (2, 1) := by kernel_rfl
@[push_cast] theorem Tryd.pl23_3 : placeOf Tryd.prog 23 3 = some (3, 1) := by kernel_rfl
@[push_cast] theorem Tryd.fo23 : fieldsOk Tryd.prog 23 = true := by kernel_rfl
@[push_cast] theorem Tryd.fk23 : flatK Tryd.prog 12 23 = some [.i, .i, .i, .i] := by kernel_rfl
@[push_cast] theorem Tryd.eg23 : Program.eqGuardType Tryd.prog (Program.depth Tryd.prog) 23 = false := by kernel_rfl
@[push_cast] theorem Tryd.ty24 : tyI Tryd.prog 24 = some (4, true) := by kernel_rfl
@[push_cast] theorem Tryd.zl24 : zeroL Tryd.prog 24 = some [.int .u64 0, .int .u64 0, .int .u64 0, .int .u64 0] := by kernel_rfl
@[push_cast] theorem Tryd.el24 : elemI Tryd.prog 24 = some (some 4, 1, false) := by kernel_rfl
attribute [push_cast] Tryd.underlying24
@[push_cast] theorem Tryd.in24 : intI Tryd.prog 24 = none := by kernel_rfl
@[push_cast] theorem Tryd.st24 : isStr Tryd.prog 24 = false := by kernel_rfl
@[push_cast] theorem Tryd.by24 : isBytes Tryd.prog 24 = false := by kernel_rfl
@[push_cast] theorem Tryd.pl24_0 : placeOf Tryd.prog 24 0 = some (0, 1) := by kernel_rfl
@[push_cast] theorem Tryd.pl24_1 : placeOf Tryd.prog 24 1 = some (1, 1) := by kernel_rfl
@[push_cast] theorem Tryd.pl24_2 : placeOf Tryd.prog 24 2 = some (2, 1) := by kernel_rfl
@[push_cast] theorem Tryd.pl24_3 : placeOf Tryd.prog 24 3 = some (3, 1) := by kernel_rfl
@[push_cast] theorem Tryd.fo24 : fieldsOk Tryd.prog 24 = true := by kernel_rfl
@[push_cast] theorem Tryd.fk24 : flatK Tryd.prog 12 24 = some [.i, .i, .i, .i] := by kernel_rfl
@[push_cast] theorem Tryd.eg24 : Program.eqGuardType Tryd.prog (Program.depth Tryd.prog) 24 = false := by kernel_rfl
@[push_cast] theorem Tryd.ty25 : tyI Tryd.prog 25 = some (3, true) := by kernel_rfl
@[push_cast] theorem Tryd.zl25 : zeroL Tryd.prog 25 = some [.bool false, .bool false, .bool false] := by kernel_rfl
@[push_cast] theorem Tryd.el25 : elemI Tryd.prog 25 = some (some 3, 1, false) := by kernel_rfl
attribute [push_cast] Tryd.underlying25
@[push_cast] theorem Tryd.in25 : intI Tryd.prog 25 = none := by kernel_rfl
@[push_cast] theorem Tryd.st25 : isStr Tryd.prog 25 = false := by kernel_rfl
@[push_cast] theorem Tryd.by25 : isBytes Tryd.prog 25 = false := by kernel_rfl
@[push_cast] theorem Tryd.pl25_0 : placeOf Tryd.prog 25 0 = some (0, 1) := by kernel_rfl
@[push_cast] theorem Tryd.pl25_1 : placeOf Tryd.prog 25 1 = some (1, 1) := by kernel_rfl
@[push_cast] theorem Tryd.pl25_2 : placeOf Tryd.prog 25 2 = some (2, 1) := by kernel_rfl
@[push_cast] theorem Tryd.fo25 : fieldsOk Tryd.prog 25 = true := by kernel_rfl
@[push_cast] theorem Tryd.fk25 : flatK Tryd.prog 12 25 = some [.b, .b, .b] := by kernel_rfl
@[push_cast] theorem Tryd.eg25 : Program.eqGuardType Tryd.prog (Program.depth Tryd.prog) 25 = false := by kernel_rfl
@[push_cast] theorem Tryd.ty26 : tyI Tryd.prog 26 = some (1, false) := by kernel_rfl
@[push_cast] theorem Tryd.zl26 : zeroL Tryd.prog 26 = some [.slice none 0 0] := by kernel_rfl
@[push_cast] theorem Tryd.el26 : elemI Tryd.prog 26 = some (none, 2, true) := by kernel_rfl
@[push_cast] theorem Tryd.sl26 : slI Tryd.prog 26 = some (88, 2, 16) := by kernel_rfl
attribute [push_cast] Tryd.underlying26
@[push_cast] theorem Tryd.in26 : intI Tryd.prog 26 = none := by kernel_rfl
@[push_cast] theorem Tryd.st26 : isStr Tryd.prog 26 = false := by kernel_rfl
@[push_cast] theorem Tryd.by26 : isBytes Tryd.prog 26 = false := by kernel_rfl
@[push_cast] theorem Tryd.ty27 : tyI Tryd.prog 27 = some (2, true) := by kernel_rfl
@[push_cast] theorem Tryd.zl27 : zeroL Tryd.prog 27 = some [.slice none 0 0, .slice none 0 0] := by kernel_rfl
@[push_cast] theorem Tryd.el27 : elemI Tryd.prog 27 = some (some 2, 1, false) := by kernel_rfl
attribute [push_cast] Tryd.underlying27
@[push_cast] theorem Tryd.in27 : intI Tryd.prog 27 = none := by kernel_rfl
@[push_cast] theorem Tryd.st27 : isStr Tryd.prog 27 = false := by kernel_rfl
@[push_cast] theorem Tryd.by27 : isBytes Tryd.prog 27 = false := by kernel_rfl
@[push_cast] theorem Tryd.pl27_0 : placeOf Tryd.prog 27 0 = some (0, 1) := by kernel_rfl
@[push_cast] theorem Tryd.pl27_1 : placeOf Tryd.prog 27 1 = some (1, 1) := by kernel_rfl
@[push_cast] theorem Tryd.fo27 : fieldsOk Tryd.prog 27 = true := by kernel_rfl
@[push_cast] theorem Tryd.ty28 : tyI Tryd.prog 28 = some (1, false) := by kernel_rfl
@[push_cast] theorem Tryd.zl28 : zeroL Tryd.prog 28 = some [.slice none 0 0] := by kernel_rfl
@[push_cast] theorem Tryd.el28 : elemI Tryd.prog 28 = some (none, 25, true) := by kernel_rfl
@[push_cast] theorem Tryd.sl28 : slI Tryd.prog 28 = some (58, 25, 56) := by kernel_rfl
attribute [push_cast] Tryd.underlying28
@[push_cast] theorem Tryd.in28 : intI Tryd.prog 28 = none := by kernel_rfl
@[push_cast] theorem Tryd.st28 : isStr Tryd.prog 28 = false := by kernel_rfl
@[push_cast] theorem Tryd.by28 : isBytes Tryd.prog 28 = false := by kernel_rfl
@[push_cast] theorem Tryd.ty29 : tyI Tryd.prog 29 = some (2, true) := by kernel_rfl
@[push_cast] theorem Tryd.zl29 : zeroL Tryd.prog 29 = some [.slice none 0 0, .slice none 0 0] := by kernel_rfl
@[push_cast] theorem Tryd.el29 : elemI Tryd.prog 29 = none := by kernel_rfl
attribute [push_cast] Tryd.underlying29
@[push_cast] theorem Tryd.in29 : intI Tryd.prog 29 = none := by kernel_rfl
@[push_cast] theorem Tryd.st29 : isStr Tryd.prog 29 = false := by kernel_rfl
@[push_cast] theorem Tryd.by29 : isBytes Tryd.prog 29 = false := by kernel_rfl
@[push_cast] theorem Tryd.fi29_0 : fieldI Tryd.prog 29 0 = some (0, 1, false) := by kernel_rfl
@[push_cast] theorem Tryd.pl29_0 : placeOf Tryd.prog 29 0 = some (0, 1) := by kernel_rfl
@[push_cast] theorem Tryd.fi29_1 : fieldI Tryd.prog 29 1 = some (1, 1, false) := by kernel_rfl
@[push_cast] theorem Tryd.pl29_1 : placeOf Tryd.prog 29 1 = some (1, 1) := by kernel_rfl
@[push_cast] theorem Tryd.fo29 : fieldsOk Tryd.prog 29 = true := by kernel_rfl
@[push_cast] theorem Tryd.ty30 : tyI Tryd.prog 30 = some (2, true) := by kernel_rfl
@[push_cast] theorem Tryd.zl30 : zeroL Tryd.prog 30 = some [.slice none 0 0, .slice none 0 0] := by kernel_rfl
@[push_cast] theorem Tryd.el30 : elemI Tryd.prog 30 = none := by kernel_rfl
attribute [push_cast] Tryd.underlying30
@[push_cast] theorem Tryd.in30 : intI Tryd.prog 30 = none := by kernel_rfl
@[push_cast] theorem Tryd.st30 : isStr Tryd.prog 30 = false := by kernel_rfl
@[push_cast] theorem Tryd.by30 : isBytes Tryd.prog 30 = false := by kernel_rfl
@[push_cast] theorem Tryd.fi30_0 : fieldI Tryd.prog 30 0 = some (0, 1, false) := by kernel_rfl
@[push_cast] theorem Tryd.pl30_0 : placeOf Tryd.prog 30 0 = some (0, 1) := by kernel_rfl
@[push_cast] theorem Tryd.fi30_1 : fieldI Tryd.prog 30 1 = some (1, 1, false) := by kernel_rfl
@[push_cast] theorem Tryd.pl30_1 : placeOf Tryd.prog 30 1 = some (1, 1) := by kernel_rfl
@[push_cast] theorem Tryd.fo30 : fieldsOk Tryd.prog 30 = true := by kernel_rfl
@[push_cast] theorem Tryd.ty31 : tyI Tryd.prog 31 = some (1, false) := by kernel_rfl
@[push_cast] theorem Tryd.zl31 : zeroL Tryd.prog 31 = some [.nilFunc] := by kernel_rfl
@[push_cast] theorem Tryd.el31 : elemI Tryd.prog 31 = none := by kernel_rfl
attribute [push_cast] Tryd.underlying31
@[push_cast] theorem Tryd.in31 : intI Tryd.prog 31 = none := by kernel_rfl
@[push_cast] theorem Tryd.st31 : isStr Tryd.prog 31 = false := by kernel_rfl
@[push_cast] theorem Tryd.by31 : isBytes Tryd.prog 31 = false := by kernel_rfl
@[push_cast] theorem Tryd.ty32 : tyI Tryd.prog 32 = some (1, false) := by kernel_rfl
@[push_cast] theorem Tryd.zl32 : zeroL Tryd.prog 32 = some [.nilFunc] := by kernel_rfl
@[push_cast] theorem Tryd.el32 : elemI Tryd.prog 32 = none := by kernel_rfl
attribute [push_cast] Tryd.underlying32
@[push_cast] theorem Tryd.in32 : intI Tryd.prog 32 = none := by kernel_rfl
@[push_cast] theorem Tryd.st32 : isStr Tryd.prog 32 = false := by kernel_rfl
@[push_cast] theorem Tryd.by32 : isBytes Tryd.prog 32 = false := by kernel_rfl
@[push_cast] theorem Tryd.ty33 : tyI Tryd.prog 33 = some (1, false) := by kernel_rfl
@[push_cast] theorem Tryd.zl33 : zeroL Tryd.prog 33 = some [.slice none 0 0] := by kernel_rfl
@[push_cast] theorem Tryd.el33 : elemI Tryd.prog 33 = some (none, 1, false) := by kernel_rfl
@[push_cast] theorem Tryd.sl33 : slI Tryd.prog 33 = some (3, 1, 8) := by kernel_rfl
attribute [push_cast] Tryd.underlying33
@[push_cast] theorem Tryd.in33 : intI Tryd.prog 33 = none := by kernel_rfl
@[push_cast] theorem Tryd.st33 : isStr Tryd.prog 33 = false := by kernel_rfl
@[push_cast] theorem Tryd.by33 : isBytes Tryd.prog 33 = false := by kernel_rfl
@[push_cast] theorem Tryd.ty34 : tyI Tryd.prog 34 = some (1, false) := by kernel_rfl
@[push_cast] theorem Tryd.zl34 : zeroL Tryd.prog 34 = some [.nilFunc] := by kernel_rfl
@[push_cast] theorem Tryd.el34 : elemI Tryd.prog 34 = none := by kernel_rfl
attribute [push_cast] Tryd.underlying34
@[push_cast] theorem Tryd.in34 : intI Tryd.prog 34 = none := by kernel_rfl
@[push_cast] theorem Tryd.st34 : isStr Tryd.prog 34 = false := by kernel_rfl
@[push_cast] theorem Tryd.by34 : isBytes Tryd.prog 34 = false := by kernel_rfl
@[push_cast] theorem Tryd.ty35 : tyI Tryd.prog 35 = some (1, false) := by kernel_rfl
@[push_cast] theorem Tryd.zl35 : zeroL Tryd.prog 35 = some [.nilFunc] := by kernel_rfl
@[push_cast] theorem Tryd.el35 : elemI Tryd.prog 35 = none := by kernel_rfl
attribute [push_cast] Tryd.underlying35
@[push_cast] theorem Tryd.in35 : intI Tryd.prog 35 = none := by kernel_rfl
@[push_cast] theorem Tryd.st35 : isStr Tryd.prog 35 = false := by kernel_rfl
@[push_cast] theorem Tryd.by35 : isBytes Tryd.prog 35 = false := by kernel_rfl
@[push_cast] theorem Tryd.ty36 : tyI Tryd.prog 36 = some (12, true) := by kernel_rfl
@[push_cast] theorem Tryd.zl36 : zeroL Tryd.prog 36 = some [.int .u64 0, .int .u64 0, .int .u64 0, .int .u64 0, .int .u64 0, .int .u64 0, .int .u64 0, .int .u64 0, .int .u64 0, .int .u64 0, .int .u64 0, .int .u64 0] := by kernel_rfl
@[push_cast] theorem Tryd.el36 : elemI Tryd.prog 36 = some (some 3, 4, true) := by kernel_rfl
attribute [push_cast] Tryd.underlying36
@[push_cast] theorem Tryd.in36 : intI Tryd.prog 36 = none := by kernel_rfl
@[push_cast] theorem Tryd.st36 : isStr Tryd.prog 36 = false := by kernel_rfl
@[push_cast] theorem Tryd.by36 : isBytes Tryd.prog 36 = false := by kernel_rfl
@[push_cast] theorem Tryd.pl36_0 : placeOf Tryd.prog 36 0 = some (0, 4) := by kernel_rfl
@[push_cast] theorem Tryd.pl36_1 : placeOf Tryd.prog 36 1 = some (4, 4) := by kernel_rfl
@[push_cast] theorem Tryd.pl36_2 : placeOf Tryd.prog 36 2 = some (8, 4) := by kernel_rfl
@[push_cast] theorem Tryd.fo36 : fieldsOk Tryd.prog 36 = true := by kernel_rfl
@[push_cast] theorem Tryd.fk36 : flatK Tryd.prog 12 36 = some [.i, .i, .i, .i, .i, .i, .i, .i, .i, .i, .i, .i] := by kernel_rfl
@[push_cast] theorem Tryd.eg36 : Program.eqGuardType Tryd.prog (Program.depth Tryd.prog) 36 = false := by kernel_rfl
@[push_cast] theorem Tryd.ty37 : tyI Tryd.prog 37 = some (1, false) := by kernel_rfl
@[push_cast] theorem Tryd.zl37 : zeroL Tryd.prog 37 = some [.slice none 0 0] := by kernel_rfl
@[push_cast] theorem Tryd.el37 : elemI Tryd.prog 37 = some (none, 12, true) := by kernel_rfl
@[push_cast] theorem Tryd.sl37 : slI Tryd.prog 37 = some (36, 12, 96) := by kernel_rfl
attribute [push_cast] Tryd.underlying37
@[push_cast] theorem Tryd.in37 : intI Tryd.prog 37 = none := by kernel_rfl
@[push_cast] theorem Tryd.st37 : isStr Tryd.prog 37 = false := by kernel_rfl
@[push_cast] theorem Tryd.by37 : isBytes Tryd.prog 37 = false := by kernel_rfl
@[push_cast] theorem Tryd.ty38 : tyI Tryd.prog 38 = some (1, false) := by kernel_rfl
@[push_cast] theorem Tryd.el38 : elemI Tryd.prog 38 = none := by kernel_rfl
attribute [push_cast] Tryd.underlying38
@[push_cast] theorem Tryd.in38 : intI Tryd.prog 38 = none := by kernel_rfl
@[push_cast] theorem Tryd.st38 : isStr Tryd.prog 38 = false := by kernel_rfl
@[push_cast] theorem Tryd.by38 : isBytes Tryd.prog 38 = false := by kernel_rfl
@[push_cast] theorem Tryd.ty39 : tyI Tryd.prog 39 = some (1, false) := by kernel_rfl
@[push_cast] theorem Tryd.zl39 : zeroL Tryd.prog 39 = some [.nilFunc] := by kernel_rfl
@[push_cast] theorem Tryd.el39 : elemI Tryd.prog 39 = none := by kernel_rfl
attribute [push_cast] Tryd.underlying39
@[push_cast] theorem Tryd.in39 : intI Tryd.prog 39 = none := by kernel_rfl
@[push_cast] theorem Tryd.st39 : isStr Tryd.prog 39 = false := by kernel_rfl
@[push_cast] theorem Tryd.by39 : isBytes Tryd.prog 39 = false := by kernel_rfl
@[push_cast] theorem Tryd.ty40 : tyI Tryd.prog 40 = some (1, false) := by kernel_rfl
@[push_cast] theorem Tryd.zl40 : zeroL Tryd.prog 40 = some [.nilFunc] := by kernel_rfl
@[push_cast] theorem Tryd.el40 : elemI Tryd.prog 40 = none := by kernel_rfl
attribute [push_cast] Tryd.underlying40
@[push_cast] theorem Tryd.in40 : intI Tryd.prog 40 = none := by kernel_rfl
@[push_cast] theorem Tryd.st40 : isStr Tryd.prog 40 = false := by kernel_rfl
@[push_cast] theorem Tryd.by40 : isBytes Tryd.prog 40 = false := by kernel_rfl
@[push_cast] theorem Tryd.ty41 : tyI Tryd.prog 41 = some (1, false) := by kernel_rfl
@[push_cast] theorem Tryd.zl41 : zeroL Tryd.prog 41 = some [.slice none 0 0] := by kernel_rfl
@[push_cast] theorem Tryd.el41 : elemI Tryd.prog 41 = some (none, 4, true) := by kernel_rfl
@[push_cast] theorem Tryd.sl41 : slI Tryd.prog 41 = some (24, 4, 32) := by kernel_rfl
attribute [push_cast] Tryd.underlying41
@[push_cast] theorem Tryd.in41 : intI Tryd.prog 41 = none := by kernel_rfl
@[push_cast] theorem Tryd.st41 : isStr Tryd.prog 41 = false := by kernel_rfl
@[push_cast] theorem Tryd.by41 : isBytes Tryd.prog 41 = false := by kernel_rfl
@[push_cast] theorem Tryd.ty42 : tyI Tryd.prog 42 = some (1, false) := by kernel_rfl
@[push_cast] theorem Tryd.el42 : elemI Tryd.prog 42 = none := by kernel_rfl
attribute [push_cast] Tryd.underlying42
@[push_cast] theorem Tryd.in42 : intI Tryd.prog 42 = none := by kernel_rfl
@[push_cast] theorem Tryd.st42 : isStr Tryd.prog 42 = false := by kernel_rfl
@[push_cast] theorem Tryd.by42 : isBytes Tryd.prog 42 = false := by kernel_rfl
@[push_cast] theorem Tryd.ty43 : tyI Tryd.prog 43 = some (1, false) := by kernel_rfl
@[push_cast] theorem Tryd.zl43 : zeroL Tryd.prog 43 = some [.nilFunc] := by kernel_rfl
@[push_cast] theorem Tryd.el43 : elemI Tryd.prog 43 = none := by kernel_rfl
attribute [push_cast] Tryd.underlying43
@[push_cast] theorem Tryd.in43 : intI Tryd.prog 43 = none := by kernel_rfl
@[push_cast] theorem Tryd.st43 : isStr Tryd.prog 43 = false := by kernel_rfl
@[push_cast] theorem Tryd.by43 : isBytes Tryd.prog 43 = false := by kernel_rfl
@[push_cast] theorem Tryd.ty44 : tyI Tryd.prog 44 = some (1, false) := by kernel_rfl
@[push_cast] theorem Tryd.zl44 : zeroL Tryd.prog 44 = some [.nilFunc] := by kernel_rfl
@[push_cast] theorem Tryd.el44 : elemI Tryd.prog 44 = none := by kernel_rfl
attribute [push_cast] Tryd.underlying44
@[push_cast] theorem Tryd.in44 : intI Tryd.prog 44 = none := by kernel_rfl
@[push_cast] theorem Tryd.st44 : isStr Tryd.prog 44 = false := by kernel_rfl
@[push_cast] theorem Tryd.by44 : isBytes Tryd.prog 44 = false := by kernel_rfl
@[push_cast] theorem Tryd.ty45 : tyI Tryd.prog 45 = some (1, false) := by kernel_rfl
@[push_cast] theorem Tryd.zl45 : zeroL Tryd.prog 45 = some [.nilFunc] := by kernel_rfl
@[push_cast] theorem Tryd.el45 : elemI Tryd.prog 45 = none := by kernel_rfl
attribute [push_cast] Tryd.underlying45
@[push_cast] theorem Tryd.in45 : intI Tryd.prog 45 = none := by kernel_rfl
@[push_cast] theorem Tryd.st45 : isStr Tryd.prog 45 = false := by kernel_rfl
@[push_cast] theorem Tryd.by45 : isBytes Tryd.prog 45 = false := by kernel_rfl
@[push_cast] theorem Tryd.ty46 : tyI Tryd.prog 46 = some (1, false) := by kernel_rfl
@[push_cast] theorem Tryd.zl46 : zeroL Tryd.prog 46 = some [.nilFunc] := by kernel_rfl
@[push_cast] theorem Tryd.el46 : elemI Tryd.prog 46 = none := by kernel_rfl
attribute [push_cast] Tryd.underlying46
@[push_cast] theorem Tryd.in46 : intI Tryd.prog 46 = none := by kernel_rfl
@[push_cast] theorem Tryd.st46 : isStr Tryd.prog 46 = false := by kernel_rfl
@[push_cast] theorem Tryd.by46 : isBytes Tryd.prog 46 = false := by kernel_rfl
@[push_cast] theorem Tryd.ty47 : tyI Tryd.prog 47 = some (1, false) := by kernel_rfl
@[push_cast] theorem Tryd.zl47 : zeroL Tryd.prog 47 = some [.nilFunc] := by kernel_rfl
@[push_cast] theorem Tryd.el47 : elemI Tryd.prog 47 = none := by kernel_rfl
attribute [push_cast] Tryd.underlying47
@[push_cast] theorem Tryd.in47 : intI Tryd.prog 47 = none := by kernel_rfl
@[push_cast] theorem Tryd.st47 : isStr Tryd.prog 47 = false := by kernel_rfl
@[push_cast] theorem Tryd.by47 : isBytes Tryd.prog 47 = false := by kernel_rfl
@[push_cast] theorem Tryd.ty48 : tyI Tryd.prog 48 = some (1, false) := by kernel_rfl
@[push_cast] theorem Tryd.zl48 : zeroL Tryd.prog 48 = some [.nilFunc] := by kernel_rfl
@[push_cast] theorem Tryd.el48 : elemI Tryd.prog 48 = none := by kernel_rfl
attribute [push_cast] Tryd.underlying48
@[push_cast] theorem Tryd.in48 : intI Tryd.prog 48 = none := by kernel_rfl
@[push_cast] theorem Tryd.st48 : isStr Tryd.prog 48 = false := by kernel_rfl
@[push_cast] theorem Tryd.by48 : isBytes Tryd.prog 48 = false := by kernel_rfl
@[push_cast] theorem Tryd.ty49 : tyI Tryd.prog 49 = some (1, false) := by kernel_rfl
@[push_cast] theorem Tryd.zl49 : zeroL Tryd.prog 49 = some [.nilFunc] := by kernel_rfl
@[push_cast] theorem Tryd.el49 : elemI Tryd.prog 49 = none := by kernel_rfl
attribute [push_cast] Tryd.underlying49
@[push_cast] theorem Tryd.in49 : intI Tryd.prog 49 = none := by kernel_rfl
@[push_cast] theorem Tryd.st49 : isStr Tryd.prog 49 = false := by kernel_rfl
@[push_cast] theorem Tryd.by49 : isBytes Tryd.prog 49 = false := by kernel_rfl
@[push_cast] theorem Tryd.ty50 : tyI Tryd.prog 50 = some (1, false) := by kernel_rfl
@[push_cast] theorem Tryd.zl50 : zeroL Tryd.prog 50 = some [.nilFunc] := by kernel_rfl
@[push_cast] theorem Tryd.el50 : elemI Tryd.prog 50 = none := by kernel_rfl
attribute [push_cast] Tryd.underlying50
@[push_cast] theorem Tryd.in50 : intI Tryd.prog 50 = none := by kernel_rfl
@[push_cast] theorem Tryd.st50 : isStr Tryd.prog 50 = false := by kernel_rfl
@[push_cast] theorem Tryd.by50 : isBytes Tryd.prog 50 = false := by kernel_rfl
@[push_cast] theorem Tryd.ty51 : tyI Tryd.prog 51 = some (1, false) := by kernel_rfl
@[push_cast] theorem Tryd.zl51 : zeroL Tryd.prog 51 = some [.nilFunc] := by kernel_rfl
@[push_cast] theorem Tryd.el51 : elemI Tryd.prog 51 = none := by kernel_rfl
attribute [push_cast] Tryd.underlying51
@[push_cast] theorem Tryd.in51 : intI Tryd.prog 51 = none := by kernel_rfl
@[push_cast] theorem Tryd.st51 : isStr Tryd.prog 51 = false := by kernel_rfl
@[push_cast] theorem Tryd.by51 : isBytes Tryd.prog 51 = false := by kernel_rfl
@[push_cast] theorem Tryd.ty52 : tyI Tryd.prog 52 = some (1, false) := by kernel_rfl
@[push_cast] theorem Tryd.zl52 : zeroL Tryd.prog 52 = some [.nilFunc] := by kernel_rfl
@[push_cast] theorem Tryd.el52 : elemI Tryd.prog 52 = none := by kernel_rfl
attribute [push_cast] Tryd.underlying52
@[push_cast] theorem Tryd.in52 : intI Tryd.prog 52 = none := by kernel_rfl
@[push_cast] theorem Tryd.st52 : isStr Tryd.prog 52 = false := by kernel_rfl
@[push_cast] theorem Tryd.by52 : isBytes Tryd.prog 52 = false := by kernel_rfl
@[push_cast] theorem Tryd.ty53 : tyI Tryd.prog 53 = some (1, false) := by kernel_rfl
@[push_cast] theorem Tryd.zl53 : zeroL Tryd.prog 53 = some [.nilFunc] := by kernel_rfl
@[push_cast] theorem Tryd.el53 : elemI Tryd.prog 53 = none := by kernel_rfl
attribute [push_cast] Tryd.underlying53
@[push_cast] theorem Tryd.in53 : intI Tryd.prog 53 = none := by kernel_rfl
@[push_cast] theorem Tryd.st53 : isStr Tryd.prog 53 = false := by kernel_rfl
@[push_cast] theorem Tryd.by53 : isBytes Tryd.prog 53 = false := by kernel_rfl
@[push_cast] theorem Tryd.ty54 : tyI Tryd.prog 54 = some (1, false) := by kernel_rfl
@[push_cast] theorem Tryd.zl54 : zeroL Tryd.prog 54 = some [.nilFunc] := by kernel_rfl
@[push_cast] theorem Tryd.el54 : elemI Tryd.prog 54 = none := by kernel_rfl
attribute [push_cast] Tryd.underlying54
@[push_cast] theorem Tryd.in54 : intI Tryd.prog 54 = none := by kernel_rfl
@[push_cast] theorem Tryd.st54 : isStr Tryd.prog 54 = false := by kernel_rfl
@[push_cast] theorem Tryd.by54 : isBytes Tryd.prog 54 = false := by kernel_rfl
@[push_cast] theorem Tryd.ty55 : tyI Tryd.prog 55 = some (20, true) := by kernel_rfl
@[push_cast] theorem Tryd.zl55 : zeroL Tryd.prog 55 = some [.int .u8 0, .int .u8 0, .int .u8 0, .int .u8 0, .int .u8 0, .int .u8 0, .int .u8 0, .int .u8 0, .int .u8 0, .int .u8 0, .int .u8 0, .int .u8 0, .int .u8 0, .int .u8 0, .int .u8 0, .int .u8 0, .int .u8 0, .int .u8 0, .int .u8 0, .int .u8 0] := by kernel_rfl
@[push_cast] theorem Tryd.el55 : elemI Tryd.prog 55 = some (some 20, 1, false) := by kernel_rfl
attribute [push_cast] Tryd.underlying55
@[push_cast] theorem Tryd.in55 : intI Tryd.prog 55 = none := by kernel_rfl
@[push_cast] theorem Tryd.st55 : isStr Tryd.prog 55 = false := by kernel_rfl
@[push_cast] theorem Tryd.by55 : isBytes Tryd.prog 55 = false := by kernel_rfl
@[push_cast] theorem Tryd.pl55_0 : placeOf Tryd.prog 55 0 = some (0, 1) := by kernel_rfl
@[push_cast] theorem Tryd.pl55_1 : placeOf Tryd.prog 55 1 = some (1, 1) := by kernel_rfl
@[push_cast] theorem Tryd.pl55_2 : placeOf Tryd.prog 55 2 = some (2, 1) := by kernel_rfl
@[push_cast] theorem Tryd.pl55_3 : placeOf Tryd.prog 55 3 = some (3, 1) := by kernel_rfl
@[push_cast] theorem Tryd.pl55_4 : placeOf Tryd.prog 55 4 = some (4, 1) := by kernel_rfl
@[push_cast] theorem Tryd.pl55_5 : placeOf Tryd.prog 55 5 = some (5, 1) := by kernel_rfl
@[push_cast] theorem Tryd.pl55_6 : placeOf Tryd.prog 55 6 = some (6, 1) := by kernel_rfl
@[push_cast] theorem Tryd.pl55_7 : placeOf Tryd.prog 55 7 = some (7, 1) := by kernel_rfl
@[push_cast] theorem Tryd.pl55_8 : placeOf Tryd.prog 55 8 = some (8, 1) := by kernel_rfl
@[push_cast] theorem Tryd.pl55_9 : placeOf Tryd.prog 55 9 = some (9, 1) := by kernel_rfl
@[push_cast] theorem Tryd.pl55_10 : placeOf Tryd.prog 55 10 = some (10, 1) := by kernel_rfl
@[push_cast] theorem Tryd.pl55_11 : placeOf Tryd.prog 55 11 = some (11, 1) := by kernel_rfl
@[push_cast] theorem Tryd.pl55_12 : placeOf Tryd.prog 55 12 = some (12, 1) := by kernel_rfl
@[push_cast] theorem Tryd.pl55_13 : placeOf Tryd.prog 55 13 = some (13, 1) := by kernel_rfl
@[push_cast] theorem Tryd.pl55_14 : placeOf Tryd.prog 55 14 = some (14, 1) := by kernel_rfl
@[push_cast] theorem Tryd.pl55_15 : placeOf Tryd.prog 55 15 = some (15, 1) := by kernel_rfl
@[push_cast] theorem Tryd.pl55_16 : placeOf Tryd.prog 55 16 = some (16, 1) := by kernel_rfl
@[push_cast] theorem Tryd.pl55_17 : placeOf Tryd.prog 55 17 = some (17, 1) := by kernel_rfl
@[push_cast] theorem Tryd.pl55_18 : placeOf Tryd.prog 55 18 = some (18, 1) := by kernel_rfl
@[push_cast] theorem Tryd.pl55_19 : placeOf Tryd.prog 55 19 = some (19, 1) := by kernel_rfl
@[push_cast] theorem Tryd.fo55 : fieldsOk Tryd.prog 55 = true := by kernel_rfl
@[push_cast] theorem Tryd.fk55 : flatK Tryd.prog 12 55 = some [.i, .i, .i, .i, .i, .i, .i, .i, .i, .i, .i, .i, .i, .i, .i, .i, .i, .i, .i, .i] := by kernel_rfl
@[push_cast] theorem Tryd.eg55 : Program.eqGuardType Tryd.prog (Program.depth Tryd.prog) 55 = false := by kernel_rfl
@[push_cast] theorem Tryd.ty56 : tyI Tryd.prog 56 = some (20, true) := by kernel_rfl
@[push_cast] theorem Tryd.zl56 : zeroL Tryd.prog 56 = some [.int .u8 0, .int .u8 0, .int .u8 0, .int .u8 0, .int .u8 0, .int .u8 0, .int .u8 0, .int .u8 0, .int .u8 0, .int .u8 0, .int .u8 0, .int .u8 0, .int .u8 0, .int .u8 0, .int .u8 0, .int .u8 0, .int .u8 0, .int .u8 0, .int .u8 0, .int .u8 0] := by kernel_rfl
@[push_cast] theorem Tryd.el56 : elemI Tryd.prog 56 = some (some 20, 1, false) := by kernel_rfl
attribute [push_cast] Tryd.underlying56
@[push_cast] theorem Tryd.in56 : intI Tryd.prog 56 = none := by kernel_rfl
@[push_cast] theorem Tryd.st56 : isStr Tryd.prog 56 = false := by kernel_rfl
@[push_cast] theorem Tryd.by56 : isBytes Tryd.prog 56 = false := by kernel_rfl
@[push_cast] theorem Tryd.pl56_0 : placeOf Tryd.prog 56 0 = some (0, 1) := by kernel_rfl
@[push_cast] theorem Tryd.pl56_1 : placeOf Tryd.prog 56 1 = some (1, 1) := by kernel_rfl
@[push_cast] theorem Tryd.pl56_2 : placeOf Tryd.prog 56 2 = some (2, 1) := by kernel_rfl
@[push_cast] theorem Tryd.pl56_3 : placeOf Tryd.prog 56 3 = some (3, 1) := by kernel_rfl
@[push_cast] theorem Tryd.pl56_4 : placeOf Tryd.prog 56 4 = some (4, 1) := by kernel_rfl
@[push_cast] theorem Tryd.pl56_5 : placeOf Tryd.prog 56 5 = some (5, 1) := by kernel_rfl
@[push_cast] theorem Tryd.pl56_6 : placeOf Tryd.prog 56 6 = some (6, 1) := by kernel_rfl
@[push_cast] theorem Tryd.pl56_7 : placeOf Tryd.prog 56 7 = some (7, 1) := by kernel_rfl
@[push_cast] theorem Tryd.pl56_8 : placeOf Tryd.prog 56 8 = some (8, 1) := by kernel_rfl
@[push_cast] theorem Tryd.pl56_9 : placeOf Tryd.prog 56 9 = some (9, 1) := by kernel_rfl
@[push_cast] theorem Tryd.pl56_10 : placeOf Tryd.prog 56 10 = some (10, 1) := by kernel_rfl
@[push_cast] theorem Tryd.pl56_11 : placeOf Tryd.prog 56 11 = some (11, 1) := by kernel_rfl
@[push_cast] theorem Tryd.pl56_12 : placeOf Tryd.prog 56 12 = some (12, 1) := by kernel_rfl
@[push_cast] theorem Tryd.pl56_13 : placeOf Tryd.prog 56 13 = some (13, 1) := by kernel_rfl
@[push_cast] theorem Tryd.pl56_14 : placeOf Tryd.prog 56 14 = some (14, 1) := by kernel_rfl
@[push_cast] theorem Tryd.pl56_15 : placeOf Tryd.prog 56 15 = some (15, 1) := by kernel_rfl
@[push_cast] theorem Tryd.pl56_16 : placeOf Tryd.prog 56 16 = some (16, 1) := by kernel_rfl
@[push_cast] theorem Tryd.pl56_17 : placeOf Tryd.prog 56 17 = some (17, 1) := by kernel_rfl
@[push_cast] theorem Tryd.pl56_18 : placeOf Tryd.prog 56 18 = some (18, 1) := by kernel_rfl
@[push_cast] theorem Tryd.pl56_19 : placeOf Tryd.prog 56 19 = some (19, 1) := by kernel_rfl
@[push_cast] theorem Tryd.fo56 : fieldsOk Tryd.prog 56 = true := by kernel_rfl
@[push_cast] theorem Tryd.fk56 : flatK Tryd.prog 12 56 = some [.i, .i, .i, .i, .i, .i, .i, .i, .i, .i, .i, .i, .i, .i, .i, .i, .i, .i, .i, .i] := by kernel_rfl
@[push_cast] theorem Tryd.eg56 : Program.eqGuardType Tryd.prog (Program.depth Tryd.prog) 56 = false := by kernel_rfl
@[push_cast] theorem Tryd.ty57 : tyI Tryd.prog 57 = some (25, true) := by kernel_rfl
@[push_cast] theorem Tryd.zl57 : zeroL Tryd.prog 57 = some [.int .u8 0, .int .u8 0, .int .u8 0, .int .u8 0, .int .u8 0, .int .u8 0, .int .u8 0, .int .u8 0, .int .u8 0, .int .u8 0, .int .u8 0, .int .u8 0, .int .u8 0, .int .u8 0, .int .u8 0, .int .u8 0, .int .u8 0, .int .u8 0, .int .u8 0, .int .u8 0, .bool false, .int .u64 0, .int .u64 0, .int .u64 0, .int .u64 0] := by kernel_rfl
@[push_cast] theorem Tryd.el57 : elemI Tryd.prog 57 = none := by kernel_rfl
attribute [push_cast] Tryd.underlying57
@[push_cast] theorem Tryd.in57 : intI Tryd.prog 57 = none := by kernel_rfl
@[push_cast] theorem Tryd.st57 : isStr Tryd.prog 57 = false := by kernel_rfl
@[push_cast] theorem Tryd.by57 : isBytes Tryd.prog 57 = false := by kernel_rfl
@[push_cast] theorem Tryd.fi57_0 : fieldI Tryd.prog 57 0 = some (0, 20, true) := by kernel_rfl
@[push_cast] theorem Tryd.pl57_0 : placeOf Tryd.prog 57 0 = some (0, 20) := by kernel_rfl
@[push_cast] theorem Tryd.fi57_1 : fieldI Tryd.prog 57 1 = some (20, 1, false) := by kernel_rfl
@[push_cast] theorem Tryd.pl57_1 : placeOf Tryd.prog 57 1 = some (20, 1) := by kernel_rfl
@[push_cast] theorem Tryd.fi57_2 : fieldI Tryd.prog 57 2 = some (21, 4, true) := by kernel_rfl
@[push_cast] theorem Tryd.pl57_2 : placeOf Tryd.prog 57 2 = some (21, 4) := by kernel_rfl
@[push_cast] theorem Tryd.fo57 : fieldsOk Tryd.prog 57 = true := by kernel_rfl
@[push_cast] theorem Tryd.fk57 : flatK Tryd.prog 12 57 = some [.i, .i, .i, .i, .i, .i, .i, .i, .i, .i, .i, .i, .i, .i, .i, .i, .i, .i, .i, .i, .b, .i, .i, .i, .i] := by kernel_rfl
@[push_cast] theorem Tryd.eg57 : Program.eqGuardType Tryd.prog (Program.depth Tryd.prog) 57 = false := by kernel_rfl
@[push_cast] theorem Tryd.ty58 : tyI Tryd.prog 58 = some (25, true) := by kernel_rfl
@[push_cast] theorem Tryd.zl58 : zeroL Tryd.prog 58 = some [.int .u8 0, .int .u8 0, .int .u8 0, .int .u8 0, .int .u8 0, .int .u8 0, .int .u8 0, .int .u8 0, .int .u8 0, .int .u8 0, .int .u8 0, .int .u8 0, .int .u8 0, .int .u8 0, .int .u8 0, .int .u8 0, .int .u8 0, .int .u8 0, .int .u8 0, .int .u8 0, .bool false, .int .u64 0, .int .u64 0, .int .u64 0, .int .u64 0] := by kernel_rfl
@[push_cast] theorem Tryd.el58 : elemI Tryd.prog 58 = none := by kernel_rfl
attribute [push_cast] Tryd.underlying58
@[push_cast] theorem Tryd.in58 : intI Tryd.prog 58 = none := by kernel_rfl
@[push_cast] theorem Tryd.st58 : isStr Tryd.prog 58 = false := by kernel_rfl
@[push_cast] theorem Tryd.by58 : isBytes Tryd.prog 58 = false := by kernel_rfl
@[push_cast] theorem Tryd.fi58_0 : fieldI Tryd.prog 58 0 = some (0, 20, true) := by kernel_rfl
@[push_cast] theorem Tryd.pl58_0 : placeOf Tryd.prog 58 0 = some (0, 20) := by kernel_rfl
@[push_cast] theorem Tryd.fi58_1 : fieldI Tryd.prog 58 1 = some (20, 1, false) := by kernel_rfl
@[push_cast] theorem Tryd.pl58_1 : placeOf Tryd.prog 58 1 = some (20, 1) := by kernel_rfl
@[push_cast] theorem Tryd.fi58_2 : fieldI Tryd.prog 58 2 = some (21, 4, true) := by kernel_rfl
@[push_cast] theorem Tryd.pl58_2 : placeOf Tryd.prog 58 2 = some (21, 4) := by kernel_rfl
@[push_cast] theorem Tryd.fo58 : fieldsOk Tryd.prog 58 = true := by kernel_rfl
@[push_cast] theorem Tryd.fk58 : flatK Tryd.prog 12 58 = some [.i, .i, .i, .i, .i, .i, .i, .i, .i, .i, .i, .i, .i, .i, .i, .i, .i, .i, .i, .i, .b, .i, .i, .i, .i] := by kernel_rfl
@[push_cast] theorem Tryd.eg58 : Program.eqGuardType Tryd.prog (Program.depth Tryd.prog) 58 = false := by kernel_rfl
@[push_cast] theorem Tryd.ty59 : tyI Tryd.prog 59 = some (1, false) := by kernel_rfl
@[push_cast] theorem Tryd.zl59 : zeroL Tryd.prog 59 = some [.nilFunc] := by kernel_rfl
@[push_cast] theorem Tryd.el59 : elemI Tryd.prog 59 = none := by kernel_rfl
attribute [push_cast] Tryd.underlying59
@[push_cast] theorem Tryd.in59 : intI Tryd.prog 59 = none := by kernel_rfl
@[push_cast] theorem Tryd.st59 : isStr Tryd.prog 59 = false := by kernel_rfl
@[push_cast] theorem Tryd.by59 : isBytes Tryd.prog 59 = false := by kernel_rfl
@[push_cast] theorem Tryd.ty60 : tyI Tryd.prog 60 = some (1, false) := by kernel_rfl
@[push_cast] theorem Tryd.zl60 : zeroL Tryd.prog 60 = some [.nilFunc] := by kernel_rfl
@[push_cast] theorem Tryd.el60 : elemI Tryd.prog 60 = none := by kernel_rfl
attribute [push_cast] Tryd.underlying60
@[push_cast] theorem Tryd.in60 : intI Tryd.prog 60 = none := by kernel_rfl
@[push_cast] theorem Tryd.st60 : isStr Tryd.prog 60 = false := by kernel_rfl
@[push_cast] theorem Tryd.by60 : isBytes Tryd.prog 60 = false := by kernel_rfl
@[push_cast] theorem Tryd.ty61 : tyI Tryd.prog 61 = some (1, false) := by kernel_rfl
@[push_cast] theorem Tryd.el61 : elemI Tryd.prog 61 = none := by kernel_rfl
attribute [push_cast] Tryd.underlying61
@[push_cast] theorem Tryd.in61 : intI Tryd.prog 61 = none := by kernel_rfl
@[push_cast] theorem Tryd.st61 : isStr Tryd.prog 61 = false := by kernel_rfl
@[push_cast] theorem Tryd.by61 : isBytes Tryd.prog 61 = false := by kernel_rfl
@[push_cast] theorem Tryd.ty62 : tyI Tryd.prog 62 = some (1, false) := by kernel_rfl
@[push_cast] theorem Tryd.zl62 : zeroL Tryd.prog 62 = some [.nilFunc] := by kernel_rfl
@[push_cast] theorem Tryd.el62 : elemI Tryd.prog 62 = none := by kernel_rfl
attribute [push_cast] Tryd.underlying62
@[push_cast] theorem Tryd.in62 : intI Tryd.prog 62 = none := by kernel_rfl
@[push_cast] theorem Tryd.st62 : isStr Tryd.prog 62 = false := by kernel_rfl
@[push_cast] theorem Tryd.by62 : isBytes Tryd.prog 62 = false := by kernel_rfl
@[push_cast] theorem Tryd.ty63 : tyI Tryd.prog 63 = some (1, false) := by kernel_rfl
@[push_cast] theorem Tryd.zl63 : zeroL Tryd.prog 63 = some [.int .i64 0] := by kernel_rfl
@[push_cast] theorem Tryd.el63 : elemI Tryd.prog 63 = none := by kernel_rfl
attribute [push_cast] Tryd.underlying63
@[push_cast] theorem Tryd.in63 : intI Tryd.prog 63 = some .i64 := by kernel_rfl
@[push_cast] theorem Tryd.st63 : isStr Tryd.prog 63 = false := by kernel_rfl
@[push_cast] theorem Tryd.by63 : isBytes Tryd.prog 63 = false := by kernel_rfl
@[push_cast] theorem Tryd.ty64 : tyI Tryd.prog 64 = some (1, false) := by kernel_rfl
@[push_cast] theorem Tryd.el64 : elemI Tryd.prog 64 = none := by kernel_rfl
attribute [push_cast] Tryd.underlying64
@[push_cast] theorem Tryd.in64 : intI Tryd.prog 64 = none := by kernel_rfl
@[push_cast] theorem Tryd.st64 : isStr Tryd.prog 64 = false := by kernel_rfl
@[push_cast] theorem Tryd.by64 : isBytes Tryd.prog 64 = false := by kernel_rfl
@[push_cast] theorem Tryd.ty65 : tyI Tryd.prog 65 = some (1, false) := by kernel_rfl
@[push_cast] theorem Tryd.zl65 : zeroL Tryd.prog 65 = some [.nilFunc] := by kernel_rfl
@[push_cast] theorem Tryd.el65 : elemI Tryd.prog 65 = none := by kernel_rfl
attribute [push_cast] Tryd.underlying65
@[push_cast] theorem Tryd.in65 : intI Tryd.prog 65 = none := by kernel_rfl
@[push_cast] theorem Tryd.st65 : isStr Tryd.prog 65 = false := by kernel_rfl
@[push_cast] theorem Tryd.by65 : isBytes Tryd.prog 65 = false := by kernel_rfl
@[push_cast] theorem Tryd.ty66 : tyI Tryd.prog 66 = some (1, false) := by kernel_rfl
@[push_cast] theorem Tryd.zl66 : zeroL Tryd.prog 66 = some [.nilFunc] := by kernel_rfl
@[push_cast] theorem Tryd.el66 : elemI Tryd.prog 66 = none := by kernel_rfl
attribute [push_cast] Tryd.underlying66
@[push_cast] theorem Tryd.in66 : intI Tryd.prog 66 = none := by kernel_rfl
@[push_cast] theorem Tryd.st66 : isStr Tryd.prog 66 = false := by kernel_rfl
@[push_cast] theorem Tryd.by66 : isBytes Tryd.prog 66 = false := by kernel_rfl
@[push_cast] theorem Tryd.ty67 : tyI Tryd.prog 67 = some (1, false) := by kernel_rfl
@[push_cast] theorem Tryd.zl67 : zeroL Tryd.prog 67 = some [.nilFunc] := by kernel_rfl
@[push_cast] theorem Tryd.el67 : elemI Tryd.prog 67 = none := by kernel_rfl
attribute [push_cast] Tryd.underlying67
@[push_cast] theorem Tryd.in67 : intI Tryd.prog 67 = none := by kernel_rfl
@[push_cast] theorem Tryd.st67 : isStr Tryd.prog 67 = false := by kernel_rfl
@[push_cast] theorem Tryd.by67 : isBytes Tryd.prog 67 = false := by kernel_rfl
@[push_cast] theorem Tryd.ty68 : tyI Tryd.prog 68 = some (1, false) := by kernel_rfl
@[push_cast] theorem Tryd.zl68 : zeroL Tryd.prog 68 = some [.nilFunc] := by kernel_rfl
@[push_cast] theorem Tryd.el68 : elemI Tryd.prog 68 = none := by kernel_rfl
attribute [push_cast] Tryd.underlying68
@[push_cast] theorem Tryd.in68 : intI Tryd.prog 68 = none := by kernel_rfl
@[push_cast] theorem Tryd.st68 : isStr Tryd.prog 68 = false := by kernel_rfl
@[push_cast] theorem Tryd.by68 : isBytes Tryd.prog 68 = false := by kernel_rfl
@[push_cast] theorem Tryd.ty69 : tyI Tryd.prog 69 = some (1, false) := by kernel_rfl
@[push_cast] theorem Tryd.zl69 : zeroL Tryd.prog 69 = some [.nilFunc] := by kernel_rfl
@[push_cast] theorem Tryd.el69 : elemI Tryd.prog 69 = none := by kernel_rfl
attribute [push_cast] Tryd.underlying69
@[push_cast] theorem Tryd.in69 : intI Tryd.prog 69 = none := by kernel_rfl
@[push_cast] theorem Tryd.st69 : isStr Tryd.prog 69 = false := by kernel_rfl
@[push_cast] theorem Tryd.by69 : isBytes Tryd.prog 69 = false := by kernel_rfl
@[push_cast] theorem Tryd.ty70 : tyI Tryd.prog 70 = some (1, false) := by kernel_rfl
@[push_cast] theorem Tryd.zl70 : zeroL Tryd.prog 70 = some [.nilFunc] := by kernel_rfl
@[push_cast] theorem Tryd.el70 : elemI Tryd.prog 70 = none := by kernel_rfl
attribute [push_cast] Tryd.underlying70
@[push_cast] theorem Tryd.in70 : intI Tryd.prog 70 = none := by kernel_rfl
@[push_cast] theorem Tryd.st70 : isStr Tryd.prog 70 = false := by kernel_rfl
@[push_cast] theorem Tryd.by70 : isBytes Tryd.prog 70 = false := by kernel_rfl
@[push_cast] theorem Tryd.ty71 : tyI Tryd.prog 71 = some (1, false) := by kernel_rfl
@[push_cast] theorem Tryd.zl71 : zeroL Tryd.prog 71 = some [.nilFunc] := by kernel_rfl
@[push_cast] theorem Tryd.el71 : elemI Tryd.prog 71 = none := by kernel_rfl
attribute [push_cast] Tryd.underlying71
@[push_cast] theorem Tryd.in71 : intI Tryd.prog 71 = none := by kernel_rfl
@[push_cast] theorem Tryd.st71 : isStr Tryd.prog 71 = false := by kernel_rfl
@[push_cast] theorem Tryd.by71 : isBytes Tryd.prog 71 = false := by kernel_rfl
@[push_cast] theorem Tryd.ty72 : tyI Tryd.prog 72 = some (1, false) := by kernel_rfl
@[push_cast] theorem Tryd.zl72 : zeroL Tryd.prog 72 = some [.nilFunc] := by kernel_rfl
@[push_cast] theorem Tryd.el72 : elemI Tryd.prog 72 = none := by kernel_rfl
attribute [push_cast] Tryd.underlying72
@[push_cast] theorem Tryd.in72 : intI Tryd.prog 72 = none := by kernel_rfl
@[push_cast] theorem Tryd.st72 : isStr Tryd.prog 72 = false := by kernel_rfl
@[push_cast] theorem Tryd.by72 : isBytes Tryd.prog 72 = false := by kernel_rfl
@[push_cast] theorem Tryd.ty73 : tyI Tryd.prog 73 = some (1, false) := by kernel_rfl
@[push_cast] theorem Tryd.zl73 : zeroL Tryd.prog 73 = some [.slice none 0 0] := by kernel_rfl
@[push_cast] theorem Tryd.el73 : elemI Tryd.prog 73 = some (none, 1, false) := by kernel_rfl
@[push_cast] theorem Tryd.sl73 : slI Tryd.prog 73 = some (5, 1, 1) := by kernel_rfl
attribute [push_cast] Tryd.underlying73
@[push_cast] theorem Tryd.in73 : intI Tryd.prog 73 = none := by kernel_rfl
@[push_cast] theorem Tryd.st73 : isStr Tryd.prog 73 = false := by kernel_rfl
@[push_cast] theorem Tryd.by73 : isBytes Tryd.prog 73 = true := by kernel_rfl
@[push_cast] theorem Tryd.ty74 : tyI Tryd.prog 74 = some (1, false) := by kernel_rfl
@[push_cast] theorem Tryd.zl74 : zeroL Tryd.prog 74 = some [.nilFunc] := by kernel_rfl
@[push_cast] theorem Tryd.el74 : elemI Tryd.prog 74 = none := by kernel_rfl
attribute [push_cast] Tryd.underlying74
@[push_cast] theorem Tryd.in74 : intI Tryd.prog 74 = none := by kernel_rfl
@[push_cast] theorem Tryd.st74 : isStr Tryd.prog 74 = false := by kernel_rfl
@[push_cast] theorem Tryd.by74 : isBytes Tryd.prog 74 = false := by kernel_rfl
@[push_cast] theorem Tryd.ty75 : tyI Tryd.prog 75 = some (1, false) := by kernel_rfl
@[push_cast] theorem Tryd.zl75 : zeroL Tryd.prog 75 = some [.map none] := by kernel_rfl
@[push_cast] theorem Tryd.el75 : elemI Tryd.prog 75 = none := by kernel_rfl
attribute [push_cast] Tryd.underlying75
@[push_cast] theorem Tryd.in75 : intI Tryd.prog 75 = none := by kernel_rfl
@[push_cast] theorem Tryd.st75 : isStr Tryd.prog 75 = false := by kernel_rfl
@[push_cast] theorem Tryd.by75 : isBytes Tryd.prog 75 = false := by kernel_rfl
@[push_cast] theorem Tryd.ty76 : tyI Tryd.prog 76 = some (1, false) := by kernel_rfl
@[push_cast] theorem Tryd.zl76 : zeroL Tryd.prog 76 = some [.nilFunc] := by kernel_rfl
@[push_cast] theorem Tryd.el76 : elemI Tryd.prog 76 = none := by kernel_rfl
attribute [push_cast] Tryd.underlying76
@[push_cast] theorem Tryd.in76 : intI Tryd.prog 76 = none := by kernel_rfl
@[push_cast] theorem Tryd.st76 : isStr Tryd.prog 76 = false := by kernel_rfl
@[push_cast] theorem Tryd.by76 : isBytes Tryd.prog 76 = false := by kernel_rfl
@[push_cast] theorem Tryd.ty77 : tyI Tryd.prog 77 = some (1, false) := by kernel_rfl
@[push_cast] theorem Tryd.zl77 : zeroL Tryd.prog 77 = some [.nilFunc] := by kernel_rfl
@[push_cast] theorem Tryd.el77 : elemI Tryd.prog 77 = none := by kernel_rfl
attribute [push_cast] Tryd.underlying77
@[push_cast] theorem Tryd.in77 : intI Tryd.prog 77 = none := by kernel_rfl
@[push_cast] theorem Tryd.st77 : isStr Tryd.prog 77 = false := by kernel_rfl
@[push_cast] theorem Tryd.by77 : isBytes Tryd.prog 77 = false := by kernel_rfl
@[push_cast] theorem Tryd.ty78 : tyI Tryd.prog 78 = some (1, false) := by kernel_rfl
@[push_cast] theorem Tryd.zl78 : zeroL Tryd.prog 78 = some [.nilFunc] := by kernel_rfl
@[push_cast] theorem Tryd.el78 : elemI Tryd.prog 78 = none := by kernel_rfl
attribute [push_cast] Tryd.underlying78
@[push_cast] theorem Tryd.in78 : intI Tryd.prog 78 = none := by kernel_rfl
@[push_cast] theorem Tryd.st78 : isStr Tryd.prog 78 = false := by kernel_rfl
@[push_cast] theorem Tryd.by78 : isBytes Tryd.prog 78 = false := by kernel_rfl
@[push_cast] theorem Tryd.ty79 : tyI Tryd.prog 79 = some (1, false) := by kernel_rfl
@[push_cast] theorem Tryd.zl79 : zeroL Tryd.prog 79 = some [.nilFunc] := by kernel_rfl
@[push_cast] theorem Tryd.el79 : elemI Tryd.prog 79 = none := by kernel_rfl
attribute [push_cast] Tryd.underlying79
@[push_cast] theorem Tryd.in79 : intI Tryd.prog 79 = none := by kernel_rfl
@[push_cast] theorem Tryd.st79 : isStr Tryd.prog 79 = false := by kernel_rfl
@[push_cast] theorem Tryd.by79 : isBytes Tryd.prog 79 = false := by kernel_rfl
@[push_cast] theorem Tryd.ty80 : tyI Tryd.prog 80 = some (1, false) := by kernel_rfl
@[push_cast] theorem Tryd.zl80 : zeroL Tryd.prog 80 = some [.nilFunc] := by kernel_rfl
@[push_cast] theorem Tryd.el80 : elemI Tryd.prog 80 = none := by kernel_rfl
attribute [push_cast] Tryd.underlying80
@[push_cast] theorem Tryd.in80 : intI Tryd.prog 80 = none := by kernel_rfl
@[push_cast] theorem Tryd.st80 : isStr Tryd.prog 80 = false := by kernel_rfl
@[push_cast] theorem Tryd.by80 : isBytes Tryd.prog 80 = false := by kernel_rfl
@[push_cast] theorem Tryd.ty81 : tyI Tryd.prog 81 = some (0, true) := by kernel_rfl
@[push_cast] theorem Tryd.zl81 : zeroL Tryd.prog 81 = some [] := by kernel_rfl
@[push_cast] theorem Tryd.el81 : elemI Tryd.prog 81 = none := by kernel_rfl
attribute [push_cast] Tryd.underlying81
@[push_cast] theorem Tryd.in81 : intI Tryd.prog 81 = none := by kernel_rfl
@[push_cast] theorem Tryd.st81 : isStr Tryd.prog 81 = false := by kernel_rfl
@[push_cast] theorem Tryd.by81 : isBytes Tryd.prog 81 = false := by kernel_rfl
@[push_cast] theorem Tryd.fo81 : fieldsOk Tryd.prog 81 = true := by kernel_rfl
@[push_cast] theorem Tryd.fk81 : flatK Tryd.prog 12 81 = some [] := by kernel_rfl
@[push_cast] theorem Tryd.eg81 : Program.eqGuardType Tryd.prog (Program.depth Tryd.prog) 81 = false := by kernel_rfl
@[push_cast] theorem Tryd.ty82 : tyI Tryd.prog 82 = some (1, false) := by kernel_rfl
@[push_cast] theorem Tryd.el82 : elemI Tryd.prog 82 = none := by kernel_rfl
attribute [push_cast] Tryd.underlying82
@[push_cast] theorem Tryd.in82 : intI Tryd.prog 82 = none := by kernel_rfl
@[push_cast] theorem Tryd.st82 : isStr Tryd.prog 82 = false := by kernel_rfl
@[push_cast] theorem Tryd.by82 : isBytes Tryd.prog 82 = false := by kernel_rfl
@[push_cast] theorem Tryd.ty83 : tyI Tryd.prog 83 = some (1, false) := by kernel_rfl
@[push_cast] theorem Tryd.zl83 : zeroL Tryd.prog 83 = some [.nilFunc] := by kernel_rfl
@[push_cast] theorem Tryd.el83 : elemI Tryd.prog 83 = none := by kernel_rfl
attribute [push_cast] Tryd.underlying83
@[push_cast] theorem Tryd.in83 : intI Tryd.prog 83 = none := by kernel_rfl
@[push_cast] theorem Tryd.st83 : isStr Tryd.prog 83 = false := by kernel_rfl
@[push_cast] theorem Tryd.by83 : isBytes Tryd.prog 83 = false := by kernel_rfl
@[push_cast] theorem Tryd.ty84 : tyI Tryd.prog 84 = some (1, false) := by kernel_rfl
@[push_cast] theorem Tryd.zl84 : zeroL Tryd.prog 84 = some [.slice none 0 0] := by kernel_rfl
@[push_cast] theorem Tryd.el84 : elemI Tryd.prog 84 = some (none, 1, false) := by kernel_rfl
@[push_cast] theorem Tryd.sl84 : slI Tryd.prog 84 = some (28, 1, 24) := by kernel_rfl
attribute [push_cast] Tryd.underlying84
@[push_cast] theorem Tryd.in84 : intI Tryd.prog 84 = none := by kernel_rfl
@[push_cast] theorem Tryd.st84 : isStr Tryd.prog 84 = false := by kernel_rfl
@[push_cast] theorem Tryd.by84 : isBytes Tryd.prog 84 = false := by kernel_rfl
@[push_cast] theorem Tryd.ty85 : tyI Tryd.prog 85 = some (1, false) := by kernel_rfl
@[push_cast] theorem Tryd.zl85 : zeroL Tryd.prog 85 = some [.nilFunc] := by kernel_rfl
@[push_cast] theorem Tryd.el85 : elemI Tryd.prog 85 = none := by kernel_rfl
attribute [push_cast] Tryd.underlying85
@[push_cast] theorem Tryd.in85 : intI Tryd.prog 85 = none := by kernel_rfl
@[push_cast] theorem Tryd.st85 : isStr Tryd.prog 85 = false := by kernel_rfl
@[push_cast] theorem Tryd.by85 : isBytes Tryd.prog 85 = false := by kernel_rfl
@[push_cast] theorem Tryd.ty86 : tyI Tryd.prog 86 = some (1, false) := by kernel_rfl
@[push_cast] theorem Tryd.zl86 : zeroL Tryd.prog 86 = some [.nilFunc] := by kernel_rfl
@[push_cast] theorem Tryd.el86 : elemI Tryd.prog 86 = none := by kernel_rfl
attribute [push_cast] Tryd.underlying86
@[push_cast] theorem Tryd.in86 : intI Tryd.prog 86 = none := by kernel_rfl
@[push_cast] theorem Tryd.st86 : isStr Tryd.prog 86 = false := by kernel_rfl
@[push_cast] theorem Tryd.by86 : isBytes Tryd.prog 86 = false := by kernel_rfl
@[push_cast] theorem Tryd.ty87 : tyI Tryd.prog 87 = some (1, false) := by kernel_rfl
@[push_cast] theorem Tryd.zl87 : zeroL Tryd.prog 87 = some [.nilFunc] := by kernel_rfl
@[push_cast] theorem Tryd.el87 : elemI Tryd.prog 87 = none := by kernel_rfl
attribute [push_cast] Tryd.underlying87
@[push_cast] theorem Tryd.in87 : intI Tryd.prog 87 = none := by kernel_rfl
@[push_cast] theorem Tryd.st87 : isStr Tryd.prog 87 = false := by kernel_rfl
@[push_cast] theorem Tryd.by87 : isBytes Tryd.prog 87 = false := by kernel_rfl
@[push_cast] theorem Tryd.ty88 : tyI Tryd.prog 88 = some (2, true) := by kernel_rfl
@[push_cast] theorem Tryd.zl88 : zeroL Tryd.prog 88 = some [.int .i64 0, .int .i64 0] := by kernel_rfl
@[push_cast] theorem Tryd.el88 : elemI Tryd.prog 88 = some (some 2, 1, false) := by kernel_rfl
attribute [push_cast] Tryd.underlying88
@[push_cast] theorem Tryd.in88 : intI Tryd.prog 88 = none := by kernel_rfl
@[push_cast] theorem Tryd.st88 : isStr Tryd.prog 88 = false := by kernel_rfl
@[push_cast] theorem Tryd.by88 : isBytes Tryd.prog 88 = false := by kernel_rfl
@[push_cast] theorem Tryd.pl88_0 : placeOf Tryd.prog 88 0 = some (0, 1) := by kernel_rfl
@[push_cast] theorem Tryd.pl88_1 : placeOf Tryd.prog 88 1 = some (1, 1) := by kernel_rfl
@[push_cast] theorem Tryd.fo88 : fieldsOk Tryd.prog 88 = true := by kernel_rfl
@[push_cast] theorem Tryd.fk88 : flatK Tryd.prog 12 88 = some [.i, .i] := by kernel_rfl
@[push_cast] theorem Tryd.eg88 : Program.eqGuardType Tryd.prog (Program.depth Tryd.prog) 88 = false := by kernel_rfl
@[push_cast] theorem Tryd.ty89 : tyI Tryd.prog 89 = some (1, false) := by kernel_rfl
@[push_cast] theorem Tryd.zl89 : zeroL Tryd.prog 89 = some [.nilFunc] := by kernel_rfl
@[push_cast] theorem Tryd.el89 : elemI Tryd.prog 89 = none := by kernel_rfl
attribute [push_cast] Tryd.underlying89
@[push_cast] theorem Tryd.in89 : intI Tryd.prog 89 = none := by kernel_rfl
@[push_cast] theorem Tryd.st89 : isStr Tryd.prog 89 = false := by kernel_rfl
@[push_cast] theorem Tryd.by89 : isBytes Tryd.prog 89 = false := by kernel_rfl
@[push_cast] theorem Tryd.ty90 : tyI Tryd.prog 90 = some (256, true) := by kernel_rfl
@[push_cast] theorem Tryd.el90 : elemI Tryd.prog 90 = some (some 256, 1, false) := by kernel_rfl
attribute [push_cast] Tryd.underlying90
@[push_cast] theorem Tryd.in90 : intI Tryd.prog 90 = none := by kernel_rfl
@[push_cast] theorem Tryd.st90 : isStr Tryd.prog 90 = false := by kernel_rfl
@[push_cast] theorem Tryd.by90 : isBytes Tryd.prog 90 = false := by kernel_rfl
@[push_cast] theorem Tryd.pl90_0 : placeOf Tryd.prog 90 0 = some (0, 1) := by kernel_rfl
@[push_cast] theorem Tryd.pl90_1 : placeOf Tryd.prog 90 1 = some (1, 1) := by kernel_rfl
@[push_cast] theorem Tryd.pl90_2 : placeOf Tryd.prog 90 2 = some (2, 1) := by kernel_rfl
@[push_cast] theorem Tryd.pl90_3 : placeOf Tryd.prog 90 3 = some (3, 1) := by kernel_rfl
@[push_cast] theorem Tryd.pl90_4 : placeOf Tryd.prog 90 4 = some (4, 1) := by kernel_rfl
@[push_cast] theorem Tryd.pl90_5 : placeOf Tryd.prog 90 5 = some (5, 1) := by kernel_rfl
@[push_cast] theorem Tryd.pl90_6 : placeOf Tryd.prog 90 6 = some (6, 1) := by kernel_rfl
@[push_cast] theorem Tryd.pl90_7 : placeOf Tryd.prog 90 7 = some (7, 1) := by kernel_rfl
@[push_cast] theorem Tryd.pl90_8 : placeOf Tryd.prog 90 8 = some (8, 1) := by kernel_rfl
@[push_cast] theorem Tryd.pl90_9 : placeOf Tryd.prog 90 9 = some (9, 1) := by kernel_rfl
@[push_cast] theorem Tryd.pl90_10 : placeOf Tryd.prog 90 10 = some (10, 1) := by kernel_rfl
@[push_cast] theorem Tryd.pl90_11 : placeOf Tryd.prog 90 11 = some (11, 1) := by kernel_rfl
@[push_cast] theorem Tryd.pl90_12 : placeOf Tryd.prog 90 12 = some (12, 1) := by kernel_rfl
@[push_cast] theorem Tryd.pl90_13 : placeOf Tryd.prog 90 13 = some (13, 1) := by kernel_rfl
@[push_cast] theorem Tryd.pl90_14 : placeOf Tryd.prog 90 14 = some (14, 1) := by kernel_rfl
@[push_cast] theorem Tryd.pl90_15 : placeOf Tryd.prog 90 15 = some (15, 1) := by kernel_rfl
@[push_cast] theorem Tryd.pl90_16 : placeOf Tryd.prog 90 16 = some (16, 1) := by kernel_rfl
@[push_cast] theorem Tryd.pl90_17 : placeOf Tryd.prog 90 17 = some (17, 1) := by kernel_rfl
@[push_cast] theorem Tryd.pl90_18 : placeOf Tryd.prog 90 18 = some (18, 1) := by kernel_rfl
@[push_cast] theorem Tryd.pl90_19 : placeOf Tryd.prog 90 19 = some (19, 1) := by kernel_rfl
@[push_cast] theorem Tryd.pl90_20 : placeOf Tryd.prog 90 20 = some (20, 1) := by kernel_rfl
@[push_cast] theorem Tryd.pl90_21 : placeOf Tryd.prog 90 21 = some (21, 1) := by kernel_rfl
@[push_cast] theorem Tryd.pl90_22 : placeOf Tryd.prog 90 22 = some (22, 1) := by kernel_rfl
@[push_cast] theorem Tryd.pl90_23 : placeOf Tryd.prog 90 23 = some (23, 1) := by kernel_rfl
@[push_cast] theorem Tryd.pl90_24 : placeOf Tryd.prog 90 24 = some (24, 1) := by kernel_rfl
@[push_cast] theorem Tryd.pl90_25 : placeOf Tryd.prog 90 25 = some (25, 1) := by kernel_rfl
@[push_cast] theorem Tryd.pl90_26 : placeOf Tryd.prog 90 26 = some (26, 1) := by kernel_rfl
@[push_cast] theorem Tryd.pl90_27 : placeOf Tryd.prog 90 27 = some (27, 1) := by kernel_rfl
@[push_cast] theorem Tryd.pl90_28 : placeOf Tryd.prog 90 28 = some (28, 1) := by kernel_rfl
@[push_cast] theorem Tryd.pl90_29 : placeOf Tryd.prog 90 29 = some (29, 1) := by kernel_rfl
@[push_cast] theorem Tryd.pl90_30 : placeOf Tryd.prog 90 30 = some (30, 1) := by kernel_rfl
@[push_cast] theorem Tryd.pl90_31 : placeOf Tryd.prog 90 31 = some (31, 1) := by kernel_rfl
@[push_cast] theorem Tryd.pl90_32 : placeOf Tryd.prog 90 32 = some (32, 1) := by kernel_rfl
@[push_cast] theorem Tryd.pl90_33 : placeOf Tryd.prog 90 33 = some (33, 1) := by kernel_rfl
@[push_cast] theorem Tryd.pl90_34 : placeOf Tryd.prog 90 34 = some (34, 1) := by kernel_rfl
@[push_cast] theorem Tryd.pl90_35 : placeOf Tryd.prog 90 35 = some (35, 1) := by kernel_rfl
@[push_cast] theorem Tryd.pl90_36 : placeOf Tryd.prog 90 36 = some (36, 1) := by kernel_rfl
@[push_cast] theorem Tryd.pl90_37 : placeOf Tryd.prog 90 37 = some (37, 1) := by kernel_rfl
@[push_cast] theorem Tryd.pl90_38 : placeOf Tryd.prog 90 38 = some (38, 1) := by kernel_rfl
@[push_cast] theorem Tryd.pl90_39 : placeOf Tryd.prog 90 39 = some (39, 1) := by kernel_rfl
@[push_cast] theorem Tryd.fo90 : fieldsOk Tryd.prog 90 = true := by kernel_rfl
@[push_cast] theorem Tryd.ty91 : tyI Tryd.prog 91 = some (256, true) := by kernel_rfl
@[push_cast] theorem Tryd.el91 : elemI Tryd.prog 91 = some (some 256, 1, false) := by kernel_rfl
attribute [push_cast] Tryd.underlying91
@[push_cast] theorem Tryd.in91 : intI Tryd.prog 91 = none := by kernel_rfl
@[push_cast] theorem Tryd.st91 : isStr Tryd.prog 91 = false := by kernel_rfl
@[push_cast] theorem Tryd.by91 : isBytes Tryd.prog 91 = false := by kernel_rfl
@[push_cast] theorem Tryd.pl91_0 : placeOf Tryd.prog 91 0 = some (0, 1) := by kernel_rfl
@[push_cast] theorem Tryd.pl91_1 : placeOf Tryd.prog 91 1 = some (1, 1) := by kernel_rfl
@[push_cast] theorem Tryd.pl91_2 : placeOf Tryd.prog 91 2 = some (2, 1) := by kernel_rfl
@[push_cast] theorem Tryd.pl91_3 : placeOf Tryd.prog 91 3 = some (3, 1) := by kernel_rfl
@[push_cast] theorem Tryd.pl91_4 : placeOf Tryd.prog 91 4 = some (4, 1) := by kernel_rfl
@[push_cast] theorem Tryd.pl91_5 : placeOf Tryd.prog 91 5 = some (5, 1) := by kernel_rfl
@[push_cast] theorem Tryd.pl91_6 : placeOf Tryd.prog 91 6 = some (6, 1) := by kernel_rfl
@[push_cast] theorem Tryd.pl91_7 : placeOf Tryd.prog 91 7 = some (7, 1) := by kernel_rfl
@[push_cast] theorem Tryd.pl91_8 : placeOf Tryd.prog 91 8 = some (8, 1) := by kernel_rfl
@[push_cast] theorem Tryd.pl91_9 : placeOf Tryd.prog 91 9 = some (9, 1) := by kernel_rfl
@[push_cast] theorem Tryd.pl91_10 : placeOf Tryd.prog 91 10 = some (10, 1) := by kernel_rfl
@[push_cast] theorem Tryd.pl91_11 : placeOf Tryd.prog 91 11 = some (11, 1) := by kernel_rfl
@[push_cast] theorem Tryd.pl91_12 : placeOf Tryd.prog 91 12 = some (12, 1) := by kernel_rfl
@[push_cast] theorem Tryd.pl91_13 : placeOf Tryd.prog 91 13 = some (13, 1) := by kernel_rfl
@[push_cast] theorem Tryd.pl91_14 : placeOf Tryd.prog 91 14 = some (14, 1) := by kernel_rfl
@[push_cast] theorem Tryd.pl91_15 : placeOf Tryd.prog 91 15 = some (15, 1) := by kernel_rfl
@[push_cast] theorem Tryd.pl91_16 : placeOf Tryd.prog 91 16 = some (16, 1) := by kernel_rfl
@[push_cast] theorem Tryd.pl91_17 : placeOf Tryd.prog 91 17 = some (17, 1) := by kernel_rfl
@[push_cast] theorem Tryd.pl91_18 : placeOf Tryd.prog 91 18 = some (18, 1) := by kernel_rfl
@[push_cast] theorem Tryd.pl91_19 : placeOf Tryd.prog 91 19 = some (19, 1) := by kernel_rfl
@[push_cast] theorem Tryd.pl91_20 : placeOf Tryd.prog 91 20 = some (20, 1) := by kernel_rfl
@[push_cast] theorem Tryd.pl91_21 : placeOf Tryd.prog 91 21 = some (21, 1) := by kernel_rfl
@[push_cast] theorem Tryd.pl91_22 : placeOf Tryd.prog 91 22 = some (22, 1) := by kernel_rfl
@[push_cast] theorem Tryd.pl91_23 : placeOf Tryd.prog 91 23 = some (23, 1) := by kernel_rfl
@[push_cast] theorem Tryd.pl91_24 : placeOf Tryd.prog 91 24 = some (24, 1) := by kernel_rfl
@[push_cast] theorem Tryd.pl91_25 : placeOf Tryd.prog 91 25 = some (25, 1) := by kernel_rfl
@[push_cast] theorem Tryd.pl91_26 : placeOf Tryd.prog 91 26 = some (26, 1) := by kernel_rfl
@[push_cast] theorem Tryd.pl91_27 : placeOf Tryd.prog 91 27 = some (27, 1) := by kernel_rfl
@[push_cast] theorem Tryd.pl91_28 : placeOf Tryd.prog 91 28 = some (28, 1) := by kernel_rfl
@[push_cast] theorem Tryd.pl91_29 : placeOf Tryd.prog 91 29 = some (29, 1) := by kernel_rfl
@[push_cast] theorem Tryd.pl91_30 : placeOf Tryd.prog 91 30 = some (30, 1) := by kernel_rfl
@[push_cast] theorem Tryd.pl91_31 : placeOf Tryd.prog 91 31 = some (31, 1) := by kernel_rfl
@[push_cast] theorem Tryd.pl91_32 : placeOf Tryd.prog 91 32 = some (32, 1) := by kernel_rfl
@[push_cast] theorem Tryd.pl91_33 : placeOf Tryd.prog 91 33 = some (33, 1) := by kernel_rfl
@[push_cast] theorem Tryd.pl91_34 : placeOf Tryd.prog 91 34 = some (34, 1) := by kernel_rfl
@[push_cast] theorem Tryd.pl91_35 : placeOf Tryd.prog 91 35 = some (35, 1) := by kernel_rfl
@[push_cast] theorem Tryd.pl91_36 : placeOf Tryd.prog 91 36 = some (36, 1) := by kernel_rfl
@[push_cast] theorem Tryd.pl91_37 : placeOf Tryd.prog 91 37 = some (37, 1) := by kernel_rfl
@[push_cast] theorem Tryd.pl91_38 : placeOf Tryd.prog 91 38 = some (38, 1) := by kernel_rfl
@[push_cast] theorem Tryd.pl91_39 : placeOf Tryd.prog 91 39 = some (39, 1) := by kernel_rfl
@[push_cast] theorem Tryd.fo91 : fieldsOk Tryd.prog 91 = true := by kernel_rfl
@[push_cast] theorem Tryd.ty92 : tyI Tryd.prog 92 = some (1, false) := by kernel_rfl
@[push_cast] theorem Tryd.el92 : elemI Tryd.prog 92 = none := by kernel_rfl
attribute [push_cast] Tryd.underlying92
@[push_cast] theorem Tryd.in92 : intI Tryd.prog 92 = none := by kernel_rfl
@[push_cast] theorem Tryd.st92 : isStr Tryd.prog 92 = false := by kernel_rfl
@[push_cast] theorem Tryd.by92 : isBytes Tryd.prog 92 = false := by kernel_rfl
@[push_cast] theorem Tryd.ty93 : tyI Tryd.prog 93 = some (1, false) := by kernel_rfl
@[push_cast] theorem Tryd.zl93 : zeroL Tryd.prog 93 = some [.nilFunc] := by kernel_rfl
@[push_cast] theorem Tryd.el93 : elemI Tryd.prog 93 = none := by kernel_rfl
attribute [push_cast] Tryd.underlying93
@[push_cast] theorem Tryd.in93 : intI Tryd.prog 93 = none := by kernel_rfl
@[push_cast] theorem Tryd.st93 : isStr Tryd.prog 93 = false := by kernel_rfl
@[push_cast] theorem Tryd.by93 : isBytes Tryd.prog 93 = false := by kernel_rfl
@[push_cast] theorem Tryd.ty94 : tyI Tryd.prog 94 = some (1, false) := by kernel_rfl
@[push_cast] theorem Tryd.zl94 : zeroL Tryd.prog 94 = some [.nilFunc] := by kernel_rfl
@[push_cast] theorem Tryd.el94 : elemI Tryd.prog 94 = none := by kernel_rfl
attribute [push_cast] Tryd.underlying94
@[push_cast] theorem Tryd.in94 : intI Tryd.prog 94 = none := by kernel_rfl
@[push_cast] theorem Tryd.st94 : isStr Tryd.prog 94 = false := by kernel_rfl
@[push_cast] theorem Tryd.by94 : isBytes Tryd.prog 94 = false := by kernel_rfl
@[push_cast] theorem Tryd.ty95 : tyI Tryd.prog 95 = some (1, false) := by kernel_rfl
@[push_cast] theorem Tryd.zl95 : zeroL Tryd.prog 95 = some [.pointer none] := by kernel_rfl
@[push_cast] theorem Tryd.el95 : elemI Tryd.prog 95 = none := by kernel_rfl
attribute [push_cast] Tryd.underlying95
@[push_cast] theorem Tryd.in95 : intI Tryd.prog 95 = none := by kernel_rfl
@[push_cast] theorem Tryd.st95 : isStr Tryd.prog 95 = false := by kernel_rfl
@[push_cast] theorem Tryd.by95 : isBytes Tryd.prog 95 = false := by kernel_rfl
@[push_cast] theorem Tryd.ty96 : tyI Tryd.prog 96 = some (1, false) := by kernel_rfl
@[push_cast] theorem Tryd.zl96 : zeroL Tryd.prog 96 = some [.nilFunc] := by kernel_rfl
@[push_cast] theorem Tryd.el96 : elemI Tryd.prog 96 = none := by kernel_rfl
attribute [push_cast] Tryd.underlying96
@[push_cast] theorem Tryd.in96 : intI Tryd.prog 96 = none := by kernel_rfl
@[push_cast] theorem Tryd.st96 : isStr Tryd.prog 96 = false := by kernel_rfl
@[push_cast] theorem Tryd.by96 : isBytes Tryd.prog 96 = false := by kernel_rfl
@[push_cast] theorem Tryd.ty97 : tyI Tryd.prog 97 = some (1, false) := by kernel_rfl
@[push_cast] theorem Tryd.zl97 : zeroL Tryd.prog 97 = some [.nilFunc] := by kernel_rfl
@[push_cast] theorem Tryd.el97 : elemI Tryd.prog 97 = none := by kernel_rfl
attribute [push_cast] Tryd.underlying97
@[push_cast] theorem Tryd.in97 : intI Tryd.prog 97 = none := by kernel_rfl
@[push_cast] theorem Tryd.st97 : isStr Tryd.prog 97 = false := by kernel_rfl
@[push_cast] theorem Tryd.by97 : isBytes Tryd.prog 97 = false := by kernel_rfl
@[push_cast] theorem Tryd.ty98 : tyI Tryd.prog 98 = some (1, false) := by kernel_rfl
@[push_cast] theorem Tryd.zl98 : zeroL Tryd.prog 98 = some [.nilFunc] := by kernel_rfl
@[push_cast] theorem Tryd.el98 : elemI Tryd.prog 98 = none := by kernel_rfl
attribute [push_cast] Tryd.underlying98
@[push_cast] theorem Tryd.in98 : intI Tryd.prog 98 = none := by kernel_rfl
@[push_cast] theorem Tryd.st98 : isStr Tryd.prog 98 = false := by kernel_rfl
@[push_cast] theorem Tryd.by98 : isBytes Tryd.prog 98 = false := by kernel_rfl
@[push_cast] theorem Tryd.ty99 : tyI Tryd.prog 99 = some (1, false) := by kernel_rfl
@[push_cast] theorem Tryd.zl99 : zeroL Tryd.prog 99 = some [.nilFunc] := by kernel_rfl
@[push_cast] theorem Tryd.el99 : elemI Tryd.prog 99 = none := by kernel_rfl
attribute [push_cast] Tryd.underlying99
@[push_cast] theorem Tryd.in99 : intI Tryd.prog 99 = none := by kernel_rfl
@[push_cast] theorem Tryd.st99 : isStr Tryd.prog 99 = false := by kernel_rfl
@[push_cast] theorem Tryd.by99 : isBytes Tryd.prog 99 = false := by kernel_rfl
@[push_cast] theorem Tryd.ty100 : tyI Tryd.prog 100 = some (1, false) := by kernel_rfl
@[push_cast] theorem Tryd.zl100 : zeroL Tryd.prog 100 = some [.nilFunc] := by kernel_rfl
@[push_cast] theorem Tryd.el100 : elemI Tryd.prog 100 = none := by kernel_rfl
attribute [push_cast] Tryd.underlying100
@[push_cast] theorem Tryd.in100 : intI Tryd.prog 100 = none := by kernel_rfl
@[push_cast] theorem Tryd.st100 : isStr Tryd.prog 100 = false := by kernel_rfl
@[push_cast] theorem Tryd.by100 : isBytes Tryd.prog 100 = false := by kernel_rfl
@[push_cast] theorem Tryd.ty101 : tyI Tryd.prog 101 = some (1, false) := by kernel_rfl
@[push_cast] theorem Tryd.zl101 : zeroL Tryd.prog 101 = some [.nilFunc] := by kernel_rfl
@[push_cast] theorem Tryd.el101 : elemI Tryd.prog 101 = none := by kernel_rfl
attribute [push_cast] Tryd.underlying101
@[push_cast] theorem Tryd.in101 : intI Tryd.prog 101 = none := by kernel_rfl
@[push_cast] theorem Tryd.st101 : isStr Tryd.prog 101 = false := by kernel_rfl
@[push_cast] theorem Tryd.by101 : isBytes Tryd.prog 101 = false := by kernel_rfl
@[push_cast] theorem Tryd.ty102 : tyI Tryd.prog 102 = some (1, false) := by kernel_rfl
@[push_cast] theorem Tryd.zl102 : zeroL Tryd.prog 102 = some [.nilFunc] := by kernel_rfl
@[push_cast] theorem Tryd.el102 : elemI Tryd.prog 102 = none := by kernel_rfl
attribute [push_cast] Tryd.underlying102
@[push_cast] theorem Tryd.in102 : intI Tryd.prog 102 = none := by kernel_rfl
@[push_cast] theorem Tryd.st102 : isStr Tryd.prog 102 = false := by kernel_rfl
@[push_cast] theorem Tryd.by102 : isBytes Tryd.prog 102 = false := by kernel_rfl
@[push_cast] theorem Tryd.ty103 : tyI Tryd.prog 103 = some (1, false) := by kernel_rfl
@[push_cast] theorem Tryd.el103 : elemI Tryd.prog 103 = none := by kernel_rfl
attribute [push_cast] Tryd.underlying103
@[push_cast] theorem Tryd.in103 : intI Tryd.prog 103 = none := by kernel_rfl
@[push_cast] theorem Tryd.st103 : isStr Tryd.prog 103 = false := by kernel_rfl
@[push_cast] theorem Tryd.by103 : isBytes Tryd.prog 103 = false := by kernel_rfl
@[push_cast] theorem Tryd.ty104 : tyI Tryd.prog 104 = some (1, false) := by kernel_rfl
@[push_cast] theorem Tryd.zl104 : zeroL Tryd.prog 104 = some [.nilFunc] := by kernel_rfl
@[push_cast] theorem Tryd.el104 : elemI Tryd.prog 104 = none := by kernel_rfl
attribute [push_cast] Tryd.underlying104
@[push_cast] theorem Tryd.in104 : intI Tryd.prog 104 = none := by kernel_rfl
@[push_cast] theorem Tryd.st104 : isStr Tryd.prog 104 = false := by kernel_rfl
@[push_cast] theorem Tryd.by104 : isBytes Tryd.prog 104 = false := by kernel_rfl
@[push_cast] theorem Tryd.ty105 : tyI Tryd.prog 105 = some (1, false) := by kernel_rfl
@[push_cast] theorem Tryd.zl105 : zeroL Tryd.prog 105 = some [.nilFunc] := by kernel_rfl
@[push_cast] theorem Tryd.el105 : elemI Tryd.prog 105 = none := by kernel_rfl
attribute [push_cast] Tryd.underlying105
@[push_cast] theorem Tryd.in105 : intI Tryd.prog 105 = none := by kernel_rfl
@[push_cast] theorem Tryd.st105 : isStr Tryd.prog 105 = false := by kernel_rfl
@[push_cast] theorem Tryd.by105 : isBytes Tryd.prog 105 = false := by kernel_rfl
@[push_cast] theorem Tryd.ty106 : tyI Tryd.prog 106 = some (1, false) := by kernel_rfl
@[push_cast] theorem Tryd.zl106 : zeroL Tryd.prog 106 = some [.nilFunc] := by kernel_rfl
@[push_cast] theorem Tryd.el106 : elemI Tryd.prog 106 = none := by kernel_rfl
attribute [push_cast] Tryd.underlying106
@[push_cast] theorem Tryd.in106 : intI Tryd.prog 106 = none := by kernel_rfl
@[push_cast] theorem Tryd.st106 : isStr Tryd.prog 106 = false := by kernel_rfl
@[push_cast] theorem Tryd.by106 : isBytes Tryd.prog 106 = false := by kernel_rfl
@[push_cast] theorem Tryd.ty107 : tyI Tryd.prog 107 = some (1, false) := by kernel_rfl
@[push_cast] theorem Tryd.zl107 : zeroL Tryd.prog 107 = some [.nilFunc] := by kernel_rfl
@[push_cast] theorem Tryd.el107 : elemI Tryd.prog 107 = none := by kernel_rfl
attribute [push_cast] Tryd.underlying107
@[push_cast] theorem Tryd.in107 : intI Tryd.prog 107 = none := by kernel_rfl
@[push_cast] theorem Tryd.st107 : isStr Tryd.prog 107 = false := by kernel_rfl
@[push_cast] theorem Tryd.by107 : isBytes Tryd.prog 107 = false := by kernel_rfl
@[push_cast] theorem Tryd.ty108 : tyI Tryd.prog 108 = some (1, false) := by kernel_rfl
@[push_cast] theorem Tryd.zl108 : zeroL Tryd.prog 108 = some [.nilFunc] := by kernel_rfl
@[push_cast] theorem Tryd.el108 : elemI Tryd.prog 108 = none := by kernel_rfl
attribute [push_cast] Tryd.underlying108
@[push_cast] theorem Tryd.in108 : intI Tryd.prog 108 = none := by kernel_rfl
@[push_cast] theorem Tryd.st108 : isStr Tryd.prog 108 = false := by kernel_rfl
@[push_cast] theorem Tryd.by108 : isBytes Tryd.prog 108 = false := by kernel_rfl
@[push_cast] theorem Tryd.ty109 : tyI Tryd.prog 109 = some (1, false) := by kernel_rfl
@[push_cast] theorem Tryd.zl109 : zeroL Tryd.prog 109 = some [.nilFunc] := by kernel_rfl
@[push_cast] theorem Tryd.el109 : elemI Tryd.prog 109 = none := by kernel_rfl
attribute [push_cast] Tryd.underlying109
@[push_cast] theorem Tryd.in109 : intI Tryd.prog 109 = none := by kernel_rfl
@[push_cast] theorem Tryd.st109 : isStr Tryd.prog 109 = false := by kernel_rfl
@[push_cast] theorem Tryd.by109 : isBytes Tryd.prog 109 = false := by kernel_rfl
@[push_cast] theorem Tryd.ty110 : tyI Tryd.prog 110 = some (256, true) := by kernel_rfl
@[push_cast] theorem Tryd.el110 : elemI Tryd.prog 110 = some (some 256, 1, false) := by kernel_rfl
attribute [push_cast] Tryd.underlying110
@[push_cast] theorem Tryd.in110 : intI Tryd.prog 110 = none := by kernel_rfl
@[push_cast] theorem Tryd.st110 : isStr Tryd.prog 110 = false := by kernel_rfl
@[push_cast] theorem Tryd.by110 : isBytes Tryd.prog 110 = false := by kernel_rfl
@[push_cast] theorem Tryd.pl110_0 : placeOf Tryd.prog 110 0 = some (0, 1) := by kernel_rfl
@[push_cast] theorem Tryd.pl110_1 : placeOf Tryd.prog 110 1 = some (1, 1) := by kernel_rfl
@[push_cast] theorem Tryd.pl110_2 : placeOf Tryd.prog 110 2 = some (2, 1) := by kernel_rfl
@[push_cast] theorem Tryd.pl110_3 : placeOf Tryd.prog 110 3 = some (3, 1) := by kernel_rfl
@[push_cast] theorem Tryd.pl110_4 : placeOf Tryd.prog 110 4 = some (4, 1) := by kernel_rfl
@[push_cast] theorem Tryd.pl110_5 : placeOf Tryd.prog 110 5 = some (5, 1) := by kernel_rfl
@[push_cast] theorem Tryd.pl110_6 : placeOf Tryd.prog 110 6 = some (6, 1) := by kernel_rfl
@[push_cast] theorem Tryd.pl110_7 : placeOf Tryd.prog 110 7 = some (7, 1) := by kernel_rfl
@[push_cast] theorem Tryd.pl110_8 : placeOf Tryd.prog 110 8 = some (8, 1) := by kernel_rfl
@[push_cast] theorem Tryd.pl110_9 : placeOf Tryd.prog 110 9 = some (9, 1) := by kernel_rfl
@[push_cast] theorem Tryd.pl110_10 : placeOf Tryd.prog 110 10 = some (10, 1) := by kernel_rfl
@[push_cast] theorem Tryd.pl110_11 : placeOf Tryd.prog 110 11 = some (11, 1) := by kernel_rfl
@[push_cast] theorem Tryd.pl110_12 : placeOf Tryd.prog 110 12 = some (12, 1) := by kernel_rfl
@[push_cast] theorem Tryd.pl110_13 : placeOf Tryd.prog 110 13 = some (13, 1) := by kernel_rfl
@[push_cast] theorem Tryd.pl110_14 : placeOf Tryd.prog 110 14 = some (14, 1) := by kernel_rfl
@[push_cast] theorem Tryd.pl110_15 : placeOf Tryd.prog 110 15 = some (15, 1) := by kernel_rfl
@[push_cast] theorem Tryd.pl110_16 : placeOf Tryd.prog 110 16 = some (16, 1) := by kernel_rfl
@[push_cast] theorem Tryd.pl110_17 : placeOf Tryd.prog 110 17 = some (17, 1) := by kernel_rfl
@[push_cast] theorem Tryd.pl110_18 : placeOf Tryd.prog 110 18 = some (18, 1) := by kernel_rfl
@[push_cast] theorem Tryd.pl110_19 : placeOf Tryd.prog 110 19 = some (19, 1) := by kernel_rfl
@[push_cast] theorem Tryd.pl110_20 : placeOf Tryd.prog 110 20 = some (20, 1) := by kernel_rfl
@[push_cast] theorem Tryd.pl110_21 : placeOf Tryd.prog 110 21 = some (21, 1) := by kernel_rfl
@[push_cast] theorem Tryd.pl110_22 : placeOf Tryd.prog 110 22 = some (22, 1) := by kernel_rfl
@[push_cast] theorem Tryd.pl110_23 : placeOf Tryd.prog 110 23 = some (23, 1) := by kernel_rfl
@[push_cast] theorem Tryd.pl110_24 : placeOf Tryd.prog 110 24 = some (24, 1) := by kernel_rfl
@[push_cast] theorem Tryd.pl110_25 : placeOf Tryd.prog 110 25 = some (25, 1) := by kernel_rfl
@[push_cast] theorem Tryd.pl110_26 : placeOf Tryd.prog 110 26 = some (26, 1) := by kernel_rfl
@[push_cast] theorem Tryd.pl110_27 : placeOf Tryd.prog 110 27 = some (27, 1) := by kernel_rfl
@[push_cast] theorem Tryd.pl110_28 : placeOf Tryd.prog 110 28 = some (28, 1) := by kernel_rfl
@[push_cast] theorem Tryd.pl110_29 : placeOf Tryd.prog 110 29 = some (29, 1) := by kernel_rfl
@[push_cast] theorem Tryd.pl110_30 : placeOf Tryd.prog 110 30 = some (30, 1) := by kernel_rfl
@[push_cast] theorem Tryd.pl110_31 : placeOf Tryd.prog 110 31 = some (31, 1) := by kernel_rfl
@[push_cast] theorem Tryd.pl110_32 : placeOf Tryd.prog 110 32 = some (32, 1) := by kernel_rfl
@[push_cast] theorem Tryd.pl110_33 : placeOf Tryd.prog 110 33 = some (33, 1) := by kernel_rfl
@[push_cast] theorem Tryd.pl110_34 : placeOf Tryd.prog 110 34 = some (34, 1) := by kernel_rfl
@[push_cast] theorem Tryd.pl110_35 : placeOf Tryd.prog 110 35 = some (35, 1) := by kernel_rfl
@[push_cast] theorem Tryd.pl110_36 : placeOf Tryd.prog 110 36 = some (36, 1) := by kernel_rfl
@[push_cast] theorem Tryd.pl110_37 : placeOf Tryd.prog 110 37 = some (37, 1) := by kernel_rfl
@[push_cast] theorem Tryd.pl110_38 : placeOf Tryd.prog 110 38 = some (38, 1) := by kernel_rfl
@[push_cast] theorem Tryd.pl110_39 : placeOf Tryd.prog 110 39 = some (39, 1) := by kernel_rfl
@[push_cast] theorem Tryd.fo110 : fieldsOk Tryd.prog 110 = true := by kernel_rfl
@[push_cast] theorem Tryd.ty111 : tyI Tryd.prog 111 = some (1, false) := by kernel_rfl
@[push_cast] theorem Tryd.zl111 : zeroL Tryd.prog 111 = some [.int .u64 0] := by kernel_rfl
@[push_cast] theorem Tryd.el111 : elemI Tryd.prog 111 = none := by kernel_rfl
attribute [push_cast] Tryd.underlying111
@[push_cast] theorem Tryd.in111 : intI Tryd.prog 111 = some .u64 := by kernel_rfl
@[push_cast] theorem Tryd.st111 : isStr Tryd.prog 111 = false := by kernel_rfl
@[push_cast] theorem Tryd.by111 : isBytes Tryd.prog 111 = false := by kernel_rfl
@[push_cast] theorem Tryd.ty112 : tyI Tryd.prog 112 = some (2, true) := by kernel_rfl
@[push_cast] theorem Tryd.zl112 : zeroL Tryd.prog 112 = some [.int .u8 0, .int .u8 0] := by kernel_rfl
@[push_cast] theorem Tryd.el112 : elemI Tryd.prog 112 = none := by kernel_rfl
attribute [push_cast] Tryd.underlying112
@[push_cast] theorem Tryd.in112 : intI Tryd.prog 112 = none := by kernel_rfl
@[push_cast] theorem Tryd.st112 : isStr Tryd.prog 112 = false := by kernel_rfl
@[push_cast] theorem Tryd.by112 : isBytes Tryd.prog 112 = false := by kernel_rfl
@[push_cast] theorem Tryd.fi112_0 : fieldI Tryd.prog 112 0 = some (0, 1, false) := by kernel_rfl
@[push_cast] theorem Tryd.pl112_0 : placeOf Tryd.prog 112 0 = some (0, 1) := by kernel_rfl
@[push_cast] theorem Tryd.fi112_1 : fieldI Tryd.prog 112 1 = some (1, 1, false) := by kernel_rfl
@[push_cast] theorem Tryd.pl112_1 : placeOf Tryd.prog 112 1 = some (1, 1) := by kernel_rfl
@[push_cast] theorem Tryd.fo112 : fieldsOk Tryd.prog 112 = true := by kernel_rfl
@[push_cast] theorem Tryd.fk112 : flatK Tryd.prog 12 112 = some [.i, .i] := by kernel_rfl
@[push_cast] theorem Tryd.eg112 : Program.eqGuardType Tryd.prog (Program.depth Tryd.prog) 112 = false := by kernel_rfl
@[push_cast] theorem Tryd.ty113 : tyI Tryd.prog 113 = some (2, true) := by kernel_rfl
@[push_cast] theorem Tryd.zl113 : zeroL Tryd.prog 113 = some [.int .u8 0, .int .u8 0] := by kernel_rfl
@[push_cast] theorem Tryd.el113 : elemI Tryd.prog 113 = none := by kernel_rfl
attribute [push_cast] Tryd.underlying113
@[push_cast] theorem Tryd.in113 : intI Tryd.prog 113 = none := by kernel_rfl
@[push_cast] theorem Tryd.st113 : isStr Tryd.prog 113 = false := by kernel_rfl
@[push_cast] theorem Tryd.by113 : isBytes Tryd.prog 113 = false := by kernel_rfl
@[push_cast] theorem Tryd.fi113_0 : fieldI Tryd.prog 113 0 = some (0, 1, false) := by kernel_rfl
@[push_cast] theorem Tryd.pl113_0 : placeOf Tryd.prog 113 0 = some (0, 1) := by kernel_rfl
@[push_cast] theorem Tryd.fi113_1 : fieldI Tryd.prog 113 1 = some (1, 1, false) := by kernel_rfl
@[push_cast] theorem Tryd.pl113_1 : placeOf Tryd.prog 113 1 = some (1, 1) := by kernel_rfl
@[push_cast] theorem Tryd.fo113 : fieldsOk Tryd.prog 113 = true := by kernel_rfl
@[push_cast] theorem Tryd.fk113 : flatK Tryd.prog 12 113 = some [.i, .i] := by kernel_rfl
@[push_cast] theorem Tryd.eg113 : Program.eqGuardType Tryd.prog (Program.depth Tryd.prog) 113 = false := by kernel_rfl
@[push_cast] theorem Tryd.ty114 : tyI Tryd.prog 114 = some (32, true) := by kernel_rfl
@[push_cast] theorem Tryd.zl114 : zeroL Tryd.prog 114 = some [.int .u8 0, .int .u8 0, .int .u8 0, .int .u8 0, .int .u8 0, .int .u8 0, .int .u8 0, .int .u8 0, .int .u8 0, .int .u8 0, .int .u8 0, .int .u8 0, .int .u8 0, .int .u8 0, .int .u8 0, .int .u8 0, .int .u8 0, .int .u8 0, .int .u8 0, .int .u8 0, .int .u8 0, .int .u8 0, .int .u8 0, .int .u8 0, .int .u8 0, .int .u8 0, .int .u8 0, .int .u8 0, .int .u8 0, .int .u8 0, .int .u8 0, .int .u8 0] := by kernel_rfl
@[push_cast] theorem Tryd.el114 : elemI Tryd.prog 114 = some (some 16, 2, true) := by kernel_rfl
attribute [push_cast] Tryd.underlying114
@[push_cast] theorem Tryd.in114 : intI Tryd.prog 114 = none := by kernel_rfl
@[push_cast] theorem Tryd.st114 : isStr Tryd.prog 114 = false := by kernel_rfl
@[push_cast] theorem Tryd.by114 : isBytes Tryd.prog 114 = false := by kernel_rfl
@[push_cast] theorem Tryd.pl114_0 : placeOf Tryd.prog 114 0 = some (0, 2) := by kernel_rfl
@[push_cast] theorem Tryd.pl114_1 : placeOf Tryd.prog 114 1 = some (2, 2) := by kernel_rfl
@[push_cast] theorem Tryd.pl114_2 : placeOf Tryd.prog 114 2 = some (4, 2) := by kernel_rfl
@[push_cast] theorem Tryd.pl114_3 : placeOf Tryd.prog 114 3 = some (6, 2) := by kernel_rfl
@[push_cast] theorem Tryd.pl114_4 : placeOf Tryd.prog 114 4 = some (8, 2) := by kernel_rfl
@[push_cast] theorem Tryd.pl114_5 : placeOf Tryd.prog 114 5 = some (10, 2) := by kernel_rfl
@[push_cast] theorem Tryd.pl114_6 : placeOf Tryd.prog 114 6 = some (12, 2) := by kernel_rfl
@[push_cast] theorem Tryd.pl114_7 : placeOf Tryd.prog 114 7 = some (14, 2) := by kernel_rfl
@[push_cast] theorem Tryd.pl114_8 : placeOf Tryd.prog 114 8 = some (16, 2) := by kernel_rfl
@[push_cast] theorem Tryd.pl114_9 : placeOf Tryd.prog 114 9 = some (18, 2) := by kernel_rfl
@[push_cast] theorem Tryd.pl114_10 : placeOf Tryd.prog 114 10 = some (20, 2) := by kernel_rfl
@[push_cast] theorem Tryd.pl114_11 : placeOf Tryd.prog 114 11 = some (22, 2) := by kernel_rfl
@[push_cast] theorem Tryd.pl114_12 : placeOf Tryd.prog 114 12 = some (24, 2) := by kernel_rfl
@[push_cast] theorem Tryd.pl114_13 : placeOf Tryd.prog 114 13 = some (26, 2) := by kernel_rfl
@[push_cast] theorem Tryd.pl114_14 : placeOf Tryd.prog 114 14 = some (28, 2) := by kernel_rfl
@[push_cast] theorem Tryd.pl114_15 : placeOf Tryd.prog 114 15 = some (30, 2) := by kernel_rfl
@[push_cast] theorem Tryd.fo114 : fieldsOk Tryd.prog 114 = true := by kernel_rfl
@[push_cast] theorem Tryd.fk114 : flatK Tryd.prog 12 114 = some [.i, .i, .i, .i, .i, .i, .i, .i, .i, .i, .i, .i, .i, .i, .i, .i, .i, .i, .i, .i, .i, .i, .i, .i, .i, .i, .i, .i, .i, .i, .i, .i] := by kernel_rfl
@[push_cast] theorem Tryd.eg114 : Program.eqGuardType Tryd.prog (Program.depth Tryd.prog) 114 = false := by kernel_rfl
@[push_cast] theorem Tryd.ty115 : tyI Tryd.prog 115 = some (1, false) := by kernel_rfl
@[push_cast] theorem Tryd.zl115 : zeroL Tryd.prog 115 = some [.nilFunc] := by kernel_rfl
@[push_cast] theorem Tryd.el115 : elemI Tryd.prog 115 = none := by kernel_rfl
attribute [push_cast] Tryd.underlying115
@[push_cast] theorem Tryd.in115 : intI Tryd.prog 115 = none := by kernel_rfl
@[push_cast] theorem Tryd.st115 : isStr Tryd.prog 115 = false := by kernel_rfl
@[push_cast] theorem Tryd.by115 : isBytes Tryd.prog 115 = false := by kernel_rfl
@[push_cast] theorem Tryd.ty116 : tyI Tryd.prog 116 = some (1, false) := by kernel_rfl
@[push_cast] theorem Tryd.zl116 : zeroL Tryd.prog 116 = some [.nilFunc] := by kernel_rfl
@[push_cast] theorem Tryd.el116 : elemI Tryd.prog 116 = none := by kernel_rfl
attribute [push_cast] Tryd.underlying116
@[push_cast] theorem Tryd.in116 : intI Tryd.prog 116 = none := by kernel_rfl
@[push_cast] theorem Tryd.st116 : isStr Tryd.prog 116 = false := by kernel_rfl
@[push_cast] theorem Tryd.by116 : isBytes Tryd.prog 116 = false := by kernel_rfl
@[push_cast] theorem Tryd.ty117 : tyI Tryd.prog 117 = some (1, false) := by kernel_rfl
@[push_cast] theorem Tryd.zl117 : zeroL Tryd.prog 117 = some [.nilFunc] := by kernel_rfl
@[push_cast] theorem Tryd.el117 : elemI Tryd.prog 117 = none := by kernel_rfl
attribute [push_cast] Tryd.underlying117
@[push_cast] theorem Tryd.in117 : intI Tryd.prog 117 = none := by kernel_rfl
@[push_cast] theorem Tryd.st117 : isStr Tryd.prog 117 = false := by kernel_rfl
@[push_cast] theorem Tryd.by117 : isBytes Tryd.prog 117 = false := by kernel_rfl
@[push_cast] theorem Tryd.ty118 : tyI Tryd.prog 118 = some (1, false) := by kernel_rfl
@[push_cast] theorem Tryd.zl118 : zeroL Tryd.prog 118 = some [.nilFunc] := by kernel_rfl
@[push_cast] theorem Tryd.el118 : elemI Tryd.prog 118 = none := by kernel_rfl
attribute [push_cast] Tryd.underlying118
@[push_cast] theorem Tryd.in118 : intI Tryd.prog 118 = none := by kernel_rfl
@[push_cast] theorem Tryd.st118 : isStr Tryd.prog 118 = false := by kernel_rfl
@[push_cast] theorem Tryd.by118 : isBytes Tryd.prog 118 = false := by kernel_rfl
@[push_cast] theorem Tryd.ty119 : tyI Tryd.prog 119 = some (4, true) := by kernel_rfl
@[push_cast] theorem Tryd.zl119 : zeroL Tryd.prog 119 = some [.pointer none, .pointer none, .pointer none, .string ByteArray.empty] := by kernel_rfl
@[push_cast] theorem Tryd.el119 : elemI Tryd.prog 119 = none := by kernel_rfl
attribute [push_cast] Tryd.underlying119
@[push_cast] theorem Tryd.in119 : intI Tryd.prog 119 = none := by kernel_rfl
@[push_cast] theorem Tryd.st119 : isStr Tryd.prog 119 = false := by kernel_rfl
@[push_cast] theorem Tryd.by119 : isBytes Tryd.prog 119 = false := by kernel_rfl
@[push_cast] theorem Tryd.fi119_0 : fieldI Tryd.prog 119 0 = some (0, 1, false) := by kernel_rfl
@[push_cast] theorem Tryd.pl119_0 : placeOf Tryd.prog 119 0 = some (0, 1) := by kernel_rfl
@[push_cast] theorem Tryd.fi119_1 : fieldI Tryd.prog 119 1 = some (1, 1, false) := by kernel_rfl
@[push_cast] theorem Tryd.pl119_1 : placeOf Tryd.prog 119 1 = some (1, 1) := by kernel_rfl
@[push_cast] theorem Tryd.fi119_2 : fieldI Tryd.prog 119 2 = some (2, 1, false) := by kernel_rfl
@[push_cast] theorem Tryd.pl119_2 : placeOf Tryd.prog 119 2 = some (2, 1) := by kernel_rfl
@[push_cast] theorem Tryd.fi119_3 : fieldI Tryd.prog 119 3 = some (3, 1, false) := by kernel_rfl
@[push_cast] theorem Tryd.pl119_3 : placeOf Tryd.prog 119 3 = some (3, 1) := by kernel_rfl
@[push_cast] theorem Tryd.fo119 : fieldsOk Tryd.prog 119 = true := by kernel_rfl
@[push_cast] theorem Tryd.ty120 : tyI Tryd.prog 120 = some (4, true) := by kernel_rfl
@[push_cast] theorem Tryd.zl120 : zeroL Tryd.prog 120 = some [.pointer none, .pointer none, .pointer none, .string ByteArray.empty] := by kernel_rfl
@[push_cast] theorem Tryd.el120 : elemI Tryd.prog 120 = none := by kernel_rfl
attribute [push_cast] Tryd.underlying120
@[push_cast] theorem Tryd.in120 : intI Tryd.prog 120 = none := by kernel_rfl
@[push_cast] theorem Tryd.st120 : isStr Tryd.prog 120 = false := by kernel_rfl
@[push_cast] theorem Tryd.by120 : isBytes Tryd.prog 120 = false := by kernel_rfl
@[push_cast] theorem Tryd.fi120_0 : fieldI Tryd.prog 120 0 = some (0, 1, false) := by kernel_rfl
@[push_cast] theorem Tryd.pl120_0 : placeOf Tryd.prog 120 0 = some (0, 1) := by kernel_rfl
@[push_cast] theorem Tryd.fi120_1 : fieldI Tryd.prog 120 1 = some (1, 1, false) := by kernel_rfl
@[push_cast] theorem Tryd.pl120_1 : placeOf Tryd.prog 120 1 = some (1, 1) := by kernel_rfl
@[push_cast] theorem Tryd.fi120_2 : fieldI Tryd.prog 120 2 = some (2, 1, false) := by kernel_rfl
@[push_cast] theorem Tryd.pl120_2 : placeOf Tryd.prog 120 2 = some (2, 1) := by kernel_rfl
@[push_cast] theorem Tryd.fi120_3 : fieldI Tryd.prog 120 3 = some (3, 1, false) := by kernel_rfl
@[push_cast] theorem Tryd.pl120_3 : placeOf Tryd.prog 120 3 = some (3, 1) := by kernel_rfl
@[push_cast] theorem Tryd.fo120 : fieldsOk Tryd.prog 120 = true := by kernel_rfl
@[push_cast] theorem Tryd.ty121 : tyI Tryd.prog 121 = some (0, true) := by kernel_rfl
@[push_cast] theorem Tryd.zl121 : zeroL Tryd.prog 121 = some [] := by kernel_rfl
@[push_cast] theorem Tryd.el121 : elemI Tryd.prog 121 = some (some 0, 1, false) := by kernel_rfl
attribute [push_cast] Tryd.underlying121
@[push_cast] theorem Tryd.in121 : intI Tryd.prog 121 = none := by kernel_rfl
@[push_cast] theorem Tryd.st121 : isStr Tryd.prog 121 = false := by kernel_rfl
@[push_cast] theorem Tryd.by121 : isBytes Tryd.prog 121 = false := by kernel_rfl
@[push_cast] theorem Tryd.fo121 : fieldsOk Tryd.prog 121 = true := by kernel_rfl
@[push_cast] theorem Tryd.ty122 : tyI Tryd.prog 122 = some (0, true) := by kernel_rfl
@[push_cast] theorem Tryd.zl122 : zeroL Tryd.prog 122 = some [] := by kernel_rfl
@[push_cast] theorem Tryd.el122 : elemI Tryd.prog 122 = none := by kernel_rfl
attribute [push_cast] Tryd.underlying122
@[push_cast] theorem Tryd.in122 : intI Tryd.prog 122 = none := by kernel_rfl
@[push_cast] theorem Tryd.st122 : isStr Tryd.prog 122 = false := by kernel_rfl
@[push_cast] theorem Tryd.by122 : isBytes Tryd.prog 122 = false := by kernel_rfl
@[push_cast] theorem Tryd.fo122 : fieldsOk Tryd.prog 122 = true := by kernel_rfl
@[push_cast] theorem Tryd.ty123 : tyI Tryd.prog 123 = some (0, true) := by kernel_rfl
@[push_cast] theorem Tryd.zl123 : zeroL Tryd.prog 123 = some [] := by kernel_rfl
@[push_cast] theorem Tryd.el123 : elemI Tryd.prog 123 = none := by kernel_rfl
attribute [push_cast] Tryd.underlying123
@[push_cast] theorem Tryd.in123 : intI Tryd.prog 123 = none := by kernel_rfl
@[push_cast] theorem Tryd.st123 : isStr Tryd.prog 123 = false := by kernel_rfl
@[push_cast] theorem Tryd.by123 : isBytes Tryd.prog 123 = false := by kernel_rfl
@[push_cast] theorem Tryd.fo123 : fieldsOk Tryd.prog 123 = true := by kernel_rfl
@[push_cast] theorem Tryd.ty124 : tyI Tryd.prog 124 = some (1, false) := by kernel_rfl
@[push_cast] theorem Tryd.zl124 : zeroL Tryd.prog 124 = some [.nilFunc] := by kernel_rfl
@[push_cast] theorem Tryd.el124 : elemI Tryd.prog 124 = none := by kernel_rfl
attribute [push_cast] Tryd.underlying124
@[push_cast] theorem Tryd.in124 : intI Tryd.prog 124 = none := by kernel_rfl
@[push_cast] theorem Tryd.st124 : isStr Tryd.prog 124 = false := by kernel_rfl
@[push_cast] theorem Tryd.by124 : isBytes Tryd.prog 124 = false := by kernel_rfl
@[push_cast] theorem Tryd.ty125 : tyI Tryd.prog 125 = some (1, false) := by kernel_rfl
@[push_cast] theorem Tryd.zl125 : zeroL Tryd.prog 125 = some [.int .u32 0] := by kernel_rfl
@[push_cast] theorem Tryd.el125 : elemI Tryd.prog 125 = none := by kernel_rfl
attribute [push_cast] Tryd.underlying125
@[push_cast] theorem Tryd.in125 : intI Tryd.prog 125 = some .u32 := by kernel_rfl
@[push_cast] theorem Tryd.st125 : isStr Tryd.prog 125 = false := by kernel_rfl
@[push_cast] theorem Tryd.by125 : isBytes Tryd.prog 125 = false := by kernel_rfl
@[push_cast] theorem Tryd.ty126 : tyI Tryd.prog 126 = some (1, false) := by kernel_rfl
@[push_cast] theorem Tryd.zl126 : zeroL Tryd.prog 126 = some [.int .u8 0] := by kernel_rfl
@[push_cast] theorem Tryd.el126 : elemI Tryd.prog 126 = none := by kernel_rfl
attribute [push_cast] Tryd.underlying126
@[push_cast] theorem Tryd.in126 : intI Tryd.prog 126 = some .u8 := by kernel_rfl
@[push_cast] theorem Tryd.st126 : isStr Tryd.prog 126 = false := by kernel_rfl
@[push_cast] theorem Tryd.by126 : isBytes Tryd.prog 126 = false := by kernel_rfl
@[push_cast] theorem Tryd.ty127 : tyI Tryd.prog 127 = some (1, false) := by kernel_rfl
@[push_cast] theorem Tryd.zl127 : zeroL Tryd.prog 127 = some [.int .u8 0] := by kernel_rfl
@[push_cast] theorem Tryd.el127 : elemI Tryd.prog 127 = none := by kernel_rfl
attribute [push_cast] Tryd.underlying127
@[push_cast] theorem Tryd.in127 : intI Tryd.prog 127 = some .u8 := by kernel_rfl
@[push_cast] theorem Tryd.st127 : isStr Tryd.prog 127 = false := by kernel_rfl
@[push_cast] theorem Tryd.by127 : isBytes Tryd.prog 127 = false := by kernel_rfl
@[push_cast] theorem Tryd.ty128 : tyI Tryd.prog 128 = some (1, false) := by kernel_rfl
@[push_cast] theorem Tryd.zl128 : zeroL Tryd.prog 128 = some [.nilFunc] := by kernel_rfl
@[push_cast] theorem Tryd.el128 : elemI Tryd.prog 128 = none := by kernel_rfl
attribute [push_cast] Tryd.underlying128
@[push_cast] theorem Tryd.in128 : intI Tryd.prog 128 = none := by kernel_rfl
@[push_cast] theorem Tryd.st128 : isStr Tryd.prog 128 = false := by kernel_rfl
@[push_cast] theorem Tryd.by128 : isBytes Tryd.prog 128 = false := by kernel_rfl
@[push_cast] theorem Tryd.ty129 : tyI Tryd.prog 129 = some (1, false) := by kernel_rfl
@[push_cast] theorem Tryd.zl129 : zeroL Tryd.prog 129 = some [.pointer none] := by kernel_rfl
@[push_cast] theorem Tryd.el129 : elemI Tryd.prog 129 = none := by kernel_rfl
attribute [push_cast] Tryd.underlying129
@[push_cast] theorem Tryd.in129 : intI Tryd.prog 129 = none := by kernel_rfl
@[push_cast] theorem Tryd.st129 : isStr Tryd.prog 129 = false := by kernel_rfl
@[push_cast] theorem Tryd.by129 : isBytes Tryd.prog 129 = false := by kernel_rfl
@[push_cast] theorem Tryd.ty130 : tyI Tryd.prog 130 = some (1, false) := by kernel_rfl
@[push_cast] theorem Tryd.zl130 : zeroL Tryd.prog 130 = some [.int .i32 0] := by kernel_rfl
@[push_cast] theorem Tryd.el130 : elemI Tryd.prog 130 = none := by kernel_rfl
attribute [push_cast] Tryd.underlying130
@[push_cast] theorem Tryd.in130 : intI Tryd.prog 130 = some .i32 := by kernel_rfl
@[push_cast] theorem Tryd.st130 : isStr Tryd.prog 130 = false := by kernel_rfl
@[push_cast] theorem Tryd.by130 : isBytes Tryd.prog 130 = false := by kernel_rfl
@[push_cast] theorem Tryd.ty131 : tyI Tryd.prog 131 = some (1, false) := by kernel_rfl
@[push_cast] theorem Tryd.zl131 : zeroL Tryd.prog 131 = some [.int .i32 0] := by kernel_rfl
@[push_cast] theorem Tryd.el131 : elemI Tryd.prog 131 = none := by kernel_rfl
attribute [push_cast] Tryd.underlying131
@[push_cast] theorem Tryd.in131 : intI Tryd.prog 131 = some .i32 := by kernel_rfl
@[push_cast] theorem Tryd.st131 : isStr Tryd.prog 131 = false := by kernel_rfl
@[push_cast] theorem Tryd.by131 : isBytes Tryd.prog 131 = false := by kernel_rfl
@[push_cast] theorem Tryd.ty132 : tyI Tryd.prog 132 = some (11, true) := by kernel_rfl
@[push_cast] theorem Tryd.zl132 : zeroL Tryd.prog 132 = some [.int .u64 0, .int .u64 0, .int .u32 0, .int .u8 0, .int .u8 0, .int .u8 0, .int .u8 0, .nilFunc, .pointer none, .int .i32 0, .int .i32 0] := by kernel_rfl
@[push_cast] theorem Tryd.el132 : elemI Tryd.prog 132 = none := by kernel_rfl
attribute [push_cast] Tryd.underlying132
@[push_cast] theorem Tryd.in132 : intI Tryd.prog 132 = none := by kernel_rfl
@[push_cast] theorem Tryd.st132 : isStr Tryd.prog 132 = false := by kernel_rfl
@[push_cast] theorem Tryd.by132 : isBytes Tryd.prog 132 = false := by kernel_rfl
@[push_cast] theorem Tryd.fi132_0 : fieldI Tryd.prog 132 0 = some (0, 1, false) := by kernel_rfl
@[push_cast] theorem Tryd.pl132_0 : placeOf Tryd.prog 132 0 = some (0, 1) := by kernel_rfl
@[push_cast] theorem Tryd.fi132_1 : fieldI Tryd.prog 132 1 = some (1, 1, false) := by kernel_rfl
@[push_cast] theorem Tryd.pl132_1 : placeOf Tryd.prog 132 1 = some (1, 1) := by kernel_rfl
@[push_cast] theorem Tryd.fi132_2 : fieldI Tryd.prog 132 2 = some (2, 1, false) := by kernel_rfl
@[push_cast] theorem Tryd.pl132_2 : placeOf Tryd.prog 132 2 = some (2, 1) := by kernel_rfl
@[push_cast] theorem Tryd.fi132_3 : fieldI Tryd.prog 132 3 = some (3, 1, false) := by kernel_rfl
@[push_cast] theorem Tryd.pl132_3 : placeOf Tryd.prog 132 3 = some (3, 1) := by kernel_rfl
@[push_cast] theorem Tryd.fi132_4 : fieldI Tryd.prog 132 4 = some (4, 1, false) := by kernel_rfl
@[push_cast] theorem Tryd.pl132_4 : placeOf Tryd.prog 132 4 = some (4, 1) := by kernel_rfl
@[push_cast] theorem Tryd.fi132_5 : fieldI Tryd.prog 132 5 = some (5, 1, false) := by kernel_rfl
@[push_cast] theorem Tryd.pl132_5 : placeOf Tryd.prog 132 5 = some (5, 1) := by kernel_rfl
@[push_cast] theorem Tryd.fi132_6 : fieldI Tryd.prog 132 6 = some (6, 1, false) := by kernel_rfl
@[push_cast] theorem Tryd.pl132_6 : placeOf Tryd.prog 132 6 = some (6, 1) := by kernel_rfl
@[push_cast] theorem Tryd.fi132_7 : fieldI Tryd.prog 132 7 = some (7, 1, false) := by kernel_rfl
@[push_cast] theorem Tryd.pl132_7 : placeOf Tryd.prog 132 7 = some (7, 1) := by kernel_rfl
@[push_cast] theorem Tryd.fi132_8 : fieldI Tryd.prog 132 8 = some (8, 1, false) := by kernel_rfl
@[push_cast] theorem Tryd.pl132_8 : placeOf Tryd.prog 132 8 = some (8, 1) := by kernel_rfl
@[push_cast] theorem Tryd.fi132_9 : fieldI Tryd.prog 132 9 = some (9, 1, false) := by kernel_rfl
@[push_cast] theorem Tryd.pl132_9 : placeOf Tryd.prog 132 9 = some (9, 1) := by kernel_rfl
@[push_cast] theorem Tryd.fi132_10 : fieldI Tryd.prog 132 10 = some (10, 1, false) := by kernel_rfl
@[push_cast] theorem Tryd.pl132_10 : placeOf Tryd.prog 132 10 = some (10, 1) := by kernel_rfl
@[push_cast] theorem Tryd.fo132 : fieldsOk Tryd.prog 132 = true := by kernel_rfl
@[push_cast] theorem Tryd.ty133 : tyI Tryd.prog 133 = some (11, true) := by kernel_rfl
@[push_cast] theorem Tryd.zl133 : zeroL Tryd.prog 133 = some [.int .u64 0, .int .u64 0, .int .u32 0, .int .u8 0, .int .u8 0, .int .u8 0, .int .u8 0, .nilFunc, .pointer none, .int .i32 0, .int .i32 0] := by kernel_rfl
@[push_cast] theorem Tryd.el133 : elemI Tryd.prog 133 = none := by kernel_rfl
attribute [push_cast] Tryd.underlying133
@[push_cast] theorem Tryd.in133 : intI Tryd.prog 133 = none := by kernel_rfl
@[push_cast] theorem Tryd.st133 : isStr Tryd.prog 133 = false := by kernel_rfl
@[push_cast] theorem Tryd.by133 : isBytes Tryd.prog 133 = false := by kernel_rfl
@[push_cast] theorem Tryd.fi133_0 : fieldI Tryd.prog 133 0 = some (0, 1, false) := by kernel_rfl
@[push_cast] theorem Tryd.pl133_0 : placeOf Tryd.prog 133 0 = some (0, 1) := by kernel_rfl
@[push_cast] theorem Tryd.fi133_1 : fieldI Tryd.prog 133 1 = some (1, 1, false) := by kernel_rfl
@[push_cast] theorem Tryd.pl133_1 : placeOf Tryd.prog 133 1 = some (1, 1) := by kernel_rfl
@[push_cast] theorem Tryd.fi133_2 : fieldI Tryd.prog 133 2 = some (2, 1, false) := by kernel_rfl
@[push_cast] theorem Tryd.pl133_2 : placeOf Tryd.prog 133 2 = some (2, 1) := by kernel_rfl
@[push_cast] theorem Tryd.fi133_3 : fieldI Tryd.prog 133 3 = some (3, 1, false) := by kernel_rfl
@[push_cast] theorem Tryd.pl133_3 : placeOf Tryd.prog 133 3 = some (3, 1) := by kernel_rfl
@[push_cast] theorem Tryd.fi133_4 : fieldI Tryd.prog 133 4 = some (4, 1, false) := by kernel_rfl
@[push_cast] theorem Tryd.pl133_4 : placeOf Tryd.prog 133 4 = some (4, 1) := by kernel_rfl
@[push_cast] theorem Tryd.fi133_5 : fieldI Tryd.prog 133 5 = some (5, 1, false) := by kernel_rfl
@[push_cast] theorem Tryd.pl133_5 : placeOf Tryd.prog 133 5 = some (5, 1) := by kernel_rfl
@[push_cast] theorem Tryd.fi133_6 : fieldI Tryd.prog 133 6 = some (6, 1, false) := by kernel_rfl
@[push_cast] theorem Tryd.pl133_6 : placeOf Tryd.prog 133 6 = some (6, 1) := by kernel_rfl
@[push_cast] theorem Tryd.fi133_7 : fieldI Tryd.prog 133 7 = some (7, 1, false) := by kernel_rfl
@[push_cast] theorem Tryd.pl133_7 : placeOf Tryd.prog 133 7 = some (7, 1) := by kernel_rfl
@[push_cast] theorem Tryd.fi133_8 : fieldI Tryd.prog 133 8 = some (8, 1, false) := by kernel_rfl
@[push_cast] theorem Tryd.pl133_8 : placeOf Tryd.prog 133 8 = some (8, 1) := by kernel_rfl
@[push_cast] theorem Tryd.fi133_9 : fieldI Tryd.prog 133 9 = some (9, 1, false) := by kernel_rfl
@[push_cast] theorem Tryd.pl133_9 : placeOf Tryd.prog 133 9 = some (9, 1) := by kernel_rfl
@[push_cast] theorem Tryd.fi133_10 : fieldI Tryd.prog 133 10 = some (10, 1, false) := by kernel_rfl
@[push_cast] theorem Tryd.pl133_10 : placeOf Tryd.prog 133 10 = some (10, 1) := by kernel_rfl
@[push_cast] theorem Tryd.fo133 : fieldsOk Tryd.prog 133 = true := by kernel_rfl
@[push_cast] theorem Tryd.ty134 : tyI Tryd.prog 134 = some (1, false) := by kernel_rfl
@[push_cast] theorem Tryd.zl134 : zeroL Tryd.prog 134 = some [.pointer none] := by kernel_rfl
@[push_cast] theorem Tryd.el134 : elemI Tryd.prog 134 = none := by kernel_rfl
attribute [push_cast] Tryd.underlying134
@[push_cast] theorem Tryd.in134 : intI Tryd.prog 134 = none := by kernel_rfl
@[push_cast] theorem Tryd.st134 : isStr Tryd.prog 134 = false := by kernel_rfl
@[push_cast] theorem Tryd.by134 : isBytes Tryd.prog 134 = false := by kernel_rfl
@[push_cast] def Tryd.pl2 : Plans := fun i => []
@[push_cast] def Tryd.pl3 : Plans := fun i => if i = 5 then [(0, 0), (1, 0), (2, 0), (3, 0), (4, 0), (5, 0), (6, 0), (7, 0), (8, 0), (9, 0), (10, 0), (11, 0), (12, 0), (13, 0), (14, 0), (15, 0), (16, 0), (17, 0), (18, 0), (19, 0), (20, 0), (21, 0), (22, 0), (23, 0), (24, 0), (25, 0), (26, 0), (27, 0), (28, 0), (29, 0), (30, 0), (31, 0), (32, 0), (33, 0), (34, 0), (35, 0), (36, 0), (37, 0), (38, 0)] else if i = 19 then [(0, 0), (1, 0), (2, 0), (3, 0), (6, 0), (4, 2), (5, 0)] else if i = 31 then [(0, 0), (1, 0), (2, 0), (3, 0), (4, 0), (5, 0), (6, 0), (7, 0), (8, 0), (9, 0), (10, 0), (11, 0), (12, 0), (13, 0), (14, 0), (15, 2), (16, 1)] else if i = 33 then [(0, 0), (1, 0), (2, 0), (3, 0), (4, 0), (5, 0), (6, 0), (7, 0), (8, 0), (9, 0), (10, 0), (11, 0), (12, 0), (13, 0), (14, 0), (15, 0), (16, 0), (17, 0), (18, 0), (19, 0), (20, 0), (21, 0), (22, 0), (23, 0), (24, 0), (25, 0), (26, 0), (27, 0), (28, 0), (29, 0), (30, 0), (31, 0), (32, 0), (33, 0), (34, 0), (35, 0), (36, 0), (37, 0), (38, 0), (39, 0), (40, 0), (41, 0), (42, 0), (43, 0), (44, 0), (45, 0), (46, 0)] else []
@[push_cast] def Tryd.pl4 : Plans := fun i => []
@[push_cast] def Tryd.pl5 : Plans := fun i => if i = 5 then [(0, 0), (1, 0), (2, 0), (3, 0), (4, 0), (5, 0), (6, 0), (7, 0), (8, 0), (9, 0), (10, 0), (11, 0), (12, 0), (13, 0), (14, 0), (15, 0), (16, 0)] else if i = 6 then [(0, 0), (1, 0), (2, 0), (3, 0), (4, 0), (5, 0), (6, 0), (7, 0), (8, 0), (9, 0), (10, 0), (11, 0), (12, 0), (13, 0), (14, 0), (15, 0), (16, 0)] else []
/- no schedule: function 6 (railhead/railheadlaw15.GasData), region 7 -/
@[push_cast] def Tryd.pl6 : Plans := fun i => []
@[push_cast] def Tryd.pl7 : Plans := fun i => []
@[push_cast] def Tryd.pl8 : Plans := fun i => if i = 13 then [(0, 0), (1, 0), (2, 0), (3, 0), (4, 0), (5, 0), (6, 0), (7, 0), (8, 0)] else if i = 17 then [(0, 0), (1, 0), (2, 0), (3, 0), (4, 0), (5, 0), (6, 0), (7, 0), (8, 0), (9, 0), (10, 0), (11, 0), (12, 0), (13, 0), (14, 0), (15, 0)] else []
@[push_cast] def Tryd.pl9 : Plans := fun i => []
@[push_cast] def Tryd.pl10 : Plans := fun i => []
@[push_cast] def Tryd.pl11 : Plans := fun i => []
@[push_cast] def Tryd.pl12 : Plans := fun i => []
@[push_cast] def Tryd.pl13 : Plans := fun i => []
@[push_cast] def Tryd.pl14 : Plans := fun i => []
@[push_cast] def Tryd.pl15 : Plans := fun i => []
@[push_cast] def Tryd.pl16 : Plans := fun i => []
@[push_cast] def Tryd.pl17 : Plans := fun i => []
@[push_cast] def Tryd.pl18 : Plans := fun i => []
@[push_cast] def Tryd.pl19 : Plans := fun i => []
@[push_cast] def Tryd.pl20 : Plans := fun i => []
@[push_cast] def Tryd.pl21 : Plans := fun i => []
@[push_cast] def Tryd.pl22 : Plans := fun i => []
@[push_cast] def Tryd.pl23 : Plans := fun i => []
@[push_cast] def Tryd.pl24 : Plans := fun i => []
@[push_cast] def Tryd.pl25 : Plans := fun i => []
@[push_cast] def Tryd.pl26 : Plans := fun i => []
@[push_cast] def Tryd.pl27 : Plans := fun i => []
@[push_cast] def Tryd.pl28 : Plans := fun i => []
@[push_cast] def Tryd.pl29 : Plans := fun i => []
@[push_cast] def Tryd.pl30 : Plans := fun i => []
@[push_cast] def Tryd.pl31 : Plans := fun i => []
@[push_cast] def Tryd.pl32 : Plans := fun i => []
@[push_cast] def Tryd.pl33 : Plans := fun i => []
@[push_cast] def Tryd.pl34 : Plans := fun i => if i = 13 then [(0, 0), (1, 0), (2, 0), (3, 0), (4, 0), (5, 0), (6, 0), (7, 0), (8, 0), (9, 0), (10, 0), (11, 0), (12, 0)] else []
@[push_cast] def Tryd.pl35 : Plans := fun i => []
@[push_cast] def Tryd.pl36 : Plans := fun i => []
@[push_cast] def Tryd.pl37 : Plans := fun i => []
@[push_cast] def Tryd.pl38 : Plans := fun i => []
@[push_cast] def Tryd.pl39 : Plans := fun i => []
@[push_cast] def Tryd.pl40 : Plans := fun i => []
@[push_cast] def Tryd.pl41 : Plans := fun i => []
@[push_cast] def Tryd.pl42 : Plans := fun i => []
@[push_cast] def Tryd.pl43 : Plans := fun i => []
@[push_cast] def Tryd.pl44 : Plans := fun i => if i = 5 then [(0, 0), (1, 0), (2, 0), (3, 0), (4, 0), (6, 0), (7, 0), (8, 0), (9, 0), (5, 4), (10, 4), (11, 0), (12, 2), (13, 1), (14, 0)] else []
@[push_cast] def Tryd.pl45 : Plans := fun i => []
@[push_cast] def Tryd.pl46 : Plans := fun i => []
@[push_cast] def Tryd.pl47 : Plans := fun i => []
@[push_cast] def Tryd.pl48 : Plans := fun i => if i = 3 then [(0, 0), (1, 0), (2, 0), (3, 0), (4, 0), (5, 1)] else []
@[push_cast] def Tryd.pl49 : Plans := fun i => []
@[push_cast] def Tryd.pl50 : Plans := fun i => []
@[push_cast] def Tryd.pl51 : Plans := fun i => if i = 3 then [(0, 0), (1, 0), (2, 0), (3, 0), (4, 0), (5, 1)] else []
@[push_cast] def Tryd.pl52 : Plans := fun i => []
@[push_cast] def Tryd.pl53 : Plans := fun i => []
@[push_cast] def Tryd.pl54 : Plans := fun i => []
@[push_cast] def Tryd.pl55 : Plans := fun i => []
@[push_cast] def Tryd.pl56 : Plans := fun i => []
@[push_cast] def Tryd.pl57 : Plans := fun i => []
@[push_cast] def Tryd.pl58 : Plans := fun i => []
@[push_cast] def Tryd.pl59 : Plans := fun i => []
@[push_cast] def Tryd.pl60 : Plans := fun i => []
@[push_cast] def Tryd.pl61 : Plans := fun i => []
@[push_cast] def Tryd.pl62 : Plans := fun i => []
@[push_cast] def Tryd.pl63 : Plans := fun i => []
@[push_cast] def Tryd.pl64 : Plans := fun i => []
@[push_cast] def Tryd.pl65 : Plans := fun i => []
@[push_cast] def Tryd.pl66 : Plans := fun i => []
@[push_cast] def Tryd.pl67 : Plans := fun i => []
@[push_cast] def Tryd.pl68 : Plans := fun i => if i = 6 then [(0, 0), (1, 0), (2, 0), (3, 0), (4, 0), (5, 0), (6, 0)] else []
@[push_cast] def Tryd.pl69 : Plans := fun i => []
@[push_cast] def Tryd.pl70 : Plans := fun i => []
@[push_cast] def Tryd.pl71 : Plans := fun i => []
@[push_cast] def Tryd.pl72 : Plans := fun i => []
@[push_cast] def Tryd.pl73 : Plans := fun i => []
@[push_cast] def Tryd.pl74 : Plans := fun i => []
@[push_cast] def Tryd.pl75 : Plans := fun i => []
@[push_cast] def Tryd.pl76 : Plans := fun i => if i = 4 then [(0, 0), (1, 0), (2, 0), (3, 0), (4, 0), (5, 0), (6, 0), (7, 0), (8, 0)] else if i = 6 then [(0, 0), (1, 0), (2, 0), (3, 0), (4, 0), (5, 0), (6, 0), (7, 0), (8, 0)] else []
@[push_cast] def Tryd.pl77 : Plans := fun i => []
@[push_cast] def Tryd.pl78 : Plans := fun i => []
@[push_cast] def Tryd.pl79 : Plans := fun i => if i = 6 then [(0, 0), (1, 0), (2, 0), (3, 0), (4, 0), (5, 0), (6, 0)] else if i = 7 then [(0, 0), (1, 0), (2, 0), (3, 0), (4, 0), (5, 0), (6, 0), (7, 0), (8, 0)] else if i = 14 then [(0, 0), (1, 0), (2, 0), (3, 0), (4, 0), (5, 0), (6, 0), (7, 0), (8, 0), (9, 0), (10, 0)] else if i = 31 then [(0, 0), (1, 0), (2, 0), (3, 0), (4, 0), (5, 0), (6, 0), (7, 0), (8, 0), (9, 0), (10, 0)] else []
@[push_cast] def Tryd.pl80 : Plans := fun i => if i = 4 then [(0, 0), (1, 0), (2, 0), (3, 0), (4, 0), (5, 0), (6, 0)] else if i = 6 then [(0, 0), (1, 0), (2, 0), (3, 0), (4, 0), (5, 0), (6, 0)] else []
@[push_cast] def Tryd.pl81 : Plans := fun i => []
@[push_cast] def Tryd.pl82 : Plans := fun i => []
@[push_cast] def Tryd.pl83 : Plans := fun i => []
@[push_cast] def Tryd.pl85 : Plans := fun i => []
@[push_cast] def Tryd.pl107 : Plans := fun i => []
theorem Tryd.mix : Tryd.prog.follows .mixedOrders = true := by kernel_rfl
end Go.Proofs
