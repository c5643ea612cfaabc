/- Texts of this claim, merged by program: Facts. -/
import Derived.Test.YtkhpncfgimlleaaZaAc
import Derived.Test.YtkhpncfgimlleaaRows
import Derived.KernelRfl
set_option linter.unusedSimpArgs false
set_option linter.unusedVariables false
namespace Go.Proofs
open Go Go.Ev
@[push_cast] theorem Try.ty0 : tyI Try.prog 0 = some (1, false) := by kernel_rfl
@[push_cast] theorem Try.el0 : elemI Try.prog 0 = none := by kernel_rfl
attribute [push_cast] Try.underlying0
@[push_cast] theorem Try.in0 : intI Try.prog 0 = none := by kernel_rfl
@[push_cast] theorem Try.st0 : isStr Try.prog 0 = false := by kernel_rfl
@[push_cast] theorem Try.by0 : isBytes Try.prog 0 = false := by kernel_rfl
@[push_cast] theorem Try.ty1 : tyI Try.prog 1 = some (1, false) := by kernel_rfl
@[push_cast] theorem Try.zl1 : zeroL Try.prog 1 = some [.nilFunc] := by kernel_rfl
@[push_cast] theorem Try.el1 : elemI Try.prog 1 = none := by kernel_rfl
attribute [push_cast] Try.underlying1
@[push_cast] theorem Try.in1 : intI Try.prog 1 = none := by kernel_rfl
@[push_cast] theorem Try.st1 : isStr Try.prog 1 = false := by kernel_rfl
@[push_cast] theorem Try.by1 : isBytes Try.prog 1 = false := by kernel_rfl
@[push_cast] theorem Try.ty2 : tyI Try.prog 2 = some (1, false) := by kernel_rfl
@[push_cast] theorem Try.zl2 : zeroL Try.prog 2 = some [.int .i64 0] := by kernel_rfl
@[push_cast] theorem Try.el2 : elemI Try.prog 2 = none := by kernel_rfl
attribute [push_cast] Try.underlying2
@[push_cast] theorem Try.in2 : intI Try.prog 2 = some .i64 := by kernel_rfl
@[push_cast] theorem Try.st2 : isStr Try.prog 2 = false := by kernel_rfl
@[push_cast] theorem Try.by2 : isBytes Try.prog 2 = false := by kernel_rfl
@[push_cast] theorem Try.ty3 : tyI Try.prog 3 = some (1, false) := by kernel_rfl
@[push_cast] theorem Try.zl3 : zeroL Try.prog 3 = some [.int .i64 0] := by kernel_rfl
@[push_cast] theorem Try.el3 : elemI Try.prog 3 = none := by kernel_rfl
attribute [push_cast] Try.underlying3
@[push_cast] theorem Try.in3 : intI Try.prog 3 = some .i64 := by kernel_rfl
@[push_cast] theorem Try.st3 : isStr Try.prog 3 = false := by kernel_rfl
@[push_cast] theorem Try.by3 : isBytes Try.prog 3 = false := by kernel_rfl
@[push_cast] theorem Try.ty4 : tyI Try.prog 4 = some (1, false) := by kernel_rfl
@[push_cast] theorem Try.zl4 : zeroL Try.prog 4 = some [.bool false] := by kernel_rfl
@[push_cast] theorem Try.el4 : elemI Try.prog 4 = none := by kernel_rfl
attribute [push_cast] Try.underlying4
@[push_cast] theorem Try.in4 : intI Try.prog 4 = none := by kernel_rfl
@[push_cast] theorem Try.st4 : isStr Try.prog 4 = false := by kernel_rfl
@[push_cast] theorem Try.by4 : isBytes Try.prog 4 = false := by kernel_rfl
@[push_cast] theorem Try.ty5 : tyI Try.prog 5 = some (1, false) := by kernel_rfl
@[push_cast] theorem Try.zl5 : zeroL Try.prog 5 = some [.int .u8 0] := by kernel_rfl
@[push_cast] theorem Try.el5 : elemI Try.prog 5 = none := by kernel_rfl
attribute [push_cast] Try.underlying5
@[push_cast] theorem Try.in5 : intI Try.prog 5 = some .u8 := by kernel_rfl
@[push_cast] theorem Try.st5 : isStr Try.prog 5 = false := by kernel_rfl
@[push_cast] theorem Try.by5 : isBytes Try.prog 5 = false := by kernel_rfl
@[push_cast] theorem Try.ty6 : tyI Try.prog 6 = some (1, false) := by kernel_rfl
@[push_cast] theorem Try.zl6 : zeroL Try.prog 6 = some [.int .u8 0] := by kernel_rfl
@[push_cast] theorem Try.el6 : elemI Try.prog 6 = none := by kernel_rfl
attribute [push_cast] Try.underlying6
@[push_cast] theorem Try.in6 : intI Try.prog 6 = some .u8 := by kernel_rfl
@[push_cast] theorem Try.st6 : isStr Try.prog 6 = false := by kernel_rfl
@[push_cast] theorem Try.by6 : isBytes Try.prog 6 = false := by kernel_rfl
@[push_cast] theorem Try.ty7 : tyI Try.prog 7 = some (4, true) := by kernel_rfl
@[push_cast] theorem Try.zl7 : zeroL Try.prog 7 = some [.int .i64 0, .int .i64 0, .bool false, .int .u8 0] := by kernel_rfl
@[push_cast] theorem Try.el7 : elemI Try.prog 7 = none := by kernel_rfl
attribute [push_cast] Try.underlying7
@[push_cast] theorem Try.in7 : intI Try.prog 7 = none := by kernel_rfl
@[push_cast] theorem Try.st7 : isStr Try.prog 7 = false := by kernel_rfl
@[push_cast] theorem Try.by7 : isBytes Try.prog 7 = false := by kernel_rfl
@[push_cast] theorem Try.fi7_0 : fieldI Try.prog 7 0 = some (0, 1, false) := by kernel_rfl
@[push_cast] theorem Try.pl7_0 : placeOf Try.prog 7 0 = some (0, 1) := by kernel_rfl
@[push_cast] theorem Try.fi7_1 : fieldI Try.prog 7 1 = some (1, 1, false) := by kernel_rfl
@[push_cast] theorem Try.pl7_1 : placeOf Try.prog 7 1 = some (1, 1) := by kernel_rfl
@[push_cast] theorem Try.fi7_2 : fieldI Try.prog 7 2 = some (2, 1, false) := by kernel_rfl
@[push_cast] theorem Try.pl7_2 : placeOf Try.prog 7 2 = some (2, 1) := by kernel_rfl
@[push_cast] theorem Try.fi7_3 : fieldI Try.prog 7 3 = some (3, 1, false) := by kernel_rfl
@[push_cast] theorem Try.pl7_3 : placeOf Try.prog 7 3 = some (3, 1) := by kernel_rfl
@[push_cast] theorem Try.fo7 : fieldsOk Try.prog 7 = true := by kernel_rfl
@[push_cast] theorem Try.fk7 : flatK Try.prog 12 7 = some [.i, .i, .b, .i] := by kernel_rfl
@[push_cast] theorem Try.eg7 : Program.eqGuardType Try.prog (Program.depth Try.prog) 7 = false := by kernel_rfl
@[push_cast] theorem Try.ty8 : tyI Try.prog 8 = some (4, true) := by kernel_rfl
@[push_cast] theorem Try.zl8 : zeroL Try.prog 8 = some [.int .i64 0, .int .i64 0, .bool false, .int .u8 0] := by kernel_rfl
@[push_cast] theorem Try.el8 : elemI Try.prog 8 = none := by kernel_rfl
attribute [push_cast] Try.underlying8
@[push_cast] theorem Try.in8 : intI Try.prog 8 = none := by kernel_rfl
@[push_cast] theorem Try.st8 : isStr Try.prog 8 = false := by kernel_rfl
@[push_cast] theorem Try.by8 : isBytes Try.prog 8 = false := by kernel_rfl
@[push_cast] theorem Try.fi8_0 : fieldI Try.prog 8 0 = some (0, 1, false) := by kernel_rfl
@[push_cast] theorem Try.pl8_0 : placeOf Try.prog 8 0 = some (0, 1) := by kernel_rfl
@[push_cast] theorem Try.fi8_1 : fieldI Try.prog 8 1 = some (1, 1, false) := by kernel_rfl
@[push_cast] theorem Try.pl8_1 : placeOf Try.prog 8 1 = some (1, 1) := by kernel_rfl
@[push_cast] theorem Try.fi8_2 : fieldI Try.prog 8 2 = some (2, 1, false) := by kernel_rfl
@[push_cast] theorem Try.pl8_2 : placeOf Try.prog 8 2 = some (2, 1) := by kernel_rfl
@[push_cast] theorem Try.fi8_3 : fieldI Try.prog 8 3 = some (3, 1, false) := by kernel_rfl
@[push_cast] theorem Try.pl8_3 : placeOf Try.prog 8 3 = some (3, 1) := by kernel_rfl
@[push_cast] theorem Try.fo8 : fieldsOk Try.prog 8 = true := by kernel_rfl
@[push_cast] theorem Try.fk8 : flatK Try.prog 12 8 = some [.i, .i, .b, .i] := by kernel_rfl
@[push_cast] theorem Try.eg8 : Program.eqGuardType Try.prog (Program.depth Try.prog) 8 = false := by kernel_rfl
@[push_cast] theorem Try.ty9 : tyI Try.prog 9 = some (1, false) := by kernel_rfl
@[push_cast] theorem Try.zl9 : zeroL Try.prog 9 = some [.string ByteArray.empty] := by kernel_rfl
@[push_cast] theorem Try.el9 : elemI Try.prog 9 = none := by kernel_rfl
attribute [push_cast] Try.underlying9
@[push_cast] theorem Try.in9 : intI Try.prog 9 = none := by kernel_rfl
@[push_cast] theorem Try.st9 : isStr Try.prog 9 = true := by kernel_rfl
@[push_cast] theorem Try.by9 : isBytes Try.prog 9 = false := by kernel_rfl
@[push_cast] theorem Try.ty10 : tyI Try.prog 10 = some (1, false) := by kernel_rfl
@[push_cast] theorem Try.zl10 : zeroL Try.prog 10 = some [.string ByteArray.empty] := by kernel_rfl
@[push_cast] theorem Try.el10 : elemI Try.prog 10 = none := by kernel_rfl
attribute [push_cast] Try.underlying10
@[push_cast] theorem Try.in10 : intI Try.prog 10 = none := by kernel_rfl
@[push_cast] theorem Try.st10 : isStr Try.prog 10 = true := by kernel_rfl
@[push_cast] theorem Try.by10 : isBytes Try.prog 10 = false := by kernel_rfl
@[push_cast] theorem Try.ty11 : tyI Try.prog 11 = some (1, false) := by kernel_rfl
@[push_cast] theorem Try.zl11 : zeroL Try.prog 11 = some [.string ByteArray.empty] := by kernel_rfl
@[push_cast] theorem Try.el11 : elemI Try.prog 11 = none := by kernel_rfl
attribute [push_cast] Try.underlying11
@[push_cast] theorem Try.in11 : intI Try.prog 11 = none := by kernel_rfl
@[push_cast] theorem Try.st11 : isStr Try.prog 11 = true := by kernel_rfl
@[push_cast] theorem Try.by11 : isBytes Try.prog 11 = false := by kernel_rfl
@[push_cast] theorem Try.ty12 : tyI Try.prog 12 = some (1, false) := by kernel_rfl
@[push_cast] theorem Try.zl12 : zeroL Try.prog 12 = some [.int .u64 0] := by kernel_rfl
@[push_cast] theorem Try.el12 : elemI Try.prog 12 = none := by kernel_rfl
attribute [push_cast] Try.underlying12
@[push_cast] theorem Try.in12 : intI Try.prog 12 = some .u64 := by kernel_rfl
@[push_cast] theorem Try.st12 : isStr Try.prog 12 = false := by kernel_rfl
@[push_cast] theorem Try.by12 : isBytes Try.prog 12 = false := by kernel_rfl
@[push_cast] theorem Try.ty13 : tyI Try.prog 13 = some (2, true) := by kernel_rfl
@[push_cast] theorem Try.zl13 : zeroL Try.prog 13 = some [.string ByteArray.empty, .int .u64 0] := by kernel_rfl
@[push_cast] theorem Try.el13 : elemI Try.prog 13 = none := by kernel_rfl
attribute [push_cast] Try.underlying13
@[push_cast] theorem Try.in13 : intI Try.prog 13 = none := by kernel_rfl
@[push_cast] theorem Try.st13 : isStr Try.prog 13 = false := by kernel_rfl
@[push_cast] theorem Try.by13 : isBytes Try.prog 13 = false := by kernel_rfl
@[push_cast] theorem Try.fi13_0 : fieldI Try.prog 13 0 = some (0, 1, false) := by kernel_rfl
@[push_cast] theorem Try.pl13_0 : placeOf Try.prog 13 0 = some (0, 1) := by kernel_rfl
@[push_cast] theorem Try.fi13_1 : fieldI Try.prog 13 1 = some (1, 1, false) := by kernel_rfl
@[push_cast] theorem Try.pl13_1 : placeOf Try.prog 13 1 = some (1, 1) := by kernel_rfl
@[push_cast] theorem Try.fo13 : fieldsOk Try.prog 13 = true := by kernel_rfl
@[push_cast] theorem Try.ty14 : tyI Try.prog 14 = some (2, true) := by kernel_rfl
@[push_cast] theorem Try.zl14 : zeroL Try.prog 14 = some [.string ByteArray.empty, .int .u64 0] := by kernel_rfl
@[push_cast] theorem Try.el14 : elemI Try.prog 14 = none := by kernel_rfl
attribute [push_cast] Try.underlying14
@[push_cast] theorem Try.in14 : intI Try.prog 14 = none := by kernel_rfl
@[push_cast] theorem Try.st14 : isStr Try.prog 14 = false := by kernel_rfl
@[push_cast] theorem Try.by14 : isBytes Try.prog 14 = false := by kernel_rfl
@[push_cast] theorem Try.fi14_0 : fieldI Try.prog 14 0 = some (0, 1, false) := by kernel_rfl
@[push_cast] theorem Try.pl14_0 : placeOf Try.prog 14 0 = some (0, 1) := by kernel_rfl
@[push_cast] theorem Try.fi14_1 : fieldI Try.prog 14 1 = some (1, 1, false) := by kernel_rfl
@[push_cast] theorem Try.pl14_1 : placeOf Try.prog 14 1 = some (1, 1) := by kernel_rfl
@[push_cast] theorem Try.fo14 : fieldsOk Try.prog 14 = true := by kernel_rfl
@[push_cast] theorem Try.ty15 : tyI Try.prog 15 = some (1, false) := by kernel_rfl
@[push_cast] theorem Try.zl15 : zeroL Try.prog 15 = some [.pointer none] := by kernel_rfl
@[push_cast] theorem Try.el15 : elemI Try.prog 15 = none := by kernel_rfl
attribute [push_cast] Try.underlying15
@[push_cast] theorem Try.in15 : intI Try.prog 15 = none := by kernel_rfl
@[push_cast] theorem Try.st15 : isStr Try.prog 15 = false := by kernel_rfl
@[push_cast] theorem Try.by15 : isBytes Try.prog 15 = false := by kernel_rfl
@[push_cast] theorem Try.ty16 : tyI Try.prog 16 = some (1, false) := by kernel_rfl
@[push_cast] theorem Try.zl16 : zeroL Try.prog 16 = some [.pointer none] := by kernel_rfl
@[push_cast] theorem Try.el16 : elemI Try.prog 16 = none := by kernel_rfl
attribute [push_cast] Try.underlying16
@[push_cast] theorem Try.in16 : intI Try.prog 16 = none := by kernel_rfl
@[push_cast] theorem Try.st16 : isStr Try.prog 16 = false := by kernel_rfl
@[push_cast] theorem Try.by16 : isBytes Try.prog 16 = false := by kernel_rfl
@[push_cast] theorem Try.ty17 : tyI Try.prog 17 = some (1, false) := by kernel_rfl
@[push_cast] theorem Try.zl17 : zeroL Try.prog 17 = some [.pointer none] := by kernel_rfl
@[push_cast] theorem Try.el17 : elemI Try.prog 17 = none := by kernel_rfl
attribute [push_cast] Try.underlying17
@[push_cast] theorem Try.in17 : intI Try.prog 17 = none := by kernel_rfl
@[push_cast] theorem Try.st17 : isStr Try.prog 17 = false := by kernel_rfl
@[push_cast] theorem Try.by17 : isBytes Try.prog 17 = false := by kernel_rfl
@[push_cast] theorem Try.ty18 : tyI Try.prog 18 = some (1, true) := by kernel_rfl
@[push_cast] theorem Try.zl18 : zeroL Try.prog 18 = some [.pointer none] := by kernel_rfl
@[push_cast] theorem Try.el18 : elemI Try.prog 18 = none := by kernel_rfl
attribute [push_cast] Try.underlying18
@[push_cast] theorem Try.in18 : intI Try.prog 18 = none := by kernel_rfl
@[push_cast] theorem Try.st18 : isStr Try.prog 18 = false := by kernel_rfl
@[push_cast] theorem Try.by18 : isBytes Try.prog 18 = false := by kernel_rfl
@[push_cast] theorem Try.fi18_0 : fieldI Try.prog 18 0 = some (0, 1, false) := by kernel_rfl
@[push_cast] theorem Try.pl18_0 : placeOf Try.prog 18 0 = some (0, 1) := by kernel_rfl
@[push_cast] theorem Try.fo18 : fieldsOk Try.prog 18 = true := by kernel_rfl
@[push_cast] theorem Try.ty19 : tyI Try.prog 19 = some (1, true) := by kernel_rfl
@[push_cast] theorem Try.zl19 : zeroL Try.prog 19 = some [.pointer none] := by kernel_rfl
@[push_cast] theorem Try.el19 : elemI Try.prog 19 = none := by kernel_rfl
attribute [push_cast] Try.underlying19
@[push_cast] theorem Try.in19 : intI Try.prog 19 = none := by kernel_rfl
@[push_cast] theorem Try.st19 : isStr Try.prog 19 = false := by kernel_rfl
@[push_cast] theorem Try.by19 : isBytes Try.prog 19 = false := by kernel_rfl
@[push_cast] theorem Try.fi19_0 : fieldI Try.prog 19 0 = some (0, 1, false) := by kernel_rfl
@[push_cast] theorem Try.pl19_0 : placeOf Try.prog 19 0 = some (0, 1) := by kernel_rfl
@[push_cast] theorem Try.fo19 : fieldsOk Try.prog 19 = true := by kernel_rfl
@[push_cast] theorem Try.ty20 : tyI Try.prog 20 = some (1, false) := by kernel_rfl
@[push_cast] theorem Try.zl20 : zeroL Try.prog 20 = some [.nilIface] := by kernel_rfl
@[push_cast] theorem Try.el20 : elemI Try.prog 20 = none := by kernel_rfl
attribute [push_cast] Try.underlying20
@[push_cast] theorem Try.in20 : intI Try.prog 20 = none := by kernel_rfl
@[push_cast] theorem Try.st20 : isStr Try.prog 20 = false := by kernel_rfl
@[push_cast] theorem Try.by20 : isBytes Try.prog 20 = false := by kernel_rfl
@[push_cast] theorem Try.ty21 : tyI Try.prog 21 = some (1, false) := by kernel_rfl
@[push_cast] theorem Try.zl21 : zeroL Try.prog 21 = some [.int .i32 0] := by kernel_rfl
@[push_cast] theorem Try.el21 : elemI Try.prog 21 = none := by kernel_rfl
attribute [push_cast] Try.underlying21
@[push_cast] theorem Try.in21 : intI Try.prog 21 = some .i32 := by kernel_rfl
@[push_cast] theorem Try.st21 : isStr Try.prog 21 = false := by kernel_rfl
@[push_cast] theorem Try.by21 : isBytes Try.prog 21 = false := by kernel_rfl
@[push_cast] theorem Try.ty22 : tyI Try.prog 22 = some (1, false) := by kernel_rfl
@[push_cast] theorem Try.zl22 : zeroL Try.prog 22 = some [.slice none 0 0] := by kernel_rfl
@[push_cast] theorem Try.el22 : elemI Try.prog 22 = some (none, 4, true) := by kernel_rfl
@[push_cast] theorem Try.sl22 : slI Try.prog 22 = some (44, 4, 32) := by kernel_rfl
attribute [push_cast] Try.underlying22
@[push_cast] theorem Try.in22 : intI Try.prog 22 = none := by kernel_rfl
@[push_cast] theorem Try.st22 : isStr Try.prog 22 = false := by kernel_rfl
@[push_cast] theorem Try.by22 : isBytes Try.prog 22 = false := by kernel_rfl
@[push_cast] theorem Try.ty23 : tyI Try.prog 23 = some (1, false) := by kernel_rfl
@[push_cast] theorem Try.zl23 : zeroL Try.prog 23 = some [.nilFunc] := by kernel_rfl
@[push_cast] theorem Try.el23 : elemI Try.prog 23 = none := by kernel_rfl
attribute [push_cast] Try.underlying23
@[push_cast] theorem Try.in23 : intI Try.prog 23 = none := by kernel_rfl
@[push_cast] theorem Try.st23 : isStr Try.prog 23 = false := by kernel_rfl
@[push_cast] theorem Try.by23 : isBytes Try.prog 23 = false := by kernel_rfl
@[push_cast] theorem Try.ty24 : tyI Try.prog 24 = some (1, false) := by kernel_rfl
@[push_cast] theorem Try.zl24 : zeroL Try.prog 24 = some [.slice none 0 0] := by kernel_rfl
@[push_cast] theorem Try.el24 : elemI Try.prog 24 = some (none, 27, true) := by kernel_rfl
@[push_cast] theorem Try.sl24 : slI Try.prog 24 = some (63, 27, 104) := by kernel_rfl
attribute [push_cast] Try.underlying24
@[push_cast] theorem Try.in24 : intI Try.prog 24 = none := by kernel_rfl
@[push_cast] theorem Try.st24 : isStr Try.prog 24 = false := by kernel_rfl
@[push_cast] theorem Try.by24 : isBytes Try.prog 24 = false := by kernel_rfl
@[push_cast] theorem Try.ty25 : tyI Try.prog 25 = some (1, false) := by kernel_rfl
@[push_cast] theorem Try.zl25 : zeroL Try.prog 25 = some [.nilFunc] := by kernel_rfl
@[push_cast] theorem Try.el25 : elemI Try.prog 25 = none := by kernel_rfl
attribute [push_cast] Try.underlying25
@[push_cast] theorem Try.in25 : intI Try.prog 25 = none := by kernel_rfl
@[push_cast] theorem Try.st25 : isStr Try.prog 25 = false := by kernel_rfl
@[push_cast] theorem Try.by25 : isBytes Try.prog 25 = false := by kernel_rfl
@[push_cast] theorem Try.ty26 : tyI Try.prog 26 = some (1, false) := by kernel_rfl
@[push_cast] theorem Try.zl26 : zeroL Try.prog 26 = some [.slice none 0 0] := by kernel_rfl
@[push_cast] theorem Try.el26 : elemI Try.prog 26 = some (none, 31, true) := by kernel_rfl
@[push_cast] theorem Try.sl26 : slI Try.prog 26 = some (42, 31, 120) := by kernel_rfl
attribute [push_cast] Try.underlying26
@[push_cast] theorem Try.in26 : intI Try.prog 26 = none := by kernel_rfl
@[push_cast] theorem Try.st26 : isStr Try.prog 26 = false := by kernel_rfl
@[push_cast] theorem Try.by26 : isBytes Try.prog 26 = false := by kernel_rfl
@[push_cast] theorem Try.ty27 : tyI Try.prog 27 = some (1, false) := by kernel_rfl
@[push_cast] theorem Try.zl27 : zeroL Try.prog 27 = some [.slice none 0 0] := by kernel_rfl
@[push_cast] theorem Try.el27 : elemI Try.prog 27 = some (none, 1, false) := by kernel_rfl
@[push_cast] theorem Try.sl27 : slI Try.prog 27 = some (3, 1, 8) := by kernel_rfl
attribute [push_cast] Try.underlying27
@[push_cast] theorem Try.in27 : intI Try.prog 27 = none := by kernel_rfl
@[push_cast] theorem Try.st27 : isStr Try.prog 27 = false := by kernel_rfl
@[push_cast] theorem Try.by27 : isBytes Try.prog 27 = false := by kernel_rfl
@[push_cast] theorem Try.ty28 : tyI Try.prog 28 = some (3, true) := by kernel_rfl
@[push_cast] theorem Try.zl28 : zeroL Try.prog 28 = some [.slice none 0 0, .slice none 0 0, .slice none 0 0] := by kernel_rfl
@[push_cast] theorem Try.el28 : elemI Try.prog 28 = none := by kernel_rfl
attribute [push_cast] Try.underlying28
@[push_cast] theorem Try.in28 : intI Try.prog 28 = none := by kernel_rfl
@[push_cast] theorem Try.st28 : isStr Try.prog 28 = false := by kernel_rfl
@[push_cast] theorem Try.by28 : isBytes Try.prog 28 = false := by kernel_rfl
@[push_cast] theorem Try.fi28_0 : fieldI Try.prog 28 0 = some (0, 1, false) := by kernel_rfl
@[push_cast] theorem Try.pl28_0 : placeOf Try.prog 28 0 = some (0, 1) := by kernel_rfl
@[push_cast] theorem Try.fi28_1 : fieldI Try.prog 28 1 = some (1, 1, false) := by kernel_rfl
@[push_cast] theorem Try.pl28_1 : placeOf Try.prog 28 1 = some (1, 1) := by kernel_rfl
@[push_cast] theorem Try.fi28_2 : fieldI Try.prog 28 2 = some (2, 1, false) := by kernel_rfl
@[push_cast] theorem Try.pl28_2 : placeOf Try.prog 28 2 = some (2, 1) := by kernel_rfl
@[push_cast] theorem Try.fo28 : fieldsOk Try.prog 28 = true := by kernel_rfl
@[push_cast] theorem Try.ty29 : tyI Try.prog 29 = some (3, true) := by kernel_rfl
@[push_cast] theorem Try.zl29 : zeroL Try.prog 29 = some [.slice none 0 0, .slice none 0 0, .slice none 0 0] := by kernel_rfl
@[push_cast] theorem Try.el29 : elemI Try.prog 29 = none := by kernel_rfl
attribute [push_cast] Try.underlying29
@[push_cast] theorem Try.in29 : intI Try.prog 29 = none := by kernel_rfl
@[push_cast] theorem Try.st29 : isStr Try.prog 29 = false := by kernel_rfl
@[push_cast] theorem Try.by29 : isBytes Try.prog 29 = false := by kernel_rfl
@[push_cast] theorem Try.fi29_0 : fieldI Try.prog 29 0 = some (0, 1, false) := by kernel_rfl
@[push_cast] theorem Try.pl29_0 : placeOf Try.prog 29 0 = some (0, 1) := by kernel_rfl
@[push_cast] theorem Try.fi29_1 : fieldI Try.prog 29 1 = some (1, 1, false) := by kernel_rfl
@[push_cast] theorem Try.pl29_1 : placeOf Try.prog 29 1 = some (1, 1) := by kernel_rfl
@[push_cast] theorem Try.fi29_2 : fieldI Try.prog 29 2 = some (2, 1, false) := by kernel_rfl
@[push_cast] theorem Try.pl29_2 : placeOf Try.prog 29 2 = some (2, 1) := by kernel_rfl
@[push_cast] theorem Try.fo29 : fieldsOk Try.prog 29 = true := by kernel_rfl
@[push_cast] theorem Try.ty30 : tyI Try.prog 30 = some (1, false) := by kernel_rfl
@[push_cast] theorem Try.zl30 : zeroL Try.prog 30 = some [.int .i64 0] := by kernel_rfl
@[push_cast] theorem Try.el30 : elemI Try.prog 30 = none := by kernel_rfl
attribute [push_cast] Try.underlying30
@[push_cast] theorem Try.in30 : intI Try.prog 30 = some .i64 := by kernel_rfl
@[push_cast] theorem Try.st30 : isStr Try.prog 30 = false := by kernel_rfl
@[push_cast] theorem Try.by30 : isBytes Try.prog 30 = false := by kernel_rfl
@[push_cast] theorem Try.ty31 : tyI Try.prog 31 = some (1, false) := by kernel_rfl
@[push_cast] theorem Try.el31 : elemI Try.prog 31 = none := by kernel_rfl
attribute [push_cast] Try.underlying31
@[push_cast] theorem Try.in31 : intI Try.prog 31 = none := by kernel_rfl
@[push_cast] theorem Try.st31 : isStr Try.prog 31 = false := by kernel_rfl
@[push_cast] theorem Try.by31 : isBytes Try.prog 31 = false := by kernel_rfl
@[push_cast] theorem Try.ty32 : tyI Try.prog 32 = some (1, false) := by kernel_rfl
@[push_cast] theorem Try.zl32 : zeroL Try.prog 32 = some [.nilFunc] := by kernel_rfl
@[push_cast] theorem Try.el32 : elemI Try.prog 32 = none := by kernel_rfl
attribute [push_cast] Try.underlying32
@[push_cast] theorem Try.in32 : intI Try.prog 32 = none := by kernel_rfl
@[push_cast] theorem Try.st32 : isStr Try.prog 32 = false := by kernel_rfl
@[push_cast] theorem Try.by32 : isBytes Try.prog 32 = false := by kernel_rfl
@[push_cast] theorem Try.ty33 : tyI Try.prog 33 = some (1, false) := by kernel_rfl
@[push_cast] theorem Try.el33 : elemI Try.prog 33 = none := by kernel_rfl
attribute [push_cast] Try.underlying33
@[push_cast] theorem Try.in33 : intI Try.prog 33 = none := by kernel_rfl
@[push_cast] theorem Try.st33 : isStr Try.prog 33 = false := by kernel_rfl
@[push_cast] theorem Try.by33 : isBytes Try.prog 33 = false := by kernel_rfl
@[push_cast] theorem Try.ty34 : tyI Try.prog 34 = some (1, false) := by kernel_rfl
@[push_cast] theorem Try.zl34 : zeroL Try.prog 34 = some [.nilFunc] := by kernel_rfl
@[push_cast] theorem Try.el34 : elemI Try.prog 34 = none := by kernel_rfl
attribute [push_cast] Try.underlying34
@[push_cast] theorem Try.in34 : intI Try.prog 34 = none := by kernel_rfl
@[push_cast] theorem Try.st34 : isStr Try.prog 34 = false := by kernel_rfl
@[push_cast] theorem Try.by34 : isBytes Try.prog 34 = false := by kernel_rfl
@[push_cast] theorem Try.ty35 : tyI Try.prog 35 = some (1, false) := by kernel_rfl
@[push_cast] theorem Try.zl35 : zeroL Try.prog 35 = some [.nilFunc] := by kernel_rfl
@[push_cast] theorem Try.el35 : elemI Try.prog 35 = none := by kernel_rfl
attribute [push_cast] Try.underlying35
@[push_cast] theorem Try.in35 : intI Try.prog 35 = none := by kernel_rfl
@[push_cast] theorem Try.st35 : isStr Try.prog 35 = false := by kernel_rfl
@[push_cast] theorem Try.by35 : isBytes Try.prog 35 = false := by kernel_rfl
@[push_cast] theorem Try.ty36 : tyI Try.prog 36 = some (20, true) := by kernel_rfl
@[push_cast] theorem Try.zl36 : zeroL Try.prog 36 = some [.int .u8 0, .int .u8 0, .int .u8 0, .int .u8 0, .int .u8 0, .int .u8 0, .int .u8 0, .int .u8 0, .int .u8 0, .int .u8 0, .int .u8 0, .int .u8 0, .int .u8 0, .int .u8 0, .int .u8 0, .int .u8 0, .int .u8 0, .int .u8 0, .int .u8 0, .int .u8 0] := by kernel_rfl
@[push_cast] theorem Try.el36 : elemI Try.prog 36 = some (some 20, 1, false) := by kernel_rfl
attribute [push_cast] Try.underlying36
@[push_cast] theorem Try.in36 : intI Try.prog 36 = none := by kernel_rfl
@[push_cast] theorem Try.st36 : isStr Try.prog 36 = false := by kernel_rfl
@[push_cast] theorem Try.by36 : isBytes Try.prog 36 = false := by kernel_rfl
@[push_cast] theorem Try.pl36_0 : placeOf Try.prog 36 0 = some (0, 1) := by kernel_rfl
@[push_cast] theorem Try.pl36_1 : placeOf Try.prog 36 1 = some (1, 1) := by kernel_rfl
@[push_cast] theorem Try.pl36_2 : placeOf Try.prog 36 2 = some (2, 1) := by kernel_rfl
@[push_cast] theorem Try.pl36_3 : placeOf Try.prog 36 3 = some (3, 1) := by kernel_rfl
@[push_cast] theorem Try.pl36_4 : placeOf Try.prog 36 4 = some (4, 1) := by kernel_rfl
@[push_cast] theorem Try.pl36_5 : placeOf Try.prog 36 5 = some (5, 1) := by kernel_rfl
@[push_cast] theorem Try.pl36_6 : placeOf Try.prog 36 6 = some (6, 1) := by kernel_rfl
@[push_cast] theorem Try.pl36_7 : placeOf Try.prog 36 7 = some (7, 1) := by kernel_rfl
@[push_cast] theorem Try.pl36_8 : placeOf Try.prog 36 8 = some (8, 1) := by kernel_rfl
@[push_cast] theorem Try.pl36_9 : placeOf Try.prog 36 9 = some (9, 1) := by kernel_rfl
@[push_cast] theorem Try.pl36_10 : placeOf Try.prog 36 10 = some (10, 1) := by kernel_rfl
@[push_cast] theorem Try.pl36_11 : placeOf Try.prog 36 11 = some (11, 1) := by kernel_rfl
@[push_cast] theorem Try.pl36_12 : placeOf Try.prog 36 12 = some (12, 1) := by kernel_rfl
@[push_cast] theorem Try.pl36_13 : placeOf Try.prog 36 13 = some (13, 1) := by kernel_rfl
@[push_cast] theorem Try.pl36_14 : placeOf Try.prog 36 14 = some (14, 1) := by kernel_rfl
@[push_cast] theorem Try.pl36_15 : placeOf Try.prog 36 15 = some (15, 1) := by kernel_rfl
@[push_cast] theorem Try.pl36_16 : placeOf Try.prog 36 16 = some (16, 1) := by kernel_rfl
@[push_cast] theorem Try.pl36_17 : placeOf Try.prog 36 17 = some (17, 1) := by kernel_rfl
@[push_cast] theorem Try.pl36_18 : placeOf Try.prog 36 18 = some (18, 1) := by kernel_rfl
@[push_cast] theorem Try.pl36_19 : placeOf Try.prog 36 19 = some (19, 1) := by kernel_rfl
@[push_cast] theorem Try.fo36 : fieldsOk Try.prog 36 = true := by kernel_rfl
@[push_cast] theorem Try.fk36 : flatK Try.prog 12 36 = some [.i, .i, .i, .i, .i, .i, .i, .i, .i, .i, .i, .i, .i, .i, .i, .i, .i, .i, .i, .i] := by kernel_rfl
@[push_cast] theorem Try.eg36 : Program.eqGuardType Try.prog (Program.depth Try.prog) 36 = false := by kernel_rfl
@[push_cast] theorem Try.ty37 : tyI Try.prog 37 = some (20, true) := by kernel_rfl
@[push_cast] theorem Try.zl37 : zeroL Try.prog 37 = some [.int .u8 0, .int .u8 0, .int .u8 0, .int .u8 0, .int .u8 0, .int .u8 0, .int .u8 0, .int .u8 0, .int .u8 0, .int .u8 0, .int .u8 0, .int .u8 0, .int .u8 0, .int .u8 0, .int .u8 0, .int .u8 0, .int .u8 0, .int .u8 0, .int .u8 0, .int .u8 0] := by kernel_rfl
@[push_cast] theorem Try.el37 : elemI Try.prog 37 = some (some 20, 1, false) := by kernel_rfl
attribute [push_cast] Try.underlying37
@[push_cast] theorem Try.in37 : intI Try.prog 37 = none := by kernel_rfl
@[push_cast] theorem Try.st37 : isStr Try.prog 37 = false := by kernel_rfl
@[push_cast] theorem Try.by37 : isBytes Try.prog 37 = false := by kernel_rfl
@[push_cast] theorem Try.pl37_0 : placeOf Try.prog 37 0 = some (0, 1) := by kernel_rfl
@[push_cast] theorem Try.pl37_1 : placeOf Try.prog 37 1 = some (1, 1) := by kernel_rfl
@[push_cast] theorem Try.pl37_2 : placeOf Try.prog 37 2 = some (2, 1) := by kernel_rfl
@[push_cast] theorem Try.pl37_3 : placeOf Try.prog 37 3 = some (3, 1) := by kernel_rfl
@[push_cast] theorem Try.pl37_4 : placeOf Try.prog 37 4 = some (4, 1) := by kernel_rfl
@[push_cast] theorem Try.pl37_5 : placeOf Try.prog 37 5 = some (5, 1) := by kernel_rfl
@[push_cast] theorem Try.pl37_6 : placeOf Try.prog 37 6 = some (6, 1) := by kernel_rfl
@[push_cast] theorem Try.pl37_7 : placeOf Try.prog 37 7 = some (7, 1) := by kernel_rfl
@[push_cast] theorem Try.pl37_8 : placeOf Try.prog 37 8 = some (8, 1) := by kernel_rfl
@[push_cast] theorem Try.pl37_9 : placeOf Try.prog 37 9 = some (9, 1) := by kernel_rfl
@[push_cast] theorem Try.pl37_10 : placeOf Try.prog 37 10 = some (10, 1) := by kernel_rfl
@[push_cast] theorem Try.pl37_11 : placeOf Try.prog 37 11 = some (11, 1) := by kernel_rfl
@[push_cast] theorem Try.pl37_12 : placeOf Try.prog 37 12 = some (12, 1) := by kernel_rfl
@[push_cast] theorem Try.pl37_13 : placeOf Try.prog 37 13 = some (13, 1) := by kernel_rfl
@[push_cast] theorem Try.pl37_14 : placeOf Try.prog 37 14 = some (14, 1) := by kernel_rfl
@[push_cast] theorem Try.pl37_15 : placeOf Try.prog 37 15 = some (15, 1) := by kernel_rfl
@[push_cast] theorem Try.pl37_16 : placeOf Try.prog 37 16 = some (16, 1) := by kernel_rfl
@[push_cast] theorem Try.pl37_17 : placeOf Try.prog 37 17 = some (17, 1) := by kernel_rfl
@[push_cast] theorem Try.pl37_18 : placeOf Try.prog 37 18 = some (18, 1) := by kernel_rfl
@[push_cast] theorem Try.pl37_19 : placeOf Try.prog 37 19 = some (19, 1) := by kernel_rfl
@[push_cast] theorem Try.fo37 : fieldsOk Try.prog 37 = true := by kernel_rfl
@[push_cast] theorem Try.fk37 : flatK Try.prog 12 37 = some [.i, .i, .i, .i, .i, .i, .i, .i, .i, .i, .i, .i, .i, .i, .i, .i, .i, .i, .i, .i] := by kernel_rfl
@[push_cast] theorem Try.eg37 : Program.eqGuardType Try.prog (Program.depth Try.prog) 37 = false := by kernel_rfl
@[push_cast] theorem Try.ty38 : tyI Try.prog 38 = some (1, false) := by kernel_rfl
@[push_cast] theorem Try.zl38 : zeroL Try.prog 38 = some [.int .u64 0] := by kernel_rfl
@[push_cast] theorem Try.el38 : elemI Try.prog 38 = none := by kernel_rfl
attribute [push_cast] Try.underlying38
@[push_cast] theorem Try.in38 : intI Try.prog 38 = some .u64 := by kernel_rfl
@[push_cast] theorem Try.st38 : isStr Try.prog 38 = false := by kernel_rfl
@[push_cast] theorem Try.by38 : isBytes Try.prog 38 = false := by kernel_rfl
@[push_cast] theorem Try.ty39 : tyI Try.prog 39 = some (4, true) := by kernel_rfl
@[push_cast] theorem Try.zl39 : zeroL Try.prog 39 = some [.int .u64 0, .int .u64 0, .int .u64 0, .int .u64 0] := by kernel_rfl
@[push_cast] theorem Try.el39 : elemI Try.prog 39 = some (some 4, 1, false) := by kernel_rfl
attribute [push_cast] Try.underlying39
@[push_cast] theorem Try.in39 : intI Try.prog 39 = none := by kernel_rfl
@[push_cast] theorem Try.st39 : isStr Try.prog 39 = false := by kernel_rfl
@[push_cast] theorem Try.by39 : isBytes Try.prog 39 = false := by kernel_rfl
@[push_cast] theorem Try.pl39_0 : placeOf Try.prog 39 0 = some (0, 1) := by kernel_rfl
@[push_cast] theorem Try.pl39_1 : placeOf Try.prog 39 1 = some (1, 1) := by kernel_rfl
@[push_cast] theorem Try.pl39_2 : placeOf Try.prog 39 2 = some (2, 1) := by kernel_rfl
@[push_cast] theorem Try.pl39_3 : placeOf Try.prog 39 3 = some (3, 1) := by kernel_rfl
@[push_cast] theorem Try.fo39 : fieldsOk Try.prog 39 = true := by kernel_rfl
@[push_cast] theorem Try.fk39 : flatK Try.prog 12 39 = some [.i, .i, .i, .i] := by kernel_rfl
@[push_cast] theorem Try.eg39 : Program.eqGuardType Try.prog (Program.depth Try.prog) 39 = false := by kernel_rfl
@[push_cast] theorem Try.ty40 : tyI Try.prog 40 = some (4, true) := by kernel_rfl
@[push_cast] theorem Try.zl40 : zeroL Try.prog 40 = some [.int .u64 0, .int .u64 0, .int .u64 0, .int .u64 0] := by kernel_rfl
@[push_cast] theorem Try.el40 : elemI Try.prog 40 = some (some 4, 1, false) := by kernel_rfl
attribute [push_cast] Try.underlying40
@[push_cast] theorem Try.in40 : intI Try.prog 40 = none := by kernel_rfl
@[push_cast] theorem Try.st40 : isStr Try.prog 40 = false := by kernel_rfl
@[push_cast] theorem Try.by40 : isBytes Try.prog 40 = false := by kernel_rfl
@[push_cast] theorem Try.pl40_0 : placeOf Try.prog 40 0 = some (0, 1) := by kernel_rfl
@[push_cast] theorem Try.pl40_1 : placeOf Try.prog 40 1 = some (1, 1) := by kernel_rfl
@[push_cast] theorem Try.pl40_2 : placeOf Try.prog 40 2 = some (2, 1) := by kernel_rfl
@[push_cast] theorem Try.pl40_3 : placeOf Try.prog 40 3 = some (3, 1) := by kernel_rfl
@[push_cast] theorem Try.fo40 : fieldsOk Try.prog 40 = true := by kernel_rfl
@[push_cast] theorem Try.fk40 : flatK Try.prog 12 40 = some [.i, .i, .i, .i] := by kernel_rfl
@[push_cast] theorem Try.eg40 : Program.eqGuardType Try.prog (Program.depth Try.prog) 40 = false := by kernel_rfl
@[push_cast] theorem Try.ty41 : tyI Try.prog 41 = some (31, true) := by kernel_rfl
@[push_cast] theorem Try.zl41 : zeroL Try.prog 41 = some [.int .i64 0, .int .u8 0, .int .u8 0, .int .u8 0, .int .u8 0, .int .u8 0, .int .u8 0, .int .u8 0, .int .u8 0, .int .u8 0, .int .u8 0, .int .u8 0, .int .u8 0, .int .u8 0, .int .u8 0, .int .u8 0, .int .u8 0, .int .u8 0, .int .u8 0, .int .u8 0, .int .u8 0, .int .u64 0, .int .u64 0, .int .u64 0, .int .u64 0, .int .u64 0, .int .u64 0, .int .u64 0, .int .u64 0, .int .i64 0, .string ByteArray.empty] := by kernel_rfl
@[push_cast] theorem Try.el41 : elemI Try.prog 41 = none := by kernel_rfl
attribute [push_cast] Try.underlying41
@[push_cast] theorem Try.in41 : intI Try.prog 41 = none := by kernel_rfl
@[push_cast] theorem Try.st41 : isStr Try.prog 41 = false := by kernel_rfl
@[push_cast] theorem Try.by41 : isBytes Try.prog 41 = false := by kernel_rfl
@[push_cast] theorem Try.fi41_0 : fieldI Try.prog 41 0 = some (0, 1, false) := by kernel_rfl
@[push_cast] theorem Try.pl41_0 : placeOf Try.prog 41 0 = some (0, 1) := by kernel_rfl
@[push_cast] theorem Try.fi41_1 : fieldI Try.prog 41 1 = some (1, 20, true) := by kernel_rfl
@[push_cast] theorem Try.pl41_1 : placeOf Try.prog 41 1 = some (1, 20) := by kernel_rfl
@[push_cast] theorem Try.fi41_2 : fieldI Try.prog 41 2 = some (21, 4, true) := by kernel_rfl
@[push_cast] theorem Try.pl41_2 : placeOf Try.prog 41 2 = some (21, 4) := by kernel_rfl
@[push_cast] theorem Try.fi41_3 : fieldI Try.prog 41 3 = some (25, 4, true) := by kernel_rfl
@[push_cast] theorem Try.pl41_3 : placeOf Try.prog 41 3 = some (25, 4) := by kernel_rfl
@[push_cast] theorem Try.fi41_4 : fieldI Try.prog 41 4 = some (29, 1, false) := by kernel_rfl
@[push_cast] theorem Try.pl41_4 : placeOf Try.prog 41 4 = some (29, 1) := by kernel_rfl
@[push_cast] theorem Try.fi41_5 : fieldI Try.prog 41 5 = some (30, 1, false) := by kernel_rfl
@[push_cast] theorem Try.pl41_5 : placeOf Try.prog 41 5 = some (30, 1) := by kernel_rfl
@[push_cast] theorem Try.fo41 : fieldsOk Try.prog 41 = true := by kernel_rfl
@[push_cast] theorem Try.fk41 : flatK Try.prog 12 41 = some [.i, .i, .i, .i, .i, .i, .i, .i, .i, .i, .i, .i, .i, .i, .i, .i, .i, .i, .i, .i, .i, .i, .i, .i, .i, .i, .i, .i, .i, .i, .s] := by kernel_rfl
@[push_cast] theorem Try.eg41 : Program.eqGuardType Try.prog (Program.depth Try.prog) 41 = false := by kernel_rfl
@[push_cast] theorem Try.ty42 : tyI Try.prog 42 = some (31, true) := by kernel_rfl
@[push_cast] theorem Try.zl42 : zeroL Try.prog 42 = some [.int .i64 0, .int .u8 0, .int .u8 0, .int .u8 0, .int .u8 0, .int .u8 0, .int .u8 0, .int .u8 0, .int .u8 0, .int .u8 0, .int .u8 0, .int .u8 0, .int .u8 0, .int .u8 0, .int .u8 0, .int .u8 0, .int .u8 0, .int .u8 0, .int .u8 0, .int .u8 0, .int .u8 0, .int .u64 0, .int .u64 0, .int .u64 0, .int .u64 0, .int .u64 0, .int .u64 0, .int .u64 0, .int .u64 0, .int .i64 0, .string ByteArray.empty] := by kernel_rfl
@[push_cast] theorem Try.el42 : elemI Try.prog 42 = none := by kernel_rfl
attribute [push_cast] Try.underlying42
@[push_cast] theorem Try.in42 : intI Try.prog 42 = none := by kernel_rfl
@[push_cast] theorem Try.st42 : isStr Try.prog 42 = false := by kernel_rfl
@[push_cast] theorem Try.by42 : isBytes Try.prog 42 = false := by kernel_rfl
@[push_cast] theorem Try.fi42_0 : fieldI Try.prog 42 0 = some (0, 1, false) := by kernel_rfl
@[push_cast] theorem Try.pl42_0 : placeOf Try.prog 42 0 = some (0, 1) := by kernel_rfl
@[push_cast] theorem Try.fi42_1 : fieldI Try.prog 42 1 = some (1, 20, true) := by kernel_rfl
@[push_cast] theorem Try.pl42_1 : placeOf Try.prog 42 1 = some (1, 20) := by kernel_rfl
@[push_cast] theorem Try.fi42_2 : fieldI Try.prog 42 2 = some (21, 4, true) := by kernel_rfl
@[push_cast] theorem Try.pl42_2 : placeOf Try.prog 42 2 = some (21, 4) := by kernel_rfl
@[push_cast] theorem Try.fi42_3 : fieldI Try.prog 42 3 = some (25, 4, true) := by kernel_rfl
@[push_cast] theorem Try.pl42_3 : placeOf Try.prog 42 3 = some (25, 4) := by kernel_rfl
@[push_cast] theorem Try.fi42_4 : fieldI Try.prog 42 4 = some (29, 1, false) := by kernel_rfl
@[push_cast] theorem Try.pl42_4 : placeOf Try.prog 42 4 = some (29, 1) := by kernel_rfl
@[push_cast] theorem Try.fi42_5 : fieldI Try.prog 42 5 = some (30, 1, false) := by kernel_rfl
@[push_cast] theorem Try.pl42_5 : placeOf Try.prog 42 5 = some (30, 1) := by kernel_rfl
@[push_cast] theorem Try.fo42 : fieldsOk Try.prog 42 = true := by kernel_rfl
@[push_cast] theorem Try.fk42 : flatK Try.prog 12 42 = some [.i, .i, .i, .i, .i, .i, .i, .i, .i, .i, .i, .i, .i, .i, .i, .i, .i, .i, .i, .i, .i, .i, .i, .i, .i, .i, .i, .i, .i, .i, .s] := by kernel_rfl
@[push_cast] theorem Try.eg42 : Program.eqGuardType Try.prog (Program.depth Try.prog) 42 = false := by kernel_rfl
@[push_cast] theorem Try.ty43 : tyI Try.prog 43 = some (1, false) := by kernel_rfl
@[push_cast] theorem Try.zl43 : zeroL Try.prog 43 = some [.nilFunc] := by kernel_rfl
@[push_cast] theorem Try.el43 : elemI Try.prog 43 = none := by kernel_rfl
attribute [push_cast] Try.underlying43
@[push_cast] theorem Try.in43 : intI Try.prog 43 = none := by kernel_rfl
@[push_cast] theorem Try.st43 : isStr Try.prog 43 = false := by kernel_rfl
@[push_cast] theorem Try.by43 : isBytes Try.prog 43 = false := by kernel_rfl
@[push_cast] theorem Try.ty44 : tyI Try.prog 44 = some (4, true) := by kernel_rfl
@[push_cast] theorem Try.zl44 : zeroL Try.prog 44 = some [.int .i64 0, .int .i64 0, .int .i64 0, .int .i64 0] := by kernel_rfl
@[push_cast] theorem Try.el44 : elemI Try.prog 44 = some (some 4, 1, false) := by kernel_rfl
attribute [push_cast] Try.underlying44
@[push_cast] theorem Try.in44 : intI Try.prog 44 = none := by kernel_rfl
@[push_cast] theorem Try.st44 : isStr Try.prog 44 = false := by kernel_rfl
@[push_cast] theorem Try.by44 : isBytes Try.prog 44 = false := by kernel_rfl
@[push_cast] theorem Try.pl44_0 : placeOf Try.prog 44 0 = some (0, 1) := by kernel_rfl
@[push_cast] theorem Try.pl44_1 : placeOf Try.prog 44 1 = some (1, 1) := by kernel_rfl
@[push_cast] theorem Try.pl44_2 : placeOf Try.prog 44 2 = some (2, 1) := by kernel_rfl
@[push_cast] theorem Try.pl44_3 : placeOf Try.prog 44 3 = some (3, 1) := by kernel_rfl
@[push_cast] theorem Try.fo44 : fieldsOk Try.prog 44 = true := by kernel_rfl
@[push_cast] theorem Try.fk44 : flatK Try.prog 12 44 = some [.i, .i, .i, .i] := by kernel_rfl
@[push_cast] theorem Try.eg44 : Program.eqGuardType Try.prog (Program.depth Try.prog) 44 = false := by kernel_rfl
@[push_cast] theorem Try.ty45 : tyI Try.prog 45 = some (1, false) := by kernel_rfl
@[push_cast] theorem Try.zl45 : zeroL Try.prog 45 = some [.nilFunc] := by kernel_rfl
@[push_cast] theorem Try.el45 : elemI Try.prog 45 = none := by kernel_rfl
attribute [push_cast] Try.underlying45
@[push_cast] theorem Try.in45 : intI Try.prog 45 = none := by kernel_rfl
@[push_cast] theorem Try.st45 : isStr Try.prog 45 = false := by kernel_rfl
@[push_cast] theorem Try.by45 : isBytes Try.prog 45 = false := by kernel_rfl
@[push_cast] theorem Try.ty46 : tyI Try.prog 46 = some (1, false) := by kernel_rfl
@[push_cast] theorem Try.zl46 : zeroL Try.prog 46 = some [.nilFunc] := by kernel_rfl
@[push_cast] theorem Try.el46 : elemI Try.prog 46 = none := by kernel_rfl
attribute [push_cast] Try.underlying46
@[push_cast] theorem Try.in46 : intI Try.prog 46 = none := by kernel_rfl
@[push_cast] theorem Try.st46 : isStr Try.prog 46 = false := by kernel_rfl
@[push_cast] theorem Try.by46 : isBytes Try.prog 46 = false := by kernel_rfl
@[push_cast] theorem Try.ty47 : tyI Try.prog 47 = some (1, false) := by kernel_rfl
@[push_cast] theorem Try.zl47 : zeroL Try.prog 47 = some [.nilFunc] := by kernel_rfl
@[push_cast] theorem Try.el47 : elemI Try.prog 47 = none := by kernel_rfl
attribute [push_cast] Try.underlying47
@[push_cast] theorem Try.in47 : intI Try.prog 47 = none := by kernel_rfl
@[push_cast] theorem Try.st47 : isStr Try.prog 47 = false := by kernel_rfl
@[push_cast] theorem Try.by47 : isBytes Try.prog 47 = false := by kernel_rfl
@[push_cast] theorem Try.ty48 : tyI Try.prog 48 = some (1, false) := by kernel_rfl
@[push_cast] theorem Try.zl48 : zeroL Try.prog 48 = some [.nilFunc] := by kernel_rfl
@[push_cast] theorem Try.el48 : elemI Try.prog 48 = none := by kernel_rfl
attribute [push_cast] Try.underlying48
@[push_cast] theorem Try.in48 : intI Try.prog 48 = none := by kernel_rfl
@[push_cast] theorem Try.st48 : isStr Try.prog 48 = false := by kernel_rfl
@[push_cast] theorem Try.by48 : isBytes Try.prog 48 = false := by kernel_rfl
@[push_cast] theorem Try.ty49 : tyI Try.prog 49 = some (1, false) := by kernel_rfl
@[push_cast] theorem Try.zl49 : zeroL Try.prog 49 = some [.nilFunc] := by kernel_rfl
@[push_cast] theorem Try.el49 : elemI Try.prog 49 = none := by kernel_rfl
attribute [push_cast] Try.underlying49
@[push_cast] theorem Try.in49 : intI Try.prog 49 = none := by kernel_rfl
@[push_cast] theorem Try.st49 : isStr Try.prog 49 = false := by kernel_rfl
@[push_cast] theorem Try.by49 : isBytes Try.prog 49 = false := by kernel_rfl
@[push_cast] theorem Try.ty50 : tyI Try.prog 50 = some (1, false) := by kernel_rfl
@[push_cast] theorem Try.zl50 : zeroL Try.prog 50 = some [.nilFunc] := by kernel_rfl
@[push_cast] theorem Try.el50 : elemI Try.prog 50 = none := by kernel_rfl
attribute [push_cast] Try.underlying50
@[push_cast] theorem Try.in50 : intI Try.prog 50 = none := by kernel_rfl
@[push_cast] theorem Try.st50 : isStr Try.prog 50 = false := by kernel_rfl
@[push_cast] theorem Try.by50 : isBytes Try.prog 50 = false := by kernel_rfl
@[push_cast] theorem Try.ty51 : tyI Try.prog 51 = some (1, false) := by kernel_rfl
@[push_cast] theorem Try.el51 : elemI Try.prog 51 = none := by kernel_rfl
attribute [push_cast] Try.underlying51
@[push_cast] theorem Try.in51 : intI Try.prog 51 = none := by kernel_rfl
@[push_cast] theorem Try.st51 : isStr Try.prog 51 = false := by kernel_rfl
@[push_cast] theorem Try.by51 : isBytes Try.prog 51 = false := by kernel_rfl
@[push_cast] theorem Try.ty52 : tyI Try.prog 52 = some (1, false) := by kernel_rfl
@[push_cast] theorem Try.zl52 : zeroL Try.prog 52 = some [.nilFunc] := by kernel_rfl
@[push_cast] theorem Try.el52 : elemI Try.prog 52 = none := by kernel_rfl
attribute [push_cast] Try.underlying52
@[push_cast] theorem Try.in52 : intI Try.prog 52 = none := by kernel_rfl
@[push_cast] theorem Try.st52 : isStr Try.prog 52 = false := by kernel_rfl
@[push_cast] theorem Try.by52 : isBytes Try.prog 52 = false := by kernel_rfl
@[push_cast] theorem Try.ty53 : tyI Try.prog 53 = some (1, false) := by kernel_rfl
@[push_cast] theorem Try.zl53 : zeroL Try.prog 53 = some [.nilFunc] := by kernel_rfl
@[push_cast] theorem Try.el53 : elemI Try.prog 53 = none := by kernel_rfl
attribute [push_cast] Try.underlying53
@[push_cast] theorem Try.in53 : intI Try.prog 53 = none := by kernel_rfl
@[push_cast] theorem Try.st53 : isStr Try.prog 53 = false := by kernel_rfl
@[push_cast] theorem Try.by53 : isBytes Try.prog 53 = false := by kernel_rfl
@[push_cast] theorem Try.ty54 : tyI Try.prog 54 = some (1, false) := by kernel_rfl
@[push_cast] theorem Try.zl54 : zeroL Try.prog 54 = some [.nilFunc] := by kernel_rfl
@[push_cast] theorem Try.el54 : elemI Try.prog 54 = none := by kernel_rfl
attribute [push_cast] Try.underlying54
@[push_cast] theorem Try.in54 : intI Try.prog 54 = none := by kernel_rfl
@[push_cast] theorem Try.st54 : isStr Try.prog 54 = false := by kernel_rfl
@[push_cast] theorem Try.by54 : isBytes Try.prog 54 = false := by kernel_rfl
@[push_cast] theorem Try.ty55 : tyI Try.prog 55 = some (1, false) := by kernel_rfl
@[push_cast] theorem Try.zl55 : zeroL Try.prog 55 = some [.nilFunc] := by kernel_rfl
@[push_cast] theorem Try.el55 : elemI Try.prog 55 = none := by kernel_rfl
attribute [push_cast] Try.underlying55
@[push_cast] theorem Try.in55 : intI Try.prog 55 = none := by kernel_rfl
@[push_cast] theorem Try.st55 : isStr Try.prog 55 = false := by kernel_rfl
@[push_cast] theorem Try.by55 : isBytes Try.prog 55 = false := by kernel_rfl
@[push_cast] theorem Try.ty56 : tyI Try.prog 56 = some (1, false) := by kernel_rfl
@[push_cast] theorem Try.zl56 : zeroL Try.prog 56 = some [.nilFunc] := by kernel_rfl
@[push_cast] theorem Try.el56 : elemI Try.prog 56 = none := by kernel_rfl
attribute [push_cast] Try.underlying56
@[push_cast] theorem Try.in56 : intI Try.prog 56 = none := by kernel_rfl
@[push_cast] theorem Try.st56 : isStr Try.prog 56 = false := by kernel_rfl
@[push_cast] theorem Try.by56 : isBytes Try.prog 56 = false := by kernel_rfl
@[push_cast] theorem Try.ty57 : tyI Try.prog 57 = some (1, false) := by kernel_rfl
@[push_cast] theorem Try.zl57 : zeroL Try.prog 57 = some [.nilFunc] := by kernel_rfl
@[push_cast] theorem Try.el57 : elemI Try.prog 57 = none := by kernel_rfl
attribute [push_cast] Try.underlying57
@[push_cast] theorem Try.in57 : intI Try.prog 57 = none := by kernel_rfl
@[push_cast] theorem Try.st57 : isStr Try.prog 57 = false := by kernel_rfl
@[push_cast] theorem Try.by57 : isBytes Try.prog 57 = false := by kernel_rfl
@[push_cast] theorem Try.ty58 : tyI Try.prog 58 = some (1, false) := by kernel_rfl
@[push_cast] theorem Try.zl58 : zeroL Try.prog 58 = some [.nilFunc] := by kernel_rfl
@[push_cast] theorem Try.el58 : elemI Try.prog 58 = none := by kernel_rfl
attribute [push_cast] Try.underlying58
@[push_cast] theorem Try.in58 : intI Try.prog 58 = none := by kernel_rfl
@[push_cast] theorem Try.st58 : isStr Try.prog 58 = false := by kernel_rfl
@[push_cast] theorem Try.by58 : isBytes Try.prog 58 = false := by kernel_rfl
@[push_cast] theorem Try.ty59 : tyI Try.prog 59 = some (1, false) := by kernel_rfl
@[push_cast] theorem Try.zl59 : zeroL Try.prog 59 = some [.slice none 0 0] := by kernel_rfl
@[push_cast] theorem Try.el59 : elemI Try.prog 59 = some (none, 1, false) := by kernel_rfl
@[push_cast] theorem Try.sl59 : slI Try.prog 59 = some (9, 1, 16) := by kernel_rfl
attribute [push_cast] Try.underlying59
@[push_cast] theorem Try.in59 : intI Try.prog 59 = none := by kernel_rfl
@[push_cast] theorem Try.st59 : isStr Try.prog 59 = false := by kernel_rfl
@[push_cast] theorem Try.by59 : isBytes Try.prog 59 = false := by kernel_rfl
@[push_cast] theorem Try.ty60 : tyI Try.prog 60 = some (1, false) := by kernel_rfl
@[push_cast] theorem Try.zl60 : zeroL Try.prog 60 = some [.nilFunc] := by kernel_rfl
@[push_cast] theorem Try.el60 : elemI Try.prog 60 = none := by kernel_rfl
attribute [push_cast] Try.underlying60
@[push_cast] theorem Try.in60 : intI Try.prog 60 = none := by kernel_rfl
@[push_cast] theorem Try.st60 : isStr Try.prog 60 = false := by kernel_rfl
@[push_cast] theorem Try.by60 : isBytes Try.prog 60 = false := by kernel_rfl
@[push_cast] theorem Try.ty61 : tyI Try.prog 61 = some (1, false) := by kernel_rfl
@[push_cast] theorem Try.zl61 : zeroL Try.prog 61 = some [.slice none 0 0] := by kernel_rfl
@[push_cast] theorem Try.el61 : elemI Try.prog 61 = some (none, 8, true) := by kernel_rfl
@[push_cast] theorem Try.sl61 : slI Try.prog 61 = some (78, 8, 64) := by kernel_rfl
attribute [push_cast] Try.underlying61
@[push_cast] theorem Try.in61 : intI Try.prog 61 = none := by kernel_rfl
@[push_cast] theorem Try.st61 : isStr Try.prog 61 = false := by kernel_rfl
@[push_cast] theorem Try.by61 : isBytes Try.prog 61 = false := by kernel_rfl
@[push_cast] theorem Try.ty62 : tyI Try.prog 62 = some (27, true) := by kernel_rfl
@[push_cast] theorem Try.zl62 : zeroL Try.prog 62 = some [.int .u8 0, .int .u8 0, .int .u8 0, .int .u8 0, .int .u8 0, .int .u8 0, .int .u8 0, .int .u8 0, .int .u8 0, .int .u8 0, .int .u8 0, .int .u8 0, .int .u8 0, .int .u8 0, .int .u8 0, .int .u8 0, .int .u8 0, .int .u8 0, .int .u8 0, .int .u8 0, .int .u64 0, .int .u64 0, .int .u64 0, .int .u64 0, .int .i64 0, .string ByteArray.empty, .slice none 0 0] := by kernel_rfl
@[push_cast] theorem Try.el62 : elemI Try.prog 62 = none := by kernel_rfl
attribute [push_cast] Try.underlying62
@[push_cast] theorem Try.in62 : intI Try.prog 62 = none := by kernel_rfl
@[push_cast] theorem Try.st62 : isStr Try.prog 62 = false := by kernel_rfl
@[push_cast] theorem Try.by62 : isBytes Try.prog 62 = false := by kernel_rfl
@[push_cast] theorem Try.fi62_0 : fieldI Try.prog 62 0 = some (0, 20, true) := by kernel_rfl
@[push_cast] theorem Try.pl62_0 : placeOf Try.prog 62 0 = some (0, 20) := by kernel_rfl
@[push_cast] theorem Try.fi62_1 : fieldI Try.prog 62 1 = some (20, 4, true) := by kernel_rfl
@[push_cast] theorem Try.pl62_1 : placeOf Try.prog 62 1 = some (20, 4) := by kernel_rfl
@[push_cast] theorem Try.fi62_2 : fieldI Try.prog 62 2 = some (24, 1, false) := by kernel_rfl
@[push_cast] theorem Try.pl62_2 : placeOf Try.prog 62 2 = some (24, 1) := by kernel_rfl
@[push_cast] theorem Try.fi62_3 : fieldI Try.prog 62 3 = some (25, 1, false) := by kernel_rfl
@[push_cast] theorem Try.pl62_3 : placeOf Try.prog 62 3 = some (25, 1) := by kernel_rfl
@[push_cast] theorem Try.fi62_4 : fieldI Try.prog 62 4 = some (26, 1, false) := by kernel_rfl
@[push_cast] theorem Try.pl62_4 : placeOf Try.prog 62 4 = some (26, 1) := by kernel_rfl
@[push_cast] theorem Try.fo62 : fieldsOk Try.prog 62 = true := by kernel_rfl
@[push_cast] theorem Try.ty63 : tyI Try.prog 63 = some (27, true) := by kernel_rfl
@[push_cast] theorem Try.zl63 : zeroL Try.prog 63 = some [.int .u8 0, .int .u8 0, .int .u8 0, .int .u8 0, .int .u8 0, .int .u8 0, .int .u8 0, .int .u8 0, .int .u8 0, .int .u8 0, .int .u8 0, .int .u8 0, .int .u8 0, .int .u8 0, .int .u8 0, .int .u8 0, .int .u8 0, .int .u8 0, .int .u8 0, .int .u8 0, .int .u64 0, .int .u64 0, .int .u64 0, .int .u64 0, .int .i64 0, .string ByteArray.empty, .slice none 0 0] := by kernel_rfl
@[push_cast] theorem Try.el63 : elemI Try.prog 63 = none := by kernel_rfl
attribute [push_cast] Try.underlying63
@[push_cast] theorem Try.in63 : intI Try.prog 63 = none := by kernel_rfl
@[push_cast] theorem Try.st63 : isStr Try.prog 63 = false := by kernel_rfl
@[push_cast] theorem Try.by63 : isBytes Try.prog 63 = false := by kernel_rfl
@[push_cast] theorem Try.fi63_0 : fieldI Try.prog 63 0 = some (0, 20, true) := by kernel_rfl
@[push_cast] theorem Try.pl63_0 : placeOf Try.prog 63 0 = some (0, 20) := by kernel_rfl
@[push_cast] theorem Try.fi63_1 : fieldI Try.prog 63 1 = some (20, 4, true) := by kernel_rfl
@[push_cast] theorem Try.pl63_1 : placeOf Try.prog 63 1 = some (20, 4) := by kernel_rfl
@[push_cast] theorem Try.fi63_2 : fieldI Try.prog 63 2 = some (24, 1, false) := by kernel_rfl
@[push_cast] theorem Try.pl63_2 : placeOf Try.prog 63 2 = some (24, 1) := by kernel_rfl
@[push_cast] theorem Try.fi63_3 : fieldI Try.prog 63 3 = some (25, 1, false) := by kernel_rfl
@[push_cast] theorem Try.pl63_3 : placeOf Try.prog 63 3 = some (25, 1) := by kernel_rfl
@[push_cast] theorem Try.fi63_4 : fieldI Try.prog 63 4 = some (26, 1, false) := by kernel_rfl
@[push_cast] theorem Try.pl63_4 : placeOf Try.prog 63 4 = some (26, 1) := by kernel_rfl
@[push_cast] theorem Try.fo63 : fieldsOk Try.prog 63 = true := by kernel_rfl
@[push_cast] theorem Try.ty64 : tyI Try.prog 64 = some (1, false) := by kernel_rfl
@[push_cast] theorem Try.el64 : elemI Try.prog 64 = none := by kernel_rfl
attribute [push_cast] Try.underlying64
@[push_cast] theorem Try.in64 : intI Try.prog 64 = none := by kernel_rfl
@[push_cast] theorem Try.st64 : isStr Try.prog 64 = false := by kernel_rfl
@[push_cast] theorem Try.by64 : isBytes Try.prog 64 = false := by kernel_rfl
@[push_cast] theorem Try.ty65 : tyI Try.prog 65 = some (1, false) := by kernel_rfl
@[push_cast] theorem Try.zl65 : zeroL Try.prog 65 = some [.nilFunc] := by kernel_rfl
@[push_cast] theorem Try.el65 : elemI Try.prog 65 = none := by kernel_rfl
attribute [push_cast] Try.underlying65
@[push_cast] theorem Try.in65 : intI Try.prog 65 = none := by kernel_rfl
@[push_cast] theorem Try.st65 : isStr Try.prog 65 = false := by kernel_rfl
@[push_cast] theorem Try.by65 : isBytes Try.prog 65 = false := by kernel_rfl
@[push_cast] theorem Try.ty66 : tyI Try.prog 66 = some (1, false) := by kernel_rfl
@[push_cast] theorem Try.zl66 : zeroL Try.prog 66 = some [.nilFunc] := by kernel_rfl
@[push_cast] theorem Try.el66 : elemI Try.prog 66 = none := by kernel_rfl
attribute [push_cast] Try.underlying66
@[push_cast] theorem Try.in66 : intI Try.prog 66 = none := by kernel_rfl
@[push_cast] theorem Try.st66 : isStr Try.prog 66 = false := by kernel_rfl
@[push_cast] theorem Try.by66 : isBytes Try.prog 66 = false := by kernel_rfl
@[push_cast] theorem Try.ty67 : tyI Try.prog 67 = some (1, false) := by kernel_rfl
@[push_cast] theorem Try.zl67 : zeroL Try.prog 67 = some [.nilFunc] := by kernel_rfl
@[push_cast] theorem Try.el67 : elemI Try.prog 67 = none := by kernel_rfl
attribute [push_cast] Try.underlying67
@[push_cast] theorem Try.in67 : intI Try.prog 67 = none := by kernel_rfl
@[push_cast] theorem Try.st67 : isStr Try.prog 67 = false := by kernel_rfl
@[push_cast] theorem Try.by67 : isBytes Try.prog 67 = false := by kernel_rfl
@[push_cast] theorem Try.ty68 : tyI Try.prog 68 = some (1, false) := by kernel_rfl
@[push_cast] theorem Try.zl68 : zeroL Try.prog 68 = some [.nilFunc] := by kernel_rfl
@[push_cast] theorem Try.el68 : elemI Try.prog 68 = none := by kernel_rfl
attribute [push_cast] Try.underlying68
@[push_cast] theorem Try.in68 : intI Try.prog 68 = none := by kernel_rfl
@[push_cast] theorem Try.st68 : isStr Try.prog 68 = false := by kernel_rfl
@[push_cast] theorem Try.by68 : isBytes Try.prog 68 = false := by kernel_rfl
@[push_cast] theorem Try.ty69 : tyI Try.prog 69 = some (1, false) := by kernel_rfl
@[push_cast] theorem Try.zl69 : zeroL Try.prog 69 = some [.nilFunc] := by kernel_rfl
@[push_cast] theorem Try.el69 : elemI Try.prog 69 = none := by kernel_rfl
attribute [push_cast] Try.underlying69
@[push_cast] theorem Try.in69 : intI Try.prog 69 = none := by kernel_rfl
@[push_cast] theorem Try.st69 : isStr Try.prog 69 = false := by kernel_rfl
@[push_cast] theorem Try.by69 : isBytes Try.prog 69 = false := by kernel_rfl
@[push_cast] theorem Try.ty70 : tyI Try.prog 70 = some (1, false) := by kernel_rfl
@[push_cast] theorem Try.zl70 : zeroL Try.prog 70 = some [.nilFunc] := by kernel_rfl
@[push_cast] theorem Try.el70 : elemI Try.prog 70 = none := by kernel_rfl
attribute [push_cast] Try.underlying70
@[push_cast] theorem Try.in70 : intI Try.prog 70 = none := by kernel_rfl
@[push_cast] theorem Try.st70 : isStr Try.prog 70 = false := by kernel_rfl
@[push_cast] theorem Try.by70 : isBytes Try.prog 70 = false := by kernel_rfl
@[push_cast] theorem Try.ty71 : tyI Try.prog 71 = some (1, false) := by kernel_rfl
@[push_cast] theorem Try.el71 : elemI Try.prog 71 = none := by kernel_rfl
attribute [push_cast] Try.underlying71
@[push_cast] theorem Try.in71 : intI Try.prog 71 = none := by kernel_rfl
@[push_cast] theorem Try.st71 : isStr Try.prog 71 = false := by kernel_rfl
@[push_cast] theorem Try.by71 : isBytes Try.prog 71 = false := by kernel_rfl
@[push_cast] theorem Try.ty72 : tyI Try.prog 72 = some (1, false) := by kernel_rfl
@[push_cast] theorem Try.zl72 : zeroL Try.prog 72 = some [.nilFunc] := by kernel_rfl
@[push_cast] theorem Try.el72 : elemI Try.prog 72 = none := by kernel_rfl
attribute [push_cast] Try.underlying72
@[push_cast] theorem Try.in72 : intI Try.prog 72 = none := by kernel_rfl
@[push_cast] theorem Try.st72 : isStr Try.prog 72 = false := by kernel_rfl
@[push_cast] theorem Try.by72 : isBytes Try.prog 72 = false := by kernel_rfl
@[push_cast] theorem Try.ty73 : tyI Try.prog 73 = some (1, false) := by kernel_rfl
@[push_cast] theorem Try.zl73 : zeroL Try.prog 73 = some [.nilFunc] := by kernel_rfl
@[push_cast] theorem Try.el73 : elemI Try.prog 73 = none := by kernel_rfl
attribute [push_cast] Try.underlying73
@[push_cast] theorem Try.in73 : intI Try.prog 73 = none := by kernel_rfl
@[push_cast] theorem Try.st73 : isStr Try.prog 73 = false := by kernel_rfl
@[push_cast] theorem Try.by73 : isBytes Try.prog 73 = false := by kernel_rfl
@[push_cast] theorem Try.ty74 : tyI Try.prog 74 = some (1, false) := by kernel_rfl
@[push_cast] theorem Try.zl74 : zeroL Try.prog 74 = some [.nilFunc] := by kernel_rfl
@[push_cast] theorem Try.el74 : elemI Try.prog 74 = none := by kernel_rfl
attribute [push_cast] Try.underlying74
@[push_cast] theorem Try.in74 : intI Try.prog 74 = none := by kernel_rfl
@[push_cast] theorem Try.st74 : isStr Try.prog 74 = false := by kernel_rfl
@[push_cast] theorem Try.by74 : isBytes Try.prog 74 = false := by kernel_rfl
@[push_cast] theorem Try.ty75 : tyI Try.prog 75 = some (1, false) := by kernel_rfl
@[push_cast] theorem Try.zl75 : zeroL Try.prog 75 = some [.nilFunc] := by kernel_rfl
@[push_cast] theorem Try.el75 : elemI Try.prog 75 = none := by kernel_rfl
attribute [push_cast] Try.underlying75
@[push_cast] theorem Try.in75 : intI Try.prog 75 = none := by kernel_rfl
@[push_cast] theorem Try.st75 : isStr Try.prog 75 = false := by kernel_rfl
@[push_cast] theorem Try.by75 : isBytes Try.prog 75 = false := by kernel_rfl
@[push_cast] theorem Try.ty76 : tyI Try.prog 76 = some (1, false) := by kernel_rfl
@[push_cast] theorem Try.zl76 : zeroL Try.prog 76 = some [.nilFunc] := by kernel_rfl
@[push_cast] theorem Try.el76 : elemI Try.prog 76 = none := by kernel_rfl
attribute [push_cast] Try.underlying76
@[push_cast] theorem Try.in76 : intI Try.prog 76 = none := by kernel_rfl
@[push_cast] theorem Try.st76 : isStr Try.prog 76 = false := by kernel_rfl
@[push_cast] theorem Try.by76 : isBytes Try.prog 76 = false := by kernel_rfl
@[push_cast] theorem Try.ty77 : tyI Try.prog 77 = some (8, true) := by kernel_rfl
@[push_cast] theorem Try.zl77 : zeroL Try.prog 77 = some [.int .u64 0, .int .u64 0, .int .u64 0, .int .u64 0, .int .u64 0, .int .u64 0, .int .u64 0, .int .u64 0] := by kernel_rfl
@[push_cast] theorem Try.el77 : elemI Try.prog 77 = none := by kernel_rfl
attribute [push_cast] Try.underlying77
@[push_cast] theorem Try.in77 : intI Try.prog 77 = none := by kernel_rfl
@[push_cast] theorem Try.st77 : isStr Try.prog 77 = false := by kernel_rfl
@[push_cast] theorem Try.by77 : isBytes Try.prog 77 = false := by kernel_rfl
@[push_cast] theorem Try.fi77_0 : fieldI Try.prog 77 0 = some (0, 4, true) := by kernel_rfl
@[push_cast] theorem Try.pl77_0 : placeOf Try.prog 77 0 = some (0, 4) := by kernel_rfl
@[push_cast] theorem Try.fi77_1 : fieldI Try.prog 77 1 = some (4, 4, true) := by kernel_rfl
@[push_cast] theorem Try.pl77_1 : placeOf Try.prog 77 1 = some (4, 4) := by kernel_rfl
@[push_cast] theorem Try.fo77 : fieldsOk Try.prog 77 = true := by kernel_rfl
@[push_cast] theorem Try.fk77 : flatK Try.prog 12 77 = some [.i, .i, .i, .i, .i, .i, .i, .i] := by kernel_rfl
@[push_cast] theorem Try.eg77 : Program.eqGuardType Try.prog (Program.depth Try.prog) 77 = false := by kernel_rfl
@[push_cast] theorem Try.ty78 : tyI Try.prog 78 = some (8, true) := by kernel_rfl
@[push_cast] theorem Try.zl78 : zeroL Try.prog 78 = some [.int .u64 0, .int .u64 0, .int .u64 0, .int .u64 0, .int .u64 0, .int .u64 0, .int .u64 0, .int .u64 0] := by kernel_rfl
@[push_cast] theorem Try.el78 : elemI Try.prog 78 = none := by kernel_rfl
attribute [push_cast] Try.underlying78
@[push_cast] theorem Try.in78 : intI Try.prog 78 = none := by kernel_rfl
@[push_cast] theorem Try.st78 : isStr Try.prog 78 = false := by kernel_rfl
@[push_cast] theorem Try.by78 : isBytes Try.prog 78 = false := by kernel_rfl
@[push_cast] theorem Try.fi78_0 : fieldI Try.prog 78 0 = some (0, 4, true) := by kernel_rfl
@[push_cast] theorem Try.pl78_0 : placeOf Try.prog 78 0 = some (0, 4) := by kernel_rfl
@[push_cast] theorem Try.fi78_1 : fieldI Try.prog 78 1 = some (4, 4, true) := by kernel_rfl
@[push_cast] theorem Try.pl78_1 : placeOf Try.prog 78 1 = some (4, 4) := by kernel_rfl
@[push_cast] theorem Try.fo78 : fieldsOk Try.prog 78 = true := by kernel_rfl
@[push_cast] theorem Try.fk78 : flatK Try.prog 12 78 = some [.i, .i, .i, .i, .i, .i, .i, .i] := by kernel_rfl
@[push_cast] theorem Try.eg78 : Program.eqGuardType Try.prog (Program.depth Try.prog) 78 = false := by kernel_rfl
@[push_cast] theorem Try.ty79 : tyI Try.prog 79 = some (1, false) := by kernel_rfl
@[push_cast] theorem Try.zl79 : zeroL Try.prog 79 = some [.nilFunc] := by kernel_rfl
@[push_cast] theorem Try.el79 : elemI Try.prog 79 = none := by kernel_rfl
attribute [push_cast] Try.underlying79
@[push_cast] theorem Try.in79 : intI Try.prog 79 = none := by kernel_rfl
@[push_cast] theorem Try.st79 : isStr Try.prog 79 = false := by kernel_rfl
@[push_cast] theorem Try.by79 : isBytes Try.prog 79 = false := by kernel_rfl
@[push_cast] theorem Try.ty80 : tyI Try.prog 80 = some (1, false) := by kernel_rfl
@[push_cast] theorem Try.zl80 : zeroL Try.prog 80 = some [.nilFunc] := by kernel_rfl
@[push_cast] theorem Try.el80 : elemI Try.prog 80 = none := by kernel_rfl
attribute [push_cast] Try.underlying80
@[push_cast] theorem Try.in80 : intI Try.prog 80 = none := by kernel_rfl
@[push_cast] theorem Try.st80 : isStr Try.prog 80 = false := by kernel_rfl
@[push_cast] theorem Try.by80 : isBytes Try.prog 80 = false := by kernel_rfl
@[push_cast] theorem Try.ty81 : tyI Try.prog 81 = some (1, false) := by kernel_rfl
@[push_cast] theorem Try.zl81 : zeroL Try.prog 81 = some [.nilFunc] := by kernel_rfl
@[push_cast] theorem Try.el81 : elemI Try.prog 81 = none := by kernel_rfl
attribute [push_cast] Try.underlying81
@[push_cast] theorem Try.in81 : intI Try.prog 81 = none := by kernel_rfl
@[push_cast] theorem Try.st81 : isStr Try.prog 81 = false := by kernel_rfl
@[push_cast] theorem Try.by81 : isBytes Try.prog 81 = false := by kernel_rfl
@[push_cast] theorem Try.ty82 : tyI Try.prog 82 = some (1, false) := by kernel_rfl
@[push_cast] theorem Try.zl82 : zeroL Try.prog 82 = some [.nilFunc] := by kernel_rfl
@[push_cast] theorem Try.el82 : elemI Try.prog 82 = none := by kernel_rfl
attribute [push_cast] Try.underlying82
@[push_cast] theorem Try.in82 : intI Try.prog 82 = none := by kernel_rfl
@[push_cast] theorem Try.st82 : isStr Try.prog 82 = false := by kernel_rfl
@[push_cast] theorem Try.by82 : isBytes Try.prog 82 = false := by kernel_rfl
@[push_cast] theorem Try.ty83 : tyI Try.prog 83 = some (1, false) := by kernel_rfl
@[push_cast] theorem Try.el83 : elemI Try.prog 83 = none := by kernel_rfl
attribute [push_cast] Try.underlying83
@[push_cast] theorem Try.in83 : intI Try.prog 83 = none := by kernel_rfl
@[push_cast] theorem Try.st83 : isStr Try.prog 83 = false := by kernel_rfl
@[push_cast] theorem Try.by83 : isBytes Try.prog 83 = false := by kernel_rfl
@[push_cast] theorem Try.ty84 : tyI Try.prog 84 = some (1, false) := by kernel_rfl
@[push_cast] theorem Try.zl84 : zeroL Try.prog 84 = some [.nilFunc] := by kernel_rfl
@[push_cast] theorem Try.el84 : elemI Try.prog 84 = none := by kernel_rfl
attribute [push_cast] Try.underlying84
@[push_cast] theorem Try.in84 : intI Try.prog 84 = none := by kernel_rfl
@[push_cast] theorem Try.st84 : isStr Try.prog 84 = false := by kernel_rfl
@[push_cast] theorem Try.by84 : isBytes Try.prog 84 = false := by kernel_rfl
@[push_cast] theorem Try.ty85 : tyI Try.prog 85 = some (1, false) := by kernel_rfl
@[push_cast] theorem Try.zl85 : zeroL Try.prog 85 = some [.nilFunc] := by kernel_rfl
@[push_cast] theorem Try.el85 : elemI Try.prog 85 = none := by kernel_rfl
attribute [push_cast] Try.underlying85
@[push_cast] theorem Try.in85 : intI Try.prog 85 = none := by kernel_rfl
@[push_cast] theorem Try.st85 : isStr Try.prog 85 = false := by kernel_rfl
@[push_cast] theorem Try.by85 : isBytes Try.prog 85 = false := by kernel_rfl
@[push_cast] theorem Try.ty86 : tyI Try.prog 86 = some (1, false) := by kernel_rfl
@[push_cast] theorem Try.zl86 : zeroL Try.prog 86 = some [.nilFunc] := by kernel_rfl
@[push_cast] theorem Try.el86 : elemI Try.prog 86 = none := by kernel_rfl
attribute [push_cast] Try.underlying86
@[push_cast] theorem Try.in86 : intI Try.prog 86 = none := by kernel_rfl
@[push_cast] theorem Try.st86 : isStr Try.prog 86 = false := by kernel_rfl
@[push_cast] theorem Try.by86 : isBytes Try.prog 86 = false := by kernel_rfl
@[push_cast] theorem Try.ty87 : tyI Try.prog 87 = some (1, false) := by kernel_rfl
@[push_cast] theorem Try.zl87 : zeroL Try.prog 87 = some [.nilFunc] := by kernel_rfl
@[push_cast] theorem Try.el87 : elemI Try.prog 87 = none := by kernel_rfl
attribute [push_cast] Try.underlying87
@[push_cast] theorem Try.in87 : intI Try.prog 87 = none := by kernel_rfl
@[push_cast] theorem Try.st87 : isStr Try.prog 87 = false := by kernel_rfl
@[push_cast] theorem Try.by87 : isBytes Try.prog 87 = false := by kernel_rfl
@[push_cast] theorem Try.ty88 : tyI Try.prog 88 = some (1, false) := by kernel_rfl
@[push_cast] theorem Try.zl88 : zeroL Try.prog 88 = some [.slice none 0 0] := by kernel_rfl
@[push_cast] theorem Try.el88 : elemI Try.prog 88 = some (none, 31, true) := by kernel_rfl
@[push_cast] theorem Try.sl88 : slI Try.prog 88 = some (42, 31, 120) := by kernel_rfl
attribute [push_cast] Try.underlying88
@[push_cast] theorem Try.in88 : intI Try.prog 88 = none := by kernel_rfl
@[push_cast] theorem Try.st88 : isStr Try.prog 88 = false := by kernel_rfl
@[push_cast] theorem Try.by88 : isBytes Try.prog 88 = false := by kernel_rfl
@[push_cast] theorem Try.ty89 : tyI Try.prog 89 = some (1, false) := by kernel_rfl
@[push_cast] theorem Try.zl89 : zeroL Try.prog 89 = some [.nilFunc] := by kernel_rfl
@[push_cast] theorem Try.el89 : elemI Try.prog 89 = none := by kernel_rfl
attribute [push_cast] Try.underlying89
@[push_cast] theorem Try.in89 : intI Try.prog 89 = none := by kernel_rfl
@[push_cast] theorem Try.st89 : isStr Try.prog 89 = false := by kernel_rfl
@[push_cast] theorem Try.by89 : isBytes Try.prog 89 = false := by kernel_rfl
@[push_cast] theorem Try.ty90 : tyI Try.prog 90 = some (1, false) := by kernel_rfl
@[push_cast] theorem Try.zl90 : zeroL Try.prog 90 = some [.nilFunc] := by kernel_rfl
@[push_cast] theorem Try.el90 : elemI Try.prog 90 = none := by kernel_rfl
attribute [push_cast] Try.underlying90
@[push_cast] theorem Try.in90 : intI Try.prog 90 = none := by kernel_rfl
@[push_cast] theorem Try.st90 : isStr Try.prog 90 = false := by kernel_rfl
@[push_cast] theorem Try.by90 : isBytes Try.prog 90 = false := by kernel_rfl
@[push_cast] theorem Try.ty91 : tyI Try.prog 91 = some (1, false) := by kernel_rfl
@[push_cast] theorem Try.zl91 : zeroL Try.prog 91 = some [.nilFunc] := by kernel_rfl
@[push_cast] theorem Try.el91 : elemI Try.prog 91 = none := by kernel_rfl
attribute [push_cast] Try.underlying91
@[push_cast] theorem Try.in91 : intI Try.prog 91 = none := by kernel_rfl
@[push_cast] theorem Try.st91 : isStr Try.prog 91 = false := by kernel_rfl
@[push_cast] theorem Try.by91 : isBytes Try.prog 91 = false := by kernel_rfl
@[push_cast] theorem Try.ty92 : tyI Try.prog 92 = some (1, false) := by kernel_rfl
@[push_cast] theorem Try.zl92 : zeroL Try.prog 92 = some [.nilFunc] := by kernel_rfl
@[push_cast] theorem Try.el92 : elemI Try.prog 92 = none := by kernel_rfl
attribute [push_cast] Try.underlying92
@[push_cast] theorem Try.in92 : intI Try.prog 92 = none := by kernel_rfl
@[push_cast] theorem Try.st92 : isStr Try.prog 92 = false := by kernel_rfl
@[push_cast] theorem Try.by92 : isBytes Try.prog 92 = false := by kernel_rfl
@[push_cast] theorem Try.ty93 : tyI Try.prog 93 = some (1, false) := by kernel_rfl
@[push_cast] theorem Try.zl93 : zeroL Try.prog 93 = some [.nilFunc] := by kernel_rfl
@[push_cast] theorem Try.el93 : elemI Try.prog 93 = none := by kernel_rfl
attribute [push_cast] Try.underlying93
@[push_cast] theorem Try.in93 : intI Try.prog 93 = none := by kernel_rfl
@[push_cast] theorem Try.st93 : isStr Try.prog 93 = false := by kernel_rfl
@[push_cast] theorem Try.by93 : isBytes Try.prog 93 = false := by kernel_rfl
@[push_cast] theorem Try.ty94 : tyI Try.prog 94 = some (1, false) := by kernel_rfl
@[push_cast] theorem Try.zl94 : zeroL Try.prog 94 = some [.nilFunc] := by kernel_rfl
@[push_cast] theorem Try.el94 : elemI Try.prog 94 = none := by kernel_rfl
attribute [push_cast] Try.underlying94
@[push_cast] theorem Try.in94 : intI Try.prog 94 = none := by kernel_rfl
@[push_cast] theorem Try.st94 : isStr Try.prog 94 = false := by kernel_rfl
@[push_cast] theorem Try.by94 : isBytes Try.prog 94 = false := by kernel_rfl
@[push_cast] theorem Try.ty95 : tyI Try.prog 95 = some (1, false) := by kernel_rfl
@[push_cast] theorem Try.zl95 : zeroL Try.prog 95 = some [.nilFunc] := by kernel_rfl
@[push_cast] theorem Try.el95 : elemI Try.prog 95 = none := by kernel_rfl
attribute [push_cast] Try.underlying95
@[push_cast] theorem Try.in95 : intI Try.prog 95 = none := by kernel_rfl
@[push_cast] theorem Try.st95 : isStr Try.prog 95 = false := by kernel_rfl
@[push_cast] theorem Try.by95 : isBytes Try.prog 95 = false := by kernel_rfl
@[push_cast] theorem Try.ty96 : tyI Try.prog 96 = some (1, false) := by kernel_rfl
@[push_cast] theorem Try.zl96 : zeroL Try.prog 96 = some [.slice none 0 0] := by kernel_rfl
@[push_cast] theorem Try.el96 : elemI Try.prog 96 = some (none, 1, false) := by kernel_rfl
@[push_cast] theorem Try.sl96 : slI Try.prog 96 = some (5, 1, 1) := by kernel_rfl
attribute [push_cast] Try.underlying96
@[push_cast] theorem Try.in96 : intI Try.prog 96 = none := by kernel_rfl
@[push_cast] theorem Try.st96 : isStr Try.prog 96 = false := by kernel_rfl
@[push_cast] theorem Try.by96 : isBytes Try.prog 96 = true := by kernel_rfl
@[push_cast] theorem Try.ty97 : tyI Try.prog 97 = some (1, false) := by kernel_rfl
@[push_cast] theorem Try.zl97 : zeroL Try.prog 97 = some [.nilFunc] := by kernel_rfl
@[push_cast] theorem Try.el97 : elemI Try.prog 97 = none := by kernel_rfl
attribute [push_cast] Try.underlying97
@[push_cast] theorem Try.in97 : intI Try.prog 97 = none := by kernel_rfl
@[push_cast] theorem Try.st97 : isStr Try.prog 97 = false := by kernel_rfl
@[push_cast] theorem Try.by97 : isBytes Try.prog 97 = false := by kernel_rfl
@[push_cast] theorem Try.ty98 : tyI Try.prog 98 = some (1, false) := by kernel_rfl
@[push_cast] theorem Try.el98 : elemI Try.prog 98 = none := by kernel_rfl
attribute [push_cast] Try.underlying98
@[push_cast] theorem Try.in98 : intI Try.prog 98 = none := by kernel_rfl
@[push_cast] theorem Try.st98 : isStr Try.prog 98 = false := by kernel_rfl
@[push_cast] theorem Try.by98 : isBytes Try.prog 98 = false := by kernel_rfl
@[push_cast] theorem Try.ty99 : tyI Try.prog 99 = some (1, false) := by kernel_rfl
@[push_cast] theorem Try.zl99 : zeroL Try.prog 99 = some [.nilFunc] := by kernel_rfl
@[push_cast] theorem Try.el99 : elemI Try.prog 99 = none := by kernel_rfl
attribute [push_cast] Try.underlying99
@[push_cast] theorem Try.in99 : intI Try.prog 99 = none := by kernel_rfl
@[push_cast] theorem Try.st99 : isStr Try.prog 99 = false := by kernel_rfl
@[push_cast] theorem Try.by99 : isBytes Try.prog 99 = false := by kernel_rfl
@[push_cast] theorem Try.ty100 : tyI Try.prog 100 = some (1, false) := by kernel_rfl
@[push_cast] theorem Try.zl100 : zeroL Try.prog 100 = some [.nilFunc] := by kernel_rfl
@[push_cast] theorem Try.el100 : elemI Try.prog 100 = none := by kernel_rfl
attribute [push_cast] Try.underlying100
@[push_cast] theorem Try.in100 : intI Try.prog 100 = none := by kernel_rfl
@[push_cast] theorem Try.st100 : isStr Try.prog 100 = false := by kernel_rfl
@[push_cast] theorem Try.by100 : isBytes Try.prog 100 = false := by kernel_rfl
@[push_cast] theorem Try.ty101 : tyI Try.prog 101 = some (1, false) := by kernel_rfl
@[push_cast] theorem Try.zl101 : zeroL Try.prog 101 = some [.nilFunc] := by kernel_rfl
@[push_cast] theorem Try.el101 : elemI Try.prog 101 = none := by kernel_rfl
attribute [push_cast] Try.underlying101
@[push_cast] theorem Try.in101 : intI Try.prog 101 = none := by kernel_rfl
@[push_cast] theorem Try.st101 : isStr Try.prog 101 = false := by kernel_rfl
@[push_cast] theorem Try.by101 : isBytes Try.prog 101 = false := by kernel_rfl
@[push_cast] theorem Try.ty102 : tyI Try.prog 102 = some (1, false) := by kernel_rfl
@[push_cast] theorem Try.zl102 : zeroL Try.prog 102 = some [.nilFunc] := by kernel_rfl
@[push_cast] theorem Try.el102 : elemI Try.prog 102 = none := by kernel_rfl
attribute [push_cast] Try.underlying102
@[push_cast] theorem Try.in102 : intI Try.prog 102 = none := by kernel_rfl
@[push_cast] theorem Try.st102 : isStr Try.prog 102 = false := by kernel_rfl
@[push_cast] theorem Try.by102 : isBytes Try.prog 102 = false := by kernel_rfl
@[push_cast] theorem Try.ty103 : tyI Try.prog 103 = some (1, false) := by kernel_rfl
@[push_cast] theorem Try.zl103 : zeroL Try.prog 103 = some [.nilFunc] := by kernel_rfl
@[push_cast] theorem Try.el103 : elemI Try.prog 103 = none := by kernel_rfl
attribute [push_cast] Try.underlying103
@[push_cast] theorem Try.in103 : intI Try.prog 103 = none := by kernel_rfl
@[push_cast] theorem Try.st103 : isStr Try.prog 103 = false := by kernel_rfl
@[push_cast] theorem Try.by103 : isBytes Try.prog 103 = false := by kernel_rfl
@[push_cast] theorem Try.ty104 : tyI Try.prog 104 = some (1, false) := by kernel_rfl
@[push_cast] theorem Try.zl104 : zeroL Try.prog 104 = some [.nilFunc] := by kernel_rfl
@[push_cast] theorem Try.el104 : elemI Try.prog 104 = none := by kernel_rfl
attribute [push_cast] Try.underlying104
@[push_cast] theorem Try.in104 : intI Try.prog 104 = none := by kernel_rfl
@[push_cast] theorem Try.st104 : isStr Try.prog 104 = false := by kernel_rfl
@[push_cast] theorem Try.by104 : isBytes Try.prog 104 = false := by kernel_rfl
@[push_cast] theorem Try.ty105 : tyI Try.prog 105 = some (1, false) := by kernel_rfl
@[push_cast] theorem Try.zl105 : zeroL Try.prog 105 = some [.nilFunc] := by kernel_rfl
@[push_cast] theorem Try.el105 : elemI Try.prog 105 = none := by kernel_rfl
attribute [push_cast] Try.underlying105
@[push_cast] theorem Try.in105 : intI Try.prog 105 = none := by kernel_rfl
@[push_cast] theorem Try.st105 : isStr Try.prog 105 = false := by kernel_rfl
@[push_cast] theorem Try.by105 : isBytes Try.prog 105 = false := by kernel_rfl
@[push_cast] theorem Try.ty106 : tyI Try.prog 106 = some (1, false) := by kernel_rfl
@[push_cast] theorem Try.zl106 : zeroL Try.prog 106 = some [.nilFunc] := by kernel_rfl
@[push_cast] theorem Try.el106 : elemI Try.prog 106 = none := by kernel_rfl
attribute [push_cast] Try.underlying106
@[push_cast] theorem Try.in106 : intI Try.prog 106 = none := by kernel_rfl
@[push_cast] theorem Try.st106 : isStr Try.prog 106 = false := by kernel_rfl
@[push_cast] theorem Try.by106 : isBytes Try.prog 106 = false := by kernel_rfl
@[push_cast] theorem Try.ty107 : tyI Try.prog 107 = some (1, false) := by kernel_rfl
@[push_cast] theorem Try.zl107 : zeroL Try.prog 107 = some [.nilFunc] := by kernel_rfl
@[push_cast] theorem Try.el107 : elemI Try.prog 107 = none := by kernel_rfl
attribute [push_cast] Try.underlying107
@[push_cast] theorem Try.in107 : intI Try.prog 107 = none := by kernel_rfl
@[push_cast] theorem Try.st107 : isStr Try.prog 107 = false := by kernel_rfl
@[push_cast] theorem Try.by107 : isBytes Try.prog 107 = false := by kernel_rfl
@[push_cast] theorem Try.ty108 : tyI Try.prog 108 = some (1, false) := by kernel_rfl
@[push_cast] theorem Try.zl108 : zeroL Try.prog 108 = some [.int .u64 0] := by kernel_rfl
@[push_cast] theorem Try.el108 : elemI Try.prog 108 = none := by kernel_rfl
attribute [push_cast] Try.underlying108
@[push_cast] theorem Try.in108 : intI Try.prog 108 = some .u64 := by kernel_rfl
@[push_cast] theorem Try.st108 : isStr Try.prog 108 = false := by kernel_rfl
@[push_cast] theorem Try.by108 : isBytes Try.prog 108 = false := by kernel_rfl
@[push_cast] theorem Try.ty109 : tyI Try.prog 109 = some (1, false) := by kernel_rfl
@[push_cast] theorem Try.zl109 : zeroL Try.prog 109 = some [.nilFunc] := by kernel_rfl
@[push_cast] theorem Try.el109 : elemI Try.prog 109 = none := by kernel_rfl
attribute [push_cast] Try.underlying109
@[push_cast] theorem Try.in109 : intI Try.prog 109 = none := by kernel_rfl
@[push_cast] theorem Try.st109 : isStr Try.prog 109 = false := by kernel_rfl
@[push_cast] theorem Try.by109 : isBytes Try.prog 109 = false := by kernel_rfl
@[push_cast] theorem Try.ty110 : tyI Try.prog 110 = some (1, false) := by kernel_rfl
@[push_cast] theorem Try.zl110 : zeroL Try.prog 110 = some [.nilFunc] := by kernel_rfl
@[push_cast] theorem Try.el110 : elemI Try.prog 110 = none := by kernel_rfl
attribute [push_cast] Try.underlying110
@[push_cast] theorem Try.in110 : intI Try.prog 110 = none := by kernel_rfl
@[push_cast] theorem Try.st110 : isStr Try.prog 110 = false := by kernel_rfl
@[push_cast] theorem Try.by110 : isBytes Try.prog 110 = false := by kernel_rfl
@[push_cast] theorem Try.ty111 : tyI Try.prog 111 = some (1, false) := by kernel_rfl
@[push_cast] theorem Try.zl111 : zeroL Try.prog 111 = some [.slice none 0 0] := by kernel_rfl
@[push_cast] theorem Try.el111 : elemI Try.prog 111 = some (none, 8, true) := by kernel_rfl
@[push_cast] theorem Try.sl111 : slI Try.prog 111 = some (122, 8, 64) := by kernel_rfl
attribute [push_cast] Try.underlying111
@[push_cast] theorem Try.in111 : intI Try.prog 111 = none := by kernel_rfl
@[push_cast] theorem Try.st111 : isStr Try.prog 111 = false := by kernel_rfl
@[push_cast] theorem Try.by111 : isBytes Try.prog 111 = false := by kernel_rfl
@[push_cast] theorem Try.ty112 : tyI Try.prog 112 = some (2, true) := by kernel_rfl
@[push_cast] theorem Try.zl112 : zeroL Try.prog 112 = some [.slice none 0 0, .nilFunc] := by kernel_rfl
@[push_cast] theorem Try.el112 : elemI Try.prog 112 = none := by kernel_rfl
attribute [push_cast] Try.underlying112
@[push_cast] theorem Try.in112 : intI Try.prog 112 = none := by kernel_rfl
@[push_cast] theorem Try.st112 : isStr Try.prog 112 = false := by kernel_rfl
@[push_cast] theorem Try.by112 : isBytes Try.prog 112 = false := by kernel_rfl
@[push_cast] theorem Try.fi112_0 : fieldI Try.prog 112 0 = some (0, 1, false) := by kernel_rfl
@[push_cast] theorem Try.pl112_0 : placeOf Try.prog 112 0 = some (0, 1) := by kernel_rfl
@[push_cast] theorem Try.fi112_1 : fieldI Try.prog 112 1 = some (1, 1, false) := by kernel_rfl
@[push_cast] theorem Try.pl112_1 : placeOf Try.prog 112 1 = some (1, 1) := by kernel_rfl
@[push_cast] theorem Try.fo112 : fieldsOk Try.prog 112 = true := by kernel_rfl
@[push_cast] theorem Try.ty113 : tyI Try.prog 113 = some (2, true) := by kernel_rfl
@[push_cast] theorem Try.zl113 : zeroL Try.prog 113 = some [.slice none 0 0, .nilFunc] := by kernel_rfl
@[push_cast] theorem Try.el113 : elemI Try.prog 113 = none := by kernel_rfl
attribute [push_cast] Try.underlying113
@[push_cast] theorem Try.in113 : intI Try.prog 113 = none := by kernel_rfl
@[push_cast] theorem Try.st113 : isStr Try.prog 113 = false := by kernel_rfl
@[push_cast] theorem Try.by113 : isBytes Try.prog 113 = false := by kernel_rfl
@[push_cast] theorem Try.fi113_0 : fieldI Try.prog 113 0 = some (0, 1, false) := by kernel_rfl
@[push_cast] theorem Try.pl113_0 : placeOf Try.prog 113 0 = some (0, 1) := by kernel_rfl
@[push_cast] theorem Try.fi113_1 : fieldI Try.prog 113 1 = some (1, 1, false) := by kernel_rfl
@[push_cast] theorem Try.pl113_1 : placeOf Try.prog 113 1 = some (1, 1) := by kernel_rfl
@[push_cast] theorem Try.fo113 : fieldsOk Try.prog 113 = true := by kernel_rfl
@[push_cast] theorem Try.ty114 : tyI Try.prog 114 = some (1, false) := by kernel_rfl
@[push_cast] theorem Try.zl114 : zeroL Try.prog 114 = some [.nilFunc] := by kernel_rfl
@[push_cast] theorem Try.el114 : elemI Try.prog 114 = none := by kernel_rfl
attribute [push_cast] Try.underlying114
@[push_cast] theorem Try.in114 : intI Try.prog 114 = none := by kernel_rfl
@[push_cast] theorem Try.st114 : isStr Try.prog 114 = false := by kernel_rfl
@[push_cast] theorem Try.by114 : isBytes Try.prog 114 = false := by kernel_rfl
@[push_cast] theorem Try.ty115 : tyI Try.prog 115 = some (1, false) := by kernel_rfl
@[push_cast] theorem Try.zl115 : zeroL Try.prog 115 = some [.nilFunc] := by kernel_rfl
@[push_cast] theorem Try.el115 : elemI Try.prog 115 = none := by kernel_rfl
attribute [push_cast] Try.underlying115
@[push_cast] theorem Try.in115 : intI Try.prog 115 = none := by kernel_rfl
@[push_cast] theorem Try.st115 : isStr Try.prog 115 = false := by kernel_rfl
@[push_cast] theorem Try.by115 : isBytes Try.prog 115 = false := by kernel_rfl
@[push_cast] theorem Try.ty116 : tyI Try.prog 116 = some (1, false) := by kernel_rfl
@[push_cast] theorem Try.zl116 : zeroL Try.prog 116 = some [.nilFunc] := by kernel_rfl
@[push_cast] theorem Try.el116 : elemI Try.prog 116 = none := by kernel_rfl
attribute [push_cast] Try.underlying116
@[push_cast] theorem Try.in116 : intI Try.prog 116 = none := by kernel_rfl
@[push_cast] theorem Try.st116 : isStr Try.prog 116 = false := by kernel_rfl
@[push_cast] theorem Try.by116 : isBytes Try.prog 116 = false := by kernel_rfl
@[push_cast] theorem Try.ty117 : tyI Try.prog 117 = some (1, false) := by kernel_rfl
@[push_cast] theorem Try.zl117 : zeroL Try.prog 117 = some [.nilFunc] := by kernel_rfl
@[push_cast] theorem Try.el117 : elemI Try.prog 117 = none := by kernel_rfl
attribute [push_cast] Try.underlying117
@[push_cast] theorem Try.in117 : intI Try.prog 117 = none := by kernel_rfl
@[push_cast] theorem Try.st117 : isStr Try.prog 117 = false := by kernel_rfl
@[push_cast] theorem Try.by117 : isBytes Try.prog 117 = false := by kernel_rfl
@[push_cast] theorem Try.ty118 : tyI Try.prog 118 = some (13, true) := by kernel_rfl
@[push_cast] theorem Try.zl118 : zeroL Try.prog 118 = some [.int .u64 0, .int .u64 0, .int .u64 0, .int .u64 0, .int .u64 0, .int .u64 0, .int .u64 0, .int .u64 0, .int .u64 0, .int .u64 0, .int .u64 0, .int .u64 0, .bool false] := by kernel_rfl
@[push_cast] theorem Try.el118 : elemI Try.prog 118 = none := by kernel_rfl
attribute [push_cast] Try.underlying118
@[push_cast] theorem Try.in118 : intI Try.prog 118 = none := by kernel_rfl
@[push_cast] theorem Try.st118 : isStr Try.prog 118 = false := by kernel_rfl
@[push_cast] theorem Try.by118 : isBytes Try.prog 118 = false := by kernel_rfl
@[push_cast] theorem Try.fi118_0 : fieldI Try.prog 118 0 = some (0, 4, true) := by kernel_rfl
@[push_cast] theorem Try.pl118_0 : placeOf Try.prog 118 0 = some (0, 4) := by kernel_rfl
@[push_cast] theorem Try.fi118_1 : fieldI Try.prog 118 1 = some (4, 4, true) := by kernel_rfl
@[push_cast] theorem Try.pl118_1 : placeOf Try.prog 118 1 = some (4, 4) := by kernel_rfl
@[push_cast] theorem Try.fi118_2 : fieldI Try.prog 118 2 = some (8, 4, true) := by kernel_rfl
@[push_cast] theorem Try.pl118_2 : placeOf Try.prog 118 2 = some (8, 4) := by kernel_rfl
@[push_cast] theorem Try.fi118_3 : fieldI Try.prog 118 3 = some (12, 1, false) := by kernel_rfl
@[push_cast] theorem Try.pl118_3 : placeOf Try.prog 118 3 = some (12, 1) := by kernel_rfl
@[push_cast] theorem Try.fo118 : fieldsOk Try.prog 118 = true := by kernel_rfl
@[push_cast] theorem Try.fk118 : flatK Try.prog 12 118 = some [.i, .i, .i, .i, .i, .i, .i, .i, .i, .i, .i, .i, .b] := by kernel_rfl
@[push_cast] theorem Try.eg118 : Program.eqGuardType Try.prog (Program.depth Try.prog) 118 = false := by kernel_rfl
@[push_cast] theorem Try.ty119 : tyI Try.prog 119 = some (13, true) := by kernel_rfl
@[push_cast] theorem Try.zl119 : zeroL Try.prog 119 = some [.int .u64 0, .int .u64 0, .int .u64 0, .int .u64 0, .int .u64 0, .int .u64 0, .int .u64 0, .int .u64 0, .int .u64 0, .int .u64 0, .int .u64 0, .int .u64 0, .bool false] := by kernel_rfl
@[push_cast] theorem Try.el119 : elemI Try.prog 119 = none := by kernel_rfl
attribute [push_cast] Try.underlying119
@[push_cast] theorem Try.in119 : intI Try.prog 119 = none := by kernel_rfl
@[push_cast] theorem Try.st119 : isStr Try.prog 119 = false := by kernel_rfl
@[push_cast] theorem Try.by119 : isBytes Try.prog 119 = false := by kernel_rfl
@[push_cast] theorem Try.fi119_0 : fieldI Try.prog 119 0 = some (0, 4, true) := by kernel_rfl
@[push_cast] theorem Try.pl119_0 : placeOf Try.prog 119 0 = some (0, 4) := by kernel_rfl
@[push_cast] theorem Try.fi119_1 : fieldI Try.prog 119 1 = some (4, 4, true) := by kernel_rfl
@[push_cast] theorem Try.pl119_1 : placeOf Try.prog 119 1 = some (4, 4) := by kernel_rfl
@[push_cast] theorem Try.fi119_2 : fieldI Try.prog 119 2 = some (8, 4, true) := by kernel_rfl
@[push_cast] theorem Try.pl119_2 : placeOf Try.prog 119 2 = some (8, 4) := by kernel_rfl
@[push_cast] theorem Try.fi119_3 : fieldI Try.prog 119 3 = some (12, 1, false) := by kernel_rfl
@[push_cast] theorem Try.pl119_3 : placeOf Try.prog 119 3 = some (12, 1) := by kernel_rfl
@[push_cast] theorem Try.fo119 : fieldsOk Try.prog 119 = true := by kernel_rfl
@[push_cast] theorem Try.fk119 : flatK Try.prog 12 119 = some [.i, .i, .i, .i, .i, .i, .i, .i, .i, .i, .i, .i, .b] := by kernel_rfl
@[push_cast] theorem Try.eg119 : Program.eqGuardType Try.prog (Program.depth Try.prog) 119 = false := by kernel_rfl
@[push_cast] theorem Try.ty120 : tyI Try.prog 120 = some (1, false) := by kernel_rfl
@[push_cast] theorem Try.zl120 : zeroL Try.prog 120 = some [.nilFunc] := by kernel_rfl
@[push_cast] theorem Try.el120 : elemI Try.prog 120 = none := by kernel_rfl
attribute [push_cast] Try.underlying120
@[push_cast] theorem Try.in120 : intI Try.prog 120 = none := by kernel_rfl
@[push_cast] theorem Try.st120 : isStr Try.prog 120 = false := by kernel_rfl
@[push_cast] theorem Try.by120 : isBytes Try.prog 120 = false := by kernel_rfl
@[push_cast] theorem Try.ty121 : tyI Try.prog 121 = some (8, true) := by kernel_rfl
@[push_cast] theorem Try.zl121 : zeroL Try.prog 121 = some [.int .u64 0, .int .u64 0, .int .u64 0, .int .u64 0, .int .u64 0, .int .u64 0, .int .u64 0, .int .u64 0] := by kernel_rfl
@[push_cast] theorem Try.el121 : elemI Try.prog 121 = none := by kernel_rfl
attribute [push_cast] Try.underlying121
@[push_cast] theorem Try.in121 : intI Try.prog 121 = none := by kernel_rfl
@[push_cast] theorem Try.st121 : isStr Try.prog 121 = false := by kernel_rfl
@[push_cast] theorem Try.by121 : isBytes Try.prog 121 = false := by kernel_rfl
@[push_cast] theorem Try.fi121_0 : fieldI Try.prog 121 0 = some (0, 4, true) := by kernel_rfl
@[push_cast] theorem Try.pl121_0 : placeOf Try.prog 121 0 = some (0, 4) := by kernel_rfl
@[push_cast] theorem Try.fi121_1 : fieldI Try.prog 121 1 = some (4, 4, true) := by kernel_rfl
@[push_cast] theorem Try.pl121_1 : placeOf Try.prog 121 1 = some (4, 4) := by kernel_rfl
@[push_cast] theorem Try.fo121 : fieldsOk Try.prog 121 = true := by kernel_rfl
@[push_cast] theorem Try.fk121 : flatK Try.prog 12 121 = some [.i, .i, .i, .i, .i, .i, .i, .i] := by kernel_rfl
@[push_cast] theorem Try.eg121 : Program.eqGuardType Try.prog (Program.depth Try.prog) 121 = false := by kernel_rfl
@[push_cast] theorem Try.ty122 : tyI Try.prog 122 = some (8, true) := by kernel_rfl
@[push_cast] theorem Try.zl122 : zeroL Try.prog 122 = some [.int .u64 0, .int .u64 0, .int .u64 0, .int .u64 0, .int .u64 0, .int .u64 0, .int .u64 0, .int .u64 0] := by kernel_rfl
@[push_cast] theorem Try.el122 : elemI Try.prog 122 = none := by kernel_rfl
attribute [push_cast] Try.underlying122
@[push_cast] theorem Try.in122 : intI Try.prog 122 = none := by kernel_rfl
@[push_cast] theorem Try.st122 : isStr Try.prog 122 = false := by kernel_rfl
@[push_cast] theorem Try.by122 : isBytes Try.prog 122 = false := by kernel_rfl
@[push_cast] theorem Try.fi122_0 : fieldI Try.prog 122 0 = some (0, 4, true) := by kernel_rfl
@[push_cast] theorem Try.pl122_0 : placeOf Try.prog 122 0 = some (0, 4) := by kernel_rfl
@[push_cast] theorem Try.fi122_1 : fieldI Try.prog 122 1 = some (4, 4, true) := by kernel_rfl
@[push_cast] theorem Try.pl122_1 : placeOf Try.prog 122 1 = some (4, 4) := by kernel_rfl
@[push_cast] theorem Try.fo122 : fieldsOk Try.prog 122 = true := by kernel_rfl
@[push_cast] theorem Try.fk122 : flatK Try.prog 12 122 = some [.i, .i, .i, .i, .i, .i, .i, .i] := by kernel_rfl
@[push_cast] theorem Try.eg122 : Program.eqGuardType Try.prog (Program.depth Try.prog) 122 = false := by kernel_rfl
@[push_cast] theorem Try.ty123 : tyI Try.prog 123 = some (1, false) := by kernel_rfl
@[push_cast] theorem Try.zl123 : zeroL Try.prog 123 = some [.nilFunc] := by kernel_rfl
@[push_cast] theorem Try.el123 : elemI Try.prog 123 = none := by kernel_rfl
attribute [push_cast] Try.underlying123
@[push_cast] theorem Try.in123 : intI Try.prog 123 = none := by kernel_rfl
@[push_cast] theorem Try.st123 : isStr Try.prog 123 = false := by kernel_rfl
@[push_cast] theorem Try.by123 : isBytes Try.prog 123 = false := by kernel_rfl
@[push_cast] theorem Try.ty124 : tyI Try.prog 124 = some (1, false) := by kernel_rfl
@[push_cast] theorem Try.zl124 : zeroL Try.prog 124 = some [.nilFunc] := by kernel_rfl
@[push_cast] theorem Try.el124 : elemI Try.prog 124 = none := by kernel_rfl
attribute [push_cast] Try.underlying124
@[push_cast] theorem Try.in124 : intI Try.prog 124 = none := by kernel_rfl
@[push_cast] theorem Try.st124 : isStr Try.prog 124 = false := by kernel_rfl
@[push_cast] theorem Try.by124 : isBytes Try.prog 124 = false := by kernel_rfl
@[push_cast] theorem Try.ty125 : tyI Try.prog 125 = some (1, false) := by kernel_rfl
@[push_cast] theorem Try.zl125 : zeroL Try.prog 125 = some [.nilFunc] := by kernel_rfl
@[push_cast] theorem Try.el125 : elemI Try.prog 125 = none := by kernel_rfl
attribute [push_cast] Try.underlying125
@[push_cast] theorem Try.in125 : intI Try.prog 125 = none := by kernel_rfl
@[push_cast] theorem Try.st125 : isStr Try.prog 125 = false := by kernel_rfl
@[push_cast] theorem Try.by125 : isBytes Try.prog 125 = false := by kernel_rfl
@[push_cast] theorem Try.ty126 : tyI Try.prog 126 = some (1, false) := by kernel_rfl
@[push_cast] theorem Try.zl126 : zeroL Try.prog 126 = some [.slice none 0 0] := by kernel_rfl
@[push_cast] theorem Try.el126 : elemI Try.prog 126 = some (none, 1, false) := by kernel_rfl
@[push_cast] theorem Try.sl126 : slI Try.prog 126 = some (38, 1, 8) := by kernel_rfl
attribute [push_cast] Try.underlying126
@[push_cast] theorem Try.in126 : intI Try.prog 126 = none := by kernel_rfl
@[push_cast] theorem Try.st126 : isStr Try.prog 126 = false := by kernel_rfl
@[push_cast] theorem Try.by126 : isBytes Try.prog 126 = false := by kernel_rfl
@[push_cast] theorem Try.ty127 : tyI Try.prog 127 = some (1, false) := by kernel_rfl
@[push_cast] theorem Try.zl127 : zeroL Try.prog 127 = some [.nilFunc] := by kernel_rfl
@[push_cast] theorem Try.el127 : elemI Try.prog 127 = none := by kernel_rfl
attribute [push_cast] Try.underlying127
@[push_cast] theorem Try.in127 : intI Try.prog 127 = none := by kernel_rfl
@[push_cast] theorem Try.st127 : isStr Try.prog 127 = false := by kernel_rfl
@[push_cast] theorem Try.by127 : isBytes Try.prog 127 = false := by kernel_rfl
@[push_cast] theorem Try.ty128 : tyI Try.prog 128 = some (1, false) := by kernel_rfl
@[push_cast] theorem Try.zl128 : zeroL Try.prog 128 = some [.nilFunc] := by kernel_rfl
@[push_cast] theorem Try.el128 : elemI Try.prog 128 = none := by kernel_rfl
attribute [push_cast] Try.underlying128
@[push_cast] theorem Try.in128 : intI Try.prog 128 = none := by kernel_rfl
@[push_cast] theorem Try.st128 : isStr Try.prog 128 = false := by kernel_rfl
@[push_cast] theorem Try.by128 : isBytes Try.prog 128 = false := by kernel_rfl
@[push_cast] theorem Try.ty129 : tyI Try.prog 129 = some (1, false) := by kernel_rfl
@[push_cast] theorem Try.zl129 : zeroL Try.prog 129 = some [.nilFunc] := by kernel_rfl
@[push_cast] theorem Try.el129 : elemI Try.prog 129 = none := by kernel_rfl
attribute [push_cast] Try.underlying129
@[push_cast] theorem Try.in129 : intI Try.prog 129 = none := by kernel_rfl
@[push_cast] theorem Try.st129 : isStr Try.prog 129 = false := by kernel_rfl
@[push_cast] theorem Try.by129 : isBytes Try.prog 129 = false := by kernel_rfl
@[push_cast] theorem Try.ty130 : tyI Try.prog 130 = some (1, false) := by kernel_rfl
@[push_cast] theorem Try.zl130 : zeroL Try.prog 130 = some [.nilFunc] := by kernel_rfl
@[push_cast] theorem Try.el130 : elemI Try.prog 130 = none := by kernel_rfl
attribute [push_cast] Try.underlying130
@[push_cast] theorem Try.in130 : intI Try.prog 130 = none := by kernel_rfl
@[push_cast] theorem Try.st130 : isStr Try.prog 130 = false := by kernel_rfl
@[push_cast] theorem Try.by130 : isBytes Try.prog 130 = false := by kernel_rfl
@[push_cast] theorem Try.ty131 : tyI Try.prog 131 = some (1, false) := by kernel_rfl
@[push_cast] theorem Try.zl131 : zeroL Try.prog 131 = some [.nilFunc] := by kernel_rfl
@[push_cast] theorem Try.el131 : elemI Try.prog 131 = none := by kernel_rfl
attribute [push_cast] Try.underlying131
@[push_cast] theorem Try.in131 : intI Try.prog 131 = none := by kernel_rfl
@[push_cast] theorem Try.st131 : isStr Try.prog 131 = false := by kernel_rfl
@[push_cast] theorem Try.by131 : isBytes Try.prog 131 = false := by kernel_rfl
@[push_cast] theorem Try.ty132 : tyI Try.prog 132 = some (4, true) := by kernel_rfl
@[push_cast] theorem Try.zl132 : zeroL Try.prog 132 = some [.pointer none, .pointer none, .pointer none, .string ByteArray.empty] := by kernel_rfl
@[push_cast] theorem Try.el132 : elemI Try.prog 132 = none := by kernel_rfl
attribute [push_cast] Try.underlying132
@[push_cast] theorem Try.in132 : intI Try.prog 132 = none := by kernel_rfl
@[push_cast] theorem Try.st132 : isStr Try.prog 132 = false := by kernel_rfl
@[push_cast] theorem Try.by132 : isBytes Try.prog 132 = false := by kernel_rfl
@[push_cast] theorem Try.fi132_0 : fieldI Try.prog 132 0 = some (0, 1, false) := by kernel_rfl
@[push_cast] theorem Try.pl132_0 : placeOf Try.prog 132 0 = some (0, 1) := by kernel_rfl
@[push_cast] theorem Try.fi132_1 : fieldI Try.prog 132 1 = some (1, 1, false) := by kernel_rfl
@[push_cast] theorem Try.pl132_1 : placeOf Try.prog 132 1 = some (1, 1) := by kernel_rfl
@[push_cast] theorem Try.fi132_2 : fieldI Try.prog 132 2 = some (2, 1, false) := by kernel_rfl
@[push_cast] theorem Try.pl132_2 : placeOf Try.prog 132 2 = some (2, 1) := by kernel_rfl
@[push_cast] theorem Try.fi132_3 : fieldI Try.prog 132 3 = some (3, 1, false) := by kernel_rfl
@[push_cast] theorem Try.pl132_3 : placeOf Try.prog 132 3 = some (3, 1) := by kernel_rfl
@[push_cast] theorem Try.fo132 : fieldsOk Try.prog 132 = true := by kernel_rfl
@[push_cast] theorem Try.ty133 : tyI Try.prog 133 = some (4, true) := by kernel_rfl
@[push_cast] theorem Try.zl133 : zeroL Try.prog 133 = some [.pointer none, .pointer none, .pointer none, .string ByteArray.empty] := by kernel_rfl
@[push_cast] theorem Try.el133 : elemI Try.prog 133 = none := by kernel_rfl
attribute [push_cast] Try.underlying133
@[push_cast] theorem Try.in133 : intI Try.prog 133 = none := by kernel_rfl
@[push_cast] theorem Try.st133 : isStr Try.prog 133 = false := by kernel_rfl
@[push_cast] theorem Try.by133 : isBytes Try.prog 133 = false := by kernel_rfl
@[push_cast] theorem Try.fi133_0 : fieldI Try.prog 133 0 = some (0, 1, false) := by kernel_rfl
@[push_cast] theorem Try.pl133_0 : placeOf Try.prog 133 0 = some (0, 1) := by kernel_rfl
@[push_cast] theorem Try.fi133_1 : fieldI Try.prog 133 1 = some (1, 1, false) := by kernel_rfl
@[push_cast] theorem Try.pl133_1 : placeOf Try.prog 133 1 = some (1, 1) := by kernel_rfl
@[push_cast] theorem Try.fi133_2 : fieldI Try.prog 133 2 = some (2, 1, false) := by kernel_rfl
@[push_cast] theorem Try.pl133_2 : placeOf Try.prog 133 2 = some (2, 1) := by kernel_rfl
@[push_cast] theorem Try.fi133_3 : fieldI Try.prog 133 3 = some (3, 1, false) := by kernel_rfl
@[push_cast] theorem Try.pl133_3 : placeOf Try.prog 133 3 = some (3, 1) := by kernel_rfl
@[push_cast] theorem Try.fo133 : fieldsOk Try.prog 133 = true := by kernel_rfl
@[push_cast] theorem Try.ty134 : tyI Try.prog 134 = some (0, true) := by kernel_rfl
@[push_cast] theorem Try.zl134 : zeroL Try.prog 134 = some [] := by kernel_rfl
@[push_cast] theorem Try.el134 : elemI Try.prog 134 = some (some 0, 1, false) := by kernel_rfl
attribute [push_cast] Try.underlying134
@[push_cast] theorem Try.in134 : intI Try.prog 134 = none := by kernel_rfl
@[push_cast] theorem Try.st134 : isStr Try.prog 134 = false := by kernel_rfl
@[push_cast] theorem Try.by134 : isBytes Try.prog 134 = false := by kernel_rfl
@[push_cast] theorem Try.fo134 : fieldsOk Try.prog 134 = true := by kernel_rfl
@[push_cast] theorem Try.ty135 : tyI Try.prog 135 = some (0, true) := by kernel_rfl
@[push_cast] theorem Try.zl135 : zeroL Try.prog 135 = some [] := by kernel_rfl
@[push_cast] theorem Try.el135 : elemI Try.prog 135 = none := by kernel_rfl
attribute [push_cast] Try.underlying135
@[push_cast] theorem Try.in135 : intI Try.prog 135 = none := by kernel_rfl
@[push_cast] theorem Try.st135 : isStr Try.prog 135 = false := by kernel_rfl
@[push_cast] theorem Try.by135 : isBytes Try.prog 135 = false := by kernel_rfl
@[push_cast] theorem Try.fo135 : fieldsOk Try.prog 135 = true := by kernel_rfl
@[push_cast] theorem Try.ty136 : tyI Try.prog 136 = some (0, true) := by kernel_rfl
@[push_cast] theorem Try.zl136 : zeroL Try.prog 136 = some [] := by kernel_rfl
@[push_cast] theorem Try.el136 : elemI Try.prog 136 = none := by kernel_rfl
attribute [push_cast] Try.underlying136
@[push_cast] theorem Try.in136 : intI Try.prog 136 = none := by kernel_rfl
@[push_cast] theorem Try.st136 : isStr Try.prog 136 = false := by kernel_rfl
@[push_cast] theorem Try.by136 : isBytes Try.prog 136 = false := by kernel_rfl
@[push_cast] theorem Try.fo136 : fieldsOk Try.prog 136 = true := by kernel_rfl
@[push_cast] theorem Try.ty137 : tyI Try.prog 137 = some (1, false) := by kernel_rfl
@[push_cast] theorem Try.zl137 : zeroL Try.prog 137 = some [.nilFunc] := by kernel_rfl
@[push_cast] theorem Try.el137 : elemI Try.prog 137 = none := by kernel_rfl
attribute [push_cast] Try.underlying137
@[push_cast] theorem Try.in137 : intI Try.prog 137 = none := by kernel_rfl
@[push_cast] theorem Try.st137 : isStr Try.prog 137 = false := by kernel_rfl
@[push_cast] theorem Try.by137 : isBytes Try.prog 137 = false := by kernel_rfl
@[push_cast] theorem Try.ty138 : tyI Try.prog 138 = some (1, false) := by kernel_rfl
@[push_cast] theorem Try.zl138 : zeroL Try.prog 138 = some [.int .u32 0] := by kernel_rfl
@[push_cast] theorem Try.el138 : elemI Try.prog 138 = none := by kernel_rfl
attribute [push_cast] Try.underlying138
@[push_cast] theorem Try.in138 : intI Try.prog 138 = some .u32 := by kernel_rfl
@[push_cast] theorem Try.st138 : isStr Try.prog 138 = false := by kernel_rfl
@[push_cast] theorem Try.by138 : isBytes Try.prog 138 = false := by kernel_rfl
@[push_cast] theorem Try.ty139 : tyI Try.prog 139 = some (1, false) := by kernel_rfl
@[push_cast] theorem Try.zl139 : zeroL Try.prog 139 = some [.int .u8 0] := by kernel_rfl
@[push_cast] theorem Try.el139 : elemI Try.prog 139 = none := by kernel_rfl
attribute [push_cast] Try.underlying139
@[push_cast] theorem Try.in139 : intI Try.prog 139 = some .u8 := by kernel_rfl
@[push_cast] theorem Try.st139 : isStr Try.prog 139 = false := by kernel_rfl
@[push_cast] theorem Try.by139 : isBytes Try.prog 139 = false := by kernel_rfl
@[push_cast] theorem Try.ty140 : tyI Try.prog 140 = some (1, false) := by kernel_rfl
@[push_cast] theorem Try.zl140 : zeroL Try.prog 140 = some [.int .u8 0] := by kernel_rfl
@[push_cast] theorem Try.el140 : elemI Try.prog 140 = none := by kernel_rfl
attribute [push_cast] Try.underlying140
@[push_cast] theorem Try.in140 : intI Try.prog 140 = some .u8 := by kernel_rfl
@[push_cast] theorem Try.st140 : isStr Try.prog 140 = false := by kernel_rfl
@[push_cast] theorem Try.by140 : isBytes Try.prog 140 = false := by kernel_rfl
@[push_cast] theorem Try.ty141 : tyI Try.prog 141 = some (1, false) := by kernel_rfl
@[push_cast] theorem Try.zl141 : zeroL Try.prog 141 = some [.nilFunc] := by kernel_rfl
@[push_cast] theorem Try.el141 : elemI Try.prog 141 = none := by kernel_rfl
attribute [push_cast] Try.underlying141
@[push_cast] theorem Try.in141 : intI Try.prog 141 = none := by kernel_rfl
@[push_cast] theorem Try.st141 : isStr Try.prog 141 = false := by kernel_rfl
@[push_cast] theorem Try.by141 : isBytes Try.prog 141 = false := by kernel_rfl
@[push_cast] theorem Try.ty142 : tyI Try.prog 142 = some (1, false) := by kernel_rfl
@[push_cast] theorem Try.zl142 : zeroL Try.prog 142 = some [.pointer none] := by kernel_rfl
@[push_cast] theorem Try.el142 : elemI Try.prog 142 = none := by kernel_rfl
attribute [push_cast] Try.underlying142
@[push_cast] theorem Try.in142 : intI Try.prog 142 = none := by kernel_rfl
@[push_cast] theorem Try.st142 : isStr Try.prog 142 = false := by kernel_rfl
@[push_cast] theorem Try.by142 : isBytes Try.prog 142 = false := by kernel_rfl
@[push_cast] theorem Try.ty143 : tyI Try.prog 143 = some (1, false) := by kernel_rfl
@[push_cast] theorem Try.zl143 : zeroL Try.prog 143 = some [.int .i32 0] := by kernel_rfl
@[push_cast] theorem Try.el143 : elemI Try.prog 143 = none := by kernel_rfl
attribute [push_cast] Try.underlying143
@[push_cast] theorem Try.in143 : intI Try.prog 143 = some .i32 := by kernel_rfl
@[push_cast] theorem Try.st143 : isStr Try.prog 143 = false := by kernel_rfl
@[push_cast] theorem Try.by143 : isBytes Try.prog 143 = false := by kernel_rfl
@[push_cast] theorem Try.ty144 : tyI Try.prog 144 = some (1, false) := by kernel_rfl
@[push_cast] theorem Try.zl144 : zeroL Try.prog 144 = some [.int .i32 0] := by kernel_rfl
@[push_cast] theorem Try.el144 : elemI Try.prog 144 = none := by kernel_rfl
attribute [push_cast] Try.underlying144
@[push_cast] theorem Try.in144 : intI Try.prog 144 = some .i32 := by kernel_rfl
@[push_cast] theorem Try.st144 : isStr Try.prog 144 = false := by kernel_rfl
@[push_cast] theorem Try.by144 : isBytes Try.prog 144 = false := by kernel_rfl
@[push_cast] theorem Try.ty145 : tyI Try.prog 145 = some (11, true) := by kernel_rfl
@[push_cast] theorem Try.zl145 : zeroL Try.prog 145 = some [.int .u64 0, .int .u64 0, .int .u32 0, .int .u8 0, .int .u8 0, .int .u8 0, .int .u8 0, .nilFunc, .pointer none, .int .i32 0, .int .i32 0] := by kernel_rfl
@[push_cast] theorem Try.el145 : elemI Try.prog 145 = none := by kernel_rfl
attribute [push_cast] Try.underlying145
@[push_cast] theorem Try.in145 : intI Try.prog 145 = none := by kernel_rfl
@[push_cast] theorem Try.st145 : isStr Try.prog 145 = false := by kernel_rfl
@[push_cast] theorem Try.by145 : isBytes Try.prog 145 = false := by kernel_rfl
@[push_cast] theorem Try.fi145_0 : fieldI Try.prog 145 0 = some (0, 1, false) := by kernel_rfl
@[push_cast] theorem Try.pl145_0 : placeOf Try.prog 145 0 = some (0, 1) := by kernel_rfl
@[push_cast] theorem Try.fi145_1 : fieldI Try.prog 145 1 = some (1, 1, false) := by kernel_rfl
@[push_cast] theorem Try.pl145_1 : placeOf Try.prog 145 1 = some (1, 1) := by kernel_rfl
@[push_cast] theorem Try.fi145_2 : fieldI Try.prog 145 2 = some (2, 1, false) := by kernel_rfl
@[push_cast] theorem Try.pl145_2 : placeOf Try.prog 145 2 = some (2, 1) := by kernel_rfl
@[push_cast] theorem Try.fi145_3 : fieldI Try.prog 145 3 = some (3, 1, false) := by kernel_rfl
@[push_cast] theorem Try.pl145_3 : placeOf Try.prog 145 3 = some (3, 1) := by kernel_rfl
@[push_cast] theorem Try.fi145_4 : fieldI Try.prog 145 4 = some (4, 1, false) := by kernel_rfl
@[push_cast] theorem Try.pl145_4 : placeOf Try.prog 145 4 = some (4, 1) := by kernel_rfl
@[push_cast] theorem Try.fi145_5 : fieldI Try.prog 145 5 = some (5, 1, false) := by kernel_rfl
@[push_cast] theorem Try.pl145_5 : placeOf Try.prog 145 5 = some (5, 1) := by kernel_rfl
@[push_cast] theorem Try.fi145_6 : fieldI Try.prog 145 6 = some (6, 1, false) := by kernel_rfl
@[push_cast] theorem Try.pl145_6 : placeOf Try.prog 145 6 = some (6, 1) := by kernel_rfl
@[push_cast] theorem Try.fi145_7 : fieldI Try.prog 145 7 = some (7, 1, false) := by kernel_rfl
@[push_cast] theorem Try.pl145_7 : placeOf Try.prog 145 7 = some (7, 1) := by kernel_rfl
@[push_cast] theorem Try.fi145_8 : fieldI Try.prog 145 8 = some (8, 1, false) := by kernel_rfl
@[push_cast] theorem Try.pl145_8 : placeOf Try.prog 145 8 = some (8, 1) := by kernel_rfl
@[push_cast] theorem Try.fi145_9 : fieldI Try.prog 145 9 = some (9, 1, false) := by kernel_rfl
@[push_cast] theorem Try.pl145_9 : placeOf Try.prog 145 9 = some (9, 1) := by kernel_rfl
@[push_cast] theorem Try.fi145_10 : fieldI Try.prog 145 10 = some (10, 1, false) := by kernel_rfl
@[push_cast] theorem Try.pl145_10 : placeOf Try.prog 145 10 = some (10, 1) := by kernel_rfl
@[push_cast] theorem Try.fo145 : fieldsOk Try.prog 145 = true := by kernel_rfl
@[push_cast] theorem Try.ty146 : tyI Try.prog 146 = some (11, true) := by kernel_rfl
@[push_cast] theorem Try.zl146 : zeroL Try.prog 146 = some [.int .u64 0, .int .u64 0, .int .u32 0, .int .u8 0, .int .u8 0, .int .u8 0, .int .u8 0, .nilFunc, .pointer none, .int .i32 0, .int .i32 0] := by kernel_rfl
@[push_cast] theorem Try.el146 : elemI Try.prog 146 = none := by kernel_rfl
attribute [push_cast] Try.underlying146
@[push_cast] theorem Try.in146 : intI Try.prog 146 = none := by kernel_rfl
@[push_cast] theorem Try.st146 : isStr Try.prog 146 = false := by kernel_rfl
@[push_cast] theorem Try.by146 : isBytes Try.prog 146 = false := by kernel_rfl
@[push_cast] theorem Try.fi146_0 : fieldI Try.prog 146 0 = some (0, 1, false) := by kernel_rfl
@[push_cast] theorem Try.pl146_0 : placeOf Try.prog 146 0 = some (0, 1) := by kernel_rfl
@[push_cast] theorem Try.fi146_1 : fieldI Try.prog 146 1 = some (1, 1, false) := by kernel_rfl
@[push_cast] theorem Try.pl146_1 : placeOf Try.prog 146 1 = some (1, 1) := by kernel_rfl
@[push_cast] theorem Try.fi146_2 : fieldI Try.prog 146 2 = some (2, 1, false) := by kernel_rfl
@[push_cast] theorem Try.pl146_2 : placeOf Try.prog 146 2 = some (2, 1) := by kernel_rfl
@[push_cast] theorem Try.fi146_3 : fieldI Try.prog 146 3 = some (3, 1, false) := by kernel_rfl
@[push_cast] theorem Try.pl146_3 : placeOf Try.prog 146 3 = some (3, 1) := by kernel_rfl
@[push_cast] theorem Try.fi146_4 : fieldI Try.prog 146 4 = some (4, 1, false) := by kernel_rfl
@[push_cast] theorem Try.pl146_4 : placeOf Try.prog 146 4 = some (4, 1) := by kernel_rfl
@[push_cast] theorem Try.fi146_5 : fieldI Try.prog 146 5 = some (5, 1, false) := by kernel_rfl
@[push_cast] theorem Try.pl146_5 : placeOf Try.prog 146 5 = some (5, 1) := by kernel_rfl
@[push_cast] theorem Try.fi146_6 : fieldI Try.prog 146 6 = some (6, 1, false) := by kernel_rfl
@[push_cast] theorem Try.pl146_6 : placeOf Try.prog 146 6 = some (6, 1) := by kernel_rfl
@[push_cast] theorem Try.fi146_7 : fieldI Try.prog 146 7 = some (7, 1, false) := by kernel_rfl
@[push_cast] theorem Try.pl146_7 : placeOf Try.prog 146 7 = some (7, 1) := by kernel_rfl
@[push_cast] theorem Try.fi146_8 : fieldI Try.prog 146 8 = some (8, 1, false) := by kernel_rfl
@[push_cast] theorem Try.pl146_8 : placeOf Try.prog 146 8 = some (8, 1) := by kernel_rfl
@[push_cast] theorem Try.fi146_9 : fieldI Try.prog 146 9 = some (9, 1, false) := by kernel_rfl
@[push_cast] theorem Try.pl146_9 : placeOf Try.prog 146 9 = some (9, 1) := by kernel_rfl
@[push_cast] theorem Try.fi146_10 : fieldI Try.prog 146 10 = some (10, 1, false) := by kernel_rfl
@[push_cast] theorem Try.pl146_10 : placeOf Try.prog 146 10 = some (10, 1) := by kernel_rfl
@[push_cast] theorem Try.fo146 : fieldsOk Try.prog 146 = true := by kernel_rfl
@[push_cast] theorem Try.ty147 : tyI Try.prog 147 = some (1, false) := by kernel_rfl
@[push_cast] theorem Try.zl147 : zeroL Try.prog 147 = some [.pointer none] := by kernel_rfl
@[push_cast] theorem Try.el147 : elemI Try.prog 147 = none := by kernel_rfl
attribute [push_cast] Try.underlying147
@[push_cast] theorem Try.in147 : intI Try.prog 147 = none := by kernel_rfl
@[push_cast] theorem Try.st147 : isStr Try.prog 147 = false := by kernel_rfl
@[push_cast] theorem Try.by147 : isBytes Try.prog 147 = false := by kernel_rfl
@[push_cast] def Try.pl2 : Plans := fun i => []
@[push_cast] def Try.pl3 : Plans := fun i => []
@[push_cast] def Try.pl4 : Plans := fun i => []
@[push_cast] def Try.pl5 : Plans := fun i => []
@[push_cast] def Try.pl6 : Plans := fun i => []
@[push_cast] def Try.pl7 : Plans := fun i => []
@[push_cast] def Try.pl8 : Plans := fun i => []
@[push_cast] def Try.pl9 : Plans := fun i => if i = 1 then [(0, 0), (1, 0), (2, 0), (3, 0), (4, 0), (5, 0), (6, 0), (7, 0), (8, 2), (9, 1)] else []
@[push_cast] def Try.pl10 : Plans := fun i => if i = 6 then [(0, 0), (1, 0), (2, 0), (3, 0), (4, 0), (5, 0), (6, 0), (7, 0), (8, 0), (9, 0)] else []
@[push_cast] def Try.pl11 : Plans := fun i => if i = 6 then [(0, 0), (2, 0), (3, 0), (4, 0), (5, 0), (1, 2), (6, 0), (7, 1), (8, 0), (9, 1)] else []
@[push_cast] def Try.pl12 : Plans := fun i => if i = 6 then [(0, 0), (1, 0), (2, 0), (3, 0), (4, 0), (5, 0), (6, 0), (7, 0), (8, 0), (9, 0), (10, 0)] else if i = 11 then [(0, 0), (1, 0), (2, 0), (3, 0), (4, 0), (5, 0), (6, 0), (7, 0), (8, 0), (9, 0), (10, 0)] else []
@[push_cast] def Try.pl13 : Plans := fun i => if i = 1 then [(0, 0), (1, 0), (2, 0), (3, 0), (4, 1)] else []
@[push_cast] def Try.pl14 : Plans := fun i => []
@[push_cast] def Try.pl15 : Plans := fun i => []
@[push_cast] def Try.pl16 : Plans := fun i => if i = 24 then [(0, 0), (1, 0), (2, 0), (3, 1), (4, 0)] else []
@[push_cast] def Try.pl17 : Plans := fun i => if i = 4 then [(0, 0), (1, 0), (2, 0), (3, 0), (4, 0), (5, 0), (6, 0), (7, 0), (8, 0), (9, 0), (10, 0), (11, 0), (12, 0), (13, 0), (14, 0), (15, 0), (16, 0), (17, 0), (18, 0), (19, 0), (20, 0), (21, 0), (22, 0)] else []
@[push_cast] def Try.pl18 : Plans := fun i => []
@[push_cast] def Try.pl19 : Plans := fun i => if i = 1 then [(0, 0), (1, 0), (3, 0), (4, 0), (6, 0), (7, 0), (2, 2), (9, 0), (5, 2), (8, 2), (10, 1), (11, 0), (12, 1), (13, 0), (14, 1)] else []
@[push_cast] def Try.pl20 : Plans := fun i => if i = 9 then [(0, 0), (1, 0), (2, 0), (3, 1), (4, 0)] else []
@[push_cast] def Try.pl21 : Plans := fun i => []
@[push_cast] def Try.pl22 : Plans := fun i => []
@[push_cast] def Try.pl23 : Plans := fun i => []
@[push_cast] def Try.pl24 : Plans := fun i => []
@[push_cast] def Try.pl25 : Plans := fun i => if i = 6 then [(0, 4), (1, 3), (2, 1)] else []
@[push_cast] def Try.pl26 : Plans := fun i => []
@[push_cast] def Try.pl27 : Plans := fun i => if i = 4 then [(0, 0), (1, 0), (2, 0), (3, 0), (4, 0), (5, 0), (6, 0), (7, 0), (8, 0), (9, 0)] else []
@[push_cast] def Try.pl28 : Plans := fun i => []
@[push_cast] def Try.pl29 : Plans := fun i => if i = 4 then [(0, 0), (1, 0), (2, 0), (3, 0), (4, 0), (5, 0), (6, 0), (7, 0), (8, 0), (9, 0), (10, 0), (11, 0), (12, 0), (13, 0), (14, 0), (15, 0), (16, 0), (17, 0), (18, 0), (19, 0), (20, 0), (21, 0), (22, 0), (23, 0), (24, 0), (25, 0), (26, 0), (27, 0), (28, 0), (29, 0), (30, 0), (31, 0)] else []
@[push_cast] def Try.pl30 : Plans := fun i => []
@[push_cast] def Try.pl31 : Plans := fun i => if i = 4 then [(0, 0), (1, 0), (2, 0), (3, 0), (4, 0), (5, 0), (6, 0)] else []
@[push_cast] def Try.pl32 : Plans := fun i => if i = 4 then [(0, 0), (1, 0), (2, 0), (3, 0), (4, 0), (5, 0), (6, 0)] else []
@[push_cast] def Try.pl33 : Plans := fun i => []
@[push_cast] def Try.pl34 : Plans := fun i => if i = 8 then [(0, 0), (1, 0), (2, 0), (3, 0), (4, 0), (5, 0), (6, 0), (7, 0)] else if i = 9 then [(0, 0), (1, 0), (2, 0), (3, 0), (4, 0), (5, 0), (6, 0), (7, 0), (8, 0), (9, 0), (10, 0), (11, 0)] else []
@[push_cast] def Try.pl35 : Plans := fun i => []
@[push_cast] def Try.pl36 : Plans := fun i => []
@[push_cast] def Try.pl37 : Plans := fun i => if i = 1 then [(0, 0), (1, 0), (2, 0), (3, 0)] else []
@[push_cast] def Try.pl38 : Plans := fun i => []
@[push_cast] def Try.pl39 : Plans := fun i => []
@[push_cast] def Try.pl40 : Plans := fun i => []
@[push_cast] def Try.pl41 : Plans := fun i => []
@[push_cast] def Try.pl42 : Plans := fun i => []
@[push_cast] def Try.pl43 : Plans := fun i => []
@[push_cast] def Try.pl44 : Plans := fun i => if i = 6 then [(0, 0), (1, 0), (2, 0), (4, 0), (3, 4), (5, 3), (6, 0), (7, 1)] else if i = 8 then [(0, 0), (1, 0), (2, 0), (4, 0), (3, 4), (5, 3), (6, 0), (7, 1)] else if i = 10 then [(0, 0), (1, 0), (2, 0), (4, 0), (3, 4), (5, 3), (6, 0), (7, 1)] else if i = 12 then [(0, 0), (1, 0), (2, 0), (4, 0), (7, 0), (3, 4), (5, 4), (6, 0), (8, 1), (9, 0), (10, 1)] else if i = 14 then [(0, 0), (2, 0), (1, 4), (3, 3), (4, 1), (5, 0)] else []
@[push_cast] def Try.pl45 : Plans := fun i => []
@[push_cast] def Try.pl46 : Plans := fun i => []
@[push_cast] def Try.pl47 : Plans := fun i => if i = 6 then [(0, 0), (1, 0), (2, 0), (3, 0), (4, 0), (5, 0), (6, 0), (7, 0), (8, 0)] else []
@[push_cast] def Try.pl48 : Plans := fun i => []
@[push_cast] def Try.pl49 : Plans := fun i => []
@[push_cast] def Try.pl50 : Plans := fun i => []
@[push_cast] def Try.pl51 : Plans := fun i => []
@[push_cast] def Try.pl52 : Plans := fun i => []
@[push_cast] def Try.pl53 : Plans := fun i => if i = 4 then [(0, 0), (1, 0), (2, 0), (3, 0), (4, 0), (5, 0), (6, 0)] else if i = 5 then [(0, 0), (1, 0), (2, 0), (3, 0), (4, 0), (5, 0), (6, 0), (7, 0)] else []
@[push_cast] def Try.pl54 : Plans := fun i => []
@[push_cast] def Try.pl55 : Plans := fun i => if i = 7 then [(0, 0), (1, 0), (2, 0), (3, 0), (4, 0), (5, 0), (6, 0), (7, 0), (8, 0), (9, 0), (10, 0), (11, 2), (12, 0)] else []
@[push_cast] def Try.pl56 : Plans := fun i => []
@[push_cast] def Try.pl57 : Plans := fun i => []
@[push_cast] def Try.pl58 : Plans := fun i => []
@[push_cast] def Try.pl59 : Plans := fun i => []
@[push_cast] def Try.pl60 : Plans := fun i => []
@[push_cast] def Try.pl61 : Plans := fun i => []
@[push_cast] def Try.pl62 : Plans := fun i => if i = 5 then [(0, 0), (1, 0), (2, 0), (3, 0), (4, 0), (5, 0), (6, 0), (7, 0)] else if i = 8 then [(0, 0), (1, 0), (2, 0), (3, 0), (4, 0), (5, 0), (6, 0), (7, 0), (8, 0), (9, 0), (10, 0), (11, 0), (12, 0), (13, 0), (14, 0), (15, 0)] else []
@[push_cast] def Try.pl63 : Plans := fun i => []
@[push_cast] def Try.pl64 : Plans := fun i => if i = 5 then [(0, 0), (1, 0), (2, 0), (3, 0), (4, 0), (5, 0), (6, 1), (7, 0)] else []
@[push_cast] def Try.pl65 : Plans := fun i => if i = 11 then [(0, 0), (1, 0), (2, 0), (3, 0), (4, 0), (5, 0), (6, 0), (7, 0), (8, 1)] else if i = 15 then [(0, 0), (1, 0), (2, 0), (3, 0), (4, 0), (5, 0), (6, 0), (7, 0), (8, 1)] else []
@[push_cast] def Try.pl66 : Plans := fun i => []
@[push_cast] def Try.pl67 : Plans := fun i => []
@[push_cast] def Try.pl68 : Plans := fun i => []
@[push_cast] def Try.pl69 : Plans := fun i => if i = 4 then [(0, 0), (1, 0), (2, 0), (3, 0), (4, 0), (5, 0), (6, 0), (7, 0), (8, 0), (9, 0), (10, 0), (11, 0), (12, 0)] else []
@[push_cast] def Try.pl70 : Plans := fun i => if i = 6 then [(0, 0), (1, 0), (2, 0), (3, 0), (4, 0), (5, 0), (6, 0)] else if i = 7 then [(0, 0), (1, 0), (2, 0), (3, 0), (4, 0), (5, 0), (6, 0), (7, 0), (8, 0), (9, 0), (10, 0), (11, 0)] else []
@[push_cast] def Try.pl71 : Plans := fun i => []
@[push_cast] def Try.pl72 : Plans := fun i => []
@[push_cast] def Try.pl73 : Plans := fun i => []
@[push_cast] def Try.pl75 : Plans := fun i => []
@[push_cast] def Try.pl76 : Plans := fun i => []
@[push_cast] def Try.pl77 : Plans := fun i => []
@[push_cast] def Try.pl79 : Plans := fun i => []
@[push_cast] def Try.pl80 : Plans := fun i => if i = 4 then [(0, 0), (1, 0), (2, 0), (3, 0), (4, 0), (5, 0), (6, 0)] else if i = 6 then [(0, 0), (1, 0), (2, 0), (3, 0), (4, 0), (5, 0), (6, 0)] else []
@[push_cast] def Try.pl81 : Plans := fun i => []
@[push_cast] def Try.pl82 : Plans := fun i => if i = 4 then [(0, 0), (1, 0), (2, 0), (3, 0), (4, 0), (5, 0), (6, 0), (7, 0), (8, 0), (9, 0), (10, 0), (11, 0), (12, 0), (13, 0), (14, 0), (15, 0), (16, 0), (17, 0), (18, 0), (19, 0), (20, 0)] else []
@[push_cast] def Try.pl83 : Plans := fun i => []
@[push_cast] def Try.pl84 : Plans := fun i => []
@[push_cast] def Try.pl85 : Plans := fun i => []
@[push_cast] def Try.pl86 : Plans := fun i => if i = 1 then [(0, 0), (2, 0), (1, 2), (3, 2), (4, 0), (5, 0)] else []
@[push_cast] def Try.pl87 : Plans := fun i => if i = 0 then [(0, 0), (1, 0), (2, 0), (3, 0), (4, 0), (5, 0)] else if i = 3 then [(0, 0), (1, 0), (2, 0), (3, 0), (4, 0), (5, 0), (6, 0), (7, 0), (8, 0), (9, 0), (10, 0), (11, 0)] else if i = 10 then [(0, 0), (1, 0), (2, 0), (3, 0), (4, 0), (5, 0), (6, 0), (8, 0), (9, 0), (10, 0), (7, 4), (11, 3), (12, 0), (13, 1), (14, 0)] else if i = 12 then [(0, 0), (1, 0), (2, 0), (3, 0), (4, 0), (5, 0), (6, 0), (8, 0), (9, 0), (10, 0), (7, 4), (11, 3), (12, 0), (13, 1), (14, 0), (15, 1), (16, 0)] else []
@[push_cast] def Try.pl88 : Plans := fun i => if i = 3 then [(0, 0), (1, 0), (2, 0), (3, 0), (4, 0), (5, 0), (6, 0), (7, 0), (8, 0), (9, 0), (10, 0), (11, 0), (12, 0), (13, 1), (14, 0), (15, 1)] else []
@[push_cast] def Try.pl89 : Plans := fun i => []
@[push_cast] def Try.pl90 : Plans := fun i => []
@[push_cast] def Try.pl91 : Plans := fun i => []
@[push_cast] def Try.pl92 : Plans := fun i => []
@[push_cast] def Try.pl93 : Plans := fun i => if i = 3 then [(0, 0), (1, 0), (2, 0), (3, 0), (4, 0), (5, 0), (6, 0), (7, 0), (8, 0), (9, 0), (10, 0), (11, 0), (12, 0), (13, 1), (14, 0), (15, 1)] else []
@[push_cast] def Try.pl94 : Plans := fun i => []
theorem Try.mix : Try.prog.follows .mixedOrders = true := by kernel_rfl
end Go.Proofs
