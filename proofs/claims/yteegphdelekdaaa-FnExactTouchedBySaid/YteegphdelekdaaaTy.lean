/- Facts on the types of the translation, each a closed equation; written by wip/gen/gen_types.py. -/
import Derived.Test.YteegphdelekdaaaProg
import Derived.Test.YteegphdelekdaaaAbs2
import Derived.KernelRfl
namespace Go.Proofs.Yteegphdelekdaaa
open Go.Abs
@[simp, go_sem] theorem tsz1 : tsz Try.prog 1 = some 1 := by kernel_rfl
@[simp, go_sem] theorem tby1 : tby Try.prog 1 = some 8 := by kernel_rfl
@[simp, go_sem] theorem tagg1 : tagg Try.prog 1 = some false := by kernel_rfl
@[simp, go_sem] theorem tzero1 : tzero Try.prog 1 = some [.dead] := by kernel_rfl
@[simp, go_sem] theorem tis1 : (Try.prog.underlying 1).isSome = true := by kernel_rfl
@[simp, go_sem] theorem tsz2 : tsz Try.prog 2 = some 1 := by kernel_rfl
@[simp, go_sem] theorem tby2 : tby Try.prog 2 = some 8 := by kernel_rfl
@[simp, go_sem] theorem tagg2 : tagg Try.prog 2 = some false := by kernel_rfl
@[simp, go_sem] theorem tzero2 : tzero Try.prog 2 = some [.int .i64 0] := by kernel_rfl
@[simp, go_sem] theorem tis2 : (Try.prog.underlying 2).isSome = true := by kernel_rfl
@[simp, go_sem] theorem tint2 : tint Try.prog 2 = some .i64 := by kernel_rfl
@[simp, go_sem] theorem tsz3 : tsz Try.prog 3 = some 1 := by kernel_rfl
@[simp, go_sem] theorem tby3 : tby Try.prog 3 = some 8 := by kernel_rfl
@[simp, go_sem] theorem tagg3 : tagg Try.prog 3 = some false := by kernel_rfl
@[simp, go_sem] theorem tzero3 : tzero Try.prog 3 = some [.int .i64 0] := by kernel_rfl
@[simp, go_sem] theorem tis3 : (Try.prog.underlying 3).isSome = true := by kernel_rfl
@[simp, go_sem] theorem tint3 : tint Try.prog 3 = some .i64 := by kernel_rfl
@[simp, go_sem] theorem tsz4 : tsz Try.prog 4 = some 1 := by kernel_rfl
@[simp, go_sem] theorem tby4 : tby Try.prog 4 = some 1 := by kernel_rfl
@[simp, go_sem] theorem tagg4 : tagg Try.prog 4 = some false := by kernel_rfl
@[simp, go_sem] theorem tzero4 : tzero Try.prog 4 = some [.bool false] := by kernel_rfl
@[simp, go_sem] theorem tis4 : (Try.prog.underlying 4).isSome = true := by kernel_rfl
@[simp, go_sem] theorem tun4 : Try.prog.underlying 4 = some .bool := by kernel_rfl
@[simp, go_sem] theorem tsz5 : tsz Try.prog 5 = some 1 := by kernel_rfl
@[simp, go_sem] theorem tby5 : tby Try.prog 5 = some 1 := by kernel_rfl
@[simp, go_sem] theorem tagg5 : tagg Try.prog 5 = some false := by kernel_rfl
@[simp, go_sem] theorem tzero5 : tzero Try.prog 5 = some [.int .u8 0] := by kernel_rfl
@[simp, go_sem] theorem tis5 : (Try.prog.underlying 5).isSome = true := by kernel_rfl
@[simp, go_sem] theorem tint5 : tint Try.prog 5 = some .u8 := by kernel_rfl
@[simp, go_sem] theorem tsz6 : tsz Try.prog 6 = some 1 := by kernel_rfl
@[simp, go_sem] theorem tby6 : tby Try.prog 6 = some 1 := by kernel_rfl
@[simp, go_sem] theorem tagg6 : tagg Try.prog 6 = some false := by kernel_rfl
@[simp, go_sem] theorem tzero6 : tzero Try.prog 6 = some [.int .u8 0] := by kernel_rfl
@[simp, go_sem] theorem tis6 : (Try.prog.underlying 6).isSome = true := by kernel_rfl
@[simp, go_sem] theorem tint6 : tint Try.prog 6 = some .u8 := by kernel_rfl
@[simp, go_sem] theorem tsz7 : tsz Try.prog 7 = some 4 := by kernel_rfl
@[simp, go_sem] theorem tby7 : tby Try.prog 7 = some 24 := by kernel_rfl
@[simp, go_sem] theorem tagg7 : tagg Try.prog 7 = some true := by kernel_rfl
@[simp, go_sem] theorem tzero7 : tzero Try.prog 7 = some [.int .i64 0, .int .i64 0, .bool false, .int .u8 0] := by kernel_rfl
@[simp, go_sem] theorem tis7 : (Try.prog.underlying 7).isSome = true := by kernel_rfl
@[simp, go_sem] theorem tstruct7 : tstruct Try.prog 7 = true := by kernel_rfl
@[simp, go_sem] theorem tfld7f0 : tfld Try.prog 7 0 = some (0, 2) := by kernel_rfl
@[simp, go_sem] theorem tfld7f1 : tfld Try.prog 7 1 = some (1, 3) := by kernel_rfl
@[simp, go_sem] theorem tfld7f2 : tfld Try.prog 7 2 = some (2, 4) := by kernel_rfl
@[simp, go_sem] theorem tfld7f3 : tfld Try.prog 7 3 = some (3, 6) := by kernel_rfl
@[simp, go_sem] theorem tsz8 : tsz Try.prog 8 = some 4 := by kernel_rfl
@[simp, go_sem] theorem tby8 : tby Try.prog 8 = some 24 := by kernel_rfl
@[simp, go_sem] theorem tagg8 : tagg Try.prog 8 = some true := by kernel_rfl
@[simp, go_sem] theorem tzero8 : tzero Try.prog 8 = some [.int .i64 0, .int .i64 0, .bool false, .int .u8 0] := by kernel_rfl
@[simp, go_sem] theorem tis8 : (Try.prog.underlying 8).isSome = true := by kernel_rfl
@[simp, go_sem] theorem tstruct8 : tstruct Try.prog 8 = true := by kernel_rfl
@[simp, go_sem] theorem tfld8f0 : tfld Try.prog 8 0 = some (0, 2) := by kernel_rfl
@[simp, go_sem] theorem tfld8f1 : tfld Try.prog 8 1 = some (1, 3) := by kernel_rfl
@[simp, go_sem] theorem tfld8f2 : tfld Try.prog 8 2 = some (2, 4) := by kernel_rfl
@[simp, go_sem] theorem tfld8f3 : tfld Try.prog 8 3 = some (3, 6) := by kernel_rfl
@[simp, go_sem] theorem tsz9 : tsz Try.prog 9 = some 1 := by kernel_rfl
@[simp, go_sem] theorem tby9 : tby Try.prog 9 = some 16 := by kernel_rfl
@[simp, go_sem] theorem tagg9 : tagg Try.prog 9 = some false := by kernel_rfl
@[simp, go_sem] theorem tzero9 : tzero Try.prog 9 = some [.str ⟨#[]⟩] := by kernel_rfl
@[simp, go_sem] theorem tis9 : (Try.prog.underlying 9).isSome = true := by kernel_rfl
@[simp, go_sem] theorem tun9 : Try.prog.underlying 9 = some .string := by kernel_rfl
@[simp, go_sem] theorem tsz10 : tsz Try.prog 10 = some 1 := by kernel_rfl
@[simp, go_sem] theorem tby10 : tby Try.prog 10 = some 16 := by kernel_rfl
@[simp, go_sem] theorem tagg10 : tagg Try.prog 10 = some false := by kernel_rfl
@[simp, go_sem] theorem tzero10 : tzero Try.prog 10 = some [.str ⟨#[]⟩] := by kernel_rfl
@[simp, go_sem] theorem tis10 : (Try.prog.underlying 10).isSome = true := by kernel_rfl
@[simp, go_sem] theorem tun10 : Try.prog.underlying 10 = some .string := by kernel_rfl
@[simp, go_sem] theorem tsz11 : tsz Try.prog 11 = some 1 := by kernel_rfl
@[simp, go_sem] theorem tby11 : tby Try.prog 11 = some 16 := by kernel_rfl
@[simp, go_sem] theorem tagg11 : tagg Try.prog 11 = some false := by kernel_rfl
@[simp, go_sem] theorem tzero11 : tzero Try.prog 11 = some [.str ⟨#[]⟩] := by kernel_rfl
@[simp, go_sem] theorem tis11 : (Try.prog.underlying 11).isSome = true := by kernel_rfl
@[simp, go_sem] theorem tun11 : Try.prog.underlying 11 = some .string := by kernel_rfl
@[simp, go_sem] theorem tsz12 : tsz Try.prog 12 = some 1 := by kernel_rfl
@[simp, go_sem] theorem tby12 : tby Try.prog 12 = some 8 := by kernel_rfl
@[simp, go_sem] theorem tagg12 : tagg Try.prog 12 = some false := by kernel_rfl
@[simp, go_sem] theorem tzero12 : tzero Try.prog 12 = some [.int .u64 0] := by kernel_rfl
@[simp, go_sem] theorem tis12 : (Try.prog.underlying 12).isSome = true := by kernel_rfl
@[simp, go_sem] theorem tint12 : tint Try.prog 12 = some .u64 := by kernel_rfl
@[simp, go_sem] theorem tsz13 : tsz Try.prog 13 = some 2 := by kernel_rfl
@[simp, go_sem] theorem tby13 : tby Try.prog 13 = some 24 := by kernel_rfl
@[simp, go_sem] theorem tagg13 : tagg Try.prog 13 = some true := by kernel_rfl
@[simp, go_sem] theorem tzero13 : tzero Try.prog 13 = some [.str ⟨#[]⟩, .int .u64 0] := by kernel_rfl
@[simp, go_sem] theorem tis13 : (Try.prog.underlying 13).isSome = true := by kernel_rfl
@[simp, go_sem] theorem tstruct13 : tstruct Try.prog 13 = true := by kernel_rfl
@[simp, go_sem] theorem tfld13f0 : tfld Try.prog 13 0 = some (0, 9) := by kernel_rfl
@[simp, go_sem] theorem tfld13f1 : tfld Try.prog 13 1 = some (1, 12) := by kernel_rfl
@[simp, go_sem] theorem tsz14 : tsz Try.prog 14 = some 2 := by kernel_rfl
@[simp, go_sem] theorem tby14 : tby Try.prog 14 = some 24 := by kernel_rfl
@[simp, go_sem] theorem tagg14 : tagg Try.prog 14 = some true := by kernel_rfl
@[simp, go_sem] theorem tzero14 : tzero Try.prog 14 = some [.str ⟨#[]⟩, .int .u64 0] := by kernel_rfl
@[simp, go_sem] theorem tis14 : (Try.prog.underlying 14).isSome = true := by kernel_rfl
@[simp, go_sem] theorem tstruct14 : tstruct Try.prog 14 = true := by kernel_rfl
@[simp, go_sem] theorem tfld14f0 : tfld Try.prog 14 0 = some (0, 9) := by kernel_rfl
@[simp, go_sem] theorem tfld14f1 : tfld Try.prog 14 1 = some (1, 12) := by kernel_rfl
@[simp, go_sem] theorem tsz15 : tsz Try.prog 15 = some 1 := by kernel_rfl
@[simp, go_sem] theorem tby15 : tby Try.prog 15 = some 8 := by kernel_rfl
@[simp, go_sem] theorem tagg15 : tagg Try.prog 15 = some false := by kernel_rfl
@[simp, go_sem] theorem tzero15 : tzero Try.prog 15 = some [.nilp] := by kernel_rfl
@[simp, go_sem] theorem tis15 : (Try.prog.underlying 15).isSome = true := by kernel_rfl
@[simp, go_sem] theorem tsz16 : tsz Try.prog 16 = some 1 := by kernel_rfl
@[simp, go_sem] theorem tby16 : tby Try.prog 16 = some 8 := by kernel_rfl
@[simp, go_sem] theorem tagg16 : tagg Try.prog 16 = some false := by kernel_rfl
@[simp, go_sem] theorem tzero16 : tzero Try.prog 16 = some [.nilp] := by kernel_rfl
@[simp, go_sem] theorem tis16 : (Try.prog.underlying 16).isSome = true := by kernel_rfl
@[simp, go_sem] theorem tsz17 : tsz Try.prog 17 = some 1 := by kernel_rfl
@[simp, go_sem] theorem tby17 : tby Try.prog 17 = some 8 := by kernel_rfl
@[simp, go_sem] theorem tagg17 : tagg Try.prog 17 = some false := by kernel_rfl
@[simp, go_sem] theorem tzero17 : tzero Try.prog 17 = some [.nilp] := by kernel_rfl
@[simp, go_sem] theorem tis17 : (Try.prog.underlying 17).isSome = true := by kernel_rfl
@[simp, go_sem] theorem tsz18 : tsz Try.prog 18 = some 1 := by kernel_rfl
@[simp, go_sem] theorem tby18 : tby Try.prog 18 = some 8 := by kernel_rfl
@[simp, go_sem] theorem tagg18 : tagg Try.prog 18 = some true := by kernel_rfl
@[simp, go_sem] theorem tzero18 : tzero Try.prog 18 = some [.nilp] := by kernel_rfl
@[simp, go_sem] theorem tis18 : (Try.prog.underlying 18).isSome = true := by kernel_rfl
@[simp, go_sem] theorem tstruct18 : tstruct Try.prog 18 = true := by kernel_rfl
@[simp, go_sem] theorem tfld18f0 : tfld Try.prog 18 0 = some (0, 17) := by kernel_rfl
@[simp, go_sem] theorem tsz19 : tsz Try.prog 19 = some 1 := by kernel_rfl
@[simp, go_sem] theorem tby19 : tby Try.prog 19 = some 8 := by kernel_rfl
@[simp, go_sem] theorem tagg19 : tagg Try.prog 19 = some true := by kernel_rfl
@[simp, go_sem] theorem tzero19 : tzero Try.prog 19 = some [.nilp] := by kernel_rfl
@[simp, go_sem] theorem tis19 : (Try.prog.underlying 19).isSome = true := by kernel_rfl
@[simp, go_sem] theorem tstruct19 : tstruct Try.prog 19 = true := by kernel_rfl
@[simp, go_sem] theorem tfld19f0 : tfld Try.prog 19 0 = some (0, 17) := by kernel_rfl
@[simp, go_sem] theorem tsz21 : tsz Try.prog 21 = some 1 := by kernel_rfl
@[simp, go_sem] theorem tby21 : tby Try.prog 21 = some 4 := by kernel_rfl
@[simp, go_sem] theorem tagg21 : tagg Try.prog 21 = some false := by kernel_rfl
@[simp, go_sem] theorem tzero21 : tzero Try.prog 21 = some [.int .i32 0] := by kernel_rfl
@[simp, go_sem] theorem tis21 : (Try.prog.underlying 21).isSome = true := by kernel_rfl
@[simp, go_sem] theorem tint21 : tint Try.prog 21 = some .i32 := by kernel_rfl
@[simp, go_sem] theorem tsz22 : tsz Try.prog 22 = some 1 := by kernel_rfl
@[simp, go_sem] theorem tby22 : tby Try.prog 22 = some 24 := by kernel_rfl
@[simp, go_sem] theorem tagg22 : tagg Try.prog 22 = some false := by kernel_rfl
@[simp, go_sem] theorem tzero22 : tzero Try.prog 22 = some [.nil] := by kernel_rfl
@[simp, go_sem] theorem telem22 : telem Try.prog 22 = some 73 := by kernel_rfl
@[simp, go_sem] theorem tis22 : (Try.prog.underlying 22).isSome = true := by kernel_rfl
@[simp, go_sem] theorem tsz23 : tsz Try.prog 23 = some 1 := by kernel_rfl
@[simp, go_sem] theorem tby23 : tby Try.prog 23 = some 24 := by kernel_rfl
@[simp, go_sem] theorem tagg23 : tagg Try.prog 23 = some false := by kernel_rfl
@[simp, go_sem] theorem tzero23 : tzero Try.prog 23 = some [.nil] := by kernel_rfl
@[simp, go_sem] theorem telem23 : telem Try.prog 23 = some 68 := by kernel_rfl
@[simp, go_sem] theorem tis23 : (Try.prog.underlying 23).isSome = true := by kernel_rfl
@[simp, go_sem] theorem tsz24 : tsz Try.prog 24 = some 4 := by kernel_rfl
@[simp, go_sem] theorem tby24 : tby Try.prog 24 = some 64 := by kernel_rfl
@[simp, go_sem] theorem tagg24 : tagg Try.prog 24 = some true := by kernel_rfl
@[simp, go_sem] theorem tzero24 : tzero Try.prog 24 = some [.int .i64 0, .int .i64 0, .nil, .nil] := by kernel_rfl
@[simp, go_sem] theorem tis24 : (Try.prog.underlying 24).isSome = true := by kernel_rfl
@[simp, go_sem] theorem tstruct24 : tstruct Try.prog 24 = true := by kernel_rfl
@[simp, go_sem] theorem tfld24f0 : tfld Try.prog 24 0 = some (0, 3) := by kernel_rfl
@[simp, go_sem] theorem tfld24f1 : tfld Try.prog 24 1 = some (1, 3) := by kernel_rfl
@[simp, go_sem] theorem tfld24f2 : tfld Try.prog 24 2 = some (2, 22) := by kernel_rfl
@[simp, go_sem] theorem tfld24f3 : tfld Try.prog 24 3 = some (3, 23) := by kernel_rfl
@[simp, go_sem] theorem tsz25 : tsz Try.prog 25 = some 4 := by kernel_rfl
@[simp, go_sem] theorem tby25 : tby Try.prog 25 = some 64 := by kernel_rfl
@[simp, go_sem] theorem tagg25 : tagg Try.prog 25 = some true := by kernel_rfl
@[simp, go_sem] theorem tzero25 : tzero Try.prog 25 = some [.int .i64 0, .int .i64 0, .nil, .nil] := by kernel_rfl
@[simp, go_sem] theorem tis25 : (Try.prog.underlying 25).isSome = true := by kernel_rfl
@[simp, go_sem] theorem tstruct25 : tstruct Try.prog 25 = true := by kernel_rfl
@[simp, go_sem] theorem tfld25f0 : tfld Try.prog 25 0 = some (0, 3) := by kernel_rfl
@[simp, go_sem] theorem tfld25f1 : tfld Try.prog 25 1 = some (1, 3) := by kernel_rfl
@[simp, go_sem] theorem tfld25f2 : tfld Try.prog 25 2 = some (2, 22) := by kernel_rfl
@[simp, go_sem] theorem tfld25f3 : tfld Try.prog 25 3 = some (3, 23) := by kernel_rfl
@[simp, go_sem] theorem tsz26 : tsz Try.prog 26 = some 1 := by kernel_rfl
@[simp, go_sem] theorem tby26 : tby Try.prog 26 = some 8 := by kernel_rfl
@[simp, go_sem] theorem tagg26 : tagg Try.prog 26 = some false := by kernel_rfl
@[simp, go_sem] theorem tzero26 : tzero Try.prog 26 = some [.dead] := by kernel_rfl
@[simp, go_sem] theorem tis26 : (Try.prog.underlying 26).isSome = true := by kernel_rfl
@[simp, go_sem] theorem tsz28 : tsz Try.prog 28 = some 1 := by kernel_rfl
@[simp, go_sem] theorem tby28 : tby Try.prog 28 = some 8 := by kernel_rfl
@[simp, go_sem] theorem tagg28 : tagg Try.prog 28 = some false := by kernel_rfl
@[simp, go_sem] theorem tzero28 : tzero Try.prog 28 = some [.dead] := by kernel_rfl
@[simp, go_sem] theorem tis28 : (Try.prog.underlying 28).isSome = true := by kernel_rfl
@[simp, go_sem] theorem tsz29 : tsz Try.prog 29 = some 1 := by kernel_rfl
@[simp, go_sem] theorem tby29 : tby Try.prog 29 = some 24 := by kernel_rfl
@[simp, go_sem] theorem tagg29 : tagg Try.prog 29 = some false := by kernel_rfl
@[simp, go_sem] theorem tzero29 : tzero Try.prog 29 = some [.nil] := by kernel_rfl
@[simp, go_sem] theorem telem29 : telem Try.prog 29 = some 71 := by kernel_rfl
@[simp, go_sem] theorem tis29 : (Try.prog.underlying 29).isSome = true := by kernel_rfl
@[simp, go_sem] theorem tsz30 : tsz Try.prog 30 = some 1 := by kernel_rfl
@[simp, go_sem] theorem tby30 : tby Try.prog 30 = some 24 := by kernel_rfl
@[simp, go_sem] theorem tagg30 : tagg Try.prog 30 = some false := by kernel_rfl
@[simp, go_sem] theorem tzero30 : tzero Try.prog 30 = some [.nil] := by kernel_rfl
@[simp, go_sem] theorem telem30 : telem Try.prog 30 = some 57 := by kernel_rfl
@[simp, go_sem] theorem tis30 : (Try.prog.underlying 30).isSome = true := by kernel_rfl
@[simp, go_sem] theorem tsz31 : tsz Try.prog 31 = some 4 := by kernel_rfl
@[simp, go_sem] theorem tby31 : tby Try.prog 31 = some 64 := by kernel_rfl
@[simp, go_sem] theorem tagg31 : tagg Try.prog 31 = some true := by kernel_rfl
@[simp, go_sem] theorem tzero31 : tzero Try.prog 31 = some [.int .i64 0, .int .i64 0, .nil, .nil] := by kernel_rfl
@[simp, go_sem] theorem tis31 : (Try.prog.underlying 31).isSome = true := by kernel_rfl
@[simp, go_sem] theorem tstruct31 : tstruct Try.prog 31 = true := by kernel_rfl
@[simp, go_sem] theorem tfld31f0 : tfld Try.prog 31 0 = some (0, 3) := by kernel_rfl
@[simp, go_sem] theorem tfld31f1 : tfld Try.prog 31 1 = some (1, 3) := by kernel_rfl
@[simp, go_sem] theorem tfld31f2 : tfld Try.prog 31 2 = some (2, 29) := by kernel_rfl
@[simp, go_sem] theorem tfld31f3 : tfld Try.prog 31 3 = some (3, 30) := by kernel_rfl
@[simp, go_sem] theorem tsz32 : tsz Try.prog 32 = some 4 := by kernel_rfl
@[simp, go_sem] theorem tby32 : tby Try.prog 32 = some 64 := by kernel_rfl
@[simp, go_sem] theorem tagg32 : tagg Try.prog 32 = some true := by kernel_rfl
@[simp, go_sem] theorem tzero32 : tzero Try.prog 32 = some [.int .i64 0, .int .i64 0, .nil, .nil] := by kernel_rfl
@[simp, go_sem] theorem tis32 : (Try.prog.underlying 32).isSome = true := by kernel_rfl
@[simp, go_sem] theorem tstruct32 : tstruct Try.prog 32 = true := by kernel_rfl
@[simp, go_sem] theorem tfld32f0 : tfld Try.prog 32 0 = some (0, 3) := by kernel_rfl
@[simp, go_sem] theorem tfld32f1 : tfld Try.prog 32 1 = some (1, 3) := by kernel_rfl
@[simp, go_sem] theorem tfld32f2 : tfld Try.prog 32 2 = some (2, 29) := by kernel_rfl
@[simp, go_sem] theorem tfld32f3 : tfld Try.prog 32 3 = some (3, 30) := by kernel_rfl
@[simp, go_sem] theorem tsz33 : tsz Try.prog 33 = some 1 := by kernel_rfl
@[simp, go_sem] theorem tby33 : tby Try.prog 33 = some 8 := by kernel_rfl
@[simp, go_sem] theorem tagg33 : tagg Try.prog 33 = some false := by kernel_rfl
@[simp, go_sem] theorem tzero33 : tzero Try.prog 33 = some [.dead] := by kernel_rfl
@[simp, go_sem] theorem tis33 : (Try.prog.underlying 33).isSome = true := by kernel_rfl
@[simp, go_sem] theorem tsz34 : tsz Try.prog 34 = some 1 := by kernel_rfl
@[simp, go_sem] theorem tby34 : tby Try.prog 34 = some 8 := by kernel_rfl
@[simp, go_sem] theorem tagg34 : tagg Try.prog 34 = some false := by kernel_rfl
@[simp, go_sem] theorem tzero34 : tzero Try.prog 34 = some [.dead] := by kernel_rfl
@[simp, go_sem] theorem tis34 : (Try.prog.underlying 34).isSome = true := by kernel_rfl
@[simp, go_sem] theorem tsz35 : tsz Try.prog 35 = some 1 := by kernel_rfl
@[simp, go_sem] theorem tby35 : tby Try.prog 35 = some 8 := by kernel_rfl
@[simp, go_sem] theorem tagg35 : tagg Try.prog 35 = some false := by kernel_rfl
@[simp, go_sem] theorem tzero35 : tzero Try.prog 35 = some [.dead] := by kernel_rfl
@[simp, go_sem] theorem tis35 : (Try.prog.underlying 35).isSome = true := by kernel_rfl
@[simp, go_sem] theorem tsz36 : tsz Try.prog 36 = some 1 := by kernel_rfl
@[simp, go_sem] theorem tby36 : tby Try.prog 36 = some 24 := by kernel_rfl
@[simp, go_sem] theorem tagg36 : tagg Try.prog 36 = some false := by kernel_rfl
@[simp, go_sem] theorem tzero36 : tzero Try.prog 36 = some [.nil] := by kernel_rfl
@[simp, go_sem] theorem telem36 : telem Try.prog 36 = some 3 := by kernel_rfl
@[simp, go_sem] theorem tis36 : (Try.prog.underlying 36).isSome = true := by kernel_rfl
@[simp, go_sem] theorem tsz38 : tsz Try.prog 38 = some 1 := by kernel_rfl
@[simp, go_sem] theorem tby38 : tby Try.prog 38 = some 8 := by kernel_rfl
@[simp, go_sem] theorem tagg38 : tagg Try.prog 38 = some false := by kernel_rfl
@[simp, go_sem] theorem tzero38 : tzero Try.prog 38 = some [.dead] := by kernel_rfl
@[simp, go_sem] theorem tis38 : (Try.prog.underlying 38).isSome = true := by kernel_rfl
@[simp, go_sem] theorem tsz39 : tsz Try.prog 39 = some 1 := by kernel_rfl
@[simp, go_sem] theorem tby39 : tby Try.prog 39 = some 8 := by kernel_rfl
@[simp, go_sem] theorem tagg39 : tagg Try.prog 39 = some false := by kernel_rfl
@[simp, go_sem] theorem tzero39 : tzero Try.prog 39 = some [.dead] := by kernel_rfl
@[simp, go_sem] theorem tis39 : (Try.prog.underlying 39).isSome = true := by kernel_rfl
@[simp, go_sem] theorem tsz40 : tsz Try.prog 40 = some 1 := by kernel_rfl
@[simp, go_sem] theorem tby40 : tby Try.prog 40 = some 8 := by kernel_rfl
@[simp, go_sem] theorem tagg40 : tagg Try.prog 40 = some false := by kernel_rfl
@[simp, go_sem] theorem tzero40 : tzero Try.prog 40 = some [.dead] := by kernel_rfl
@[simp, go_sem] theorem tis40 : (Try.prog.underlying 40).isSome = true := by kernel_rfl
@[simp, go_sem] theorem tsz41 : tsz Try.prog 41 = some 1 := by kernel_rfl
@[simp, go_sem] theorem tby41 : tby Try.prog 41 = some 8 := by kernel_rfl
@[simp, go_sem] theorem tagg41 : tagg Try.prog 41 = some false := by kernel_rfl
@[simp, go_sem] theorem tzero41 : tzero Try.prog 41 = some [.dead] := by kernel_rfl
@[simp, go_sem] theorem tis41 : (Try.prog.underlying 41).isSome = true := by kernel_rfl
@[simp, go_sem] theorem tsz42 : tsz Try.prog 42 = some 1 := by kernel_rfl
@[simp, go_sem] theorem tby42 : tby Try.prog 42 = some 8 := by kernel_rfl
@[simp, go_sem] theorem tagg42 : tagg Try.prog 42 = some false := by kernel_rfl
@[simp, go_sem] theorem tzero42 : tzero Try.prog 42 = some [.dead] := by kernel_rfl
@[simp, go_sem] theorem tis42 : (Try.prog.underlying 42).isSome = true := by kernel_rfl
@[simp, go_sem] theorem tsz43 : tsz Try.prog 43 = some 1 := by kernel_rfl
@[simp, go_sem] theorem tby43 : tby Try.prog 43 = some 8 := by kernel_rfl
@[simp, go_sem] theorem tagg43 : tagg Try.prog 43 = some false := by kernel_rfl
@[simp, go_sem] theorem tzero43 : tzero Try.prog 43 = some [.dead] := by kernel_rfl
@[simp, go_sem] theorem tis43 : (Try.prog.underlying 43).isSome = true := by kernel_rfl
@[simp, go_sem] theorem tsz44 : tsz Try.prog 44 = some 1 := by kernel_rfl
@[simp, go_sem] theorem tby44 : tby Try.prog 44 = some 8 := by kernel_rfl
@[simp, go_sem] theorem tagg44 : tagg Try.prog 44 = some false := by kernel_rfl
@[simp, go_sem] theorem tzero44 : tzero Try.prog 44 = some [.dead] := by kernel_rfl
@[simp, go_sem] theorem tis44 : (Try.prog.underlying 44).isSome = true := by kernel_rfl
@[simp, go_sem] theorem tsz45 : tsz Try.prog 45 = some 1 := by kernel_rfl
@[simp, go_sem] theorem tby45 : tby Try.prog 45 = some 8 := by kernel_rfl
@[simp, go_sem] theorem tagg45 : tagg Try.prog 45 = some false := by kernel_rfl
@[simp, go_sem] theorem tzero45 : tzero Try.prog 45 = some [.dead] := by kernel_rfl
@[simp, go_sem] theorem tis45 : (Try.prog.underlying 45).isSome = true := by kernel_rfl
@[simp, go_sem] theorem tsz46 : tsz Try.prog 46 = some 1 := by kernel_rfl
@[simp, go_sem] theorem tby46 : tby Try.prog 46 = some 8 := by kernel_rfl
@[simp, go_sem] theorem tagg46 : tagg Try.prog 46 = some false := by kernel_rfl
@[simp, go_sem] theorem tzero46 : tzero Try.prog 46 = some [.dead] := by kernel_rfl
@[simp, go_sem] theorem tis46 : (Try.prog.underlying 46).isSome = true := by kernel_rfl
@[simp, go_sem] theorem tsz47 : tsz Try.prog 47 = some 1 := by kernel_rfl
@[simp, go_sem] theorem tby47 : tby Try.prog 47 = some 8 := by kernel_rfl
@[simp, go_sem] theorem tagg47 : tagg Try.prog 47 = some false := by kernel_rfl
@[simp, go_sem] theorem tzero47 : tzero Try.prog 47 = some [.dead] := by kernel_rfl
@[simp, go_sem] theorem tis47 : (Try.prog.underlying 47).isSome = true := by kernel_rfl
@[simp, go_sem] theorem tsz48 : tsz Try.prog 48 = some 1 := by kernel_rfl
@[simp, go_sem] theorem tby48 : tby Try.prog 48 = some 8 := by kernel_rfl
@[simp, go_sem] theorem tagg48 : tagg Try.prog 48 = some false := by kernel_rfl
@[simp, go_sem] theorem tzero48 : tzero Try.prog 48 = some [.dead] := by kernel_rfl
@[simp, go_sem] theorem tis48 : (Try.prog.underlying 48).isSome = true := by kernel_rfl
@[simp, go_sem] theorem tsz49 : tsz Try.prog 49 = some 1 := by kernel_rfl
@[simp, go_sem] theorem tby49 : tby Try.prog 49 = some 8 := by kernel_rfl
@[simp, go_sem] theorem tagg49 : tagg Try.prog 49 = some false := by kernel_rfl
@[simp, go_sem] theorem tzero49 : tzero Try.prog 49 = some [.dead] := by kernel_rfl
@[simp, go_sem] theorem tis49 : (Try.prog.underlying 49).isSome = true := by kernel_rfl
@[simp, go_sem] theorem tsz50 : tsz Try.prog 50 = some 1 := by kernel_rfl
@[simp, go_sem] theorem tby50 : tby Try.prog 50 = some 8 := by kernel_rfl
@[simp, go_sem] theorem tagg50 : tagg Try.prog 50 = some false := by kernel_rfl
@[simp, go_sem] theorem tzero50 : tzero Try.prog 50 = some [.dead] := by kernel_rfl
@[simp, go_sem] theorem tis50 : (Try.prog.underlying 50).isSome = true := by kernel_rfl
@[simp, go_sem] theorem tsz51 : tsz Try.prog 51 = some 1 := by kernel_rfl
@[simp, go_sem] theorem tby51 : tby Try.prog 51 = some 8 := by kernel_rfl
@[simp, go_sem] theorem tagg51 : tagg Try.prog 51 = some false := by kernel_rfl
@[simp, go_sem] theorem tzero51 : tzero Try.prog 51 = some [.dead] := by kernel_rfl
@[simp, go_sem] theorem tis51 : (Try.prog.underlying 51).isSome = true := by kernel_rfl
@[simp, go_sem] theorem tsz52 : tsz Try.prog 52 = some 1 := by kernel_rfl
@[simp, go_sem] theorem tby52 : tby Try.prog 52 = some 8 := by kernel_rfl
@[simp, go_sem] theorem tagg52 : tagg Try.prog 52 = some false := by kernel_rfl
@[simp, go_sem] theorem tzero52 : tzero Try.prog 52 = some [.dead] := by kernel_rfl
@[simp, go_sem] theorem tis52 : (Try.prog.underlying 52).isSome = true := by kernel_rfl
@[simp, go_sem] theorem tsz53 : tsz Try.prog 53 = some 1 := by kernel_rfl
@[simp, go_sem] theorem tby53 : tby Try.prog 53 = some 8 := by kernel_rfl
@[simp, go_sem] theorem tagg53 : tagg Try.prog 53 = some false := by kernel_rfl
@[simp, go_sem] theorem tzero53 : tzero Try.prog 53 = some [.dead] := by kernel_rfl
@[simp, go_sem] theorem tis53 : (Try.prog.underlying 53).isSome = true := by kernel_rfl
@[simp, go_sem] theorem tsz54 : tsz Try.prog 54 = some 1 := by kernel_rfl
@[simp, go_sem] theorem tby54 : tby Try.prog 54 = some 8 := by kernel_rfl
@[simp, go_sem] theorem tagg54 : tagg Try.prog 54 = some false := by kernel_rfl
@[simp, go_sem] theorem tzero54 : tzero Try.prog 54 = some [.dead] := by kernel_rfl
@[simp, go_sem] theorem tis54 : (Try.prog.underlying 54).isSome = true := by kernel_rfl
@[simp, go_sem] theorem tsz55 : tsz Try.prog 55 = some 1 := by kernel_rfl
@[simp, go_sem] theorem tby55 : tby Try.prog 55 = some 24 := by kernel_rfl
@[simp, go_sem] theorem tagg55 : tagg Try.prog 55 = some false := by kernel_rfl
@[simp, go_sem] theorem tzero55 : tzero Try.prog 55 = some [.nil] := by kernel_rfl
@[simp, go_sem] theorem telem55 : telem Try.prog 55 = some 59 := by kernel_rfl
@[simp, go_sem] theorem tis55 : (Try.prog.underlying 55).isSome = true := by kernel_rfl
@[simp, go_sem] theorem tsz56 : tsz Try.prog 56 = some 2 := by kernel_rfl
@[simp, go_sem] theorem tby56 : tby Try.prog 56 = some 48 := by kernel_rfl
@[simp, go_sem] theorem tagg56 : tagg Try.prog 56 = some true := by kernel_rfl
@[simp, go_sem] theorem tzero56 : tzero Try.prog 56 = some [.nil, .nil] := by kernel_rfl
@[simp, go_sem] theorem tis56 : (Try.prog.underlying 56).isSome = true := by kernel_rfl
@[simp, go_sem] theorem tstruct56 : tstruct Try.prog 56 = true := by kernel_rfl
@[simp, go_sem] theorem tfld56f0 : tfld Try.prog 56 0 = some (0, 29) := by kernel_rfl
@[simp, go_sem] theorem tfld56f1 : tfld Try.prog 56 1 = some (1, 55) := by kernel_rfl
@[simp, go_sem] theorem tsz57 : tsz Try.prog 57 = some 2 := by kernel_rfl
@[simp, go_sem] theorem tby57 : tby Try.prog 57 = some 48 := by kernel_rfl
@[simp, go_sem] theorem tagg57 : tagg Try.prog 57 = some true := by kernel_rfl
@[simp, go_sem] theorem tzero57 : tzero Try.prog 57 = some [.nil, .nil] := by kernel_rfl
@[simp, go_sem] theorem tis57 : (Try.prog.underlying 57).isSome = true := by kernel_rfl
@[simp, go_sem] theorem tstruct57 : tstruct Try.prog 57 = true := by kernel_rfl
@[simp, go_sem] theorem tfld57f0 : tfld Try.prog 57 0 = some (0, 29) := by kernel_rfl
@[simp, go_sem] theorem tfld57f1 : tfld Try.prog 57 1 = some (1, 55) := by kernel_rfl
@[simp, go_sem] theorem tsz58 : tsz Try.prog 58 = some 2 := by kernel_rfl
@[simp, go_sem] theorem tby58 : tby Try.prog 58 = some 32 := by kernel_rfl
@[simp, go_sem] theorem tagg58 : tagg Try.prog 58 = some true := by kernel_rfl
@[simp, go_sem] theorem tzero58 : tzero Try.prog 58 = some [.int .i64 0, .nil] := by kernel_rfl
@[simp, go_sem] theorem tis58 : (Try.prog.underlying 58).isSome = true := by kernel_rfl
@[simp, go_sem] theorem tstruct58 : tstruct Try.prog 58 = true := by kernel_rfl
@[simp, go_sem] theorem tfld58f0 : tfld Try.prog 58 0 = some (0, 3) := by kernel_rfl
@[simp, go_sem] theorem tfld58f1 : tfld Try.prog 58 1 = some (1, 29) := by kernel_rfl
@[simp, go_sem] theorem tsz59 : tsz Try.prog 59 = some 2 := by kernel_rfl
@[simp, go_sem] theorem tby59 : tby Try.prog 59 = some 32 := by kernel_rfl
@[simp, go_sem] theorem tagg59 : tagg Try.prog 59 = some true := by kernel_rfl
@[simp, go_sem] theorem tzero59 : tzero Try.prog 59 = some [.int .i64 0, .nil] := by kernel_rfl
@[simp, go_sem] theorem tis59 : (Try.prog.underlying 59).isSome = true := by kernel_rfl
@[simp, go_sem] theorem tstruct59 : tstruct Try.prog 59 = true := by kernel_rfl
@[simp, go_sem] theorem tfld59f0 : tfld Try.prog 59 0 = some (0, 3) := by kernel_rfl
@[simp, go_sem] theorem tfld59f1 : tfld Try.prog 59 1 = some (1, 29) := by kernel_rfl
@[simp, go_sem] theorem tsz60 : tsz Try.prog 60 = some 1 := by kernel_rfl
@[simp, go_sem] theorem tby60 : tby Try.prog 60 = some 8 := by kernel_rfl
@[simp, go_sem] theorem tagg60 : tagg Try.prog 60 = some false := by kernel_rfl
@[simp, go_sem] theorem tzero60 : tzero Try.prog 60 = some [.dead] := by kernel_rfl
@[simp, go_sem] theorem tis60 : (Try.prog.underlying 60).isSome = true := by kernel_rfl
@[simp, go_sem] theorem tsz61 : tsz Try.prog 61 = some 1 := by kernel_rfl
@[simp, go_sem] theorem tby61 : tby Try.prog 61 = some 8 := by kernel_rfl
@[simp, go_sem] theorem tagg61 : tagg Try.prog 61 = some false := by kernel_rfl
@[simp, go_sem] theorem tzero61 : tzero Try.prog 61 = some [.dead] := by kernel_rfl
@[simp, go_sem] theorem tis61 : (Try.prog.underlying 61).isSome = true := by kernel_rfl
@[simp, go_sem] theorem tsz62 : tsz Try.prog 62 = some 1 := by kernel_rfl
@[simp, go_sem] theorem tby62 : tby Try.prog 62 = some 8 := by kernel_rfl
@[simp, go_sem] theorem tagg62 : tagg Try.prog 62 = some false := by kernel_rfl
@[simp, go_sem] theorem tzero62 : tzero Try.prog 62 = some [.dead] := by kernel_rfl
@[simp, go_sem] theorem tis62 : (Try.prog.underlying 62).isSome = true := by kernel_rfl
@[simp, go_sem] theorem tsz63 : tsz Try.prog 63 = some 1 := by kernel_rfl
@[simp, go_sem] theorem tby63 : tby Try.prog 63 = some 8 := by kernel_rfl
@[simp, go_sem] theorem tagg63 : tagg Try.prog 63 = some false := by kernel_rfl
@[simp, go_sem] theorem tzero63 : tzero Try.prog 63 = some [.dead] := by kernel_rfl
@[simp, go_sem] theorem tis63 : (Try.prog.underlying 63).isSome = true := by kernel_rfl
@[simp, go_sem] theorem tsz64 : tsz Try.prog 64 = some 1 := by kernel_rfl
@[simp, go_sem] theorem tby64 : tby Try.prog 64 = some 8 := by kernel_rfl
@[simp, go_sem] theorem tagg64 : tagg Try.prog 64 = some false := by kernel_rfl
@[simp, go_sem] theorem tzero64 : tzero Try.prog 64 = some [.dead] := by kernel_rfl
@[simp, go_sem] theorem tis64 : (Try.prog.underlying 64).isSome = true := by kernel_rfl
@[simp, go_sem] theorem tsz65 : tsz Try.prog 65 = some 1 := by kernel_rfl
@[simp, go_sem] theorem tby65 : tby Try.prog 65 = some 8 := by kernel_rfl
@[simp, go_sem] theorem tagg65 : tagg Try.prog 65 = some false := by kernel_rfl
@[simp, go_sem] theorem tzero65 : tzero Try.prog 65 = some [.dead] := by kernel_rfl
@[simp, go_sem] theorem tis65 : (Try.prog.underlying 65).isSome = true := by kernel_rfl
@[simp, go_sem] theorem tsz66 : tsz Try.prog 66 = some 1 := by kernel_rfl
@[simp, go_sem] theorem tby66 : tby Try.prog 66 = some 24 := by kernel_rfl
@[simp, go_sem] theorem tagg66 : tagg Try.prog 66 = some false := by kernel_rfl
@[simp, go_sem] theorem tzero66 : tzero Try.prog 66 = some [.nil] := by kernel_rfl
@[simp, go_sem] theorem telem66 : telem Try.prog 66 = some 107 := by kernel_rfl
@[simp, go_sem] theorem tis66 : (Try.prog.underlying 66).isSome = true := by kernel_rfl
@[simp, go_sem] theorem tsz67 : tsz Try.prog 67 = some 2 := by kernel_rfl
@[simp, go_sem] theorem tby67 : tby Try.prog 67 = some 48 := by kernel_rfl
@[simp, go_sem] theorem tagg67 : tagg Try.prog 67 = some true := by kernel_rfl
@[simp, go_sem] theorem tzero67 : tzero Try.prog 67 = some [.nil, .nil] := by kernel_rfl
@[simp, go_sem] theorem tis67 : (Try.prog.underlying 67).isSome = true := by kernel_rfl
@[simp, go_sem] theorem tstruct67 : tstruct Try.prog 67 = true := by kernel_rfl
@[simp, go_sem] theorem tfld67f0 : tfld Try.prog 67 0 = some (0, 22) := by kernel_rfl
@[simp, go_sem] theorem tfld67f1 : tfld Try.prog 67 1 = some (1, 66) := by kernel_rfl
@[simp, go_sem] theorem tsz68 : tsz Try.prog 68 = some 2 := by kernel_rfl
@[simp, go_sem] theorem tby68 : tby Try.prog 68 = some 48 := by kernel_rfl
@[simp, go_sem] theorem tagg68 : tagg Try.prog 68 = some true := by kernel_rfl
@[simp, go_sem] theorem tzero68 : tzero Try.prog 68 = some [.nil, .nil] := by kernel_rfl
@[simp, go_sem] theorem tis68 : (Try.prog.underlying 68).isSome = true := by kernel_rfl
@[simp, go_sem] theorem tstruct68 : tstruct Try.prog 68 = true := by kernel_rfl
@[simp, go_sem] theorem tfld68f0 : tfld Try.prog 68 0 = some (0, 22) := by kernel_rfl
@[simp, go_sem] theorem tfld68f1 : tfld Try.prog 68 1 = some (1, 66) := by kernel_rfl
@[simp, go_sem] theorem tsz69 : tsz Try.prog 69 = some 1 := by kernel_rfl
@[simp, go_sem] theorem tby69 : tby Try.prog 69 = some 8 := by kernel_rfl
@[simp, go_sem] theorem tagg69 : tagg Try.prog 69 = some false := by kernel_rfl
@[simp, go_sem] theorem tzero69 : tzero Try.prog 69 = some [.int .u64 0] := by kernel_rfl
@[simp, go_sem] theorem tis69 : (Try.prog.underlying 69).isSome = true := by kernel_rfl
@[simp, go_sem] theorem tint69 : tint Try.prog 69 = some .u64 := by kernel_rfl
@[simp, go_sem] theorem tsz70 : tsz Try.prog 70 = some 2 := by kernel_rfl
@[simp, go_sem] theorem tby70 : tby Try.prog 70 = some 16 := by kernel_rfl
@[simp, go_sem] theorem tagg70 : tagg Try.prog 70 = some true := by kernel_rfl
@[simp, go_sem] theorem tzero70 : tzero Try.prog 70 = some [.int .i64 0, .int .u64 0] := by kernel_rfl
@[simp, go_sem] theorem tis70 : (Try.prog.underlying 70).isSome = true := by kernel_rfl
@[simp, go_sem] theorem tcmp70 : tcmp Try.prog 70 2 = true := by kernel_rfl
@[simp, go_sem] theorem tstruct70 : tstruct Try.prog 70 = true := by kernel_rfl
@[simp, go_sem] theorem tfld70f0 : tfld Try.prog 70 0 = some (0, 3) := by kernel_rfl
@[simp, go_sem] theorem tfld70f1 : tfld Try.prog 70 1 = some (1, 69) := by kernel_rfl
@[simp, go_sem] theorem tsz71 : tsz Try.prog 71 = some 2 := by kernel_rfl
@[simp, go_sem] theorem tby71 : tby Try.prog 71 = some 16 := by kernel_rfl
@[simp, go_sem] theorem tagg71 : tagg Try.prog 71 = some true := by kernel_rfl
@[simp, go_sem] theorem tzero71 : tzero Try.prog 71 = some [.int .i64 0, .int .u64 0] := by kernel_rfl
@[simp, go_sem] theorem tis71 : (Try.prog.underlying 71).isSome = true := by kernel_rfl
@[simp, go_sem] theorem tcmp71 : tcmp Try.prog 71 2 = true := by kernel_rfl
@[simp, go_sem] theorem tstruct71 : tstruct Try.prog 71 = true := by kernel_rfl
@[simp, go_sem] theorem tfld71f0 : tfld Try.prog 71 0 = some (0, 3) := by kernel_rfl
@[simp, go_sem] theorem tfld71f1 : tfld Try.prog 71 1 = some (1, 69) := by kernel_rfl
@[simp, go_sem] theorem tsz72 : tsz Try.prog 72 = some 1 := by kernel_rfl
@[simp, go_sem] theorem tby72 : tby Try.prog 72 = some 8 := by kernel_rfl
@[simp, go_sem] theorem tagg72 : tagg Try.prog 72 = some false := by kernel_rfl
@[simp, go_sem] theorem tzero72 : tzero Try.prog 72 = some [.dead] := by kernel_rfl
@[simp, go_sem] theorem tis72 : (Try.prog.underlying 72).isSome = true := by kernel_rfl
@[simp, go_sem] theorem tsz73 : tsz Try.prog 73 = some 2 := by kernel_rfl
@[simp, go_sem] theorem tby73 : tby Try.prog 73 = some 16 := by kernel_rfl
@[simp, go_sem] theorem tagg73 : tagg Try.prog 73 = some true := by kernel_rfl
@[simp, go_sem] theorem tzero73 : tzero Try.prog 73 = some [.int .i64 0, .int .u64 0] := by kernel_rfl
@[simp, go_sem] theorem tis73 : (Try.prog.underlying 73).isSome = true := by kernel_rfl
@[simp, go_sem] theorem tcmp73 : tcmp Try.prog 73 2 = true := by kernel_rfl
@[simp, go_sem] theorem tstruct73 : tstruct Try.prog 73 = true := by kernel_rfl
@[simp, go_sem] theorem tfld73f0 : tfld Try.prog 73 0 = some (0, 3) := by kernel_rfl
@[simp, go_sem] theorem tfld73f1 : tfld Try.prog 73 1 = some (1, 69) := by kernel_rfl
@[simp, go_sem] theorem tsz74 : tsz Try.prog 74 = some 1 := by kernel_rfl
@[simp, go_sem] theorem tby74 : tby Try.prog 74 = some 8 := by kernel_rfl
@[simp, go_sem] theorem tagg74 : tagg Try.prog 74 = some false := by kernel_rfl
@[simp, go_sem] theorem tzero74 : tzero Try.prog 74 = some [.dead] := by kernel_rfl
@[simp, go_sem] theorem tis74 : (Try.prog.underlying 74).isSome = true := by kernel_rfl
@[simp, go_sem] theorem tsz75 : tsz Try.prog 75 = some 1 := by kernel_rfl
@[simp, go_sem] theorem tby75 : tby Try.prog 75 = some 8 := by kernel_rfl
@[simp, go_sem] theorem tagg75 : tagg Try.prog 75 = some false := by kernel_rfl
@[simp, go_sem] theorem tzero75 : tzero Try.prog 75 = some [.dead] := by kernel_rfl
@[simp, go_sem] theorem tis75 : (Try.prog.underlying 75).isSome = true := by kernel_rfl
@[simp, go_sem] theorem tsz76 : tsz Try.prog 76 = some 1 := by kernel_rfl
@[simp, go_sem] theorem tby76 : tby Try.prog 76 = some 8 := by kernel_rfl
@[simp, go_sem] theorem tagg76 : tagg Try.prog 76 = some false := by kernel_rfl
@[simp, go_sem] theorem tzero76 : tzero Try.prog 76 = some [.dead] := by kernel_rfl
@[simp, go_sem] theorem tis76 : (Try.prog.underlying 76).isSome = true := by kernel_rfl
@[simp, go_sem] theorem tsz77 : tsz Try.prog 77 = some 1 := by kernel_rfl
@[simp, go_sem] theorem tby77 : tby Try.prog 77 = some 8 := by kernel_rfl
@[simp, go_sem] theorem tagg77 : tagg Try.prog 77 = some false := by kernel_rfl
@[simp, go_sem] theorem tzero77 : tzero Try.prog 77 = some [.dead] := by kernel_rfl
@[simp, go_sem] theorem tis77 : (Try.prog.underlying 77).isSome = true := by kernel_rfl
@[simp, go_sem] theorem tsz78 : tsz Try.prog 78 = some 1 := by kernel_rfl
@[simp, go_sem] theorem tby78 : tby Try.prog 78 = some 8 := by kernel_rfl
@[simp, go_sem] theorem tagg78 : tagg Try.prog 78 = some false := by kernel_rfl
@[simp, go_sem] theorem tzero78 : tzero Try.prog 78 = some [.dead] := by kernel_rfl
@[simp, go_sem] theorem tis78 : (Try.prog.underlying 78).isSome = true := by kernel_rfl
@[simp, go_sem] theorem tsz79 : tsz Try.prog 79 = some 1 := by kernel_rfl
@[simp, go_sem] theorem tby79 : tby Try.prog 79 = some 8 := by kernel_rfl
@[simp, go_sem] theorem tagg79 : tagg Try.prog 79 = some false := by kernel_rfl
@[simp, go_sem] theorem tzero79 : tzero Try.prog 79 = some [.dead] := by kernel_rfl
@[simp, go_sem] theorem tis79 : (Try.prog.underlying 79).isSome = true := by kernel_rfl
@[simp, go_sem] theorem tsz80 : tsz Try.prog 80 = some 1 := by kernel_rfl
@[simp, go_sem] theorem tby80 : tby Try.prog 80 = some 8 := by kernel_rfl
@[simp, go_sem] theorem tagg80 : tagg Try.prog 80 = some false := by kernel_rfl
@[simp, go_sem] theorem tzero80 : tzero Try.prog 80 = some [.dead] := by kernel_rfl
@[simp, go_sem] theorem tis80 : (Try.prog.underlying 80).isSome = true := by kernel_rfl
@[simp, go_sem] theorem tsz81 : tsz Try.prog 81 = some 1 := by kernel_rfl
@[simp, go_sem] theorem tby81 : tby Try.prog 81 = some 8 := by kernel_rfl
@[simp, go_sem] theorem tagg81 : tagg Try.prog 81 = some false := by kernel_rfl
@[simp, go_sem] theorem tzero81 : tzero Try.prog 81 = some [.dead] := by kernel_rfl
@[simp, go_sem] theorem tis81 : (Try.prog.underlying 81).isSome = true := by kernel_rfl
@[simp, go_sem] theorem tsz82 : tsz Try.prog 82 = some 1 := by kernel_rfl
@[simp, go_sem] theorem tby82 : tby Try.prog 82 = some 8 := by kernel_rfl
@[simp, go_sem] theorem tagg82 : tagg Try.prog 82 = some false := by kernel_rfl
@[simp, go_sem] theorem tzero82 : tzero Try.prog 82 = some [.dead] := by kernel_rfl
@[simp, go_sem] theorem tis82 : (Try.prog.underlying 82).isSome = true := by kernel_rfl
@[simp, go_sem] theorem tsz83 : tsz Try.prog 83 = some 1 := by kernel_rfl
@[simp, go_sem] theorem tby83 : tby Try.prog 83 = some 8 := by kernel_rfl
@[simp, go_sem] theorem tagg83 : tagg Try.prog 83 = some false := by kernel_rfl
@[simp, go_sem] theorem tzero83 : tzero Try.prog 83 = some [.dead] := by kernel_rfl
@[simp, go_sem] theorem tis83 : (Try.prog.underlying 83).isSome = true := by kernel_rfl
@[simp, go_sem] theorem tsz84 : tsz Try.prog 84 = some 1 := by kernel_rfl
@[simp, go_sem] theorem tby84 : tby Try.prog 84 = some 8 := by kernel_rfl
@[simp, go_sem] theorem tagg84 : tagg Try.prog 84 = some false := by kernel_rfl
@[simp, go_sem] theorem tzero84 : tzero Try.prog 84 = some [.dead] := by kernel_rfl
@[simp, go_sem] theorem tis84 : (Try.prog.underlying 84).isSome = true := by kernel_rfl
@[simp, go_sem] theorem tsz85 : tsz Try.prog 85 = some 1 := by kernel_rfl
@[simp, go_sem] theorem tby85 : tby Try.prog 85 = some 8 := by kernel_rfl
@[simp, go_sem] theorem tagg85 : tagg Try.prog 85 = some false := by kernel_rfl
@[simp, go_sem] theorem tzero85 : tzero Try.prog 85 = some [.int .u64 0] := by kernel_rfl
@[simp, go_sem] theorem tis85 : (Try.prog.underlying 85).isSome = true := by kernel_rfl
@[simp, go_sem] theorem tint85 : tint Try.prog 85 = some .u64 := by kernel_rfl
@[simp, go_sem] theorem tsz86 : tsz Try.prog 86 = some 1 := by kernel_rfl
@[simp, go_sem] theorem tby86 : tby Try.prog 86 = some 8 := by kernel_rfl
@[simp, go_sem] theorem tagg86 : tagg Try.prog 86 = some false := by kernel_rfl
@[simp, go_sem] theorem tzero86 : tzero Try.prog 86 = some [.dead] := by kernel_rfl
@[simp, go_sem] theorem tis86 : (Try.prog.underlying 86).isSome = true := by kernel_rfl
@[simp, go_sem] theorem tsz87 : tsz Try.prog 87 = some 1 := by kernel_rfl
@[simp, go_sem] theorem tby87 : tby Try.prog 87 = some 8 := by kernel_rfl
@[simp, go_sem] theorem tagg87 : tagg Try.prog 87 = some false := by kernel_rfl
@[simp, go_sem] theorem tzero87 : tzero Try.prog 87 = some [.dead] := by kernel_rfl
@[simp, go_sem] theorem tis87 : (Try.prog.underlying 87).isSome = true := by kernel_rfl
@[simp, go_sem] theorem tsz88 : tsz Try.prog 88 = some 1 := by kernel_rfl
@[simp, go_sem] theorem tby88 : tby Try.prog 88 = some 8 := by kernel_rfl
@[simp, go_sem] theorem tagg88 : tagg Try.prog 88 = some false := by kernel_rfl
@[simp, go_sem] theorem tzero88 : tzero Try.prog 88 = some [.dead] := by kernel_rfl
@[simp, go_sem] theorem tis88 : (Try.prog.underlying 88).isSome = true := by kernel_rfl
@[simp, go_sem] theorem tsz89 : tsz Try.prog 89 = some 1 := by kernel_rfl
@[simp, go_sem] theorem tby89 : tby Try.prog 89 = some 8 := by kernel_rfl
@[simp, go_sem] theorem tagg89 : tagg Try.prog 89 = some false := by kernel_rfl
@[simp, go_sem] theorem tzero89 : tzero Try.prog 89 = some [.dead] := by kernel_rfl
@[simp, go_sem] theorem tis89 : (Try.prog.underlying 89).isSome = true := by kernel_rfl
@[simp, go_sem] theorem tsz90 : tsz Try.prog 90 = some 1 := by kernel_rfl
@[simp, go_sem] theorem tby90 : tby Try.prog 90 = some 8 := by kernel_rfl
@[simp, go_sem] theorem tagg90 : tagg Try.prog 90 = some false := by kernel_rfl
@[simp, go_sem] theorem tzero90 : tzero Try.prog 90 = some [.dead] := by kernel_rfl
@[simp, go_sem] theorem tis90 : (Try.prog.underlying 90).isSome = true := by kernel_rfl
@[simp, go_sem] theorem tsz91 : tsz Try.prog 91 = some 1 := by kernel_rfl
@[simp, go_sem] theorem tby91 : tby Try.prog 91 = some 8 := by kernel_rfl
@[simp, go_sem] theorem tagg91 : tagg Try.prog 91 = some false := by kernel_rfl
@[simp, go_sem] theorem tzero91 : tzero Try.prog 91 = some [.dead] := by kernel_rfl
@[simp, go_sem] theorem tis91 : (Try.prog.underlying 91).isSome = true := by kernel_rfl
@[simp, go_sem] theorem tsz92 : tsz Try.prog 92 = some 1 := by kernel_rfl
@[simp, go_sem] theorem tby92 : tby Try.prog 92 = some 8 := by kernel_rfl
@[simp, go_sem] theorem tagg92 : tagg Try.prog 92 = some false := by kernel_rfl
@[simp, go_sem] theorem tzero92 : tzero Try.prog 92 = some [.dead] := by kernel_rfl
@[simp, go_sem] theorem tis92 : (Try.prog.underlying 92).isSome = true := by kernel_rfl
@[simp, go_sem] theorem tsz93 : tsz Try.prog 93 = some 1 := by kernel_rfl
@[simp, go_sem] theorem tby93 : tby Try.prog 93 = some 8 := by kernel_rfl
@[simp, go_sem] theorem tagg93 : tagg Try.prog 93 = some false := by kernel_rfl
@[simp, go_sem] theorem tzero93 : tzero Try.prog 93 = some [.dead] := by kernel_rfl
@[simp, go_sem] theorem tis93 : (Try.prog.underlying 93).isSome = true := by kernel_rfl
@[simp, go_sem] theorem tsz94 : tsz Try.prog 94 = some 1 := by kernel_rfl
@[simp, go_sem] theorem tby94 : tby Try.prog 94 = some 8 := by kernel_rfl
@[simp, go_sem] theorem tagg94 : tagg Try.prog 94 = some false := by kernel_rfl
@[simp, go_sem] theorem tzero94 : tzero Try.prog 94 = some [.int .i64 0] := by kernel_rfl
@[simp, go_sem] theorem tis94 : (Try.prog.underlying 94).isSome = true := by kernel_rfl
@[simp, go_sem] theorem tint94 : tint Try.prog 94 = some .i64 := by kernel_rfl
@[simp, go_sem] theorem tsz96 : tsz Try.prog 96 = some 1 := by kernel_rfl
@[simp, go_sem] theorem tby96 : tby Try.prog 96 = some 8 := by kernel_rfl
@[simp, go_sem] theorem tagg96 : tagg Try.prog 96 = some false := by kernel_rfl
@[simp, go_sem] theorem tzero96 : tzero Try.prog 96 = some [.dead] := by kernel_rfl
@[simp, go_sem] theorem tis96 : (Try.prog.underlying 96).isSome = true := by kernel_rfl
@[simp, go_sem] theorem tsz97 : tsz Try.prog 97 = some 1 := by kernel_rfl
@[simp, go_sem] theorem tby97 : tby Try.prog 97 = some 8 := by kernel_rfl
@[simp, go_sem] theorem tagg97 : tagg Try.prog 97 = some false := by kernel_rfl
@[simp, go_sem] theorem tzero97 : tzero Try.prog 97 = some [.dead] := by kernel_rfl
@[simp, go_sem] theorem tis97 : (Try.prog.underlying 97).isSome = true := by kernel_rfl
@[simp, go_sem] theorem tsz98 : tsz Try.prog 98 = some 1 := by kernel_rfl
@[simp, go_sem] theorem tby98 : tby Try.prog 98 = some 8 := by kernel_rfl
@[simp, go_sem] theorem tagg98 : tagg Try.prog 98 = some false := by kernel_rfl
@[simp, go_sem] theorem tzero98 : tzero Try.prog 98 = some [.dead] := by kernel_rfl
@[simp, go_sem] theorem tis98 : (Try.prog.underlying 98).isSome = true := by kernel_rfl
@[simp, go_sem] theorem tsz99 : tsz Try.prog 99 = some 1 := by kernel_rfl
@[simp, go_sem] theorem tby99 : tby Try.prog 99 = some 8 := by kernel_rfl
@[simp, go_sem] theorem tagg99 : tagg Try.prog 99 = some false := by kernel_rfl
@[simp, go_sem] theorem tzero99 : tzero Try.prog 99 = some [.dead] := by kernel_rfl
@[simp, go_sem] theorem tis99 : (Try.prog.underlying 99).isSome = true := by kernel_rfl
@[simp, go_sem] theorem tsz101 : tsz Try.prog 101 = some 1 := by kernel_rfl
@[simp, go_sem] theorem tby101 : tby Try.prog 101 = some 8 := by kernel_rfl
@[simp, go_sem] theorem tagg101 : tagg Try.prog 101 = some false := by kernel_rfl
@[simp, go_sem] theorem tzero101 : tzero Try.prog 101 = some [.dead] := by kernel_rfl
@[simp, go_sem] theorem tis101 : (Try.prog.underlying 101).isSome = true := by kernel_rfl
@[simp, go_sem] theorem tsz102 : tsz Try.prog 102 = some 1 := by kernel_rfl
@[simp, go_sem] theorem tby102 : tby Try.prog 102 = some 8 := by kernel_rfl
@[simp, go_sem] theorem tagg102 : tagg Try.prog 102 = some false := by kernel_rfl
@[simp, go_sem] theorem tzero102 : tzero Try.prog 102 = some [.dead] := by kernel_rfl
@[simp, go_sem] theorem tis102 : (Try.prog.underlying 102).isSome = true := by kernel_rfl
@[simp, go_sem] theorem tsz103 : tsz Try.prog 103 = some 1 := by kernel_rfl
@[simp, go_sem] theorem tby103 : tby Try.prog 103 = some 4 := by kernel_rfl
@[simp, go_sem] theorem tagg103 : tagg Try.prog 103 = some false := by kernel_rfl
@[simp, go_sem] theorem tzero103 : tzero Try.prog 103 = some [.int .u32 0] := by kernel_rfl
@[simp, go_sem] theorem tis103 : (Try.prog.underlying 103).isSome = true := by kernel_rfl
@[simp, go_sem] theorem tint103 : tint Try.prog 103 = some .u32 := by kernel_rfl
@[simp, go_sem] theorem tsz104 : tsz Try.prog 104 = some 1 := by kernel_rfl
@[simp, go_sem] theorem tby104 : tby Try.prog 104 = some 8 := by kernel_rfl
@[simp, go_sem] theorem tagg104 : tagg Try.prog 104 = some false := by kernel_rfl
@[simp, go_sem] theorem tzero104 : tzero Try.prog 104 = some [.dead] := by kernel_rfl
@[simp, go_sem] theorem tis104 : (Try.prog.underlying 104).isSome = true := by kernel_rfl
@[simp, go_sem] theorem tsz105 : tsz Try.prog 105 = some 1 := by kernel_rfl
@[simp, go_sem] theorem tby105 : tby Try.prog 105 = some 8 := by kernel_rfl
@[simp, go_sem] theorem tagg105 : tagg Try.prog 105 = some false := by kernel_rfl
@[simp, go_sem] theorem tzero105 : tzero Try.prog 105 = some [.dead] := by kernel_rfl
@[simp, go_sem] theorem tis105 : (Try.prog.underlying 105).isSome = true := by kernel_rfl
@[simp, go_sem] theorem tsz106 : tsz Try.prog 106 = some 2 := by kernel_rfl
@[simp, go_sem] theorem tby106 : tby Try.prog 106 = some 32 := by kernel_rfl
@[simp, go_sem] theorem tagg106 : tagg Try.prog 106 = some true := by kernel_rfl
@[simp, go_sem] theorem tzero106 : tzero Try.prog 106 = some [.int .i64 0, .nil] := by kernel_rfl
@[simp, go_sem] theorem tis106 : (Try.prog.underlying 106).isSome = true := by kernel_rfl
@[simp, go_sem] theorem tstruct106 : tstruct Try.prog 106 = true := by kernel_rfl
@[simp, go_sem] theorem tfld106f0 : tfld Try.prog 106 0 = some (0, 3) := by kernel_rfl
@[simp, go_sem] theorem tfld106f1 : tfld Try.prog 106 1 = some (1, 22) := by kernel_rfl
@[simp, go_sem] theorem tsz107 : tsz Try.prog 107 = some 2 := by kernel_rfl
@[simp, go_sem] theorem tby107 : tby Try.prog 107 = some 32 := by kernel_rfl
@[simp, go_sem] theorem tagg107 : tagg Try.prog 107 = some true := by kernel_rfl
@[simp, go_sem] theorem tzero107 : tzero Try.prog 107 = some [.int .i64 0, .nil] := by kernel_rfl
@[simp, go_sem] theorem tis107 : (Try.prog.underlying 107).isSome = true := by kernel_rfl
@[simp, go_sem] theorem tstruct107 : tstruct Try.prog 107 = true := by kernel_rfl
@[simp, go_sem] theorem tfld107f0 : tfld Try.prog 107 0 = some (0, 3) := by kernel_rfl
@[simp, go_sem] theorem tfld107f1 : tfld Try.prog 107 1 = some (1, 22) := by kernel_rfl
@[simp, go_sem] theorem tsz108 : tsz Try.prog 108 = some 1 := by kernel_rfl
@[simp, go_sem] theorem tby108 : tby Try.prog 108 = some 8 := by kernel_rfl
@[simp, go_sem] theorem tagg108 : tagg Try.prog 108 = some false := by kernel_rfl
@[simp, go_sem] theorem tzero108 : tzero Try.prog 108 = some [.dead] := by kernel_rfl
@[simp, go_sem] theorem tis108 : (Try.prog.underlying 108).isSome = true := by kernel_rfl
@[simp, go_sem] theorem tsz109 : tsz Try.prog 109 = some 1 := by kernel_rfl
@[simp, go_sem] theorem tby109 : tby Try.prog 109 = some 8 := by kernel_rfl
@[simp, go_sem] theorem tagg109 : tagg Try.prog 109 = some false := by kernel_rfl
@[simp, go_sem] theorem tzero109 : tzero Try.prog 109 = some [.dead] := by kernel_rfl
@[simp, go_sem] theorem tis109 : (Try.prog.underlying 109).isSome = true := by kernel_rfl
@[simp, go_sem] theorem tsz111 : tsz Try.prog 111 = some 1 := by kernel_rfl
@[simp, go_sem] theorem tby111 : tby Try.prog 111 = some 8 := by kernel_rfl
@[simp, go_sem] theorem tagg111 : tagg Try.prog 111 = some false := by kernel_rfl
@[simp, go_sem] theorem tzero111 : tzero Try.prog 111 = some [.dead] := by kernel_rfl
@[simp, go_sem] theorem tis111 : (Try.prog.underlying 111).isSome = true := by kernel_rfl
@[simp, go_sem] theorem tsz112 : tsz Try.prog 112 = some 1 := by kernel_rfl
@[simp, go_sem] theorem tby112 : tby Try.prog 112 = some 8 := by kernel_rfl
@[simp, go_sem] theorem tagg112 : tagg Try.prog 112 = some false := by kernel_rfl
@[simp, go_sem] theorem tzero112 : tzero Try.prog 112 = some [.dead] := by kernel_rfl
@[simp, go_sem] theorem tis112 : (Try.prog.underlying 112).isSome = true := by kernel_rfl
@[simp, go_sem] theorem tsz113 : tsz Try.prog 113 = some 1 := by kernel_rfl
@[simp, go_sem] theorem tby113 : tby Try.prog 113 = some 8 := by kernel_rfl
@[simp, go_sem] theorem tagg113 : tagg Try.prog 113 = some false := by kernel_rfl
@[simp, go_sem] theorem tzero113 : tzero Try.prog 113 = some [.dead] := by kernel_rfl
@[simp, go_sem] theorem tis113 : (Try.prog.underlying 113).isSome = true := by kernel_rfl
@[simp, go_sem] theorem tsz114 : tsz Try.prog 114 = some 1 := by kernel_rfl
@[simp, go_sem] theorem tby114 : tby Try.prog 114 = some 8 := by kernel_rfl
@[simp, go_sem] theorem tagg114 : tagg Try.prog 114 = some false := by kernel_rfl
@[simp, go_sem] theorem tzero114 : tzero Try.prog 114 = some [.dead] := by kernel_rfl
@[simp, go_sem] theorem tis114 : (Try.prog.underlying 114).isSome = true := by kernel_rfl
@[simp, go_sem] theorem tsz115 : tsz Try.prog 115 = some 1 := by kernel_rfl
@[simp, go_sem] theorem tby115 : tby Try.prog 115 = some 8 := by kernel_rfl
@[simp, go_sem] theorem tagg115 : tagg Try.prog 115 = some false := by kernel_rfl
@[simp, go_sem] theorem tzero115 : tzero Try.prog 115 = some [.int .u64 0] := by kernel_rfl
@[simp, go_sem] theorem tis115 : (Try.prog.underlying 115).isSome = true := by kernel_rfl
@[simp, go_sem] theorem tint115 : tint Try.prog 115 = some .u64 := by kernel_rfl
@[simp, go_sem] theorem tsz116 : tsz Try.prog 116 = some 1 := by kernel_rfl
@[simp, go_sem] theorem tby116 : tby Try.prog 116 = some 8 := by kernel_rfl
@[simp, go_sem] theorem tagg116 : tagg Try.prog 116 = some false := by kernel_rfl
@[simp, go_sem] theorem tzero116 : tzero Try.prog 116 = some [.dead] := by kernel_rfl
@[simp, go_sem] theorem tis116 : (Try.prog.underlying 116).isSome = true := by kernel_rfl
@[simp, go_sem] theorem tsz117 : tsz Try.prog 117 = some 1 := by kernel_rfl
@[simp, go_sem] theorem tby117 : tby Try.prog 117 = some 8 := by kernel_rfl
@[simp, go_sem] theorem tagg117 : tagg Try.prog 117 = some false := by kernel_rfl
@[simp, go_sem] theorem tzero117 : tzero Try.prog 117 = some [.dead] := by kernel_rfl
@[simp, go_sem] theorem tis117 : (Try.prog.underlying 117).isSome = true := by kernel_rfl
@[simp, go_sem] theorem tsz118 : tsz Try.prog 118 = some 1 := by kernel_rfl
@[simp, go_sem] theorem tby118 : tby Try.prog 118 = some 8 := by kernel_rfl
@[simp, go_sem] theorem tagg118 : tagg Try.prog 118 = some false := by kernel_rfl
@[simp, go_sem] theorem tzero118 : tzero Try.prog 118 = some [.dead] := by kernel_rfl
@[simp, go_sem] theorem tis118 : (Try.prog.underlying 118).isSome = true := by kernel_rfl
@[simp, go_sem] theorem tsz119 : tsz Try.prog 119 = some 1 := by kernel_rfl
@[simp, go_sem] theorem tby119 : tby Try.prog 119 = some 8 := by kernel_rfl
@[simp, go_sem] theorem tagg119 : tagg Try.prog 119 = some false := by kernel_rfl
@[simp, go_sem] theorem tzero119 : tzero Try.prog 119 = some [.nilp] := by kernel_rfl
@[simp, go_sem] theorem tis119 : (Try.prog.underlying 119).isSome = true := by kernel_rfl
@[simp, go_sem] theorem tsz120 : tsz Try.prog 120 = some 1 := by kernel_rfl
@[simp, go_sem] theorem tby120 : tby Try.prog 120 = some 8 := by kernel_rfl
@[simp, go_sem] theorem tagg120 : tagg Try.prog 120 = some false := by kernel_rfl
@[simp, go_sem] theorem tzero120 : tzero Try.prog 120 = some [.dead] := by kernel_rfl
@[simp, go_sem] theorem tis120 : (Try.prog.underlying 120).isSome = true := by kernel_rfl
@[simp, go_sem] theorem tsz121 : tsz Try.prog 121 = some 1 := by kernel_rfl
@[simp, go_sem] theorem tby121 : tby Try.prog 121 = some 8 := by kernel_rfl
@[simp, go_sem] theorem tagg121 : tagg Try.prog 121 = some false := by kernel_rfl
@[simp, go_sem] theorem tzero121 : tzero Try.prog 121 = some [.dead] := by kernel_rfl
@[simp, go_sem] theorem tis121 : (Try.prog.underlying 121).isSome = true := by kernel_rfl
@[simp, go_sem] theorem tsz122 : tsz Try.prog 122 = some 1 := by kernel_rfl
@[simp, go_sem] theorem tby122 : tby Try.prog 122 = some 8 := by kernel_rfl
@[simp, go_sem] theorem tagg122 : tagg Try.prog 122 = some false := by kernel_rfl
@[simp, go_sem] theorem tzero122 : tzero Try.prog 122 = some [.nilp] := by kernel_rfl
@[simp, go_sem] theorem tis122 : (Try.prog.underlying 122).isSome = true := by kernel_rfl
@[simp, go_sem] theorem tsz124 : tsz Try.prog 124 = some 1 := by kernel_rfl
@[simp, go_sem] theorem tby124 : tby Try.prog 124 = some 8 := by kernel_rfl
@[simp, go_sem] theorem tagg124 : tagg Try.prog 124 = some false := by kernel_rfl
@[simp, go_sem] theorem tzero124 : tzero Try.prog 124 = some [.dead] := by kernel_rfl
@[simp, go_sem] theorem tis124 : (Try.prog.underlying 124).isSome = true := by kernel_rfl
@[simp, go_sem] theorem tsz125 : tsz Try.prog 125 = some 1 := by kernel_rfl
@[simp, go_sem] theorem tby125 : tby Try.prog 125 = some 8 := by kernel_rfl
@[simp, go_sem] theorem tagg125 : tagg Try.prog 125 = some false := by kernel_rfl
@[simp, go_sem] theorem tzero125 : tzero Try.prog 125 = some [.dead] := by kernel_rfl
@[simp, go_sem] theorem tis125 : (Try.prog.underlying 125).isSome = true := by kernel_rfl
@[simp, go_sem] theorem tsz126 : tsz Try.prog 126 = some 1 := by kernel_rfl
@[simp, go_sem] theorem tby126 : tby Try.prog 126 = some 8 := by kernel_rfl
@[simp, go_sem] theorem tagg126 : tagg Try.prog 126 = some false := by kernel_rfl
@[simp, go_sem] theorem tzero126 : tzero Try.prog 126 = some [.dead] := by kernel_rfl
@[simp, go_sem] theorem tis126 : (Try.prog.underlying 126).isSome = true := by kernel_rfl
@[simp, go_sem] theorem tsz127 : tsz Try.prog 127 = some 1 := by kernel_rfl
@[simp, go_sem] theorem tby127 : tby Try.prog 127 = some 8 := by kernel_rfl
@[simp, go_sem] theorem tagg127 : tagg Try.prog 127 = some false := by kernel_rfl
@[simp, go_sem] theorem tzero127 : tzero Try.prog 127 = some [.dead] := by kernel_rfl
@[simp, go_sem] theorem tis127 : (Try.prog.underlying 127).isSome = true := by kernel_rfl
@[simp, go_sem] theorem tsz128 : tsz Try.prog 128 = some 4 := by kernel_rfl
@[simp, go_sem] theorem tby128 : tby Try.prog 128 = some 40 := by kernel_rfl
@[simp, go_sem] theorem tagg128 : tagg Try.prog 128 = some true := by kernel_rfl
@[simp, go_sem] theorem tis128 : (Try.prog.underlying 128).isSome = true := by kernel_rfl
@[simp, go_sem] theorem tstruct128 : tstruct Try.prog 128 = true := by kernel_rfl
@[simp, go_sem] theorem tfld128f0 : tfld Try.prog 128 0 = some (0, 17) := by kernel_rfl
@[simp, go_sem] theorem tfld128f1 : tfld Try.prog 128 1 = some (1, 17) := by kernel_rfl
@[simp, go_sem] theorem tfld128f2 : tfld Try.prog 128 2 = some (2, 17) := by kernel_rfl
@[simp, go_sem] theorem tfld128f3 : tfld Try.prog 128 3 = some (3, 9) := by kernel_rfl
@[simp, go_sem] theorem tsz129 : tsz Try.prog 129 = some 4 := by kernel_rfl
@[simp, go_sem] theorem tby129 : tby Try.prog 129 = some 40 := by kernel_rfl
@[simp, go_sem] theorem tagg129 : tagg Try.prog 129 = some true := by kernel_rfl
@[simp, go_sem] theorem tis129 : (Try.prog.underlying 129).isSome = true := by kernel_rfl
@[simp, go_sem] theorem tstruct129 : tstruct Try.prog 129 = true := by kernel_rfl
@[simp, go_sem] theorem tfld129f0 : tfld Try.prog 129 0 = some (0, 17) := by kernel_rfl
@[simp, go_sem] theorem tfld129f1 : tfld Try.prog 129 1 = some (1, 17) := by kernel_rfl
@[simp, go_sem] theorem tfld129f2 : tfld Try.prog 129 2 = some (2, 17) := by kernel_rfl
@[simp, go_sem] theorem tfld129f3 : tfld Try.prog 129 3 = some (3, 9) := by kernel_rfl
@[simp, go_sem] theorem tsz131 : tsz Try.prog 131 = some 0 := by kernel_rfl
@[simp, go_sem] theorem tby131 : tby Try.prog 131 = some 0 := by kernel_rfl
@[simp, go_sem] theorem tagg131 : tagg Try.prog 131 = some true := by kernel_rfl
@[simp, go_sem] theorem tzero131 : tzero Try.prog 131 = some [] := by kernel_rfl
@[simp, go_sem] theorem tis131 : (Try.prog.underlying 131).isSome = true := by kernel_rfl
@[simp, go_sem] theorem tstruct131 : tstruct Try.prog 131 = true := by kernel_rfl
@[simp, go_sem] theorem tfld131f0 : tfld Try.prog 131 0 = some (0, 130) := by kernel_rfl
@[simp, go_sem] theorem tsz132 : tsz Try.prog 132 = some 0 := by kernel_rfl
@[simp, go_sem] theorem tby132 : tby Try.prog 132 = some 0 := by kernel_rfl
@[simp, go_sem] theorem tagg132 : tagg Try.prog 132 = some true := by kernel_rfl
@[simp, go_sem] theorem tzero132 : tzero Try.prog 132 = some [] := by kernel_rfl
@[simp, go_sem] theorem tis132 : (Try.prog.underlying 132).isSome = true := by kernel_rfl
@[simp, go_sem] theorem tstruct132 : tstruct Try.prog 132 = true := by kernel_rfl
@[simp, go_sem] theorem tfld132f0 : tfld Try.prog 132 0 = some (0, 130) := by kernel_rfl
@[simp, go_sem] theorem tsz133 : tsz Try.prog 133 = some 1 := by kernel_rfl
@[simp, go_sem] theorem tby133 : tby Try.prog 133 = some 8 := by kernel_rfl
@[simp, go_sem] theorem tagg133 : tagg Try.prog 133 = some false := by kernel_rfl
@[simp, go_sem] theorem tzero133 : tzero Try.prog 133 = some [.dead] := by kernel_rfl
@[simp, go_sem] theorem tis133 : (Try.prog.underlying 133).isSome = true := by kernel_rfl
@[simp, go_sem] theorem tsz134 : tsz Try.prog 134 = some 1 := by kernel_rfl
@[simp, go_sem] theorem tby134 : tby Try.prog 134 = some 1 := by kernel_rfl
@[simp, go_sem] theorem tagg134 : tagg Try.prog 134 = some false := by kernel_rfl
@[simp, go_sem] theorem tzero134 : tzero Try.prog 134 = some [.int .u8 0] := by kernel_rfl
@[simp, go_sem] theorem tis134 : (Try.prog.underlying 134).isSome = true := by kernel_rfl
@[simp, go_sem] theorem tint134 : tint Try.prog 134 = some .u8 := by kernel_rfl
@[simp, go_sem] theorem tsz135 : tsz Try.prog 135 = some 1 := by kernel_rfl
@[simp, go_sem] theorem tby135 : tby Try.prog 135 = some 1 := by kernel_rfl
@[simp, go_sem] theorem tagg135 : tagg Try.prog 135 = some false := by kernel_rfl
@[simp, go_sem] theorem tzero135 : tzero Try.prog 135 = some [.int .u8 0] := by kernel_rfl
@[simp, go_sem] theorem tis135 : (Try.prog.underlying 135).isSome = true := by kernel_rfl
@[simp, go_sem] theorem tint135 : tint Try.prog 135 = some .u8 := by kernel_rfl
@[simp, go_sem] theorem tsz136 : tsz Try.prog 136 = some 1 := by kernel_rfl
@[simp, go_sem] theorem tby136 : tby Try.prog 136 = some 8 := by kernel_rfl
@[simp, go_sem] theorem tagg136 : tagg Try.prog 136 = some false := by kernel_rfl
@[simp, go_sem] theorem tzero136 : tzero Try.prog 136 = some [.dead] := by kernel_rfl
@[simp, go_sem] theorem tis136 : (Try.prog.underlying 136).isSome = true := by kernel_rfl
@[simp, go_sem] theorem tsz137 : tsz Try.prog 137 = some 1 := by kernel_rfl
@[simp, go_sem] theorem tby137 : tby Try.prog 137 = some 8 := by kernel_rfl
@[simp, go_sem] theorem tagg137 : tagg Try.prog 137 = some false := by kernel_rfl
@[simp, go_sem] theorem tzero137 : tzero Try.prog 137 = some [.nilp] := by kernel_rfl
@[simp, go_sem] theorem tis137 : (Try.prog.underlying 137).isSome = true := by kernel_rfl
@[simp, go_sem] theorem tsz138 : tsz Try.prog 138 = some 1 := by kernel_rfl
@[simp, go_sem] theorem tby138 : tby Try.prog 138 = some 4 := by kernel_rfl
@[simp, go_sem] theorem tagg138 : tagg Try.prog 138 = some false := by kernel_rfl
@[simp, go_sem] theorem tzero138 : tzero Try.prog 138 = some [.int .i32 0] := by kernel_rfl
@[simp, go_sem] theorem tis138 : (Try.prog.underlying 138).isSome = true := by kernel_rfl
@[simp, go_sem] theorem tint138 : tint Try.prog 138 = some .i32 := by kernel_rfl
@[simp, go_sem] theorem tsz139 : tsz Try.prog 139 = some 1 := by kernel_rfl
@[simp, go_sem] theorem tby139 : tby Try.prog 139 = some 4 := by kernel_rfl
@[simp, go_sem] theorem tagg139 : tagg Try.prog 139 = some false := by kernel_rfl
@[simp, go_sem] theorem tzero139 : tzero Try.prog 139 = some [.int .i32 0] := by kernel_rfl
@[simp, go_sem] theorem tis139 : (Try.prog.underlying 139).isSome = true := by kernel_rfl
@[simp, go_sem] theorem tint139 : tint Try.prog 139 = some .i32 := by kernel_rfl
@[simp, go_sem] theorem tsz140 : tsz Try.prog 140 = some 11 := by kernel_rfl
@[simp, go_sem] theorem tby140 : tby Try.prog 140 = some 48 := by kernel_rfl
@[simp, go_sem] theorem tagg140 : tagg Try.prog 140 = some true := by kernel_rfl
@[simp, go_sem] theorem tis140 : (Try.prog.underlying 140).isSome = true := by kernel_rfl
@[simp, go_sem] theorem tstruct140 : tstruct Try.prog 140 = true := by kernel_rfl
@[simp, go_sem] theorem tfld140f0 : tfld Try.prog 140 0 = some (0, 12) := by kernel_rfl
@[simp, go_sem] theorem tfld140f1 : tfld Try.prog 140 1 = some (1, 12) := by kernel_rfl
@[simp, go_sem] theorem tfld140f2 : tfld Try.prog 140 2 = some (2, 103) := by kernel_rfl
@[simp, go_sem] theorem tfld140f3 : tfld Try.prog 140 3 = some (3, 134) := by kernel_rfl
@[simp, go_sem] theorem tfld140f4 : tfld Try.prog 140 4 = some (4, 5) := by kernel_rfl
@[simp, go_sem] theorem tfld140f5 : tfld Try.prog 140 5 = some (5, 5) := by kernel_rfl
@[simp, go_sem] theorem tfld140f6 : tfld Try.prog 140 6 = some (6, 135) := by kernel_rfl
@[simp, go_sem] theorem tfld140f7 : tfld Try.prog 140 7 = some (7, 136) := by kernel_rfl
@[simp, go_sem] theorem tfld140f8 : tfld Try.prog 140 8 = some (8, 137) := by kernel_rfl
@[simp, go_sem] theorem tfld140f9 : tfld Try.prog 140 9 = some (9, 138) := by kernel_rfl
@[simp, go_sem] theorem tfld140f10 : tfld Try.prog 140 10 = some (10, 139) := by kernel_rfl
@[simp, go_sem] theorem tsz141 : tsz Try.prog 141 = some 11 := by kernel_rfl
@[simp, go_sem] theorem tby141 : tby Try.prog 141 = some 48 := by kernel_rfl
@[simp, go_sem] theorem tagg141 : tagg Try.prog 141 = some true := by kernel_rfl
@[simp, go_sem] theorem tis141 : (Try.prog.underlying 141).isSome = true := by kernel_rfl
@[simp, go_sem] theorem tstruct141 : tstruct Try.prog 141 = true := by kernel_rfl
@[simp, go_sem] theorem tfld141f0 : tfld Try.prog 141 0 = some (0, 12) := by kernel_rfl
@[simp, go_sem] theorem tfld141f1 : tfld Try.prog 141 1 = some (1, 12) := by kernel_rfl
@[simp, go_sem] theorem tfld141f2 : tfld Try.prog 141 2 = some (2, 103) := by kernel_rfl
@[simp, go_sem] theorem tfld141f3 : tfld Try.prog 141 3 = some (3, 134) := by kernel_rfl
@[simp, go_sem] theorem tfld141f4 : tfld Try.prog 141 4 = some (4, 5) := by kernel_rfl
@[simp, go_sem] theorem tfld141f5 : tfld Try.prog 141 5 = some (5, 5) := by kernel_rfl
@[simp, go_sem] theorem tfld141f6 : tfld Try.prog 141 6 = some (6, 135) := by kernel_rfl
@[simp, go_sem] theorem tfld141f7 : tfld Try.prog 141 7 = some (7, 136) := by kernel_rfl
@[simp, go_sem] theorem tfld141f8 : tfld Try.prog 141 8 = some (8, 137) := by kernel_rfl
@[simp, go_sem] theorem tfld141f9 : tfld Try.prog 141 9 = some (9, 138) := by kernel_rfl
@[simp, go_sem] theorem tfld141f10 : tfld Try.prog 141 10 = some (10, 139) := by kernel_rfl
end Go.Proofs.Yteegphdelekdaaa
