/- Facts on the types of the translation, each a closed equation; written by wip/gen/gen_types.py. -/
import Derived.Test.YtmpbbjdkpdakeaaProg
import Derived.Test.YtmpbbjdkpdakeaaAbs2
import Derived.KernelRfl
namespace Go.Proofs.Ytmpbbjdkpdakeaa
open Go.Abs
@[simp, go_sem] theorem tsz1 : tsz Try.prog 1 = some 1 := by kernel_rfl
@[simp, go_sem] theorem tby1 : tby Try.prog 1 = some 8 := by kernel_rfl
@[simp, go_sem] theorem tagg1 : tagg Try.prog 1 = some false := by kernel_rfl
@[simp, go_sem] theorem tzero1 : tzero Try.prog 1 = some [.dead] := by kernel_rfl
@[simp, go_sem] theorem tis1 : (Try.prog.underlying 1).isSome = true := by kernel_rfl
@[simp, go_sem] theorem tsz2 : tsz Try.prog 2 = some 1 := by kernel_rfl
@[simp, go_sem] theorem tby2 : tby Try.prog 2 = some 8 := by kernel_rfl
@[simp, go_sem] theorem tagg2 : tagg Try.prog 2 = some false := by kernel_rfl
@[simp, go_sem] theorem tzero2 : tzero Try.prog 2 = some [.int .i64 0] := by kernel_rfl
@[simp, go_sem] theorem tis2 : (Try.prog.underlying 2).isSome = true := by kernel_rfl
@[simp, go_sem] theorem tint2 : tint Try.prog 2 = some .i64 := by kernel_rfl
@[simp, go_sem] theorem tsz3 : tsz Try.prog 3 = some 1 := by kernel_rfl
@[simp, go_sem] theorem tby3 : tby Try.prog 3 = some 8 := by kernel_rfl
@[simp, go_sem] theorem tagg3 : tagg Try.prog 3 = some false := by kernel_rfl
@[simp, go_sem] theorem tzero3 : tzero Try.prog 3 = some [.int .i64 0] := by kernel_rfl
@[simp, go_sem] theorem tis3 : (Try.prog.underlying 3).isSome = true := by kernel_rfl
@[simp, go_sem] theorem tint3 : tint Try.prog 3 = some .i64 := by kernel_rfl
@[simp, go_sem] theorem tsz4 : tsz Try.prog 4 = some 1 := by kernel_rfl
@[simp, go_sem] theorem tby4 : tby Try.prog 4 = some 1 := by kernel_rfl
@[simp, go_sem] theorem tagg4 : tagg Try.prog 4 = some false := by kernel_rfl
@[simp, go_sem] theorem tzero4 : tzero Try.prog 4 = some [.bool false] := by kernel_rfl
@[simp, go_sem] theorem tis4 : (Try.prog.underlying 4).isSome = true := by kernel_rfl
@[simp, go_sem] theorem tun4 : Try.prog.underlying 4 = some .bool := by kernel_rfl
@[simp, go_sem] theorem tsz5 : tsz Try.prog 5 = some 1 := by kernel_rfl
@[simp, go_sem] theorem tby5 : tby Try.prog 5 = some 1 := by kernel_rfl
@[simp, go_sem] theorem tagg5 : tagg Try.prog 5 = some false := by kernel_rfl
@[simp, go_sem] theorem tzero5 : tzero Try.prog 5 = some [.int .u8 0] := by kernel_rfl
@[simp, go_sem] theorem tis5 : (Try.prog.underlying 5).isSome = true := by kernel_rfl
@[simp, go_sem] theorem tint5 : tint Try.prog 5 = some .u8 := by kernel_rfl
@[simp, go_sem] theorem tsz6 : tsz Try.prog 6 = some 1 := by kernel_rfl
@[simp, go_sem] theorem tby6 : tby Try.prog 6 = some 1 := by kernel_rfl
@[simp, go_sem] theorem tagg6 : tagg Try.prog 6 = some false := by kernel_rfl
@[simp, go_sem] theorem tzero6 : tzero Try.prog 6 = some [.int .u8 0] := by kernel_rfl
@[simp, go_sem] theorem tis6 : (Try.prog.underlying 6).isSome = true := by kernel_rfl
@[simp, go_sem] theorem tint6 : tint Try.prog 6 = some .u8 := by kernel_rfl
@[simp, go_sem] theorem tsz7 : tsz Try.prog 7 = some 4 := by kernel_rfl
@[simp, go_sem] theorem tby7 : tby Try.prog 7 = some 24 := by kernel_rfl
@[simp, go_sem] theorem tagg7 : tagg Try.prog 7 = some true := by kernel_rfl
@[simp, go_sem] theorem tzero7 : tzero Try.prog 7 = some [.int .i64 0, .int .i64 0, .bool false, .int .u8 0] := by kernel_rfl
@[simp, go_sem] theorem tis7 : (Try.prog.underlying 7).isSome = true := by kernel_rfl
@[simp, go_sem] theorem tstruct7 : tstruct Try.prog 7 = true := by kernel_rfl
@[simp, go_sem] theorem tfld7f0 : tfld Try.prog 7 0 = some (0, 2) := by kernel_rfl
@[simp, go_sem] theorem tfld7f1 : tfld Try.prog 7 1 = some (1, 3) := by kernel_rfl
@[simp, go_sem] theorem tfld7f2 : tfld Try.prog 7 2 = some (2, 4) := by kernel_rfl
@[simp, go_sem] theorem tfld7f3 : tfld Try.prog 7 3 = some (3, 6) := by kernel_rfl
@[simp, go_sem] theorem tsz8 : tsz Try.prog 8 = some 4 := by kernel_rfl
@[simp, go_sem] theorem tby8 : tby Try.prog 8 = some 24 := by kernel_rfl
@[simp, go_sem] theorem tagg8 : tagg Try.prog 8 = some true := by kernel_rfl
@[simp, go_sem] theorem tzero8 : tzero Try.prog 8 = some [.int .i64 0, .int .i64 0, .bool false, .int .u8 0] := by kernel_rfl
@[simp, go_sem] theorem tis8 : (Try.prog.underlying 8).isSome = true := by kernel_rfl
@[simp, go_sem] theorem tstruct8 : tstruct Try.prog 8 = true := by kernel_rfl
@[simp, go_sem] theorem tfld8f0 : tfld Try.prog 8 0 = some (0, 2) := by kernel_rfl
@[simp, go_sem] theorem tfld8f1 : tfld Try.prog 8 1 = some (1, 3) := by kernel_rfl
@[simp, go_sem] theorem tfld8f2 : tfld Try.prog 8 2 = some (2, 4) := by kernel_rfl
@[simp, go_sem] theorem tfld8f3 : tfld Try.prog 8 3 = some (3, 6) := by kernel_rfl
@[simp, go_sem] theorem tsz9 : tsz Try.prog 9 = some 1 := by kernel_rfl
@[simp, go_sem] theorem tby9 : tby Try.prog 9 = some 16 := by kernel_rfl
@[simp, go_sem] theorem tagg9 : tagg Try.prog 9 = some false := by kernel_rfl
@[simp, go_sem] theorem tzero9 : tzero Try.prog 9 = some [.str ⟨#[]⟩] := by kernel_rfl
@[simp, go_sem] theorem tis9 : (Try.prog.underlying 9).isSome = true := by kernel_rfl
@[simp, go_sem] theorem tun9 : Try.prog.underlying 9 = some .string := by kernel_rfl
@[simp, go_sem] theorem tsz10 : tsz Try.prog 10 = some 1 := by kernel_rfl
@[simp, go_sem] theorem tby10 : tby Try.prog 10 = some 16 := by kernel_rfl
@[simp, go_sem] theorem tagg10 : tagg Try.prog 10 = some false := by kernel_rfl
@[simp, go_sem] theorem tzero10 : tzero Try.prog 10 = some [.str ⟨#[]⟩] := by kernel_rfl
@[simp, go_sem] theorem tis10 : (Try.prog.underlying 10).isSome = true := by kernel_rfl
@[simp, go_sem] theorem tun10 : Try.prog.underlying 10 = some .string := by kernel_rfl
@[simp, go_sem] theorem tsz11 : tsz Try.prog 11 = some 1 := by kernel_rfl
@[simp, go_sem] theorem tby11 : tby Try.prog 11 = some 16 := by kernel_rfl
@[simp, go_sem] theorem tagg11 : tagg Try.prog 11 = some false := by kernel_rfl
@[simp, go_sem] theorem tzero11 : tzero Try.prog 11 = some [.str ⟨#[]⟩] := by kernel_rfl
@[simp, go_sem] theorem tis11 : (Try.prog.underlying 11).isSome = true := by kernel_rfl
@[simp, go_sem] theorem tun11 : Try.prog.underlying 11 = some .string := by kernel_rfl
@[simp, go_sem] theorem tsz12 : tsz Try.prog 12 = some 1 := by kernel_rfl
@[simp, go_sem] theorem tby12 : tby Try.prog 12 = some 8 := by kernel_rfl
@[simp, go_sem] theorem tagg12 : tagg Try.prog 12 = some false := by kernel_rfl
@[simp, go_sem] theorem tzero12 : tzero Try.prog 12 = some [.int .u64 0] := by kernel_rfl
@[simp, go_sem] theorem tis12 : (Try.prog.underlying 12).isSome = true := by kernel_rfl
@[simp, go_sem] theorem tint12 : tint Try.prog 12 = some .u64 := by kernel_rfl
@[simp, go_sem] theorem tsz13 : tsz Try.prog 13 = some 2 := by kernel_rfl
@[simp, go_sem] theorem tby13 : tby Try.prog 13 = some 24 := by kernel_rfl
@[simp, go_sem] theorem tagg13 : tagg Try.prog 13 = some true := by kernel_rfl
@[simp, go_sem] theorem tzero13 : tzero Try.prog 13 = some [.str ⟨#[]⟩, .int .u64 0] := by kernel_rfl
@[simp, go_sem] theorem tis13 : (Try.prog.underlying 13).isSome = true := by kernel_rfl
@[simp, go_sem] theorem tstruct13 : tstruct Try.prog 13 = true := by kernel_rfl
@[simp, go_sem] theorem tfld13f0 : tfld Try.prog 13 0 = some (0, 9) := by kernel_rfl
@[simp, go_sem] theorem tfld13f1 : tfld Try.prog 13 1 = some (1, 12) := by kernel_rfl
@[simp, go_sem] theorem tsz14 : tsz Try.prog 14 = some 2 := by kernel_rfl
@[simp, go_sem] theorem tby14 : tby Try.prog 14 = some 24 := by kernel_rfl
@[simp, go_sem] theorem tagg14 : tagg Try.prog 14 = some true := by kernel_rfl
@[simp, go_sem] theorem tzero14 : tzero Try.prog 14 = some [.str ⟨#[]⟩, .int .u64 0] := by kernel_rfl
@[simp, go_sem] theorem tis14 : (Try.prog.underlying 14).isSome = true := by kernel_rfl
@[simp, go_sem] theorem tstruct14 : tstruct Try.prog 14 = true := by kernel_rfl
@[simp, go_sem] theorem tfld14f0 : tfld Try.prog 14 0 = some (0, 9) := by kernel_rfl
@[simp, go_sem] theorem tfld14f1 : tfld Try.prog 14 1 = some (1, 12) := by kernel_rfl
@[simp, go_sem] theorem tsz15 : tsz Try.prog 15 = some 1 := by kernel_rfl
@[simp, go_sem] theorem tby15 : tby Try.prog 15 = some 8 := by kernel_rfl
@[simp, go_sem] theorem tagg15 : tagg Try.prog 15 = some false := by kernel_rfl
@[simp, go_sem] theorem tzero15 : tzero Try.prog 15 = some [.nilp] := by kernel_rfl
@[simp, go_sem] theorem tis15 : (Try.prog.underlying 15).isSome = true := by kernel_rfl
@[simp, go_sem] theorem tsz16 : tsz Try.prog 16 = some 1 := by kernel_rfl
@[simp, go_sem] theorem tby16 : tby Try.prog 16 = some 8 := by kernel_rfl
@[simp, go_sem] theorem tagg16 : tagg Try.prog 16 = some false := by kernel_rfl
@[simp, go_sem] theorem tzero16 : tzero Try.prog 16 = some [.nilp] := by kernel_rfl
@[simp, go_sem] theorem tis16 : (Try.prog.underlying 16).isSome = true := by kernel_rfl
@[simp, go_sem] theorem tsz17 : tsz Try.prog 17 = some 1 := by kernel_rfl
@[simp, go_sem] theorem tby17 : tby Try.prog 17 = some 8 := by kernel_rfl
@[simp, go_sem] theorem tagg17 : tagg Try.prog 17 = some false := by kernel_rfl
@[simp, go_sem] theorem tzero17 : tzero Try.prog 17 = some [.nilp] := by kernel_rfl
@[simp, go_sem] theorem tis17 : (Try.prog.underlying 17).isSome = true := by kernel_rfl
@[simp, go_sem] theorem tsz18 : tsz Try.prog 18 = some 1 := by kernel_rfl
@[simp, go_sem] theorem tby18 : tby Try.prog 18 = some 8 := by kernel_rfl
@[simp, go_sem] theorem tagg18 : tagg Try.prog 18 = some true := by kernel_rfl
@[simp, go_sem] theorem tzero18 : tzero Try.prog 18 = some [.nilp] := by kernel_rfl
@[simp, go_sem] theorem tis18 : (Try.prog.underlying 18).isSome = true := by kernel_rfl
@[simp, go_sem] theorem tstruct18 : tstruct Try.prog 18 = true := by kernel_rfl
@[simp, go_sem] theorem tfld18f0 : tfld Try.prog 18 0 = some (0, 17) := by kernel_rfl
@[simp, go_sem] theorem tsz19 : tsz Try.prog 19 = some 1 := by kernel_rfl
@[simp, go_sem] theorem tby19 : tby Try.prog 19 = some 8 := by kernel_rfl
@[simp, go_sem] theorem tagg19 : tagg Try.prog 19 = some true := by kernel_rfl
@[simp, go_sem] theorem tzero19 : tzero Try.prog 19 = some [.nilp] := by kernel_rfl
@[simp, go_sem] theorem tis19 : (Try.prog.underlying 19).isSome = true := by kernel_rfl
@[simp, go_sem] theorem tstruct19 : tstruct Try.prog 19 = true := by kernel_rfl
@[simp, go_sem] theorem tfld19f0 : tfld Try.prog 19 0 = some (0, 17) := by kernel_rfl
@[simp, go_sem] theorem tsz21 : tsz Try.prog 21 = some 1 := by kernel_rfl
@[simp, go_sem] theorem tby21 : tby Try.prog 21 = some 4 := by kernel_rfl
@[simp, go_sem] theorem tagg21 : tagg Try.prog 21 = some false := by kernel_rfl
@[simp, go_sem] theorem tzero21 : tzero Try.prog 21 = some [.int .i32 0] := by kernel_rfl
@[simp, go_sem] theorem tis21 : (Try.prog.underlying 21).isSome = true := by kernel_rfl
@[simp, go_sem] theorem tint21 : tint Try.prog 21 = some .i32 := by kernel_rfl
@[simp, go_sem] theorem tsz22 : tsz Try.prog 22 = some 1 := by kernel_rfl
@[simp, go_sem] theorem tby22 : tby Try.prog 22 = some 24 := by kernel_rfl
@[simp, go_sem] theorem tagg22 : tagg Try.prog 22 = some false := by kernel_rfl
@[simp, go_sem] theorem tzero22 : tzero Try.prog 22 = some [.nil] := by kernel_rfl
@[simp, go_sem] theorem telem22 : telem Try.prog 22 = some 5 := by kernel_rfl
@[simp, go_sem] theorem tis22 : (Try.prog.underlying 22).isSome = true := by kernel_rfl
@[simp, go_sem] theorem tsz23 : tsz Try.prog 23 = some 1 := by kernel_rfl
@[simp, go_sem] theorem tby23 : tby Try.prog 23 = some 8 := by kernel_rfl
@[simp, go_sem] theorem tagg23 : tagg Try.prog 23 = some false := by kernel_rfl
@[simp, go_sem] theorem tzero23 : tzero Try.prog 23 = some [.dead] := by kernel_rfl
@[simp, go_sem] theorem tis23 : (Try.prog.underlying 23).isSome = true := by kernel_rfl
@[simp, go_sem] theorem tsz24 : tsz Try.prog 24 = some 1 := by kernel_rfl
@[simp, go_sem] theorem tby24 : tby Try.prog 24 = some 24 := by kernel_rfl
@[simp, go_sem] theorem tagg24 : tagg Try.prog 24 = some false := by kernel_rfl
@[simp, go_sem] theorem tzero24 : tzero Try.prog 24 = some [.nil] := by kernel_rfl
@[simp, go_sem] theorem telem24 : telem Try.prog 24 = some 27 := by kernel_rfl
@[simp, go_sem] theorem tis24 : (Try.prog.underlying 24).isSome = true := by kernel_rfl
@[simp, go_sem] theorem tsz25 : tsz Try.prog 25 = some 2 := by kernel_rfl
@[simp, go_sem] theorem tby25 : tby Try.prog 25 = some 32 := by kernel_rfl
@[simp, go_sem] theorem tagg25 : tagg Try.prog 25 = some true := by kernel_rfl
@[simp, go_sem] theorem tzero25 : tzero Try.prog 25 = some [.int .i64 0, .nil] := by kernel_rfl
@[simp, go_sem] theorem tis25 : (Try.prog.underlying 25).isSome = true := by kernel_rfl
@[simp, go_sem] theorem tstruct25 : tstruct Try.prog 25 = true := by kernel_rfl
@[simp, go_sem] theorem tfld25f0 : tfld Try.prog 25 0 = some (0, 3) := by kernel_rfl
@[simp, go_sem] theorem tfld25f1 : tfld Try.prog 25 1 = some (1, 24) := by kernel_rfl
@[simp, go_sem] theorem tsz26 : tsz Try.prog 26 = some 2 := by kernel_rfl
@[simp, go_sem] theorem tby26 : tby Try.prog 26 = some 32 := by kernel_rfl
@[simp, go_sem] theorem tagg26 : tagg Try.prog 26 = some true := by kernel_rfl
@[simp, go_sem] theorem tzero26 : tzero Try.prog 26 = some [.int .i64 0, .nil] := by kernel_rfl
@[simp, go_sem] theorem tis26 : (Try.prog.underlying 26).isSome = true := by kernel_rfl
@[simp, go_sem] theorem tstruct26 : tstruct Try.prog 26 = true := by kernel_rfl
@[simp, go_sem] theorem tfld26f0 : tfld Try.prog 26 0 = some (0, 3) := by kernel_rfl
@[simp, go_sem] theorem tfld26f1 : tfld Try.prog 26 1 = some (1, 24) := by kernel_rfl
@[simp, go_sem] theorem tsz27 : tsz Try.prog 27 = some 1 := by kernel_rfl
@[simp, go_sem] theorem tby27 : tby Try.prog 27 = some 24 := by kernel_rfl
@[simp, go_sem] theorem tagg27 : tagg Try.prog 27 = some false := by kernel_rfl
@[simp, go_sem] theorem tzero27 : tzero Try.prog 27 = some [.nil] := by kernel_rfl
@[simp, go_sem] theorem telem27 : telem Try.prog 27 = some 3 := by kernel_rfl
@[simp, go_sem] theorem tis27 : (Try.prog.underlying 27).isSome = true := by kernel_rfl
@[simp, go_sem] theorem tsz29 : tsz Try.prog 29 = some 1 := by kernel_rfl
@[simp, go_sem] theorem tby29 : tby Try.prog 29 = some 8 := by kernel_rfl
@[simp, go_sem] theorem tagg29 : tagg Try.prog 29 = some false := by kernel_rfl
@[simp, go_sem] theorem tzero29 : tzero Try.prog 29 = some [.dead] := by kernel_rfl
@[simp, go_sem] theorem tis29 : (Try.prog.underlying 29).isSome = true := by kernel_rfl
@[simp, go_sem] theorem tsz31 : tsz Try.prog 31 = some 1 := by kernel_rfl
@[simp, go_sem] theorem tby31 : tby Try.prog 31 = some 8 := by kernel_rfl
@[simp, go_sem] theorem tagg31 : tagg Try.prog 31 = some false := by kernel_rfl
@[simp, go_sem] theorem tzero31 : tzero Try.prog 31 = some [.dead] := by kernel_rfl
@[simp, go_sem] theorem tis31 : (Try.prog.underlying 31).isSome = true := by kernel_rfl
@[simp, go_sem] theorem tsz32 : tsz Try.prog 32 = some 1 := by kernel_rfl
@[simp, go_sem] theorem tby32 : tby Try.prog 32 = some 8 := by kernel_rfl
@[simp, go_sem] theorem tagg32 : tagg Try.prog 32 = some false := by kernel_rfl
@[simp, go_sem] theorem tzero32 : tzero Try.prog 32 = some [.dead] := by kernel_rfl
@[simp, go_sem] theorem tis32 : (Try.prog.underlying 32).isSome = true := by kernel_rfl
@[simp, go_sem] theorem tsz33 : tsz Try.prog 33 = some 1 := by kernel_rfl
@[simp, go_sem] theorem tby33 : tby Try.prog 33 = some 8 := by kernel_rfl
@[simp, go_sem] theorem tagg33 : tagg Try.prog 33 = some false := by kernel_rfl
@[simp, go_sem] theorem tzero33 : tzero Try.prog 33 = some [.dead] := by kernel_rfl
@[simp, go_sem] theorem tis33 : (Try.prog.underlying 33).isSome = true := by kernel_rfl
@[simp, go_sem] theorem tsz34 : tsz Try.prog 34 = some 1 := by kernel_rfl
@[simp, go_sem] theorem tby34 : tby Try.prog 34 = some 24 := by kernel_rfl
@[simp, go_sem] theorem tagg34 : tagg Try.prog 34 = some false := by kernel_rfl
@[simp, go_sem] theorem tzero34 : tzero Try.prog 34 = some [.nil] := by kernel_rfl
@[simp, go_sem] theorem telem34 : telem Try.prog 34 = some 4 := by kernel_rfl
@[simp, go_sem] theorem tis34 : (Try.prog.underlying 34).isSome = true := by kernel_rfl
@[simp, go_sem] theorem tsz36 : tsz Try.prog 36 = some 1 := by kernel_rfl
@[simp, go_sem] theorem tby36 : tby Try.prog 36 = some 8 := by kernel_rfl
@[simp, go_sem] theorem tagg36 : tagg Try.prog 36 = some false := by kernel_rfl
@[simp, go_sem] theorem tzero36 : tzero Try.prog 36 = some [.dead] := by kernel_rfl
@[simp, go_sem] theorem tis36 : (Try.prog.underlying 36).isSome = true := by kernel_rfl
@[simp, go_sem] theorem tsz37 : tsz Try.prog 37 = some 1 := by kernel_rfl
@[simp, go_sem] theorem tby37 : tby Try.prog 37 = some 24 := by kernel_rfl
@[simp, go_sem] theorem tagg37 : tagg Try.prog 37 = some false := by kernel_rfl
@[simp, go_sem] theorem tzero37 : tzero Try.prog 37 = some [.nil] := by kernel_rfl
@[simp, go_sem] theorem telem37 : telem Try.prog 37 = some 101 := by kernel_rfl
@[simp, go_sem] theorem tis37 : (Try.prog.underlying 37).isSome = true := by kernel_rfl
@[simp, go_sem] theorem tsz38 : tsz Try.prog 38 = some 1 := by kernel_rfl
@[simp, go_sem] theorem tby38 : tby Try.prog 38 = some 8 := by kernel_rfl
@[simp, go_sem] theorem tagg38 : tagg Try.prog 38 = some false := by kernel_rfl
@[simp, go_sem] theorem tzero38 : tzero Try.prog 38 = some [.dead] := by kernel_rfl
@[simp, go_sem] theorem tis38 : (Try.prog.underlying 38).isSome = true := by kernel_rfl
@[simp, go_sem] theorem tsz40 : tsz Try.prog 40 = some 1 := by kernel_rfl
@[simp, go_sem] theorem tby40 : tby Try.prog 40 = some 8 := by kernel_rfl
@[simp, go_sem] theorem tagg40 : tagg Try.prog 40 = some false := by kernel_rfl
@[simp, go_sem] theorem tzero40 : tzero Try.prog 40 = some [.dead] := by kernel_rfl
@[simp, go_sem] theorem tis40 : (Try.prog.underlying 40).isSome = true := by kernel_rfl
@[simp, go_sem] theorem tsz42 : tsz Try.prog 42 = some 1 := by kernel_rfl
@[simp, go_sem] theorem tby42 : tby Try.prog 42 = some 8 := by kernel_rfl
@[simp, go_sem] theorem tagg42 : tagg Try.prog 42 = some false := by kernel_rfl
@[simp, go_sem] theorem tzero42 : tzero Try.prog 42 = some [.dead] := by kernel_rfl
@[simp, go_sem] theorem tis42 : (Try.prog.underlying 42).isSome = true := by kernel_rfl
@[simp, go_sem] theorem tsz43 : tsz Try.prog 43 = some 1 := by kernel_rfl
@[simp, go_sem] theorem tby43 : tby Try.prog 43 = some 8 := by kernel_rfl
@[simp, go_sem] theorem tagg43 : tagg Try.prog 43 = some false := by kernel_rfl
@[simp, go_sem] theorem tzero43 : tzero Try.prog 43 = some [.dead] := by kernel_rfl
@[simp, go_sem] theorem tis43 : (Try.prog.underlying 43).isSome = true := by kernel_rfl
@[simp, go_sem] theorem tsz44 : tsz Try.prog 44 = some 1 := by kernel_rfl
@[simp, go_sem] theorem tby44 : tby Try.prog 44 = some 8 := by kernel_rfl
@[simp, go_sem] theorem tagg44 : tagg Try.prog 44 = some false := by kernel_rfl
@[simp, go_sem] theorem tzero44 : tzero Try.prog 44 = some [.dead] := by kernel_rfl
@[simp, go_sem] theorem tis44 : (Try.prog.underlying 44).isSome = true := by kernel_rfl
@[simp, go_sem] theorem tsz45 : tsz Try.prog 45 = some 1 := by kernel_rfl
@[simp, go_sem] theorem tby45 : tby Try.prog 45 = some 24 := by kernel_rfl
@[simp, go_sem] theorem tagg45 : tagg Try.prog 45 = some true := by kernel_rfl
@[simp, go_sem] theorem tzero45 : tzero Try.prog 45 = some [.nil] := by kernel_rfl
@[simp, go_sem] theorem tis45 : (Try.prog.underlying 45).isSome = true := by kernel_rfl
@[simp, go_sem] theorem tstruct45 : tstruct Try.prog 45 = true := by kernel_rfl
@[simp, go_sem] theorem tfld45f0 : tfld Try.prog 45 0 = some (0, 24) := by kernel_rfl
@[simp, go_sem] theorem tsz46 : tsz Try.prog 46 = some 1 := by kernel_rfl
@[simp, go_sem] theorem tby46 : tby Try.prog 46 = some 24 := by kernel_rfl
@[simp, go_sem] theorem tagg46 : tagg Try.prog 46 = some true := by kernel_rfl
@[simp, go_sem] theorem tzero46 : tzero Try.prog 46 = some [.nil] := by kernel_rfl
@[simp, go_sem] theorem tis46 : (Try.prog.underlying 46).isSome = true := by kernel_rfl
@[simp, go_sem] theorem tstruct46 : tstruct Try.prog 46 = true := by kernel_rfl
@[simp, go_sem] theorem tfld46f0 : tfld Try.prog 46 0 = some (0, 24) := by kernel_rfl
@[simp, go_sem] theorem tsz47 : tsz Try.prog 47 = some 1 := by kernel_rfl
@[simp, go_sem] theorem tby47 : tby Try.prog 47 = some 8 := by kernel_rfl
@[simp, go_sem] theorem tagg47 : tagg Try.prog 47 = some false := by kernel_rfl
@[simp, go_sem] theorem tzero47 : tzero Try.prog 47 = some [.dead] := by kernel_rfl
@[simp, go_sem] theorem tis47 : (Try.prog.underlying 47).isSome = true := by kernel_rfl
@[simp, go_sem] theorem tsz49 : tsz Try.prog 49 = some 1 := by kernel_rfl
@[simp, go_sem] theorem tby49 : tby Try.prog 49 = some 8 := by kernel_rfl
@[simp, go_sem] theorem tagg49 : tagg Try.prog 49 = some false := by kernel_rfl
@[simp, go_sem] theorem tzero49 : tzero Try.prog 49 = some [.dead] := by kernel_rfl
@[simp, go_sem] theorem tis49 : (Try.prog.underlying 49).isSome = true := by kernel_rfl
@[simp, go_sem] theorem tsz50 : tsz Try.prog 50 = some 1 := by kernel_rfl
@[simp, go_sem] theorem tby50 : tby Try.prog 50 = some 24 := by kernel_rfl
@[simp, go_sem] theorem tagg50 : tagg Try.prog 50 = some true := by kernel_rfl
@[simp, go_sem] theorem tzero50 : tzero Try.prog 50 = some [.nil] := by kernel_rfl
@[simp, go_sem] theorem tis50 : (Try.prog.underlying 50).isSome = true := by kernel_rfl
@[simp, go_sem] theorem tstruct50 : tstruct Try.prog 50 = true := by kernel_rfl
@[simp, go_sem] theorem tfld50f0 : tfld Try.prog 50 0 = some (0, 24) := by kernel_rfl
@[simp, go_sem] theorem tsz51 : tsz Try.prog 51 = some 1 := by kernel_rfl
@[simp, go_sem] theorem tby51 : tby Try.prog 51 = some 8 := by kernel_rfl
@[simp, go_sem] theorem tagg51 : tagg Try.prog 51 = some false := by kernel_rfl
@[simp, go_sem] theorem tzero51 : tzero Try.prog 51 = some [.dead] := by kernel_rfl
@[simp, go_sem] theorem tis51 : (Try.prog.underlying 51).isSome = true := by kernel_rfl
@[simp, go_sem] theorem tsz52 : tsz Try.prog 52 = some 1 := by kernel_rfl
@[simp, go_sem] theorem tby52 : tby Try.prog 52 = some 8 := by kernel_rfl
@[simp, go_sem] theorem tagg52 : tagg Try.prog 52 = some false := by kernel_rfl
@[simp, go_sem] theorem tzero52 : tzero Try.prog 52 = some [.dead] := by kernel_rfl
@[simp, go_sem] theorem tis52 : (Try.prog.underlying 52).isSome = true := by kernel_rfl
@[simp, go_sem] theorem tsz53 : tsz Try.prog 53 = some 1 := by kernel_rfl
@[simp, go_sem] theorem tby53 : tby Try.prog 53 = some 8 := by kernel_rfl
@[simp, go_sem] theorem tagg53 : tagg Try.prog 53 = some false := by kernel_rfl
@[simp, go_sem] theorem tzero53 : tzero Try.prog 53 = some [.dead] := by kernel_rfl
@[simp, go_sem] theorem tis53 : (Try.prog.underlying 53).isSome = true := by kernel_rfl
@[simp, go_sem] theorem tsz54 : tsz Try.prog 54 = some 1 := by kernel_rfl
@[simp, go_sem] theorem tby54 : tby Try.prog 54 = some 8 := by kernel_rfl
@[simp, go_sem] theorem tagg54 : tagg Try.prog 54 = some false := by kernel_rfl
@[simp, go_sem] theorem tzero54 : tzero Try.prog 54 = some [.dead] := by kernel_rfl
@[simp, go_sem] theorem tis54 : (Try.prog.underlying 54).isSome = true := by kernel_rfl
@[simp, go_sem] theorem tsz55 : tsz Try.prog 55 = some 1 := by kernel_rfl
@[simp, go_sem] theorem tby55 : tby Try.prog 55 = some 8 := by kernel_rfl
@[simp, go_sem] theorem tagg55 : tagg Try.prog 55 = some false := by kernel_rfl
@[simp, go_sem] theorem tzero55 : tzero Try.prog 55 = some [.dead] := by kernel_rfl
@[simp, go_sem] theorem tis55 : (Try.prog.underlying 55).isSome = true := by kernel_rfl
@[simp, go_sem] theorem tsz56 : tsz Try.prog 56 = some 1 := by kernel_rfl
@[simp, go_sem] theorem tby56 : tby Try.prog 56 = some 24 := by kernel_rfl
@[simp, go_sem] theorem tagg56 : tagg Try.prog 56 = some false := by kernel_rfl
@[simp, go_sem] theorem tzero56 : tzero Try.prog 56 = some [.nil] := by kernel_rfl
@[simp, go_sem] theorem telem56 : telem Try.prog 56 = some 117 := by kernel_rfl
@[simp, go_sem] theorem tis56 : (Try.prog.underlying 56).isSome = true := by kernel_rfl
@[simp, go_sem] theorem tsz57 : tsz Try.prog 57 = some 2 := by kernel_rfl
@[simp, go_sem] theorem tby57 : tby Try.prog 57 = some 48 := by kernel_rfl
@[simp, go_sem] theorem tagg57 : tagg Try.prog 57 = some true := by kernel_rfl
@[simp, go_sem] theorem tzero57 : tzero Try.prog 57 = some [.nil, .nil] := by kernel_rfl
@[simp, go_sem] theorem tis57 : (Try.prog.underlying 57).isSome = true := by kernel_rfl
@[simp, go_sem] theorem tstruct57 : tstruct Try.prog 57 = true := by kernel_rfl
@[simp, go_sem] theorem tfld57f0 : tfld Try.prog 57 0 = some (0, 27) := by kernel_rfl
@[simp, go_sem] theorem tfld57f1 : tfld Try.prog 57 1 = some (1, 27) := by kernel_rfl
@[simp, go_sem] theorem tsz58 : tsz Try.prog 58 = some 2 := by kernel_rfl
@[simp, go_sem] theorem tby58 : tby Try.prog 58 = some 48 := by kernel_rfl
@[simp, go_sem] theorem tagg58 : tagg Try.prog 58 = some true := by kernel_rfl
@[simp, go_sem] theorem tzero58 : tzero Try.prog 58 = some [.nil, .nil] := by kernel_rfl
@[simp, go_sem] theorem tis58 : (Try.prog.underlying 58).isSome = true := by kernel_rfl
@[simp, go_sem] theorem tstruct58 : tstruct Try.prog 58 = true := by kernel_rfl
@[simp, go_sem] theorem tfld58f0 : tfld Try.prog 58 0 = some (0, 27) := by kernel_rfl
@[simp, go_sem] theorem tfld58f1 : tfld Try.prog 58 1 = some (1, 27) := by kernel_rfl
@[simp, go_sem] theorem tsz59 : tsz Try.prog 59 = some 1 := by kernel_rfl
@[simp, go_sem] theorem tby59 : tby Try.prog 59 = some 8 := by kernel_rfl
@[simp, go_sem] theorem tagg59 : tagg Try.prog 59 = some false := by kernel_rfl
@[simp, go_sem] theorem tzero59 : tzero Try.prog 59 = some [.dead] := by kernel_rfl
@[simp, go_sem] theorem tis59 : (Try.prog.underlying 59).isSome = true := by kernel_rfl
@[simp, go_sem] theorem tsz60 : tsz Try.prog 60 = some 1 := by kernel_rfl
@[simp, go_sem] theorem tby60 : tby Try.prog 60 = some 8 := by kernel_rfl
@[simp, go_sem] theorem tagg60 : tagg Try.prog 60 = some false := by kernel_rfl
@[simp, go_sem] theorem tzero60 : tzero Try.prog 60 = some [.dead] := by kernel_rfl
@[simp, go_sem] theorem tis60 : (Try.prog.underlying 60).isSome = true := by kernel_rfl
@[simp, go_sem] theorem tsz62 : tsz Try.prog 62 = some 1 := by kernel_rfl
@[simp, go_sem] theorem tby62 : tby Try.prog 62 = some 8 := by kernel_rfl
@[simp, go_sem] theorem tagg62 : tagg Try.prog 62 = some false := by kernel_rfl
@[simp, go_sem] theorem tzero62 : tzero Try.prog 62 = some [.dead] := by kernel_rfl
@[simp, go_sem] theorem tis62 : (Try.prog.underlying 62).isSome = true := by kernel_rfl
@[simp, go_sem] theorem tsz63 : tsz Try.prog 63 = some 1 := by kernel_rfl
@[simp, go_sem] theorem tby63 : tby Try.prog 63 = some 8 := by kernel_rfl
@[simp, go_sem] theorem tagg63 : tagg Try.prog 63 = some false := by kernel_rfl
@[simp, go_sem] theorem tzero63 : tzero Try.prog 63 = some [.dead] := by kernel_rfl
@[simp, go_sem] theorem tis63 : (Try.prog.underlying 63).isSome = true := by kernel_rfl
@[simp, go_sem] theorem tsz64 : tsz Try.prog 64 = some 2 := by kernel_rfl
@[simp, go_sem] theorem tby64 : tby Try.prog 64 = some 48 := by kernel_rfl
@[simp, go_sem] theorem tagg64 : tagg Try.prog 64 = some true := by kernel_rfl
@[simp, go_sem] theorem tzero64 : tzero Try.prog 64 = some [.nil, .nil] := by kernel_rfl
@[simp, go_sem] theorem tis64 : (Try.prog.underlying 64).isSome = true := by kernel_rfl
@[simp, go_sem] theorem tstruct64 : tstruct Try.prog 64 = true := by kernel_rfl
@[simp, go_sem] theorem tfld64f0 : tfld Try.prog 64 0 = some (0, 27) := by kernel_rfl
@[simp, go_sem] theorem tfld64f1 : tfld Try.prog 64 1 = some (1, 27) := by kernel_rfl
@[simp, go_sem] theorem tsz65 : tsz Try.prog 65 = some 1 := by kernel_rfl
@[simp, go_sem] theorem tby65 : tby Try.prog 65 = some 8 := by kernel_rfl
@[simp, go_sem] theorem tagg65 : tagg Try.prog 65 = some false := by kernel_rfl
@[simp, go_sem] theorem tzero65 : tzero Try.prog 65 = some [.dead] := by kernel_rfl
@[simp, go_sem] theorem tis65 : (Try.prog.underlying 65).isSome = true := by kernel_rfl
@[simp, go_sem] theorem tsz66 : tsz Try.prog 66 = some 1 := by kernel_rfl
@[simp, go_sem] theorem tby66 : tby Try.prog 66 = some 8 := by kernel_rfl
@[simp, go_sem] theorem tagg66 : tagg Try.prog 66 = some false := by kernel_rfl
@[simp, go_sem] theorem tzero66 : tzero Try.prog 66 = some [.dead] := by kernel_rfl
@[simp, go_sem] theorem tis66 : (Try.prog.underlying 66).isSome = true := by kernel_rfl
@[simp, go_sem] theorem tsz67 : tsz Try.prog 67 = some 1 := by kernel_rfl
@[simp, go_sem] theorem tby67 : tby Try.prog 67 = some 8 := by kernel_rfl
@[simp, go_sem] theorem tagg67 : tagg Try.prog 67 = some false := by kernel_rfl
@[simp, go_sem] theorem tzero67 : tzero Try.prog 67 = some [.dead] := by kernel_rfl
@[simp, go_sem] theorem tis67 : (Try.prog.underlying 67).isSome = true := by kernel_rfl
@[simp, go_sem] theorem tsz68 : tsz Try.prog 68 = some 1 := by kernel_rfl
@[simp, go_sem] theorem tby68 : tby Try.prog 68 = some 8 := by kernel_rfl
@[simp, go_sem] theorem tagg68 : tagg Try.prog 68 = some false := by kernel_rfl
@[simp, go_sem] theorem tzero68 : tzero Try.prog 68 = some [.dead] := by kernel_rfl
@[simp, go_sem] theorem tis68 : (Try.prog.underlying 68).isSome = true := by kernel_rfl
@[simp, go_sem] theorem tsz69 : tsz Try.prog 69 = some 1 := by kernel_rfl
@[simp, go_sem] theorem tby69 : tby Try.prog 69 = some 8 := by kernel_rfl
@[simp, go_sem] theorem tagg69 : tagg Try.prog 69 = some false := by kernel_rfl
@[simp, go_sem] theorem tzero69 : tzero Try.prog 69 = some [.dead] := by kernel_rfl
@[simp, go_sem] theorem tis69 : (Try.prog.underlying 69).isSome = true := by kernel_rfl
@[simp, go_sem] theorem tsz70 : tsz Try.prog 70 = some 1 := by kernel_rfl
@[simp, go_sem] theorem tby70 : tby Try.prog 70 = some 8 := by kernel_rfl
@[simp, go_sem] theorem tagg70 : tagg Try.prog 70 = some false := by kernel_rfl
@[simp, go_sem] theorem tzero70 : tzero Try.prog 70 = some [.dead] := by kernel_rfl
@[simp, go_sem] theorem tis70 : (Try.prog.underlying 70).isSome = true := by kernel_rfl
@[simp, go_sem] theorem tsz71 : tsz Try.prog 71 = some 1 := by kernel_rfl
@[simp, go_sem] theorem tby71 : tby Try.prog 71 = some 8 := by kernel_rfl
@[simp, go_sem] theorem tagg71 : tagg Try.prog 71 = some false := by kernel_rfl
@[simp, go_sem] theorem tzero71 : tzero Try.prog 71 = some [.dead] := by kernel_rfl
@[simp, go_sem] theorem tis71 : (Try.prog.underlying 71).isSome = true := by kernel_rfl
@[simp, go_sem] theorem tsz72 : tsz Try.prog 72 = some 1 := by kernel_rfl
@[simp, go_sem] theorem tby72 : tby Try.prog 72 = some 8 := by kernel_rfl
@[simp, go_sem] theorem tagg72 : tagg Try.prog 72 = some false := by kernel_rfl
@[simp, go_sem] theorem tzero72 : tzero Try.prog 72 = some [.dead] := by kernel_rfl
@[simp, go_sem] theorem tis72 : (Try.prog.underlying 72).isSome = true := by kernel_rfl
@[simp, go_sem] theorem tsz73 : tsz Try.prog 73 = some 1 := by kernel_rfl
@[simp, go_sem] theorem tby73 : tby Try.prog 73 = some 8 := by kernel_rfl
@[simp, go_sem] theorem tagg73 : tagg Try.prog 73 = some false := by kernel_rfl
@[simp, go_sem] theorem tzero73 : tzero Try.prog 73 = some [.dead] := by kernel_rfl
@[simp, go_sem] theorem tis73 : (Try.prog.underlying 73).isSome = true := by kernel_rfl
@[simp, go_sem] theorem tsz74 : tsz Try.prog 74 = some 1 := by kernel_rfl
@[simp, go_sem] theorem tby74 : tby Try.prog 74 = some 8 := by kernel_rfl
@[simp, go_sem] theorem tagg74 : tagg Try.prog 74 = some false := by kernel_rfl
@[simp, go_sem] theorem tzero74 : tzero Try.prog 74 = some [.dead] := by kernel_rfl
@[simp, go_sem] theorem tis74 : (Try.prog.underlying 74).isSome = true := by kernel_rfl
@[simp, go_sem] theorem tsz75 : tsz Try.prog 75 = some 1 := by kernel_rfl
@[simp, go_sem] theorem tby75 : tby Try.prog 75 = some 8 := by kernel_rfl
@[simp, go_sem] theorem tagg75 : tagg Try.prog 75 = some false := by kernel_rfl
@[simp, go_sem] theorem tzero75 : tzero Try.prog 75 = some [.dead] := by kernel_rfl
@[simp, go_sem] theorem tis75 : (Try.prog.underlying 75).isSome = true := by kernel_rfl
@[simp, go_sem] theorem tsz77 : tsz Try.prog 77 = some 1 := by kernel_rfl
@[simp, go_sem] theorem tby77 : tby Try.prog 77 = some 8 := by kernel_rfl
@[simp, go_sem] theorem tagg77 : tagg Try.prog 77 = some false := by kernel_rfl
@[simp, go_sem] theorem tzero77 : tzero Try.prog 77 = some [.dead] := by kernel_rfl
@[simp, go_sem] theorem tis77 : (Try.prog.underlying 77).isSome = true := by kernel_rfl
@[simp, go_sem] theorem tsz78 : tsz Try.prog 78 = some 1 := by kernel_rfl
@[simp, go_sem] theorem tby78 : tby Try.prog 78 = some 8 := by kernel_rfl
@[simp, go_sem] theorem tagg78 : tagg Try.prog 78 = some false := by kernel_rfl
@[simp, go_sem] theorem tzero78 : tzero Try.prog 78 = some [.dead] := by kernel_rfl
@[simp, go_sem] theorem tis78 : (Try.prog.underlying 78).isSome = true := by kernel_rfl
@[simp, go_sem] theorem tsz79 : tsz Try.prog 79 = some 1 := by kernel_rfl
@[simp, go_sem] theorem tby79 : tby Try.prog 79 = some 8 := by kernel_rfl
@[simp, go_sem] theorem tagg79 : tagg Try.prog 79 = some false := by kernel_rfl
@[simp, go_sem] theorem tzero79 : tzero Try.prog 79 = some [.dead] := by kernel_rfl
@[simp, go_sem] theorem tis79 : (Try.prog.underlying 79).isSome = true := by kernel_rfl
@[simp, go_sem] theorem tsz80 : tsz Try.prog 80 = some 1 := by kernel_rfl
@[simp, go_sem] theorem tby80 : tby Try.prog 80 = some 8 := by kernel_rfl
@[simp, go_sem] theorem tagg80 : tagg Try.prog 80 = some false := by kernel_rfl
@[simp, go_sem] theorem tzero80 : tzero Try.prog 80 = some [.nilp] := by kernel_rfl
@[simp, go_sem] theorem tis80 : (Try.prog.underlying 80).isSome = true := by kernel_rfl
@[simp, go_sem] theorem tsz81 : tsz Try.prog 81 = some 1 := by kernel_rfl
@[simp, go_sem] theorem tby81 : tby Try.prog 81 = some 8 := by kernel_rfl
@[simp, go_sem] theorem tagg81 : tagg Try.prog 81 = some false := by kernel_rfl
@[simp, go_sem] theorem tzero81 : tzero Try.prog 81 = some [.int .u64 0] := by kernel_rfl
@[simp, go_sem] theorem tis81 : (Try.prog.underlying 81).isSome = true := by kernel_rfl
@[simp, go_sem] theorem tint81 : tint Try.prog 81 = some .u64 := by kernel_rfl
@[simp, go_sem] theorem tsz82 : tsz Try.prog 82 = some 3 := by kernel_rfl
@[simp, go_sem] theorem tby82 : tby Try.prog 82 = some 40 := by kernel_rfl
@[simp, go_sem] theorem tagg82 : tagg Try.prog 82 = some true := by kernel_rfl
@[simp, go_sem] theorem tzero82 : tzero Try.prog 82 = some [.nil, .int .i64 0, .int .u64 0] := by kernel_rfl
@[simp, go_sem] theorem tis82 : (Try.prog.underlying 82).isSome = true := by kernel_rfl
@[simp, go_sem] theorem tstruct82 : tstruct Try.prog 82 = true := by kernel_rfl
@[simp, go_sem] theorem tfld82f0 : tfld Try.prog 82 0 = some (0, 22) := by kernel_rfl
@[simp, go_sem] theorem tfld82f1 : tfld Try.prog 82 1 = some (1, 3) := by kernel_rfl
@[simp, go_sem] theorem tfld82f2 : tfld Try.prog 82 2 = some (2, 81) := by kernel_rfl
@[simp, go_sem] theorem tsz83 : tsz Try.prog 83 = some 3 := by kernel_rfl
@[simp, go_sem] theorem tby83 : tby Try.prog 83 = some 40 := by kernel_rfl
@[simp, go_sem] theorem tagg83 : tagg Try.prog 83 = some true := by kernel_rfl
@[simp, go_sem] theorem tzero83 : tzero Try.prog 83 = some [.nil, .int .i64 0, .int .u64 0] := by kernel_rfl
@[simp, go_sem] theorem tis83 : (Try.prog.underlying 83).isSome = true := by kernel_rfl
@[simp, go_sem] theorem tstruct83 : tstruct Try.prog 83 = true := by kernel_rfl
@[simp, go_sem] theorem tfld83f0 : tfld Try.prog 83 0 = some (0, 22) := by kernel_rfl
@[simp, go_sem] theorem tfld83f1 : tfld Try.prog 83 1 = some (1, 3) := by kernel_rfl
@[simp, go_sem] theorem tfld83f2 : tfld Try.prog 83 2 = some (2, 81) := by kernel_rfl
@[simp, go_sem] theorem tsz84 : tsz Try.prog 84 = some 1 := by kernel_rfl
@[simp, go_sem] theorem tby84 : tby Try.prog 84 = some 8 := by kernel_rfl
@[simp, go_sem] theorem tagg84 : tagg Try.prog 84 = some false := by kernel_rfl
@[simp, go_sem] theorem tzero84 : tzero Try.prog 84 = some [.dead] := by kernel_rfl
@[simp, go_sem] theorem tis84 : (Try.prog.underlying 84).isSome = true := by kernel_rfl
@[simp, go_sem] theorem tsz85 : tsz Try.prog 85 = some 1 := by kernel_rfl
@[simp, go_sem] theorem tby85 : tby Try.prog 85 = some 8 := by kernel_rfl
@[simp, go_sem] theorem tagg85 : tagg Try.prog 85 = some false := by kernel_rfl
@[simp, go_sem] theorem tzero85 : tzero Try.prog 85 = some [.dead] := by kernel_rfl
@[simp, go_sem] theorem tis85 : (Try.prog.underlying 85).isSome = true := by kernel_rfl
@[simp, go_sem] theorem tsz86 : tsz Try.prog 86 = some 1 := by kernel_rfl
@[simp, go_sem] theorem tby86 : tby Try.prog 86 = some 8 := by kernel_rfl
@[simp, go_sem] theorem tagg86 : tagg Try.prog 86 = some false := by kernel_rfl
@[simp, go_sem] theorem tzero86 : tzero Try.prog 86 = some [.dead] := by kernel_rfl
@[simp, go_sem] theorem tis86 : (Try.prog.underlying 86).isSome = true := by kernel_rfl
@[simp, go_sem] theorem tsz87 : tsz Try.prog 87 = some 1 := by kernel_rfl
@[simp, go_sem] theorem tby87 : tby Try.prog 87 = some 8 := by kernel_rfl
@[simp, go_sem] theorem tagg87 : tagg Try.prog 87 = some false := by kernel_rfl
@[simp, go_sem] theorem tzero87 : tzero Try.prog 87 = some [.dead] := by kernel_rfl
@[simp, go_sem] theorem tis87 : (Try.prog.underlying 87).isSome = true := by kernel_rfl
@[simp, go_sem] theorem tsz88 : tsz Try.prog 88 = some 1 := by kernel_rfl
@[simp, go_sem] theorem tby88 : tby Try.prog 88 = some 8 := by kernel_rfl
@[simp, go_sem] theorem tagg88 : tagg Try.prog 88 = some false := by kernel_rfl
@[simp, go_sem] theorem tzero88 : tzero Try.prog 88 = some [.dead] := by kernel_rfl
@[simp, go_sem] theorem tis88 : (Try.prog.underlying 88).isSome = true := by kernel_rfl
@[simp, go_sem] theorem tsz89 : tsz Try.prog 89 = some 1 := by kernel_rfl
@[simp, go_sem] theorem tby89 : tby Try.prog 89 = some 8 := by kernel_rfl
@[simp, go_sem] theorem tagg89 : tagg Try.prog 89 = some false := by kernel_rfl
@[simp, go_sem] theorem tzero89 : tzero Try.prog 89 = some [.dead] := by kernel_rfl
@[simp, go_sem] theorem tis89 : (Try.prog.underlying 89).isSome = true := by kernel_rfl
@[simp, go_sem] theorem tsz90 : tsz Try.prog 90 = some 1 := by kernel_rfl
@[simp, go_sem] theorem tby90 : tby Try.prog 90 = some 8 := by kernel_rfl
@[simp, go_sem] theorem tagg90 : tagg Try.prog 90 = some false := by kernel_rfl
@[simp, go_sem] theorem tzero90 : tzero Try.prog 90 = some [.dead] := by kernel_rfl
@[simp, go_sem] theorem tis90 : (Try.prog.underlying 90).isSome = true := by kernel_rfl
@[simp, go_sem] theorem tsz91 : tsz Try.prog 91 = some 1 := by kernel_rfl
@[simp, go_sem] theorem tby91 : tby Try.prog 91 = some 8 := by kernel_rfl
@[simp, go_sem] theorem tagg91 : tagg Try.prog 91 = some false := by kernel_rfl
@[simp, go_sem] theorem tzero91 : tzero Try.prog 91 = some [.dead] := by kernel_rfl
@[simp, go_sem] theorem tis91 : (Try.prog.underlying 91).isSome = true := by kernel_rfl
@[simp, go_sem] theorem tsz92 : tsz Try.prog 92 = some 1 := by kernel_rfl
@[simp, go_sem] theorem tby92 : tby Try.prog 92 = some 8 := by kernel_rfl
@[simp, go_sem] theorem tagg92 : tagg Try.prog 92 = some false := by kernel_rfl
@[simp, go_sem] theorem tzero92 : tzero Try.prog 92 = some [.dead] := by kernel_rfl
@[simp, go_sem] theorem tis92 : (Try.prog.underlying 92).isSome = true := by kernel_rfl
@[simp, go_sem] theorem tsz93 : tsz Try.prog 93 = some 1 := by kernel_rfl
@[simp, go_sem] theorem tby93 : tby Try.prog 93 = some 8 := by kernel_rfl
@[simp, go_sem] theorem tagg93 : tagg Try.prog 93 = some false := by kernel_rfl
@[simp, go_sem] theorem tzero93 : tzero Try.prog 93 = some [.nilp] := by kernel_rfl
@[simp, go_sem] theorem tis93 : (Try.prog.underlying 93).isSome = true := by kernel_rfl
@[simp, go_sem] theorem tsz94 : tsz Try.prog 94 = some 4 := by kernel_rfl
@[simp, go_sem] theorem tby94 : tby Try.prog 94 = some 48 := by kernel_rfl
@[simp, go_sem] theorem tagg94 : tagg Try.prog 94 = some true := by kernel_rfl
@[simp, go_sem] theorem tzero94 : tzero Try.prog 94 = some [.int .i64 0, .nil, .int .i64 0, .int .i64 0] := by kernel_rfl
@[simp, go_sem] theorem tis94 : (Try.prog.underlying 94).isSome = true := by kernel_rfl
@[simp, go_sem] theorem tstruct94 : tstruct Try.prog 94 = true := by kernel_rfl
@[simp, go_sem] theorem tfld94f0 : tfld Try.prog 94 0 = some (0, 26) := by kernel_rfl
@[simp, go_sem] theorem tfld94f1 : tfld Try.prog 94 1 = some (2, 3) := by kernel_rfl
@[simp, go_sem] theorem tfld94f2 : tfld Try.prog 94 2 = some (3, 3) := by kernel_rfl
@[simp, go_sem] theorem tsz95 : tsz Try.prog 95 = some 4 := by kernel_rfl
@[simp, go_sem] theorem tby95 : tby Try.prog 95 = some 48 := by kernel_rfl
@[simp, go_sem] theorem tagg95 : tagg Try.prog 95 = some true := by kernel_rfl
@[simp, go_sem] theorem tzero95 : tzero Try.prog 95 = some [.int .i64 0, .nil, .int .i64 0, .int .i64 0] := by kernel_rfl
@[simp, go_sem] theorem tis95 : (Try.prog.underlying 95).isSome = true := by kernel_rfl
@[simp, go_sem] theorem tstruct95 : tstruct Try.prog 95 = true := by kernel_rfl
@[simp, go_sem] theorem tfld95f0 : tfld Try.prog 95 0 = some (0, 26) := by kernel_rfl
@[simp, go_sem] theorem tfld95f1 : tfld Try.prog 95 1 = some (2, 3) := by kernel_rfl
@[simp, go_sem] theorem tfld95f2 : tfld Try.prog 95 2 = some (3, 3) := by kernel_rfl
@[simp, go_sem] theorem tsz97 : tsz Try.prog 97 = some 1 := by kernel_rfl
@[simp, go_sem] theorem tby97 : tby Try.prog 97 = some 8 := by kernel_rfl
@[simp, go_sem] theorem tagg97 : tagg Try.prog 97 = some false := by kernel_rfl
@[simp, go_sem] theorem tzero97 : tzero Try.prog 97 = some [.dead] := by kernel_rfl
@[simp, go_sem] theorem tis97 : (Try.prog.underlying 97).isSome = true := by kernel_rfl
@[simp, go_sem] theorem tsz98 : tsz Try.prog 98 = some 1 := by kernel_rfl
@[simp, go_sem] theorem tby98 : tby Try.prog 98 = some 8 := by kernel_rfl
@[simp, go_sem] theorem tagg98 : tagg Try.prog 98 = some false := by kernel_rfl
@[simp, go_sem] theorem tzero98 : tzero Try.prog 98 = some [.dead] := by kernel_rfl
@[simp, go_sem] theorem tis98 : (Try.prog.underlying 98).isSome = true := by kernel_rfl
@[simp, go_sem] theorem tsz99 : tsz Try.prog 99 = some 1 := by kernel_rfl
@[simp, go_sem] theorem tby99 : tby Try.prog 99 = some 24 := by kernel_rfl
@[simp, go_sem] theorem tagg99 : tagg Try.prog 99 = some false := by kernel_rfl
@[simp, go_sem] theorem tzero99 : tzero Try.prog 99 = some [.nil] := by kernel_rfl
@[simp, go_sem] theorem telem99 : telem Try.prog 99 = some 9 := by kernel_rfl
@[simp, go_sem] theorem tis99 : (Try.prog.underlying 99).isSome = true := by kernel_rfl
@[simp, go_sem] theorem tsz100 : tsz Try.prog 100 = some 2 := by kernel_rfl
@[simp, go_sem] theorem tby100 : tby Try.prog 100 = some 16 := by kernel_rfl
@[simp, go_sem] theorem tagg100 : tagg Try.prog 100 = some true := by kernel_rfl
@[simp, go_sem] theorem tzero100 : tzero Try.prog 100 = some [.int .i64 0, .int .i64 0] := by kernel_rfl
@[simp, go_sem] theorem tis100 : (Try.prog.underlying 100).isSome = true := by kernel_rfl
@[simp, go_sem] theorem tcmp100 : tcmp Try.prog 100 2 = true := by kernel_rfl
@[simp, go_sem] theorem tstruct100 : tstruct Try.prog 100 = true := by kernel_rfl
@[simp, go_sem] theorem tfld100f0 : tfld Try.prog 100 0 = some (0, 3) := by kernel_rfl
@[simp, go_sem] theorem tfld100f1 : tfld Try.prog 100 1 = some (1, 3) := by kernel_rfl
@[simp, go_sem] theorem tsz101 : tsz Try.prog 101 = some 2 := by kernel_rfl
@[simp, go_sem] theorem tby101 : tby Try.prog 101 = some 16 := by kernel_rfl
@[simp, go_sem] theorem tagg101 : tagg Try.prog 101 = some true := by kernel_rfl
@[simp, go_sem] theorem tzero101 : tzero Try.prog 101 = some [.int .i64 0, .int .i64 0] := by kernel_rfl
@[simp, go_sem] theorem tis101 : (Try.prog.underlying 101).isSome = true := by kernel_rfl
@[simp, go_sem] theorem tcmp101 : tcmp Try.prog 101 2 = true := by kernel_rfl
@[simp, go_sem] theorem tstruct101 : tstruct Try.prog 101 = true := by kernel_rfl
@[simp, go_sem] theorem tfld101f0 : tfld Try.prog 101 0 = some (0, 3) := by kernel_rfl
@[simp, go_sem] theorem tfld101f1 : tfld Try.prog 101 1 = some (1, 3) := by kernel_rfl
@[simp, go_sem] theorem tsz102 : tsz Try.prog 102 = some 1 := by kernel_rfl
@[simp, go_sem] theorem tby102 : tby Try.prog 102 = some 8 := by kernel_rfl
@[simp, go_sem] theorem tagg102 : tagg Try.prog 102 = some false := by kernel_rfl
@[simp, go_sem] theorem tzero102 : tzero Try.prog 102 = some [.dead] := by kernel_rfl
@[simp, go_sem] theorem tis102 : (Try.prog.underlying 102).isSome = true := by kernel_rfl
@[simp, go_sem] theorem tsz103 : tsz Try.prog 103 = some 1 := by kernel_rfl
@[simp, go_sem] theorem tby103 : tby Try.prog 103 = some 8 := by kernel_rfl
@[simp, go_sem] theorem tagg103 : tagg Try.prog 103 = some false := by kernel_rfl
@[simp, go_sem] theorem tzero103 : tzero Try.prog 103 = some [.dead] := by kernel_rfl
@[simp, go_sem] theorem tis103 : (Try.prog.underlying 103).isSome = true := by kernel_rfl
@[simp, go_sem] theorem tsz104 : tsz Try.prog 104 = some 1 := by kernel_rfl
@[simp, go_sem] theorem tby104 : tby Try.prog 104 = some 8 := by kernel_rfl
@[simp, go_sem] theorem tagg104 : tagg Try.prog 104 = some false := by kernel_rfl
@[simp, go_sem] theorem tzero104 : tzero Try.prog 104 = some [.nilp] := by kernel_rfl
@[simp, go_sem] theorem tis104 : (Try.prog.underlying 104).isSome = true := by kernel_rfl
@[simp, go_sem] theorem tsz105 : tsz Try.prog 105 = some 3 := by kernel_rfl
@[simp, go_sem] theorem tby105 : tby Try.prog 105 = some 32 := by kernel_rfl
@[simp, go_sem] theorem tagg105 : tagg Try.prog 105 = some true := by kernel_rfl
@[simp, go_sem] theorem tzero105 : tzero Try.prog 105 = some [.str ⟨#[]⟩, .int .i64 0, .bool false] := by kernel_rfl
@[simp, go_sem] theorem tis105 : (Try.prog.underlying 105).isSome = true := by kernel_rfl
@[simp, go_sem] theorem tstruct105 : tstruct Try.prog 105 = true := by kernel_rfl
@[simp, go_sem] theorem tfld105f0 : tfld Try.prog 105 0 = some (0, 9) := by kernel_rfl
@[simp, go_sem] theorem tfld105f1 : tfld Try.prog 105 1 = some (1, 3) := by kernel_rfl
@[simp, go_sem] theorem tfld105f2 : tfld Try.prog 105 2 = some (2, 4) := by kernel_rfl
@[simp, go_sem] theorem tsz106 : tsz Try.prog 106 = some 3 := by kernel_rfl
@[simp, go_sem] theorem tby106 : tby Try.prog 106 = some 32 := by kernel_rfl
@[simp, go_sem] theorem tagg106 : tagg Try.prog 106 = some true := by kernel_rfl
@[simp, go_sem] theorem tzero106 : tzero Try.prog 106 = some [.str ⟨#[]⟩, .int .i64 0, .bool false] := by kernel_rfl
@[simp, go_sem] theorem tis106 : (Try.prog.underlying 106).isSome = true := by kernel_rfl
@[simp, go_sem] theorem tstruct106 : tstruct Try.prog 106 = true := by kernel_rfl
@[simp, go_sem] theorem tfld106f0 : tfld Try.prog 106 0 = some (0, 9) := by kernel_rfl
@[simp, go_sem] theorem tfld106f1 : tfld Try.prog 106 1 = some (1, 3) := by kernel_rfl
@[simp, go_sem] theorem tfld106f2 : tfld Try.prog 106 2 = some (2, 4) := by kernel_rfl
@[simp, go_sem] theorem tsz107 : tsz Try.prog 107 = some 1 := by kernel_rfl
@[simp, go_sem] theorem tby107 : tby Try.prog 107 = some 8 := by kernel_rfl
@[simp, go_sem] theorem tagg107 : tagg Try.prog 107 = some false := by kernel_rfl
@[simp, go_sem] theorem tzero107 : tzero Try.prog 107 = some [.dead] := by kernel_rfl
@[simp, go_sem] theorem tis107 : (Try.prog.underlying 107).isSome = true := by kernel_rfl
@[simp, go_sem] theorem tsz108 : tsz Try.prog 108 = some 1 := by kernel_rfl
@[simp, go_sem] theorem tby108 : tby Try.prog 108 = some 8 := by kernel_rfl
@[simp, go_sem] theorem tagg108 : tagg Try.prog 108 = some false := by kernel_rfl
@[simp, go_sem] theorem tzero108 : tzero Try.prog 108 = some [.dead] := by kernel_rfl
@[simp, go_sem] theorem tis108 : (Try.prog.underlying 108).isSome = true := by kernel_rfl
@[simp, go_sem] theorem tsz109 : tsz Try.prog 109 = some 1 := by kernel_rfl
@[simp, go_sem] theorem tby109 : tby Try.prog 109 = some 8 := by kernel_rfl
@[simp, go_sem] theorem tagg109 : tagg Try.prog 109 = some false := by kernel_rfl
@[simp, go_sem] theorem tzero109 : tzero Try.prog 109 = some [.dead] := by kernel_rfl
@[simp, go_sem] theorem tis109 : (Try.prog.underlying 109).isSome = true := by kernel_rfl
@[simp, go_sem] theorem tsz110 : tsz Try.prog 110 = some 1 := by kernel_rfl
@[simp, go_sem] theorem tby110 : tby Try.prog 110 = some 8 := by kernel_rfl
@[simp, go_sem] theorem tagg110 : tagg Try.prog 110 = some false := by kernel_rfl
@[simp, go_sem] theorem tzero110 : tzero Try.prog 110 = some [.dead] := by kernel_rfl
@[simp, go_sem] theorem tis110 : (Try.prog.underlying 110).isSome = true := by kernel_rfl
@[simp, go_sem] theorem tsz111 : tsz Try.prog 111 = some 1 := by kernel_rfl
@[simp, go_sem] theorem tby111 : tby Try.prog 111 = some 8 := by kernel_rfl
@[simp, go_sem] theorem tagg111 : tagg Try.prog 111 = some false := by kernel_rfl
@[simp, go_sem] theorem tzero111 : tzero Try.prog 111 = some [.dead] := by kernel_rfl
@[simp, go_sem] theorem tis111 : (Try.prog.underlying 111).isSome = true := by kernel_rfl
@[simp, go_sem] theorem tsz112 : tsz Try.prog 112 = some 1 := by kernel_rfl
@[simp, go_sem] theorem tby112 : tby Try.prog 112 = some 8 := by kernel_rfl
@[simp, go_sem] theorem tagg112 : tagg Try.prog 112 = some false := by kernel_rfl
@[simp, go_sem] theorem tzero112 : tzero Try.prog 112 = some [.dead] := by kernel_rfl
@[simp, go_sem] theorem tis112 : (Try.prog.underlying 112).isSome = true := by kernel_rfl
@[simp, go_sem] theorem tsz113 : tsz Try.prog 113 = some 1 := by kernel_rfl
@[simp, go_sem] theorem tby113 : tby Try.prog 113 = some 8 := by kernel_rfl
@[simp, go_sem] theorem tagg113 : tagg Try.prog 113 = some false := by kernel_rfl
@[simp, go_sem] theorem tzero113 : tzero Try.prog 113 = some [.dead] := by kernel_rfl
@[simp, go_sem] theorem tis113 : (Try.prog.underlying 113).isSome = true := by kernel_rfl
@[simp, go_sem] theorem tsz114 : tsz Try.prog 114 = some 1 := by kernel_rfl
@[simp, go_sem] theorem tby114 : tby Try.prog 114 = some 8 := by kernel_rfl
@[simp, go_sem] theorem tagg114 : tagg Try.prog 114 = some false := by kernel_rfl
@[simp, go_sem] theorem tzero114 : tzero Try.prog 114 = some [.dead] := by kernel_rfl
@[simp, go_sem] theorem tis114 : (Try.prog.underlying 114).isSome = true := by kernel_rfl
@[simp, go_sem] theorem tsz115 : tsz Try.prog 115 = some 1 := by kernel_rfl
@[simp, go_sem] theorem tby115 : tby Try.prog 115 = some 8 := by kernel_rfl
@[simp, go_sem] theorem tagg115 : tagg Try.prog 115 = some false := by kernel_rfl
@[simp, go_sem] theorem tzero115 : tzero Try.prog 115 = some [.dead] := by kernel_rfl
@[simp, go_sem] theorem tis115 : (Try.prog.underlying 115).isSome = true := by kernel_rfl
@[simp, go_sem] theorem tsz116 : tsz Try.prog 116 = some 1 := by kernel_rfl
@[simp, go_sem] theorem tby116 : tby Try.prog 116 = some 8 := by kernel_rfl
@[simp, go_sem] theorem tagg116 : tagg Try.prog 116 = some false := by kernel_rfl
@[simp, go_sem] theorem tzero116 : tzero Try.prog 116 = some [.dead] := by kernel_rfl
@[simp, go_sem] theorem tis116 : (Try.prog.underlying 116).isSome = true := by kernel_rfl
@[simp, go_sem] theorem tsz117 : tsz Try.prog 117 = some 2 := by kernel_rfl
@[simp, go_sem] theorem tby117 : tby Try.prog 117 = some 16 := by kernel_rfl
@[simp, go_sem] theorem tagg117 : tagg Try.prog 117 = some true := by kernel_rfl
@[simp, go_sem] theorem tzero117 : tzero Try.prog 117 = some [.int .i64 0, .int .i64 0] := by kernel_rfl
@[simp, go_sem] theorem tis117 : (Try.prog.underlying 117).isSome = true := by kernel_rfl
@[simp, go_sem] theorem tcmp117 : tcmp Try.prog 117 2 = true := by kernel_rfl
@[simp, go_sem] theorem tstruct117 : tstruct Try.prog 117 = true := by kernel_rfl
@[simp, go_sem] theorem tfld117f0 : tfld Try.prog 117 0 = some (0, 3) := by kernel_rfl
@[simp, go_sem] theorem tfld117f1 : tfld Try.prog 117 1 = some (1, 3) := by kernel_rfl
@[simp, go_sem] theorem tsz118 : tsz Try.prog 118 = some 1 := by kernel_rfl
@[simp, go_sem] theorem tby118 : tby Try.prog 118 = some 8 := by kernel_rfl
@[simp, go_sem] theorem tagg118 : tagg Try.prog 118 = some false := by kernel_rfl
@[simp, go_sem] theorem tzero118 : tzero Try.prog 118 = some [.dead] := by kernel_rfl
@[simp, go_sem] theorem tis118 : (Try.prog.underlying 118).isSome = true := by kernel_rfl
@[simp, go_sem] theorem tsz119 : tsz Try.prog 119 = some 1 := by kernel_rfl
@[simp, go_sem] theorem tby119 : tby Try.prog 119 = some 8 := by kernel_rfl
@[simp, go_sem] theorem tagg119 : tagg Try.prog 119 = some false := by kernel_rfl
@[simp, go_sem] theorem tzero119 : tzero Try.prog 119 = some [.dead] := by kernel_rfl
@[simp, go_sem] theorem tis119 : (Try.prog.underlying 119).isSome = true := by kernel_rfl
@[simp, go_sem] theorem tsz120 : tsz Try.prog 120 = some 1 := by kernel_rfl
@[simp, go_sem] theorem tby120 : tby Try.prog 120 = some 8 := by kernel_rfl
@[simp, go_sem] theorem tagg120 : tagg Try.prog 120 = some false := by kernel_rfl
@[simp, go_sem] theorem tzero120 : tzero Try.prog 120 = some [.dead] := by kernel_rfl
@[simp, go_sem] theorem tis120 : (Try.prog.underlying 120).isSome = true := by kernel_rfl
@[simp, go_sem] theorem tsz121 : tsz Try.prog 121 = some 1 := by kernel_rfl
@[simp, go_sem] theorem tby121 : tby Try.prog 121 = some 8 := by kernel_rfl
@[simp, go_sem] theorem tagg121 : tagg Try.prog 121 = some false := by kernel_rfl
@[simp, go_sem] theorem tzero121 : tzero Try.prog 121 = some [.dead] := by kernel_rfl
@[simp, go_sem] theorem tis121 : (Try.prog.underlying 121).isSome = true := by kernel_rfl
@[simp, go_sem] theorem tsz122 : tsz Try.prog 122 = some 1 := by kernel_rfl
@[simp, go_sem] theorem tby122 : tby Try.prog 122 = some 8 := by kernel_rfl
@[simp, go_sem] theorem tagg122 : tagg Try.prog 122 = some false := by kernel_rfl
@[simp, go_sem] theorem tzero122 : tzero Try.prog 122 = some [.dead] := by kernel_rfl
@[simp, go_sem] theorem tis122 : (Try.prog.underlying 122).isSome = true := by kernel_rfl
@[simp, go_sem] theorem tsz123 : tsz Try.prog 123 = some 1 := by kernel_rfl
@[simp, go_sem] theorem tby123 : tby Try.prog 123 = some 8 := by kernel_rfl
@[simp, go_sem] theorem tagg123 : tagg Try.prog 123 = some false := by kernel_rfl
@[simp, go_sem] theorem tzero123 : tzero Try.prog 123 = some [.dead] := by kernel_rfl
@[simp, go_sem] theorem tis123 : (Try.prog.underlying 123).isSome = true := by kernel_rfl
@[simp, go_sem] theorem tsz124 : tsz Try.prog 124 = some 1 := by kernel_rfl
@[simp, go_sem] theorem tby124 : tby Try.prog 124 = some 8 := by kernel_rfl
@[simp, go_sem] theorem tagg124 : tagg Try.prog 124 = some false := by kernel_rfl
@[simp, go_sem] theorem tzero124 : tzero Try.prog 124 = some [.dead] := by kernel_rfl
@[simp, go_sem] theorem tis124 : (Try.prog.underlying 124).isSome = true := by kernel_rfl
@[simp, go_sem] theorem tsz125 : tsz Try.prog 125 = some 1 := by kernel_rfl
@[simp, go_sem] theorem tby125 : tby Try.prog 125 = some 8 := by kernel_rfl
@[simp, go_sem] theorem tagg125 : tagg Try.prog 125 = some false := by kernel_rfl
@[simp, go_sem] theorem tzero125 : tzero Try.prog 125 = some [.dead] := by kernel_rfl
@[simp, go_sem] theorem tis125 : (Try.prog.underlying 125).isSome = true := by kernel_rfl
@[simp, go_sem] theorem tsz126 : tsz Try.prog 126 = some 1 := by kernel_rfl
@[simp, go_sem] theorem tby126 : tby Try.prog 126 = some 8 := by kernel_rfl
@[simp, go_sem] theorem tagg126 : tagg Try.prog 126 = some false := by kernel_rfl
@[simp, go_sem] theorem tzero126 : tzero Try.prog 126 = some [.dead] := by kernel_rfl
@[simp, go_sem] theorem tis126 : (Try.prog.underlying 126).isSome = true := by kernel_rfl
@[simp, go_sem] theorem tsz127 : tsz Try.prog 127 = some 1 := by kernel_rfl
@[simp, go_sem] theorem tby127 : tby Try.prog 127 = some 8 := by kernel_rfl
@[simp, go_sem] theorem tagg127 : tagg Try.prog 127 = some false := by kernel_rfl
@[simp, go_sem] theorem tzero127 : tzero Try.prog 127 = some [.dead] := by kernel_rfl
@[simp, go_sem] theorem tis127 : (Try.prog.underlying 127).isSome = true := by kernel_rfl
@[simp, go_sem] theorem tsz128 : tsz Try.prog 128 = some 1 := by kernel_rfl
@[simp, go_sem] theorem tby128 : tby Try.prog 128 = some 8 := by kernel_rfl
@[simp, go_sem] theorem tagg128 : tagg Try.prog 128 = some false := by kernel_rfl
@[simp, go_sem] theorem tzero128 : tzero Try.prog 128 = some [.dead] := by kernel_rfl
@[simp, go_sem] theorem tis128 : (Try.prog.underlying 128).isSome = true := by kernel_rfl
@[simp, go_sem] theorem tsz129 : tsz Try.prog 129 = some 1 := by kernel_rfl
@[simp, go_sem] theorem tby129 : tby Try.prog 129 = some 8 := by kernel_rfl
@[simp, go_sem] theorem tagg129 : tagg Try.prog 129 = some false := by kernel_rfl
@[simp, go_sem] theorem tzero129 : tzero Try.prog 129 = some [.dead] := by kernel_rfl
@[simp, go_sem] theorem tis129 : (Try.prog.underlying 129).isSome = true := by kernel_rfl
@[simp, go_sem] theorem tsz130 : tsz Try.prog 130 = some 1 := by kernel_rfl
@[simp, go_sem] theorem tby130 : tby Try.prog 130 = some 8 := by kernel_rfl
@[simp, go_sem] theorem tagg130 : tagg Try.prog 130 = some false := by kernel_rfl
@[simp, go_sem] theorem tzero130 : tzero Try.prog 130 = some [.dead] := by kernel_rfl
@[simp, go_sem] theorem tis130 : (Try.prog.underlying 130).isSome = true := by kernel_rfl
@[simp, go_sem] theorem tsz131 : tsz Try.prog 131 = some 1 := by kernel_rfl
@[simp, go_sem] theorem tby131 : tby Try.prog 131 = some 8 := by kernel_rfl
@[simp, go_sem] theorem tagg131 : tagg Try.prog 131 = some false := by kernel_rfl
@[simp, go_sem] theorem tzero131 : tzero Try.prog 131 = some [.dead] := by kernel_rfl
@[simp, go_sem] theorem tis131 : (Try.prog.underlying 131).isSome = true := by kernel_rfl
@[simp, go_sem] theorem tsz132 : tsz Try.prog 132 = some 1 := by kernel_rfl
@[simp, go_sem] theorem tby132 : tby Try.prog 132 = some 8 := by kernel_rfl
@[simp, go_sem] theorem tagg132 : tagg Try.prog 132 = some false := by kernel_rfl
@[simp, go_sem] theorem tzero132 : tzero Try.prog 132 = some [.dead] := by kernel_rfl
@[simp, go_sem] theorem tis132 : (Try.prog.underlying 132).isSome = true := by kernel_rfl
@[simp, go_sem] theorem tsz133 : tsz Try.prog 133 = some 1 := by kernel_rfl
@[simp, go_sem] theorem tby133 : tby Try.prog 133 = some 8 := by kernel_rfl
@[simp, go_sem] theorem tagg133 : tagg Try.prog 133 = some false := by kernel_rfl
@[simp, go_sem] theorem tzero133 : tzero Try.prog 133 = some [.dead] := by kernel_rfl
@[simp, go_sem] theorem tis133 : (Try.prog.underlying 133).isSome = true := by kernel_rfl
@[simp, go_sem] theorem tsz135 : tsz Try.prog 135 = some 1 := by kernel_rfl
@[simp, go_sem] theorem tby135 : tby Try.prog 135 = some 8 := by kernel_rfl
@[simp, go_sem] theorem tagg135 : tagg Try.prog 135 = some false := by kernel_rfl
@[simp, go_sem] theorem tzero135 : tzero Try.prog 135 = some [.dead] := by kernel_rfl
@[simp, go_sem] theorem tis135 : (Try.prog.underlying 135).isSome = true := by kernel_rfl
@[simp, go_sem] theorem tsz136 : tsz Try.prog 136 = some 1 := by kernel_rfl
@[simp, go_sem] theorem tby136 : tby Try.prog 136 = some 8 := by kernel_rfl
@[simp, go_sem] theorem tagg136 : tagg Try.prog 136 = some false := by kernel_rfl
@[simp, go_sem] theorem tzero136 : tzero Try.prog 136 = some [.dead] := by kernel_rfl
@[simp, go_sem] theorem tis136 : (Try.prog.underlying 136).isSome = true := by kernel_rfl
@[simp, go_sem] theorem tsz137 : tsz Try.prog 137 = some 1 := by kernel_rfl
@[simp, go_sem] theorem tby137 : tby Try.prog 137 = some 8 := by kernel_rfl
@[simp, go_sem] theorem tagg137 : tagg Try.prog 137 = some false := by kernel_rfl
@[simp, go_sem] theorem tzero137 : tzero Try.prog 137 = some [.dead] := by kernel_rfl
@[simp, go_sem] theorem tis137 : (Try.prog.underlying 137).isSome = true := by kernel_rfl
@[simp, go_sem] theorem tsz138 : tsz Try.prog 138 = some 1 := by kernel_rfl
@[simp, go_sem] theorem tby138 : tby Try.prog 138 = some 8 := by kernel_rfl
@[simp, go_sem] theorem tagg138 : tagg Try.prog 138 = some false := by kernel_rfl
@[simp, go_sem] theorem tzero138 : tzero Try.prog 138 = some [.dead] := by kernel_rfl
@[simp, go_sem] theorem tis138 : (Try.prog.underlying 138).isSome = true := by kernel_rfl
@[simp, go_sem] theorem tsz139 : tsz Try.prog 139 = some 1 := by kernel_rfl
@[simp, go_sem] theorem tby139 : tby Try.prog 139 = some 8 := by kernel_rfl
@[simp, go_sem] theorem tagg139 : tagg Try.prog 139 = some false := by kernel_rfl
@[simp, go_sem] theorem tzero139 : tzero Try.prog 139 = some [.dead] := by kernel_rfl
@[simp, go_sem] theorem tis139 : (Try.prog.underlying 139).isSome = true := by kernel_rfl
@[simp, go_sem] theorem tsz140 : tsz Try.prog 140 = some 1 := by kernel_rfl
@[simp, go_sem] theorem tby140 : tby Try.prog 140 = some 8 := by kernel_rfl
@[simp, go_sem] theorem tagg140 : tagg Try.prog 140 = some false := by kernel_rfl
@[simp, go_sem] theorem tzero140 : tzero Try.prog 140 = some [.dead] := by kernel_rfl
@[simp, go_sem] theorem tis140 : (Try.prog.underlying 140).isSome = true := by kernel_rfl
@[simp, go_sem] theorem tsz141 : tsz Try.prog 141 = some 1 := by kernel_rfl
@[simp, go_sem] theorem tby141 : tby Try.prog 141 = some 8 := by kernel_rfl
@[simp, go_sem] theorem tagg141 : tagg Try.prog 141 = some false := by kernel_rfl
@[simp, go_sem] theorem tzero141 : tzero Try.prog 141 = some [.dead] := by kernel_rfl
@[simp, go_sem] theorem tis141 : (Try.prog.underlying 141).isSome = true := by kernel_rfl
@[simp, go_sem] theorem tsz142 : tsz Try.prog 142 = some 1 := by kernel_rfl
@[simp, go_sem] theorem tby142 : tby Try.prog 142 = some 8 := by kernel_rfl
@[simp, go_sem] theorem tagg142 : tagg Try.prog 142 = some false := by kernel_rfl
@[simp, go_sem] theorem tzero142 : tzero Try.prog 142 = some [.nilp] := by kernel_rfl
@[simp, go_sem] theorem tis142 : (Try.prog.underlying 142).isSome = true := by kernel_rfl
@[simp, go_sem] theorem tsz143 : tsz Try.prog 143 = some 6 := by kernel_rfl
@[simp, go_sem] theorem tby143 : tby Try.prog 143 = some 128 := by kernel_rfl
@[simp, go_sem] theorem tagg143 : tagg Try.prog 143 = some true := by kernel_rfl
@[simp, go_sem] theorem tzero143 : tzero Try.prog 143 = some [.nil, .nil, .nil, .nil, .nil, .int .i64 0] := by kernel_rfl
@[simp, go_sem] theorem tis143 : (Try.prog.underlying 143).isSome = true := by kernel_rfl
@[simp, go_sem] theorem tstruct143 : tstruct Try.prog 143 = true := by kernel_rfl
@[simp, go_sem] theorem tfld143f0 : tfld Try.prog 143 0 = some (0, 24) := by kernel_rfl
@[simp, go_sem] theorem tfld143f1 : tfld Try.prog 143 1 = some (1, 27) := by kernel_rfl
@[simp, go_sem] theorem tfld143f2 : tfld Try.prog 143 2 = some (2, 27) := by kernel_rfl
@[simp, go_sem] theorem tfld143f3 : tfld Try.prog 143 3 = some (3, 27) := by kernel_rfl
@[simp, go_sem] theorem tfld143f4 : tfld Try.prog 143 4 = some (4, 27) := by kernel_rfl
@[simp, go_sem] theorem tfld143f5 : tfld Try.prog 143 5 = some (5, 3) := by kernel_rfl
@[simp, go_sem] theorem tsz144 : tsz Try.prog 144 = some 6 := by kernel_rfl
@[simp, go_sem] theorem tby144 : tby Try.prog 144 = some 128 := by kernel_rfl
@[simp, go_sem] theorem tagg144 : tagg Try.prog 144 = some true := by kernel_rfl
@[simp, go_sem] theorem tzero144 : tzero Try.prog 144 = some [.nil, .nil, .nil, .nil, .nil, .int .i64 0] := by kernel_rfl
@[simp, go_sem] theorem tis144 : (Try.prog.underlying 144).isSome = true := by kernel_rfl
@[simp, go_sem] theorem tstruct144 : tstruct Try.prog 144 = true := by kernel_rfl
@[simp, go_sem] theorem tfld144f0 : tfld Try.prog 144 0 = some (0, 24) := by kernel_rfl
@[simp, go_sem] theorem tfld144f1 : tfld Try.prog 144 1 = some (1, 27) := by kernel_rfl
@[simp, go_sem] theorem tfld144f2 : tfld Try.prog 144 2 = some (2, 27) := by kernel_rfl
@[simp, go_sem] theorem tfld144f3 : tfld Try.prog 144 3 = some (3, 27) := by kernel_rfl
@[simp, go_sem] theorem tfld144f4 : tfld Try.prog 144 4 = some (4, 27) := by kernel_rfl
@[simp, go_sem] theorem tfld144f5 : tfld Try.prog 144 5 = some (5, 3) := by kernel_rfl
@[simp, go_sem] theorem tsz145 : tsz Try.prog 145 = some 1 := by kernel_rfl
@[simp, go_sem] theorem tby145 : tby Try.prog 145 = some 8 := by kernel_rfl
@[simp, go_sem] theorem tagg145 : tagg Try.prog 145 = some false := by kernel_rfl
@[simp, go_sem] theorem tzero145 : tzero Try.prog 145 = some [.int .u64 0] := by kernel_rfl
@[simp, go_sem] theorem tis145 : (Try.prog.underlying 145).isSome = true := by kernel_rfl
@[simp, go_sem] theorem tint145 : tint Try.prog 145 = some .u64 := by kernel_rfl
@[simp, go_sem] theorem tsz147 : tsz Try.prog 147 = some 1 := by kernel_rfl
@[simp, go_sem] theorem tby147 : tby Try.prog 147 = some 8 := by kernel_rfl
@[simp, go_sem] theorem tagg147 : tagg Try.prog 147 = some false := by kernel_rfl
@[simp, go_sem] theorem tzero147 : tzero Try.prog 147 = some [.dead] := by kernel_rfl
@[simp, go_sem] theorem tis147 : (Try.prog.underlying 147).isSome = true := by kernel_rfl
@[simp, go_sem] theorem tsz148 : tsz Try.prog 148 = some 1 := by kernel_rfl
@[simp, go_sem] theorem tby148 : tby Try.prog 148 = some 8 := by kernel_rfl
@[simp, go_sem] theorem tagg148 : tagg Try.prog 148 = some false := by kernel_rfl
@[simp, go_sem] theorem tzero148 : tzero Try.prog 148 = some [.dead] := by kernel_rfl
@[simp, go_sem] theorem tis148 : (Try.prog.underlying 148).isSome = true := by kernel_rfl
@[simp, go_sem] theorem tsz149 : tsz Try.prog 149 = some 1 := by kernel_rfl
@[simp, go_sem] theorem tby149 : tby Try.prog 149 = some 24 := by kernel_rfl
@[simp, go_sem] theorem tagg149 : tagg Try.prog 149 = some false := by kernel_rfl
@[simp, go_sem] theorem tzero149 : tzero Try.prog 149 = some [.nil] := by kernel_rfl
@[simp, go_sem] theorem telem149 : telem Try.prog 149 = some 34 := by kernel_rfl
@[simp, go_sem] theorem tis149 : (Try.prog.underlying 149).isSome = true := by kernel_rfl
@[simp, go_sem] theorem tsz150 : tsz Try.prog 150 = some 1 := by kernel_rfl
@[simp, go_sem] theorem tby150 : tby Try.prog 150 = some 8 := by kernel_rfl
@[simp, go_sem] theorem tagg150 : tagg Try.prog 150 = some false := by kernel_rfl
@[simp, go_sem] theorem tzero150 : tzero Try.prog 150 = some [.dead] := by kernel_rfl
@[simp, go_sem] theorem tis150 : (Try.prog.underlying 150).isSome = true := by kernel_rfl
@[simp, go_sem] theorem tsz151 : tsz Try.prog 151 = some 1 := by kernel_rfl
@[simp, go_sem] theorem tby151 : tby Try.prog 151 = some 8 := by kernel_rfl
@[simp, go_sem] theorem tagg151 : tagg Try.prog 151 = some false := by kernel_rfl
@[simp, go_sem] theorem tzero151 : tzero Try.prog 151 = some [.dead] := by kernel_rfl
@[simp, go_sem] theorem tis151 : (Try.prog.underlying 151).isSome = true := by kernel_rfl
@[simp, go_sem] theorem tsz152 : tsz Try.prog 152 = some 1 := by kernel_rfl
@[simp, go_sem] theorem tby152 : tby Try.prog 152 = some 8 := by kernel_rfl
@[simp, go_sem] theorem tagg152 : tagg Try.prog 152 = some false := by kernel_rfl
@[simp, go_sem] theorem tzero152 : tzero Try.prog 152 = some [.dead] := by kernel_rfl
@[simp, go_sem] theorem tis152 : (Try.prog.underlying 152).isSome = true := by kernel_rfl
@[simp, go_sem] theorem tsz153 : tsz Try.prog 153 = some 1 := by kernel_rfl
@[simp, go_sem] theorem tby153 : tby Try.prog 153 = some 8 := by kernel_rfl
@[simp, go_sem] theorem tagg153 : tagg Try.prog 153 = some false := by kernel_rfl
@[simp, go_sem] theorem tzero153 : tzero Try.prog 153 = some [.dead] := by kernel_rfl
@[simp, go_sem] theorem tis153 : (Try.prog.underlying 153).isSome = true := by kernel_rfl
@[simp, go_sem] theorem tsz154 : tsz Try.prog 154 = some 1 := by kernel_rfl
@[simp, go_sem] theorem tby154 : tby Try.prog 154 = some 8 := by kernel_rfl
@[simp, go_sem] theorem tagg154 : tagg Try.prog 154 = some false := by kernel_rfl
@[simp, go_sem] theorem tzero154 : tzero Try.prog 154 = some [.dead] := by kernel_rfl
@[simp, go_sem] theorem tis154 : (Try.prog.underlying 154).isSome = true := by kernel_rfl
@[simp, go_sem] theorem tsz155 : tsz Try.prog 155 = some 1 := by kernel_rfl
@[simp, go_sem] theorem tby155 : tby Try.prog 155 = some 8 := by kernel_rfl
@[simp, go_sem] theorem tagg155 : tagg Try.prog 155 = some false := by kernel_rfl
@[simp, go_sem] theorem tzero155 : tzero Try.prog 155 = some [.dead] := by kernel_rfl
@[simp, go_sem] theorem tis155 : (Try.prog.underlying 155).isSome = true := by kernel_rfl
@[simp, go_sem] theorem tsz156 : tsz Try.prog 156 = some 1 := by kernel_rfl
@[simp, go_sem] theorem tby156 : tby Try.prog 156 = some 8 := by kernel_rfl
@[simp, go_sem] theorem tagg156 : tagg Try.prog 156 = some false := by kernel_rfl
@[simp, go_sem] theorem tzero156 : tzero Try.prog 156 = some [.dead] := by kernel_rfl
@[simp, go_sem] theorem tis156 : (Try.prog.underlying 156).isSome = true := by kernel_rfl
@[simp, go_sem] theorem tsz157 : tsz Try.prog 157 = some 1 := by kernel_rfl
@[simp, go_sem] theorem tby157 : tby Try.prog 157 = some 8 := by kernel_rfl
@[simp, go_sem] theorem tagg157 : tagg Try.prog 157 = some false := by kernel_rfl
@[simp, go_sem] theorem tzero157 : tzero Try.prog 157 = some [.dead] := by kernel_rfl
@[simp, go_sem] theorem tis157 : (Try.prog.underlying 157).isSome = true := by kernel_rfl
@[simp, go_sem] theorem tsz158 : tsz Try.prog 158 = some 1 := by kernel_rfl
@[simp, go_sem] theorem tby158 : tby Try.prog 158 = some 8 := by kernel_rfl
@[simp, go_sem] theorem tagg158 : tagg Try.prog 158 = some false := by kernel_rfl
@[simp, go_sem] theorem tzero158 : tzero Try.prog 158 = some [.dead] := by kernel_rfl
@[simp, go_sem] theorem tis158 : (Try.prog.underlying 158).isSome = true := by kernel_rfl
@[simp, go_sem] theorem tsz159 : tsz Try.prog 159 = some 1 := by kernel_rfl
@[simp, go_sem] theorem tby159 : tby Try.prog 159 = some 8 := by kernel_rfl
@[simp, go_sem] theorem tagg159 : tagg Try.prog 159 = some false := by kernel_rfl
@[simp, go_sem] theorem tzero159 : tzero Try.prog 159 = some [.dead] := by kernel_rfl
@[simp, go_sem] theorem tis159 : (Try.prog.underlying 159).isSome = true := by kernel_rfl
@[simp, go_sem] theorem tsz160 : tsz Try.prog 160 = some 1 := by kernel_rfl
@[simp, go_sem] theorem tby160 : tby Try.prog 160 = some 8 := by kernel_rfl
@[simp, go_sem] theorem tagg160 : tagg Try.prog 160 = some false := by kernel_rfl
@[simp, go_sem] theorem tzero160 : tzero Try.prog 160 = some [.dead] := by kernel_rfl
@[simp, go_sem] theorem tis160 : (Try.prog.underlying 160).isSome = true := by kernel_rfl
@[simp, go_sem] theorem tsz161 : tsz Try.prog 161 = some 1 := by kernel_rfl
@[simp, go_sem] theorem tby161 : tby Try.prog 161 = some 8 := by kernel_rfl
@[simp, go_sem] theorem tagg161 : tagg Try.prog 161 = some false := by kernel_rfl
@[simp, go_sem] theorem tzero161 : tzero Try.prog 161 = some [.dead] := by kernel_rfl
@[simp, go_sem] theorem tis161 : (Try.prog.underlying 161).isSome = true := by kernel_rfl
@[simp, go_sem] theorem tsz162 : tsz Try.prog 162 = some 1 := by kernel_rfl
@[simp, go_sem] theorem tby162 : tby Try.prog 162 = some 8 := by kernel_rfl
@[simp, go_sem] theorem tagg162 : tagg Try.prog 162 = some false := by kernel_rfl
@[simp, go_sem] theorem tzero162 : tzero Try.prog 162 = some [.dead] := by kernel_rfl
@[simp, go_sem] theorem tis162 : (Try.prog.underlying 162).isSome = true := by kernel_rfl
@[simp, go_sem] theorem tsz163 : tsz Try.prog 163 = some 1 := by kernel_rfl
@[simp, go_sem] theorem tby163 : tby Try.prog 163 = some 8 := by kernel_rfl
@[simp, go_sem] theorem tagg163 : tagg Try.prog 163 = some false := by kernel_rfl
@[simp, go_sem] theorem tzero163 : tzero Try.prog 163 = some [.dead] := by kernel_rfl
@[simp, go_sem] theorem tis163 : (Try.prog.underlying 163).isSome = true := by kernel_rfl
@[simp, go_sem] theorem tsz164 : tsz Try.prog 164 = some 1 := by kernel_rfl
@[simp, go_sem] theorem tby164 : tby Try.prog 164 = some 8 := by kernel_rfl
@[simp, go_sem] theorem tagg164 : tagg Try.prog 164 = some false := by kernel_rfl
@[simp, go_sem] theorem tzero164 : tzero Try.prog 164 = some [.dead] := by kernel_rfl
@[simp, go_sem] theorem tis164 : (Try.prog.underlying 164).isSome = true := by kernel_rfl
@[simp, go_sem] theorem tsz165 : tsz Try.prog 165 = some 1 := by kernel_rfl
@[simp, go_sem] theorem tby165 : tby Try.prog 165 = some 8 := by kernel_rfl
@[simp, go_sem] theorem tagg165 : tagg Try.prog 165 = some false := by kernel_rfl
@[simp, go_sem] theorem tzero165 : tzero Try.prog 165 = some [.dead] := by kernel_rfl
@[simp, go_sem] theorem tis165 : (Try.prog.underlying 165).isSome = true := by kernel_rfl
@[simp, go_sem] theorem tsz166 : tsz Try.prog 166 = some 1 := by kernel_rfl
@[simp, go_sem] theorem tby166 : tby Try.prog 166 = some 24 := by kernel_rfl
@[simp, go_sem] theorem tagg166 : tagg Try.prog 166 = some false := by kernel_rfl
@[simp, go_sem] theorem tzero166 : tzero Try.prog 166 = some [.nil] := by kernel_rfl
@[simp, go_sem] theorem telem166 : telem Try.prog 166 = some 37 := by kernel_rfl
@[simp, go_sem] theorem tis166 : (Try.prog.underlying 166).isSome = true := by kernel_rfl
@[simp, go_sem] theorem tsz167 : tsz Try.prog 167 = some 1 := by kernel_rfl
@[simp, go_sem] theorem tby167 : tby Try.prog 167 = some 8 := by kernel_rfl
@[simp, go_sem] theorem tagg167 : tagg Try.prog 167 = some false := by kernel_rfl
@[simp, go_sem] theorem tzero167 : tzero Try.prog 167 = some [.dead] := by kernel_rfl
@[simp, go_sem] theorem tis167 : (Try.prog.underlying 167).isSome = true := by kernel_rfl
@[simp, go_sem] theorem tsz168 : tsz Try.prog 168 = some 1 := by kernel_rfl
@[simp, go_sem] theorem tby168 : tby Try.prog 168 = some 8 := by kernel_rfl
@[simp, go_sem] theorem tagg168 : tagg Try.prog 168 = some false := by kernel_rfl
@[simp, go_sem] theorem tzero168 : tzero Try.prog 168 = some [.nilp] := by kernel_rfl
@[simp, go_sem] theorem tis168 : (Try.prog.underlying 168).isSome = true := by kernel_rfl
@[simp, go_sem] theorem tsz169 : tsz Try.prog 169 = some 3 := by kernel_rfl
@[simp, go_sem] theorem tby169 : tby Try.prog 169 = some 72 := by kernel_rfl
@[simp, go_sem] theorem tagg169 : tagg Try.prog 169 = some true := by kernel_rfl
@[simp, go_sem] theorem tzero169 : tzero Try.prog 169 = some [.nil, .nil, .nil] := by kernel_rfl
@[simp, go_sem] theorem tis169 : (Try.prog.underlying 169).isSome = true := by kernel_rfl
@[simp, go_sem] theorem tstruct169 : tstruct Try.prog 169 = true := by kernel_rfl
@[simp, go_sem] theorem tfld169f0 : tfld Try.prog 169 0 = some (0, 24) := by kernel_rfl
@[simp, go_sem] theorem tfld169f1 : tfld Try.prog 169 1 = some (1, 34) := by kernel_rfl
@[simp, go_sem] theorem tfld169f2 : tfld Try.prog 169 2 = some (2, 27) := by kernel_rfl
@[simp, go_sem] theorem tsz170 : tsz Try.prog 170 = some 3 := by kernel_rfl
@[simp, go_sem] theorem tby170 : tby Try.prog 170 = some 72 := by kernel_rfl
@[simp, go_sem] theorem tagg170 : tagg Try.prog 170 = some true := by kernel_rfl
@[simp, go_sem] theorem tzero170 : tzero Try.prog 170 = some [.nil, .nil, .nil] := by kernel_rfl
@[simp, go_sem] theorem tis170 : (Try.prog.underlying 170).isSome = true := by kernel_rfl
@[simp, go_sem] theorem tstruct170 : tstruct Try.prog 170 = true := by kernel_rfl
@[simp, go_sem] theorem tfld170f0 : tfld Try.prog 170 0 = some (0, 24) := by kernel_rfl
@[simp, go_sem] theorem tfld170f1 : tfld Try.prog 170 1 = some (1, 34) := by kernel_rfl
@[simp, go_sem] theorem tfld170f2 : tfld Try.prog 170 2 = some (2, 27) := by kernel_rfl
@[simp, go_sem] theorem tsz171 : tsz Try.prog 171 = some 1 := by kernel_rfl
@[simp, go_sem] theorem tby171 : tby Try.prog 171 = some 4 := by kernel_rfl
@[simp, go_sem] theorem tagg171 : tagg Try.prog 171 = some false := by kernel_rfl
@[simp, go_sem] theorem tzero171 : tzero Try.prog 171 = some [.int .u32 0] := by kernel_rfl
@[simp, go_sem] theorem tis171 : (Try.prog.underlying 171).isSome = true := by kernel_rfl
@[simp, go_sem] theorem tint171 : tint Try.prog 171 = some .u32 := by kernel_rfl
@[simp, go_sem] theorem tsz173 : tsz Try.prog 173 = some 1 := by kernel_rfl
@[simp, go_sem] theorem tby173 : tby Try.prog 173 = some 8 := by kernel_rfl
@[simp, go_sem] theorem tagg173 : tagg Try.prog 173 = some false := by kernel_rfl
@[simp, go_sem] theorem tzero173 : tzero Try.prog 173 = some [.dead] := by kernel_rfl
@[simp, go_sem] theorem tis173 : (Try.prog.underlying 173).isSome = true := by kernel_rfl
@[simp, go_sem] theorem tsz175 : tsz Try.prog 175 = some 1 := by kernel_rfl
@[simp, go_sem] theorem tby175 : tby Try.prog 175 = some 8 := by kernel_rfl
@[simp, go_sem] theorem tagg175 : tagg Try.prog 175 = some false := by kernel_rfl
@[simp, go_sem] theorem tzero175 : tzero Try.prog 175 = some [.dead] := by kernel_rfl
@[simp, go_sem] theorem tis175 : (Try.prog.underlying 175).isSome = true := by kernel_rfl
@[simp, go_sem] theorem tsz176 : tsz Try.prog 176 = some 1 := by kernel_rfl
@[simp, go_sem] theorem tby176 : tby Try.prog 176 = some 8 := by kernel_rfl
@[simp, go_sem] theorem tagg176 : tagg Try.prog 176 = some false := by kernel_rfl
@[simp, go_sem] theorem tzero176 : tzero Try.prog 176 = some [.dead] := by kernel_rfl
@[simp, go_sem] theorem tis176 : (Try.prog.underlying 176).isSome = true := by kernel_rfl
@[simp, go_sem] theorem tsz177 : tsz Try.prog 177 = some 1 := by kernel_rfl
@[simp, go_sem] theorem tby177 : tby Try.prog 177 = some 8 := by kernel_rfl
@[simp, go_sem] theorem tagg177 : tagg Try.prog 177 = some false := by kernel_rfl
@[simp, go_sem] theorem tzero177 : tzero Try.prog 177 = some [.dead] := by kernel_rfl
@[simp, go_sem] theorem tis177 : (Try.prog.underlying 177).isSome = true := by kernel_rfl
@[simp, go_sem] theorem tsz178 : tsz Try.prog 178 = some 1 := by kernel_rfl
@[simp, go_sem] theorem tby178 : tby Try.prog 178 = some 8 := by kernel_rfl
@[simp, go_sem] theorem tagg178 : tagg Try.prog 178 = some false := by kernel_rfl
@[simp, go_sem] theorem tzero178 : tzero Try.prog 178 = some [.dead] := by kernel_rfl
@[simp, go_sem] theorem tis178 : (Try.prog.underlying 178).isSome = true := by kernel_rfl
@[simp, go_sem] theorem tsz179 : tsz Try.prog 179 = some 1 := by kernel_rfl
@[simp, go_sem] theorem tby179 : tby Try.prog 179 = some 8 := by kernel_rfl
@[simp, go_sem] theorem tagg179 : tagg Try.prog 179 = some false := by kernel_rfl
@[simp, go_sem] theorem tzero179 : tzero Try.prog 179 = some [.dead] := by kernel_rfl
@[simp, go_sem] theorem tis179 : (Try.prog.underlying 179).isSome = true := by kernel_rfl
@[simp, go_sem] theorem tsz180 : tsz Try.prog 180 = some 1 := by kernel_rfl
@[simp, go_sem] theorem tby180 : tby Try.prog 180 = some 8 := by kernel_rfl
@[simp, go_sem] theorem tagg180 : tagg Try.prog 180 = some false := by kernel_rfl
@[simp, go_sem] theorem tzero180 : tzero Try.prog 180 = some [.dead] := by kernel_rfl
@[simp, go_sem] theorem tis180 : (Try.prog.underlying 180).isSome = true := by kernel_rfl
@[simp, go_sem] theorem tsz181 : tsz Try.prog 181 = some 1 := by kernel_rfl
@[simp, go_sem] theorem tby181 : tby Try.prog 181 = some 8 := by kernel_rfl
@[simp, go_sem] theorem tagg181 : tagg Try.prog 181 = some false := by kernel_rfl
@[simp, go_sem] theorem tzero181 : tzero Try.prog 181 = some [.dead] := by kernel_rfl
@[simp, go_sem] theorem tis181 : (Try.prog.underlying 181).isSome = true := by kernel_rfl
@[simp, go_sem] theorem tsz182 : tsz Try.prog 182 = some 1 := by kernel_rfl
@[simp, go_sem] theorem tby182 : tby Try.prog 182 = some 8 := by kernel_rfl
@[simp, go_sem] theorem tagg182 : tagg Try.prog 182 = some false := by kernel_rfl
@[simp, go_sem] theorem tzero182 : tzero Try.prog 182 = some [.dead] := by kernel_rfl
@[simp, go_sem] theorem tis182 : (Try.prog.underlying 182).isSome = true := by kernel_rfl
@[simp, go_sem] theorem tsz183 : tsz Try.prog 183 = some 1 := by kernel_rfl
@[simp, go_sem] theorem tby183 : tby Try.prog 183 = some 8 := by kernel_rfl
@[simp, go_sem] theorem tagg183 : tagg Try.prog 183 = some false := by kernel_rfl
@[simp, go_sem] theorem tzero183 : tzero Try.prog 183 = some [.dead] := by kernel_rfl
@[simp, go_sem] theorem tis183 : (Try.prog.underlying 183).isSome = true := by kernel_rfl
@[simp, go_sem] theorem tsz184 : tsz Try.prog 184 = some 1 := by kernel_rfl
@[simp, go_sem] theorem tby184 : tby Try.prog 184 = some 8 := by kernel_rfl
@[simp, go_sem] theorem tagg184 : tagg Try.prog 184 = some false := by kernel_rfl
@[simp, go_sem] theorem tzero184 : tzero Try.prog 184 = some [.dead] := by kernel_rfl
@[simp, go_sem] theorem tis184 : (Try.prog.underlying 184).isSome = true := by kernel_rfl
@[simp, go_sem] theorem tsz185 : tsz Try.prog 185 = some 1 := by kernel_rfl
@[simp, go_sem] theorem tby185 : tby Try.prog 185 = some 8 := by kernel_rfl
@[simp, go_sem] theorem tagg185 : tagg Try.prog 185 = some false := by kernel_rfl
@[simp, go_sem] theorem tzero185 : tzero Try.prog 185 = some [.dead] := by kernel_rfl
@[simp, go_sem] theorem tis185 : (Try.prog.underlying 185).isSome = true := by kernel_rfl
@[simp, go_sem] theorem tsz186 : tsz Try.prog 186 = some 1 := by kernel_rfl
@[simp, go_sem] theorem tby186 : tby Try.prog 186 = some 8 := by kernel_rfl
@[simp, go_sem] theorem tagg186 : tagg Try.prog 186 = some false := by kernel_rfl
@[simp, go_sem] theorem tzero186 : tzero Try.prog 186 = some [.dead] := by kernel_rfl
@[simp, go_sem] theorem tis186 : (Try.prog.underlying 186).isSome = true := by kernel_rfl
@[simp, go_sem] theorem tsz187 : tsz Try.prog 187 = some 1 := by kernel_rfl
@[simp, go_sem] theorem tby187 : tby Try.prog 187 = some 8 := by kernel_rfl
@[simp, go_sem] theorem tagg187 : tagg Try.prog 187 = some false := by kernel_rfl
@[simp, go_sem] theorem tzero187 : tzero Try.prog 187 = some [.int .i64 0] := by kernel_rfl
@[simp, go_sem] theorem tis187 : (Try.prog.underlying 187).isSome = true := by kernel_rfl
@[simp, go_sem] theorem tint187 : tint Try.prog 187 = some .i64 := by kernel_rfl
@[simp, go_sem] theorem tsz189 : tsz Try.prog 189 = some 1 := by kernel_rfl
@[simp, go_sem] theorem tby189 : tby Try.prog 189 = some 8 := by kernel_rfl
@[simp, go_sem] theorem tagg189 : tagg Try.prog 189 = some false := by kernel_rfl
@[simp, go_sem] theorem tzero189 : tzero Try.prog 189 = some [.dead] := by kernel_rfl
@[simp, go_sem] theorem tis189 : (Try.prog.underlying 189).isSome = true := by kernel_rfl
@[simp, go_sem] theorem tsz190 : tsz Try.prog 190 = some 1 := by kernel_rfl
@[simp, go_sem] theorem tby190 : tby Try.prog 190 = some 8 := by kernel_rfl
@[simp, go_sem] theorem tagg190 : tagg Try.prog 190 = some false := by kernel_rfl
@[simp, go_sem] theorem tzero190 : tzero Try.prog 190 = some [.dead] := by kernel_rfl
@[simp, go_sem] theorem tis190 : (Try.prog.underlying 190).isSome = true := by kernel_rfl
@[simp, go_sem] theorem tsz191 : tsz Try.prog 191 = some 1 := by kernel_rfl
@[simp, go_sem] theorem tby191 : tby Try.prog 191 = some 8 := by kernel_rfl
@[simp, go_sem] theorem tagg191 : tagg Try.prog 191 = some false := by kernel_rfl
@[simp, go_sem] theorem tzero191 : tzero Try.prog 191 = some [.dead] := by kernel_rfl
@[simp, go_sem] theorem tis191 : (Try.prog.underlying 191).isSome = true := by kernel_rfl
@[simp, go_sem] theorem tsz192 : tsz Try.prog 192 = some 1 := by kernel_rfl
@[simp, go_sem] theorem tby192 : tby Try.prog 192 = some 8 := by kernel_rfl
@[simp, go_sem] theorem tagg192 : tagg Try.prog 192 = some false := by kernel_rfl
@[simp, go_sem] theorem tzero192 : tzero Try.prog 192 = some [.dead] := by kernel_rfl
@[simp, go_sem] theorem tis192 : (Try.prog.underlying 192).isSome = true := by kernel_rfl
@[simp, go_sem] theorem tsz193 : tsz Try.prog 193 = some 1 := by kernel_rfl
@[simp, go_sem] theorem tby193 : tby Try.prog 193 = some 8 := by kernel_rfl
@[simp, go_sem] theorem tagg193 : tagg Try.prog 193 = some false := by kernel_rfl
@[simp, go_sem] theorem tzero193 : tzero Try.prog 193 = some [.dead] := by kernel_rfl
@[simp, go_sem] theorem tis193 : (Try.prog.underlying 193).isSome = true := by kernel_rfl
@[simp, go_sem] theorem tsz194 : tsz Try.prog 194 = some 1 := by kernel_rfl
@[simp, go_sem] theorem tby194 : tby Try.prog 194 = some 8 := by kernel_rfl
@[simp, go_sem] theorem tagg194 : tagg Try.prog 194 = some false := by kernel_rfl
@[simp, go_sem] theorem tzero194 : tzero Try.prog 194 = some [.int .u64 0] := by kernel_rfl
@[simp, go_sem] theorem tis194 : (Try.prog.underlying 194).isSome = true := by kernel_rfl
@[simp, go_sem] theorem tint194 : tint Try.prog 194 = some .u64 := by kernel_rfl
@[simp, go_sem] theorem tsz195 : tsz Try.prog 195 = some 1 := by kernel_rfl
@[simp, go_sem] theorem tby195 : tby Try.prog 195 = some 8 := by kernel_rfl
@[simp, go_sem] theorem tagg195 : tagg Try.prog 195 = some false := by kernel_rfl
@[simp, go_sem] theorem tzero195 : tzero Try.prog 195 = some [.dead] := by kernel_rfl
@[simp, go_sem] theorem tis195 : (Try.prog.underlying 195).isSome = true := by kernel_rfl
@[simp, go_sem] theorem tsz196 : tsz Try.prog 196 = some 1 := by kernel_rfl
@[simp, go_sem] theorem tby196 : tby Try.prog 196 = some 8 := by kernel_rfl
@[simp, go_sem] theorem tagg196 : tagg Try.prog 196 = some false := by kernel_rfl
@[simp, go_sem] theorem tzero196 : tzero Try.prog 196 = some [.dead] := by kernel_rfl
@[simp, go_sem] theorem tis196 : (Try.prog.underlying 196).isSome = true := by kernel_rfl
@[simp, go_sem] theorem tsz197 : tsz Try.prog 197 = some 1 := by kernel_rfl
@[simp, go_sem] theorem tby197 : tby Try.prog 197 = some 8 := by kernel_rfl
@[simp, go_sem] theorem tagg197 : tagg Try.prog 197 = some false := by kernel_rfl
@[simp, go_sem] theorem tzero197 : tzero Try.prog 197 = some [.dead] := by kernel_rfl
@[simp, go_sem] theorem tis197 : (Try.prog.underlying 197).isSome = true := by kernel_rfl
@[simp, go_sem] theorem tsz198 : tsz Try.prog 198 = some 1 := by kernel_rfl
@[simp, go_sem] theorem tby198 : tby Try.prog 198 = some 8 := by kernel_rfl
@[simp, go_sem] theorem tagg198 : tagg Try.prog 198 = some false := by kernel_rfl
@[simp, go_sem] theorem tzero198 : tzero Try.prog 198 = some [.nilp] := by kernel_rfl
@[simp, go_sem] theorem tis198 : (Try.prog.underlying 198).isSome = true := by kernel_rfl
@[simp, go_sem] theorem tsz199 : tsz Try.prog 199 = some 1 := by kernel_rfl
@[simp, go_sem] theorem tby199 : tby Try.prog 199 = some 8 := by kernel_rfl
@[simp, go_sem] theorem tagg199 : tagg Try.prog 199 = some false := by kernel_rfl
@[simp, go_sem] theorem tzero199 : tzero Try.prog 199 = some [.dead] := by kernel_rfl
@[simp, go_sem] theorem tis199 : (Try.prog.underlying 199).isSome = true := by kernel_rfl
@[simp, go_sem] theorem tsz200 : tsz Try.prog 200 = some 1 := by kernel_rfl
@[simp, go_sem] theorem tby200 : tby Try.prog 200 = some 8 := by kernel_rfl
@[simp, go_sem] theorem tagg200 : tagg Try.prog 200 = some false := by kernel_rfl
@[simp, go_sem] theorem tzero200 : tzero Try.prog 200 = some [.nilp] := by kernel_rfl
@[simp, go_sem] theorem tis200 : (Try.prog.underlying 200).isSome = true := by kernel_rfl
@[simp, go_sem] theorem tsz202 : tsz Try.prog 202 = some 1 := by kernel_rfl
@[simp, go_sem] theorem tby202 : tby Try.prog 202 = some 8 := by kernel_rfl
@[simp, go_sem] theorem tagg202 : tagg Try.prog 202 = some false := by kernel_rfl
@[simp, go_sem] theorem tzero202 : tzero Try.prog 202 = some [.dead] := by kernel_rfl
@[simp, go_sem] theorem tis202 : (Try.prog.underlying 202).isSome = true := by kernel_rfl
@[simp, go_sem] theorem tsz203 : tsz Try.prog 203 = some 1 := by kernel_rfl
@[simp, go_sem] theorem tby203 : tby Try.prog 203 = some 8 := by kernel_rfl
@[simp, go_sem] theorem tagg203 : tagg Try.prog 203 = some false := by kernel_rfl
@[simp, go_sem] theorem tzero203 : tzero Try.prog 203 = some [.dead] := by kernel_rfl
@[simp, go_sem] theorem tis203 : (Try.prog.underlying 203).isSome = true := by kernel_rfl
@[simp, go_sem] theorem tsz204 : tsz Try.prog 204 = some 4 := by kernel_rfl
@[simp, go_sem] theorem tby204 : tby Try.prog 204 = some 40 := by kernel_rfl
@[simp, go_sem] theorem tagg204 : tagg Try.prog 204 = some true := by kernel_rfl
@[simp, go_sem] theorem tis204 : (Try.prog.underlying 204).isSome = true := by kernel_rfl
@[simp, go_sem] theorem tstruct204 : tstruct Try.prog 204 = true := by kernel_rfl
@[simp, go_sem] theorem tfld204f0 : tfld Try.prog 204 0 = some (0, 17) := by kernel_rfl
@[simp, go_sem] theorem tfld204f1 : tfld Try.prog 204 1 = some (1, 17) := by kernel_rfl
@[simp, go_sem] theorem tfld204f2 : tfld Try.prog 204 2 = some (2, 17) := by kernel_rfl
@[simp, go_sem] theorem tfld204f3 : tfld Try.prog 204 3 = some (3, 9) := by kernel_rfl
@[simp, go_sem] theorem tsz205 : tsz Try.prog 205 = some 4 := by kernel_rfl
@[simp, go_sem] theorem tby205 : tby Try.prog 205 = some 40 := by kernel_rfl
@[simp, go_sem] theorem tagg205 : tagg Try.prog 205 = some true := by kernel_rfl
@[simp, go_sem] theorem tis205 : (Try.prog.underlying 205).isSome = true := by kernel_rfl
@[simp, go_sem] theorem tstruct205 : tstruct Try.prog 205 = true := by kernel_rfl
@[simp, go_sem] theorem tfld205f0 : tfld Try.prog 205 0 = some (0, 17) := by kernel_rfl
@[simp, go_sem] theorem tfld205f1 : tfld Try.prog 205 1 = some (1, 17) := by kernel_rfl
@[simp, go_sem] theorem tfld205f2 : tfld Try.prog 205 2 = some (2, 17) := by kernel_rfl
@[simp, go_sem] theorem tfld205f3 : tfld Try.prog 205 3 = some (3, 9) := by kernel_rfl
@[simp, go_sem] theorem tsz207 : tsz Try.prog 207 = some 0 := by kernel_rfl
@[simp, go_sem] theorem tby207 : tby Try.prog 207 = some 0 := by kernel_rfl
@[simp, go_sem] theorem tagg207 : tagg Try.prog 207 = some true := by kernel_rfl
@[simp, go_sem] theorem tzero207 : tzero Try.prog 207 = some [] := by kernel_rfl
@[simp, go_sem] theorem tis207 : (Try.prog.underlying 207).isSome = true := by kernel_rfl
@[simp, go_sem] theorem tstruct207 : tstruct Try.prog 207 = true := by kernel_rfl
@[simp, go_sem] theorem tfld207f0 : tfld Try.prog 207 0 = some (0, 206) := by kernel_rfl
@[simp, go_sem] theorem tsz208 : tsz Try.prog 208 = some 0 := by kernel_rfl
@[simp, go_sem] theorem tby208 : tby Try.prog 208 = some 0 := by kernel_rfl
@[simp, go_sem] theorem tagg208 : tagg Try.prog 208 = some true := by kernel_rfl
@[simp, go_sem] theorem tzero208 : tzero Try.prog 208 = some [] := by kernel_rfl
@[simp, go_sem] theorem tis208 : (Try.prog.underlying 208).isSome = true := by kernel_rfl
@[simp, go_sem] theorem tstruct208 : tstruct Try.prog 208 = true := by kernel_rfl
@[simp, go_sem] theorem tfld208f0 : tfld Try.prog 208 0 = some (0, 206) := by kernel_rfl
@[simp, go_sem] theorem tsz209 : tsz Try.prog 209 = some 1 := by kernel_rfl
@[simp, go_sem] theorem tby209 : tby Try.prog 209 = some 1 := by kernel_rfl
@[simp, go_sem] theorem tagg209 : tagg Try.prog 209 = some false := by kernel_rfl
@[simp, go_sem] theorem tzero209 : tzero Try.prog 209 = some [.int .u8 0] := by kernel_rfl
@[simp, go_sem] theorem tis209 : (Try.prog.underlying 209).isSome = true := by kernel_rfl
@[simp, go_sem] theorem tint209 : tint Try.prog 209 = some .u8 := by kernel_rfl
@[simp, go_sem] theorem tsz210 : tsz Try.prog 210 = some 1 := by kernel_rfl
@[simp, go_sem] theorem tby210 : tby Try.prog 210 = some 1 := by kernel_rfl
@[simp, go_sem] theorem tagg210 : tagg Try.prog 210 = some false := by kernel_rfl
@[simp, go_sem] theorem tzero210 : tzero Try.prog 210 = some [.int .u8 0] := by kernel_rfl
@[simp, go_sem] theorem tis210 : (Try.prog.underlying 210).isSome = true := by kernel_rfl
@[simp, go_sem] theorem tint210 : tint Try.prog 210 = some .u8 := by kernel_rfl
@[simp, go_sem] theorem tsz211 : tsz Try.prog 211 = some 1 := by kernel_rfl
@[simp, go_sem] theorem tby211 : tby Try.prog 211 = some 8 := by kernel_rfl
@[simp, go_sem] theorem tagg211 : tagg Try.prog 211 = some false := by kernel_rfl
@[simp, go_sem] theorem tzero211 : tzero Try.prog 211 = some [.dead] := by kernel_rfl
@[simp, go_sem] theorem tis211 : (Try.prog.underlying 211).isSome = true := by kernel_rfl
@[simp, go_sem] theorem tsz212 : tsz Try.prog 212 = some 1 := by kernel_rfl
@[simp, go_sem] theorem tby212 : tby Try.prog 212 = some 8 := by kernel_rfl
@[simp, go_sem] theorem tagg212 : tagg Try.prog 212 = some false := by kernel_rfl
@[simp, go_sem] theorem tzero212 : tzero Try.prog 212 = some [.nilp] := by kernel_rfl
@[simp, go_sem] theorem tis212 : (Try.prog.underlying 212).isSome = true := by kernel_rfl
@[simp, go_sem] theorem tsz213 : tsz Try.prog 213 = some 1 := by kernel_rfl
@[simp, go_sem] theorem tby213 : tby Try.prog 213 = some 4 := by kernel_rfl
@[simp, go_sem] theorem tagg213 : tagg Try.prog 213 = some false := by kernel_rfl
@[simp, go_sem] theorem tzero213 : tzero Try.prog 213 = some [.int .i32 0] := by kernel_rfl
@[simp, go_sem] theorem tis213 : (Try.prog.underlying 213).isSome = true := by kernel_rfl
@[simp, go_sem] theorem tint213 : tint Try.prog 213 = some .i32 := by kernel_rfl
@[simp, go_sem] theorem tsz214 : tsz Try.prog 214 = some 1 := by kernel_rfl
@[simp, go_sem] theorem tby214 : tby Try.prog 214 = some 4 := by kernel_rfl
@[simp, go_sem] theorem tagg214 : tagg Try.prog 214 = some false := by kernel_rfl
@[simp, go_sem] theorem tzero214 : tzero Try.prog 214 = some [.int .i32 0] := by kernel_rfl
@[simp, go_sem] theorem tis214 : (Try.prog.underlying 214).isSome = true := by kernel_rfl
@[simp, go_sem] theorem tint214 : tint Try.prog 214 = some .i32 := by kernel_rfl
@[simp, go_sem] theorem tsz215 : tsz Try.prog 215 = some 11 := by kernel_rfl
@[simp, go_sem] theorem tby215 : tby Try.prog 215 = some 48 := by kernel_rfl
@[simp, go_sem] theorem tagg215 : tagg Try.prog 215 = some true := by kernel_rfl
@[simp, go_sem] theorem tis215 : (Try.prog.underlying 215).isSome = true := by kernel_rfl
@[simp, go_sem] theorem tstruct215 : tstruct Try.prog 215 = true := by kernel_rfl
@[simp, go_sem] theorem tfld215f0 : tfld Try.prog 215 0 = some (0, 12) := by kernel_rfl
@[simp, go_sem] theorem tfld215f1 : tfld Try.prog 215 1 = some (1, 12) := by kernel_rfl
@[simp, go_sem] theorem tfld215f2 : tfld Try.prog 215 2 = some (2, 171) := by kernel_rfl
@[simp, go_sem] theorem tfld215f3 : tfld Try.prog 215 3 = some (3, 209) := by kernel_rfl
@[simp, go_sem] theorem tfld215f4 : tfld Try.prog 215 4 = some (4, 5) := by kernel_rfl
@[simp, go_sem] theorem tfld215f5 : tfld Try.prog 215 5 = some (5, 5) := by kernel_rfl
@[simp, go_sem] theorem tfld215f6 : tfld Try.prog 215 6 = some (6, 210) := by kernel_rfl
@[simp, go_sem] theorem tfld215f7 : tfld Try.prog 215 7 = some (7, 211) := by kernel_rfl
@[simp, go_sem] theorem tfld215f8 : tfld Try.prog 215 8 = some (8, 212) := by kernel_rfl
@[simp, go_sem] theorem tfld215f9 : tfld Try.prog 215 9 = some (9, 213) := by kernel_rfl
@[simp, go_sem] theorem tfld215f10 : tfld Try.prog 215 10 = some (10, 214) := by kernel_rfl
@[simp, go_sem] theorem tsz216 : tsz Try.prog 216 = some 11 := by kernel_rfl
@[simp, go_sem] theorem tby216 : tby Try.prog 216 = some 48 := by kernel_rfl
@[simp, go_sem] theorem tagg216 : tagg Try.prog 216 = some true := by kernel_rfl
@[simp, go_sem] theorem tis216 : (Try.prog.underlying 216).isSome = true := by kernel_rfl
@[simp, go_sem] theorem tstruct216 : tstruct Try.prog 216 = true := by kernel_rfl
@[simp, go_sem] theorem tfld216f0 : tfld Try.prog 216 0 = some (0, 12) := by kernel_rfl
@[simp, go_sem] theorem tfld216f1 : tfld Try.prog 216 1 = some (1, 12) := by kernel_rfl
@[simp, go_sem] theorem tfld216f2 : tfld Try.prog 216 2 = some (2, 171) := by kernel_rfl
@[simp, go_sem] theorem tfld216f3 : tfld Try.prog 216 3 = some (3, 209) := by kernel_rfl
@[simp, go_sem] theorem tfld216f4 : tfld Try.prog 216 4 = some (4, 5) := by kernel_rfl
@[simp, go_sem] theorem tfld216f5 : tfld Try.prog 216 5 = some (5, 5) := by kernel_rfl
@[simp, go_sem] theorem tfld216f6 : tfld Try.prog 216 6 = some (6, 210) := by kernel_rfl
@[simp, go_sem] theorem tfld216f7 : tfld Try.prog 216 7 = some (7, 211) := by kernel_rfl
@[simp, go_sem] theorem tfld216f8 : tfld Try.prog 216 8 = some (8, 212) := by kernel_rfl
@[simp, go_sem] theorem tfld216f9 : tfld Try.prog 216 9 = some (9, 213) := by kernel_rfl
@[simp, go_sem] theorem tfld216f10 : tfld Try.prog 216 10 = some (10, 214) := by kernel_rfl
@[simp, go_sem] theorem tsz217 : tsz Try.prog 217 = some 1 := by kernel_rfl
@[simp, go_sem] theorem tby217 : tby Try.prog 217 = some 8 := by kernel_rfl
@[simp, go_sem] theorem tagg217 : tagg Try.prog 217 = some false := by kernel_rfl
@[simp, go_sem] theorem tzero217 : tzero Try.prog 217 = some [.dead] := by kernel_rfl
@[simp, go_sem] theorem tis217 : (Try.prog.underlying 217).isSome = true := by kernel_rfl
end Go.Proofs.Ytmpbbjdkpdakeaa
