/- Texts of ours, joined: Ty. -/
import Derived.Test.YtjkcoldpecdajaaProg
import Derived.Test.YtjkcoldpecdajaaAbs2
import Derived.KernelRfl
/- Facts on the types of the translation, each a closed equation; written by wip/gen/gen_types.py. -/
namespace Go.Proofs.Ytjkcoldpecdajaa
open Go.Abs
@[simp, go_sem] theorem tsz1 : tsz Try.prog 1 = some 1 := by kernel_rfl
@[simp, go_sem] theorem tby1 : tby Try.prog 1 = some 8 := by kernel_rfl
@[simp, go_sem] theorem tagg1 : tagg Try.prog 1 = some false := by kernel_rfl
@[simp, go_sem] theorem tzero1 : tzero Try.prog 1 = some [.dead] := by kernel_rfl
@[simp, go_sem] theorem tis1 : (Try.prog.underlying 1).isSome = true := by kernel_rfl
@[simp, go_sem] theorem tsz2 : tsz Try.prog 2 = some 1 := by kernel_rfl
@[simp, go_sem] theorem tby2 : tby Try.prog 2 = some 8 := by kernel_rfl
@[simp, go_sem] theorem tagg2 : tagg Try.prog 2 = some false := by kernel_rfl
@[simp, go_sem] theorem tzero2 : tzero Try.prog 2 = some [.int .i64 0] := by kernel_rfl
@[simp, go_sem] theorem tis2 : (Try.prog.underlying 2).isSome = true := by kernel_rfl
@[simp, go_sem] theorem tint2 : tint Try.prog 2 = some .i64 := by kernel_rfl
@[simp, go_sem] theorem tsz3 : tsz Try.prog 3 = some 1 := by kernel_rfl
@[simp, go_sem] theorem tby3 : tby Try.prog 3 = some 8 := by kernel_rfl
@[simp, go_sem] theorem tagg3 : tagg Try.prog 3 = some false := by kernel_rfl
@[simp, go_sem] theorem tzero3 : tzero Try.prog 3 = some [.int .i64 0] := by kernel_rfl
@[simp, go_sem] theorem tis3 : (Try.prog.underlying 3).isSome = true := by kernel_rfl
@[simp, go_sem] theorem tint3 : tint Try.prog 3 = some .i64 := by kernel_rfl
@[simp, go_sem] theorem tsz4 : tsz Try.prog 4 = some 1 := by kernel_rfl
@[simp, go_sem] theorem tby4 : tby Try.prog 4 = some 1 := by kernel_rfl
@[simp, go_sem] theorem tagg4 : tagg Try.prog 4 = some false := by kernel_rfl
@[simp, go_sem] theorem tzero4 : tzero Try.prog 4 = some [.bool false] := by kernel_rfl
@[simp, go_sem] theorem tis4 : (Try.prog.underlying 4).isSome = true := by kernel_rfl
@[simp, go_sem] theorem tun4 : Try.prog.underlying 4 = some .bool := by kernel_rfl
@[simp, go_sem] theorem tsz5 : tsz Try.prog 5 = some 1 := by kernel_rfl
@[simp, go_sem] theorem tby5 : tby Try.prog 5 = some 1 := by kernel_rfl
@[simp, go_sem] theorem tagg5 : tagg Try.prog 5 = some false := by kernel_rfl
@[simp, go_sem] theorem tzero5 : tzero Try.prog 5 = some [.int .u8 0] := by kernel_rfl
@[simp, go_sem] theorem tis5 : (Try.prog.underlying 5).isSome = true := by kernel_rfl
@[simp, go_sem] theorem tint5 : tint Try.prog 5 = some .u8 := by kernel_rfl
@[simp, go_sem] theorem tsz6 : tsz Try.prog 6 = some 1 := by kernel_rfl
@[simp, go_sem] theorem tby6 : tby Try.prog 6 = some 1 := by kernel_rfl
@[simp, go_sem] theorem tagg6 : tagg Try.prog 6 = some false := by kernel_rfl
@[simp, go_sem] theorem tzero6 : tzero Try.prog 6 = some [.int .u8 0] := by kernel_rfl
@[simp, go_sem] theorem tis6 : (Try.prog.underlying 6).isSome = true := by kernel_rfl
@[simp, go_sem] theorem tint6 : tint Try.prog 6 = some .u8 := by kernel_rfl
@[simp, go_sem] theorem tsz7 : tsz Try.prog 7 = some 4 := by kernel_rfl
@[simp, go_sem] theorem tby7 : tby Try.prog 7 = some 24 := by kernel_rfl
@[simp, go_sem] theorem tagg7 : tagg Try.prog 7 = some true := by kernel_rfl
@[simp, go_sem] theorem tzero7 : tzero Try.prog 7 = some [.int .i64 0, .int .i64 0, .bool false, .int .u8 0] := by kernel_rfl
@[simp, go_sem] theorem tis7 : (Try.prog.underlying 7).isSome = true := by kernel_rfl
@[simp, go_sem] theorem tstruct7 : tstruct Try.prog 7 = true := by kernel_rfl
@[simp, go_sem] theorem tfld7f0 : tfld Try.prog 7 0 = some (0, 2) := by kernel_rfl
@[simp, go_sem] theorem tfld7f1 : tfld Try.prog 7 1 = some (1, 3) := by kernel_rfl
@[simp, go_sem] theorem tfld7f2 : tfld Try.prog 7 2 = some (2, 4) := by kernel_rfl
@[simp, go_sem] theorem tfld7f3 : tfld Try.prog 7 3 = some (3, 6) := by kernel_rfl
@[simp, go_sem] theorem tsz8 : tsz Try.prog 8 = some 4 := by kernel_rfl
@[simp, go_sem] theorem tby8 : tby Try.prog 8 = some 24 := by kernel_rfl
@[simp, go_sem] theorem tagg8 : tagg Try.prog 8 = some true := by kernel_rfl
@[simp, go_sem] theorem tzero8 : tzero Try.prog 8 = some [.int .i64 0, .int .i64 0, .bool false, .int .u8 0] := by kernel_rfl
@[simp, go_sem] theorem tis8 : (Try.prog.underlying 8).isSome = true := by kernel_rfl
@[simp, go_sem] theorem tstruct8 : tstruct Try.prog 8 = true := by kernel_rfl
@[simp, go_sem] theorem tfld8f0 : tfld Try.prog 8 0 = some (0, 2) := by kernel_rfl
@[simp, go_sem] theorem tfld8f1 : tfld Try.prog 8 1 = some (1, 3) := by kernel_rfl
@[simp, go_sem] theorem tfld8f2 : tfld Try.prog 8 2 = some (2, 4) := by kernel_rfl
@[simp, go_sem] theorem tfld8f3 : tfld Try.prog 8 3 = some (3, 6) := by kernel_rfl
@[simp, go_sem] theorem tsz9 : tsz Try.prog 9 = some 1 := by kernel_rfl
@[simp, go_sem] theorem tby9 : tby Try.prog 9 = some 16 := by kernel_rfl
@[simp, go_sem] theorem tagg9 : tagg Try.prog 9 = some false := by kernel_rfl
@[simp, go_sem] theorem tzero9 : tzero Try.prog 9 = some [.str ⟨#[]⟩] := by kernel_rfl
@[simp, go_sem] theorem tis9 : (Try.prog.underlying 9).isSome = true := by kernel_rfl
@[simp, go_sem] theorem tun9 : Try.prog.underlying 9 = some .string := by kernel_rfl
@[simp, go_sem] theorem tsz10 : tsz Try.prog 10 = some 1 := by kernel_rfl
@[simp, go_sem] theorem tby10 : tby Try.prog 10 = some 16 := by kernel_rfl
@[simp, go_sem] theorem tagg10 : tagg Try.prog 10 = some false := by kernel_rfl
@[simp, go_sem] theorem tzero10 : tzero Try.prog 10 = some [.str ⟨#[]⟩] := by kernel_rfl
@[simp, go_sem] theorem tis10 : (Try.prog.underlying 10).isSome = true := by kernel_rfl
@[simp, go_sem] theorem tun10 : Try.prog.underlying 10 = some .string := by kernel_rfl
@[simp, go_sem] theorem tsz11 : tsz Try.prog 11 = some 1 := by kernel_rfl
@[simp, go_sem] theorem tby11 : tby Try.prog 11 = some 16 := by kernel_rfl
@[simp, go_sem] theorem tagg11 : tagg Try.prog 11 = some false := by kernel_rfl
@[simp, go_sem] theorem tzero11 : tzero Try.prog 11 = some [.str ⟨#[]⟩] := by kernel_rfl
@[simp, go_sem] theorem tis11 : (Try.prog.underlying 11).isSome = true := by kernel_rfl
@[simp, go_sem] theorem tun11 : Try.prog.underlying 11 = some .string := by kernel_rfl
@[simp, go_sem] theorem tsz12 : tsz Try.prog 12 = some 1 := by kernel_rfl
@[simp, go_sem] theorem tby12 : tby Try.prog 12 = some 8 := by kernel_rfl
@[simp, go_sem] theorem tagg12 : tagg Try.prog 12 = some false := by kernel_rfl
@[simp, go_sem] theorem tzero12 : tzero Try.prog 12 = some [.int .u64 0] := by kernel_rfl
@[simp, go_sem] theorem tis12 : (Try.prog.underlying 12).isSome = true := by kernel_rfl
@[simp, go_sem] theorem tint12 : tint Try.prog 12 = some .u64 := by kernel_rfl
@[simp, go_sem] theorem tsz13 : tsz Try.prog 13 = some 2 := by kernel_rfl
@[simp, go_sem] theorem tby13 : tby Try.prog 13 = some 24 := by kernel_rfl
@[simp, go_sem] theorem tagg13 : tagg Try.prog 13 = some true := by kernel_rfl
@[simp, go_sem] theorem tzero13 : tzero Try.prog 13 = some [.str ⟨#[]⟩, .int .u64 0] := by kernel_rfl
@[simp, go_sem] theorem tis13 : (Try.prog.underlying 13).isSome = true := by kernel_rfl
@[simp, go_sem] theorem tstruct13 : tstruct Try.prog 13 = true := by kernel_rfl
@[simp, go_sem] theorem tfld13f0 : tfld Try.prog 13 0 = some (0, 9) := by kernel_rfl
@[simp, go_sem] theorem tfld13f1 : tfld Try.prog 13 1 = some (1, 12) := by kernel_rfl
@[simp, go_sem] theorem tsz14 : tsz Try.prog 14 = some 2 := by kernel_rfl
@[simp, go_sem] theorem tby14 : tby Try.prog 14 = some 24 := by kernel_rfl
@[simp, go_sem] theorem tagg14 : tagg Try.prog 14 = some true := by kernel_rfl
@[simp, go_sem] theorem tzero14 : tzero Try.prog 14 = some [.str ⟨#[]⟩, .int .u64 0] := by kernel_rfl
@[simp, go_sem] theorem tis14 : (Try.prog.underlying 14).isSome = true := by kernel_rfl
@[simp, go_sem] theorem tstruct14 : tstruct Try.prog 14 = true := by kernel_rfl
@[simp, go_sem] theorem tfld14f0 : tfld Try.prog 14 0 = some (0, 9) := by kernel_rfl
@[simp, go_sem] theorem tfld14f1 : tfld Try.prog 14 1 = some (1, 12) := by kernel_rfl
@[simp, go_sem] theorem tsz15 : tsz Try.prog 15 = some 1 := by kernel_rfl
@[simp, go_sem] theorem tby15 : tby Try.prog 15 = some 8 := by kernel_rfl
@[simp, go_sem] theorem tagg15 : tagg Try.prog 15 = some false := by kernel_rfl
@[simp, go_sem] theorem tzero15 : tzero Try.prog 15 = some [.nilp] := by kernel_rfl
@[simp, go_sem] theorem tis15 : (Try.prog.underlying 15).isSome = true := by kernel_rfl
@[simp, go_sem] theorem tsz16 : tsz Try.prog 16 = some 1 := by kernel_rfl
@[simp, go_sem] theorem tby16 : tby Try.prog 16 = some 8 := by kernel_rfl
@[simp, go_sem] theorem tagg16 : tagg Try.prog 16 = some false := by kernel_rfl
@[simp, go_sem] theorem tzero16 : tzero Try.prog 16 = some [.nilp] := by kernel_rfl
@[simp, go_sem] theorem tis16 : (Try.prog.underlying 16).isSome = true := by kernel_rfl
@[simp, go_sem] theorem tsz17 : tsz Try.prog 17 = some 1 := by kernel_rfl
@[simp, go_sem] theorem tby17 : tby Try.prog 17 = some 8 := by kernel_rfl
@[simp, go_sem] theorem tagg17 : tagg Try.prog 17 = some false := by kernel_rfl
@[simp, go_sem] theorem tzero17 : tzero Try.prog 17 = some [.nilp] := by kernel_rfl
@[simp, go_sem] theorem tis17 : (Try.prog.underlying 17).isSome = true := by kernel_rfl
@[simp, go_sem] theorem tsz18 : tsz Try.prog 18 = some 1 := by kernel_rfl
@[simp, go_sem] theorem tby18 : tby Try.prog 18 = some 8 := by kernel_rfl
@[simp, go_sem] theorem tagg18 : tagg Try.prog 18 = some true := by kernel_rfl
@[simp, go_sem] theorem tzero18 : tzero Try.prog 18 = some [.nilp] := by kernel_rfl
@[simp, go_sem] theorem tis18 : (Try.prog.underlying 18).isSome = true := by kernel_rfl
@[simp, go_sem] theorem tstruct18 : tstruct Try.prog 18 = true := by kernel_rfl
@[simp, go_sem] theorem tfld18f0 : tfld Try.prog 18 0 = some (0, 17) := by kernel_rfl
@[simp, go_sem] theorem tsz19 : tsz Try.prog 19 = some 1 := by kernel_rfl
@[simp, go_sem] theorem tby19 : tby Try.prog 19 = some 8 := by kernel_rfl
@[simp, go_sem] theorem tagg19 : tagg Try.prog 19 = some true := by kernel_rfl
@[simp, go_sem] theorem tzero19 : tzero Try.prog 19 = some [.nilp] := by kernel_rfl
@[simp, go_sem] theorem tis19 : (Try.prog.underlying 19).isSome = true := by kernel_rfl
@[simp, go_sem] theorem tstruct19 : tstruct Try.prog 19 = true := by kernel_rfl
@[simp, go_sem] theorem tfld19f0 : tfld Try.prog 19 0 = some (0, 17) := by kernel_rfl
@[simp, go_sem] theorem tsz21 : tsz Try.prog 21 = some 1 := by kernel_rfl
@[simp, go_sem] theorem tby21 : tby Try.prog 21 = some 4 := by kernel_rfl
@[simp, go_sem] theorem tagg21 : tagg Try.prog 21 = some false := by kernel_rfl
@[simp, go_sem] theorem tzero21 : tzero Try.prog 21 = some [.int .i32 0] := by kernel_rfl
@[simp, go_sem] theorem tis21 : (Try.prog.underlying 21).isSome = true := by kernel_rfl
@[simp, go_sem] theorem tint21 : tint Try.prog 21 = some .i32 := by kernel_rfl
@[simp, go_sem] theorem tsz22 : tsz Try.prog 22 = some 1 := by kernel_rfl
@[simp, go_sem] theorem tby22 : tby Try.prog 22 = some 24 := by kernel_rfl
@[simp, go_sem] theorem tagg22 : tagg Try.prog 22 = some false := by kernel_rfl
@[simp, go_sem] theorem tzero22 : tzero Try.prog 22 = some [.nil] := by kernel_rfl
@[simp, go_sem] theorem telem22 : telem Try.prog 22 = some 5 := by kernel_rfl
@[simp, go_sem] theorem tis22 : (Try.prog.underlying 22).isSome = true := by kernel_rfl
@[simp, go_sem] theorem tsz23 : tsz Try.prog 23 = some 1 := by kernel_rfl
@[simp, go_sem] theorem tby23 : tby Try.prog 23 = some 8 := by kernel_rfl
@[simp, go_sem] theorem tagg23 : tagg Try.prog 23 = some false := by kernel_rfl
@[simp, go_sem] theorem tzero23 : tzero Try.prog 23 = some [.dead] := by kernel_rfl
@[simp, go_sem] theorem tis23 : (Try.prog.underlying 23).isSome = true := by kernel_rfl
@[simp, go_sem] theorem tsz24 : tsz Try.prog 24 = some 1 := by kernel_rfl
@[simp, go_sem] theorem tby24 : tby Try.prog 24 = some 24 := by kernel_rfl
@[simp, go_sem] theorem tagg24 : tagg Try.prog 24 = some false := by kernel_rfl
@[simp, go_sem] theorem tzero24 : tzero Try.prog 24 = some [.nil] := by kernel_rfl
@[simp, go_sem] theorem telem24 : telem Try.prog 24 = some 119 := by kernel_rfl
@[simp, go_sem] theorem tis24 : (Try.prog.underlying 24).isSome = true := by kernel_rfl
@[simp, go_sem] theorem tsz25 : tsz Try.prog 25 = some 1 := by kernel_rfl
@[simp, go_sem] theorem tby25 : tby Try.prog 25 = some 24 := by kernel_rfl
@[simp, go_sem] theorem tagg25 : tagg Try.prog 25 = some false := by kernel_rfl
@[simp, go_sem] theorem tzero25 : tzero Try.prog 25 = some [.nil] := by kernel_rfl
@[simp, go_sem] theorem telem25 : telem Try.prog 25 = some 3 := by kernel_rfl
@[simp, go_sem] theorem tis25 : (Try.prog.underlying 25).isSome = true := by kernel_rfl
@[simp, go_sem] theorem tsz26 : tsz Try.prog 26 = some 3 := by kernel_rfl
@[simp, go_sem] theorem tby26 : tby Try.prog 26 = some 56 := by kernel_rfl
@[simp, go_sem] theorem tagg26 : tagg Try.prog 26 = some true := by kernel_rfl
@[simp, go_sem] theorem tzero26 : tzero Try.prog 26 = some [.int .i64 0, .nil, .nil] := by kernel_rfl
@[simp, go_sem] theorem tis26 : (Try.prog.underlying 26).isSome = true := by kernel_rfl
@[simp, go_sem] theorem tstruct26 : tstruct Try.prog 26 = true := by kernel_rfl
@[simp, go_sem] theorem tfld26f0 : tfld Try.prog 26 0 = some (0, 3) := by kernel_rfl
@[simp, go_sem] theorem tfld26f1 : tfld Try.prog 26 1 = some (1, 24) := by kernel_rfl
@[simp, go_sem] theorem tfld26f2 : tfld Try.prog 26 2 = some (2, 25) := by kernel_rfl
@[simp, go_sem] theorem tsz27 : tsz Try.prog 27 = some 3 := by kernel_rfl
@[simp, go_sem] theorem tby27 : tby Try.prog 27 = some 56 := by kernel_rfl
@[simp, go_sem] theorem tagg27 : tagg Try.prog 27 = some true := by kernel_rfl
@[simp, go_sem] theorem tzero27 : tzero Try.prog 27 = some [.int .i64 0, .nil, .nil] := by kernel_rfl
@[simp, go_sem] theorem tis27 : (Try.prog.underlying 27).isSome = true := by kernel_rfl
@[simp, go_sem] theorem tstruct27 : tstruct Try.prog 27 = true := by kernel_rfl
@[simp, go_sem] theorem tfld27f0 : tfld Try.prog 27 0 = some (0, 3) := by kernel_rfl
@[simp, go_sem] theorem tfld27f1 : tfld Try.prog 27 1 = some (1, 24) := by kernel_rfl
@[simp, go_sem] theorem tfld27f2 : tfld Try.prog 27 2 = some (2, 25) := by kernel_rfl
@[simp, go_sem] theorem tsz29 : tsz Try.prog 29 = some 1 := by kernel_rfl
@[simp, go_sem] theorem tby29 : tby Try.prog 29 = some 8 := by kernel_rfl
@[simp, go_sem] theorem tagg29 : tagg Try.prog 29 = some false := by kernel_rfl
@[simp, go_sem] theorem tzero29 : tzero Try.prog 29 = some [.dead] := by kernel_rfl
@[simp, go_sem] theorem tis29 : (Try.prog.underlying 29).isSome = true := by kernel_rfl
@[simp, go_sem] theorem tsz31 : tsz Try.prog 31 = some 1 := by kernel_rfl
@[simp, go_sem] theorem tby31 : tby Try.prog 31 = some 8 := by kernel_rfl
@[simp, go_sem] theorem tagg31 : tagg Try.prog 31 = some false := by kernel_rfl
@[simp, go_sem] theorem tzero31 : tzero Try.prog 31 = some [.dead] := by kernel_rfl
@[simp, go_sem] theorem tis31 : (Try.prog.underlying 31).isSome = true := by kernel_rfl
@[simp, go_sem] theorem tsz32 : tsz Try.prog 32 = some 1 := by kernel_rfl
@[simp, go_sem] theorem tby32 : tby Try.prog 32 = some 8 := by kernel_rfl
@[simp, go_sem] theorem tagg32 : tagg Try.prog 32 = some false := by kernel_rfl
@[simp, go_sem] theorem tzero32 : tzero Try.prog 32 = some [.dead] := by kernel_rfl
@[simp, go_sem] theorem tis32 : (Try.prog.underlying 32).isSome = true := by kernel_rfl
@[simp, go_sem] theorem tsz33 : tsz Try.prog 33 = some 1 := by kernel_rfl
@[simp, go_sem] theorem tby33 : tby Try.prog 33 = some 8 := by kernel_rfl
@[simp, go_sem] theorem tagg33 : tagg Try.prog 33 = some false := by kernel_rfl
@[simp, go_sem] theorem tzero33 : tzero Try.prog 33 = some [.dead] := by kernel_rfl
@[simp, go_sem] theorem tis33 : (Try.prog.underlying 33).isSome = true := by kernel_rfl
@[simp, go_sem] theorem tsz34 : tsz Try.prog 34 = some 1 := by kernel_rfl
@[simp, go_sem] theorem tby34 : tby Try.prog 34 = some 8 := by kernel_rfl
@[simp, go_sem] theorem tagg34 : tagg Try.prog 34 = some false := by kernel_rfl
@[simp, go_sem] theorem tzero34 : tzero Try.prog 34 = some [.dead] := by kernel_rfl
@[simp, go_sem] theorem tis34 : (Try.prog.underlying 34).isSome = true := by kernel_rfl
@[simp, go_sem] theorem tsz35 : tsz Try.prog 35 = some 1 := by kernel_rfl
@[simp, go_sem] theorem tby35 : tby Try.prog 35 = some 24 := by kernel_rfl
@[simp, go_sem] theorem tagg35 : tagg Try.prog 35 = some false := by kernel_rfl
@[simp, go_sem] theorem tzero35 : tzero Try.prog 35 = some [.nil] := by kernel_rfl
@[simp, go_sem] theorem telem35 : telem Try.prog 35 = some 4 := by kernel_rfl
@[simp, go_sem] theorem tis35 : (Try.prog.underlying 35).isSome = true := by kernel_rfl
@[simp, go_sem] theorem tsz36 : tsz Try.prog 36 = some 1 := by kernel_rfl
@[simp, go_sem] theorem tby36 : tby Try.prog 36 = some 8 := by kernel_rfl
@[simp, go_sem] theorem tagg36 : tagg Try.prog 36 = some false := by kernel_rfl
@[simp, go_sem] theorem tzero36 : tzero Try.prog 36 = some [.dead] := by kernel_rfl
@[simp, go_sem] theorem tis36 : (Try.prog.underlying 36).isSome = true := by kernel_rfl
@[simp, go_sem] theorem tsz37 : tsz Try.prog 37 = some 1 := by kernel_rfl
@[simp, go_sem] theorem tby37 : tby Try.prog 37 = some 8 := by kernel_rfl
@[simp, go_sem] theorem tagg37 : tagg Try.prog 37 = some false := by kernel_rfl
@[simp, go_sem] theorem tzero37 : tzero Try.prog 37 = some [.int .u64 0] := by kernel_rfl
@[simp, go_sem] theorem tis37 : (Try.prog.underlying 37).isSome = true := by kernel_rfl
@[simp, go_sem] theorem tint37 : tint Try.prog 37 = some .u64 := by kernel_rfl
@[simp, go_sem] theorem tsz39 : tsz Try.prog 39 = some 1 := by kernel_rfl
@[simp, go_sem] theorem tby39 : tby Try.prog 39 = some 8 := by kernel_rfl
@[simp, go_sem] theorem tagg39 : tagg Try.prog 39 = some false := by kernel_rfl
@[simp, go_sem] theorem tzero39 : tzero Try.prog 39 = some [.dead] := by kernel_rfl
@[simp, go_sem] theorem tis39 : (Try.prog.underlying 39).isSome = true := by kernel_rfl
@[simp, go_sem] theorem tsz40 : tsz Try.prog 40 = some 1 := by kernel_rfl
@[simp, go_sem] theorem tby40 : tby Try.prog 40 = some 8 := by kernel_rfl
@[simp, go_sem] theorem tagg40 : tagg Try.prog 40 = some false := by kernel_rfl
@[simp, go_sem] theorem tzero40 : tzero Try.prog 40 = some [.dead] := by kernel_rfl
@[simp, go_sem] theorem tis40 : (Try.prog.underlying 40).isSome = true := by kernel_rfl
@[simp, go_sem] theorem tsz41 : tsz Try.prog 41 = some 1 := by kernel_rfl
@[simp, go_sem] theorem tby41 : tby Try.prog 41 = some 8 := by kernel_rfl
@[simp, go_sem] theorem tagg41 : tagg Try.prog 41 = some false := by kernel_rfl
@[simp, go_sem] theorem tzero41 : tzero Try.prog 41 = some [.dead] := by kernel_rfl
@[simp, go_sem] theorem tis41 : (Try.prog.underlying 41).isSome = true := by kernel_rfl
@[simp, go_sem] theorem tsz43 : tsz Try.prog 43 = some 1 := by kernel_rfl
@[simp, go_sem] theorem tby43 : tby Try.prog 43 = some 8 := by kernel_rfl
@[simp, go_sem] theorem tagg43 : tagg Try.prog 43 = some false := by kernel_rfl
@[simp, go_sem] theorem tzero43 : tzero Try.prog 43 = some [.dead] := by kernel_rfl
@[simp, go_sem] theorem tis43 : (Try.prog.underlying 43).isSome = true := by kernel_rfl
@[simp, go_sem] theorem tsz45 : tsz Try.prog 45 = some 1 := by kernel_rfl
@[simp, go_sem] theorem tby45 : tby Try.prog 45 = some 8 := by kernel_rfl
@[simp, go_sem] theorem tagg45 : tagg Try.prog 45 = some false := by kernel_rfl
@[simp, go_sem] theorem tzero45 : tzero Try.prog 45 = some [.dead] := by kernel_rfl
@[simp, go_sem] theorem tis45 : (Try.prog.underlying 45).isSome = true := by kernel_rfl
@[simp, go_sem] theorem tsz46 : tsz Try.prog 46 = some 1 := by kernel_rfl
@[simp, go_sem] theorem tby46 : tby Try.prog 46 = some 24 := by kernel_rfl
@[simp, go_sem] theorem tagg46 : tagg Try.prog 46 = some false := by kernel_rfl
@[simp, go_sem] theorem tzero46 : tzero Try.prog 46 = some [.nil] := by kernel_rfl
@[simp, go_sem] theorem telem46 : telem Try.prog 46 = some 25 := by kernel_rfl
@[simp, go_sem] theorem tis46 : (Try.prog.underlying 46).isSome = true := by kernel_rfl
@[simp, go_sem] theorem tsz47 : tsz Try.prog 47 = some 2 := by kernel_rfl
@[simp, go_sem] theorem tby47 : tby Try.prog 47 = some 32 := by kernel_rfl
@[simp, go_sem] theorem tagg47 : tagg Try.prog 47 = some true := by kernel_rfl
@[simp, go_sem] theorem tzero47 : tzero Try.prog 47 = some [.int .i64 0, .nil] := by kernel_rfl
@[simp, go_sem] theorem tis47 : (Try.prog.underlying 47).isSome = true := by kernel_rfl
@[simp, go_sem] theorem tstruct47 : tstruct Try.prog 47 = true := by kernel_rfl
@[simp, go_sem] theorem tfld47f0 : tfld Try.prog 47 0 = some (0, 3) := by kernel_rfl
@[simp, go_sem] theorem tfld47f1 : tfld Try.prog 47 1 = some (1, 46) := by kernel_rfl
@[simp, go_sem] theorem tsz48 : tsz Try.prog 48 = some 2 := by kernel_rfl
@[simp, go_sem] theorem tby48 : tby Try.prog 48 = some 32 := by kernel_rfl
@[simp, go_sem] theorem tagg48 : tagg Try.prog 48 = some true := by kernel_rfl
@[simp, go_sem] theorem tzero48 : tzero Try.prog 48 = some [.int .i64 0, .nil] := by kernel_rfl
@[simp, go_sem] theorem tis48 : (Try.prog.underlying 48).isSome = true := by kernel_rfl
@[simp, go_sem] theorem tstruct48 : tstruct Try.prog 48 = true := by kernel_rfl
@[simp, go_sem] theorem tfld48f0 : tfld Try.prog 48 0 = some (0, 3) := by kernel_rfl
@[simp, go_sem] theorem tfld48f1 : tfld Try.prog 48 1 = some (1, 46) := by kernel_rfl
@[simp, go_sem] theorem tsz50 : tsz Try.prog 50 = some 1 := by kernel_rfl
@[simp, go_sem] theorem tby50 : tby Try.prog 50 = some 8 := by kernel_rfl
@[simp, go_sem] theorem tagg50 : tagg Try.prog 50 = some false := by kernel_rfl
@[simp, go_sem] theorem tzero50 : tzero Try.prog 50 = some [.dead] := by kernel_rfl
@[simp, go_sem] theorem tis50 : (Try.prog.underlying 50).isSome = true := by kernel_rfl
@[simp, go_sem] theorem tsz52 : tsz Try.prog 52 = some 1 := by kernel_rfl
@[simp, go_sem] theorem tby52 : tby Try.prog 52 = some 8 := by kernel_rfl
@[simp, go_sem] theorem tagg52 : tagg Try.prog 52 = some false := by kernel_rfl
@[simp, go_sem] theorem tzero52 : tzero Try.prog 52 = some [.dead] := by kernel_rfl
@[simp, go_sem] theorem tis52 : (Try.prog.underlying 52).isSome = true := by kernel_rfl
@[simp, go_sem] theorem tsz53 : tsz Try.prog 53 = some 1 := by kernel_rfl
@[simp, go_sem] theorem tby53 : tby Try.prog 53 = some 8 := by kernel_rfl
@[simp, go_sem] theorem tagg53 : tagg Try.prog 53 = some false := by kernel_rfl
@[simp, go_sem] theorem tzero53 : tzero Try.prog 53 = some [.dead] := by kernel_rfl
@[simp, go_sem] theorem tis53 : (Try.prog.underlying 53).isSome = true := by kernel_rfl
@[simp, go_sem] theorem tsz55 : tsz Try.prog 55 = some 1 := by kernel_rfl
@[simp, go_sem] theorem tby55 : tby Try.prog 55 = some 8 := by kernel_rfl
@[simp, go_sem] theorem tagg55 : tagg Try.prog 55 = some false := by kernel_rfl
@[simp, go_sem] theorem tzero55 : tzero Try.prog 55 = some [.dead] := by kernel_rfl
@[simp, go_sem] theorem tis55 : (Try.prog.underlying 55).isSome = true := by kernel_rfl
@[simp, go_sem] theorem tsz56 : tsz Try.prog 56 = some 1 := by kernel_rfl
@[simp, go_sem] theorem tby56 : tby Try.prog 56 = some 24 := by kernel_rfl
@[simp, go_sem] theorem tagg56 : tagg Try.prog 56 = some false := by kernel_rfl
@[simp, go_sem] theorem tzero56 : tzero Try.prog 56 = some [.nil] := by kernel_rfl
@[simp, go_sem] theorem telem56 : telem Try.prog 56 = some 141 := by kernel_rfl
@[simp, go_sem] theorem tis56 : (Try.prog.underlying 56).isSome = true := by kernel_rfl
@[simp, go_sem] theorem tsz57 : tsz Try.prog 57 = some 1 := by kernel_rfl
@[simp, go_sem] theorem tby57 : tby Try.prog 57 = some 8 := by kernel_rfl
@[simp, go_sem] theorem tagg57 : tagg Try.prog 57 = some false := by kernel_rfl
@[simp, go_sem] theorem tzero57 : tzero Try.prog 57 = some [.dead] := by kernel_rfl
@[simp, go_sem] theorem tis57 : (Try.prog.underlying 57).isSome = true := by kernel_rfl
@[simp, go_sem] theorem tsz59 : tsz Try.prog 59 = some 1 := by kernel_rfl
@[simp, go_sem] theorem tby59 : tby Try.prog 59 = some 8 := by kernel_rfl
@[simp, go_sem] theorem tagg59 : tagg Try.prog 59 = some false := by kernel_rfl
@[simp, go_sem] theorem tzero59 : tzero Try.prog 59 = some [.dead] := by kernel_rfl
@[simp, go_sem] theorem tis59 : (Try.prog.underlying 59).isSome = true := by kernel_rfl
@[simp, go_sem] theorem tsz61 : tsz Try.prog 61 = some 1 := by kernel_rfl
@[simp, go_sem] theorem tby61 : tby Try.prog 61 = some 8 := by kernel_rfl
@[simp, go_sem] theorem tagg61 : tagg Try.prog 61 = some false := by kernel_rfl
@[simp, go_sem] theorem tzero61 : tzero Try.prog 61 = some [.dead] := by kernel_rfl
@[simp, go_sem] theorem tis61 : (Try.prog.underlying 61).isSome = true := by kernel_rfl
@[simp, go_sem] theorem tsz62 : tsz Try.prog 62 = some 1 := by kernel_rfl
@[simp, go_sem] theorem tby62 : tby Try.prog 62 = some 8 := by kernel_rfl
@[simp, go_sem] theorem tagg62 : tagg Try.prog 62 = some false := by kernel_rfl
@[simp, go_sem] theorem tzero62 : tzero Try.prog 62 = some [.dead] := by kernel_rfl
@[simp, go_sem] theorem tis62 : (Try.prog.underlying 62).isSome = true := by kernel_rfl
@[simp, go_sem] theorem tsz63 : tsz Try.prog 63 = some 1 := by kernel_rfl
@[simp, go_sem] theorem tby63 : tby Try.prog 63 = some 8 := by kernel_rfl
@[simp, go_sem] theorem tagg63 : tagg Try.prog 63 = some false := by kernel_rfl
@[simp, go_sem] theorem tzero63 : tzero Try.prog 63 = some [.dead] := by kernel_rfl
@[simp, go_sem] theorem tis63 : (Try.prog.underlying 63).isSome = true := by kernel_rfl
@[simp, go_sem] theorem tsz64 : tsz Try.prog 64 = some 1 := by kernel_rfl
@[simp, go_sem] theorem tby64 : tby Try.prog 64 = some 24 := by kernel_rfl
@[simp, go_sem] theorem tagg64 : tagg Try.prog 64 = some true := by kernel_rfl
@[simp, go_sem] theorem tzero64 : tzero Try.prog 64 = some [.nil] := by kernel_rfl
@[simp, go_sem] theorem tis64 : (Try.prog.underlying 64).isSome = true := by kernel_rfl
@[simp, go_sem] theorem tstruct64 : tstruct Try.prog 64 = true := by kernel_rfl
@[simp, go_sem] theorem tfld64f0 : tfld Try.prog 64 0 = some (0, 46) := by kernel_rfl
@[simp, go_sem] theorem tsz65 : tsz Try.prog 65 = some 1 := by kernel_rfl
@[simp, go_sem] theorem tby65 : tby Try.prog 65 = some 24 := by kernel_rfl
@[simp, go_sem] theorem tagg65 : tagg Try.prog 65 = some true := by kernel_rfl
@[simp, go_sem] theorem tzero65 : tzero Try.prog 65 = some [.nil] := by kernel_rfl
@[simp, go_sem] theorem tis65 : (Try.prog.underlying 65).isSome = true := by kernel_rfl
@[simp, go_sem] theorem tstruct65 : tstruct Try.prog 65 = true := by kernel_rfl
@[simp, go_sem] theorem tfld65f0 : tfld Try.prog 65 0 = some (0, 46) := by kernel_rfl
@[simp, go_sem] theorem tsz66 : tsz Try.prog 66 = some 1 := by kernel_rfl
@[simp, go_sem] theorem tby66 : tby Try.prog 66 = some 8 := by kernel_rfl
@[simp, go_sem] theorem tagg66 : tagg Try.prog 66 = some false := by kernel_rfl
@[simp, go_sem] theorem tzero66 : tzero Try.prog 66 = some [.dead] := by kernel_rfl
@[simp, go_sem] theorem tis66 : (Try.prog.underlying 66).isSome = true := by kernel_rfl
@[simp, go_sem] theorem tsz68 : tsz Try.prog 68 = some 1 := by kernel_rfl
@[simp, go_sem] theorem tby68 : tby Try.prog 68 = some 8 := by kernel_rfl
@[simp, go_sem] theorem tagg68 : tagg Try.prog 68 = some false := by kernel_rfl
@[simp, go_sem] theorem tzero68 : tzero Try.prog 68 = some [.dead] := by kernel_rfl
@[simp, go_sem] theorem tis68 : (Try.prog.underlying 68).isSome = true := by kernel_rfl
@[simp, go_sem] theorem tsz69 : tsz Try.prog 69 = some 1 := by kernel_rfl
@[simp, go_sem] theorem tby69 : tby Try.prog 69 = some 24 := by kernel_rfl
@[simp, go_sem] theorem tagg69 : tagg Try.prog 69 = some true := by kernel_rfl
@[simp, go_sem] theorem tzero69 : tzero Try.prog 69 = some [.nil] := by kernel_rfl
@[simp, go_sem] theorem tis69 : (Try.prog.underlying 69).isSome = true := by kernel_rfl
@[simp, go_sem] theorem tstruct69 : tstruct Try.prog 69 = true := by kernel_rfl
@[simp, go_sem] theorem tfld69f0 : tfld Try.prog 69 0 = some (0, 46) := by kernel_rfl
@[simp, go_sem] theorem tsz70 : tsz Try.prog 70 = some 1 := by kernel_rfl
@[simp, go_sem] theorem tby70 : tby Try.prog 70 = some 8 := by kernel_rfl
@[simp, go_sem] theorem tagg70 : tagg Try.prog 70 = some false := by kernel_rfl
@[simp, go_sem] theorem tzero70 : tzero Try.prog 70 = some [.dead] := by kernel_rfl
@[simp, go_sem] theorem tis70 : (Try.prog.underlying 70).isSome = true := by kernel_rfl
@[simp, go_sem] theorem tsz71 : tsz Try.prog 71 = some 1 := by kernel_rfl
@[simp, go_sem] theorem tby71 : tby Try.prog 71 = some 8 := by kernel_rfl
@[simp, go_sem] theorem tagg71 : tagg Try.prog 71 = some false := by kernel_rfl
@[simp, go_sem] theorem tzero71 : tzero Try.prog 71 = some [.dead] := by kernel_rfl
@[simp, go_sem] theorem tis71 : (Try.prog.underlying 71).isSome = true := by kernel_rfl
@[simp, go_sem] theorem tsz72 : tsz Try.prog 72 = some 1 := by kernel_rfl
@[simp, go_sem] theorem tby72 : tby Try.prog 72 = some 8 := by kernel_rfl
@[simp, go_sem] theorem tagg72 : tagg Try.prog 72 = some false := by kernel_rfl
@[simp, go_sem] theorem tzero72 : tzero Try.prog 72 = some [.dead] := by kernel_rfl
@[simp, go_sem] theorem tis72 : (Try.prog.underlying 72).isSome = true := by kernel_rfl
@[simp, go_sem] theorem tsz73 : tsz Try.prog 73 = some 1 := by kernel_rfl
@[simp, go_sem] theorem tby73 : tby Try.prog 73 = some 8 := by kernel_rfl
@[simp, go_sem] theorem tagg73 : tagg Try.prog 73 = some false := by kernel_rfl
@[simp, go_sem] theorem tzero73 : tzero Try.prog 73 = some [.dead] := by kernel_rfl
@[simp, go_sem] theorem tis73 : (Try.prog.underlying 73).isSome = true := by kernel_rfl
@[simp, go_sem] theorem tsz74 : tsz Try.prog 74 = some 1 := by kernel_rfl
@[simp, go_sem] theorem tby74 : tby Try.prog 74 = some 8 := by kernel_rfl
@[simp, go_sem] theorem tagg74 : tagg Try.prog 74 = some false := by kernel_rfl
@[simp, go_sem] theorem tzero74 : tzero Try.prog 74 = some [.dead] := by kernel_rfl
@[simp, go_sem] theorem tis74 : (Try.prog.underlying 74).isSome = true := by kernel_rfl
@[simp, go_sem] theorem tsz75 : tsz Try.prog 75 = some 1 := by kernel_rfl
@[simp, go_sem] theorem tby75 : tby Try.prog 75 = some 24 := by kernel_rfl
@[simp, go_sem] theorem tagg75 : tagg Try.prog 75 = some false := by kernel_rfl
@[simp, go_sem] theorem tzero75 : tzero Try.prog 75 = some [.nil] := by kernel_rfl
@[simp, go_sem] theorem telem75 : telem Try.prog 75 = some 157 := by kernel_rfl
@[simp, go_sem] theorem tis75 : (Try.prog.underlying 75).isSome = true := by kernel_rfl
@[simp, go_sem] theorem tsz76 : tsz Try.prog 76 = some 2 := by kernel_rfl
@[simp, go_sem] theorem tby76 : tby Try.prog 76 = some 48 := by kernel_rfl
@[simp, go_sem] theorem tagg76 : tagg Try.prog 76 = some true := by kernel_rfl
@[simp, go_sem] theorem tzero76 : tzero Try.prog 76 = some [.nil, .nil] := by kernel_rfl
@[simp, go_sem] theorem tis76 : (Try.prog.underlying 76).isSome = true := by kernel_rfl
@[simp, go_sem] theorem tstruct76 : tstruct Try.prog 76 = true := by kernel_rfl
@[simp, go_sem] theorem tfld76f0 : tfld Try.prog 76 0 = some (0, 25) := by kernel_rfl
@[simp, go_sem] theorem tfld76f1 : tfld Try.prog 76 1 = some (1, 25) := by kernel_rfl
@[simp, go_sem] theorem tsz77 : tsz Try.prog 77 = some 2 := by kernel_rfl
@[simp, go_sem] theorem tby77 : tby Try.prog 77 = some 48 := by kernel_rfl
@[simp, go_sem] theorem tagg77 : tagg Try.prog 77 = some true := by kernel_rfl
@[simp, go_sem] theorem tzero77 : tzero Try.prog 77 = some [.nil, .nil] := by kernel_rfl
@[simp, go_sem] theorem tis77 : (Try.prog.underlying 77).isSome = true := by kernel_rfl
@[simp, go_sem] theorem tstruct77 : tstruct Try.prog 77 = true := by kernel_rfl
@[simp, go_sem] theorem tfld77f0 : tfld Try.prog 77 0 = some (0, 25) := by kernel_rfl
@[simp, go_sem] theorem tfld77f1 : tfld Try.prog 77 1 = some (1, 25) := by kernel_rfl
@[simp, go_sem] theorem tsz78 : tsz Try.prog 78 = some 1 := by kernel_rfl
@[simp, go_sem] theorem tby78 : tby Try.prog 78 = some 8 := by kernel_rfl
@[simp, go_sem] theorem tagg78 : tagg Try.prog 78 = some false := by kernel_rfl
@[simp, go_sem] theorem tzero78 : tzero Try.prog 78 = some [.dead] := by kernel_rfl
@[simp, go_sem] theorem tis78 : (Try.prog.underlying 78).isSome = true := by kernel_rfl
@[simp, go_sem] theorem tsz79 : tsz Try.prog 79 = some 1 := by kernel_rfl
@[simp, go_sem] theorem tby79 : tby Try.prog 79 = some 8 := by kernel_rfl
@[simp, go_sem] theorem tagg79 : tagg Try.prog 79 = some false := by kernel_rfl
@[simp, go_sem] theorem tzero79 : tzero Try.prog 79 = some [.dead] := by kernel_rfl
@[simp, go_sem] theorem tis79 : (Try.prog.underlying 79).isSome = true := by kernel_rfl
@[simp, go_sem] theorem tsz81 : tsz Try.prog 81 = some 1 := by kernel_rfl
@[simp, go_sem] theorem tby81 : tby Try.prog 81 = some 8 := by kernel_rfl
@[simp, go_sem] theorem tagg81 : tagg Try.prog 81 = some false := by kernel_rfl
@[simp, go_sem] theorem tzero81 : tzero Try.prog 81 = some [.dead] := by kernel_rfl
@[simp, go_sem] theorem tis81 : (Try.prog.underlying 81).isSome = true := by kernel_rfl
@[simp, go_sem] theorem tsz82 : tsz Try.prog 82 = some 1 := by kernel_rfl
@[simp, go_sem] theorem tby82 : tby Try.prog 82 = some 8 := by kernel_rfl
@[simp, go_sem] theorem tagg82 : tagg Try.prog 82 = some false := by kernel_rfl
@[simp, go_sem] theorem tzero82 : tzero Try.prog 82 = some [.dead] := by kernel_rfl
@[simp, go_sem] theorem tis82 : (Try.prog.underlying 82).isSome = true := by kernel_rfl
@[simp, go_sem] theorem tsz83 : tsz Try.prog 83 = some 2 := by kernel_rfl
@[simp, go_sem] theorem tby83 : tby Try.prog 83 = some 48 := by kernel_rfl
@[simp, go_sem] theorem tagg83 : tagg Try.prog 83 = some true := by kernel_rfl
@[simp, go_sem] theorem tzero83 : tzero Try.prog 83 = some [.nil, .nil] := by kernel_rfl
@[simp, go_sem] theorem tis83 : (Try.prog.underlying 83).isSome = true := by kernel_rfl
@[simp, go_sem] theorem tstruct83 : tstruct Try.prog 83 = true := by kernel_rfl
@[simp, go_sem] theorem tfld83f0 : tfld Try.prog 83 0 = some (0, 25) := by kernel_rfl
@[simp, go_sem] theorem tfld83f1 : tfld Try.prog 83 1 = some (1, 25) := by kernel_rfl
@[simp, go_sem] theorem tsz84 : tsz Try.prog 84 = some 1 := by kernel_rfl
@[simp, go_sem] theorem tby84 : tby Try.prog 84 = some 8 := by kernel_rfl
@[simp, go_sem] theorem tagg84 : tagg Try.prog 84 = some false := by kernel_rfl
@[simp, go_sem] theorem tzero84 : tzero Try.prog 84 = some [.dead] := by kernel_rfl
@[simp, go_sem] theorem tis84 : (Try.prog.underlying 84).isSome = true := by kernel_rfl
@[simp, go_sem] theorem tsz85 : tsz Try.prog 85 = some 1 := by kernel_rfl
@[simp, go_sem] theorem tby85 : tby Try.prog 85 = some 8 := by kernel_rfl
@[simp, go_sem] theorem tagg85 : tagg Try.prog 85 = some false := by kernel_rfl
@[simp, go_sem] theorem tzero85 : tzero Try.prog 85 = some [.dead] := by kernel_rfl
@[simp, go_sem] theorem tis85 : (Try.prog.underlying 85).isSome = true := by kernel_rfl
@[simp, go_sem] theorem tsz86 : tsz Try.prog 86 = some 1 := by kernel_rfl
@[simp, go_sem] theorem tby86 : tby Try.prog 86 = some 8 := by kernel_rfl
@[simp, go_sem] theorem tagg86 : tagg Try.prog 86 = some false := by kernel_rfl
@[simp, go_sem] theorem tzero86 : tzero Try.prog 86 = some [.dead] := by kernel_rfl
@[simp, go_sem] theorem tis86 : (Try.prog.underlying 86).isSome = true := by kernel_rfl
@[simp, go_sem] theorem tsz87 : tsz Try.prog 87 = some 1 := by kernel_rfl
@[simp, go_sem] theorem tby87 : tby Try.prog 87 = some 8 := by kernel_rfl
@[simp, go_sem] theorem tagg87 : tagg Try.prog 87 = some false := by kernel_rfl
@[simp, go_sem] theorem tzero87 : tzero Try.prog 87 = some [.dead] := by kernel_rfl
@[simp, go_sem] theorem tis87 : (Try.prog.underlying 87).isSome = true := by kernel_rfl
@[simp, go_sem] theorem tsz88 : tsz Try.prog 88 = some 1 := by kernel_rfl
@[simp, go_sem] theorem tby88 : tby Try.prog 88 = some 8 := by kernel_rfl
@[simp, go_sem] theorem tagg88 : tagg Try.prog 88 = some false := by kernel_rfl
@[simp, go_sem] theorem tzero88 : tzero Try.prog 88 = some [.dead] := by kernel_rfl
@[simp, go_sem] theorem tis88 : (Try.prog.underlying 88).isSome = true := by kernel_rfl
@[simp, go_sem] theorem tsz89 : tsz Try.prog 89 = some 1 := by kernel_rfl
@[simp, go_sem] theorem tby89 : tby Try.prog 89 = some 8 := by kernel_rfl
@[simp, go_sem] theorem tagg89 : tagg Try.prog 89 = some false := by kernel_rfl
@[simp, go_sem] theorem tzero89 : tzero Try.prog 89 = some [.dead] := by kernel_rfl
@[simp, go_sem] theorem tis89 : (Try.prog.underlying 89).isSome = true := by kernel_rfl
@[simp, go_sem] theorem tsz90 : tsz Try.prog 90 = some 1 := by kernel_rfl
@[simp, go_sem] theorem tby90 : tby Try.prog 90 = some 8 := by kernel_rfl
@[simp, go_sem] theorem tagg90 : tagg Try.prog 90 = some false := by kernel_rfl
@[simp, go_sem] theorem tzero90 : tzero Try.prog 90 = some [.dead] := by kernel_rfl
@[simp, go_sem] theorem tis90 : (Try.prog.underlying 90).isSome = true := by kernel_rfl
@[simp, go_sem] theorem tsz91 : tsz Try.prog 91 = some 1 := by kernel_rfl
@[simp, go_sem] theorem tby91 : tby Try.prog 91 = some 8 := by kernel_rfl
@[simp, go_sem] theorem tagg91 : tagg Try.prog 91 = some false := by kernel_rfl
@[simp, go_sem] theorem tzero91 : tzero Try.prog 91 = some [.dead] := by kernel_rfl
@[simp, go_sem] theorem tis91 : (Try.prog.underlying 91).isSome = true := by kernel_rfl
@[simp, go_sem] theorem tsz92 : tsz Try.prog 92 = some 1 := by kernel_rfl
@[simp, go_sem] theorem tby92 : tby Try.prog 92 = some 8 := by kernel_rfl
@[simp, go_sem] theorem tagg92 : tagg Try.prog 92 = some false := by kernel_rfl
@[simp, go_sem] theorem tzero92 : tzero Try.prog 92 = some [.dead] := by kernel_rfl
@[simp, go_sem] theorem tis92 : (Try.prog.underlying 92).isSome = true := by kernel_rfl
@[simp, go_sem] theorem tsz93 : tsz Try.prog 93 = some 1 := by kernel_rfl
@[simp, go_sem] theorem tby93 : tby Try.prog 93 = some 8 := by kernel_rfl
@[simp, go_sem] theorem tagg93 : tagg Try.prog 93 = some false := by kernel_rfl
@[simp, go_sem] theorem tzero93 : tzero Try.prog 93 = some [.dead] := by kernel_rfl
@[simp, go_sem] theorem tis93 : (Try.prog.underlying 93).isSome = true := by kernel_rfl
@[simp, go_sem] theorem tsz94 : tsz Try.prog 94 = some 1 := by kernel_rfl
@[simp, go_sem] theorem tby94 : tby Try.prog 94 = some 8 := by kernel_rfl
@[simp, go_sem] theorem tagg94 : tagg Try.prog 94 = some false := by kernel_rfl
@[simp, go_sem] theorem tzero94 : tzero Try.prog 94 = some [.dead] := by kernel_rfl
@[simp, go_sem] theorem tis94 : (Try.prog.underlying 94).isSome = true := by kernel_rfl
@[simp, go_sem] theorem tsz96 : tsz Try.prog 96 = some 1 := by kernel_rfl
@[simp, go_sem] theorem tby96 : tby Try.prog 96 = some 8 := by kernel_rfl
@[simp, go_sem] theorem tagg96 : tagg Try.prog 96 = some false := by kernel_rfl
@[simp, go_sem] theorem tzero96 : tzero Try.prog 96 = some [.dead] := by kernel_rfl
@[simp, go_sem] theorem tis96 : (Try.prog.underlying 96).isSome = true := by kernel_rfl
@[simp, go_sem] theorem tsz97 : tsz Try.prog 97 = some 1 := by kernel_rfl
@[simp, go_sem] theorem tby97 : tby Try.prog 97 = some 8 := by kernel_rfl
@[simp, go_sem] theorem tagg97 : tagg Try.prog 97 = some false := by kernel_rfl
@[simp, go_sem] theorem tzero97 : tzero Try.prog 97 = some [.dead] := by kernel_rfl
@[simp, go_sem] theorem tis97 : (Try.prog.underlying 97).isSome = true := by kernel_rfl
@[simp, go_sem] theorem tsz98 : tsz Try.prog 98 = some 1 := by kernel_rfl
@[simp, go_sem] theorem tby98 : tby Try.prog 98 = some 8 := by kernel_rfl
@[simp, go_sem] theorem tagg98 : tagg Try.prog 98 = some false := by kernel_rfl
@[simp, go_sem] theorem tzero98 : tzero Try.prog 98 = some [.dead] := by kernel_rfl
@[simp, go_sem] theorem tis98 : (Try.prog.underlying 98).isSome = true := by kernel_rfl
@[simp, go_sem] theorem tsz99 : tsz Try.prog 99 = some 1 := by kernel_rfl
@[simp, go_sem] theorem tby99 : tby Try.prog 99 = some 8 := by kernel_rfl
@[simp, go_sem] theorem tagg99 : tagg Try.prog 99 = some false := by kernel_rfl
@[simp, go_sem] theorem tzero99 : tzero Try.prog 99 = some [.nilp] := by kernel_rfl
@[simp, go_sem] theorem tis99 : (Try.prog.underlying 99).isSome = true := by kernel_rfl
@[simp, go_sem] theorem tsz100 : tsz Try.prog 100 = some 1 := by kernel_rfl
@[simp, go_sem] theorem tby100 : tby Try.prog 100 = some 8 := by kernel_rfl
@[simp, go_sem] theorem tagg100 : tagg Try.prog 100 = some false := by kernel_rfl
@[simp, go_sem] theorem tzero100 : tzero Try.prog 100 = some [.int .u64 0] := by kernel_rfl
@[simp, go_sem] theorem tis100 : (Try.prog.underlying 100).isSome = true := by kernel_rfl
@[simp, go_sem] theorem tint100 : tint Try.prog 100 = some .u64 := by kernel_rfl
@[simp, go_sem] theorem tsz101 : tsz Try.prog 101 = some 3 := by kernel_rfl
@[simp, go_sem] theorem tby101 : tby Try.prog 101 = some 40 := by kernel_rfl
@[simp, go_sem] theorem tagg101 : tagg Try.prog 101 = some true := by kernel_rfl
@[simp, go_sem] theorem tzero101 : tzero Try.prog 101 = some [.nil, .int .i64 0, .int .u64 0] := by kernel_rfl
@[simp, go_sem] theorem tis101 : (Try.prog.underlying 101).isSome = true := by kernel_rfl
@[simp, go_sem] theorem tstruct101 : tstruct Try.prog 101 = true := by kernel_rfl
@[simp, go_sem] theorem tfld101f0 : tfld Try.prog 101 0 = some (0, 22) := by kernel_rfl
@[simp, go_sem] theorem tfld101f1 : tfld Try.prog 101 1 = some (1, 3) := by kernel_rfl
@[simp, go_sem] theorem tfld101f2 : tfld Try.prog 101 2 = some (2, 100) := by kernel_rfl
@[simp, go_sem] theorem tsz102 : tsz Try.prog 102 = some 3 := by kernel_rfl
@[simp, go_sem] theorem tby102 : tby Try.prog 102 = some 40 := by kernel_rfl
@[simp, go_sem] theorem tagg102 : tagg Try.prog 102 = some true := by kernel_rfl
@[simp, go_sem] theorem tzero102 : tzero Try.prog 102 = some [.nil, .int .i64 0, .int .u64 0] := by kernel_rfl
@[simp, go_sem] theorem tis102 : (Try.prog.underlying 102).isSome = true := by kernel_rfl
@[simp, go_sem] theorem tstruct102 : tstruct Try.prog 102 = true := by kernel_rfl
@[simp, go_sem] theorem tfld102f0 : tfld Try.prog 102 0 = some (0, 22) := by kernel_rfl
@[simp, go_sem] theorem tfld102f1 : tfld Try.prog 102 1 = some (1, 3) := by kernel_rfl
@[simp, go_sem] theorem tfld102f2 : tfld Try.prog 102 2 = some (2, 100) := by kernel_rfl
@[simp, go_sem] theorem tsz103 : tsz Try.prog 103 = some 1 := by kernel_rfl
@[simp, go_sem] theorem tby103 : tby Try.prog 103 = some 8 := by kernel_rfl
@[simp, go_sem] theorem tagg103 : tagg Try.prog 103 = some false := by kernel_rfl
@[simp, go_sem] theorem tzero103 : tzero Try.prog 103 = some [.dead] := by kernel_rfl
@[simp, go_sem] theorem tis103 : (Try.prog.underlying 103).isSome = true := by kernel_rfl
@[simp, go_sem] theorem tsz104 : tsz Try.prog 104 = some 1 := by kernel_rfl
@[simp, go_sem] theorem tby104 : tby Try.prog 104 = some 8 := by kernel_rfl
@[simp, go_sem] theorem tagg104 : tagg Try.prog 104 = some false := by kernel_rfl
@[simp, go_sem] theorem tzero104 : tzero Try.prog 104 = some [.dead] := by kernel_rfl
@[simp, go_sem] theorem tis104 : (Try.prog.underlying 104).isSome = true := by kernel_rfl
@[simp, go_sem] theorem tsz105 : tsz Try.prog 105 = some 1 := by kernel_rfl
@[simp, go_sem] theorem tby105 : tby Try.prog 105 = some 8 := by kernel_rfl
@[simp, go_sem] theorem tagg105 : tagg Try.prog 105 = some false := by kernel_rfl
@[simp, go_sem] theorem tzero105 : tzero Try.prog 105 = some [.dead] := by kernel_rfl
@[simp, go_sem] theorem tis105 : (Try.prog.underlying 105).isSome = true := by kernel_rfl
@[simp, go_sem] theorem tsz106 : tsz Try.prog 106 = some 1 := by kernel_rfl
@[simp, go_sem] theorem tby106 : tby Try.prog 106 = some 8 := by kernel_rfl
@[simp, go_sem] theorem tagg106 : tagg Try.prog 106 = some false := by kernel_rfl
@[simp, go_sem] theorem tzero106 : tzero Try.prog 106 = some [.dead] := by kernel_rfl
@[simp, go_sem] theorem tis106 : (Try.prog.underlying 106).isSome = true := by kernel_rfl
@[simp, go_sem] theorem tsz107 : tsz Try.prog 107 = some 1 := by kernel_rfl
@[simp, go_sem] theorem tby107 : tby Try.prog 107 = some 8 := by kernel_rfl
@[simp, go_sem] theorem tagg107 : tagg Try.prog 107 = some false := by kernel_rfl
@[simp, go_sem] theorem tzero107 : tzero Try.prog 107 = some [.dead] := by kernel_rfl
@[simp, go_sem] theorem tis107 : (Try.prog.underlying 107).isSome = true := by kernel_rfl
@[simp, go_sem] theorem tsz108 : tsz Try.prog 108 = some 1 := by kernel_rfl
@[simp, go_sem] theorem tby108 : tby Try.prog 108 = some 8 := by kernel_rfl
@[simp, go_sem] theorem tagg108 : tagg Try.prog 108 = some false := by kernel_rfl
@[simp, go_sem] theorem tzero108 : tzero Try.prog 108 = some [.dead] := by kernel_rfl
@[simp, go_sem] theorem tis108 : (Try.prog.underlying 108).isSome = true := by kernel_rfl
@[simp, go_sem] theorem tsz109 : tsz Try.prog 109 = some 1 := by kernel_rfl
@[simp, go_sem] theorem tby109 : tby Try.prog 109 = some 8 := by kernel_rfl
@[simp, go_sem] theorem tagg109 : tagg Try.prog 109 = some false := by kernel_rfl
@[simp, go_sem] theorem tzero109 : tzero Try.prog 109 = some [.dead] := by kernel_rfl
@[simp, go_sem] theorem tis109 : (Try.prog.underlying 109).isSome = true := by kernel_rfl
@[simp, go_sem] theorem tsz110 : tsz Try.prog 110 = some 1 := by kernel_rfl
@[simp, go_sem] theorem tby110 : tby Try.prog 110 = some 8 := by kernel_rfl
@[simp, go_sem] theorem tagg110 : tagg Try.prog 110 = some false := by kernel_rfl
@[simp, go_sem] theorem tzero110 : tzero Try.prog 110 = some [.dead] := by kernel_rfl
@[simp, go_sem] theorem tis110 : (Try.prog.underlying 110).isSome = true := by kernel_rfl
@[simp, go_sem] theorem tsz111 : tsz Try.prog 111 = some 1 := by kernel_rfl
@[simp, go_sem] theorem tby111 : tby Try.prog 111 = some 8 := by kernel_rfl
@[simp, go_sem] theorem tagg111 : tagg Try.prog 111 = some false := by kernel_rfl
@[simp, go_sem] theorem tzero111 : tzero Try.prog 111 = some [.dead] := by kernel_rfl
@[simp, go_sem] theorem tis111 : (Try.prog.underlying 111).isSome = true := by kernel_rfl
@[simp, go_sem] theorem tsz112 : tsz Try.prog 112 = some 1 := by kernel_rfl
@[simp, go_sem] theorem tby112 : tby Try.prog 112 = some 8 := by kernel_rfl
@[simp, go_sem] theorem tagg112 : tagg Try.prog 112 = some false := by kernel_rfl
@[simp, go_sem] theorem tzero112 : tzero Try.prog 112 = some [.dead] := by kernel_rfl
@[simp, go_sem] theorem tis112 : (Try.prog.underlying 112).isSome = true := by kernel_rfl
@[simp, go_sem] theorem tsz113 : tsz Try.prog 113 = some 1 := by kernel_rfl
@[simp, go_sem] theorem tby113 : tby Try.prog 113 = some 8 := by kernel_rfl
@[simp, go_sem] theorem tagg113 : tagg Try.prog 113 = some false := by kernel_rfl
@[simp, go_sem] theorem tzero113 : tzero Try.prog 113 = some [.dead] := by kernel_rfl
@[simp, go_sem] theorem tis113 : (Try.prog.underlying 113).isSome = true := by kernel_rfl
@[simp, go_sem] theorem tsz114 : tsz Try.prog 114 = some 1 := by kernel_rfl
@[simp, go_sem] theorem tby114 : tby Try.prog 114 = some 8 := by kernel_rfl
@[simp, go_sem] theorem tagg114 : tagg Try.prog 114 = some false := by kernel_rfl
@[simp, go_sem] theorem tzero114 : tzero Try.prog 114 = some [.dead] := by kernel_rfl
@[simp, go_sem] theorem tis114 : (Try.prog.underlying 114).isSome = true := by kernel_rfl
@[simp, go_sem] theorem tsz115 : tsz Try.prog 115 = some 1 := by kernel_rfl
@[simp, go_sem] theorem tby115 : tby Try.prog 115 = some 8 := by kernel_rfl
@[simp, go_sem] theorem tagg115 : tagg Try.prog 115 = some false := by kernel_rfl
@[simp, go_sem] theorem tzero115 : tzero Try.prog 115 = some [.nilp] := by kernel_rfl
@[simp, go_sem] theorem tis115 : (Try.prog.underlying 115).isSome = true := by kernel_rfl
@[simp, go_sem] theorem tsz116 : tsz Try.prog 116 = some 3 := by kernel_rfl
@[simp, go_sem] theorem tby116 : tby Try.prog 116 = some 56 := by kernel_rfl
@[simp, go_sem] theorem tagg116 : tagg Try.prog 116 = some true := by kernel_rfl
@[simp, go_sem] theorem tzero116 : tzero Try.prog 116 = some [.int .i64 0, .nil, .nil] := by kernel_rfl
@[simp, go_sem] theorem tis116 : (Try.prog.underlying 116).isSome = true := by kernel_rfl
@[simp, go_sem] theorem tstruct116 : tstruct Try.prog 116 = true := by kernel_rfl
@[simp, go_sem] theorem tfld116f0 : tfld Try.prog 116 0 = some (0, 27) := by kernel_rfl
@[simp, go_sem] theorem tsz117 : tsz Try.prog 117 = some 3 := by kernel_rfl
@[simp, go_sem] theorem tby117 : tby Try.prog 117 = some 56 := by kernel_rfl
@[simp, go_sem] theorem tagg117 : tagg Try.prog 117 = some true := by kernel_rfl
@[simp, go_sem] theorem tzero117 : tzero Try.prog 117 = some [.int .i64 0, .nil, .nil] := by kernel_rfl
@[simp, go_sem] theorem tis117 : (Try.prog.underlying 117).isSome = true := by kernel_rfl
@[simp, go_sem] theorem tstruct117 : tstruct Try.prog 117 = true := by kernel_rfl
@[simp, go_sem] theorem tfld117f0 : tfld Try.prog 117 0 = some (0, 27) := by kernel_rfl
@[simp, go_sem] theorem tsz118 : tsz Try.prog 118 = some 3 := by kernel_rfl
@[simp, go_sem] theorem tby118 : tby Try.prog 118 = some 24 := by kernel_rfl
@[simp, go_sem] theorem tagg118 : tagg Try.prog 118 = some true := by kernel_rfl
@[simp, go_sem] theorem tzero118 : tzero Try.prog 118 = some [.int .i64 0, .int .i64 0, .int .i64 0] := by kernel_rfl
@[simp, go_sem] theorem tis118 : (Try.prog.underlying 118).isSome = true := by kernel_rfl
@[simp, go_sem] theorem tcmp118 : tcmp Try.prog 118 3 = true := by kernel_rfl
@[simp, go_sem] theorem tstruct118 : tstruct Try.prog 118 = true := by kernel_rfl
@[simp, go_sem] theorem tfld118f0 : tfld Try.prog 118 0 = some (0, 3) := by kernel_rfl
@[simp, go_sem] theorem tfld118f1 : tfld Try.prog 118 1 = some (1, 3) := by kernel_rfl
@[simp, go_sem] theorem tfld118f2 : tfld Try.prog 118 2 = some (2, 3) := by kernel_rfl
@[simp, go_sem] theorem tsz119 : tsz Try.prog 119 = some 3 := by kernel_rfl
@[simp, go_sem] theorem tby119 : tby Try.prog 119 = some 24 := by kernel_rfl
@[simp, go_sem] theorem tagg119 : tagg Try.prog 119 = some true := by kernel_rfl
@[simp, go_sem] theorem tzero119 : tzero Try.prog 119 = some [.int .i64 0, .int .i64 0, .int .i64 0] := by kernel_rfl
@[simp, go_sem] theorem tis119 : (Try.prog.underlying 119).isSome = true := by kernel_rfl
@[simp, go_sem] theorem tcmp119 : tcmp Try.prog 119 3 = true := by kernel_rfl
@[simp, go_sem] theorem tstruct119 : tstruct Try.prog 119 = true := by kernel_rfl
@[simp, go_sem] theorem tfld119f0 : tfld Try.prog 119 0 = some (0, 3) := by kernel_rfl
@[simp, go_sem] theorem tfld119f1 : tfld Try.prog 119 1 = some (1, 3) := by kernel_rfl
@[simp, go_sem] theorem tfld119f2 : tfld Try.prog 119 2 = some (2, 3) := by kernel_rfl
@[simp, go_sem] theorem tsz120 : tsz Try.prog 120 = some 1 := by kernel_rfl
@[simp, go_sem] theorem tby120 : tby Try.prog 120 = some 8 := by kernel_rfl
@[simp, go_sem] theorem tagg120 : tagg Try.prog 120 = some false := by kernel_rfl
@[simp, go_sem] theorem tzero120 : tzero Try.prog 120 = some [.dead] := by kernel_rfl
@[simp, go_sem] theorem tis120 : (Try.prog.underlying 120).isSome = true := by kernel_rfl
@[simp, go_sem] theorem tsz121 : tsz Try.prog 121 = some 1 := by kernel_rfl
@[simp, go_sem] theorem tby121 : tby Try.prog 121 = some 8 := by kernel_rfl
@[simp, go_sem] theorem tagg121 : tagg Try.prog 121 = some false := by kernel_rfl
@[simp, go_sem] theorem tzero121 : tzero Try.prog 121 = some [.dead] := by kernel_rfl
@[simp, go_sem] theorem tis121 : (Try.prog.underlying 121).isSome = true := by kernel_rfl
@[simp, go_sem] theorem tsz122 : tsz Try.prog 122 = some 1 := by kernel_rfl
@[simp, go_sem] theorem tby122 : tby Try.prog 122 = some 8 := by kernel_rfl
@[simp, go_sem] theorem tagg122 : tagg Try.prog 122 = some false := by kernel_rfl
@[simp, go_sem] theorem tzero122 : tzero Try.prog 122 = some [.dead] := by kernel_rfl
@[simp, go_sem] theorem tis122 : (Try.prog.underlying 122).isSome = true := by kernel_rfl
@[simp, go_sem] theorem tsz123 : tsz Try.prog 123 = some 1 := by kernel_rfl
@[simp, go_sem] theorem tby123 : tby Try.prog 123 = some 8 := by kernel_rfl
@[simp, go_sem] theorem tagg123 : tagg Try.prog 123 = some false := by kernel_rfl
@[simp, go_sem] theorem tzero123 : tzero Try.prog 123 = some [.dead] := by kernel_rfl
@[simp, go_sem] theorem tis123 : (Try.prog.underlying 123).isSome = true := by kernel_rfl
@[simp, go_sem] theorem tsz124 : tsz Try.prog 124 = some 1 := by kernel_rfl
@[simp, go_sem] theorem tby124 : tby Try.prog 124 = some 8 := by kernel_rfl
@[simp, go_sem] theorem tagg124 : tagg Try.prog 124 = some false := by kernel_rfl
@[simp, go_sem] theorem tzero124 : tzero Try.prog 124 = some [.dead] := by kernel_rfl
@[simp, go_sem] theorem tis124 : (Try.prog.underlying 124).isSome = true := by kernel_rfl
@[simp, go_sem] theorem tsz125 : tsz Try.prog 125 = some 1 := by kernel_rfl
@[simp, go_sem] theorem tby125 : tby Try.prog 125 = some 8 := by kernel_rfl
@[simp, go_sem] theorem tagg125 : tagg Try.prog 125 = some false := by kernel_rfl
@[simp, go_sem] theorem tzero125 : tzero Try.prog 125 = some [.nilp] := by kernel_rfl
@[simp, go_sem] theorem tis125 : (Try.prog.underlying 125).isSome = true := by kernel_rfl
@[simp, go_sem] theorem tsz126 : tsz Try.prog 126 = some 1 := by kernel_rfl
@[simp, go_sem] theorem tby126 : tby Try.prog 126 = some 8 := by kernel_rfl
@[simp, go_sem] theorem tagg126 : tagg Try.prog 126 = some false := by kernel_rfl
@[simp, go_sem] theorem tzero126 : tzero Try.prog 126 = some [.dead] := by kernel_rfl
@[simp, go_sem] theorem tis126 : (Try.prog.underlying 126).isSome = true := by kernel_rfl
@[simp, go_sem] theorem tsz127 : tsz Try.prog 127 = some 1 := by kernel_rfl
@[simp, go_sem] theorem tby127 : tby Try.prog 127 = some 8 := by kernel_rfl
@[simp, go_sem] theorem tagg127 : tagg Try.prog 127 = some false := by kernel_rfl
@[simp, go_sem] theorem tzero127 : tzero Try.prog 127 = some [.dead] := by kernel_rfl
@[simp, go_sem] theorem tis127 : (Try.prog.underlying 127).isSome = true := by kernel_rfl
@[simp, go_sem] theorem tsz128 : tsz Try.prog 128 = some 1 := by kernel_rfl
@[simp, go_sem] theorem tby128 : tby Try.prog 128 = some 8 := by kernel_rfl
@[simp, go_sem] theorem tagg128 : tagg Try.prog 128 = some false := by kernel_rfl
@[simp, go_sem] theorem tzero128 : tzero Try.prog 128 = some [.dead] := by kernel_rfl
@[simp, go_sem] theorem tis128 : (Try.prog.underlying 128).isSome = true := by kernel_rfl
@[simp, go_sem] theorem tsz129 : tsz Try.prog 129 = some 1 := by kernel_rfl
@[simp, go_sem] theorem tby129 : tby Try.prog 129 = some 8 := by kernel_rfl
@[simp, go_sem] theorem tagg129 : tagg Try.prog 129 = some false := by kernel_rfl
@[simp, go_sem] theorem tzero129 : tzero Try.prog 129 = some [.dead] := by kernel_rfl
@[simp, go_sem] theorem tis129 : (Try.prog.underlying 129).isSome = true := by kernel_rfl
@[simp, go_sem] theorem tsz130 : tsz Try.prog 130 = some 1 := by kernel_rfl
@[simp, go_sem] theorem tby130 : tby Try.prog 130 = some 8 := by kernel_rfl
@[simp, go_sem] theorem tagg130 : tagg Try.prog 130 = some false := by kernel_rfl
@[simp, go_sem] theorem tzero130 : tzero Try.prog 130 = some [.dead] := by kernel_rfl
@[simp, go_sem] theorem tis130 : (Try.prog.underlying 130).isSome = true := by kernel_rfl
@[simp, go_sem] theorem tsz131 : tsz Try.prog 131 = some 1 := by kernel_rfl
@[simp, go_sem] theorem tby131 : tby Try.prog 131 = some 8 := by kernel_rfl
@[simp, go_sem] theorem tagg131 : tagg Try.prog 131 = some false := by kernel_rfl
@[simp, go_sem] theorem tzero131 : tzero Try.prog 131 = some [.dead] := by kernel_rfl
@[simp, go_sem] theorem tis131 : (Try.prog.underlying 131).isSome = true := by kernel_rfl
@[simp, go_sem] theorem tsz132 : tsz Try.prog 132 = some 1 := by kernel_rfl
@[simp, go_sem] theorem tby132 : tby Try.prog 132 = some 8 := by kernel_rfl
@[simp, go_sem] theorem tagg132 : tagg Try.prog 132 = some false := by kernel_rfl
@[simp, go_sem] theorem tzero132 : tzero Try.prog 132 = some [.dead] := by kernel_rfl
@[simp, go_sem] theorem tis132 : (Try.prog.underlying 132).isSome = true := by kernel_rfl
@[simp, go_sem] theorem tsz133 : tsz Try.prog 133 = some 1 := by kernel_rfl
@[simp, go_sem] theorem tby133 : tby Try.prog 133 = some 8 := by kernel_rfl
@[simp, go_sem] theorem tagg133 : tagg Try.prog 133 = some false := by kernel_rfl
@[simp, go_sem] theorem tzero133 : tzero Try.prog 133 = some [.nilp] := by kernel_rfl
@[simp, go_sem] theorem tis133 : (Try.prog.underlying 133).isSome = true := by kernel_rfl
@[simp, go_sem] theorem tsz134 : tsz Try.prog 134 = some 4 := by kernel_rfl
@[simp, go_sem] theorem tby134 : tby Try.prog 134 = some 48 := by kernel_rfl
@[simp, go_sem] theorem tagg134 : tagg Try.prog 134 = some true := by kernel_rfl
@[simp, go_sem] theorem tzero134 : tzero Try.prog 134 = some [.int .i64 0, .nil, .int .i64 0, .int .i64 0] := by kernel_rfl
@[simp, go_sem] theorem tis134 : (Try.prog.underlying 134).isSome = true := by kernel_rfl
@[simp, go_sem] theorem tstruct134 : tstruct Try.prog 134 = true := by kernel_rfl
@[simp, go_sem] theorem tfld134f0 : tfld Try.prog 134 0 = some (0, 48) := by kernel_rfl
@[simp, go_sem] theorem tfld134f1 : tfld Try.prog 134 1 = some (2, 3) := by kernel_rfl
@[simp, go_sem] theorem tfld134f2 : tfld Try.prog 134 2 = some (3, 3) := by kernel_rfl
@[simp, go_sem] theorem tsz135 : tsz Try.prog 135 = some 4 := by kernel_rfl
@[simp, go_sem] theorem tby135 : tby Try.prog 135 = some 48 := by kernel_rfl
@[simp, go_sem] theorem tagg135 : tagg Try.prog 135 = some true := by kernel_rfl
@[simp, go_sem] theorem tzero135 : tzero Try.prog 135 = some [.int .i64 0, .nil, .int .i64 0, .int .i64 0] := by kernel_rfl
@[simp, go_sem] theorem tis135 : (Try.prog.underlying 135).isSome = true := by kernel_rfl
@[simp, go_sem] theorem tstruct135 : tstruct Try.prog 135 = true := by kernel_rfl
@[simp, go_sem] theorem tfld135f0 : tfld Try.prog 135 0 = some (0, 48) := by kernel_rfl
@[simp, go_sem] theorem tfld135f1 : tfld Try.prog 135 1 = some (2, 3) := by kernel_rfl
@[simp, go_sem] theorem tfld135f2 : tfld Try.prog 135 2 = some (3, 3) := by kernel_rfl
@[simp, go_sem] theorem tsz137 : tsz Try.prog 137 = some 1 := by kernel_rfl
@[simp, go_sem] theorem tby137 : tby Try.prog 137 = some 8 := by kernel_rfl
@[simp, go_sem] theorem tagg137 : tagg Try.prog 137 = some false := by kernel_rfl
@[simp, go_sem] theorem tzero137 : tzero Try.prog 137 = some [.dead] := by kernel_rfl
@[simp, go_sem] theorem tis137 : (Try.prog.underlying 137).isSome = true := by kernel_rfl
@[simp, go_sem] theorem tsz138 : tsz Try.prog 138 = some 1 := by kernel_rfl
@[simp, go_sem] theorem tby138 : tby Try.prog 138 = some 8 := by kernel_rfl
@[simp, go_sem] theorem tagg138 : tagg Try.prog 138 = some false := by kernel_rfl
@[simp, go_sem] theorem tzero138 : tzero Try.prog 138 = some [.dead] := by kernel_rfl
@[simp, go_sem] theorem tis138 : (Try.prog.underlying 138).isSome = true := by kernel_rfl
@[simp, go_sem] theorem tsz139 : tsz Try.prog 139 = some 1 := by kernel_rfl
@[simp, go_sem] theorem tby139 : tby Try.prog 139 = some 24 := by kernel_rfl
@[simp, go_sem] theorem tagg139 : tagg Try.prog 139 = some false := by kernel_rfl
@[simp, go_sem] theorem tzero139 : tzero Try.prog 139 = some [.nil] := by kernel_rfl
@[simp, go_sem] theorem telem139 : telem Try.prog 139 = some 9 := by kernel_rfl
@[simp, go_sem] theorem tis139 : (Try.prog.underlying 139).isSome = true := by kernel_rfl
@[simp, go_sem] theorem tsz140 : tsz Try.prog 140 = some 2 := by kernel_rfl
@[simp, go_sem] theorem tby140 : tby Try.prog 140 = some 16 := by kernel_rfl
@[simp, go_sem] theorem tagg140 : tagg Try.prog 140 = some true := by kernel_rfl
@[simp, go_sem] theorem tzero140 : tzero Try.prog 140 = some [.int .i64 0, .int .i64 0] := by kernel_rfl
@[simp, go_sem] theorem tis140 : (Try.prog.underlying 140).isSome = true := by kernel_rfl
@[simp, go_sem] theorem tcmp140 : tcmp Try.prog 140 2 = true := by kernel_rfl
@[simp, go_sem] theorem tstruct140 : tstruct Try.prog 140 = true := by kernel_rfl
@[simp, go_sem] theorem tfld140f0 : tfld Try.prog 140 0 = some (0, 3) := by kernel_rfl
@[simp, go_sem] theorem tfld140f1 : tfld Try.prog 140 1 = some (1, 3) := by kernel_rfl
@[simp, go_sem] theorem tsz141 : tsz Try.prog 141 = some 2 := by kernel_rfl
@[simp, go_sem] theorem tby141 : tby Try.prog 141 = some 16 := by kernel_rfl
@[simp, go_sem] theorem tagg141 : tagg Try.prog 141 = some true := by kernel_rfl
@[simp, go_sem] theorem tzero141 : tzero Try.prog 141 = some [.int .i64 0, .int .i64 0] := by kernel_rfl
@[simp, go_sem] theorem tis141 : (Try.prog.underlying 141).isSome = true := by kernel_rfl
@[simp, go_sem] theorem tcmp141 : tcmp Try.prog 141 2 = true := by kernel_rfl
@[simp, go_sem] theorem tstruct141 : tstruct Try.prog 141 = true := by kernel_rfl
@[simp, go_sem] theorem tfld141f0 : tfld Try.prog 141 0 = some (0, 3) := by kernel_rfl
@[simp, go_sem] theorem tfld141f1 : tfld Try.prog 141 1 = some (1, 3) := by kernel_rfl
@[simp, go_sem] theorem tsz142 : tsz Try.prog 142 = some 1 := by kernel_rfl
@[simp, go_sem] theorem tby142 : tby Try.prog 142 = some 8 := by kernel_rfl
@[simp, go_sem] theorem tagg142 : tagg Try.prog 142 = some false := by kernel_rfl
@[simp, go_sem] theorem tzero142 : tzero Try.prog 142 = some [.dead] := by kernel_rfl
@[simp, go_sem] theorem tis142 : (Try.prog.underlying 142).isSome = true := by kernel_rfl
@[simp, go_sem] theorem tsz143 : tsz Try.prog 143 = some 1 := by kernel_rfl
@[simp, go_sem] theorem tby143 : tby Try.prog 143 = some 8 := by kernel_rfl
@[simp, go_sem] theorem tagg143 : tagg Try.prog 143 = some false := by kernel_rfl
@[simp, go_sem] theorem tzero143 : tzero Try.prog 143 = some [.dead] := by kernel_rfl
@[simp, go_sem] theorem tis143 : (Try.prog.underlying 143).isSome = true := by kernel_rfl
@[simp, go_sem] theorem tsz144 : tsz Try.prog 144 = some 1 := by kernel_rfl
@[simp, go_sem] theorem tby144 : tby Try.prog 144 = some 8 := by kernel_rfl
@[simp, go_sem] theorem tagg144 : tagg Try.prog 144 = some false := by kernel_rfl
@[simp, go_sem] theorem tzero144 : tzero Try.prog 144 = some [.nilp] := by kernel_rfl
@[simp, go_sem] theorem tis144 : (Try.prog.underlying 144).isSome = true := by kernel_rfl
@[simp, go_sem] theorem tsz145 : tsz Try.prog 145 = some 3 := by kernel_rfl
@[simp, go_sem] theorem tby145 : tby Try.prog 145 = some 32 := by kernel_rfl
@[simp, go_sem] theorem tagg145 : tagg Try.prog 145 = some true := by kernel_rfl
@[simp, go_sem] theorem tzero145 : tzero Try.prog 145 = some [.str ⟨#[]⟩, .int .i64 0, .bool false] := by kernel_rfl
@[simp, go_sem] theorem tis145 : (Try.prog.underlying 145).isSome = true := by kernel_rfl
@[simp, go_sem] theorem tstruct145 : tstruct Try.prog 145 = true := by kernel_rfl
@[simp, go_sem] theorem tfld145f0 : tfld Try.prog 145 0 = some (0, 9) := by kernel_rfl
@[simp, go_sem] theorem tfld145f1 : tfld Try.prog 145 1 = some (1, 3) := by kernel_rfl
@[simp, go_sem] theorem tfld145f2 : tfld Try.prog 145 2 = some (2, 4) := by kernel_rfl
@[simp, go_sem] theorem tsz146 : tsz Try.prog 146 = some 3 := by kernel_rfl
@[simp, go_sem] theorem tby146 : tby Try.prog 146 = some 32 := by kernel_rfl
@[simp, go_sem] theorem tagg146 : tagg Try.prog 146 = some true := by kernel_rfl
@[simp, go_sem] theorem tzero146 : tzero Try.prog 146 = some [.str ⟨#[]⟩, .int .i64 0, .bool false] := by kernel_rfl
@[simp, go_sem] theorem tis146 : (Try.prog.underlying 146).isSome = true := by kernel_rfl
@[simp, go_sem] theorem tstruct146 : tstruct Try.prog 146 = true := by kernel_rfl
@[simp, go_sem] theorem tfld146f0 : tfld Try.prog 146 0 = some (0, 9) := by kernel_rfl
@[simp, go_sem] theorem tfld146f1 : tfld Try.prog 146 1 = some (1, 3) := by kernel_rfl
@[simp, go_sem] theorem tfld146f2 : tfld Try.prog 146 2 = some (2, 4) := by kernel_rfl
@[simp, go_sem] theorem tsz147 : tsz Try.prog 147 = some 1 := by kernel_rfl
@[simp, go_sem] theorem tby147 : tby Try.prog 147 = some 8 := by kernel_rfl
@[simp, go_sem] theorem tagg147 : tagg Try.prog 147 = some false := by kernel_rfl
@[simp, go_sem] theorem tzero147 : tzero Try.prog 147 = some [.dead] := by kernel_rfl
@[simp, go_sem] theorem tis147 : (Try.prog.underlying 147).isSome = true := by kernel_rfl
@[simp, go_sem] theorem tsz148 : tsz Try.prog 148 = some 1 := by kernel_rfl
@[simp, go_sem] theorem tby148 : tby Try.prog 148 = some 8 := by kernel_rfl
@[simp, go_sem] theorem tagg148 : tagg Try.prog 148 = some false := by kernel_rfl
@[simp, go_sem] theorem tzero148 : tzero Try.prog 148 = some [.dead] := by kernel_rfl
@[simp, go_sem] theorem tis148 : (Try.prog.underlying 148).isSome = true := by kernel_rfl
@[simp, go_sem] theorem tsz149 : tsz Try.prog 149 = some 1 := by kernel_rfl
@[simp, go_sem] theorem tby149 : tby Try.prog 149 = some 8 := by kernel_rfl
@[simp, go_sem] theorem tagg149 : tagg Try.prog 149 = some false := by kernel_rfl
@[simp, go_sem] theorem tzero149 : tzero Try.prog 149 = some [.dead] := by kernel_rfl
@[simp, go_sem] theorem tis149 : (Try.prog.underlying 149).isSome = true := by kernel_rfl
@[simp, go_sem] theorem tsz150 : tsz Try.prog 150 = some 1 := by kernel_rfl
@[simp, go_sem] theorem tby150 : tby Try.prog 150 = some 8 := by kernel_rfl
@[simp, go_sem] theorem tagg150 : tagg Try.prog 150 = some false := by kernel_rfl
@[simp, go_sem] theorem tzero150 : tzero Try.prog 150 = some [.dead] := by kernel_rfl
@[simp, go_sem] theorem tis150 : (Try.prog.underlying 150).isSome = true := by kernel_rfl
@[simp, go_sem] theorem tsz151 : tsz Try.prog 151 = some 1 := by kernel_rfl
@[simp, go_sem] theorem tby151 : tby Try.prog 151 = some 8 := by kernel_rfl
@[simp, go_sem] theorem tagg151 : tagg Try.prog 151 = some false := by kernel_rfl
@[simp, go_sem] theorem tzero151 : tzero Try.prog 151 = some [.dead] := by kernel_rfl
@[simp, go_sem] theorem tis151 : (Try.prog.underlying 151).isSome = true := by kernel_rfl
@[simp, go_sem] theorem tsz152 : tsz Try.prog 152 = some 1 := by kernel_rfl
@[simp, go_sem] theorem tby152 : tby Try.prog 152 = some 8 := by kernel_rfl
@[simp, go_sem] theorem tagg152 : tagg Try.prog 152 = some false := by kernel_rfl
@[simp, go_sem] theorem tzero152 : tzero Try.prog 152 = some [.dead] := by kernel_rfl
@[simp, go_sem] theorem tis152 : (Try.prog.underlying 152).isSome = true := by kernel_rfl
@[simp, go_sem] theorem tsz153 : tsz Try.prog 153 = some 1 := by kernel_rfl
@[simp, go_sem] theorem tby153 : tby Try.prog 153 = some 8 := by kernel_rfl
@[simp, go_sem] theorem tagg153 : tagg Try.prog 153 = some false := by kernel_rfl
@[simp, go_sem] theorem tzero153 : tzero Try.prog 153 = some [.dead] := by kernel_rfl
@[simp, go_sem] theorem tis153 : (Try.prog.underlying 153).isSome = true := by kernel_rfl
@[simp, go_sem] theorem tsz154 : tsz Try.prog 154 = some 1 := by kernel_rfl
@[simp, go_sem] theorem tby154 : tby Try.prog 154 = some 8 := by kernel_rfl
@[simp, go_sem] theorem tagg154 : tagg Try.prog 154 = some false := by kernel_rfl
@[simp, go_sem] theorem tzero154 : tzero Try.prog 154 = some [.dead] := by kernel_rfl
@[simp, go_sem] theorem tis154 : (Try.prog.underlying 154).isSome = true := by kernel_rfl
@[simp, go_sem] theorem tsz155 : tsz Try.prog 155 = some 1 := by kernel_rfl
@[simp, go_sem] theorem tby155 : tby Try.prog 155 = some 8 := by kernel_rfl
@[simp, go_sem] theorem tagg155 : tagg Try.prog 155 = some false := by kernel_rfl
@[simp, go_sem] theorem tzero155 : tzero Try.prog 155 = some [.dead] := by kernel_rfl
@[simp, go_sem] theorem tis155 : (Try.prog.underlying 155).isSome = true := by kernel_rfl
@[simp, go_sem] theorem tsz156 : tsz Try.prog 156 = some 1 := by kernel_rfl
@[simp, go_sem] theorem tby156 : tby Try.prog 156 = some 8 := by kernel_rfl
@[simp, go_sem] theorem tagg156 : tagg Try.prog 156 = some false := by kernel_rfl
@[simp, go_sem] theorem tzero156 : tzero Try.prog 156 = some [.dead] := by kernel_rfl
@[simp, go_sem] theorem tis156 : (Try.prog.underlying 156).isSome = true := by kernel_rfl
@[simp, go_sem] theorem tsz157 : tsz Try.prog 157 = some 2 := by kernel_rfl
@[simp, go_sem] theorem tby157 : tby Try.prog 157 = some 16 := by kernel_rfl
@[simp, go_sem] theorem tagg157 : tagg Try.prog 157 = some true := by kernel_rfl
@[simp, go_sem] theorem tzero157 : tzero Try.prog 157 = some [.int .i64 0, .int .i64 0] := by kernel_rfl
@[simp, go_sem] theorem tis157 : (Try.prog.underlying 157).isSome = true := by kernel_rfl
@[simp, go_sem] theorem tcmp157 : tcmp Try.prog 157 2 = true := by kernel_rfl
@[simp, go_sem] theorem tstruct157 : tstruct Try.prog 157 = true := by kernel_rfl
@[simp, go_sem] theorem tfld157f0 : tfld Try.prog 157 0 = some (0, 3) := by kernel_rfl
@[simp, go_sem] theorem tfld157f1 : tfld Try.prog 157 1 = some (1, 3) := by kernel_rfl
@[simp, go_sem] theorem tsz158 : tsz Try.prog 158 = some 1 := by kernel_rfl
@[simp, go_sem] theorem tby158 : tby Try.prog 158 = some 8 := by kernel_rfl
@[simp, go_sem] theorem tagg158 : tagg Try.prog 158 = some false := by kernel_rfl
@[simp, go_sem] theorem tzero158 : tzero Try.prog 158 = some [.dead] := by kernel_rfl
@[simp, go_sem] theorem tis158 : (Try.prog.underlying 158).isSome = true := by kernel_rfl
@[simp, go_sem] theorem tsz159 : tsz Try.prog 159 = some 1 := by kernel_rfl
@[simp, go_sem] theorem tby159 : tby Try.prog 159 = some 8 := by kernel_rfl
@[simp, go_sem] theorem tagg159 : tagg Try.prog 159 = some false := by kernel_rfl
@[simp, go_sem] theorem tzero159 : tzero Try.prog 159 = some [.dead] := by kernel_rfl
@[simp, go_sem] theorem tis159 : (Try.prog.underlying 159).isSome = true := by kernel_rfl
@[simp, go_sem] theorem tsz160 : tsz Try.prog 160 = some 1 := by kernel_rfl
@[simp, go_sem] theorem tby160 : tby Try.prog 160 = some 8 := by kernel_rfl
@[simp, go_sem] theorem tagg160 : tagg Try.prog 160 = some false := by kernel_rfl
@[simp, go_sem] theorem tzero160 : tzero Try.prog 160 = some [.dead] := by kernel_rfl
@[simp, go_sem] theorem tis160 : (Try.prog.underlying 160).isSome = true := by kernel_rfl
@[simp, go_sem] theorem tsz161 : tsz Try.prog 161 = some 1 := by kernel_rfl
@[simp, go_sem] theorem tby161 : tby Try.prog 161 = some 8 := by kernel_rfl
@[simp, go_sem] theorem tagg161 : tagg Try.prog 161 = some false := by kernel_rfl
@[simp, go_sem] theorem tzero161 : tzero Try.prog 161 = some [.dead] := by kernel_rfl
@[simp, go_sem] theorem tis161 : (Try.prog.underlying 161).isSome = true := by kernel_rfl
@[simp, go_sem] theorem tsz162 : tsz Try.prog 162 = some 1 := by kernel_rfl
@[simp, go_sem] theorem tby162 : tby Try.prog 162 = some 8 := by kernel_rfl
@[simp, go_sem] theorem tagg162 : tagg Try.prog 162 = some false := by kernel_rfl
@[simp, go_sem] theorem tzero162 : tzero Try.prog 162 = some [.dead] := by kernel_rfl
@[simp, go_sem] theorem tis162 : (Try.prog.underlying 162).isSome = true := by kernel_rfl
@[simp, go_sem] theorem tsz163 : tsz Try.prog 163 = some 1 := by kernel_rfl
@[simp, go_sem] theorem tby163 : tby Try.prog 163 = some 8 := by kernel_rfl
@[simp, go_sem] theorem tagg163 : tagg Try.prog 163 = some false := by kernel_rfl
@[simp, go_sem] theorem tzero163 : tzero Try.prog 163 = some [.dead] := by kernel_rfl
@[simp, go_sem] theorem tis163 : (Try.prog.underlying 163).isSome = true := by kernel_rfl
@[simp, go_sem] theorem tsz164 : tsz Try.prog 164 = some 1 := by kernel_rfl
@[simp, go_sem] theorem tby164 : tby Try.prog 164 = some 8 := by kernel_rfl
@[simp, go_sem] theorem tagg164 : tagg Try.prog 164 = some false := by kernel_rfl
@[simp, go_sem] theorem tzero164 : tzero Try.prog 164 = some [.dead] := by kernel_rfl
@[simp, go_sem] theorem tis164 : (Try.prog.underlying 164).isSome = true := by kernel_rfl
@[simp, go_sem] theorem tsz165 : tsz Try.prog 165 = some 1 := by kernel_rfl
@[simp, go_sem] theorem tby165 : tby Try.prog 165 = some 8 := by kernel_rfl
@[simp, go_sem] theorem tagg165 : tagg Try.prog 165 = some false := by kernel_rfl
@[simp, go_sem] theorem tzero165 : tzero Try.prog 165 = some [.dead] := by kernel_rfl
@[simp, go_sem] theorem tis165 : (Try.prog.underlying 165).isSome = true := by kernel_rfl
@[simp, go_sem] theorem tsz166 : tsz Try.prog 166 = some 1 := by kernel_rfl
@[simp, go_sem] theorem tby166 : tby Try.prog 166 = some 8 := by kernel_rfl
@[simp, go_sem] theorem tagg166 : tagg Try.prog 166 = some false := by kernel_rfl
@[simp, go_sem] theorem tzero166 : tzero Try.prog 166 = some [.dead] := by kernel_rfl
@[simp, go_sem] theorem tis166 : (Try.prog.underlying 166).isSome = true := by kernel_rfl
@[simp, go_sem] theorem tsz167 : tsz Try.prog 167 = some 1 := by kernel_rfl
@[simp, go_sem] theorem tby167 : tby Try.prog 167 = some 8 := by kernel_rfl
@[simp, go_sem] theorem tagg167 : tagg Try.prog 167 = some false := by kernel_rfl
@[simp, go_sem] theorem tzero167 : tzero Try.prog 167 = some [.dead] := by kernel_rfl
@[simp, go_sem] theorem tis167 : (Try.prog.underlying 167).isSome = true := by kernel_rfl
@[simp, go_sem] theorem tsz168 : tsz Try.prog 168 = some 1 := by kernel_rfl
@[simp, go_sem] theorem tby168 : tby Try.prog 168 = some 8 := by kernel_rfl
@[simp, go_sem] theorem tagg168 : tagg Try.prog 168 = some false := by kernel_rfl
@[simp, go_sem] theorem tzero168 : tzero Try.prog 168 = some [.dead] := by kernel_rfl
@[simp, go_sem] theorem tis168 : (Try.prog.underlying 168).isSome = true := by kernel_rfl
@[simp, go_sem] theorem tsz169 : tsz Try.prog 169 = some 1 := by kernel_rfl
@[simp, go_sem] theorem tby169 : tby Try.prog 169 = some 8 := by kernel_rfl
@[simp, go_sem] theorem tagg169 : tagg Try.prog 169 = some false := by kernel_rfl
@[simp, go_sem] theorem tzero169 : tzero Try.prog 169 = some [.dead] := by kernel_rfl
@[simp, go_sem] theorem tis169 : (Try.prog.underlying 169).isSome = true := by kernel_rfl
@[simp, go_sem] theorem tsz170 : tsz Try.prog 170 = some 1 := by kernel_rfl
@[simp, go_sem] theorem tby170 : tby Try.prog 170 = some 8 := by kernel_rfl
@[simp, go_sem] theorem tagg170 : tagg Try.prog 170 = some false := by kernel_rfl
@[simp, go_sem] theorem tzero170 : tzero Try.prog 170 = some [.dead] := by kernel_rfl
@[simp, go_sem] theorem tis170 : (Try.prog.underlying 170).isSome = true := by kernel_rfl
@[simp, go_sem] theorem tsz171 : tsz Try.prog 171 = some 1 := by kernel_rfl
@[simp, go_sem] theorem tby171 : tby Try.prog 171 = some 8 := by kernel_rfl
@[simp, go_sem] theorem tagg171 : tagg Try.prog 171 = some false := by kernel_rfl
@[simp, go_sem] theorem tzero171 : tzero Try.prog 171 = some [.dead] := by kernel_rfl
@[simp, go_sem] theorem tis171 : (Try.prog.underlying 171).isSome = true := by kernel_rfl
@[simp, go_sem] theorem tsz172 : tsz Try.prog 172 = some 1 := by kernel_rfl
@[simp, go_sem] theorem tby172 : tby Try.prog 172 = some 8 := by kernel_rfl
@[simp, go_sem] theorem tagg172 : tagg Try.prog 172 = some false := by kernel_rfl
@[simp, go_sem] theorem tzero172 : tzero Try.prog 172 = some [.dead] := by kernel_rfl
@[simp, go_sem] theorem tis172 : (Try.prog.underlying 172).isSome = true := by kernel_rfl
@[simp, go_sem] theorem tsz173 : tsz Try.prog 173 = some 1 := by kernel_rfl
@[simp, go_sem] theorem tby173 : tby Try.prog 173 = some 8 := by kernel_rfl
@[simp, go_sem] theorem tagg173 : tagg Try.prog 173 = some false := by kernel_rfl
@[simp, go_sem] theorem tzero173 : tzero Try.prog 173 = some [.dead] := by kernel_rfl
@[simp, go_sem] theorem tis173 : (Try.prog.underlying 173).isSome = true := by kernel_rfl
@[simp, go_sem] theorem tsz174 : tsz Try.prog 174 = some 1 := by kernel_rfl
@[simp, go_sem] theorem tby174 : tby Try.prog 174 = some 8 := by kernel_rfl
@[simp, go_sem] theorem tagg174 : tagg Try.prog 174 = some false := by kernel_rfl
@[simp, go_sem] theorem tzero174 : tzero Try.prog 174 = some [.dead] := by kernel_rfl
@[simp, go_sem] theorem tis174 : (Try.prog.underlying 174).isSome = true := by kernel_rfl
@[simp, go_sem] theorem tsz176 : tsz Try.prog 176 = some 1 := by kernel_rfl
@[simp, go_sem] theorem tby176 : tby Try.prog 176 = some 8 := by kernel_rfl
@[simp, go_sem] theorem tagg176 : tagg Try.prog 176 = some false := by kernel_rfl
@[simp, go_sem] theorem tzero176 : tzero Try.prog 176 = some [.dead] := by kernel_rfl
@[simp, go_sem] theorem tis176 : (Try.prog.underlying 176).isSome = true := by kernel_rfl
@[simp, go_sem] theorem tsz177 : tsz Try.prog 177 = some 1 := by kernel_rfl
@[simp, go_sem] theorem tby177 : tby Try.prog 177 = some 8 := by kernel_rfl
@[simp, go_sem] theorem tagg177 : tagg Try.prog 177 = some false := by kernel_rfl
@[simp, go_sem] theorem tzero177 : tzero Try.prog 177 = some [.dead] := by kernel_rfl
@[simp, go_sem] theorem tis177 : (Try.prog.underlying 177).isSome = true := by kernel_rfl
@[simp, go_sem] theorem tsz178 : tsz Try.prog 178 = some 1 := by kernel_rfl
@[simp, go_sem] theorem tby178 : tby Try.prog 178 = some 8 := by kernel_rfl
@[simp, go_sem] theorem tagg178 : tagg Try.prog 178 = some false := by kernel_rfl
@[simp, go_sem] theorem tzero178 : tzero Try.prog 178 = some [.dead] := by kernel_rfl
@[simp, go_sem] theorem tis178 : (Try.prog.underlying 178).isSome = true := by kernel_rfl
@[simp, go_sem] theorem tsz179 : tsz Try.prog 179 = some 1 := by kernel_rfl
@[simp, go_sem] theorem tby179 : tby Try.prog 179 = some 8 := by kernel_rfl
@[simp, go_sem] theorem tagg179 : tagg Try.prog 179 = some false := by kernel_rfl
@[simp, go_sem] theorem tzero179 : tzero Try.prog 179 = some [.dead] := by kernel_rfl
@[simp, go_sem] theorem tis179 : (Try.prog.underlying 179).isSome = true := by kernel_rfl
@[simp, go_sem] theorem tsz180 : tsz Try.prog 180 = some 1 := by kernel_rfl
@[simp, go_sem] theorem tby180 : tby Try.prog 180 = some 8 := by kernel_rfl
@[simp, go_sem] theorem tagg180 : tagg Try.prog 180 = some false := by kernel_rfl
@[simp, go_sem] theorem tzero180 : tzero Try.prog 180 = some [.dead] := by kernel_rfl
@[simp, go_sem] theorem tis180 : (Try.prog.underlying 180).isSome = true := by kernel_rfl
@[simp, go_sem] theorem tsz181 : tsz Try.prog 181 = some 1 := by kernel_rfl
@[simp, go_sem] theorem tby181 : tby Try.prog 181 = some 8 := by kernel_rfl
@[simp, go_sem] theorem tagg181 : tagg Try.prog 181 = some false := by kernel_rfl
@[simp, go_sem] theorem tzero181 : tzero Try.prog 181 = some [.dead] := by kernel_rfl
@[simp, go_sem] theorem tis181 : (Try.prog.underlying 181).isSome = true := by kernel_rfl
@[simp, go_sem] theorem tsz182 : tsz Try.prog 182 = some 1 := by kernel_rfl
@[simp, go_sem] theorem tby182 : tby Try.prog 182 = some 8 := by kernel_rfl
@[simp, go_sem] theorem tagg182 : tagg Try.prog 182 = some false := by kernel_rfl
@[simp, go_sem] theorem tzero182 : tzero Try.prog 182 = some [.dead] := by kernel_rfl
@[simp, go_sem] theorem tis182 : (Try.prog.underlying 182).isSome = true := by kernel_rfl
@[simp, go_sem] theorem tsz183 : tsz Try.prog 183 = some 1 := by kernel_rfl
@[simp, go_sem] theorem tby183 : tby Try.prog 183 = some 8 := by kernel_rfl
@[simp, go_sem] theorem tagg183 : tagg Try.prog 183 = some false := by kernel_rfl
@[simp, go_sem] theorem tzero183 : tzero Try.prog 183 = some [.nilp] := by kernel_rfl
@[simp, go_sem] theorem tis183 : (Try.prog.underlying 183).isSome = true := by kernel_rfl
@[simp, go_sem] theorem tsz184 : tsz Try.prog 184 = some 6 := by kernel_rfl
@[simp, go_sem] theorem tby184 : tby Try.prog 184 = some 128 := by kernel_rfl
@[simp, go_sem] theorem tagg184 : tagg Try.prog 184 = some true := by kernel_rfl
@[simp, go_sem] theorem tzero184 : tzero Try.prog 184 = some [.nil, .nil, .nil, .nil, .nil, .int .i64 0] := by kernel_rfl
@[simp, go_sem] theorem tis184 : (Try.prog.underlying 184).isSome = true := by kernel_rfl
@[simp, go_sem] theorem tstruct184 : tstruct Try.prog 184 = true := by kernel_rfl
@[simp, go_sem] theorem tfld184f0 : tfld Try.prog 184 0 = some (0, 46) := by kernel_rfl
@[simp, go_sem] theorem tfld184f1 : tfld Try.prog 184 1 = some (1, 25) := by kernel_rfl
@[simp, go_sem] theorem tfld184f2 : tfld Try.prog 184 2 = some (2, 25) := by kernel_rfl
@[simp, go_sem] theorem tfld184f3 : tfld Try.prog 184 3 = some (3, 25) := by kernel_rfl
@[simp, go_sem] theorem tfld184f4 : tfld Try.prog 184 4 = some (4, 25) := by kernel_rfl
@[simp, go_sem] theorem tfld184f5 : tfld Try.prog 184 5 = some (5, 3) := by kernel_rfl
@[simp, go_sem] theorem tsz185 : tsz Try.prog 185 = some 6 := by kernel_rfl
@[simp, go_sem] theorem tby185 : tby Try.prog 185 = some 128 := by kernel_rfl
@[simp, go_sem] theorem tagg185 : tagg Try.prog 185 = some true := by kernel_rfl
@[simp, go_sem] theorem tzero185 : tzero Try.prog 185 = some [.nil, .nil, .nil, .nil, .nil, .int .i64 0] := by kernel_rfl
@[simp, go_sem] theorem tis185 : (Try.prog.underlying 185).isSome = true := by kernel_rfl
@[simp, go_sem] theorem tstruct185 : tstruct Try.prog 185 = true := by kernel_rfl
@[simp, go_sem] theorem tfld185f0 : tfld Try.prog 185 0 = some (0, 46) := by kernel_rfl
@[simp, go_sem] theorem tfld185f1 : tfld Try.prog 185 1 = some (1, 25) := by kernel_rfl
@[simp, go_sem] theorem tfld185f2 : tfld Try.prog 185 2 = some (2, 25) := by kernel_rfl
@[simp, go_sem] theorem tfld185f3 : tfld Try.prog 185 3 = some (3, 25) := by kernel_rfl
@[simp, go_sem] theorem tfld185f4 : tfld Try.prog 185 4 = some (4, 25) := by kernel_rfl
@[simp, go_sem] theorem tfld185f5 : tfld Try.prog 185 5 = some (5, 3) := by kernel_rfl
@[simp, go_sem] theorem tsz187 : tsz Try.prog 187 = some 1 := by kernel_rfl
@[simp, go_sem] theorem tby187 : tby Try.prog 187 = some 8 := by kernel_rfl
@[simp, go_sem] theorem tagg187 : tagg Try.prog 187 = some false := by kernel_rfl
@[simp, go_sem] theorem tzero187 : tzero Try.prog 187 = some [.dead] := by kernel_rfl
@[simp, go_sem] theorem tis187 : (Try.prog.underlying 187).isSome = true := by kernel_rfl
@[simp, go_sem] theorem tsz188 : tsz Try.prog 188 = some 1 := by kernel_rfl
@[simp, go_sem] theorem tby188 : tby Try.prog 188 = some 24 := by kernel_rfl
@[simp, go_sem] theorem tagg188 : tagg Try.prog 188 = some false := by kernel_rfl
@[simp, go_sem] theorem tzero188 : tzero Try.prog 188 = some [.nil] := by kernel_rfl
@[simp, go_sem] theorem telem188 : telem Try.prog 188 = some 35 := by kernel_rfl
@[simp, go_sem] theorem tis188 : (Try.prog.underlying 188).isSome = true := by kernel_rfl
@[simp, go_sem] theorem tsz189 : tsz Try.prog 189 = some 1 := by kernel_rfl
@[simp, go_sem] theorem tby189 : tby Try.prog 189 = some 8 := by kernel_rfl
@[simp, go_sem] theorem tagg189 : tagg Try.prog 189 = some false := by kernel_rfl
@[simp, go_sem] theorem tzero189 : tzero Try.prog 189 = some [.dead] := by kernel_rfl
@[simp, go_sem] theorem tis189 : (Try.prog.underlying 189).isSome = true := by kernel_rfl
@[simp, go_sem] theorem tsz190 : tsz Try.prog 190 = some 1 := by kernel_rfl
@[simp, go_sem] theorem tby190 : tby Try.prog 190 = some 8 := by kernel_rfl
@[simp, go_sem] theorem tagg190 : tagg Try.prog 190 = some false := by kernel_rfl
@[simp, go_sem] theorem tzero190 : tzero Try.prog 190 = some [.dead] := by kernel_rfl
@[simp, go_sem] theorem tis190 : (Try.prog.underlying 190).isSome = true := by kernel_rfl
@[simp, go_sem] theorem tsz191 : tsz Try.prog 191 = some 1 := by kernel_rfl
@[simp, go_sem] theorem tby191 : tby Try.prog 191 = some 8 := by kernel_rfl
@[simp, go_sem] theorem tagg191 : tagg Try.prog 191 = some false := by kernel_rfl
@[simp, go_sem] theorem tzero191 : tzero Try.prog 191 = some [.dead] := by kernel_rfl
@[simp, go_sem] theorem tis191 : (Try.prog.underlying 191).isSome = true := by kernel_rfl
@[simp, go_sem] theorem tsz192 : tsz Try.prog 192 = some 1 := by kernel_rfl
@[simp, go_sem] theorem tby192 : tby Try.prog 192 = some 8 := by kernel_rfl
@[simp, go_sem] theorem tagg192 : tagg Try.prog 192 = some false := by kernel_rfl
@[simp, go_sem] theorem tzero192 : tzero Try.prog 192 = some [.dead] := by kernel_rfl
@[simp, go_sem] theorem tis192 : (Try.prog.underlying 192).isSome = true := by kernel_rfl
@[simp, go_sem] theorem tsz193 : tsz Try.prog 193 = some 1 := by kernel_rfl
@[simp, go_sem] theorem tby193 : tby Try.prog 193 = some 8 := by kernel_rfl
@[simp, go_sem] theorem tagg193 : tagg Try.prog 193 = some false := by kernel_rfl
@[simp, go_sem] theorem tzero193 : tzero Try.prog 193 = some [.dead] := by kernel_rfl
@[simp, go_sem] theorem tis193 : (Try.prog.underlying 193).isSome = true := by kernel_rfl
@[simp, go_sem] theorem tsz194 : tsz Try.prog 194 = some 1 := by kernel_rfl
@[simp, go_sem] theorem tby194 : tby Try.prog 194 = some 8 := by kernel_rfl
@[simp, go_sem] theorem tagg194 : tagg Try.prog 194 = some false := by kernel_rfl
@[simp, go_sem] theorem tzero194 : tzero Try.prog 194 = some [.dead] := by kernel_rfl
@[simp, go_sem] theorem tis194 : (Try.prog.underlying 194).isSome = true := by kernel_rfl
@[simp, go_sem] theorem tsz195 : tsz Try.prog 195 = some 1 := by kernel_rfl
@[simp, go_sem] theorem tby195 : tby Try.prog 195 = some 8 := by kernel_rfl
@[simp, go_sem] theorem tagg195 : tagg Try.prog 195 = some false := by kernel_rfl
@[simp, go_sem] theorem tzero195 : tzero Try.prog 195 = some [.dead] := by kernel_rfl
@[simp, go_sem] theorem tis195 : (Try.prog.underlying 195).isSome = true := by kernel_rfl
@[simp, go_sem] theorem tsz196 : tsz Try.prog 196 = some 1 := by kernel_rfl
@[simp, go_sem] theorem tby196 : tby Try.prog 196 = some 8 := by kernel_rfl
@[simp, go_sem] theorem tagg196 : tagg Try.prog 196 = some false := by kernel_rfl
@[simp, go_sem] theorem tzero196 : tzero Try.prog 196 = some [.dead] := by kernel_rfl
@[simp, go_sem] theorem tis196 : (Try.prog.underlying 196).isSome = true := by kernel_rfl
@[simp, go_sem] theorem tsz197 : tsz Try.prog 197 = some 1 := by kernel_rfl
@[simp, go_sem] theorem tby197 : tby Try.prog 197 = some 8 := by kernel_rfl
@[simp, go_sem] theorem tagg197 : tagg Try.prog 197 = some false := by kernel_rfl
@[simp, go_sem] theorem tzero197 : tzero Try.prog 197 = some [.dead] := by kernel_rfl
@[simp, go_sem] theorem tis197 : (Try.prog.underlying 197).isSome = true := by kernel_rfl
@[simp, go_sem] theorem tsz198 : tsz Try.prog 198 = some 1 := by kernel_rfl
@[simp, go_sem] theorem tby198 : tby Try.prog 198 = some 8 := by kernel_rfl
@[simp, go_sem] theorem tagg198 : tagg Try.prog 198 = some false := by kernel_rfl
@[simp, go_sem] theorem tzero198 : tzero Try.prog 198 = some [.dead] := by kernel_rfl
@[simp, go_sem] theorem tis198 : (Try.prog.underlying 198).isSome = true := by kernel_rfl
@[simp, go_sem] theorem tsz199 : tsz Try.prog 199 = some 1 := by kernel_rfl
@[simp, go_sem] theorem tby199 : tby Try.prog 199 = some 8 := by kernel_rfl
@[simp, go_sem] theorem tagg199 : tagg Try.prog 199 = some false := by kernel_rfl
@[simp, go_sem] theorem tzero199 : tzero Try.prog 199 = some [.dead] := by kernel_rfl
@[simp, go_sem] theorem tis199 : (Try.prog.underlying 199).isSome = true := by kernel_rfl
@[simp, go_sem] theorem tsz200 : tsz Try.prog 200 = some 1 := by kernel_rfl
@[simp, go_sem] theorem tby200 : tby Try.prog 200 = some 8 := by kernel_rfl
@[simp, go_sem] theorem tagg200 : tagg Try.prog 200 = some false := by kernel_rfl
@[simp, go_sem] theorem tzero200 : tzero Try.prog 200 = some [.dead] := by kernel_rfl
@[simp, go_sem] theorem tis200 : (Try.prog.underlying 200).isSome = true := by kernel_rfl
@[simp, go_sem] theorem tsz201 : tsz Try.prog 201 = some 1 := by kernel_rfl
@[simp, go_sem] theorem tby201 : tby Try.prog 201 = some 8 := by kernel_rfl
@[simp, go_sem] theorem tagg201 : tagg Try.prog 201 = some false := by kernel_rfl
@[simp, go_sem] theorem tzero201 : tzero Try.prog 201 = some [.dead] := by kernel_rfl
@[simp, go_sem] theorem tis201 : (Try.prog.underlying 201).isSome = true := by kernel_rfl
@[simp, go_sem] theorem tsz202 : tsz Try.prog 202 = some 1 := by kernel_rfl
@[simp, go_sem] theorem tby202 : tby Try.prog 202 = some 8 := by kernel_rfl
@[simp, go_sem] theorem tagg202 : tagg Try.prog 202 = some false := by kernel_rfl
@[simp, go_sem] theorem tzero202 : tzero Try.prog 202 = some [.dead] := by kernel_rfl
@[simp, go_sem] theorem tis202 : (Try.prog.underlying 202).isSome = true := by kernel_rfl
@[simp, go_sem] theorem tsz203 : tsz Try.prog 203 = some 1 := by kernel_rfl
@[simp, go_sem] theorem tby203 : tby Try.prog 203 = some 8 := by kernel_rfl
@[simp, go_sem] theorem tagg203 : tagg Try.prog 203 = some false := by kernel_rfl
@[simp, go_sem] theorem tzero203 : tzero Try.prog 203 = some [.dead] := by kernel_rfl
@[simp, go_sem] theorem tis203 : (Try.prog.underlying 203).isSome = true := by kernel_rfl
@[simp, go_sem] theorem tsz204 : tsz Try.prog 204 = some 1 := by kernel_rfl
@[simp, go_sem] theorem tby204 : tby Try.prog 204 = some 8 := by kernel_rfl
@[simp, go_sem] theorem tagg204 : tagg Try.prog 204 = some false := by kernel_rfl
@[simp, go_sem] theorem tzero204 : tzero Try.prog 204 = some [.dead] := by kernel_rfl
@[simp, go_sem] theorem tis204 : (Try.prog.underlying 204).isSome = true := by kernel_rfl
@[simp, go_sem] theorem tsz205 : tsz Try.prog 205 = some 1 := by kernel_rfl
@[simp, go_sem] theorem tby205 : tby Try.prog 205 = some 24 := by kernel_rfl
@[simp, go_sem] theorem tagg205 : tagg Try.prog 205 = some false := by kernel_rfl
@[simp, go_sem] theorem tzero205 : tzero Try.prog 205 = some [.nil] := by kernel_rfl
@[simp, go_sem] theorem telem205 : telem Try.prog 205 = some 56 := by kernel_rfl
@[simp, go_sem] theorem tis205 : (Try.prog.underlying 205).isSome = true := by kernel_rfl
@[simp, go_sem] theorem tsz206 : tsz Try.prog 206 = some 1 := by kernel_rfl
@[simp, go_sem] theorem tby206 : tby Try.prog 206 = some 8 := by kernel_rfl
@[simp, go_sem] theorem tagg206 : tagg Try.prog 206 = some false := by kernel_rfl
@[simp, go_sem] theorem tzero206 : tzero Try.prog 206 = some [.dead] := by kernel_rfl
@[simp, go_sem] theorem tis206 : (Try.prog.underlying 206).isSome = true := by kernel_rfl
@[simp, go_sem] theorem tsz207 : tsz Try.prog 207 = some 1 := by kernel_rfl
@[simp, go_sem] theorem tby207 : tby Try.prog 207 = some 8 := by kernel_rfl
@[simp, go_sem] theorem tagg207 : tagg Try.prog 207 = some false := by kernel_rfl
@[simp, go_sem] theorem tzero207 : tzero Try.prog 207 = some [.nilp] := by kernel_rfl
@[simp, go_sem] theorem tis207 : (Try.prog.underlying 207).isSome = true := by kernel_rfl
@[simp, go_sem] theorem tsz208 : tsz Try.prog 208 = some 3 := by kernel_rfl
@[simp, go_sem] theorem tby208 : tby Try.prog 208 = some 72 := by kernel_rfl
@[simp, go_sem] theorem tagg208 : tagg Try.prog 208 = some true := by kernel_rfl
@[simp, go_sem] theorem tzero208 : tzero Try.prog 208 = some [.nil, .nil, .nil] := by kernel_rfl
@[simp, go_sem] theorem tis208 : (Try.prog.underlying 208).isSome = true := by kernel_rfl
@[simp, go_sem] theorem tstruct208 : tstruct Try.prog 208 = true := by kernel_rfl
@[simp, go_sem] theorem tfld208f0 : tfld Try.prog 208 0 = some (0, 46) := by kernel_rfl
@[simp, go_sem] theorem tfld208f1 : tfld Try.prog 208 1 = some (1, 35) := by kernel_rfl
@[simp, go_sem] theorem tfld208f2 : tfld Try.prog 208 2 = some (2, 25) := by kernel_rfl
@[simp, go_sem] theorem tsz209 : tsz Try.prog 209 = some 3 := by kernel_rfl
@[simp, go_sem] theorem tby209 : tby Try.prog 209 = some 72 := by kernel_rfl
@[simp, go_sem] theorem tagg209 : tagg Try.prog 209 = some true := by kernel_rfl
@[simp, go_sem] theorem tzero209 : tzero Try.prog 209 = some [.nil, .nil, .nil] := by kernel_rfl
@[simp, go_sem] theorem tis209 : (Try.prog.underlying 209).isSome = true := by kernel_rfl
@[simp, go_sem] theorem tstruct209 : tstruct Try.prog 209 = true := by kernel_rfl
@[simp, go_sem] theorem tfld209f0 : tfld Try.prog 209 0 = some (0, 46) := by kernel_rfl
@[simp, go_sem] theorem tfld209f1 : tfld Try.prog 209 1 = some (1, 35) := by kernel_rfl
@[simp, go_sem] theorem tfld209f2 : tfld Try.prog 209 2 = some (2, 25) := by kernel_rfl
@[simp, go_sem] theorem tsz210 : tsz Try.prog 210 = some 1 := by kernel_rfl
@[simp, go_sem] theorem tby210 : tby Try.prog 210 = some 4 := by kernel_rfl
@[simp, go_sem] theorem tagg210 : tagg Try.prog 210 = some false := by kernel_rfl
@[simp, go_sem] theorem tzero210 : tzero Try.prog 210 = some [.int .u32 0] := by kernel_rfl
@[simp, go_sem] theorem tis210 : (Try.prog.underlying 210).isSome = true := by kernel_rfl
@[simp, go_sem] theorem tint210 : tint Try.prog 210 = some .u32 := by kernel_rfl
@[simp, go_sem] theorem tsz212 : tsz Try.prog 212 = some 1 := by kernel_rfl
@[simp, go_sem] theorem tby212 : tby Try.prog 212 = some 8 := by kernel_rfl
@[simp, go_sem] theorem tagg212 : tagg Try.prog 212 = some false := by kernel_rfl
@[simp, go_sem] theorem tzero212 : tzero Try.prog 212 = some [.dead] := by kernel_rfl
@[simp, go_sem] theorem tis212 : (Try.prog.underlying 212).isSome = true := by kernel_rfl
@[simp, go_sem] theorem tsz214 : tsz Try.prog 214 = some 1 := by kernel_rfl
@[simp, go_sem] theorem tby214 : tby Try.prog 214 = some 8 := by kernel_rfl
@[simp, go_sem] theorem tagg214 : tagg Try.prog 214 = some false := by kernel_rfl
@[simp, go_sem] theorem tzero214 : tzero Try.prog 214 = some [.dead] := by kernel_rfl
@[simp, go_sem] theorem tis214 : (Try.prog.underlying 214).isSome = true := by kernel_rfl
@[simp, go_sem] theorem tsz215 : tsz Try.prog 215 = some 1 := by kernel_rfl
@[simp, go_sem] theorem tby215 : tby Try.prog 215 = some 8 := by kernel_rfl
@[simp, go_sem] theorem tagg215 : tagg Try.prog 215 = some false := by kernel_rfl
@[simp, go_sem] theorem tzero215 : tzero Try.prog 215 = some [.dead] := by kernel_rfl
@[simp, go_sem] theorem tis215 : (Try.prog.underlying 215).isSome = true := by kernel_rfl
@[simp, go_sem] theorem tsz216 : tsz Try.prog 216 = some 1 := by kernel_rfl
@[simp, go_sem] theorem tby216 : tby Try.prog 216 = some 8 := by kernel_rfl
@[simp, go_sem] theorem tagg216 : tagg Try.prog 216 = some false := by kernel_rfl
@[simp, go_sem] theorem tzero216 : tzero Try.prog 216 = some [.dead] := by kernel_rfl
@[simp, go_sem] theorem tis216 : (Try.prog.underlying 216).isSome = true := by kernel_rfl
@[simp, go_sem] theorem tsz217 : tsz Try.prog 217 = some 1 := by kernel_rfl
@[simp, go_sem] theorem tby217 : tby Try.prog 217 = some 8 := by kernel_rfl
@[simp, go_sem] theorem tagg217 : tagg Try.prog 217 = some false := by kernel_rfl
@[simp, go_sem] theorem tzero217 : tzero Try.prog 217 = some [.dead] := by kernel_rfl
@[simp, go_sem] theorem tis217 : (Try.prog.underlying 217).isSome = true := by kernel_rfl
@[simp, go_sem] theorem tsz218 : tsz Try.prog 218 = some 1 := by kernel_rfl
@[simp, go_sem] theorem tby218 : tby Try.prog 218 = some 8 := by kernel_rfl
@[simp, go_sem] theorem tagg218 : tagg Try.prog 218 = some false := by kernel_rfl
@[simp, go_sem] theorem tzero218 : tzero Try.prog 218 = some [.dead] := by kernel_rfl
@[simp, go_sem] theorem tis218 : (Try.prog.underlying 218).isSome = true := by kernel_rfl
@[simp, go_sem] theorem tsz219 : tsz Try.prog 219 = some 1 := by kernel_rfl
@[simp, go_sem] theorem tby219 : tby Try.prog 219 = some 8 := by kernel_rfl
@[simp, go_sem] theorem tagg219 : tagg Try.prog 219 = some false := by kernel_rfl
@[simp, go_sem] theorem tzero219 : tzero Try.prog 219 = some [.dead] := by kernel_rfl
@[simp, go_sem] theorem tis219 : (Try.prog.underlying 219).isSome = true := by kernel_rfl
@[simp, go_sem] theorem tsz220 : tsz Try.prog 220 = some 1 := by kernel_rfl
@[simp, go_sem] theorem tby220 : tby Try.prog 220 = some 8 := by kernel_rfl
@[simp, go_sem] theorem tagg220 : tagg Try.prog 220 = some false := by kernel_rfl
@[simp, go_sem] theorem tzero220 : tzero Try.prog 220 = some [.dead] := by kernel_rfl
@[simp, go_sem] theorem tis220 : (Try.prog.underlying 220).isSome = true := by kernel_rfl
@[simp, go_sem] theorem tsz221 : tsz Try.prog 221 = some 1 := by kernel_rfl
@[simp, go_sem] theorem tby221 : tby Try.prog 221 = some 8 := by kernel_rfl
@[simp, go_sem] theorem tagg221 : tagg Try.prog 221 = some false := by kernel_rfl
@[simp, go_sem] theorem tzero221 : tzero Try.prog 221 = some [.dead] := by kernel_rfl
@[simp, go_sem] theorem tis221 : (Try.prog.underlying 221).isSome = true := by kernel_rfl
@[simp, go_sem] theorem tsz222 : tsz Try.prog 222 = some 1 := by kernel_rfl
@[simp, go_sem] theorem tby222 : tby Try.prog 222 = some 8 := by kernel_rfl
@[simp, go_sem] theorem tagg222 : tagg Try.prog 222 = some false := by kernel_rfl
@[simp, go_sem] theorem tzero222 : tzero Try.prog 222 = some [.dead] := by kernel_rfl
@[simp, go_sem] theorem tis222 : (Try.prog.underlying 222).isSome = true := by kernel_rfl
@[simp, go_sem] theorem tsz223 : tsz Try.prog 223 = some 1 := by kernel_rfl
@[simp, go_sem] theorem tby223 : tby Try.prog 223 = some 8 := by kernel_rfl
@[simp, go_sem] theorem tagg223 : tagg Try.prog 223 = some false := by kernel_rfl
@[simp, go_sem] theorem tzero223 : tzero Try.prog 223 = some [.dead] := by kernel_rfl
@[simp, go_sem] theorem tis223 : (Try.prog.underlying 223).isSome = true := by kernel_rfl
@[simp, go_sem] theorem tsz224 : tsz Try.prog 224 = some 1 := by kernel_rfl
@[simp, go_sem] theorem tby224 : tby Try.prog 224 = some 8 := by kernel_rfl
@[simp, go_sem] theorem tagg224 : tagg Try.prog 224 = some false := by kernel_rfl
@[simp, go_sem] theorem tzero224 : tzero Try.prog 224 = some [.dead] := by kernel_rfl
@[simp, go_sem] theorem tis224 : (Try.prog.underlying 224).isSome = true := by kernel_rfl
@[simp, go_sem] theorem tsz225 : tsz Try.prog 225 = some 1 := by kernel_rfl
@[simp, go_sem] theorem tby225 : tby Try.prog 225 = some 8 := by kernel_rfl
@[simp, go_sem] theorem tagg225 : tagg Try.prog 225 = some false := by kernel_rfl
@[simp, go_sem] theorem tzero225 : tzero Try.prog 225 = some [.int .i64 0] := by kernel_rfl
@[simp, go_sem] theorem tis225 : (Try.prog.underlying 225).isSome = true := by kernel_rfl
@[simp, go_sem] theorem tint225 : tint Try.prog 225 = some .i64 := by kernel_rfl
@[simp, go_sem] theorem tsz227 : tsz Try.prog 227 = some 1 := by kernel_rfl
@[simp, go_sem] theorem tby227 : tby Try.prog 227 = some 8 := by kernel_rfl
@[simp, go_sem] theorem tagg227 : tagg Try.prog 227 = some false := by kernel_rfl
@[simp, go_sem] theorem tzero227 : tzero Try.prog 227 = some [.dead] := by kernel_rfl
@[simp, go_sem] theorem tis227 : (Try.prog.underlying 227).isSome = true := by kernel_rfl
@[simp, go_sem] theorem tsz228 : tsz Try.prog 228 = some 1 := by kernel_rfl
@[simp, go_sem] theorem tby228 : tby Try.prog 228 = some 8 := by kernel_rfl
@[simp, go_sem] theorem tagg228 : tagg Try.prog 228 = some false := by kernel_rfl
@[simp, go_sem] theorem tzero228 : tzero Try.prog 228 = some [.dead] := by kernel_rfl
@[simp, go_sem] theorem tis228 : (Try.prog.underlying 228).isSome = true := by kernel_rfl
@[simp, go_sem] theorem tsz229 : tsz Try.prog 229 = some 1 := by kernel_rfl
@[simp, go_sem] theorem tby229 : tby Try.prog 229 = some 8 := by kernel_rfl
@[simp, go_sem] theorem tagg229 : tagg Try.prog 229 = some false := by kernel_rfl
@[simp, go_sem] theorem tzero229 : tzero Try.prog 229 = some [.dead] := by kernel_rfl
@[simp, go_sem] theorem tis229 : (Try.prog.underlying 229).isSome = true := by kernel_rfl
@[simp, go_sem] theorem tsz230 : tsz Try.prog 230 = some 1 := by kernel_rfl
@[simp, go_sem] theorem tby230 : tby Try.prog 230 = some 8 := by kernel_rfl
@[simp, go_sem] theorem tagg230 : tagg Try.prog 230 = some false := by kernel_rfl
@[simp, go_sem] theorem tzero230 : tzero Try.prog 230 = some [.dead] := by kernel_rfl
@[simp, go_sem] theorem tis230 : (Try.prog.underlying 230).isSome = true := by kernel_rfl
@[simp, go_sem] theorem tsz231 : tsz Try.prog 231 = some 1 := by kernel_rfl
@[simp, go_sem] theorem tby231 : tby Try.prog 231 = some 8 := by kernel_rfl
@[simp, go_sem] theorem tagg231 : tagg Try.prog 231 = some false := by kernel_rfl
@[simp, go_sem] theorem tzero231 : tzero Try.prog 231 = some [.dead] := by kernel_rfl
@[simp, go_sem] theorem tis231 : (Try.prog.underlying 231).isSome = true := by kernel_rfl
@[simp, go_sem] theorem tsz232 : tsz Try.prog 232 = some 1 := by kernel_rfl
@[simp, go_sem] theorem tby232 : tby Try.prog 232 = some 8 := by kernel_rfl
@[simp, go_sem] theorem tagg232 : tagg Try.prog 232 = some false := by kernel_rfl
@[simp, go_sem] theorem tzero232 : tzero Try.prog 232 = some [.int .u64 0] := by kernel_rfl
@[simp, go_sem] theorem tis232 : (Try.prog.underlying 232).isSome = true := by kernel_rfl
@[simp, go_sem] theorem tint232 : tint Try.prog 232 = some .u64 := by kernel_rfl
@[simp, go_sem] theorem tsz233 : tsz Try.prog 233 = some 1 := by kernel_rfl
@[simp, go_sem] theorem tby233 : tby Try.prog 233 = some 8 := by kernel_rfl
@[simp, go_sem] theorem tagg233 : tagg Try.prog 233 = some false := by kernel_rfl
@[simp, go_sem] theorem tzero233 : tzero Try.prog 233 = some [.dead] := by kernel_rfl
@[simp, go_sem] theorem tis233 : (Try.prog.underlying 233).isSome = true := by kernel_rfl
@[simp, go_sem] theorem tsz234 : tsz Try.prog 234 = some 1 := by kernel_rfl
@[simp, go_sem] theorem tby234 : tby Try.prog 234 = some 8 := by kernel_rfl
@[simp, go_sem] theorem tagg234 : tagg Try.prog 234 = some false := by kernel_rfl
@[simp, go_sem] theorem tzero234 : tzero Try.prog 234 = some [.dead] := by kernel_rfl
@[simp, go_sem] theorem tis234 : (Try.prog.underlying 234).isSome = true := by kernel_rfl
@[simp, go_sem] theorem tsz235 : tsz Try.prog 235 = some 1 := by kernel_rfl
@[simp, go_sem] theorem tby235 : tby Try.prog 235 = some 8 := by kernel_rfl
@[simp, go_sem] theorem tagg235 : tagg Try.prog 235 = some false := by kernel_rfl
@[simp, go_sem] theorem tzero235 : tzero Try.prog 235 = some [.dead] := by kernel_rfl
@[simp, go_sem] theorem tis235 : (Try.prog.underlying 235).isSome = true := by kernel_rfl
@[simp, go_sem] theorem tsz236 : tsz Try.prog 236 = some 1 := by kernel_rfl
@[simp, go_sem] theorem tby236 : tby Try.prog 236 = some 8 := by kernel_rfl
@[simp, go_sem] theorem tagg236 : tagg Try.prog 236 = some false := by kernel_rfl
@[simp, go_sem] theorem tzero236 : tzero Try.prog 236 = some [.nilp] := by kernel_rfl
@[simp, go_sem] theorem tis236 : (Try.prog.underlying 236).isSome = true := by kernel_rfl
@[simp, go_sem] theorem tsz237 : tsz Try.prog 237 = some 1 := by kernel_rfl
@[simp, go_sem] theorem tby237 : tby Try.prog 237 = some 8 := by kernel_rfl
@[simp, go_sem] theorem tagg237 : tagg Try.prog 237 = some false := by kernel_rfl
@[simp, go_sem] theorem tzero237 : tzero Try.prog 237 = some [.dead] := by kernel_rfl
@[simp, go_sem] theorem tis237 : (Try.prog.underlying 237).isSome = true := by kernel_rfl
@[simp, go_sem] theorem tsz238 : tsz Try.prog 238 = some 1 := by kernel_rfl
@[simp, go_sem] theorem tby238 : tby Try.prog 238 = some 8 := by kernel_rfl
@[simp, go_sem] theorem tagg238 : tagg Try.prog 238 = some false := by kernel_rfl
@[simp, go_sem] theorem tzero238 : tzero Try.prog 238 = some [.nilp] := by kernel_rfl
@[simp, go_sem] theorem tis238 : (Try.prog.underlying 238).isSome = true := by kernel_rfl
@[simp, go_sem] theorem tsz240 : tsz Try.prog 240 = some 1 := by kernel_rfl
@[simp, go_sem] theorem tby240 : tby Try.prog 240 = some 8 := by kernel_rfl
@[simp, go_sem] theorem tagg240 : tagg Try.prog 240 = some false := by kernel_rfl
@[simp, go_sem] theorem tzero240 : tzero Try.prog 240 = some [.dead] := by kernel_rfl
@[simp, go_sem] theorem tis240 : (Try.prog.underlying 240).isSome = true := by kernel_rfl
@[simp, go_sem] theorem tsz241 : tsz Try.prog 241 = some 1 := by kernel_rfl
@[simp, go_sem] theorem tby241 : tby Try.prog 241 = some 8 := by kernel_rfl
@[simp, go_sem] theorem tagg241 : tagg Try.prog 241 = some false := by kernel_rfl
@[simp, go_sem] theorem tzero241 : tzero Try.prog 241 = some [.dead] := by kernel_rfl
@[simp, go_sem] theorem tis241 : (Try.prog.underlying 241).isSome = true := by kernel_rfl
@[simp, go_sem] theorem tsz242 : tsz Try.prog 242 = some 4 := by kernel_rfl
@[simp, go_sem] theorem tby242 : tby Try.prog 242 = some 40 := by kernel_rfl
@[simp, go_sem] theorem tagg242 : tagg Try.prog 242 = some true := by kernel_rfl
@[simp, go_sem] theorem tis242 : (Try.prog.underlying 242).isSome = true := by kernel_rfl
@[simp, go_sem] theorem tstruct242 : tstruct Try.prog 242 = true := by kernel_rfl
@[simp, go_sem] theorem tfld242f0 : tfld Try.prog 242 0 = some (0, 17) := by kernel_rfl
@[simp, go_sem] theorem tfld242f1 : tfld Try.prog 242 1 = some (1, 17) := by kernel_rfl
@[simp, go_sem] theorem tfld242f2 : tfld Try.prog 242 2 = some (2, 17) := by kernel_rfl
@[simp, go_sem] theorem tfld242f3 : tfld Try.prog 242 3 = some (3, 9) := by kernel_rfl
@[simp, go_sem] theorem tsz243 : tsz Try.prog 243 = some 4 := by kernel_rfl
@[simp, go_sem] theorem tby243 : tby Try.prog 243 = some 40 := by kernel_rfl
@[simp, go_sem] theorem tagg243 : tagg Try.prog 243 = some true := by kernel_rfl
@[simp, go_sem] theorem tis243 : (Try.prog.underlying 243).isSome = true := by kernel_rfl
@[simp, go_sem] theorem tstruct243 : tstruct Try.prog 243 = true := by kernel_rfl
@[simp, go_sem] theorem tfld243f0 : tfld Try.prog 243 0 = some (0, 17) := by kernel_rfl
@[simp, go_sem] theorem tfld243f1 : tfld Try.prog 243 1 = some (1, 17) := by kernel_rfl
@[simp, go_sem] theorem tfld243f2 : tfld Try.prog 243 2 = some (2, 17) := by kernel_rfl
@[simp, go_sem] theorem tfld243f3 : tfld Try.prog 243 3 = some (3, 9) := by kernel_rfl
@[simp, go_sem] theorem tsz245 : tsz Try.prog 245 = some 0 := by kernel_rfl
@[simp, go_sem] theorem tby245 : tby Try.prog 245 = some 0 := by kernel_rfl
@[simp, go_sem] theorem tagg245 : tagg Try.prog 245 = some true := by kernel_rfl
@[simp, go_sem] theorem tzero245 : tzero Try.prog 245 = some [] := by kernel_rfl
@[simp, go_sem] theorem tis245 : (Try.prog.underlying 245).isSome = true := by kernel_rfl
@[simp, go_sem] theorem tstruct245 : tstruct Try.prog 245 = true := by kernel_rfl
@[simp, go_sem] theorem tfld245f0 : tfld Try.prog 245 0 = some (0, 244) := by kernel_rfl
@[simp, go_sem] theorem tsz246 : tsz Try.prog 246 = some 0 := by kernel_rfl
@[simp, go_sem] theorem tby246 : tby Try.prog 246 = some 0 := by kernel_rfl
@[simp, go_sem] theorem tagg246 : tagg Try.prog 246 = some true := by kernel_rfl
@[simp, go_sem] theorem tzero246 : tzero Try.prog 246 = some [] := by kernel_rfl
@[simp, go_sem] theorem tis246 : (Try.prog.underlying 246).isSome = true := by kernel_rfl
@[simp, go_sem] theorem tstruct246 : tstruct Try.prog 246 = true := by kernel_rfl
@[simp, go_sem] theorem tfld246f0 : tfld Try.prog 246 0 = some (0, 244) := by kernel_rfl
@[simp, go_sem] theorem tsz247 : tsz Try.prog 247 = some 1 := by kernel_rfl
@[simp, go_sem] theorem tby247 : tby Try.prog 247 = some 1 := by kernel_rfl
@[simp, go_sem] theorem tagg247 : tagg Try.prog 247 = some false := by kernel_rfl
@[simp, go_sem] theorem tzero247 : tzero Try.prog 247 = some [.int .u8 0] := by kernel_rfl
@[simp, go_sem] theorem tis247 : (Try.prog.underlying 247).isSome = true := by kernel_rfl
@[simp, go_sem] theorem tint247 : tint Try.prog 247 = some .u8 := by kernel_rfl
@[simp, go_sem] theorem tsz248 : tsz Try.prog 248 = some 1 := by kernel_rfl
@[simp, go_sem] theorem tby248 : tby Try.prog 248 = some 1 := by kernel_rfl
@[simp, go_sem] theorem tagg248 : tagg Try.prog 248 = some false := by kernel_rfl
@[simp, go_sem] theorem tzero248 : tzero Try.prog 248 = some [.int .u8 0] := by kernel_rfl
@[simp, go_sem] theorem tis248 : (Try.prog.underlying 248).isSome = true := by kernel_rfl
@[simp, go_sem] theorem tint248 : tint Try.prog 248 = some .u8 := by kernel_rfl
@[simp, go_sem] theorem tsz249 : tsz Try.prog 249 = some 1 := by kernel_rfl
@[simp, go_sem] theorem tby249 : tby Try.prog 249 = some 8 := by kernel_rfl
@[simp, go_sem] theorem tagg249 : tagg Try.prog 249 = some false := by kernel_rfl
@[simp, go_sem] theorem tzero249 : tzero Try.prog 249 = some [.dead] := by kernel_rfl
@[simp, go_sem] theorem tis249 : (Try.prog.underlying 249).isSome = true := by kernel_rfl
@[simp, go_sem] theorem tsz250 : tsz Try.prog 250 = some 1 := by kernel_rfl
@[simp, go_sem] theorem tby250 : tby Try.prog 250 = some 8 := by kernel_rfl
@[simp, go_sem] theorem tagg250 : tagg Try.prog 250 = some false := by kernel_rfl
@[simp, go_sem] theorem tzero250 : tzero Try.prog 250 = some [.nilp] := by kernel_rfl
@[simp, go_sem] theorem tis250 : (Try.prog.underlying 250).isSome = true := by kernel_rfl
@[simp, go_sem] theorem tsz251 : tsz Try.prog 251 = some 1 := by kernel_rfl
@[simp, go_sem] theorem tby251 : tby Try.prog 251 = some 4 := by kernel_rfl
@[simp, go_sem] theorem tagg251 : tagg Try.prog 251 = some false := by kernel_rfl
@[simp, go_sem] theorem tzero251 : tzero Try.prog 251 = some [.int .i32 0] := by kernel_rfl
@[simp, go_sem] theorem tis251 : (Try.prog.underlying 251).isSome = true := by kernel_rfl
@[simp, go_sem] theorem tint251 : tint Try.prog 251 = some .i32 := by kernel_rfl
@[simp, go_sem] theorem tsz252 : tsz Try.prog 252 = some 1 := by kernel_rfl
@[simp, go_sem] theorem tby252 : tby Try.prog 252 = some 4 := by kernel_rfl
@[simp, go_sem] theorem tagg252 : tagg Try.prog 252 = some false := by kernel_rfl
@[simp, go_sem] theorem tzero252 : tzero Try.prog 252 = some [.int .i32 0] := by kernel_rfl
@[simp, go_sem] theorem tis252 : (Try.prog.underlying 252).isSome = true := by kernel_rfl
@[simp, go_sem] theorem tint252 : tint Try.prog 252 = some .i32 := by kernel_rfl
@[simp, go_sem] theorem tsz253 : tsz Try.prog 253 = some 11 := by kernel_rfl
@[simp, go_sem] theorem tby253 : tby Try.prog 253 = some 48 := by kernel_rfl
@[simp, go_sem] theorem tagg253 : tagg Try.prog 253 = some true := by kernel_rfl
@[simp, go_sem] theorem tis253 : (Try.prog.underlying 253).isSome = true := by kernel_rfl
@[simp, go_sem] theorem tstruct253 : tstruct Try.prog 253 = true := by kernel_rfl
@[simp, go_sem] theorem tfld253f0 : tfld Try.prog 253 0 = some (0, 12) := by kernel_rfl
@[simp, go_sem] theorem tfld253f1 : tfld Try.prog 253 1 = some (1, 12) := by kernel_rfl
@[simp, go_sem] theorem tfld253f2 : tfld Try.prog 253 2 = some (2, 210) := by kernel_rfl
@[simp, go_sem] theorem tfld253f3 : tfld Try.prog 253 3 = some (3, 247) := by kernel_rfl
@[simp, go_sem] theorem tfld253f4 : tfld Try.prog 253 4 = some (4, 5) := by kernel_rfl
@[simp, go_sem] theorem tfld253f5 : tfld Try.prog 253 5 = some (5, 5) := by kernel_rfl
@[simp, go_sem] theorem tfld253f6 : tfld Try.prog 253 6 = some (6, 248) := by kernel_rfl
@[simp, go_sem] theorem tfld253f7 : tfld Try.prog 253 7 = some (7, 249) := by kernel_rfl
@[simp, go_sem] theorem tfld253f8 : tfld Try.prog 253 8 = some (8, 250) := by kernel_rfl
@[simp, go_sem] theorem tfld253f9 : tfld Try.prog 253 9 = some (9, 251) := by kernel_rfl
@[simp, go_sem] theorem tfld253f10 : tfld Try.prog 253 10 = some (10, 252) := by kernel_rfl
@[simp, go_sem] theorem tsz254 : tsz Try.prog 254 = some 11 := by kernel_rfl
@[simp, go_sem] theorem tby254 : tby Try.prog 254 = some 48 := by kernel_rfl
@[simp, go_sem] theorem tagg254 : tagg Try.prog 254 = some true := by kernel_rfl
@[simp, go_sem] theorem tis254 : (Try.prog.underlying 254).isSome = true := by kernel_rfl
@[simp, go_sem] theorem tstruct254 : tstruct Try.prog 254 = true := by kernel_rfl
@[simp, go_sem] theorem tfld254f0 : tfld Try.prog 254 0 = some (0, 12) := by kernel_rfl
@[simp, go_sem] theorem tfld254f1 : tfld Try.prog 254 1 = some (1, 12) := by kernel_rfl
@[simp, go_sem] theorem tfld254f2 : tfld Try.prog 254 2 = some (2, 210) := by kernel_rfl
@[simp, go_sem] theorem tfld254f3 : tfld Try.prog 254 3 = some (3, 247) := by kernel_rfl
@[simp, go_sem] theorem tfld254f4 : tfld Try.prog 254 4 = some (4, 5) := by kernel_rfl
@[simp, go_sem] theorem tfld254f5 : tfld Try.prog 254 5 = some (5, 5) := by kernel_rfl
@[simp, go_sem] theorem tfld254f6 : tfld Try.prog 254 6 = some (6, 248) := by kernel_rfl
@[simp, go_sem] theorem tfld254f7 : tfld Try.prog 254 7 = some (7, 249) := by kernel_rfl
@[simp, go_sem] theorem tfld254f8 : tfld Try.prog 254 8 = some (8, 250) := by kernel_rfl
@[simp, go_sem] theorem tfld254f9 : tfld Try.prog 254 9 = some (9, 251) := by kernel_rfl
@[simp, go_sem] theorem tfld254f10 : tfld Try.prog 254 10 = some (10, 252) := by kernel_rfl
@[simp, go_sem] theorem tsz255 : tsz Try.prog 255 = some 1 := by kernel_rfl
@[simp, go_sem] theorem tby255 : tby Try.prog 255 = some 8 := by kernel_rfl
@[simp, go_sem] theorem tagg255 : tagg Try.prog 255 = some false := by kernel_rfl
@[simp, go_sem] theorem tzero255 : tzero Try.prog 255 = some [.dead] := by kernel_rfl
@[simp, go_sem] theorem tis255 : (Try.prog.underlying 255).isSome = true := by kernel_rfl
end Go.Proofs.Ytjkcoldpecdajaa
