/- Facts on the types of the translation, each a closed equation; written by wip/gen/gen_types.py. -/
import Derived.Test.YteegphdelekdaaaGreatProg
import Derived.Test.YteegphdelekdaaaGreatAbs2
import Derived.KernelRfl
namespace Go.Proofs.YteegphdelekdaaaGreat
open Go.Abs
@[simp, go_sem] theorem tsz1 : tsz Tryz.prog 1 = some 1 := by kernel_rfl
@[simp, go_sem] theorem tby1 : tby Tryz.prog 1 = some 8 := by kernel_rfl
@[simp, go_sem] theorem tagg1 : tagg Tryz.prog 1 = some false := by kernel_rfl
@[simp, go_sem] theorem tzero1 : tzero Tryz.prog 1 = some [.dead] := by kernel_rfl
@[simp, go_sem] theorem tis1 : (Tryz.prog.underlying 1).isSome = true := by kernel_rfl
@[simp, go_sem] theorem tsz2 : tsz Tryz.prog 2 = some 1 := by kernel_rfl
@[simp, go_sem] theorem tby2 : tby Tryz.prog 2 = some 8 := by kernel_rfl
@[simp, go_sem] theorem tagg2 : tagg Tryz.prog 2 = some false := by kernel_rfl
@[simp, go_sem] theorem tzero2 : tzero Tryz.prog 2 = some [.int .i64 0] := by kernel_rfl
@[simp, go_sem] theorem tis2 : (Tryz.prog.underlying 2).isSome = true := by kernel_rfl
@[simp, go_sem] theorem tint2 : tint Tryz.prog 2 = some .i64 := by kernel_rfl
@[simp, go_sem] theorem tsz3 : tsz Tryz.prog 3 = some 1 := by kernel_rfl
@[simp, go_sem] theorem tby3 : tby Tryz.prog 3 = some 8 := by kernel_rfl
@[simp, go_sem] theorem tagg3 : tagg Tryz.prog 3 = some false := by kernel_rfl
@[simp, go_sem] theorem tzero3 : tzero Tryz.prog 3 = some [.int .i64 0] := by kernel_rfl
@[simp, go_sem] theorem tis3 : (Tryz.prog.underlying 3).isSome = true := by kernel_rfl
@[simp, go_sem] theorem tint3 : tint Tryz.prog 3 = some .i64 := by kernel_rfl
@[simp, go_sem] theorem tsz4 : tsz Tryz.prog 4 = some 1 := by kernel_rfl
@[simp, go_sem] theorem tby4 : tby Tryz.prog 4 = some 1 := by kernel_rfl
@[simp, go_sem] theorem tagg4 : tagg Tryz.prog 4 = some false := by kernel_rfl
@[simp, go_sem] theorem tzero4 : tzero Tryz.prog 4 = some [.bool false] := by kernel_rfl
@[simp, go_sem] theorem tis4 : (Tryz.prog.underlying 4).isSome = true := by kernel_rfl
@[simp, go_sem] theorem tun4 : Tryz.prog.underlying 4 = some .bool := by kernel_rfl
@[simp, go_sem] theorem tsz5 : tsz Tryz.prog 5 = some 1 := by kernel_rfl
@[simp, go_sem] theorem tby5 : tby Tryz.prog 5 = some 1 := by kernel_rfl
@[simp, go_sem] theorem tagg5 : tagg Tryz.prog 5 = some false := by kernel_rfl
@[simp, go_sem] theorem tzero5 : tzero Tryz.prog 5 = some [.int .u8 0] := by kernel_rfl
@[simp, go_sem] theorem tis5 : (Tryz.prog.underlying 5).isSome = true := by kernel_rfl
@[simp, go_sem] theorem tint5 : tint Tryz.prog 5 = some .u8 := by kernel_rfl
@[simp, go_sem] theorem tsz6 : tsz Tryz.prog 6 = some 1 := by kernel_rfl
@[simp, go_sem] theorem tby6 : tby Tryz.prog 6 = some 1 := by kernel_rfl
@[simp, go_sem] theorem tagg6 : tagg Tryz.prog 6 = some false := by kernel_rfl
@[simp, go_sem] theorem tzero6 : tzero Tryz.prog 6 = some [.int .u8 0] := by kernel_rfl
@[simp, go_sem] theorem tis6 : (Tryz.prog.underlying 6).isSome = true := by kernel_rfl
@[simp, go_sem] theorem tint6 : tint Tryz.prog 6 = some .u8 := by kernel_rfl
@[simp, go_sem] theorem tsz7 : tsz Tryz.prog 7 = some 4 := by kernel_rfl
@[simp, go_sem] theorem tby7 : tby Tryz.prog 7 = some 24 := by kernel_rfl
@[simp, go_sem] theorem tagg7 : tagg Tryz.prog 7 = some true := by kernel_rfl
@[simp, go_sem] theorem tzero7 : tzero Tryz.prog 7 = some [.int .i64 0, .int .i64 0, .bool false, .int .u8 0] := by kernel_rfl
@[simp, go_sem] theorem tis7 : (Tryz.prog.underlying 7).isSome = true := by kernel_rfl
@[simp, go_sem] theorem tstruct7 : tstruct Tryz.prog 7 = true := by kernel_rfl
@[simp, go_sem] theorem tfld7f0 : tfld Tryz.prog 7 0 = some (0, 2) := by kernel_rfl
@[simp, go_sem] theorem tfld7f1 : tfld Tryz.prog 7 1 = some (1, 3) := by kernel_rfl
@[simp, go_sem] theorem tfld7f2 : tfld Tryz.prog 7 2 = some (2, 4) := by kernel_rfl
@[simp, go_sem] theorem tfld7f3 : tfld Tryz.prog 7 3 = some (3, 6) := by kernel_rfl
@[simp, go_sem] theorem tsz8 : tsz Tryz.prog 8 = some 4 := by kernel_rfl
@[simp, go_sem] theorem tby8 : tby Tryz.prog 8 = some 24 := by kernel_rfl
@[simp, go_sem] theorem tagg8 : tagg Tryz.prog 8 = some true := by kernel_rfl
@[simp, go_sem] theorem tzero8 : tzero Tryz.prog 8 = some [.int .i64 0, .int .i64 0, .bool false, .int .u8 0] := by kernel_rfl
@[simp, go_sem] theorem tis8 : (Tryz.prog.underlying 8).isSome = true := by kernel_rfl
@[simp, go_sem] theorem tstruct8 : tstruct Tryz.prog 8 = true := by kernel_rfl
@[simp, go_sem] theorem tfld8f0 : tfld Tryz.prog 8 0 = some (0, 2) := by kernel_rfl
@[simp, go_sem] theorem tfld8f1 : tfld Tryz.prog 8 1 = some (1, 3) := by kernel_rfl
@[simp, go_sem] theorem tfld8f2 : tfld Tryz.prog 8 2 = some (2, 4) := by kernel_rfl
@[simp, go_sem] theorem tfld8f3 : tfld Tryz.prog 8 3 = some (3, 6) := by kernel_rfl
@[simp, go_sem] theorem tsz9 : tsz Tryz.prog 9 = some 1 := by kernel_rfl
@[simp, go_sem] theorem tby9 : tby Tryz.prog 9 = some 16 := by kernel_rfl
@[simp, go_sem] theorem tagg9 : tagg Tryz.prog 9 = some false := by kernel_rfl
@[simp, go_sem] theorem tzero9 : tzero Tryz.prog 9 = some [.str ⟨#[]⟩] := by kernel_rfl
@[simp, go_sem] theorem tis9 : (Tryz.prog.underlying 9).isSome = true := by kernel_rfl
@[simp, go_sem] theorem tun9 : Tryz.prog.underlying 9 = some .string := by kernel_rfl
@[simp, go_sem] theorem tsz10 : tsz Tryz.prog 10 = some 1 := by kernel_rfl
@[simp, go_sem] theorem tby10 : tby Tryz.prog 10 = some 16 := by kernel_rfl
@[simp, go_sem] theorem tagg10 : tagg Tryz.prog 10 = some false := by kernel_rfl
@[simp, go_sem] theorem tzero10 : tzero Tryz.prog 10 = some [.str ⟨#[]⟩] := by kernel_rfl
@[simp, go_sem] theorem tis10 : (Tryz.prog.underlying 10).isSome = true := by kernel_rfl
@[simp, go_sem] theorem tun10 : Tryz.prog.underlying 10 = some .string := by kernel_rfl
@[simp, go_sem] theorem tsz11 : tsz Tryz.prog 11 = some 1 := by kernel_rfl
@[simp, go_sem] theorem tby11 : tby Tryz.prog 11 = some 16 := by kernel_rfl
@[simp, go_sem] theorem tagg11 : tagg Tryz.prog 11 = some false := by kernel_rfl
@[simp, go_sem] theorem tzero11 : tzero Tryz.prog 11 = some [.str ⟨#[]⟩] := by kernel_rfl
@[simp, go_sem] theorem tis11 : (Tryz.prog.underlying 11).isSome = true := by kernel_rfl
@[simp, go_sem] theorem tun11 : Tryz.prog.underlying 11 = some .string := by kernel_rfl
@[simp, go_sem] theorem tsz12 : tsz Tryz.prog 12 = some 1 := by kernel_rfl
@[simp, go_sem] theorem tby12 : tby Tryz.prog 12 = some 8 := by kernel_rfl
@[simp, go_sem] theorem tagg12 : tagg Tryz.prog 12 = some false := by kernel_rfl
@[simp, go_sem] theorem tzero12 : tzero Tryz.prog 12 = some [.int .u64 0] := by kernel_rfl
@[simp, go_sem] theorem tis12 : (Tryz.prog.underlying 12).isSome = true := by kernel_rfl
@[simp, go_sem] theorem tint12 : tint Tryz.prog 12 = some .u64 := by kernel_rfl
@[simp, go_sem] theorem tsz13 : tsz Tryz.prog 13 = some 2 := by kernel_rfl
@[simp, go_sem] theorem tby13 : tby Tryz.prog 13 = some 24 := by kernel_rfl
@[simp, go_sem] theorem tagg13 : tagg Tryz.prog 13 = some true := by kernel_rfl
@[simp, go_sem] theorem tzero13 : tzero Tryz.prog 13 = some [.str ⟨#[]⟩, .int .u64 0] := by kernel_rfl
@[simp, go_sem] theorem tis13 : (Tryz.prog.underlying 13).isSome = true := by kernel_rfl
@[simp, go_sem] theorem tstruct13 : tstruct Tryz.prog 13 = true := by kernel_rfl
@[simp, go_sem] theorem tfld13f0 : tfld Tryz.prog 13 0 = some (0, 9) := by kernel_rfl
@[simp, go_sem] theorem tfld13f1 : tfld Tryz.prog 13 1 = some (1, 12) := by kernel_rfl
@[simp, go_sem] theorem tsz14 : tsz Tryz.prog 14 = some 2 := by kernel_rfl
@[simp, go_sem] theorem tby14 : tby Tryz.prog 14 = some 24 := by kernel_rfl
@[simp, go_sem] theorem tagg14 : tagg Tryz.prog 14 = some true := by kernel_rfl
@[simp, go_sem] theorem tzero14 : tzero Tryz.prog 14 = some [.str ⟨#[]⟩, .int .u64 0] := by kernel_rfl
@[simp, go_sem] theorem tis14 : (Tryz.prog.underlying 14).isSome = true := by kernel_rfl
@[simp, go_sem] theorem tstruct14 : tstruct Tryz.prog 14 = true := by kernel_rfl
@[simp, go_sem] theorem tfld14f0 : tfld Tryz.prog 14 0 = some (0, 9) := by kernel_rfl
@[simp, go_sem] theorem tfld14f1 : tfld Tryz.prog 14 1 = some (1, 12) := by kernel_rfl
@[simp, go_sem] theorem tsz15 : tsz Tryz.prog 15 = some 1 := by kernel_rfl
@[simp, go_sem] theorem tby15 : tby Tryz.prog 15 = some 8 := by kernel_rfl
@[simp, go_sem] theorem tagg15 : tagg Tryz.prog 15 = some false := by kernel_rfl
@[simp, go_sem] theorem tzero15 : tzero Tryz.prog 15 = some [.nilp] := by kernel_rfl
@[simp, go_sem] theorem tis15 : (Tryz.prog.underlying 15).isSome = true := by kernel_rfl
@[simp, go_sem] theorem tsz16 : tsz Tryz.prog 16 = some 1 := by kernel_rfl
@[simp, go_sem] theorem tby16 : tby Tryz.prog 16 = some 8 := by kernel_rfl
@[simp, go_sem] theorem tagg16 : tagg Tryz.prog 16 = some false := by kernel_rfl
@[simp, go_sem] theorem tzero16 : tzero Tryz.prog 16 = some [.nilp] := by kernel_rfl
@[simp, go_sem] theorem tis16 : (Tryz.prog.underlying 16).isSome = true := by kernel_rfl
@[simp, go_sem] theorem tsz17 : tsz Tryz.prog 17 = some 1 := by kernel_rfl
@[simp, go_sem] theorem tby17 : tby Tryz.prog 17 = some 8 := by kernel_rfl
@[simp, go_sem] theorem tagg17 : tagg Tryz.prog 17 = some false := by kernel_rfl
@[simp, go_sem] theorem tzero17 : tzero Tryz.prog 17 = some [.nilp] := by kernel_rfl
@[simp, go_sem] theorem tis17 : (Tryz.prog.underlying 17).isSome = true := by kernel_rfl
@[simp, go_sem] theorem tsz18 : tsz Tryz.prog 18 = some 1 := by kernel_rfl
@[simp, go_sem] theorem tby18 : tby Tryz.prog 18 = some 8 := by kernel_rfl
@[simp, go_sem] theorem tagg18 : tagg Tryz.prog 18 = some true := by kernel_rfl
@[simp, go_sem] theorem tzero18 : tzero Tryz.prog 18 = some [.nilp] := by kernel_rfl
@[simp, go_sem] theorem tis18 : (Tryz.prog.underlying 18).isSome = true := by kernel_rfl
@[simp, go_sem] theorem tstruct18 : tstruct Tryz.prog 18 = true := by kernel_rfl
@[simp, go_sem] theorem tfld18f0 : tfld Tryz.prog 18 0 = some (0, 17) := by kernel_rfl
@[simp, go_sem] theorem tsz19 : tsz Tryz.prog 19 = some 1 := by kernel_rfl
@[simp, go_sem] theorem tby19 : tby Tryz.prog 19 = some 8 := by kernel_rfl
@[simp, go_sem] theorem tagg19 : tagg Tryz.prog 19 = some true := by kernel_rfl
@[simp, go_sem] theorem tzero19 : tzero Tryz.prog 19 = some [.nilp] := by kernel_rfl
@[simp, go_sem] theorem tis19 : (Tryz.prog.underlying 19).isSome = true := by kernel_rfl
@[simp, go_sem] theorem tstruct19 : tstruct Tryz.prog 19 = true := by kernel_rfl
@[simp, go_sem] theorem tfld19f0 : tfld Tryz.prog 19 0 = some (0, 17) := by kernel_rfl
@[simp, go_sem] theorem tsz21 : tsz Tryz.prog 21 = some 1 := by kernel_rfl
@[simp, go_sem] theorem tby21 : tby Tryz.prog 21 = some 4 := by kernel_rfl
@[simp, go_sem] theorem tagg21 : tagg Tryz.prog 21 = some false := by kernel_rfl
@[simp, go_sem] theorem tzero21 : tzero Tryz.prog 21 = some [.int .i32 0] := by kernel_rfl
@[simp, go_sem] theorem tis21 : (Tryz.prog.underlying 21).isSome = true := by kernel_rfl
@[simp, go_sem] theorem tint21 : tint Tryz.prog 21 = some .i32 := by kernel_rfl
@[simp, go_sem] theorem tsz22 : tsz Tryz.prog 22 = some 1 := by kernel_rfl
@[simp, go_sem] theorem tby22 : tby Tryz.prog 22 = some 24 := by kernel_rfl
@[simp, go_sem] theorem tagg22 : tagg Tryz.prog 22 = some false := by kernel_rfl
@[simp, go_sem] theorem tzero22 : tzero Tryz.prog 22 = some [.nil] := by kernel_rfl
@[simp, go_sem] theorem telem22 : telem Tryz.prog 22 = some 96 := by kernel_rfl
@[simp, go_sem] theorem tis22 : (Tryz.prog.underlying 22).isSome = true := by kernel_rfl
@[simp, go_sem] theorem tsz23 : tsz Tryz.prog 23 = some 1 := by kernel_rfl
@[simp, go_sem] theorem tby23 : tby Tryz.prog 23 = some 24 := by kernel_rfl
@[simp, go_sem] theorem tagg23 : tagg Tryz.prog 23 = some false := by kernel_rfl
@[simp, go_sem] theorem tzero23 : tzero Tryz.prog 23 = some [.nil] := by kernel_rfl
@[simp, go_sem] theorem telem23 : telem Tryz.prog 23 = some 119 := by kernel_rfl
@[simp, go_sem] theorem tis23 : (Tryz.prog.underlying 23).isSome = true := by kernel_rfl
@[simp, go_sem] theorem tsz24 : tsz Tryz.prog 24 = some 4 := by kernel_rfl
@[simp, go_sem] theorem tby24 : tby Tryz.prog 24 = some 64 := by kernel_rfl
@[simp, go_sem] theorem tagg24 : tagg Tryz.prog 24 = some true := by kernel_rfl
@[simp, go_sem] theorem tzero24 : tzero Tryz.prog 24 = some [.int .i64 0, .int .i64 0, .nil, .nil] := by kernel_rfl
@[simp, go_sem] theorem tis24 : (Tryz.prog.underlying 24).isSome = true := by kernel_rfl
@[simp, go_sem] theorem tstruct24 : tstruct Tryz.prog 24 = true := by kernel_rfl
@[simp, go_sem] theorem tfld24f0 : tfld Tryz.prog 24 0 = some (0, 3) := by kernel_rfl
@[simp, go_sem] theorem tfld24f1 : tfld Tryz.prog 24 1 = some (1, 3) := by kernel_rfl
@[simp, go_sem] theorem tfld24f2 : tfld Tryz.prog 24 2 = some (2, 22) := by kernel_rfl
@[simp, go_sem] theorem tfld24f3 : tfld Tryz.prog 24 3 = some (3, 23) := by kernel_rfl
@[simp, go_sem] theorem tsz25 : tsz Tryz.prog 25 = some 4 := by kernel_rfl
@[simp, go_sem] theorem tby25 : tby Tryz.prog 25 = some 64 := by kernel_rfl
@[simp, go_sem] theorem tagg25 : tagg Tryz.prog 25 = some true := by kernel_rfl
@[simp, go_sem] theorem tzero25 : tzero Tryz.prog 25 = some [.int .i64 0, .int .i64 0, .nil, .nil] := by kernel_rfl
@[simp, go_sem] theorem tis25 : (Tryz.prog.underlying 25).isSome = true := by kernel_rfl
@[simp, go_sem] theorem tstruct25 : tstruct Tryz.prog 25 = true := by kernel_rfl
@[simp, go_sem] theorem tfld25f0 : tfld Tryz.prog 25 0 = some (0, 3) := by kernel_rfl
@[simp, go_sem] theorem tfld25f1 : tfld Tryz.prog 25 1 = some (1, 3) := by kernel_rfl
@[simp, go_sem] theorem tfld25f2 : tfld Tryz.prog 25 2 = some (2, 22) := by kernel_rfl
@[simp, go_sem] theorem tfld25f3 : tfld Tryz.prog 25 3 = some (3, 23) := by kernel_rfl
@[simp, go_sem] theorem tsz26 : tsz Tryz.prog 26 = some 1 := by kernel_rfl
@[simp, go_sem] theorem tby26 : tby Tryz.prog 26 = some 24 := by kernel_rfl
@[simp, go_sem] theorem tagg26 : tagg Tryz.prog 26 = some false := by kernel_rfl
@[simp, go_sem] theorem tzero26 : tzero Tryz.prog 26 = some [.nil] := by kernel_rfl
@[simp, go_sem] theorem telem26 : telem Tryz.prog 26 = some 73 := by kernel_rfl
@[simp, go_sem] theorem tis26 : (Tryz.prog.underlying 26).isSome = true := by kernel_rfl
@[simp, go_sem] theorem tsz27 : tsz Tryz.prog 27 = some 1 := by kernel_rfl
@[simp, go_sem] theorem tby27 : tby Tryz.prog 27 = some 24 := by kernel_rfl
@[simp, go_sem] theorem tagg27 : tagg Tryz.prog 27 = some false := by kernel_rfl
@[simp, go_sem] theorem tzero27 : tzero Tryz.prog 27 = some [.nil] := by kernel_rfl
@[simp, go_sem] theorem telem27 : telem Tryz.prog 27 = some 3 := by kernel_rfl
@[simp, go_sem] theorem tis27 : (Tryz.prog.underlying 27).isSome = true := by kernel_rfl
@[simp, go_sem] theorem tsz28 : tsz Tryz.prog 28 = some 1 := by kernel_rfl
@[simp, go_sem] theorem tby28 : tby Tryz.prog 28 = some 8 := by kernel_rfl
@[simp, go_sem] theorem tagg28 : tagg Tryz.prog 28 = some false := by kernel_rfl
@[simp, go_sem] theorem tzero28 : tzero Tryz.prog 28 = some [.dead] := by kernel_rfl
@[simp, go_sem] theorem tis28 : (Tryz.prog.underlying 28).isSome = true := by kernel_rfl
@[simp, go_sem] theorem tsz29 : tsz Tryz.prog 29 = some 1 := by kernel_rfl
@[simp, go_sem] theorem tby29 : tby Tryz.prog 29 = some 24 := by kernel_rfl
@[simp, go_sem] theorem tagg29 : tagg Tryz.prog 29 = some false := by kernel_rfl
@[simp, go_sem] theorem tzero29 : tzero Tryz.prog 29 = some [.nil] := by kernel_rfl
@[simp, go_sem] theorem telem29 : telem Tryz.prog 29 = some 26 := by kernel_rfl
@[simp, go_sem] theorem tis29 : (Tryz.prog.underlying 29).isSome = true := by kernel_rfl
@[simp, go_sem] theorem tsz30 : tsz Tryz.prog 30 = some 1 := by kernel_rfl
@[simp, go_sem] theorem tby30 : tby Tryz.prog 30 = some 24 := by kernel_rfl
@[simp, go_sem] theorem tagg30 : tagg Tryz.prog 30 = some false := by kernel_rfl
@[simp, go_sem] theorem tzero30 : tzero Tryz.prog 30 = some [.nil] := by kernel_rfl
@[simp, go_sem] theorem telem30 : telem Tryz.prog 30 = some 4 := by kernel_rfl
@[simp, go_sem] theorem tis30 : (Tryz.prog.underlying 30).isSome = true := by kernel_rfl
@[simp, go_sem] theorem tsz32 : tsz Tryz.prog 32 = some 1 := by kernel_rfl
@[simp, go_sem] theorem tby32 : tby Tryz.prog 32 = some 8 := by kernel_rfl
@[simp, go_sem] theorem tagg32 : tagg Tryz.prog 32 = some false := by kernel_rfl
@[simp, go_sem] theorem tzero32 : tzero Tryz.prog 32 = some [.dead] := by kernel_rfl
@[simp, go_sem] theorem tis32 : (Tryz.prog.underlying 32).isSome = true := by kernel_rfl
@[simp, go_sem] theorem tsz33 : tsz Tryz.prog 33 = some 1 := by kernel_rfl
@[simp, go_sem] theorem tby33 : tby Tryz.prog 33 = some 24 := by kernel_rfl
@[simp, go_sem] theorem tagg33 : tagg Tryz.prog 33 = some false := by kernel_rfl
@[simp, go_sem] theorem tzero33 : tzero Tryz.prog 33 = some [.nil] := by kernel_rfl
@[simp, go_sem] theorem telem33 : telem Tryz.prog 33 = some 94 := by kernel_rfl
@[simp, go_sem] theorem tis33 : (Tryz.prog.underlying 33).isSome = true := by kernel_rfl
@[simp, go_sem] theorem tsz34 : tsz Tryz.prog 34 = some 1 := by kernel_rfl
@[simp, go_sem] theorem tby34 : tby Tryz.prog 34 = some 24 := by kernel_rfl
@[simp, go_sem] theorem tagg34 : tagg Tryz.prog 34 = some false := by kernel_rfl
@[simp, go_sem] theorem tzero34 : tzero Tryz.prog 34 = some [.nil] := by kernel_rfl
@[simp, go_sem] theorem telem34 : telem Tryz.prog 34 = some 110 := by kernel_rfl
@[simp, go_sem] theorem tis34 : (Tryz.prog.underlying 34).isSome = true := by kernel_rfl
@[simp, go_sem] theorem tsz35 : tsz Tryz.prog 35 = some 4 := by kernel_rfl
@[simp, go_sem] theorem tby35 : tby Tryz.prog 35 = some 64 := by kernel_rfl
@[simp, go_sem] theorem tagg35 : tagg Tryz.prog 35 = some true := by kernel_rfl
@[simp, go_sem] theorem tzero35 : tzero Tryz.prog 35 = some [.int .i64 0, .int .i64 0, .nil, .nil] := by kernel_rfl
@[simp, go_sem] theorem tis35 : (Tryz.prog.underlying 35).isSome = true := by kernel_rfl
@[simp, go_sem] theorem tstruct35 : tstruct Tryz.prog 35 = true := by kernel_rfl
@[simp, go_sem] theorem tfld35f0 : tfld Tryz.prog 35 0 = some (0, 3) := by kernel_rfl
@[simp, go_sem] theorem tfld35f1 : tfld Tryz.prog 35 1 = some (1, 3) := by kernel_rfl
@[simp, go_sem] theorem tfld35f2 : tfld Tryz.prog 35 2 = some (2, 33) := by kernel_rfl
@[simp, go_sem] theorem tfld35f3 : tfld Tryz.prog 35 3 = some (3, 34) := by kernel_rfl
@[simp, go_sem] theorem tsz36 : tsz Tryz.prog 36 = some 4 := by kernel_rfl
@[simp, go_sem] theorem tby36 : tby Tryz.prog 36 = some 64 := by kernel_rfl
@[simp, go_sem] theorem tagg36 : tagg Tryz.prog 36 = some true := by kernel_rfl
@[simp, go_sem] theorem tzero36 : tzero Tryz.prog 36 = some [.int .i64 0, .int .i64 0, .nil, .nil] := by kernel_rfl
@[simp, go_sem] theorem tis36 : (Tryz.prog.underlying 36).isSome = true := by kernel_rfl
@[simp, go_sem] theorem tstruct36 : tstruct Tryz.prog 36 = true := by kernel_rfl
@[simp, go_sem] theorem tfld36f0 : tfld Tryz.prog 36 0 = some (0, 3) := by kernel_rfl
@[simp, go_sem] theorem tfld36f1 : tfld Tryz.prog 36 1 = some (1, 3) := by kernel_rfl
@[simp, go_sem] theorem tfld36f2 : tfld Tryz.prog 36 2 = some (2, 33) := by kernel_rfl
@[simp, go_sem] theorem tfld36f3 : tfld Tryz.prog 36 3 = some (3, 34) := by kernel_rfl
@[simp, go_sem] theorem tsz37 : tsz Tryz.prog 37 = some 1 := by kernel_rfl
@[simp, go_sem] theorem tby37 : tby Tryz.prog 37 = some 8 := by kernel_rfl
@[simp, go_sem] theorem tagg37 : tagg Tryz.prog 37 = some false := by kernel_rfl
@[simp, go_sem] theorem tzero37 : tzero Tryz.prog 37 = some [.dead] := by kernel_rfl
@[simp, go_sem] theorem tis37 : (Tryz.prog.underlying 37).isSome = true := by kernel_rfl
@[simp, go_sem] theorem tsz38 : tsz Tryz.prog 38 = some 1 := by kernel_rfl
@[simp, go_sem] theorem tby38 : tby Tryz.prog 38 = some 8 := by kernel_rfl
@[simp, go_sem] theorem tagg38 : tagg Tryz.prog 38 = some false := by kernel_rfl
@[simp, go_sem] theorem tzero38 : tzero Tryz.prog 38 = some [.dead] := by kernel_rfl
@[simp, go_sem] theorem tis38 : (Tryz.prog.underlying 38).isSome = true := by kernel_rfl
@[simp, go_sem] theorem tsz39 : tsz Tryz.prog 39 = some 1 := by kernel_rfl
@[simp, go_sem] theorem tby39 : tby Tryz.prog 39 = some 8 := by kernel_rfl
@[simp, go_sem] theorem tagg39 : tagg Tryz.prog 39 = some false := by kernel_rfl
@[simp, go_sem] theorem tzero39 : tzero Tryz.prog 39 = some [.dead] := by kernel_rfl
@[simp, go_sem] theorem tis39 : (Tryz.prog.underlying 39).isSome = true := by kernel_rfl
@[simp, go_sem] theorem tsz40 : tsz Tryz.prog 40 = some 1 := by kernel_rfl
@[simp, go_sem] theorem tby40 : tby Tryz.prog 40 = some 8 := by kernel_rfl
@[simp, go_sem] theorem tagg40 : tagg Tryz.prog 40 = some false := by kernel_rfl
@[simp, go_sem] theorem tzero40 : tzero Tryz.prog 40 = some [.dead] := by kernel_rfl
@[simp, go_sem] theorem tis40 : (Tryz.prog.underlying 40).isSome = true := by kernel_rfl
@[simp, go_sem] theorem tsz41 : tsz Tryz.prog 41 = some 1 := by kernel_rfl
@[simp, go_sem] theorem tby41 : tby Tryz.prog 41 = some 8 := by kernel_rfl
@[simp, go_sem] theorem tagg41 : tagg Tryz.prog 41 = some false := by kernel_rfl
@[simp, go_sem] theorem tzero41 : tzero Tryz.prog 41 = some [.dead] := by kernel_rfl
@[simp, go_sem] theorem tis41 : (Tryz.prog.underlying 41).isSome = true := by kernel_rfl
@[simp, go_sem] theorem tsz42 : tsz Tryz.prog 42 = some 1 := by kernel_rfl
@[simp, go_sem] theorem tby42 : tby Tryz.prog 42 = some 8 := by kernel_rfl
@[simp, go_sem] theorem tagg42 : tagg Tryz.prog 42 = some false := by kernel_rfl
@[simp, go_sem] theorem tzero42 : tzero Tryz.prog 42 = some [.dead] := by kernel_rfl
@[simp, go_sem] theorem tis42 : (Tryz.prog.underlying 42).isSome = true := by kernel_rfl
@[simp, go_sem] theorem tsz43 : tsz Tryz.prog 43 = some 1 := by kernel_rfl
@[simp, go_sem] theorem tby43 : tby Tryz.prog 43 = some 8 := by kernel_rfl
@[simp, go_sem] theorem tagg43 : tagg Tryz.prog 43 = some false := by kernel_rfl
@[simp, go_sem] theorem tzero43 : tzero Tryz.prog 43 = some [.dead] := by kernel_rfl
@[simp, go_sem] theorem tis43 : (Tryz.prog.underlying 43).isSome = true := by kernel_rfl
@[simp, go_sem] theorem tsz44 : tsz Tryz.prog 44 = some 1 := by kernel_rfl
@[simp, go_sem] theorem tby44 : tby Tryz.prog 44 = some 8 := by kernel_rfl
@[simp, go_sem] theorem tagg44 : tagg Tryz.prog 44 = some false := by kernel_rfl
@[simp, go_sem] theorem tzero44 : tzero Tryz.prog 44 = some [.dead] := by kernel_rfl
@[simp, go_sem] theorem tis44 : (Tryz.prog.underlying 44).isSome = true := by kernel_rfl
@[simp, go_sem] theorem tsz45 : tsz Tryz.prog 45 = some 1 := by kernel_rfl
@[simp, go_sem] theorem tby45 : tby Tryz.prog 45 = some 8 := by kernel_rfl
@[simp, go_sem] theorem tagg45 : tagg Tryz.prog 45 = some false := by kernel_rfl
@[simp, go_sem] theorem tzero45 : tzero Tryz.prog 45 = some [.dead] := by kernel_rfl
@[simp, go_sem] theorem tis45 : (Tryz.prog.underlying 45).isSome = true := by kernel_rfl
@[simp, go_sem] theorem tsz46 : tsz Tryz.prog 46 = some 1 := by kernel_rfl
@[simp, go_sem] theorem tby46 : tby Tryz.prog 46 = some 8 := by kernel_rfl
@[simp, go_sem] theorem tagg46 : tagg Tryz.prog 46 = some false := by kernel_rfl
@[simp, go_sem] theorem tzero46 : tzero Tryz.prog 46 = some [.dead] := by kernel_rfl
@[simp, go_sem] theorem tis46 : (Tryz.prog.underlying 46).isSome = true := by kernel_rfl
@[simp, go_sem] theorem tsz47 : tsz Tryz.prog 47 = some 1 := by kernel_rfl
@[simp, go_sem] theorem tby47 : tby Tryz.prog 47 = some 8 := by kernel_rfl
@[simp, go_sem] theorem tagg47 : tagg Tryz.prog 47 = some false := by kernel_rfl
@[simp, go_sem] theorem tzero47 : tzero Tryz.prog 47 = some [.dead] := by kernel_rfl
@[simp, go_sem] theorem tis47 : (Tryz.prog.underlying 47).isSome = true := by kernel_rfl
@[simp, go_sem] theorem tsz48 : tsz Tryz.prog 48 = some 1 := by kernel_rfl
@[simp, go_sem] theorem tby48 : tby Tryz.prog 48 = some 8 := by kernel_rfl
@[simp, go_sem] theorem tagg48 : tagg Tryz.prog 48 = some false := by kernel_rfl
@[simp, go_sem] theorem tzero48 : tzero Tryz.prog 48 = some [.dead] := by kernel_rfl
@[simp, go_sem] theorem tis48 : (Tryz.prog.underlying 48).isSome = true := by kernel_rfl
@[simp, go_sem] theorem tsz49 : tsz Tryz.prog 49 = some 1 := by kernel_rfl
@[simp, go_sem] theorem tby49 : tby Tryz.prog 49 = some 8 := by kernel_rfl
@[simp, go_sem] theorem tagg49 : tagg Tryz.prog 49 = some false := by kernel_rfl
@[simp, go_sem] theorem tzero49 : tzero Tryz.prog 49 = some [.dead] := by kernel_rfl
@[simp, go_sem] theorem tis49 : (Tryz.prog.underlying 49).isSome = true := by kernel_rfl
@[simp, go_sem] theorem tsz50 : tsz Tryz.prog 50 = some 1 := by kernel_rfl
@[simp, go_sem] theorem tby50 : tby Tryz.prog 50 = some 8 := by kernel_rfl
@[simp, go_sem] theorem tagg50 : tagg Tryz.prog 50 = some false := by kernel_rfl
@[simp, go_sem] theorem tzero50 : tzero Tryz.prog 50 = some [.dead] := by kernel_rfl
@[simp, go_sem] theorem tis50 : (Tryz.prog.underlying 50).isSome = true := by kernel_rfl
@[simp, go_sem] theorem tsz52 : tsz Tryz.prog 52 = some 1 := by kernel_rfl
@[simp, go_sem] theorem tby52 : tby Tryz.prog 52 = some 8 := by kernel_rfl
@[simp, go_sem] theorem tagg52 : tagg Tryz.prog 52 = some false := by kernel_rfl
@[simp, go_sem] theorem tzero52 : tzero Tryz.prog 52 = some [.dead] := by kernel_rfl
@[simp, go_sem] theorem tis52 : (Tryz.prog.underlying 52).isSome = true := by kernel_rfl
@[simp, go_sem] theorem tsz53 : tsz Tryz.prog 53 = some 1 := by kernel_rfl
@[simp, go_sem] theorem tby53 : tby Tryz.prog 53 = some 8 := by kernel_rfl
@[simp, go_sem] theorem tagg53 : tagg Tryz.prog 53 = some false := by kernel_rfl
@[simp, go_sem] theorem tzero53 : tzero Tryz.prog 53 = some [.dead] := by kernel_rfl
@[simp, go_sem] theorem tis53 : (Tryz.prog.underlying 53).isSome = true := by kernel_rfl
@[simp, go_sem] theorem tsz55 : tsz Tryz.prog 55 = some 1 := by kernel_rfl
@[simp, go_sem] theorem tby55 : tby Tryz.prog 55 = some 8 := by kernel_rfl
@[simp, go_sem] theorem tagg55 : tagg Tryz.prog 55 = some false := by kernel_rfl
@[simp, go_sem] theorem tzero55 : tzero Tryz.prog 55 = some [.dead] := by kernel_rfl
@[simp, go_sem] theorem tis55 : (Tryz.prog.underlying 55).isSome = true := by kernel_rfl
@[simp, go_sem] theorem tsz56 : tsz Tryz.prog 56 = some 1 := by kernel_rfl
@[simp, go_sem] theorem tby56 : tby Tryz.prog 56 = some 8 := by kernel_rfl
@[simp, go_sem] theorem tagg56 : tagg Tryz.prog 56 = some false := by kernel_rfl
@[simp, go_sem] theorem tzero56 : tzero Tryz.prog 56 = some [.dead] := by kernel_rfl
@[simp, go_sem] theorem tis56 : (Tryz.prog.underlying 56).isSome = true := by kernel_rfl
@[simp, go_sem] theorem tsz57 : tsz Tryz.prog 57 = some 1 := by kernel_rfl
@[simp, go_sem] theorem tby57 : tby Tryz.prog 57 = some 8 := by kernel_rfl
@[simp, go_sem] theorem tagg57 : tagg Tryz.prog 57 = some false := by kernel_rfl
@[simp, go_sem] theorem tzero57 : tzero Tryz.prog 57 = some [.dead] := by kernel_rfl
@[simp, go_sem] theorem tis57 : (Tryz.prog.underlying 57).isSome = true := by kernel_rfl
@[simp, go_sem] theorem tsz58 : tsz Tryz.prog 58 = some 1 := by kernel_rfl
@[simp, go_sem] theorem tby58 : tby Tryz.prog 58 = some 8 := by kernel_rfl
@[simp, go_sem] theorem tagg58 : tagg Tryz.prog 58 = some false := by kernel_rfl
@[simp, go_sem] theorem tzero58 : tzero Tryz.prog 58 = some [.dead] := by kernel_rfl
@[simp, go_sem] theorem tis58 : (Tryz.prog.underlying 58).isSome = true := by kernel_rfl
@[simp, go_sem] theorem tsz59 : tsz Tryz.prog 59 = some 1 := by kernel_rfl
@[simp, go_sem] theorem tby59 : tby Tryz.prog 59 = some 8 := by kernel_rfl
@[simp, go_sem] theorem tagg59 : tagg Tryz.prog 59 = some false := by kernel_rfl
@[simp, go_sem] theorem tzero59 : tzero Tryz.prog 59 = some [.dead] := by kernel_rfl
@[simp, go_sem] theorem tis59 : (Tryz.prog.underlying 59).isSome = true := by kernel_rfl
@[simp, go_sem] theorem tsz60 : tsz Tryz.prog 60 = some 1 := by kernel_rfl
@[simp, go_sem] theorem tby60 : tby Tryz.prog 60 = some 8 := by kernel_rfl
@[simp, go_sem] theorem tagg60 : tagg Tryz.prog 60 = some false := by kernel_rfl
@[simp, go_sem] theorem tzero60 : tzero Tryz.prog 60 = some [.dead] := by kernel_rfl
@[simp, go_sem] theorem tis60 : (Tryz.prog.underlying 60).isSome = true := by kernel_rfl
@[simp, go_sem] theorem tsz61 : tsz Tryz.prog 61 = some 1 := by kernel_rfl
@[simp, go_sem] theorem tby61 : tby Tryz.prog 61 = some 8 := by kernel_rfl
@[simp, go_sem] theorem tagg61 : tagg Tryz.prog 61 = some false := by kernel_rfl
@[simp, go_sem] theorem tzero61 : tzero Tryz.prog 61 = some [.dead] := by kernel_rfl
@[simp, go_sem] theorem tis61 : (Tryz.prog.underlying 61).isSome = true := by kernel_rfl
@[simp, go_sem] theorem tsz63 : tsz Tryz.prog 63 = some 1 := by kernel_rfl
@[simp, go_sem] theorem tby63 : tby Tryz.prog 63 = some 8 := by kernel_rfl
@[simp, go_sem] theorem tagg63 : tagg Tryz.prog 63 = some false := by kernel_rfl
@[simp, go_sem] theorem tzero63 : tzero Tryz.prog 63 = some [.dead] := by kernel_rfl
@[simp, go_sem] theorem tis63 : (Tryz.prog.underlying 63).isSome = true := by kernel_rfl
@[simp, go_sem] theorem tsz64 : tsz Tryz.prog 64 = some 1 := by kernel_rfl
@[simp, go_sem] theorem tby64 : tby Tryz.prog 64 = some 8 := by kernel_rfl
@[simp, go_sem] theorem tagg64 : tagg Tryz.prog 64 = some false := by kernel_rfl
@[simp, go_sem] theorem tzero64 : tzero Tryz.prog 64 = some [.dead] := by kernel_rfl
@[simp, go_sem] theorem tis64 : (Tryz.prog.underlying 64).isSome = true := by kernel_rfl
@[simp, go_sem] theorem tsz65 : tsz Tryz.prog 65 = some 1 := by kernel_rfl
@[simp, go_sem] theorem tby65 : tby Tryz.prog 65 = some 8 := by kernel_rfl
@[simp, go_sem] theorem tagg65 : tagg Tryz.prog 65 = some false := by kernel_rfl
@[simp, go_sem] theorem tzero65 : tzero Tryz.prog 65 = some [.dead] := by kernel_rfl
@[simp, go_sem] theorem tis65 : (Tryz.prog.underlying 65).isSome = true := by kernel_rfl
@[simp, go_sem] theorem tsz66 : tsz Tryz.prog 66 = some 1 := by kernel_rfl
@[simp, go_sem] theorem tby66 : tby Tryz.prog 66 = some 8 := by kernel_rfl
@[simp, go_sem] theorem tagg66 : tagg Tryz.prog 66 = some false := by kernel_rfl
@[simp, go_sem] theorem tzero66 : tzero Tryz.prog 66 = some [.dead] := by kernel_rfl
@[simp, go_sem] theorem tis66 : (Tryz.prog.underlying 66).isSome = true := by kernel_rfl
@[simp, go_sem] theorem tsz67 : tsz Tryz.prog 67 = some 1 := by kernel_rfl
@[simp, go_sem] theorem tby67 : tby Tryz.prog 67 = some 8 := by kernel_rfl
@[simp, go_sem] theorem tagg67 : tagg Tryz.prog 67 = some false := by kernel_rfl
@[simp, go_sem] theorem tzero67 : tzero Tryz.prog 67 = some [.dead] := by kernel_rfl
@[simp, go_sem] theorem tis67 : (Tryz.prog.underlying 67).isSome = true := by kernel_rfl
@[simp, go_sem] theorem tsz68 : tsz Tryz.prog 68 = some 1 := by kernel_rfl
@[simp, go_sem] theorem tby68 : tby Tryz.prog 68 = some 8 := by kernel_rfl
@[simp, go_sem] theorem tagg68 : tagg Tryz.prog 68 = some false := by kernel_rfl
@[simp, go_sem] theorem tzero68 : tzero Tryz.prog 68 = some [.dead] := by kernel_rfl
@[simp, go_sem] theorem tis68 : (Tryz.prog.underlying 68).isSome = true := by kernel_rfl
@[simp, go_sem] theorem tsz69 : tsz Tryz.prog 69 = some 1 := by kernel_rfl
@[simp, go_sem] theorem tby69 : tby Tryz.prog 69 = some 8 := by kernel_rfl
@[simp, go_sem] theorem tagg69 : tagg Tryz.prog 69 = some false := by kernel_rfl
@[simp, go_sem] theorem tzero69 : tzero Tryz.prog 69 = some [.dead] := by kernel_rfl
@[simp, go_sem] theorem tis69 : (Tryz.prog.underlying 69).isSome = true := by kernel_rfl
@[simp, go_sem] theorem tsz71 : tsz Tryz.prog 71 = some 1 := by kernel_rfl
@[simp, go_sem] theorem tby71 : tby Tryz.prog 71 = some 8 := by kernel_rfl
@[simp, go_sem] theorem tagg71 : tagg Tryz.prog 71 = some false := by kernel_rfl
@[simp, go_sem] theorem tzero71 : tzero Tryz.prog 71 = some [.dead] := by kernel_rfl
@[simp, go_sem] theorem tis71 : (Tryz.prog.underlying 71).isSome = true := by kernel_rfl
@[simp, go_sem] theorem tsz72 : tsz Tryz.prog 72 = some 1 := by kernel_rfl
@[simp, go_sem] theorem tby72 : tby Tryz.prog 72 = some 8 := by kernel_rfl
@[simp, go_sem] theorem tagg72 : tagg Tryz.prog 72 = some false := by kernel_rfl
@[simp, go_sem] theorem tzero72 : tzero Tryz.prog 72 = some [.dead] := by kernel_rfl
@[simp, go_sem] theorem tis72 : (Tryz.prog.underlying 72).isSome = true := by kernel_rfl
@[simp, go_sem] theorem tsz73 : tsz Tryz.prog 73 = some 1 := by kernel_rfl
@[simp, go_sem] theorem tby73 : tby Tryz.prog 73 = some 8 := by kernel_rfl
@[simp, go_sem] theorem tagg73 : tagg Tryz.prog 73 = some false := by kernel_rfl
@[simp, go_sem] theorem tzero73 : tzero Tryz.prog 73 = some [.int .u64 0] := by kernel_rfl
@[simp, go_sem] theorem tis73 : (Tryz.prog.underlying 73).isSome = true := by kernel_rfl
@[simp, go_sem] theorem tint73 : tint Tryz.prog 73 = some .u64 := by kernel_rfl
@[simp, go_sem] theorem tsz74 : tsz Tryz.prog 74 = some 1 := by kernel_rfl
@[simp, go_sem] theorem tby74 : tby Tryz.prog 74 = some 8 := by kernel_rfl
@[simp, go_sem] theorem tagg74 : tagg Tryz.prog 74 = some false := by kernel_rfl
@[simp, go_sem] theorem tzero74 : tzero Tryz.prog 74 = some [.dead] := by kernel_rfl
@[simp, go_sem] theorem tis74 : (Tryz.prog.underlying 74).isSome = true := by kernel_rfl
@[simp, go_sem] theorem tsz75 : tsz Tryz.prog 75 = some 1 := by kernel_rfl
@[simp, go_sem] theorem tby75 : tby Tryz.prog 75 = some 8 := by kernel_rfl
@[simp, go_sem] theorem tagg75 : tagg Tryz.prog 75 = some false := by kernel_rfl
@[simp, go_sem] theorem tzero75 : tzero Tryz.prog 75 = some [.dead] := by kernel_rfl
@[simp, go_sem] theorem tis75 : (Tryz.prog.underlying 75).isSome = true := by kernel_rfl
@[simp, go_sem] theorem tsz76 : tsz Tryz.prog 76 = some 1 := by kernel_rfl
@[simp, go_sem] theorem tby76 : tby Tryz.prog 76 = some 8 := by kernel_rfl
@[simp, go_sem] theorem tagg76 : tagg Tryz.prog 76 = some false := by kernel_rfl
@[simp, go_sem] theorem tzero76 : tzero Tryz.prog 76 = some [.dead] := by kernel_rfl
@[simp, go_sem] theorem tis76 : (Tryz.prog.underlying 76).isSome = true := by kernel_rfl
@[simp, go_sem] theorem tsz77 : tsz Tryz.prog 77 = some 1 := by kernel_rfl
@[simp, go_sem] theorem tby77 : tby Tryz.prog 77 = some 8 := by kernel_rfl
@[simp, go_sem] theorem tagg77 : tagg Tryz.prog 77 = some false := by kernel_rfl
@[simp, go_sem] theorem tzero77 : tzero Tryz.prog 77 = some [.dead] := by kernel_rfl
@[simp, go_sem] theorem tis77 : (Tryz.prog.underlying 77).isSome = true := by kernel_rfl
@[simp, go_sem] theorem tsz78 : tsz Tryz.prog 78 = some 1 := by kernel_rfl
@[simp, go_sem] theorem tby78 : tby Tryz.prog 78 = some 8 := by kernel_rfl
@[simp, go_sem] theorem tagg78 : tagg Tryz.prog 78 = some false := by kernel_rfl
@[simp, go_sem] theorem tzero78 : tzero Tryz.prog 78 = some [.dead] := by kernel_rfl
@[simp, go_sem] theorem tis78 : (Tryz.prog.underlying 78).isSome = true := by kernel_rfl
@[simp, go_sem] theorem tsz79 : tsz Tryz.prog 79 = some 1 := by kernel_rfl
@[simp, go_sem] theorem tby79 : tby Tryz.prog 79 = some 8 := by kernel_rfl
@[simp, go_sem] theorem tagg79 : tagg Tryz.prog 79 = some false := by kernel_rfl
@[simp, go_sem] theorem tzero79 : tzero Tryz.prog 79 = some [.dead] := by kernel_rfl
@[simp, go_sem] theorem tis79 : (Tryz.prog.underlying 79).isSome = true := by kernel_rfl
@[simp, go_sem] theorem tsz80 : tsz Tryz.prog 80 = some 1 := by kernel_rfl
@[simp, go_sem] theorem tby80 : tby Tryz.prog 80 = some 8 := by kernel_rfl
@[simp, go_sem] theorem tagg80 : tagg Tryz.prog 80 = some false := by kernel_rfl
@[simp, go_sem] theorem tzero80 : tzero Tryz.prog 80 = some [.dead] := by kernel_rfl
@[simp, go_sem] theorem tis80 : (Tryz.prog.underlying 80).isSome = true := by kernel_rfl
@[simp, go_sem] theorem tsz81 : tsz Tryz.prog 81 = some 1 := by kernel_rfl
@[simp, go_sem] theorem tby81 : tby Tryz.prog 81 = some 8 := by kernel_rfl
@[simp, go_sem] theorem tagg81 : tagg Tryz.prog 81 = some false := by kernel_rfl
@[simp, go_sem] theorem tzero81 : tzero Tryz.prog 81 = some [.dead] := by kernel_rfl
@[simp, go_sem] theorem tis81 : (Tryz.prog.underlying 81).isSome = true := by kernel_rfl
@[simp, go_sem] theorem tsz82 : tsz Tryz.prog 82 = some 1 := by kernel_rfl
@[simp, go_sem] theorem tby82 : tby Tryz.prog 82 = some 8 := by kernel_rfl
@[simp, go_sem] theorem tagg82 : tagg Tryz.prog 82 = some false := by kernel_rfl
@[simp, go_sem] theorem tzero82 : tzero Tryz.prog 82 = some [.dead] := by kernel_rfl
@[simp, go_sem] theorem tis82 : (Tryz.prog.underlying 82).isSome = true := by kernel_rfl
@[simp, go_sem] theorem tsz83 : tsz Tryz.prog 83 = some 1 := by kernel_rfl
@[simp, go_sem] theorem tby83 : tby Tryz.prog 83 = some 8 := by kernel_rfl
@[simp, go_sem] theorem tagg83 : tagg Tryz.prog 83 = some false := by kernel_rfl
@[simp, go_sem] theorem tzero83 : tzero Tryz.prog 83 = some [.dead] := by kernel_rfl
@[simp, go_sem] theorem tis83 : (Tryz.prog.underlying 83).isSome = true := by kernel_rfl
@[simp, go_sem] theorem tsz84 : tsz Tryz.prog 84 = some 1 := by kernel_rfl
@[simp, go_sem] theorem tby84 : tby Tryz.prog 84 = some 8 := by kernel_rfl
@[simp, go_sem] theorem tagg84 : tagg Tryz.prog 84 = some false := by kernel_rfl
@[simp, go_sem] theorem tzero84 : tzero Tryz.prog 84 = some [.dead] := by kernel_rfl
@[simp, go_sem] theorem tis84 : (Tryz.prog.underlying 84).isSome = true := by kernel_rfl
@[simp, go_sem] theorem tsz85 : tsz Tryz.prog 85 = some 1 := by kernel_rfl
@[simp, go_sem] theorem tby85 : tby Tryz.prog 85 = some 8 := by kernel_rfl
@[simp, go_sem] theorem tagg85 : tagg Tryz.prog 85 = some false := by kernel_rfl
@[simp, go_sem] theorem tzero85 : tzero Tryz.prog 85 = some [.dead] := by kernel_rfl
@[simp, go_sem] theorem tis85 : (Tryz.prog.underlying 85).isSome = true := by kernel_rfl
@[simp, go_sem] theorem tsz86 : tsz Tryz.prog 86 = some 1 := by kernel_rfl
@[simp, go_sem] theorem tby86 : tby Tryz.prog 86 = some 8 := by kernel_rfl
@[simp, go_sem] theorem tagg86 : tagg Tryz.prog 86 = some false := by kernel_rfl
@[simp, go_sem] theorem tzero86 : tzero Tryz.prog 86 = some [.dead] := by kernel_rfl
@[simp, go_sem] theorem tis86 : (Tryz.prog.underlying 86).isSome = true := by kernel_rfl
@[simp, go_sem] theorem tsz87 : tsz Tryz.prog 87 = some 1 := by kernel_rfl
@[simp, go_sem] theorem tby87 : tby Tryz.prog 87 = some 8 := by kernel_rfl
@[simp, go_sem] theorem tagg87 : tagg Tryz.prog 87 = some false := by kernel_rfl
@[simp, go_sem] theorem tzero87 : tzero Tryz.prog 87 = some [.dead] := by kernel_rfl
@[simp, go_sem] theorem tis87 : (Tryz.prog.underlying 87).isSome = true := by kernel_rfl
@[simp, go_sem] theorem tsz88 : tsz Tryz.prog 88 = some 1 := by kernel_rfl
@[simp, go_sem] theorem tby88 : tby Tryz.prog 88 = some 8 := by kernel_rfl
@[simp, go_sem] theorem tagg88 : tagg Tryz.prog 88 = some false := by kernel_rfl
@[simp, go_sem] theorem tzero88 : tzero Tryz.prog 88 = some [.dead] := by kernel_rfl
@[simp, go_sem] theorem tis88 : (Tryz.prog.underlying 88).isSome = true := by kernel_rfl
@[simp, go_sem] theorem tsz89 : tsz Tryz.prog 89 = some 1 := by kernel_rfl
@[simp, go_sem] theorem tby89 : tby Tryz.prog 89 = some 8 := by kernel_rfl
@[simp, go_sem] theorem tagg89 : tagg Tryz.prog 89 = some false := by kernel_rfl
@[simp, go_sem] theorem tzero89 : tzero Tryz.prog 89 = some [.dead] := by kernel_rfl
@[simp, go_sem] theorem tis89 : (Tryz.prog.underlying 89).isSome = true := by kernel_rfl
@[simp, go_sem] theorem tsz90 : tsz Tryz.prog 90 = some 1 := by kernel_rfl
@[simp, go_sem] theorem tby90 : tby Tryz.prog 90 = some 8 := by kernel_rfl
@[simp, go_sem] theorem tagg90 : tagg Tryz.prog 90 = some false := by kernel_rfl
@[simp, go_sem] theorem tzero90 : tzero Tryz.prog 90 = some [.dead] := by kernel_rfl
@[simp, go_sem] theorem tis90 : (Tryz.prog.underlying 90).isSome = true := by kernel_rfl
@[simp, go_sem] theorem tsz91 : tsz Tryz.prog 91 = some 1 := by kernel_rfl
@[simp, go_sem] theorem tby91 : tby Tryz.prog 91 = some 8 := by kernel_rfl
@[simp, go_sem] theorem tagg91 : tagg Tryz.prog 91 = some false := by kernel_rfl
@[simp, go_sem] theorem tzero91 : tzero Tryz.prog 91 = some [.dead] := by kernel_rfl
@[simp, go_sem] theorem tis91 : (Tryz.prog.underlying 91).isSome = true := by kernel_rfl
@[simp, go_sem] theorem tsz92 : tsz Tryz.prog 92 = some 1 := by kernel_rfl
@[simp, go_sem] theorem tby92 : tby Tryz.prog 92 = some 8 := by kernel_rfl
@[simp, go_sem] theorem tagg92 : tagg Tryz.prog 92 = some false := by kernel_rfl
@[simp, go_sem] theorem tzero92 : tzero Tryz.prog 92 = some [.dead] := by kernel_rfl
@[simp, go_sem] theorem tis92 : (Tryz.prog.underlying 92).isSome = true := by kernel_rfl
@[simp, go_sem] theorem tsz93 : tsz Tryz.prog 93 = some 2 := by kernel_rfl
@[simp, go_sem] theorem tby93 : tby Tryz.prog 93 = some 16 := by kernel_rfl
@[simp, go_sem] theorem tagg93 : tagg Tryz.prog 93 = some true := by kernel_rfl
@[simp, go_sem] theorem tzero93 : tzero Tryz.prog 93 = some [.int .i64 0, .int .u64 0] := by kernel_rfl
@[simp, go_sem] theorem tis93 : (Tryz.prog.underlying 93).isSome = true := by kernel_rfl
@[simp, go_sem] theorem tcmp93 : tcmp Tryz.prog 93 2 = true := by kernel_rfl
@[simp, go_sem] theorem tstruct93 : tstruct Tryz.prog 93 = true := by kernel_rfl
@[simp, go_sem] theorem tfld93f0 : tfld Tryz.prog 93 0 = some (0, 3) := by kernel_rfl
@[simp, go_sem] theorem tfld93f1 : tfld Tryz.prog 93 1 = some (1, 73) := by kernel_rfl
@[simp, go_sem] theorem tsz94 : tsz Tryz.prog 94 = some 2 := by kernel_rfl
@[simp, go_sem] theorem tby94 : tby Tryz.prog 94 = some 16 := by kernel_rfl
@[simp, go_sem] theorem tagg94 : tagg Tryz.prog 94 = some true := by kernel_rfl
@[simp, go_sem] theorem tzero94 : tzero Tryz.prog 94 = some [.int .i64 0, .int .u64 0] := by kernel_rfl
@[simp, go_sem] theorem tis94 : (Tryz.prog.underlying 94).isSome = true := by kernel_rfl
@[simp, go_sem] theorem tcmp94 : tcmp Tryz.prog 94 2 = true := by kernel_rfl
@[simp, go_sem] theorem tstruct94 : tstruct Tryz.prog 94 = true := by kernel_rfl
@[simp, go_sem] theorem tfld94f0 : tfld Tryz.prog 94 0 = some (0, 3) := by kernel_rfl
@[simp, go_sem] theorem tfld94f1 : tfld Tryz.prog 94 1 = some (1, 73) := by kernel_rfl
@[simp, go_sem] theorem tsz95 : tsz Tryz.prog 95 = some 1 := by kernel_rfl
@[simp, go_sem] theorem tby95 : tby Tryz.prog 95 = some 8 := by kernel_rfl
@[simp, go_sem] theorem tagg95 : tagg Tryz.prog 95 = some false := by kernel_rfl
@[simp, go_sem] theorem tzero95 : tzero Tryz.prog 95 = some [.dead] := by kernel_rfl
@[simp, go_sem] theorem tis95 : (Tryz.prog.underlying 95).isSome = true := by kernel_rfl
@[simp, go_sem] theorem tsz96 : tsz Tryz.prog 96 = some 2 := by kernel_rfl
@[simp, go_sem] theorem tby96 : tby Tryz.prog 96 = some 16 := by kernel_rfl
@[simp, go_sem] theorem tagg96 : tagg Tryz.prog 96 = some true := by kernel_rfl
@[simp, go_sem] theorem tzero96 : tzero Tryz.prog 96 = some [.int .i64 0, .int .u64 0] := by kernel_rfl
@[simp, go_sem] theorem tis96 : (Tryz.prog.underlying 96).isSome = true := by kernel_rfl
@[simp, go_sem] theorem tcmp96 : tcmp Tryz.prog 96 2 = true := by kernel_rfl
@[simp, go_sem] theorem tstruct96 : tstruct Tryz.prog 96 = true := by kernel_rfl
@[simp, go_sem] theorem tfld96f0 : tfld Tryz.prog 96 0 = some (0, 3) := by kernel_rfl
@[simp, go_sem] theorem tfld96f1 : tfld Tryz.prog 96 1 = some (1, 73) := by kernel_rfl
@[simp, go_sem] theorem tsz97 : tsz Tryz.prog 97 = some 1 := by kernel_rfl
@[simp, go_sem] theorem tby97 : tby Tryz.prog 97 = some 8 := by kernel_rfl
@[simp, go_sem] theorem tagg97 : tagg Tryz.prog 97 = some false := by kernel_rfl
@[simp, go_sem] theorem tzero97 : tzero Tryz.prog 97 = some [.dead] := by kernel_rfl
@[simp, go_sem] theorem tis97 : (Tryz.prog.underlying 97).isSome = true := by kernel_rfl
@[simp, go_sem] theorem tsz98 : tsz Tryz.prog 98 = some 1 := by kernel_rfl
@[simp, go_sem] theorem tby98 : tby Tryz.prog 98 = some 8 := by kernel_rfl
@[simp, go_sem] theorem tagg98 : tagg Tryz.prog 98 = some false := by kernel_rfl
@[simp, go_sem] theorem tzero98 : tzero Tryz.prog 98 = some [.dead] := by kernel_rfl
@[simp, go_sem] theorem tis98 : (Tryz.prog.underlying 98).isSome = true := by kernel_rfl
@[simp, go_sem] theorem tsz99 : tsz Tryz.prog 99 = some 1 := by kernel_rfl
@[simp, go_sem] theorem tby99 : tby Tryz.prog 99 = some 8 := by kernel_rfl
@[simp, go_sem] theorem tagg99 : tagg Tryz.prog 99 = some false := by kernel_rfl
@[simp, go_sem] theorem tzero99 : tzero Tryz.prog 99 = some [.dead] := by kernel_rfl
@[simp, go_sem] theorem tis99 : (Tryz.prog.underlying 99).isSome = true := by kernel_rfl
@[simp, go_sem] theorem tsz100 : tsz Tryz.prog 100 = some 1 := by kernel_rfl
@[simp, go_sem] theorem tby100 : tby Tryz.prog 100 = some 8 := by kernel_rfl
@[simp, go_sem] theorem tagg100 : tagg Tryz.prog 100 = some false := by kernel_rfl
@[simp, go_sem] theorem tzero100 : tzero Tryz.prog 100 = some [.dead] := by kernel_rfl
@[simp, go_sem] theorem tis100 : (Tryz.prog.underlying 100).isSome = true := by kernel_rfl
@[simp, go_sem] theorem tsz101 : tsz Tryz.prog 101 = some 1 := by kernel_rfl
@[simp, go_sem] theorem tby101 : tby Tryz.prog 101 = some 8 := by kernel_rfl
@[simp, go_sem] theorem tagg101 : tagg Tryz.prog 101 = some false := by kernel_rfl
@[simp, go_sem] theorem tzero101 : tzero Tryz.prog 101 = some [.dead] := by kernel_rfl
@[simp, go_sem] theorem tis101 : (Tryz.prog.underlying 101).isSome = true := by kernel_rfl
@[simp, go_sem] theorem tsz102 : tsz Tryz.prog 102 = some 1 := by kernel_rfl
@[simp, go_sem] theorem tby102 : tby Tryz.prog 102 = some 8 := by kernel_rfl
@[simp, go_sem] theorem tagg102 : tagg Tryz.prog 102 = some false := by kernel_rfl
@[simp, go_sem] theorem tzero102 : tzero Tryz.prog 102 = some [.dead] := by kernel_rfl
@[simp, go_sem] theorem tis102 : (Tryz.prog.underlying 102).isSome = true := by kernel_rfl
@[simp, go_sem] theorem tsz103 : tsz Tryz.prog 103 = some 1 := by kernel_rfl
@[simp, go_sem] theorem tby103 : tby Tryz.prog 103 = some 24 := by kernel_rfl
@[simp, go_sem] theorem tagg103 : tagg Tryz.prog 103 = some false := by kernel_rfl
@[simp, go_sem] theorem tzero103 : tzero Tryz.prog 103 = some [.nil] := by kernel_rfl
@[simp, go_sem] theorem telem103 : telem Tryz.prog 103 = some 27 := by kernel_rfl
@[simp, go_sem] theorem tis103 : (Tryz.prog.underlying 103).isSome = true := by kernel_rfl
@[simp, go_sem] theorem tsz104 : tsz Tryz.prog 104 = some 1 := by kernel_rfl
@[simp, go_sem] theorem tby104 : tby Tryz.prog 104 = some 8 := by kernel_rfl
@[simp, go_sem] theorem tagg104 : tagg Tryz.prog 104 = some false := by kernel_rfl
@[simp, go_sem] theorem tzero104 : tzero Tryz.prog 104 = some [.dead] := by kernel_rfl
@[simp, go_sem] theorem tis104 : (Tryz.prog.underlying 104).isSome = true := by kernel_rfl
@[simp, go_sem] theorem tsz105 : tsz Tryz.prog 105 = some 1 := by kernel_rfl
@[simp, go_sem] theorem tby105 : tby Tryz.prog 105 = some 8 := by kernel_rfl
@[simp, go_sem] theorem tagg105 : tagg Tryz.prog 105 = some false := by kernel_rfl
@[simp, go_sem] theorem tzero105 : tzero Tryz.prog 105 = some [.dead] := by kernel_rfl
@[simp, go_sem] theorem tis105 : (Tryz.prog.underlying 105).isSome = true := by kernel_rfl
@[simp, go_sem] theorem tsz106 : tsz Tryz.prog 106 = some 1 := by kernel_rfl
@[simp, go_sem] theorem tby106 : tby Tryz.prog 106 = some 8 := by kernel_rfl
@[simp, go_sem] theorem tagg106 : tagg Tryz.prog 106 = some false := by kernel_rfl
@[simp, go_sem] theorem tzero106 : tzero Tryz.prog 106 = some [.dead] := by kernel_rfl
@[simp, go_sem] theorem tis106 : (Tryz.prog.underlying 106).isSome = true := by kernel_rfl
@[simp, go_sem] theorem tsz107 : tsz Tryz.prog 107 = some 1 := by kernel_rfl
@[simp, go_sem] theorem tby107 : tby Tryz.prog 107 = some 8 := by kernel_rfl
@[simp, go_sem] theorem tagg107 : tagg Tryz.prog 107 = some false := by kernel_rfl
@[simp, go_sem] theorem tzero107 : tzero Tryz.prog 107 = some [.dead] := by kernel_rfl
@[simp, go_sem] theorem tis107 : (Tryz.prog.underlying 107).isSome = true := by kernel_rfl
@[simp, go_sem] theorem tsz108 : tsz Tryz.prog 108 = some 1 := by kernel_rfl
@[simp, go_sem] theorem tby108 : tby Tryz.prog 108 = some 24 := by kernel_rfl
@[simp, go_sem] theorem tagg108 : tagg Tryz.prog 108 = some false := by kernel_rfl
@[simp, go_sem] theorem tzero108 : tzero Tryz.prog 108 = some [.nil] := by kernel_rfl
@[simp, go_sem] theorem telem108 : telem Tryz.prog 108 = some 143 := by kernel_rfl
@[simp, go_sem] theorem tis108 : (Tryz.prog.underlying 108).isSome = true := by kernel_rfl
@[simp, go_sem] theorem tsz109 : tsz Tryz.prog 109 = some 2 := by kernel_rfl
@[simp, go_sem] theorem tby109 : tby Tryz.prog 109 = some 48 := by kernel_rfl
@[simp, go_sem] theorem tagg109 : tagg Tryz.prog 109 = some true := by kernel_rfl
@[simp, go_sem] theorem tzero109 : tzero Tryz.prog 109 = some [.nil, .nil] := by kernel_rfl
@[simp, go_sem] theorem tis109 : (Tryz.prog.underlying 109).isSome = true := by kernel_rfl
@[simp, go_sem] theorem tstruct109 : tstruct Tryz.prog 109 = true := by kernel_rfl
@[simp, go_sem] theorem tfld109f0 : tfld Tryz.prog 109 0 = some (0, 33) := by kernel_rfl
@[simp, go_sem] theorem tfld109f1 : tfld Tryz.prog 109 1 = some (1, 108) := by kernel_rfl
@[simp, go_sem] theorem tsz110 : tsz Tryz.prog 110 = some 2 := by kernel_rfl
@[simp, go_sem] theorem tby110 : tby Tryz.prog 110 = some 48 := by kernel_rfl
@[simp, go_sem] theorem tagg110 : tagg Tryz.prog 110 = some true := by kernel_rfl
@[simp, go_sem] theorem tzero110 : tzero Tryz.prog 110 = some [.nil, .nil] := by kernel_rfl
@[simp, go_sem] theorem tis110 : (Tryz.prog.underlying 110).isSome = true := by kernel_rfl
@[simp, go_sem] theorem tstruct110 : tstruct Tryz.prog 110 = true := by kernel_rfl
@[simp, go_sem] theorem tfld110f0 : tfld Tryz.prog 110 0 = some (0, 33) := by kernel_rfl
@[simp, go_sem] theorem tfld110f1 : tfld Tryz.prog 110 1 = some (1, 108) := by kernel_rfl
@[simp, go_sem] theorem tsz111 : tsz Tryz.prog 111 = some 1 := by kernel_rfl
@[simp, go_sem] theorem tby111 : tby Tryz.prog 111 = some 8 := by kernel_rfl
@[simp, go_sem] theorem tagg111 : tagg Tryz.prog 111 = some false := by kernel_rfl
@[simp, go_sem] theorem tzero111 : tzero Tryz.prog 111 = some [.dead] := by kernel_rfl
@[simp, go_sem] theorem tis111 : (Tryz.prog.underlying 111).isSome = true := by kernel_rfl
@[simp, go_sem] theorem tsz112 : tsz Tryz.prog 112 = some 1 := by kernel_rfl
@[simp, go_sem] theorem tby112 : tby Tryz.prog 112 = some 8 := by kernel_rfl
@[simp, go_sem] theorem tagg112 : tagg Tryz.prog 112 = some false := by kernel_rfl
@[simp, go_sem] theorem tzero112 : tzero Tryz.prog 112 = some [.dead] := by kernel_rfl
@[simp, go_sem] theorem tis112 : (Tryz.prog.underlying 112).isSome = true := by kernel_rfl
@[simp, go_sem] theorem tsz113 : tsz Tryz.prog 113 = some 1 := by kernel_rfl
@[simp, go_sem] theorem tby113 : tby Tryz.prog 113 = some 8 := by kernel_rfl
@[simp, go_sem] theorem tagg113 : tagg Tryz.prog 113 = some false := by kernel_rfl
@[simp, go_sem] theorem tzero113 : tzero Tryz.prog 113 = some [.dead] := by kernel_rfl
@[simp, go_sem] theorem tis113 : (Tryz.prog.underlying 113).isSome = true := by kernel_rfl
@[simp, go_sem] theorem tsz114 : tsz Tryz.prog 114 = some 1 := by kernel_rfl
@[simp, go_sem] theorem tby114 : tby Tryz.prog 114 = some 8 := by kernel_rfl
@[simp, go_sem] theorem tagg114 : tagg Tryz.prog 114 = some false := by kernel_rfl
@[simp, go_sem] theorem tzero114 : tzero Tryz.prog 114 = some [.dead] := by kernel_rfl
@[simp, go_sem] theorem tis114 : (Tryz.prog.underlying 114).isSome = true := by kernel_rfl
@[simp, go_sem] theorem tsz115 : tsz Tryz.prog 115 = some 1 := by kernel_rfl
@[simp, go_sem] theorem tby115 : tby Tryz.prog 115 = some 8 := by kernel_rfl
@[simp, go_sem] theorem tagg115 : tagg Tryz.prog 115 = some false := by kernel_rfl
@[simp, go_sem] theorem tzero115 : tzero Tryz.prog 115 = some [.dead] := by kernel_rfl
@[simp, go_sem] theorem tis115 : (Tryz.prog.underlying 115).isSome = true := by kernel_rfl
@[simp, go_sem] theorem tsz116 : tsz Tryz.prog 116 = some 1 := by kernel_rfl
@[simp, go_sem] theorem tby116 : tby Tryz.prog 116 = some 8 := by kernel_rfl
@[simp, go_sem] theorem tagg116 : tagg Tryz.prog 116 = some false := by kernel_rfl
@[simp, go_sem] theorem tzero116 : tzero Tryz.prog 116 = some [.dead] := by kernel_rfl
@[simp, go_sem] theorem tis116 : (Tryz.prog.underlying 116).isSome = true := by kernel_rfl
@[simp, go_sem] theorem tsz117 : tsz Tryz.prog 117 = some 1 := by kernel_rfl
@[simp, go_sem] theorem tby117 : tby Tryz.prog 117 = some 24 := by kernel_rfl
@[simp, go_sem] theorem tagg117 : tagg Tryz.prog 117 = some false := by kernel_rfl
@[simp, go_sem] theorem tzero117 : tzero Tryz.prog 117 = some [.nil] := by kernel_rfl
@[simp, go_sem] theorem telem117 : telem Tryz.prog 117 = some 162 := by kernel_rfl
@[simp, go_sem] theorem tis117 : (Tryz.prog.underlying 117).isSome = true := by kernel_rfl
@[simp, go_sem] theorem tsz118 : tsz Tryz.prog 118 = some 2 := by kernel_rfl
@[simp, go_sem] theorem tby118 : tby Tryz.prog 118 = some 48 := by kernel_rfl
@[simp, go_sem] theorem tagg118 : tagg Tryz.prog 118 = some true := by kernel_rfl
@[simp, go_sem] theorem tzero118 : tzero Tryz.prog 118 = some [.nil, .nil] := by kernel_rfl
@[simp, go_sem] theorem tis118 : (Tryz.prog.underlying 118).isSome = true := by kernel_rfl
@[simp, go_sem] theorem tstruct118 : tstruct Tryz.prog 118 = true := by kernel_rfl
@[simp, go_sem] theorem tfld118f0 : tfld Tryz.prog 118 0 = some (0, 22) := by kernel_rfl
@[simp, go_sem] theorem tfld118f1 : tfld Tryz.prog 118 1 = some (1, 117) := by kernel_rfl
@[simp, go_sem] theorem tsz119 : tsz Tryz.prog 119 = some 2 := by kernel_rfl
@[simp, go_sem] theorem tby119 : tby Tryz.prog 119 = some 48 := by kernel_rfl
@[simp, go_sem] theorem tagg119 : tagg Tryz.prog 119 = some true := by kernel_rfl
@[simp, go_sem] theorem tzero119 : tzero Tryz.prog 119 = some [.nil, .nil] := by kernel_rfl
@[simp, go_sem] theorem tis119 : (Tryz.prog.underlying 119).isSome = true := by kernel_rfl
@[simp, go_sem] theorem tstruct119 : tstruct Tryz.prog 119 = true := by kernel_rfl
@[simp, go_sem] theorem tfld119f0 : tfld Tryz.prog 119 0 = some (0, 22) := by kernel_rfl
@[simp, go_sem] theorem tfld119f1 : tfld Tryz.prog 119 1 = some (1, 117) := by kernel_rfl
@[simp, go_sem] theorem tsz120 : tsz Tryz.prog 120 = some 1 := by kernel_rfl
@[simp, go_sem] theorem tby120 : tby Tryz.prog 120 = some 8 := by kernel_rfl
@[simp, go_sem] theorem tagg120 : tagg Tryz.prog 120 = some false := by kernel_rfl
@[simp, go_sem] theorem tzero120 : tzero Tryz.prog 120 = some [.dead] := by kernel_rfl
@[simp, go_sem] theorem tis120 : (Tryz.prog.underlying 120).isSome = true := by kernel_rfl
@[simp, go_sem] theorem tsz121 : tsz Tryz.prog 121 = some 1 := by kernel_rfl
@[simp, go_sem] theorem tby121 : tby Tryz.prog 121 = some 8 := by kernel_rfl
@[simp, go_sem] theorem tagg121 : tagg Tryz.prog 121 = some false := by kernel_rfl
@[simp, go_sem] theorem tzero121 : tzero Tryz.prog 121 = some [.dead] := by kernel_rfl
@[simp, go_sem] theorem tis121 : (Tryz.prog.underlying 121).isSome = true := by kernel_rfl
@[simp, go_sem] theorem tsz122 : tsz Tryz.prog 122 = some 1 := by kernel_rfl
@[simp, go_sem] theorem tby122 : tby Tryz.prog 122 = some 8 := by kernel_rfl
@[simp, go_sem] theorem tagg122 : tagg Tryz.prog 122 = some false := by kernel_rfl
@[simp, go_sem] theorem tzero122 : tzero Tryz.prog 122 = some [.dead] := by kernel_rfl
@[simp, go_sem] theorem tis122 : (Tryz.prog.underlying 122).isSome = true := by kernel_rfl
@[simp, go_sem] theorem tsz123 : tsz Tryz.prog 123 = some 1 := by kernel_rfl
@[simp, go_sem] theorem tby123 : tby Tryz.prog 123 = some 8 := by kernel_rfl
@[simp, go_sem] theorem tagg123 : tagg Tryz.prog 123 = some false := by kernel_rfl
@[simp, go_sem] theorem tzero123 : tzero Tryz.prog 123 = some [.dead] := by kernel_rfl
@[simp, go_sem] theorem tis123 : (Tryz.prog.underlying 123).isSome = true := by kernel_rfl
@[simp, go_sem] theorem tsz124 : tsz Tryz.prog 124 = some 1 := by kernel_rfl
@[simp, go_sem] theorem tby124 : tby Tryz.prog 124 = some 8 := by kernel_rfl
@[simp, go_sem] theorem tagg124 : tagg Tryz.prog 124 = some false := by kernel_rfl
@[simp, go_sem] theorem tzero124 : tzero Tryz.prog 124 = some [.dead] := by kernel_rfl
@[simp, go_sem] theorem tis124 : (Tryz.prog.underlying 124).isSome = true := by kernel_rfl
@[simp, go_sem] theorem tsz125 : tsz Tryz.prog 125 = some 1 := by kernel_rfl
@[simp, go_sem] theorem tby125 : tby Tryz.prog 125 = some 8 := by kernel_rfl
@[simp, go_sem] theorem tagg125 : tagg Tryz.prog 125 = some false := by kernel_rfl
@[simp, go_sem] theorem tzero125 : tzero Tryz.prog 125 = some [.dead] := by kernel_rfl
@[simp, go_sem] theorem tis125 : (Tryz.prog.underlying 125).isSome = true := by kernel_rfl
@[simp, go_sem] theorem tsz126 : tsz Tryz.prog 126 = some 1 := by kernel_rfl
@[simp, go_sem] theorem tby126 : tby Tryz.prog 126 = some 8 := by kernel_rfl
@[simp, go_sem] theorem tagg126 : tagg Tryz.prog 126 = some false := by kernel_rfl
@[simp, go_sem] theorem tzero126 : tzero Tryz.prog 126 = some [.dead] := by kernel_rfl
@[simp, go_sem] theorem tis126 : (Tryz.prog.underlying 126).isSome = true := by kernel_rfl
@[simp, go_sem] theorem tsz127 : tsz Tryz.prog 127 = some 1 := by kernel_rfl
@[simp, go_sem] theorem tby127 : tby Tryz.prog 127 = some 8 := by kernel_rfl
@[simp, go_sem] theorem tagg127 : tagg Tryz.prog 127 = some false := by kernel_rfl
@[simp, go_sem] theorem tzero127 : tzero Tryz.prog 127 = some [.dead] := by kernel_rfl
@[simp, go_sem] theorem tis127 : (Tryz.prog.underlying 127).isSome = true := by kernel_rfl
@[simp, go_sem] theorem tsz128 : tsz Tryz.prog 128 = some 1 := by kernel_rfl
@[simp, go_sem] theorem tby128 : tby Tryz.prog 128 = some 8 := by kernel_rfl
@[simp, go_sem] theorem tagg128 : tagg Tryz.prog 128 = some false := by kernel_rfl
@[simp, go_sem] theorem tzero128 : tzero Tryz.prog 128 = some [.dead] := by kernel_rfl
@[simp, go_sem] theorem tis128 : (Tryz.prog.underlying 128).isSome = true := by kernel_rfl
@[simp, go_sem] theorem tsz129 : tsz Tryz.prog 129 = some 1 := by kernel_rfl
@[simp, go_sem] theorem tby129 : tby Tryz.prog 129 = some 8 := by kernel_rfl
@[simp, go_sem] theorem tagg129 : tagg Tryz.prog 129 = some false := by kernel_rfl
@[simp, go_sem] theorem tzero129 : tzero Tryz.prog 129 = some [.dead] := by kernel_rfl
@[simp, go_sem] theorem tis129 : (Tryz.prog.underlying 129).isSome = true := by kernel_rfl
@[simp, go_sem] theorem tsz130 : tsz Tryz.prog 130 = some 1 := by kernel_rfl
@[simp, go_sem] theorem tby130 : tby Tryz.prog 130 = some 8 := by kernel_rfl
@[simp, go_sem] theorem tagg130 : tagg Tryz.prog 130 = some false := by kernel_rfl
@[simp, go_sem] theorem tzero130 : tzero Tryz.prog 130 = some [.dead] := by kernel_rfl
@[simp, go_sem] theorem tis130 : (Tryz.prog.underlying 130).isSome = true := by kernel_rfl
@[simp, go_sem] theorem tsz131 : tsz Tryz.prog 131 = some 1 := by kernel_rfl
@[simp, go_sem] theorem tby131 : tby Tryz.prog 131 = some 8 := by kernel_rfl
@[simp, go_sem] theorem tagg131 : tagg Tryz.prog 131 = some false := by kernel_rfl
@[simp, go_sem] theorem tzero131 : tzero Tryz.prog 131 = some [.dead] := by kernel_rfl
@[simp, go_sem] theorem tis131 : (Tryz.prog.underlying 131).isSome = true := by kernel_rfl
@[simp, go_sem] theorem tsz132 : tsz Tryz.prog 132 = some 1 := by kernel_rfl
@[simp, go_sem] theorem tby132 : tby Tryz.prog 132 = some 8 := by kernel_rfl
@[simp, go_sem] theorem tagg132 : tagg Tryz.prog 132 = some false := by kernel_rfl
@[simp, go_sem] theorem tzero132 : tzero Tryz.prog 132 = some [.dead] := by kernel_rfl
@[simp, go_sem] theorem tis132 : (Tryz.prog.underlying 132).isSome = true := by kernel_rfl
@[simp, go_sem] theorem tsz133 : tsz Tryz.prog 133 = some 1 := by kernel_rfl
@[simp, go_sem] theorem tby133 : tby Tryz.prog 133 = some 8 := by kernel_rfl
@[simp, go_sem] theorem tagg133 : tagg Tryz.prog 133 = some false := by kernel_rfl
@[simp, go_sem] theorem tzero133 : tzero Tryz.prog 133 = some [.int .u64 0] := by kernel_rfl
@[simp, go_sem] theorem tis133 : (Tryz.prog.underlying 133).isSome = true := by kernel_rfl
@[simp, go_sem] theorem tint133 : tint Tryz.prog 133 = some .u64 := by kernel_rfl
@[simp, go_sem] theorem tsz134 : tsz Tryz.prog 134 = some 1 := by kernel_rfl
@[simp, go_sem] theorem tby134 : tby Tryz.prog 134 = some 8 := by kernel_rfl
@[simp, go_sem] theorem tagg134 : tagg Tryz.prog 134 = some false := by kernel_rfl
@[simp, go_sem] theorem tzero134 : tzero Tryz.prog 134 = some [.dead] := by kernel_rfl
@[simp, go_sem] theorem tis134 : (Tryz.prog.underlying 134).isSome = true := by kernel_rfl
@[simp, go_sem] theorem tsz135 : tsz Tryz.prog 135 = some 1 := by kernel_rfl
@[simp, go_sem] theorem tby135 : tby Tryz.prog 135 = some 8 := by kernel_rfl
@[simp, go_sem] theorem tagg135 : tagg Tryz.prog 135 = some false := by kernel_rfl
@[simp, go_sem] theorem tzero135 : tzero Tryz.prog 135 = some [.dead] := by kernel_rfl
@[simp, go_sem] theorem tis135 : (Tryz.prog.underlying 135).isSome = true := by kernel_rfl
@[simp, go_sem] theorem tsz136 : tsz Tryz.prog 136 = some 1 := by kernel_rfl
@[simp, go_sem] theorem tby136 : tby Tryz.prog 136 = some 8 := by kernel_rfl
@[simp, go_sem] theorem tagg136 : tagg Tryz.prog 136 = some false := by kernel_rfl
@[simp, go_sem] theorem tzero136 : tzero Tryz.prog 136 = some [.dead] := by kernel_rfl
@[simp, go_sem] theorem tis136 : (Tryz.prog.underlying 136).isSome = true := by kernel_rfl
@[simp, go_sem] theorem tsz137 : tsz Tryz.prog 137 = some 1 := by kernel_rfl
@[simp, go_sem] theorem tby137 : tby Tryz.prog 137 = some 8 := by kernel_rfl
@[simp, go_sem] theorem tagg137 : tagg Tryz.prog 137 = some false := by kernel_rfl
@[simp, go_sem] theorem tzero137 : tzero Tryz.prog 137 = some [.dead] := by kernel_rfl
@[simp, go_sem] theorem tis137 : (Tryz.prog.underlying 137).isSome = true := by kernel_rfl
@[simp, go_sem] theorem tsz138 : tsz Tryz.prog 138 = some 1 := by kernel_rfl
@[simp, go_sem] theorem tby138 : tby Tryz.prog 138 = some 8 := by kernel_rfl
@[simp, go_sem] theorem tagg138 : tagg Tryz.prog 138 = some false := by kernel_rfl
@[simp, go_sem] theorem tzero138 : tzero Tryz.prog 138 = some [.dead] := by kernel_rfl
@[simp, go_sem] theorem tis138 : (Tryz.prog.underlying 138).isSome = true := by kernel_rfl
@[simp, go_sem] theorem tsz139 : tsz Tryz.prog 139 = some 1 := by kernel_rfl
@[simp, go_sem] theorem tby139 : tby Tryz.prog 139 = some 8 := by kernel_rfl
@[simp, go_sem] theorem tagg139 : tagg Tryz.prog 139 = some false := by kernel_rfl
@[simp, go_sem] theorem tzero139 : tzero Tryz.prog 139 = some [.dead] := by kernel_rfl
@[simp, go_sem] theorem tis139 : (Tryz.prog.underlying 139).isSome = true := by kernel_rfl
@[simp, go_sem] theorem tsz140 : tsz Tryz.prog 140 = some 1 := by kernel_rfl
@[simp, go_sem] theorem tby140 : tby Tryz.prog 140 = some 8 := by kernel_rfl
@[simp, go_sem] theorem tagg140 : tagg Tryz.prog 140 = some false := by kernel_rfl
@[simp, go_sem] theorem tzero140 : tzero Tryz.prog 140 = some [.dead] := by kernel_rfl
@[simp, go_sem] theorem tis140 : (Tryz.prog.underlying 140).isSome = true := by kernel_rfl
@[simp, go_sem] theorem tsz141 : tsz Tryz.prog 141 = some 1 := by kernel_rfl
@[simp, go_sem] theorem tby141 : tby Tryz.prog 141 = some 8 := by kernel_rfl
@[simp, go_sem] theorem tagg141 : tagg Tryz.prog 141 = some false := by kernel_rfl
@[simp, go_sem] theorem tzero141 : tzero Tryz.prog 141 = some [.dead] := by kernel_rfl
@[simp, go_sem] theorem tis141 : (Tryz.prog.underlying 141).isSome = true := by kernel_rfl
@[simp, go_sem] theorem tsz142 : tsz Tryz.prog 142 = some 2 := by kernel_rfl
@[simp, go_sem] theorem tby142 : tby Tryz.prog 142 = some 32 := by kernel_rfl
@[simp, go_sem] theorem tagg142 : tagg Tryz.prog 142 = some true := by kernel_rfl
@[simp, go_sem] theorem tzero142 : tzero Tryz.prog 142 = some [.int .i64 0, .nil] := by kernel_rfl
@[simp, go_sem] theorem tis142 : (Tryz.prog.underlying 142).isSome = true := by kernel_rfl
@[simp, go_sem] theorem tstruct142 : tstruct Tryz.prog 142 = true := by kernel_rfl
@[simp, go_sem] theorem tfld142f0 : tfld Tryz.prog 142 0 = some (0, 3) := by kernel_rfl
@[simp, go_sem] theorem tfld142f1 : tfld Tryz.prog 142 1 = some (1, 33) := by kernel_rfl
@[simp, go_sem] theorem tsz143 : tsz Tryz.prog 143 = some 2 := by kernel_rfl
@[simp, go_sem] theorem tby143 : tby Tryz.prog 143 = some 32 := by kernel_rfl
@[simp, go_sem] theorem tagg143 : tagg Tryz.prog 143 = some true := by kernel_rfl
@[simp, go_sem] theorem tzero143 : tzero Tryz.prog 143 = some [.int .i64 0, .nil] := by kernel_rfl
@[simp, go_sem] theorem tis143 : (Tryz.prog.underlying 143).isSome = true := by kernel_rfl
@[simp, go_sem] theorem tstruct143 : tstruct Tryz.prog 143 = true := by kernel_rfl
@[simp, go_sem] theorem tfld143f0 : tfld Tryz.prog 143 0 = some (0, 3) := by kernel_rfl
@[simp, go_sem] theorem tfld143f1 : tfld Tryz.prog 143 1 = some (1, 33) := by kernel_rfl
@[simp, go_sem] theorem tsz144 : tsz Tryz.prog 144 = some 1 := by kernel_rfl
@[simp, go_sem] theorem tby144 : tby Tryz.prog 144 = some 8 := by kernel_rfl
@[simp, go_sem] theorem tagg144 : tagg Tryz.prog 144 = some false := by kernel_rfl
@[simp, go_sem] theorem tzero144 : tzero Tryz.prog 144 = some [.dead] := by kernel_rfl
@[simp, go_sem] theorem tis144 : (Tryz.prog.underlying 144).isSome = true := by kernel_rfl
@[simp, go_sem] theorem tsz145 : tsz Tryz.prog 145 = some 1 := by kernel_rfl
@[simp, go_sem] theorem tby145 : tby Tryz.prog 145 = some 8 := by kernel_rfl
@[simp, go_sem] theorem tagg145 : tagg Tryz.prog 145 = some false := by kernel_rfl
@[simp, go_sem] theorem tzero145 : tzero Tryz.prog 145 = some [.dead] := by kernel_rfl
@[simp, go_sem] theorem tis145 : (Tryz.prog.underlying 145).isSome = true := by kernel_rfl
@[simp, go_sem] theorem tsz146 : tsz Tryz.prog 146 = some 1 := by kernel_rfl
@[simp, go_sem] theorem tby146 : tby Tryz.prog 146 = some 8 := by kernel_rfl
@[simp, go_sem] theorem tagg146 : tagg Tryz.prog 146 = some false := by kernel_rfl
@[simp, go_sem] theorem tzero146 : tzero Tryz.prog 146 = some [.dead] := by kernel_rfl
@[simp, go_sem] theorem tis146 : (Tryz.prog.underlying 146).isSome = true := by kernel_rfl
@[simp, go_sem] theorem tsz147 : tsz Tryz.prog 147 = some 1 := by kernel_rfl
@[simp, go_sem] theorem tby147 : tby Tryz.prog 147 = some 8 := by kernel_rfl
@[simp, go_sem] theorem tagg147 : tagg Tryz.prog 147 = some false := by kernel_rfl
@[simp, go_sem] theorem tzero147 : tzero Tryz.prog 147 = some [.dead] := by kernel_rfl
@[simp, go_sem] theorem tis147 : (Tryz.prog.underlying 147).isSome = true := by kernel_rfl
@[simp, go_sem] theorem tsz148 : tsz Tryz.prog 148 = some 1 := by kernel_rfl
@[simp, go_sem] theorem tby148 : tby Tryz.prog 148 = some 8 := by kernel_rfl
@[simp, go_sem] theorem tagg148 : tagg Tryz.prog 148 = some false := by kernel_rfl
@[simp, go_sem] theorem tzero148 : tzero Tryz.prog 148 = some [.dead] := by kernel_rfl
@[simp, go_sem] theorem tis148 : (Tryz.prog.underlying 148).isSome = true := by kernel_rfl
@[simp, go_sem] theorem tsz149 : tsz Tryz.prog 149 = some 1 := by kernel_rfl
@[simp, go_sem] theorem tby149 : tby Tryz.prog 149 = some 8 := by kernel_rfl
@[simp, go_sem] theorem tagg149 : tagg Tryz.prog 149 = some false := by kernel_rfl
@[simp, go_sem] theorem tzero149 : tzero Tryz.prog 149 = some [.dead] := by kernel_rfl
@[simp, go_sem] theorem tis149 : (Tryz.prog.underlying 149).isSome = true := by kernel_rfl
@[simp, go_sem] theorem tsz150 : tsz Tryz.prog 150 = some 1 := by kernel_rfl
@[simp, go_sem] theorem tby150 : tby Tryz.prog 150 = some 8 := by kernel_rfl
@[simp, go_sem] theorem tagg150 : tagg Tryz.prog 150 = some false := by kernel_rfl
@[simp, go_sem] theorem tzero150 : tzero Tryz.prog 150 = some [.dead] := by kernel_rfl
@[simp, go_sem] theorem tis150 : (Tryz.prog.underlying 150).isSome = true := by kernel_rfl
@[simp, go_sem] theorem tsz151 : tsz Tryz.prog 151 = some 1 := by kernel_rfl
@[simp, go_sem] theorem tby151 : tby Tryz.prog 151 = some 8 := by kernel_rfl
@[simp, go_sem] theorem tagg151 : tagg Tryz.prog 151 = some false := by kernel_rfl
@[simp, go_sem] theorem tzero151 : tzero Tryz.prog 151 = some [.dead] := by kernel_rfl
@[simp, go_sem] theorem tis151 : (Tryz.prog.underlying 151).isSome = true := by kernel_rfl
@[simp, go_sem] theorem tsz153 : tsz Tryz.prog 153 = some 1 := by kernel_rfl
@[simp, go_sem] theorem tby153 : tby Tryz.prog 153 = some 8 := by kernel_rfl
@[simp, go_sem] theorem tagg153 : tagg Tryz.prog 153 = some false := by kernel_rfl
@[simp, go_sem] theorem tzero153 : tzero Tryz.prog 153 = some [.dead] := by kernel_rfl
@[simp, go_sem] theorem tis153 : (Tryz.prog.underlying 153).isSome = true := by kernel_rfl
@[simp, go_sem] theorem tsz154 : tsz Tryz.prog 154 = some 1 := by kernel_rfl
@[simp, go_sem] theorem tby154 : tby Tryz.prog 154 = some 8 := by kernel_rfl
@[simp, go_sem] theorem tagg154 : tagg Tryz.prog 154 = some false := by kernel_rfl
@[simp, go_sem] theorem tzero154 : tzero Tryz.prog 154 = some [.dead] := by kernel_rfl
@[simp, go_sem] theorem tis154 : (Tryz.prog.underlying 154).isSome = true := by kernel_rfl
@[simp, go_sem] theorem tsz155 : tsz Tryz.prog 155 = some 1 := by kernel_rfl
@[simp, go_sem] theorem tby155 : tby Tryz.prog 155 = some 8 := by kernel_rfl
@[simp, go_sem] theorem tagg155 : tagg Tryz.prog 155 = some false := by kernel_rfl
@[simp, go_sem] theorem tzero155 : tzero Tryz.prog 155 = some [.dead] := by kernel_rfl
@[simp, go_sem] theorem tis155 : (Tryz.prog.underlying 155).isSome = true := by kernel_rfl
@[simp, go_sem] theorem tsz156 : tsz Tryz.prog 156 = some 1 := by kernel_rfl
@[simp, go_sem] theorem tby156 : tby Tryz.prog 156 = some 8 := by kernel_rfl
@[simp, go_sem] theorem tagg156 : tagg Tryz.prog 156 = some false := by kernel_rfl
@[simp, go_sem] theorem tzero156 : tzero Tryz.prog 156 = some [.dead] := by kernel_rfl
@[simp, go_sem] theorem tis156 : (Tryz.prog.underlying 156).isSome = true := by kernel_rfl
@[simp, go_sem] theorem tsz157 : tsz Tryz.prog 157 = some 1 := by kernel_rfl
@[simp, go_sem] theorem tby157 : tby Tryz.prog 157 = some 8 := by kernel_rfl
@[simp, go_sem] theorem tagg157 : tagg Tryz.prog 157 = some false := by kernel_rfl
@[simp, go_sem] theorem tzero157 : tzero Tryz.prog 157 = some [.dead] := by kernel_rfl
@[simp, go_sem] theorem tis157 : (Tryz.prog.underlying 157).isSome = true := by kernel_rfl
@[simp, go_sem] theorem tsz159 : tsz Tryz.prog 159 = some 1 := by kernel_rfl
@[simp, go_sem] theorem tby159 : tby Tryz.prog 159 = some 8 := by kernel_rfl
@[simp, go_sem] theorem tagg159 : tagg Tryz.prog 159 = some false := by kernel_rfl
@[simp, go_sem] theorem tzero159 : tzero Tryz.prog 159 = some [.dead] := by kernel_rfl
@[simp, go_sem] theorem tis159 : (Tryz.prog.underlying 159).isSome = true := by kernel_rfl
@[simp, go_sem] theorem tsz160 : tsz Tryz.prog 160 = some 1 := by kernel_rfl
@[simp, go_sem] theorem tby160 : tby Tryz.prog 160 = some 8 := by kernel_rfl
@[simp, go_sem] theorem tagg160 : tagg Tryz.prog 160 = some false := by kernel_rfl
@[simp, go_sem] theorem tzero160 : tzero Tryz.prog 160 = some [.dead] := by kernel_rfl
@[simp, go_sem] theorem tis160 : (Tryz.prog.underlying 160).isSome = true := by kernel_rfl
@[simp, go_sem] theorem tsz161 : tsz Tryz.prog 161 = some 2 := by kernel_rfl
@[simp, go_sem] theorem tby161 : tby Tryz.prog 161 = some 32 := by kernel_rfl
@[simp, go_sem] theorem tagg161 : tagg Tryz.prog 161 = some true := by kernel_rfl
@[simp, go_sem] theorem tzero161 : tzero Tryz.prog 161 = some [.int .i64 0, .nil] := by kernel_rfl
@[simp, go_sem] theorem tis161 : (Tryz.prog.underlying 161).isSome = true := by kernel_rfl
@[simp, go_sem] theorem tstruct161 : tstruct Tryz.prog 161 = true := by kernel_rfl
@[simp, go_sem] theorem tfld161f0 : tfld Tryz.prog 161 0 = some (0, 3) := by kernel_rfl
@[simp, go_sem] theorem tfld161f1 : tfld Tryz.prog 161 1 = some (1, 22) := by kernel_rfl
@[simp, go_sem] theorem tsz162 : tsz Tryz.prog 162 = some 2 := by kernel_rfl
@[simp, go_sem] theorem tby162 : tby Tryz.prog 162 = some 32 := by kernel_rfl
@[simp, go_sem] theorem tagg162 : tagg Tryz.prog 162 = some true := by kernel_rfl
@[simp, go_sem] theorem tzero162 : tzero Tryz.prog 162 = some [.int .i64 0, .nil] := by kernel_rfl
@[simp, go_sem] theorem tis162 : (Tryz.prog.underlying 162).isSome = true := by kernel_rfl
@[simp, go_sem] theorem tstruct162 : tstruct Tryz.prog 162 = true := by kernel_rfl
@[simp, go_sem] theorem tfld162f0 : tfld Tryz.prog 162 0 = some (0, 3) := by kernel_rfl
@[simp, go_sem] theorem tfld162f1 : tfld Tryz.prog 162 1 = some (1, 22) := by kernel_rfl
@[simp, go_sem] theorem tsz163 : tsz Tryz.prog 163 = some 1 := by kernel_rfl
@[simp, go_sem] theorem tby163 : tby Tryz.prog 163 = some 8 := by kernel_rfl
@[simp, go_sem] theorem tagg163 : tagg Tryz.prog 163 = some false := by kernel_rfl
@[simp, go_sem] theorem tzero163 : tzero Tryz.prog 163 = some [.dead] := by kernel_rfl
@[simp, go_sem] theorem tis163 : (Tryz.prog.underlying 163).isSome = true := by kernel_rfl
@[simp, go_sem] theorem tsz164 : tsz Tryz.prog 164 = some 1 := by kernel_rfl
@[simp, go_sem] theorem tby164 : tby Tryz.prog 164 = some 8 := by kernel_rfl
@[simp, go_sem] theorem tagg164 : tagg Tryz.prog 164 = some false := by kernel_rfl
@[simp, go_sem] theorem tzero164 : tzero Tryz.prog 164 = some [.dead] := by kernel_rfl
@[simp, go_sem] theorem tis164 : (Tryz.prog.underlying 164).isSome = true := by kernel_rfl
@[simp, go_sem] theorem tsz165 : tsz Tryz.prog 165 = some 1 := by kernel_rfl
@[simp, go_sem] theorem tby165 : tby Tryz.prog 165 = some 8 := by kernel_rfl
@[simp, go_sem] theorem tagg165 : tagg Tryz.prog 165 = some false := by kernel_rfl
@[simp, go_sem] theorem tzero165 : tzero Tryz.prog 165 = some [.dead] := by kernel_rfl
@[simp, go_sem] theorem tis165 : (Tryz.prog.underlying 165).isSome = true := by kernel_rfl
@[simp, go_sem] theorem tsz166 : tsz Tryz.prog 166 = some 1 := by kernel_rfl
@[simp, go_sem] theorem tby166 : tby Tryz.prog 166 = some 8 := by kernel_rfl
@[simp, go_sem] theorem tagg166 : tagg Tryz.prog 166 = some false := by kernel_rfl
@[simp, go_sem] theorem tzero166 : tzero Tryz.prog 166 = some [.dead] := by kernel_rfl
@[simp, go_sem] theorem tis166 : (Tryz.prog.underlying 166).isSome = true := by kernel_rfl
@[simp, go_sem] theorem tsz167 : tsz Tryz.prog 167 = some 1 := by kernel_rfl
@[simp, go_sem] theorem tby167 : tby Tryz.prog 167 = some 8 := by kernel_rfl
@[simp, go_sem] theorem tagg167 : tagg Tryz.prog 167 = some false := by kernel_rfl
@[simp, go_sem] theorem tzero167 : tzero Tryz.prog 167 = some [.int .i64 0] := by kernel_rfl
@[simp, go_sem] theorem tis167 : (Tryz.prog.underlying 167).isSome = true := by kernel_rfl
@[simp, go_sem] theorem tint167 : tint Tryz.prog 167 = some .i64 := by kernel_rfl
@[simp, go_sem] theorem tsz169 : tsz Tryz.prog 169 = some 1 := by kernel_rfl
@[simp, go_sem] theorem tby169 : tby Tryz.prog 169 = some 8 := by kernel_rfl
@[simp, go_sem] theorem tagg169 : tagg Tryz.prog 169 = some false := by kernel_rfl
@[simp, go_sem] theorem tzero169 : tzero Tryz.prog 169 = some [.dead] := by kernel_rfl
@[simp, go_sem] theorem tis169 : (Tryz.prog.underlying 169).isSome = true := by kernel_rfl
@[simp, go_sem] theorem tsz170 : tsz Tryz.prog 170 = some 1 := by kernel_rfl
@[simp, go_sem] theorem tby170 : tby Tryz.prog 170 = some 8 := by kernel_rfl
@[simp, go_sem] theorem tagg170 : tagg Tryz.prog 170 = some false := by kernel_rfl
@[simp, go_sem] theorem tzero170 : tzero Tryz.prog 170 = some [.dead] := by kernel_rfl
@[simp, go_sem] theorem tis170 : (Tryz.prog.underlying 170).isSome = true := by kernel_rfl
@[simp, go_sem] theorem tsz171 : tsz Tryz.prog 171 = some 1 := by kernel_rfl
@[simp, go_sem] theorem tby171 : tby Tryz.prog 171 = some 8 := by kernel_rfl
@[simp, go_sem] theorem tagg171 : tagg Tryz.prog 171 = some false := by kernel_rfl
@[simp, go_sem] theorem tzero171 : tzero Tryz.prog 171 = some [.dead] := by kernel_rfl
@[simp, go_sem] theorem tis171 : (Tryz.prog.underlying 171).isSome = true := by kernel_rfl
@[simp, go_sem] theorem tsz172 : tsz Tryz.prog 172 = some 1 := by kernel_rfl
@[simp, go_sem] theorem tby172 : tby Tryz.prog 172 = some 8 := by kernel_rfl
@[simp, go_sem] theorem tagg172 : tagg Tryz.prog 172 = some false := by kernel_rfl
@[simp, go_sem] theorem tzero172 : tzero Tryz.prog 172 = some [.dead] := by kernel_rfl
@[simp, go_sem] theorem tis172 : (Tryz.prog.underlying 172).isSome = true := by kernel_rfl
@[simp, go_sem] theorem tsz173 : tsz Tryz.prog 173 = some 1 := by kernel_rfl
@[simp, go_sem] theorem tby173 : tby Tryz.prog 173 = some 8 := by kernel_rfl
@[simp, go_sem] theorem tagg173 : tagg Tryz.prog 173 = some false := by kernel_rfl
@[simp, go_sem] theorem tzero173 : tzero Tryz.prog 173 = some [.dead] := by kernel_rfl
@[simp, go_sem] theorem tis173 : (Tryz.prog.underlying 173).isSome = true := by kernel_rfl
@[simp, go_sem] theorem tsz174 : tsz Tryz.prog 174 = some 1 := by kernel_rfl
@[simp, go_sem] theorem tby174 : tby Tryz.prog 174 = some 4 := by kernel_rfl
@[simp, go_sem] theorem tagg174 : tagg Tryz.prog 174 = some false := by kernel_rfl
@[simp, go_sem] theorem tzero174 : tzero Tryz.prog 174 = some [.int .u32 0] := by kernel_rfl
@[simp, go_sem] theorem tis174 : (Tryz.prog.underlying 174).isSome = true := by kernel_rfl
@[simp, go_sem] theorem tint174 : tint Tryz.prog 174 = some .u32 := by kernel_rfl
@[simp, go_sem] theorem tsz175 : tsz Tryz.prog 175 = some 1 := by kernel_rfl
@[simp, go_sem] theorem tby175 : tby Tryz.prog 175 = some 8 := by kernel_rfl
@[simp, go_sem] theorem tagg175 : tagg Tryz.prog 175 = some false := by kernel_rfl
@[simp, go_sem] theorem tzero175 : tzero Tryz.prog 175 = some [.dead] := by kernel_rfl
@[simp, go_sem] theorem tis175 : (Tryz.prog.underlying 175).isSome = true := by kernel_rfl
@[simp, go_sem] theorem tsz177 : tsz Tryz.prog 177 = some 1 := by kernel_rfl
@[simp, go_sem] theorem tby177 : tby Tryz.prog 177 = some 8 := by kernel_rfl
@[simp, go_sem] theorem tagg177 : tagg Tryz.prog 177 = some false := by kernel_rfl
@[simp, go_sem] theorem tzero177 : tzero Tryz.prog 177 = some [.dead] := by kernel_rfl
@[simp, go_sem] theorem tis177 : (Tryz.prog.underlying 177).isSome = true := by kernel_rfl
@[simp, go_sem] theorem tsz178 : tsz Tryz.prog 178 = some 1 := by kernel_rfl
@[simp, go_sem] theorem tby178 : tby Tryz.prog 178 = some 8 := by kernel_rfl
@[simp, go_sem] theorem tagg178 : tagg Tryz.prog 178 = some false := by kernel_rfl
@[simp, go_sem] theorem tzero178 : tzero Tryz.prog 178 = some [.dead] := by kernel_rfl
@[simp, go_sem] theorem tis178 : (Tryz.prog.underlying 178).isSome = true := by kernel_rfl
@[simp, go_sem] theorem tsz179 : tsz Tryz.prog 179 = some 1 := by kernel_rfl
@[simp, go_sem] theorem tby179 : tby Tryz.prog 179 = some 8 := by kernel_rfl
@[simp, go_sem] theorem tagg179 : tagg Tryz.prog 179 = some false := by kernel_rfl
@[simp, go_sem] theorem tzero179 : tzero Tryz.prog 179 = some [.dead] := by kernel_rfl
@[simp, go_sem] theorem tis179 : (Tryz.prog.underlying 179).isSome = true := by kernel_rfl
@[simp, go_sem] theorem tsz180 : tsz Tryz.prog 180 = some 1 := by kernel_rfl
@[simp, go_sem] theorem tby180 : tby Tryz.prog 180 = some 8 := by kernel_rfl
@[simp, go_sem] theorem tagg180 : tagg Tryz.prog 180 = some false := by kernel_rfl
@[simp, go_sem] theorem tzero180 : tzero Tryz.prog 180 = some [.dead] := by kernel_rfl
@[simp, go_sem] theorem tis180 : (Tryz.prog.underlying 180).isSome = true := by kernel_rfl
@[simp, go_sem] theorem tsz182 : tsz Tryz.prog 182 = some 1 := by kernel_rfl
@[simp, go_sem] theorem tby182 : tby Tryz.prog 182 = some 8 := by kernel_rfl
@[simp, go_sem] theorem tagg182 : tagg Tryz.prog 182 = some false := by kernel_rfl
@[simp, go_sem] theorem tzero182 : tzero Tryz.prog 182 = some [.dead] := by kernel_rfl
@[simp, go_sem] theorem tis182 : (Tryz.prog.underlying 182).isSome = true := by kernel_rfl
@[simp, go_sem] theorem tsz184 : tsz Tryz.prog 184 = some 1 := by kernel_rfl
@[simp, go_sem] theorem tby184 : tby Tryz.prog 184 = some 8 := by kernel_rfl
@[simp, go_sem] theorem tagg184 : tagg Tryz.prog 184 = some false := by kernel_rfl
@[simp, go_sem] theorem tzero184 : tzero Tryz.prog 184 = some [.dead] := by kernel_rfl
@[simp, go_sem] theorem tis184 : (Tryz.prog.underlying 184).isSome = true := by kernel_rfl
@[simp, go_sem] theorem tsz185 : tsz Tryz.prog 185 = some 1 := by kernel_rfl
@[simp, go_sem] theorem tby185 : tby Tryz.prog 185 = some 8 := by kernel_rfl
@[simp, go_sem] theorem tagg185 : tagg Tryz.prog 185 = some false := by kernel_rfl
@[simp, go_sem] theorem tzero185 : tzero Tryz.prog 185 = some [.int .u64 0] := by kernel_rfl
@[simp, go_sem] theorem tis185 : (Tryz.prog.underlying 185).isSome = true := by kernel_rfl
@[simp, go_sem] theorem tint185 : tint Tryz.prog 185 = some .u64 := by kernel_rfl
@[simp, go_sem] theorem tsz186 : tsz Tryz.prog 186 = some 1 := by kernel_rfl
@[simp, go_sem] theorem tby186 : tby Tryz.prog 186 = some 8 := by kernel_rfl
@[simp, go_sem] theorem tagg186 : tagg Tryz.prog 186 = some false := by kernel_rfl
@[simp, go_sem] theorem tzero186 : tzero Tryz.prog 186 = some [.dead] := by kernel_rfl
@[simp, go_sem] theorem tis186 : (Tryz.prog.underlying 186).isSome = true := by kernel_rfl
@[simp, go_sem] theorem tsz187 : tsz Tryz.prog 187 = some 1 := by kernel_rfl
@[simp, go_sem] theorem tby187 : tby Tryz.prog 187 = some 8 := by kernel_rfl
@[simp, go_sem] theorem tagg187 : tagg Tryz.prog 187 = some false := by kernel_rfl
@[simp, go_sem] theorem tzero187 : tzero Tryz.prog 187 = some [.dead] := by kernel_rfl
@[simp, go_sem] theorem tis187 : (Tryz.prog.underlying 187).isSome = true := by kernel_rfl
@[simp, go_sem] theorem tsz188 : tsz Tryz.prog 188 = some 1 := by kernel_rfl
@[simp, go_sem] theorem tby188 : tby Tryz.prog 188 = some 8 := by kernel_rfl
@[simp, go_sem] theorem tagg188 : tagg Tryz.prog 188 = some false := by kernel_rfl
@[simp, go_sem] theorem tzero188 : tzero Tryz.prog 188 = some [.dead] := by kernel_rfl
@[simp, go_sem] theorem tis188 : (Tryz.prog.underlying 188).isSome = true := by kernel_rfl
@[simp, go_sem] theorem tsz189 : tsz Tryz.prog 189 = some 1 := by kernel_rfl
@[simp, go_sem] theorem tby189 : tby Tryz.prog 189 = some 8 := by kernel_rfl
@[simp, go_sem] theorem tagg189 : tagg Tryz.prog 189 = some false := by kernel_rfl
@[simp, go_sem] theorem tzero189 : tzero Tryz.prog 189 = some [.nilp] := by kernel_rfl
@[simp, go_sem] theorem tis189 : (Tryz.prog.underlying 189).isSome = true := by kernel_rfl
@[simp, go_sem] theorem tsz190 : tsz Tryz.prog 190 = some 1 := by kernel_rfl
@[simp, go_sem] theorem tby190 : tby Tryz.prog 190 = some 8 := by kernel_rfl
@[simp, go_sem] theorem tagg190 : tagg Tryz.prog 190 = some false := by kernel_rfl
@[simp, go_sem] theorem tzero190 : tzero Tryz.prog 190 = some [.dead] := by kernel_rfl
@[simp, go_sem] theorem tis190 : (Tryz.prog.underlying 190).isSome = true := by kernel_rfl
@[simp, go_sem] theorem tsz191 : tsz Tryz.prog 191 = some 1 := by kernel_rfl
@[simp, go_sem] theorem tby191 : tby Tryz.prog 191 = some 8 := by kernel_rfl
@[simp, go_sem] theorem tagg191 : tagg Tryz.prog 191 = some false := by kernel_rfl
@[simp, go_sem] theorem tzero191 : tzero Tryz.prog 191 = some [.dead] := by kernel_rfl
@[simp, go_sem] theorem tis191 : (Tryz.prog.underlying 191).isSome = true := by kernel_rfl
@[simp, go_sem] theorem tsz192 : tsz Tryz.prog 192 = some 1 := by kernel_rfl
@[simp, go_sem] theorem tby192 : tby Tryz.prog 192 = some 8 := by kernel_rfl
@[simp, go_sem] theorem tagg192 : tagg Tryz.prog 192 = some false := by kernel_rfl
@[simp, go_sem] theorem tzero192 : tzero Tryz.prog 192 = some [.dead] := by kernel_rfl
@[simp, go_sem] theorem tis192 : (Tryz.prog.underlying 192).isSome = true := by kernel_rfl
@[simp, go_sem] theorem tsz193 : tsz Tryz.prog 193 = some 1 := by kernel_rfl
@[simp, go_sem] theorem tby193 : tby Tryz.prog 193 = some 8 := by kernel_rfl
@[simp, go_sem] theorem tagg193 : tagg Tryz.prog 193 = some false := by kernel_rfl
@[simp, go_sem] theorem tzero193 : tzero Tryz.prog 193 = some [.nilp] := by kernel_rfl
@[simp, go_sem] theorem tis193 : (Tryz.prog.underlying 193).isSome = true := by kernel_rfl
@[simp, go_sem] theorem tsz195 : tsz Tryz.prog 195 = some 1 := by kernel_rfl
@[simp, go_sem] theorem tby195 : tby Tryz.prog 195 = some 8 := by kernel_rfl
@[simp, go_sem] theorem tagg195 : tagg Tryz.prog 195 = some false := by kernel_rfl
@[simp, go_sem] theorem tzero195 : tzero Tryz.prog 195 = some [.dead] := by kernel_rfl
@[simp, go_sem] theorem tis195 : (Tryz.prog.underlying 195).isSome = true := by kernel_rfl
@[simp, go_sem] theorem tsz198 : tsz Tryz.prog 198 = some 1 := by kernel_rfl
@[simp, go_sem] theorem tby198 : tby Tryz.prog 198 = some 8 := by kernel_rfl
@[simp, go_sem] theorem tagg198 : tagg Tryz.prog 198 = some false := by kernel_rfl
@[simp, go_sem] theorem tzero198 : tzero Tryz.prog 198 = some [.nilp] := by kernel_rfl
@[simp, go_sem] theorem tis198 : (Tryz.prog.underlying 198).isSome = true := by kernel_rfl
@[simp, go_sem] theorem tsz199 : tsz Tryz.prog 199 = some 1 := by kernel_rfl
@[simp, go_sem] theorem tby199 : tby Tryz.prog 199 = some 8 := by kernel_rfl
@[simp, go_sem] theorem tagg199 : tagg Tryz.prog 199 = some false := by kernel_rfl
@[simp, go_sem] theorem tzero199 : tzero Tryz.prog 199 = some [.dead] := by kernel_rfl
@[simp, go_sem] theorem tis199 : (Tryz.prog.underlying 199).isSome = true := by kernel_rfl
@[simp, go_sem] theorem tsz200 : tsz Tryz.prog 200 = some 4 := by kernel_rfl
@[simp, go_sem] theorem tby200 : tby Tryz.prog 200 = some 40 := by kernel_rfl
@[simp, go_sem] theorem tagg200 : tagg Tryz.prog 200 = some true := by kernel_rfl
@[simp, go_sem] theorem tis200 : (Tryz.prog.underlying 200).isSome = true := by kernel_rfl
@[simp, go_sem] theorem tstruct200 : tstruct Tryz.prog 200 = true := by kernel_rfl
@[simp, go_sem] theorem tfld200f0 : tfld Tryz.prog 200 0 = some (0, 17) := by kernel_rfl
@[simp, go_sem] theorem tfld200f1 : tfld Tryz.prog 200 1 = some (1, 17) := by kernel_rfl
@[simp, go_sem] theorem tfld200f2 : tfld Tryz.prog 200 2 = some (2, 17) := by kernel_rfl
@[simp, go_sem] theorem tfld200f3 : tfld Tryz.prog 200 3 = some (3, 9) := by kernel_rfl
@[simp, go_sem] theorem tsz201 : tsz Tryz.prog 201 = some 4 := by kernel_rfl
@[simp, go_sem] theorem tby201 : tby Tryz.prog 201 = some 40 := by kernel_rfl
@[simp, go_sem] theorem tagg201 : tagg Tryz.prog 201 = some true := by kernel_rfl
@[simp, go_sem] theorem tis201 : (Tryz.prog.underlying 201).isSome = true := by kernel_rfl
@[simp, go_sem] theorem tstruct201 : tstruct Tryz.prog 201 = true := by kernel_rfl
@[simp, go_sem] theorem tfld201f0 : tfld Tryz.prog 201 0 = some (0, 17) := by kernel_rfl
@[simp, go_sem] theorem tfld201f1 : tfld Tryz.prog 201 1 = some (1, 17) := by kernel_rfl
@[simp, go_sem] theorem tfld201f2 : tfld Tryz.prog 201 2 = some (2, 17) := by kernel_rfl
@[simp, go_sem] theorem tfld201f3 : tfld Tryz.prog 201 3 = some (3, 9) := by kernel_rfl
@[simp, go_sem] theorem tsz203 : tsz Tryz.prog 203 = some 0 := by kernel_rfl
@[simp, go_sem] theorem tby203 : tby Tryz.prog 203 = some 0 := by kernel_rfl
@[simp, go_sem] theorem tagg203 : tagg Tryz.prog 203 = some true := by kernel_rfl
@[simp, go_sem] theorem tzero203 : tzero Tryz.prog 203 = some [] := by kernel_rfl
@[simp, go_sem] theorem tis203 : (Tryz.prog.underlying 203).isSome = true := by kernel_rfl
@[simp, go_sem] theorem tstruct203 : tstruct Tryz.prog 203 = true := by kernel_rfl
@[simp, go_sem] theorem tfld203f0 : tfld Tryz.prog 203 0 = some (0, 202) := by kernel_rfl
@[simp, go_sem] theorem tsz204 : tsz Tryz.prog 204 = some 0 := by kernel_rfl
@[simp, go_sem] theorem tby204 : tby Tryz.prog 204 = some 0 := by kernel_rfl
@[simp, go_sem] theorem tagg204 : tagg Tryz.prog 204 = some true := by kernel_rfl
@[simp, go_sem] theorem tzero204 : tzero Tryz.prog 204 = some [] := by kernel_rfl
@[simp, go_sem] theorem tis204 : (Tryz.prog.underlying 204).isSome = true := by kernel_rfl
@[simp, go_sem] theorem tstruct204 : tstruct Tryz.prog 204 = true := by kernel_rfl
@[simp, go_sem] theorem tfld204f0 : tfld Tryz.prog 204 0 = some (0, 202) := by kernel_rfl
@[simp, go_sem] theorem tsz205 : tsz Tryz.prog 205 = some 1 := by kernel_rfl
@[simp, go_sem] theorem tby205 : tby Tryz.prog 205 = some 1 := by kernel_rfl
@[simp, go_sem] theorem tagg205 : tagg Tryz.prog 205 = some false := by kernel_rfl
@[simp, go_sem] theorem tzero205 : tzero Tryz.prog 205 = some [.int .u8 0] := by kernel_rfl
@[simp, go_sem] theorem tis205 : (Tryz.prog.underlying 205).isSome = true := by kernel_rfl
@[simp, go_sem] theorem tint205 : tint Tryz.prog 205 = some .u8 := by kernel_rfl
@[simp, go_sem] theorem tsz206 : tsz Tryz.prog 206 = some 1 := by kernel_rfl
@[simp, go_sem] theorem tby206 : tby Tryz.prog 206 = some 1 := by kernel_rfl
@[simp, go_sem] theorem tagg206 : tagg Tryz.prog 206 = some false := by kernel_rfl
@[simp, go_sem] theorem tzero206 : tzero Tryz.prog 206 = some [.int .u8 0] := by kernel_rfl
@[simp, go_sem] theorem tis206 : (Tryz.prog.underlying 206).isSome = true := by kernel_rfl
@[simp, go_sem] theorem tint206 : tint Tryz.prog 206 = some .u8 := by kernel_rfl
@[simp, go_sem] theorem tsz207 : tsz Tryz.prog 207 = some 1 := by kernel_rfl
@[simp, go_sem] theorem tby207 : tby Tryz.prog 207 = some 8 := by kernel_rfl
@[simp, go_sem] theorem tagg207 : tagg Tryz.prog 207 = some false := by kernel_rfl
@[simp, go_sem] theorem tzero207 : tzero Tryz.prog 207 = some [.dead] := by kernel_rfl
@[simp, go_sem] theorem tis207 : (Tryz.prog.underlying 207).isSome = true := by kernel_rfl
@[simp, go_sem] theorem tsz208 : tsz Tryz.prog 208 = some 1 := by kernel_rfl
@[simp, go_sem] theorem tby208 : tby Tryz.prog 208 = some 8 := by kernel_rfl
@[simp, go_sem] theorem tagg208 : tagg Tryz.prog 208 = some false := by kernel_rfl
@[simp, go_sem] theorem tzero208 : tzero Tryz.prog 208 = some [.nilp] := by kernel_rfl
@[simp, go_sem] theorem tis208 : (Tryz.prog.underlying 208).isSome = true := by kernel_rfl
@[simp, go_sem] theorem tsz209 : tsz Tryz.prog 209 = some 1 := by kernel_rfl
@[simp, go_sem] theorem tby209 : tby Tryz.prog 209 = some 4 := by kernel_rfl
@[simp, go_sem] theorem tagg209 : tagg Tryz.prog 209 = some false := by kernel_rfl
@[simp, go_sem] theorem tzero209 : tzero Tryz.prog 209 = some [.int .i32 0] := by kernel_rfl
@[simp, go_sem] theorem tis209 : (Tryz.prog.underlying 209).isSome = true := by kernel_rfl
@[simp, go_sem] theorem tint209 : tint Tryz.prog 209 = some .i32 := by kernel_rfl
@[simp, go_sem] theorem tsz210 : tsz Tryz.prog 210 = some 1 := by kernel_rfl
@[simp, go_sem] theorem tby210 : tby Tryz.prog 210 = some 4 := by kernel_rfl
@[simp, go_sem] theorem tagg210 : tagg Tryz.prog 210 = some false := by kernel_rfl
@[simp, go_sem] theorem tzero210 : tzero Tryz.prog 210 = some [.int .i32 0] := by kernel_rfl
@[simp, go_sem] theorem tis210 : (Tryz.prog.underlying 210).isSome = true := by kernel_rfl
@[simp, go_sem] theorem tint210 : tint Tryz.prog 210 = some .i32 := by kernel_rfl
@[simp, go_sem] theorem tsz211 : tsz Tryz.prog 211 = some 11 := by kernel_rfl
@[simp, go_sem] theorem tby211 : tby Tryz.prog 211 = some 48 := by kernel_rfl
@[simp, go_sem] theorem tagg211 : tagg Tryz.prog 211 = some true := by kernel_rfl
@[simp, go_sem] theorem tis211 : (Tryz.prog.underlying 211).isSome = true := by kernel_rfl
@[simp, go_sem] theorem tstruct211 : tstruct Tryz.prog 211 = true := by kernel_rfl
@[simp, go_sem] theorem tfld211f0 : tfld Tryz.prog 211 0 = some (0, 12) := by kernel_rfl
@[simp, go_sem] theorem tfld211f1 : tfld Tryz.prog 211 1 = some (1, 12) := by kernel_rfl
@[simp, go_sem] theorem tfld211f2 : tfld Tryz.prog 211 2 = some (2, 174) := by kernel_rfl
@[simp, go_sem] theorem tfld211f3 : tfld Tryz.prog 211 3 = some (3, 205) := by kernel_rfl
@[simp, go_sem] theorem tfld211f4 : tfld Tryz.prog 211 4 = some (4, 5) := by kernel_rfl
@[simp, go_sem] theorem tfld211f5 : tfld Tryz.prog 211 5 = some (5, 5) := by kernel_rfl
@[simp, go_sem] theorem tfld211f6 : tfld Tryz.prog 211 6 = some (6, 206) := by kernel_rfl
@[simp, go_sem] theorem tfld211f7 : tfld Tryz.prog 211 7 = some (7, 207) := by kernel_rfl
@[simp, go_sem] theorem tfld211f8 : tfld Tryz.prog 211 8 = some (8, 208) := by kernel_rfl
@[simp, go_sem] theorem tfld211f9 : tfld Tryz.prog 211 9 = some (9, 209) := by kernel_rfl
@[simp, go_sem] theorem tfld211f10 : tfld Tryz.prog 211 10 = some (10, 210) := by kernel_rfl
@[simp, go_sem] theorem tsz212 : tsz Tryz.prog 212 = some 11 := by kernel_rfl
@[simp, go_sem] theorem tby212 : tby Tryz.prog 212 = some 48 := by kernel_rfl
@[simp, go_sem] theorem tagg212 : tagg Tryz.prog 212 = some true := by kernel_rfl
@[simp, go_sem] theorem tis212 : (Tryz.prog.underlying 212).isSome = true := by kernel_rfl
@[simp, go_sem] theorem tstruct212 : tstruct Tryz.prog 212 = true := by kernel_rfl
@[simp, go_sem] theorem tfld212f0 : tfld Tryz.prog 212 0 = some (0, 12) := by kernel_rfl
@[simp, go_sem] theorem tfld212f1 : tfld Tryz.prog 212 1 = some (1, 12) := by kernel_rfl
@[simp, go_sem] theorem tfld212f2 : tfld Tryz.prog 212 2 = some (2, 174) := by kernel_rfl
@[simp, go_sem] theorem tfld212f3 : tfld Tryz.prog 212 3 = some (3, 205) := by kernel_rfl
@[simp, go_sem] theorem tfld212f4 : tfld Tryz.prog 212 4 = some (4, 5) := by kernel_rfl
@[simp, go_sem] theorem tfld212f5 : tfld Tryz.prog 212 5 = some (5, 5) := by kernel_rfl
@[simp, go_sem] theorem tfld212f6 : tfld Tryz.prog 212 6 = some (6, 206) := by kernel_rfl
@[simp, go_sem] theorem tfld212f7 : tfld Tryz.prog 212 7 = some (7, 207) := by kernel_rfl
@[simp, go_sem] theorem tfld212f8 : tfld Tryz.prog 212 8 = some (8, 208) := by kernel_rfl
@[simp, go_sem] theorem tfld212f9 : tfld Tryz.prog 212 9 = some (9, 209) := by kernel_rfl
@[simp, go_sem] theorem tfld212f10 : tfld Tryz.prog 212 10 = some (10, 210) := by kernel_rfl
@[simp, go_sem] theorem tsz213 : tsz Tryz.prog 213 = some 1 := by kernel_rfl
@[simp, go_sem] theorem tby213 : tby Tryz.prog 213 = some 16 := by kernel_rfl
@[simp, go_sem] theorem tagg213 : tagg Tryz.prog 213 = some true := by kernel_rfl
@[simp, go_sem] theorem tzero213 : tzero Tryz.prog 213 = some [.str ⟨#[]⟩] := by kernel_rfl
@[simp, go_sem] theorem tis213 : (Tryz.prog.underlying 213).isSome = true := by kernel_rfl
@[simp, go_sem] theorem tstruct213 : tstruct Tryz.prog 213 = true := by kernel_rfl
@[simp, go_sem] theorem tfld213f0 : tfld Tryz.prog 213 0 = some (0, 9) := by kernel_rfl
@[simp, go_sem] theorem tsz214 : tsz Tryz.prog 214 = some 1 := by kernel_rfl
@[simp, go_sem] theorem tby214 : tby Tryz.prog 214 = some 16 := by kernel_rfl
@[simp, go_sem] theorem tagg214 : tagg Tryz.prog 214 = some true := by kernel_rfl
@[simp, go_sem] theorem tzero214 : tzero Tryz.prog 214 = some [.str ⟨#[]⟩] := by kernel_rfl
@[simp, go_sem] theorem tis214 : (Tryz.prog.underlying 214).isSome = true := by kernel_rfl
@[simp, go_sem] theorem tstruct214 : tstruct Tryz.prog 214 = true := by kernel_rfl
@[simp, go_sem] theorem tfld214f0 : tfld Tryz.prog 214 0 = some (0, 9) := by kernel_rfl
end Go.Proofs.YteegphdelekdaaaGreat
