/- The functions' plans and rules; written by wip/gen/gen_fn.py. -/
import Derived.Test.YteegphdelekdaaaTy
import Derived.Test.YteegphdelekdaaaAbs3
set_option maxRecDepth 100000
namespace Go.Proofs.Yteegphdelekdaaa
open Go.Abs
def pl2 : Plans := []
theorem fit2 : fits Try.prog 1 pl2 (Try.f2.body.getD .skip) = true := by kernel_rfl
theorem call2 {args : List AV} {H : Heap} {K : AV → Heap → Prop} (ha : args.length ≤ 1) (h : cwp Try.prog 1 pl2 (Try.f2.body.getD .skip) (retQ Try.prog Try.f2.results.toList K) (env0 args) H) : ACall Try.prog 2 args H K :=
  ACall.of_code (pl := pl2) Try.func2 rfl rfl fit2 ha h
def pl3 : Plans := [(10, .take 0 (.take 1 (.eff 2 [1] [0] (.eff 3 [0, 2, 1] [] (.take 4 (.done)) (.no)) (.no))))]
theorem fit3 : fits Try.prog 48 pl3 (Try.f3.body.getD .skip) = true := by kernel_rfl
theorem call3 {args : List AV} {H : Heap} {K : AV → Heap → Prop} (ha : args.length ≤ 48) (h : cwp Try.prog 48 pl3 (Try.f3.body.getD .skip) (retQ Try.prog Try.f3.results.toList K) (env0 args) H) : ACall Try.prog 3 args H K :=
  ACall.of_code (pl := pl3) Try.func3 rfl rfl fit3 ha h
def pl4 : Plans := [(10, .take 0 (.take 1 (.eff 2 [1] [0] (.eff 3 [0, 2, 1] [] (.take 4 (.done)) (.no)) (.no))))]
theorem fit4 : fits Try.prog 138 pl4 (Try.f4.body.getD .skip) = true := by kernel_rfl
theorem call4 {args : List AV} {H : Heap} {K : AV → Heap → Prop} (ha : args.length ≤ 138) (h : cwp Try.prog 138 pl4 (Try.f4.body.getD .skip) (retQ Try.prog Try.f4.results.toList K) (env0 args) H) : ACall Try.prog 4 args H K :=
  ACall.of_code (pl := pl4) Try.func4 rfl rfl fit4 ha h
def pl5 : Plans := []
theorem fit5 : fits Try.prog 18 pl5 (Try.f5.body.getD .skip) = true := by kernel_rfl
theorem call5 {args : List AV} {H : Heap} {K : AV → Heap → Prop} (ha : args.length ≤ 18) (h : cwp Try.prog 18 pl5 (Try.f5.body.getD .skip) (retQ Try.prog Try.f5.results.toList K) (env0 args) H) : ACall Try.prog 5 args H K :=
  ACall.of_code (pl := pl5) Try.func5 rfl rfl fit5 ha h
def pl6 : Plans := []
theorem fit6 : fits Try.prog 50 pl6 (Try.f6.body.getD .skip) = true := by kernel_rfl
theorem call6 {args : List AV} {H : Heap} {K : AV → Heap → Prop} (ha : args.length ≤ 50) (h : cwp Try.prog 50 pl6 (Try.f6.body.getD .skip) (retQ Try.prog Try.f6.results.toList K) (env0 args) H) : ACall Try.prog 6 args H K :=
  ACall.of_code (pl := pl6) Try.func6 rfl rfl fit6 ha h
def pl7 : Plans := []
theorem fit7 : fits Try.prog 19 pl7 (Try.f7.body.getD .skip) = true := by kernel_rfl
theorem call7 {args : List AV} {H : Heap} {K : AV → Heap → Prop} (ha : args.length ≤ 19) (h : cwp Try.prog 19 pl7 (Try.f7.body.getD .skip) (retQ Try.prog Try.f7.results.toList K) (env0 args) H) : ACall Try.prog 7 args H K :=
  ACall.of_code (pl := pl7) Try.func7 rfl rfl fit7 ha h
def pl8 : Plans := []
theorem fit8 : fits Try.prog 54 pl8 (Try.f8.body.getD .skip) = true := by kernel_rfl
theorem call8 {args : List AV} {H : Heap} {K : AV → Heap → Prop} (ha : args.length ≤ 54) (h : cwp Try.prog 54 pl8 (Try.f8.body.getD .skip) (retQ Try.prog Try.f8.results.toList K) (env0 args) H) : ACall Try.prog 8 args H K :=
  ACall.of_code (pl := pl8) Try.func8 rfl rfl fit8 ha h
def pl9 : Plans := []
theorem fit9 : fits Try.prog 27 pl9 (Try.f9.body.getD .skip) = true := by kernel_rfl
theorem call9 {args : List AV} {H : Heap} {K : AV → Heap → Prop} (ha : args.length ≤ 27) (h : cwp Try.prog 27 pl9 (Try.f9.body.getD .skip) (retQ Try.prog Try.f9.results.toList K) (env0 args) H) : ACall Try.prog 9 args H K :=
  ACall.of_code (pl := pl9) Try.func9 rfl rfl fit9 ha h
def pl10 : Plans := []
theorem fit10 : fits Try.prog 63 pl10 (Try.f10.body.getD .skip) = true := by kernel_rfl
theorem call10 {args : List AV} {H : Heap} {K : AV → Heap → Prop} (ha : args.length ≤ 63) (h : cwp Try.prog 63 pl10 (Try.f10.body.getD .skip) (retQ Try.prog Try.f10.results.toList K) (env0 args) H) : ACall Try.prog 10 args H K :=
  ACall.of_code (pl := pl10) Try.func10 rfl rfl fit10 ha h
def pl11 : Plans := [(8, .take 0 (.take 1 (.take 2 (.take 5 (.take 6 (.take 7 (.eff 3 [2, 1] [0, 5, 6, 7] (.eff 4 [0, 3, 2, 1] [5, 6, 7] (.eff 8 [7, 6] [0, 1, 2, 5] (.eff 9 [5, 8, 4, 7, 0, 3, 6, 2, 1] [] (.eff 10 [4, 9, 0, 1, 2, 3, 5, 8, 7, 6] [] (.eff 11 [9, 10, 0, 1, 2, 3, 4, 5, 6, 7, 8] [] (.done) (.no)) (.no)) (.no)) (.no)) (.eff 8 [7, 6] [0, 1, 2, 5] (.eff 4 [0, 3, 2, 1] [5, 6, 7] (.eff 9 [5, 8, 4, 7, 0, 3, 6, 2, 1] [] (.eff 10 [4, 9, 0, 1, 2, 3, 5, 8, 7, 6] [] (.eff 11 [9, 10, 0, 1, 2, 3, 4, 5, 6, 7, 8] [] (.done) (.no)) (.no)) (.no)) (.no)) (.no))) (.eff 8 [7, 6] [0, 1, 2, 5] (.eff 3 [2, 1] [0, 5, 6, 7] (.eff 4 [0, 3, 2, 1] [5, 6, 7] (.eff 9 [5, 8, 4, 7, 0, 3, 6, 2, 1] [] (.eff 10 [4, 9, 0, 1, 2, 3, 5, 8, 7, 6] [] (.eff 11 [9, 10, 0, 1, 2, 3, 4, 5, 6, 7, 8] [] (.done) (.no)) (.no)) (.no)) (.no)) (.no)) (.no)))))))))]
theorem fit11 : fits Try.prog 53 pl11 (Try.f11.body.getD .skip) = true := by kernel_rfl
theorem call11 {args : List AV} {H : Heap} {K : AV → Heap → Prop} (ha : args.length ≤ 53) (h : cwp Try.prog 53 pl11 (Try.f11.body.getD .skip) (retQ Try.prog Try.f11.results.toList K) (env0 args) H) : ACall Try.prog 11 args H K :=
  ACall.of_code (pl := pl11) Try.func11 rfl rfl fit11 ha h
def pl12 : Plans := [(6, .take 0 (.take 1 (.take 2 (.take 3 (.take 4 (.take 5 (.take 6 (.take 7 (.take 8 (.done))))))))))]
theorem fit12 : fits Try.prog 26 pl12 (Try.f12.body.getD .skip) = true := by kernel_rfl
theorem call12 {args : List AV} {H : Heap} {K : AV → Heap → Prop} (ha : args.length ≤ 26) (h : cwp Try.prog 26 pl12 (Try.f12.body.getD .skip) (retQ Try.prog Try.f12.results.toList K) (env0 args) H) : ACall Try.prog 12 args H K :=
  ACall.of_code (pl := pl12) Try.func12 rfl rfl fit12 ha h
def pl13 : Plans := []
theorem fit13 : fits Try.prog 14 pl13 (Try.f13.body.getD .skip) = true := by kernel_rfl
theorem call13 {args : List AV} {H : Heap} {K : AV → Heap → Prop} (ha : args.length ≤ 14) (h : cwp Try.prog 14 pl13 (Try.f13.body.getD .skip) (retQ Try.prog Try.f13.results.toList K) (env0 args) H) : ACall Try.prog 13 args H K :=
  ACall.of_code (pl := pl13) Try.func13 rfl rfl fit13 ha h
def pl14 : Plans := []
theorem fit14 : fits Try.prog 19 pl14 (Try.f14.body.getD .skip) = true := by kernel_rfl
theorem call14 {args : List AV} {H : Heap} {K : AV → Heap → Prop} (ha : args.length ≤ 19) (h : cwp Try.prog 19 pl14 (Try.f14.body.getD .skip) (retQ Try.prog Try.f14.results.toList K) (env0 args) H) : ACall Try.prog 14 args H K :=
  ACall.of_code (pl := pl14) Try.func14 rfl rfl fit14 ha h
def pl15 : Plans := []
theorem fit15 : fits Try.prog 21 pl15 (Try.f15.body.getD .skip) = true := by kernel_rfl
theorem call15 {args : List AV} {H : Heap} {K : AV → Heap → Prop} (ha : args.length ≤ 21) (h : cwp Try.prog 21 pl15 (Try.f15.body.getD .skip) (retQ Try.prog Try.f15.results.toList K) (env0 args) H) : ACall Try.prog 15 args H K :=
  ACall.of_code (pl := pl15) Try.func15 rfl rfl fit15 ha h
def pl16 : Plans := []
theorem fit16 : fits Try.prog 12 pl16 (Try.f16.body.getD .skip) = true := by kernel_rfl
theorem call16 {args : List AV} {H : Heap} {K : AV → Heap → Prop} (ha : args.length ≤ 12) (h : cwp Try.prog 12 pl16 (Try.f16.body.getD .skip) (retQ Try.prog Try.f16.results.toList K) (env0 args) H) : ACall Try.prog 16 args H K :=
  ACall.of_code (pl := pl16) Try.func16 rfl rfl fit16 ha h
def pl17 : Plans := []
theorem fit17 : fits Try.prog 27 pl17 (Try.f17.body.getD .skip) = true := by kernel_rfl
theorem call17 {args : List AV} {H : Heap} {K : AV → Heap → Prop} (ha : args.length ≤ 27) (h : cwp Try.prog 27 pl17 (Try.f17.body.getD .skip) (retQ Try.prog Try.f17.results.toList K) (env0 args) H) : ACall Try.prog 17 args H K :=
  ACall.of_code (pl := pl17) Try.func17 rfl rfl fit17 ha h
def pl18 : Plans := []
theorem fit18 : fits Try.prog 17 pl18 (Try.f18.body.getD .skip) = true := by kernel_rfl
theorem call18 {args : List AV} {H : Heap} {K : AV → Heap → Prop} (ha : args.length ≤ 17) (h : cwp Try.prog 17 pl18 (Try.f18.body.getD .skip) (retQ Try.prog Try.f18.results.toList K) (env0 args) H) : ACall Try.prog 18 args H K :=
  ACall.of_code (pl := pl18) Try.func18 rfl rfl fit18 ha h
def pl19 : Plans := []
theorem fit19 : fits Try.prog 23 pl19 (Try.f19.body.getD .skip) = true := by kernel_rfl
theorem call19 {args : List AV} {H : Heap} {K : AV → Heap → Prop} (ha : args.length ≤ 23) (h : cwp Try.prog 23 pl19 (Try.f19.body.getD .skip) (retQ Try.prog Try.f19.results.toList K) (env0 args) H) : ACall Try.prog 19 args H K :=
  ACall.of_code (pl := pl19) Try.func19 rfl rfl fit19 ha h
def pl20 : Plans := []
theorem fit20 : fits Try.prog 23 pl20 (Try.f20.body.getD .skip) = true := by kernel_rfl
theorem call20 {args : List AV} {H : Heap} {K : AV → Heap → Prop} (ha : args.length ≤ 23) (h : cwp Try.prog 23 pl20 (Try.f20.body.getD .skip) (retQ Try.prog Try.f20.results.toList K) (env0 args) H) : ACall Try.prog 20 args H K :=
  ACall.of_code (pl := pl20) Try.func20 rfl rfl fit20 ha h
def pl21 : Plans := []
theorem fit21 : fits Try.prog 8 pl21 (Try.f21.body.getD .skip) = true := by kernel_rfl
theorem call21 {args : List AV} {H : Heap} {K : AV → Heap → Prop} (ha : args.length ≤ 8) (h : cwp Try.prog 8 pl21 (Try.f21.body.getD .skip) (retQ Try.prog Try.f21.results.toList K) (env0 args) H) : ACall Try.prog 21 args H K :=
  ACall.of_code (pl := pl21) Try.func21 rfl rfl fit21 ha h
def pl22 : Plans := []
theorem fit22 : fits Try.prog 9 pl22 (Try.f22.body.getD .skip) = true := by kernel_rfl
theorem call22 {args : List AV} {H : Heap} {K : AV → Heap → Prop} (ha : args.length ≤ 9) (h : cwp Try.prog 9 pl22 (Try.f22.body.getD .skip) (retQ Try.prog Try.f22.results.toList K) (env0 args) H) : ACall Try.prog 22 args H K :=
  ACall.of_code (pl := pl22) Try.func22 rfl rfl fit22 ha h
def pl23 : Plans := []
theorem fit23 : fits Try.prog 7 pl23 (Try.f23.body.getD .skip) = true := by kernel_rfl
theorem call23 {args : List AV} {H : Heap} {K : AV → Heap → Prop} (ha : args.length ≤ 7) (h : cwp Try.prog 7 pl23 (Try.f23.body.getD .skip) (retQ Try.prog Try.f23.results.toList K) (env0 args) H) : ACall Try.prog 23 args H K :=
  ACall.of_code (pl := pl23) Try.func23 rfl rfl fit23 ha h
def pl24 : Plans := []
theorem fit24 : fits Try.prog 9 pl24 (Try.f24.body.getD .skip) = true := by kernel_rfl
theorem call24 {args : List AV} {H : Heap} {K : AV → Heap → Prop} (ha : args.length ≤ 9) (h : cwp Try.prog 9 pl24 (Try.f24.body.getD .skip) (retQ Try.prog Try.f24.results.toList K) (env0 args) H) : ACall Try.prog 24 args H K :=
  ACall.of_code (pl := pl24) Try.func24 rfl rfl fit24 ha h
def pl25 : Plans := [(6, .take 0 (.take 1 (.take 2 (.take 3 (.take 4 (.take 5 (.take 6 (.take 7 (.eff 8 [3, 7, 2, 6, 0, 1, 4, 5] [] (.take 9 (.done)) (.no))))))))))]
theorem fit25 : fits Try.prog 27 pl25 (Try.f25.body.getD .skip) = true := by kernel_rfl
theorem call25 {args : List AV} {H : Heap} {K : AV → Heap → Prop} (ha : args.length ≤ 27) (h : cwp Try.prog 27 pl25 (Try.f25.body.getD .skip) (retQ Try.prog Try.f25.results.toList K) (env0 args) H) : ACall Try.prog 25 args H K :=
  ACall.of_code (pl := pl25) Try.func25 rfl rfl fit25 ha h
def pl26 : Plans := [(6, .take 0 (.take 1 (.take 2 (.take 3 (.take 4 (.take 5 (.take 6 (.take 7 (.eff 8 [3, 7, 2, 6, 0, 1, 4, 5] [] (.take 9 (.done)) (.no))))))))))]
theorem fit26 : fits Try.prog 27 pl26 (Try.f26.body.getD .skip) = true := by kernel_rfl
theorem call26 {args : List AV} {H : Heap} {K : AV → Heap → Prop} (ha : args.length ≤ 27) (h : cwp Try.prog 27 pl26 (Try.f26.body.getD .skip) (retQ Try.prog Try.f26.results.toList K) (env0 args) H) : ACall Try.prog 26 args H K :=
  ACall.of_code (pl := pl26) Try.func26 rfl rfl fit26 ha h
def pl27 : Plans := []
theorem fit27 : fits Try.prog 29 pl27 (Try.f27.body.getD .skip) = true := by kernel_rfl
theorem call27 {args : List AV} {H : Heap} {K : AV → Heap → Prop} (ha : args.length ≤ 29) (h : cwp Try.prog 29 pl27 (Try.f27.body.getD .skip) (retQ Try.prog Try.f27.results.toList K) (env0 args) H) : ACall Try.prog 27 args H K :=
  ACall.of_code (pl := pl27) Try.func27 rfl rfl fit27 ha h
def pl28 : Plans := []
theorem fit28 : fits Try.prog 15 pl28 (Try.f28.body.getD .skip) = true := by kernel_rfl
theorem call28 {args : List AV} {H : Heap} {K : AV → Heap → Prop} (ha : args.length ≤ 15) (h : cwp Try.prog 15 pl28 (Try.f28.body.getD .skip) (retQ Try.prog Try.f28.results.toList K) (env0 args) H) : ACall Try.prog 28 args H K :=
  ACall.of_code (pl := pl28) Try.func28 rfl rfl fit28 ha h
def pl29 : Plans := []
theorem fit29 : fits Try.prog 22 pl29 (Try.f29.body.getD .skip) = true := by kernel_rfl
theorem call29 {args : List AV} {H : Heap} {K : AV → Heap → Prop} (ha : args.length ≤ 22) (h : cwp Try.prog 22 pl29 (Try.f29.body.getD .skip) (retQ Try.prog Try.f29.results.toList K) (env0 args) H) : ACall Try.prog 29 args H K :=
  ACall.of_code (pl := pl29) Try.func29 rfl rfl fit29 ha h
def pl30 : Plans := []
theorem fit30 : fits Try.prog 48 pl30 (Try.f30.body.getD .skip) = true := by kernel_rfl
theorem call30 {args : List AV} {H : Heap} {K : AV → Heap → Prop} (ha : args.length ≤ 48) (h : cwp Try.prog 48 pl30 (Try.f30.body.getD .skip) (retQ Try.prog Try.f30.results.toList K) (env0 args) H) : ACall Try.prog 30 args H K :=
  ACall.of_code (pl := pl30) Try.func30 rfl rfl fit30 ha h
def pl31 : Plans := []
theorem fit31 : fits Try.prog 37 pl31 (Try.f31.body.getD .skip) = true := by kernel_rfl
theorem call31 {args : List AV} {H : Heap} {K : AV → Heap → Prop} (ha : args.length ≤ 37) (h : cwp Try.prog 37 pl31 (Try.f31.body.getD .skip) (retQ Try.prog Try.f31.results.toList K) (env0 args) H) : ACall Try.prog 31 args H K :=
  ACall.of_code (pl := pl31) Try.func31 rfl rfl fit31 ha h
def pl32 : Plans := []
theorem fit32 : fits Try.prog 14 pl32 (Try.f32.body.getD .skip) = true := by kernel_rfl
theorem call32 {args : List AV} {H : Heap} {K : AV → Heap → Prop} (ha : args.length ≤ 14) (h : cwp Try.prog 14 pl32 (Try.f32.body.getD .skip) (retQ Try.prog Try.f32.results.toList K) (env0 args) H) : ACall Try.prog 32 args H K :=
  ACall.of_code (pl := pl32) Try.func32 rfl rfl fit32 ha h
def pl33 : Plans := []
theorem fit33 : fits Try.prog 27 pl33 (Try.f33.body.getD .skip) = true := by kernel_rfl
theorem call33 {args : List AV} {H : Heap} {K : AV → Heap → Prop} (ha : args.length ≤ 27) (h : cwp Try.prog 27 pl33 (Try.f33.body.getD .skip) (retQ Try.prog Try.f33.results.toList K) (env0 args) H) : ACall Try.prog 33 args H K :=
  ACall.of_code (pl := pl33) Try.func33 rfl rfl fit33 ha h
def pl34 : Plans := []
theorem fit34 : fits Try.prog 11 pl34 (Try.f34.body.getD .skip) = true := by kernel_rfl
theorem call34 {args : List AV} {H : Heap} {K : AV → Heap → Prop} (ha : args.length ≤ 11) (h : cwp Try.prog 11 pl34 (Try.f34.body.getD .skip) (retQ Try.prog Try.f34.results.toList K) (env0 args) H) : ACall Try.prog 34 args H K :=
  ACall.of_code (pl := pl34) Try.func34 rfl rfl fit34 ha h
def pl35 : Plans := [(6, .take 0 (.take 1 (.take 2 (.take 3 (.take 4 (.take 5 (.take 6 (.take 7 (.take 8 (.take 9 (.done))))))))))), (11, .take 0 (.take 1 (.take 2 (.take 3 (.take 4 (.take 5 (.take 6 (.take 7 (.take 8 (.take 9 (.done)))))))))))]
theorem fit35 : fits Try.prog 61 pl35 (Try.f35.body.getD .skip) = true := by kernel_rfl
theorem call35 {args : List AV} {H : Heap} {K : AV → Heap → Prop} (ha : args.length ≤ 61) (h : cwp Try.prog 61 pl35 (Try.f35.body.getD .skip) (retQ Try.prog Try.f35.results.toList K) (env0 args) H) : ACall Try.prog 35 args H K :=
  ACall.of_code (pl := pl35) Try.func35 rfl rfl fit35 ha h
def pl36 : Plans := []
theorem fit36 : fits Try.prog 28 pl36 (Try.f36.body.getD .skip) = true := by kernel_rfl
theorem call36 {args : List AV} {H : Heap} {K : AV → Heap → Prop} (ha : args.length ≤ 28) (h : cwp Try.prog 28 pl36 (Try.f36.body.getD .skip) (retQ Try.prog Try.f36.results.toList K) (env0 args) H) : ACall Try.prog 36 args H K :=
  ACall.of_code (pl := pl36) Try.func36 rfl rfl fit36 ha h
def pl37 : Plans := []
theorem fit37 : fits Try.prog 27 pl37 (Try.f37.body.getD .skip) = true := by kernel_rfl
theorem call37 {args : List AV} {H : Heap} {K : AV → Heap → Prop} (ha : args.length ≤ 27) (h : cwp Try.prog 27 pl37 (Try.f37.body.getD .skip) (retQ Try.prog Try.f37.results.toList K) (env0 args) H) : ACall Try.prog 37 args H K :=
  ACall.of_code (pl := pl37) Try.func37 rfl rfl fit37 ha h
def pl38 : Plans := []
theorem fit38 : fits Try.prog 18 pl38 (Try.f38.body.getD .skip) = true := by kernel_rfl
theorem call38 {args : List AV} {H : Heap} {K : AV → Heap → Prop} (ha : args.length ≤ 18) (h : cwp Try.prog 18 pl38 (Try.f38.body.getD .skip) (retQ Try.prog Try.f38.results.toList K) (env0 args) H) : ACall Try.prog 38 args H K :=
  ACall.of_code (pl := pl38) Try.func38 rfl rfl fit38 ha h
def pl39 : Plans := []
theorem fit39 : fits Try.prog 17 pl39 (Try.f39.body.getD .skip) = true := by kernel_rfl
theorem call39 {args : List AV} {H : Heap} {K : AV → Heap → Prop} (ha : args.length ≤ 17) (h : cwp Try.prog 17 pl39 (Try.f39.body.getD .skip) (retQ Try.prog Try.f39.results.toList K) (env0 args) H) : ACall Try.prog 39 args H K :=
  ACall.of_code (pl := pl39) Try.func39 rfl rfl fit39 ha h
def pl40 : Plans := []
theorem fit40 : fits Try.prog 11 pl40 (Try.f40.body.getD .skip) = true := by kernel_rfl
theorem call40 {args : List AV} {H : Heap} {K : AV → Heap → Prop} (ha : args.length ≤ 11) (h : cwp Try.prog 11 pl40 (Try.f40.body.getD .skip) (retQ Try.prog Try.f40.results.toList K) (env0 args) H) : ACall Try.prog 40 args H K :=
  ACall.of_code (pl := pl40) Try.func40 rfl rfl fit40 ha h
def pl41 : Plans := []
theorem fit41 : fits Try.prog 13 pl41 (Try.f41.body.getD .skip) = true := by kernel_rfl
theorem call41 {args : List AV} {H : Heap} {K : AV → Heap → Prop} (ha : args.length ≤ 13) (h : cwp Try.prog 13 pl41 (Try.f41.body.getD .skip) (retQ Try.prog Try.f41.results.toList K) (env0 args) H) : ACall Try.prog 41 args H K :=
  ACall.of_code (pl := pl41) Try.func41 rfl rfl fit41 ha h
def pl42 : Plans := []
theorem fit42 : fits Try.prog 19 pl42 (Try.f42.body.getD .skip) = true := by kernel_rfl
theorem call42 {args : List AV} {H : Heap} {K : AV → Heap → Prop} (ha : args.length ≤ 19) (h : cwp Try.prog 19 pl42 (Try.f42.body.getD .skip) (retQ Try.prog Try.f42.results.toList K) (env0 args) H) : ACall Try.prog 42 args H K :=
  ACall.of_code (pl := pl42) Try.func42 rfl rfl fit42 ha h
def pl43 : Plans := []
theorem fit43 : fits Try.prog 19 pl43 (Try.f43.body.getD .skip) = true := by kernel_rfl
theorem call43 {args : List AV} {H : Heap} {K : AV → Heap → Prop} (ha : args.length ≤ 19) (h : cwp Try.prog 19 pl43 (Try.f43.body.getD .skip) (retQ Try.prog Try.f43.results.toList K) (env0 args) H) : ACall Try.prog 43 args H K :=
  ACall.of_code (pl := pl43) Try.func43 rfl rfl fit43 ha h
def pl44 : Plans := []
theorem fit44 : fits Try.prog 15 pl44 (Try.f44.body.getD .skip) = true := by kernel_rfl
theorem call44 {args : List AV} {H : Heap} {K : AV → Heap → Prop} (ha : args.length ≤ 15) (h : cwp Try.prog 15 pl44 (Try.f44.body.getD .skip) (retQ Try.prog Try.f44.results.toList K) (env0 args) H) : ACall Try.prog 44 args H K :=
  ACall.of_code (pl := pl44) Try.func44 rfl rfl fit44 ha h
def pl45 : Plans := []
theorem fit45 : fits Try.prog 17 pl45 (Try.f45.body.getD .skip) = true := by kernel_rfl
theorem call45 {args : List AV} {H : Heap} {K : AV → Heap → Prop} (ha : args.length ≤ 17) (h : cwp Try.prog 17 pl45 (Try.f45.body.getD .skip) (retQ Try.prog Try.f45.results.toList K) (env0 args) H) : ACall Try.prog 45 args H K :=
  ACall.of_code (pl := pl45) Try.func45 rfl rfl fit45 ha h
def pl46 : Plans := []
theorem fit46 : fits Try.prog 12 pl46 (Try.f46.body.getD .skip) = true := by kernel_rfl
theorem call46 {args : List AV} {H : Heap} {K : AV → Heap → Prop} (ha : args.length ≤ 12) (h : cwp Try.prog 12 pl46 (Try.f46.body.getD .skip) (retQ Try.prog Try.f46.results.toList K) (env0 args) H) : ACall Try.prog 46 args H K :=
  ACall.of_code (pl := pl46) Try.func46 rfl rfl fit46 ha h
def pl47 : Plans := [(6, .take 0 (.take 1 (.take 2 (.take 3 (.take 4 (.eff 5 [1, 4, 0, 3, 2] [] (.take 6 (.take 7 (.take 8 (.take 9 (.take 10 (.take 11 (.take 12 (.take 13 (.take 14 (.take 15 (.take 16 (.take 17 (.take 18 (.take 19 (.take 20 (.take 21 (.take 22 (.take 23 (.take 24 (.take 25 (.take 26 (.take 27 (.take 28 (.take 29 (.eff 30 [25, 27, 29, 23, 24, 26, 28, 22, 10, 7, 21, 9, 6, 5, 20, 8, 1, 4, 17, 19, 0, 3, 16, 18, 2, 15, 12, 14, 11, 13] [] (.take 31 (.take 32 (.done))) (.no)))))))))))))))))))))))))) (.no)))))))]
theorem fit47 : fits Try.prog 62 pl47 (Try.f47.body.getD .skip) = true := by kernel_rfl
theorem call47 {args : List AV} {H : Heap} {K : AV → Heap → Prop} (ha : args.length ≤ 62) (h : cwp Try.prog 62 pl47 (Try.f47.body.getD .skip) (retQ Try.prog Try.f47.results.toList K) (env0 args) H) : ACall Try.prog 47 args H K :=
  ACall.of_code (pl := pl47) Try.func47 rfl rfl fit47 ha h
def pl48 : Plans := []
theorem fit48 : fits Try.prog 9 pl48 (Try.f48.body.getD .skip) = true := by kernel_rfl
theorem call48 {args : List AV} {H : Heap} {K : AV → Heap → Prop} (ha : args.length ≤ 9) (h : cwp Try.prog 9 pl48 (Try.f48.body.getD .skip) (retQ Try.prog Try.f48.results.toList K) (env0 args) H) : ACall Try.prog 48 args H K :=
  ACall.of_code (pl := pl48) Try.func48 rfl rfl fit48 ha h
def pl49 : Plans := []
theorem fit49 : fits Try.prog 9 pl49 (Try.f49.body.getD .skip) = true := by kernel_rfl
theorem call49 {args : List AV} {H : Heap} {K : AV → Heap → Prop} (ha : args.length ≤ 9) (h : cwp Try.prog 9 pl49 (Try.f49.body.getD .skip) (retQ Try.prog Try.f49.results.toList K) (env0 args) H) : ACall Try.prog 49 args H K :=
  ACall.of_code (pl := pl49) Try.func49 rfl rfl fit49 ha h
def pl50 : Plans := []
theorem fit50 : fits Try.prog 11 pl50 (Try.f50.body.getD .skip) = true := by kernel_rfl
theorem call50 {args : List AV} {H : Heap} {K : AV → Heap → Prop} (ha : args.length ≤ 11) (h : cwp Try.prog 11 pl50 (Try.f50.body.getD .skip) (retQ Try.prog Try.f50.results.toList K) (env0 args) H) : ACall Try.prog 50 args H K :=
  ACall.of_code (pl := pl50) Try.func50 rfl rfl fit50 ha h
def pl51 : Plans := []
theorem fit51 : fits Try.prog 9 pl51 (Try.f51.body.getD .skip) = true := by kernel_rfl
theorem call51 {args : List AV} {H : Heap} {K : AV → Heap → Prop} (ha : args.length ≤ 9) (h : cwp Try.prog 9 pl51 (Try.f51.body.getD .skip) (retQ Try.prog Try.f51.results.toList K) (env0 args) H) : ACall Try.prog 51 args H K :=
  ACall.of_code (pl := pl51) Try.func51 rfl rfl fit51 ha h
def pl52 : Plans := []
theorem fit52 : fits Try.prog 8 pl52 (Try.f52.body.getD .skip) = true := by kernel_rfl
theorem call52 {args : List AV} {H : Heap} {K : AV → Heap → Prop} (ha : args.length ≤ 8) (h : cwp Try.prog 8 pl52 (Try.f52.body.getD .skip) (retQ Try.prog Try.f52.results.toList K) (env0 args) H) : ACall Try.prog 52 args H K :=
  ACall.of_code (pl := pl52) Try.func52 rfl rfl fit52 ha h
def pl53 : Plans := [(6, .take 0 (.take 1 (.take 2 (.take 3 (.take 4 (.take 5 (.take 6 (.take 7 (.take 8 (.take 9 (.take 10 (.take 11 (.take 12 (.take 13 (.take 14 (.take 15 (.take 16 (.take 17 (.take 18 (.take 19 (.take 20 (.take 21 (.take 22 (.take 23 (.take 24 (.take 25 (.take 26 (.take 27 (.take 28 (.take 29 (.take 30 (.take 31 (.take 32 (.eff 33 [28, 30, 32, 26, 27, 29, 31, 25, 13, 10, 24, 12, 9, 3, 23, 11, 8, 2, 20, 22, 5, 7, 1, 19, 21, 4, 6, 0, 18, 15, 17, 14, 16] [] (.take 34 (.take 35 (.done))) (.no)))))))))))))))))))))))))))))))))))]
theorem fit53 : fits Try.prog 57 pl53 (Try.f53.body.getD .skip) = true := by kernel_rfl
theorem call53 {args : List AV} {H : Heap} {K : AV → Heap → Prop} (ha : args.length ≤ 57) (h : cwp Try.prog 57 pl53 (Try.f53.body.getD .skip) (retQ Try.prog Try.f53.results.toList K) (env0 args) H) : ACall Try.prog 53 args H K :=
  ACall.of_code (pl := pl53) Try.func53 rfl rfl fit53 ha h
def pl54 : Plans := [(17, .take 0 (.take 1 (.take 2 (.take 3 (.take 4 (.take 5 (.take 6 (.take 7 (.take 8 (.take 9 (.take 10 (.take 11 (.eff 12 [7, 11, 2, 6, 10, 1, 3, 5, 8, 9, 0, 4] [] (.take 13 (.take 14 (.done))) (.no))))))))))))))]
theorem fit54 : fits Try.prog 134 pl54 (Try.f54.body.getD .skip) = true := by kernel_rfl
theorem call54 {args : List AV} {H : Heap} {K : AV → Heap → Prop} (ha : args.length ≤ 134) (h : cwp Try.prog 134 pl54 (Try.f54.body.getD .skip) (retQ Try.prog Try.f54.results.toList K) (env0 args) H) : ACall Try.prog 54 args H K :=
  ACall.of_code (pl := pl54) Try.func54 rfl rfl fit54 ha h
def pl55 : Plans := []
theorem fit55 : fits Try.prog 8 pl55 (Try.f55.body.getD .skip) = true := by kernel_rfl
theorem call55 {args : List AV} {H : Heap} {K : AV → Heap → Prop} (ha : args.length ≤ 8) (h : cwp Try.prog 8 pl55 (Try.f55.body.getD .skip) (retQ Try.prog Try.f55.results.toList K) (env0 args) H) : ACall Try.prog 55 args H K :=
  ACall.of_code (pl := pl55) Try.func55 rfl rfl fit55 ha h
def pl56 : Plans := []
theorem fit56 : fits Try.prog 27 pl56 (Try.f56.body.getD .skip) = true := by kernel_rfl
theorem call56 {args : List AV} {H : Heap} {K : AV → Heap → Prop} (ha : args.length ≤ 27) (h : cwp Try.prog 27 pl56 (Try.f56.body.getD .skip) (retQ Try.prog Try.f56.results.toList K) (env0 args) H) : ACall Try.prog 56 args H K :=
  ACall.of_code (pl := pl56) Try.func56 rfl rfl fit56 ha h
def pl57 : Plans := []
theorem fit57 : fits Try.prog 27 pl57 (Try.f57.body.getD .skip) = true := by kernel_rfl
theorem call57 {args : List AV} {H : Heap} {K : AV → Heap → Prop} (ha : args.length ≤ 27) (h : cwp Try.prog 27 pl57 (Try.f57.body.getD .skip) (retQ Try.prog Try.f57.results.toList K) (env0 args) H) : ACall Try.prog 57 args H K :=
  ACall.of_code (pl := pl57) Try.func57 rfl rfl fit57 ha h
def pl58 : Plans := []
theorem fit58 : fits Try.prog 23 pl58 (Try.f58.body.getD .skip) = true := by kernel_rfl
theorem call58 {args : List AV} {H : Heap} {K : AV → Heap → Prop} (ha : args.length ≤ 23) (h : cwp Try.prog 23 pl58 (Try.f58.body.getD .skip) (retQ Try.prog Try.f58.results.toList K) (env0 args) H) : ACall Try.prog 58 args H K :=
  ACall.of_code (pl := pl58) Try.func58 rfl rfl fit58 ha h
def pl59 : Plans := [(6, .take 0 (.take 1 (.take 2 (.take 3 (.take 4 (.take 5 (.take 6 (.take 7 (.eff 8 [3, 7, 2, 6, 0, 1, 4, 5] [] (.take 9 (.done)) (.no))))))))))]
theorem fit59 : fits Try.prog 27 pl59 (Try.f59.body.getD .skip) = true := by kernel_rfl
theorem call59 {args : List AV} {H : Heap} {K : AV → Heap → Prop} (ha : args.length ≤ 27) (h : cwp Try.prog 27 pl59 (Try.f59.body.getD .skip) (retQ Try.prog Try.f59.results.toList K) (env0 args) H) : ACall Try.prog 59 args H K :=
  ACall.of_code (pl := pl59) Try.func59 rfl rfl fit59 ha h
def pl60 : Plans := []
theorem fit60 : fits Try.prog 83 pl60 (Try.f60.body.getD .skip) = true := by kernel_rfl
theorem call60 {args : List AV} {H : Heap} {K : AV → Heap → Prop} (ha : args.length ≤ 83) (h : cwp Try.prog 83 pl60 (Try.f60.body.getD .skip) (retQ Try.prog Try.f60.results.toList K) (env0 args) H) : ACall Try.prog 60 args H K :=
  ACall.of_code (pl := pl60) Try.func60 rfl rfl fit60 ha h
def pl61 : Plans := []
theorem fit61 : fits Try.prog 19 pl61 (Try.f61.body.getD .skip) = true := by kernel_rfl
theorem call61 {args : List AV} {H : Heap} {K : AV → Heap → Prop} (ha : args.length ≤ 19) (h : cwp Try.prog 19 pl61 (Try.f61.body.getD .skip) (retQ Try.prog Try.f61.results.toList K) (env0 args) H) : ACall Try.prog 61 args H K :=
  ACall.of_code (pl := pl61) Try.func61 rfl rfl fit61 ha h
def pl62 : Plans := []
theorem fit62 : fits Try.prog 19 pl62 (Try.f62.body.getD .skip) = true := by kernel_rfl
theorem call62 {args : List AV} {H : Heap} {K : AV → Heap → Prop} (ha : args.length ≤ 19) (h : cwp Try.prog 19 pl62 (Try.f62.body.getD .skip) (retQ Try.prog Try.f62.results.toList K) (env0 args) H) : ACall Try.prog 62 args H K :=
  ACall.of_code (pl := pl62) Try.func62 rfl rfl fit62 ha h
def pl63 : Plans := [(4, .take 0 (.take 1 (.take 2 (.take 3 (.take 4 (.take 5 (.take 6 (.take 7 (.take 8 (.take 9 (.take 10 (.take 11 (.take 12 (.eff 13 [7, 12, 3, 6, 11, 2, 4, 5, 8, 10, 0, 1, 9] [] (.take 14 (.done)) (.no))))))))))))))), (6, .take 0 (.take 1 (.take 2 (.take 3 (.take 4 (.take 5 (.take 6 (.take 7 (.take 8 (.take 9 (.take 10 (.take 11 (.take 12 (.take 13 (.take 14 (.eff 15 [14, 9, 0, 1, 5, 6, 7, 8, 13, 12, 10, 11] [2, 3, 4] (.take 16 (.eff 17 [16, 13, 15, 0, 1, 2, 3, 4, 5, 6, 7, 8, 9, 10, 11, 12, 14] [] (.done) (.no))) (.no)))))))))))))))))]
theorem fit63 : fits Try.prog 49 pl63 (Try.f63.body.getD .skip) = true := by kernel_rfl
theorem call63 {args : List AV} {H : Heap} {K : AV → Heap → Prop} (ha : args.length ≤ 49) (h : cwp Try.prog 49 pl63 (Try.f63.body.getD .skip) (retQ Try.prog Try.f63.results.toList K) (env0 args) H) : ACall Try.prog 63 args H K :=
  ACall.of_code (pl := pl63) Try.func63 rfl rfl fit63 ha h
def pl64 : Plans := [(10, .take 0 (.take 1 (.take 2 (.take 3 (.take 4 (.take 5 (.take 6 (.take 7 (.take 8 (.take 9 (.take 10 (.take 11 (.take 12 (.take 13 (.take 14 (.take 15 (.take 16 (.eff 17 [16, 11, 0, 1, 6, 7, 8, 9, 10, 15, 14, 12, 13] [2, 3, 4, 5] (.take 18 (.eff 19 [18, 15, 17, 0, 1, 2, 3, 4, 5, 6, 7, 8, 9, 10, 11, 12, 13, 14, 16] [] (.done) (.no))) (.no)))))))))))))))))))]
theorem fit64 : fits Try.prog 56 pl64 (Try.f64.body.getD .skip) = true := by kernel_rfl
theorem call64 {args : List AV} {H : Heap} {K : AV → Heap → Prop} (ha : args.length ≤ 56) (h : cwp Try.prog 56 pl64 (Try.f64.body.getD .skip) (retQ Try.prog Try.f64.results.toList K) (env0 args) H) : ACall Try.prog 64 args H K :=
  ACall.of_code (pl := pl64) Try.func64 rfl rfl fit64 ha h
def pl65 : Plans := [(10, .take 0 (.take 1 (.take 2 (.take 3 (.take 4 (.take 5 (.take 6 (.take 7 (.take 8 (.take 9 (.take 10 (.take 11 (.take 12 (.take 13 (.take 14 (.take 15 (.take 16 (.eff 17 [16, 11, 0, 1, 6, 7, 8, 9, 10, 15, 14, 12, 13] [2, 3, 4, 5] (.take 18 (.eff 19 [18, 15, 17, 0, 1, 2, 3, 4, 5, 6, 7, 8, 9, 10, 11, 12, 13, 14, 16] [] (.done) (.no))) (.no)))))))))))))))))))]
theorem fit65 : fits Try.prog 65 pl65 (Try.f65.body.getD .skip) = true := by kernel_rfl
theorem call65 {args : List AV} {H : Heap} {K : AV → Heap → Prop} (ha : args.length ≤ 65) (h : cwp Try.prog 65 pl65 (Try.f65.body.getD .skip) (retQ Try.prog Try.f65.results.toList K) (env0 args) H) : ACall Try.prog 65 args H K :=
  ACall.of_code (pl := pl65) Try.func65 rfl rfl fit65 ha h
def pl66 : Plans := []
theorem fit66 : fits Try.prog 57 pl66 (Try.f66.body.getD .skip) = true := by kernel_rfl
theorem call66 {args : List AV} {H : Heap} {K : AV → Heap → Prop} (ha : args.length ≤ 57) (h : cwp Try.prog 57 pl66 (Try.f66.body.getD .skip) (retQ Try.prog Try.f66.results.toList K) (env0 args) H) : ACall Try.prog 66 args H K :=
  ACall.of_code (pl := pl66) Try.func66 rfl rfl fit66 ha h
def pl67 : Plans := [(3, .take 0 (.take 1 (.take 2 (.take 3 (.take 4 (.take 5 (.take 6 (.take 7 (.take 8 (.take 9 (.take 10 (.take 11 (.take 12 (.eff 13 [12, 7, 0, 1, 4, 5, 6, 11, 10, 8, 9] [2, 3] (.take 14 (.eff 15 [14, 11, 13, 0, 1, 2, 3, 4, 5, 6, 7, 8, 9, 10, 12] [] (.done) (.no))) (.no)))))))))))))))]
theorem fit67 : fits Try.prog 32 pl67 (Try.f67.body.getD .skip) = true := by kernel_rfl
theorem call67 {args : List AV} {H : Heap} {K : AV → Heap → Prop} (ha : args.length ≤ 32) (h : cwp Try.prog 32 pl67 (Try.f67.body.getD .skip) (retQ Try.prog Try.f67.results.toList K) (env0 args) H) : ACall Try.prog 67 args H K :=
  ACall.of_code (pl := pl67) Try.func67 rfl rfl fit67 ha h
def pl68 : Plans := [(5, .take 0 (.take 1 (.take 2 (.take 3 (.take 4 (.take 5 (.take 6 (.take 7 (.take 8 (.take 9 (.take 10 (.take 11 (.take 12 (.eff 13 [7, 12, 3, 6, 11, 2, 4, 5, 8, 10, 0, 1, 9] [] (.take 14 (.take 15 (.done))) (.no))))))))))))))), (11, .take 0 (.take 1 (.take 2 (.take 3 (.take 4 (.take 5 (.take 6 (.take 7 (.take 8 (.take 9 (.take 10 (.take 11 (.take 12 (.take 13 (.take 14 (.eff 15 [14, 9, 0, 1, 5, 6, 7, 8, 13, 12, 10, 11] [2, 3, 4] (.take 16 (.eff 17 [16, 13, 15, 0, 1, 2, 3, 4, 5, 6, 7, 8, 9, 10, 11, 12, 14] [] (.done) (.no))) (.no))))))))))))))))), (16, .take 0 (.take 1 (.take 2 (.take 3 (.take 4 (.take 5 (.take 6 (.take 7 (.take 8 (.eff 9 [3, 8, 2, 7, 0, 1, 4, 6, 5] [] (.take 10 (.done)) (.no))))))))))), (17, .take 0 (.take 1 (.take 2 (.take 3 (.take 4 (.take 5 (.take 6 (.take 7 (.take 8 (.take 9 (.take 10 (.take 11 (.take 12 (.take 13 (.take 14 (.eff 15 [14, 9, 0, 1, 5, 6, 7, 8, 13, 12, 10, 11] [2, 3, 4] (.take 16 (.eff 17 [16, 13, 15, 0, 1, 2, 3, 4, 5, 6, 7, 8, 9, 10, 11, 12, 14] [] (.done) (.no))) (.no))))))))))))))))), (22, .take 0 (.take 1 (.take 2 (.take 3 (.take 4 (.take 5 (.take 6 (.take 7 (.take 8 (.eff 9 [3, 8, 2, 7, 0, 1, 4, 6, 5] [] (.take 10 (.done)) (.no))))))))))), (23, .take 0 (.take 1 (.take 2 (.take 3 (.take 4 (.take 5 (.take 6 (.take 7 (.take 8 (.take 9 (.take 10 (.take 11 (.take 12 (.take 13 (.take 14 (.eff 15 [14, 9, 0, 1, 5, 6, 7, 8, 13, 12, 10, 11] [2, 3, 4] (.take 16 (.eff 17 [16, 13, 15, 0, 1, 2, 3, 4, 5, 6, 7, 8, 9, 10, 11, 12, 14] [] (.done) (.no))) (.no)))))))))))))))))]
theorem fit68 : fits Try.prog 133 pl68 (Try.f68.body.getD .skip) = true := by kernel_rfl
theorem call68 {args : List AV} {H : Heap} {K : AV → Heap → Prop} (ha : args.length ≤ 133) (h : cwp Try.prog 133 pl68 (Try.f68.body.getD .skip) (retQ Try.prog Try.f68.results.toList K) (env0 args) H) : ACall Try.prog 68 args H K :=
  ACall.of_code (pl := pl68) Try.func68 rfl rfl fit68 ha h
def pl69 : Plans := []
theorem fit69 : fits Try.prog 17 pl69 (Try.f69.body.getD .skip) = true := by kernel_rfl
theorem call69 {args : List AV} {H : Heap} {K : AV → Heap → Prop} (ha : args.length ≤ 17) (h : cwp Try.prog 17 pl69 (Try.f69.body.getD .skip) (retQ Try.prog Try.f69.results.toList K) (env0 args) H) : ACall Try.prog 69 args H K :=
  ACall.of_code (pl := pl69) Try.func69 rfl rfl fit69 ha h
def pl70 : Plans := [(1, .take 0 (.take 1 (.take 2 (.take 3 (.take 4 (.take 5 (.take 6 (.take 7 (.take 8 (.take 9 (.take 10 (.take 11 (.take 12 (.eff 13 [12, 7, 0, 1, 4, 5, 6, 11, 10, 8, 9] [2, 3] (.take 14 (.eff 15 [14, 11, 13, 0, 1, 2, 3, 4, 5, 6, 7, 8, 9, 10, 12] [] (.done) (.no))) (.no))))))))))))))), (3, .take 0 (.take 1 (.take 2 (.take 3 (.take 4 (.take 5 (.take 6 (.take 7 (.take 8 (.take 9 (.take 10 (.take 11 (.eff 12 [7, 11, 3, 6, 10, 2, 4, 5, 8, 9, 0, 1] [] (.take 13 (.take 14 (.done))) (.no)))))))))))))), (5, .take 0 (.take 1 (.take 2 (.take 3 (.take 4 (.take 5 (.take 6 (.take 7 (.take 8 (.take 9 (.take 10 (.take 11 (.eff 12 [7, 11, 3, 6, 10, 2, 4, 5, 8, 9, 0, 1] [] (.take 13 (.done)) (.no)))))))))))))), (8, .take 0 (.take 1 (.take 2 (.take 3 (.take 4 (.take 5 (.take 6 (.take 7 (.take 8 (.take 9 (.take 10 (.take 11 (.take 12 (.eff 13 [12, 7, 0, 1, 4, 5, 6, 11, 10, 8, 9] [2, 3] (.take 14 (.eff 15 [14, 11, 13, 0, 1, 2, 3, 4, 5, 6, 7, 8, 9, 10, 12] [] (.done) (.no))) (.no)))))))))))))))]
theorem fit70 : fits Try.prog 84 pl70 (Try.f70.body.getD .skip) = true := by kernel_rfl
theorem call70 {args : List AV} {H : Heap} {K : AV → Heap → Prop} (ha : args.length ≤ 84) (h : cwp Try.prog 84 pl70 (Try.f70.body.getD .skip) (retQ Try.prog Try.f70.results.toList K) (env0 args) H) : ACall Try.prog 70 args H K :=
  ACall.of_code (pl := pl70) Try.func70 rfl rfl fit70 ha h
def pl71 : Plans := [(1, .take 0 (.take 1 (.take 2 (.take 3 (.take 4 (.take 5 (.take 6 (.take 7 (.take 8 (.take 9 (.take 10 (.take 11 (.take 12 (.eff 13 [12, 7, 0, 1, 4, 5, 6, 11, 10, 8, 9] [2, 3] (.take 14 (.eff 15 [14, 11, 13, 0, 1, 2, 3, 4, 5, 6, 7, 8, 9, 10, 12] [] (.done) (.no))) (.no))))))))))))))), (3, .take 0 (.take 1 (.take 2 (.take 3 (.take 4 (.take 5 (.take 6 (.take 7 (.take 8 (.take 9 (.take 10 (.take 11 (.eff 12 [7, 11, 3, 6, 10, 2, 4, 5, 8, 9, 0, 1] [] (.take 13 (.done)) (.no)))))))))))))), (5, .take 0 (.take 1 (.take 2 (.take 3 (.take 4 (.take 5 (.take 6 (.take 7 (.take 8 (.take 9 (.take 10 (.take 11 (.eff 12 [7, 11, 3, 6, 10, 2, 4, 5, 8, 9, 0, 1] [] (.take 13 (.take 14 (.done))) (.no)))))))))))))), (8, .take 0 (.take 1 (.take 2 (.take 3 (.take 4 (.take 5 (.take 6 (.take 7 (.take 8 (.take 9 (.take 10 (.take 11 (.take 12 (.eff 13 [12, 7, 0, 1, 4, 5, 6, 11, 10, 8, 9] [2, 3] (.take 14 (.eff 15 [14, 11, 13, 0, 1, 2, 3, 4, 5, 6, 7, 8, 9, 10, 12] [] (.done) (.no))) (.no))))))))))))))), (10, .take 0 (.take 1 (.take 2 (.take 3 (.take 4 (.take 5 (.take 6 (.take 7 (.take 8 (.take 9 (.take 10 (.take 11 (.take 12 (.eff 13 [12, 7, 0, 1, 4, 5, 6, 11, 10, 8, 9] [2, 3] (.take 14 (.eff 15 [14, 11, 13, 0, 1, 2, 3, 4, 5, 6, 7, 8, 9, 10, 12] [] (.done) (.no))) (.no))))))))))))))), (13, .take 0 (.take 1 (.take 2 (.take 3 (.take 4 (.take 5 (.take 6 (.take 7 (.take 8 (.take 9 (.take 10 (.take 11 (.eff 12 [7, 11, 3, 6, 10, 2, 4, 5, 8, 9, 0, 1] [] (.take 13 (.done)) (.no)))))))))))))), (15, .take 0 (.take 1 (.take 2 (.take 3 (.take 4 (.take 5 (.take 6 (.take 7 (.take 8 (.take 9 (.take 10 (.take 11 (.eff 12 [7, 11, 3, 6, 10, 2, 4, 5, 8, 9, 0, 1] [] (.take 13 (.take 14 (.done))) (.no)))))))))))))), (18, .take 0 (.take 1 (.take 2 (.take 3 (.take 4 (.take 5 (.take 6 (.take 7 (.take 8 (.take 9 (.take 10 (.take 11 (.take 12 (.eff 13 [12, 7, 0, 1, 4, 5, 6, 11, 10, 8, 9] [2, 3] (.take 14 (.eff 15 [14, 11, 13, 0, 1, 2, 3, 4, 5, 6, 7, 8, 9, 10, 12] [] (.done) (.no))) (.no))))))))))))))), (21, .take 0 (.take 1 (.take 2 (.take 3 (.take 4 (.take 5 (.take 6 (.take 7 (.take 8 (.take 9 (.take 10 (.take 11 (.take 12 (.eff 13 [12, 7, 0, 1, 4, 5, 6, 11, 10, 8, 9] [2, 3] (.take 14 (.eff 15 [14, 11, 13, 0, 1, 2, 3, 4, 5, 6, 7, 8, 9, 10, 12] [] (.done) (.no))) (.no)))))))))))))))]
theorem fit71 : fits Try.prog 168 pl71 (Try.f71.body.getD .skip) = true := by kernel_rfl
theorem call71 {args : List AV} {H : Heap} {K : AV → Heap → Prop} (ha : args.length ≤ 168) (h : cwp Try.prog 168 pl71 (Try.f71.body.getD .skip) (retQ Try.prog Try.f71.results.toList K) (env0 args) H) : ACall Try.prog 71 args H K :=
  ACall.of_code (pl := pl71) Try.func71 rfl rfl fit71 ha h
def pl72 : Plans := []
theorem fit72 : fits Try.prog 19 pl72 (Try.f72.body.getD .skip) = true := by kernel_rfl
theorem call72 {args : List AV} {H : Heap} {K : AV → Heap → Prop} (ha : args.length ≤ 19) (h : cwp Try.prog 19 pl72 (Try.f72.body.getD .skip) (retQ Try.prog Try.f72.results.toList K) (env0 args) H) : ACall Try.prog 72 args H K :=
  ACall.of_code (pl := pl72) Try.func72 rfl rfl fit72 ha h
def pl73 : Plans := []
theorem fit73 : fits Try.prog 25 pl73 (Try.f73.body.getD .skip) = true := by kernel_rfl
theorem call73 {args : List AV} {H : Heap} {K : AV → Heap → Prop} (ha : args.length ≤ 25) (h : cwp Try.prog 25 pl73 (Try.f73.body.getD .skip) (retQ Try.prog Try.f73.results.toList K) (env0 args) H) : ACall Try.prog 73 args H K :=
  ACall.of_code (pl := pl73) Try.func73 rfl rfl fit73 ha h
def pl74 : Plans := []
theorem fit74 : fits Try.prog 12 pl74 (Try.f74.body.getD .skip) = true := by kernel_rfl
theorem call74 {args : List AV} {H : Heap} {K : AV → Heap → Prop} (ha : args.length ≤ 12) (h : cwp Try.prog 12 pl74 (Try.f74.body.getD .skip) (retQ Try.prog Try.f74.results.toList K) (env0 args) H) : ACall Try.prog 74 args H K :=
  ACall.of_code (pl := pl74) Try.func74 rfl rfl fit74 ha h
def pl75 : Plans := []
theorem fit75 : fits Try.prog 12 pl75 (Try.f75.body.getD .skip) = true := by kernel_rfl
theorem call75 {args : List AV} {H : Heap} {K : AV → Heap → Prop} (ha : args.length ≤ 12) (h : cwp Try.prog 12 pl75 (Try.f75.body.getD .skip) (retQ Try.prog Try.f75.results.toList K) (env0 args) H) : ACall Try.prog 75 args H K :=
  ACall.of_code (pl := pl75) Try.func75 rfl rfl fit75 ha h
def pl76 : Plans := []
theorem fit76 : fits Try.prog 16 pl76 (Try.f76.body.getD .skip) = true := by kernel_rfl
theorem call76 {args : List AV} {H : Heap} {K : AV → Heap → Prop} (ha : args.length ≤ 16) (h : cwp Try.prog 16 pl76 (Try.f76.body.getD .skip) (retQ Try.prog Try.f76.results.toList K) (env0 args) H) : ACall Try.prog 76 args H K :=
  ACall.of_code (pl := pl76) Try.func76 rfl rfl fit76 ha h
def pl77 : Plans := []
theorem fit77 : fits Try.prog 5 pl77 (Try.f77.body.getD .skip) = true := by kernel_rfl
theorem call77 {args : List AV} {H : Heap} {K : AV → Heap → Prop} (ha : args.length ≤ 5) (h : cwp Try.prog 5 pl77 (Try.f77.body.getD .skip) (retQ Try.prog Try.f77.results.toList K) (env0 args) H) : ACall Try.prog 77 args H K :=
  ACall.of_code (pl := pl77) Try.func77 rfl rfl fit77 ha h
def pl78 : Plans := []
theorem fit78 : fits Try.prog 34 pl78 (Try.f78.body.getD .skip) = true := by kernel_rfl
theorem call78 {args : List AV} {H : Heap} {K : AV → Heap → Prop} (ha : args.length ≤ 34) (h : cwp Try.prog 34 pl78 (Try.f78.body.getD .skip) (retQ Try.prog Try.f78.results.toList K) (env0 args) H) : ACall Try.prog 78 args H K :=
  ACall.of_code (pl := pl78) Try.func78 rfl rfl fit78 ha h
def pl79 : Plans := []
theorem fit79 : fits Try.prog 30 pl79 (Try.f79.body.getD .skip) = true := by kernel_rfl
theorem call79 {args : List AV} {H : Heap} {K : AV → Heap → Prop} (ha : args.length ≤ 30) (h : cwp Try.prog 30 pl79 (Try.f79.body.getD .skip) (retQ Try.prog Try.f79.results.toList K) (env0 args) H) : ACall Try.prog 79 args H K :=
  ACall.of_code (pl := pl79) Try.func79 rfl rfl fit79 ha h
def pl80 : Plans := []
theorem fit80 : fits Try.prog 80 pl80 (Try.f80.body.getD .skip) = true := by kernel_rfl
theorem call80 {args : List AV} {H : Heap} {K : AV → Heap → Prop} (ha : args.length ≤ 80) (h : cwp Try.prog 80 pl80 (Try.f80.body.getD .skip) (retQ Try.prog Try.f80.results.toList K) (env0 args) H) : ACall Try.prog 80 args H K :=
  ACall.of_code (pl := pl80) Try.func80 rfl rfl fit80 ha h
def pl81 : Plans := []
theorem fit81 : fits Try.prog 19 pl81 (Try.f81.body.getD .skip) = true := by kernel_rfl
theorem call81 {args : List AV} {H : Heap} {K : AV → Heap → Prop} (ha : args.length ≤ 19) (h : cwp Try.prog 19 pl81 (Try.f81.body.getD .skip) (retQ Try.prog Try.f81.results.toList K) (env0 args) H) : ACall Try.prog 81 args H K :=
  ACall.of_code (pl := pl81) Try.func81 rfl rfl fit81 ha h
def pl82 : Plans := [(3, .take 0 (.take 1 (.take 2 (.take 3 (.take 4 (.take 5 (.take 6 (.take 7 (.take 8 (.take 9 (.take 10 (.take 11 (.take 12 (.take 13 (.take 14 (.take 15 (.take 16 (.take 17 (.eff 18 [10, 17, 4, 9, 16, 3, 5, 8, 11, 15, 1, 2, 6, 7, 14, 0, 12, 13] [] (.take 19 (.done)) (.no)))))))))))))))))))), (5, .take 0 (.take 1 (.take 2 (.take 3 (.take 4 (.take 5 (.take 6 (.take 7 (.take 8 (.take 9 (.take 10 (.take 11 (.eff 12 [5, 11, 4, 10, 0, 3, 6, 9, 1, 2, 7, 8] [] (.take 13 (.done)) (.no)))))))))))))), (6, .take 0 (.take 1 (.take 2 (.take 3 (.take 4 (.take 5 (.take 6 (.take 7 (.take 8 (.take 9 (.take 10 (.take 11 (.take 12 (.take 13 (.take 14 (.take 15 (.take 16 (.take 17 (.take 18 (.take 19 (.take 20 (.eff 21 [20, 13, 0, 1, 2, 3, 8, 9, 10, 11, 12, 19, 18, 14, 17, 15, 16] [4, 5, 6, 7] (.take 22 (.eff 23 [22, 19, 21, 0, 1, 2, 3, 4, 5, 6, 7, 8, 9, 10, 11, 12, 13, 14, 15, 16, 17, 18, 20] [] (.done) (.no))) (.no)))))))))))))))))))))))]
theorem fit82 : fits Try.prog 76 pl82 (Try.f82.body.getD .skip) = true := by kernel_rfl
theorem call82 {args : List AV} {H : Heap} {K : AV → Heap → Prop} (ha : args.length ≤ 76) (h : cwp Try.prog 76 pl82 (Try.f82.body.getD .skip) (retQ Try.prog Try.f82.results.toList K) (env0 args) H) : ACall Try.prog 82 args H K :=
  ACall.of_code (pl := pl82) Try.func82 rfl rfl fit82 ha h
def pl83 : Plans := []
theorem fit83 : fits Try.prog 7 pl83 (Try.f83.body.getD .skip) = true := by kernel_rfl
theorem call83 {args : List AV} {H : Heap} {K : AV → Heap → Prop} (ha : args.length ≤ 7) (h : cwp Try.prog 7 pl83 (Try.f83.body.getD .skip) (retQ Try.prog Try.f83.results.toList K) (env0 args) H) : ACall Try.prog 83 args H K :=
  ACall.of_code (pl := pl83) Try.func83 rfl rfl fit83 ha h
def pl84 : Plans := [(1, .take 0 (.take 1 (.take 2 (.take 3 (.take 4 (.take 5 (.take 6 (.take 7 (.take 8 (.eff 9 [8, 7, 0, 1, 2, 3, 4, 5, 6] [] (.done) (.no))))))))))), (2, .take 0 (.take 1 (.take 2 (.take 3 (.take 4 (.take 5 (.take 6 (.take 7 (.take 8 (.eff 9 [8, 7, 0, 1, 2, 3, 4, 5, 6] [] (.done) (.no))))))))))), (3, .take 0 (.take 1 (.take 2 (.take 3 (.take 4 (.take 5 (.take 6 (.take 7 (.take 8 (.eff 9 [8, 7, 0, 1, 2, 3, 4, 5, 6] [] (.done) (.no)))))))))))]
theorem fit84 : fits Try.prog 33 pl84 (Try.f84.body.getD .skip) = true := by kernel_rfl
theorem call84 {args : List AV} {H : Heap} {K : AV → Heap → Prop} (ha : args.length ≤ 33) (h : cwp Try.prog 33 pl84 (Try.f84.body.getD .skip) (retQ Try.prog Try.f84.results.toList K) (env0 args) H) : ACall Try.prog 84 args H K :=
  ACall.of_code (pl := pl84) Try.func84 rfl rfl fit84 ha h
def pl85 : Plans := []
theorem fit85 : fits Try.prog 15 pl85 (Try.f85.body.getD .skip) = true := by kernel_rfl
theorem call85 {args : List AV} {H : Heap} {K : AV → Heap → Prop} (ha : args.length ≤ 15) (h : cwp Try.prog 15 pl85 (Try.f85.body.getD .skip) (retQ Try.prog Try.f85.results.toList K) (env0 args) H) : ACall Try.prog 85 args H K :=
  ACall.of_code (pl := pl85) Try.func85 rfl rfl fit85 ha h
def pl86 : Plans := []
theorem fit86 : fits Try.prog 36 pl86 (Try.f86.body.getD .skip) = true := by kernel_rfl
theorem call86 {args : List AV} {H : Heap} {K : AV → Heap → Prop} (ha : args.length ≤ 36) (h : cwp Try.prog 36 pl86 (Try.f86.body.getD .skip) (retQ Try.prog Try.f86.results.toList K) (env0 args) H) : ACall Try.prog 86 args H K :=
  ACall.of_code (pl := pl86) Try.func86 rfl rfl fit86 ha h
def pl87 : Plans := []
theorem fit87 : fits Try.prog 6 pl87 (Try.f87.body.getD .skip) = true := by kernel_rfl
theorem call87 {args : List AV} {H : Heap} {K : AV → Heap → Prop} (ha : args.length ≤ 6) (h : cwp Try.prog 6 pl87 (Try.f87.body.getD .skip) (retQ Try.prog Try.f87.results.toList K) (env0 args) H) : ACall Try.prog 87 args H K :=
  ACall.of_code (pl := pl87) Try.func87 rfl rfl fit87 ha h
def pl88 : Plans := []
theorem fit88 : fits Try.prog 14 pl88 (Try.f88.body.getD .skip) = true := by kernel_rfl
theorem call88 {args : List AV} {H : Heap} {K : AV → Heap → Prop} (ha : args.length ≤ 14) (h : cwp Try.prog 14 pl88 (Try.f88.body.getD .skip) (retQ Try.prog Try.f88.results.toList K) (env0 args) H) : ACall Try.prog 88 args H K :=
  ACall.of_code (pl := pl88) Try.func88 rfl rfl fit88 ha h
def pl89 : Plans := []
theorem fit89 : fits Try.prog 42 pl89 (Try.f89.body.getD .skip) = true := by kernel_rfl
theorem call89 {args : List AV} {H : Heap} {K : AV → Heap → Prop} (ha : args.length ≤ 42) (h : cwp Try.prog 42 pl89 (Try.f89.body.getD .skip) (retQ Try.prog Try.f89.results.toList K) (env0 args) H) : ACall Try.prog 89 args H K :=
  ACall.of_code (pl := pl89) Try.func89 rfl rfl fit89 ha h
def pl90 : Plans := []
theorem fit90 : fits Try.prog 30 pl90 (Try.f90.body.getD .skip) = true := by kernel_rfl
theorem call90 {args : List AV} {H : Heap} {K : AV → Heap → Prop} (ha : args.length ≤ 30) (h : cwp Try.prog 30 pl90 (Try.f90.body.getD .skip) (retQ Try.prog Try.f90.results.toList K) (env0 args) H) : ACall Try.prog 90 args H K :=
  ACall.of_code (pl := pl90) Try.func90 rfl rfl fit90 ha h
def pl91 : Plans := []
theorem fit91 : fits Try.prog 7 pl91 (Try.f91.body.getD .skip) = true := by kernel_rfl
theorem call91 {args : List AV} {H : Heap} {K : AV → Heap → Prop} (ha : args.length ≤ 7) (h : cwp Try.prog 7 pl91 (Try.f91.body.getD .skip) (retQ Try.prog Try.f91.results.toList K) (env0 args) H) : ACall Try.prog 91 args H K :=
  ACall.of_code (pl := pl91) Try.func91 rfl rfl fit91 ha h
def pl92 : Plans := [(1, .take 0 (.take 1 (.take 2 (.take 3 (.take 4 (.take 5 (.take 6 (.take 7 (.eff 8 [3, 7, 2, 6, 0, 1, 4, 5] [] (.done) (.no))))))))))]
theorem fit92 : fits Try.prog 28 pl92 (Try.f92.body.getD .skip) = true := by kernel_rfl
theorem call92 {args : List AV} {H : Heap} {K : AV → Heap → Prop} (ha : args.length ≤ 28) (h : cwp Try.prog 28 pl92 (Try.f92.body.getD .skip) (retQ Try.prog Try.f92.results.toList K) (env0 args) H) : ACall Try.prog 92 args H K :=
  ACall.of_code (pl := pl92) Try.func92 rfl rfl fit92 ha h
def pl93 : Plans := []
theorem fit93 : fits Try.prog 20 pl93 (Try.f93.body.getD .skip) = true := by kernel_rfl
theorem call93 {args : List AV} {H : Heap} {K : AV → Heap → Prop} (ha : args.length ≤ 20) (h : cwp Try.prog 20 pl93 (Try.f93.body.getD .skip) (retQ Try.prog Try.f93.results.toList K) (env0 args) H) : ACall Try.prog 93 args H K :=
  ACall.of_code (pl := pl93) Try.func93 rfl rfl fit93 ha h
def pl94 : Plans := []
theorem fit94 : fits Try.prog 13 pl94 (Try.f94.body.getD .skip) = true := by kernel_rfl
theorem call94 {args : List AV} {H : Heap} {K : AV → Heap → Prop} (ha : args.length ≤ 13) (h : cwp Try.prog 13 pl94 (Try.f94.body.getD .skip) (retQ Try.prog Try.f94.results.toList K) (env0 args) H) : ACall Try.prog 94 args H K :=
  ACall.of_code (pl := pl94) Try.func94 rfl rfl fit94 ha h
def pl95 : Plans := []
theorem fit95 : fits Try.prog 6 pl95 (Try.f95.body.getD .skip) = true := by kernel_rfl
theorem call95 {args : List AV} {H : Heap} {K : AV → Heap → Prop} (ha : args.length ≤ 6) (h : cwp Try.prog 6 pl95 (Try.f95.body.getD .skip) (retQ Try.prog Try.f95.results.toList K) (env0 args) H) : ACall Try.prog 95 args H K :=
  ACall.of_code (pl := pl95) Try.func95 rfl rfl fit95 ha h
end Go.Proofs.Yteegphdelekdaaa
