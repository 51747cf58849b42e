/- The functions' plans and rules; written by wip/gen/gen_fn.py. -/
import Derived.Test.YteegphdelekdaaaGreatTy
import Derived.Test.YteegphdelekdaaaGreatAbs3
set_option maxRecDepth 100000
namespace Go.Proofs.YteegphdelekdaaaGreat
open Go.Abs
def pl2 : Plans := []
theorem fit2 : fits Tryz.prog 1 pl2 (Tryz.f2.body.getD .skip) = true := by kernel_rfl
theorem call2 {args : List AV} {H : Heap} {K : AV → Heap → Prop} (ha : args.length ≤ 1) (h : cwp Tryz.prog 1 pl2 (Tryz.f2.body.getD .skip) (retQ Tryz.prog Tryz.f2.results.toList K) (env0 args) H) : ACall Tryz.prog 2 args H K :=
  ACall.of_code (pl := pl2) Tryz.func2 rfl rfl fit2 ha h
def pl3 : Plans := [(16, .take 0 (.take 1 (.eff 2 [1] [0] (.eff 3 [0, 2, 1] [] (.take 4 (.done)) (.no)) (.no))))]
theorem fit3 : fits Tryz.prog 175 pl3 (Tryz.f3.body.getD .skip) = true := by kernel_rfl
theorem call3 {args : List AV} {H : Heap} {K : AV → Heap → Prop} (ha : args.length ≤ 175) (h : cwp Tryz.prog 175 pl3 (Tryz.f3.body.getD .skip) (retQ Tryz.prog Tryz.f3.results.toList K) (env0 args) H) : ACall Tryz.prog 3 args H K :=
  ACall.of_code (pl := pl3) Tryz.func3 rfl rfl fit3 ha h
def pl4 : Plans := [(10, .take 0 (.take 1 (.eff 2 [1] [0] (.eff 3 [0, 2, 1] [] (.take 4 (.done)) (.no)) (.no))))]
theorem fit4 : fits Tryz.prog 101 pl4 (Tryz.f4.body.getD .skip) = true := by kernel_rfl
theorem call4 {args : List AV} {H : Heap} {K : AV → Heap → Prop} (ha : args.length ≤ 101) (h : cwp Tryz.prog 101 pl4 (Tryz.f4.body.getD .skip) (retQ Tryz.prog Tryz.f4.results.toList K) (env0 args) H) : ACall Tryz.prog 4 args H K :=
  ACall.of_code (pl := pl4) Tryz.func4 rfl rfl fit4 ha h
def pl5 : Plans := [(13, .take 0 (.take 1 (.eff 2 [1] [0] (.eff 3 [0, 2, 1] [] (.take 4 (.done)) (.no)) (.no))))]
theorem fit5 : fits Tryz.prog 56 pl5 (Tryz.f5.body.getD .skip) = true := by kernel_rfl
theorem call5 {args : List AV} {H : Heap} {K : AV → Heap → Prop} (ha : args.length ≤ 56) (h : cwp Tryz.prog 56 pl5 (Tryz.f5.body.getD .skip) (retQ Tryz.prog Tryz.f5.results.toList K) (env0 args) H) : ACall Tryz.prog 5 args H K :=
  ACall.of_code (pl := pl5) Tryz.func5 rfl rfl fit5 ha h
def pl6 : Plans := [(14, .take 0 (.take 1 (.eff 2 [1] [0] (.eff 3 [0, 2, 1] [] (.take 4 (.done)) (.no)) (.no))))]
theorem fit6 : fits Tryz.prog 58 pl6 (Tryz.f6.body.getD .skip) = true := by kernel_rfl
theorem call6 {args : List AV} {H : Heap} {K : AV → Heap → Prop} (ha : args.length ≤ 58) (h : cwp Tryz.prog 58 pl6 (Tryz.f6.body.getD .skip) (retQ Tryz.prog Tryz.f6.results.toList K) (env0 args) H) : ACall Tryz.prog 6 args H K :=
  ACall.of_code (pl := pl6) Tryz.func6 rfl rfl fit6 ha h
def pl7 : Plans := [(10, .take 0 (.take 1 (.eff 2 [1] [0] (.eff 3 [0, 2, 1] [] (.take 4 (.done)) (.no)) (.no))))]
theorem fit7 : fits Tryz.prog 44 pl7 (Tryz.f7.body.getD .skip) = true := by kernel_rfl
theorem call7 {args : List AV} {H : Heap} {K : AV → Heap → Prop} (ha : args.length ≤ 44) (h : cwp Tryz.prog 44 pl7 (Tryz.f7.body.getD .skip) (retQ Tryz.prog Tryz.f7.results.toList K) (env0 args) H) : ACall Tryz.prog 7 args H K :=
  ACall.of_code (pl := pl7) Tryz.func7 rfl rfl fit7 ha h
def pl8 : Plans := [(10, .take 0 (.take 1 (.eff 2 [1] [0] (.eff 3 [0, 2, 1] [] (.take 4 (.done)) (.no)) (.no))))]
theorem fit8 : fits Tryz.prog 96 pl8 (Tryz.f8.body.getD .skip) = true := by kernel_rfl
theorem call8 {args : List AV} {H : Heap} {K : AV → Heap → Prop} (ha : args.length ≤ 96) (h : cwp Tryz.prog 96 pl8 (Tryz.f8.body.getD .skip) (retQ Tryz.prog Tryz.f8.results.toList K) (env0 args) H) : ACall Tryz.prog 8 args H K :=
  ACall.of_code (pl := pl8) Tryz.func8 rfl rfl fit8 ha h
def pl9 : Plans := [(10, .take 0 (.take 1 (.eff 2 [1] [0] (.eff 3 [0, 2, 1] [] (.take 4 (.done)) (.no)) (.no))))]
theorem fit9 : fits Tryz.prog 96 pl9 (Tryz.f9.body.getD .skip) = true := by kernel_rfl
theorem call9 {args : List AV} {H : Heap} {K : AV → Heap → Prop} (ha : args.length ≤ 96) (h : cwp Tryz.prog 96 pl9 (Tryz.f9.body.getD .skip) (retQ Tryz.prog Tryz.f9.results.toList K) (env0 args) H) : ACall Tryz.prog 9 args H K :=
  ACall.of_code (pl := pl9) Tryz.func9 rfl rfl fit9 ha h
def pl10 : Plans := [(13, .take 0 (.take 1 (.eff 2 [1] [0] (.eff 3 [0, 2, 1] [] (.take 4 (.done)) (.no)) (.no))))]
theorem fit10 : fits Tryz.prog 117 pl10 (Tryz.f10.body.getD .skip) = true := by kernel_rfl
theorem call10 {args : List AV} {H : Heap} {K : AV → Heap → Prop} (ha : args.length ≤ 117) (h : cwp Tryz.prog 117 pl10 (Tryz.f10.body.getD .skip) (retQ Tryz.prog Tryz.f10.results.toList K) (env0 args) H) : ACall Tryz.prog 10 args H K :=
  ACall.of_code (pl := pl10) Tryz.func10 rfl rfl fit10 ha h
def pl11 : Plans := [(10, .take 0 (.take 1 (.eff 2 [1] [0] (.eff 3 [0, 2, 1] [] (.take 4 (.done)) (.no)) (.no))))]
theorem fit11 : fits Tryz.prog 101 pl11 (Tryz.f11.body.getD .skip) = true := by kernel_rfl
theorem call11 {args : List AV} {H : Heap} {K : AV → Heap → Prop} (ha : args.length ≤ 101) (h : cwp Tryz.prog 101 pl11 (Tryz.f11.body.getD .skip) (retQ Tryz.prog Tryz.f11.results.toList K) (env0 args) H) : ACall Tryz.prog 11 args H K :=
  ACall.of_code (pl := pl11) Tryz.func11 rfl rfl fit11 ha h
def pl12 : Plans := []
theorem fit12 : fits Tryz.prog 18 pl12 (Tryz.f12.body.getD .skip) = true := by kernel_rfl
theorem call12 {args : List AV} {H : Heap} {K : AV → Heap → Prop} (ha : args.length ≤ 18) (h : cwp Tryz.prog 18 pl12 (Tryz.f12.body.getD .skip) (retQ Tryz.prog Tryz.f12.results.toList K) (env0 args) H) : ACall Tryz.prog 12 args H K :=
  ACall.of_code (pl := pl12) Tryz.func12 rfl rfl fit12 ha h
def pl13 : Plans := []
theorem fit13 : fits Tryz.prog 57 pl13 (Tryz.f13.body.getD .skip) = true := by kernel_rfl
theorem call13 {args : List AV} {H : Heap} {K : AV → Heap → Prop} (ha : args.length ≤ 57) (h : cwp Tryz.prog 57 pl13 (Tryz.f13.body.getD .skip) (retQ Tryz.prog Tryz.f13.results.toList K) (env0 args) H) : ACall Tryz.prog 13 args H K :=
  ACall.of_code (pl := pl13) Tryz.func13 rfl rfl fit13 ha h
def pl14 : Plans := []
theorem fit14 : fits Tryz.prog 19 pl14 (Tryz.f14.body.getD .skip) = true := by kernel_rfl
theorem call14 {args : List AV} {H : Heap} {K : AV → Heap → Prop} (ha : args.length ≤ 19) (h : cwp Tryz.prog 19 pl14 (Tryz.f14.body.getD .skip) (retQ Tryz.prog Tryz.f14.results.toList K) (env0 args) H) : ACall Tryz.prog 14 args H K :=
  ACall.of_code (pl := pl14) Tryz.func14 rfl rfl fit14 ha h
def pl15 : Plans := []
theorem fit15 : fits Tryz.prog 22 pl15 (Tryz.f15.body.getD .skip) = true := by kernel_rfl
theorem call15 {args : List AV} {H : Heap} {K : AV → Heap → Prop} (ha : args.length ≤ 22) (h : cwp Tryz.prog 22 pl15 (Tryz.f15.body.getD .skip) (retQ Tryz.prog Tryz.f15.results.toList K) (env0 args) H) : ACall Tryz.prog 15 args H K :=
  ACall.of_code (pl := pl15) Tryz.func15 rfl rfl fit15 ha h
def pl16 : Plans := []
theorem fit16 : fits Tryz.prog 22 pl16 (Tryz.f16.body.getD .skip) = true := by kernel_rfl
theorem call16 {args : List AV} {H : Heap} {K : AV → Heap → Prop} (ha : args.length ≤ 22) (h : cwp Tryz.prog 22 pl16 (Tryz.f16.body.getD .skip) (retQ Tryz.prog Tryz.f16.results.toList K) (env0 args) H) : ACall Tryz.prog 16 args H K :=
  ACall.of_code (pl := pl16) Tryz.func16 rfl rfl fit16 ha h
def pl17 : Plans := []
theorem fit17 : fits Tryz.prog 53 pl17 (Tryz.f17.body.getD .skip) = true := by kernel_rfl
theorem call17 {args : List AV} {H : Heap} {K : AV → Heap → Prop} (ha : args.length ≤ 53) (h : cwp Tryz.prog 53 pl17 (Tryz.f17.body.getD .skip) (retQ Tryz.prog Tryz.f17.results.toList K) (env0 args) H) : ACall Tryz.prog 17 args H K :=
  ACall.of_code (pl := pl17) Tryz.func17 rfl rfl fit17 ha h
def pl18 : Plans := [(6, .take 0 (.take 1 (.take 2 (.take 3 (.take 4 (.take 5 (.take 6 (.take 7 (.eff 8 [3, 7, 2, 6, 0, 1, 4, 5] [] (.take 9 (.done)) (.no))))))))))]
theorem fit18 : fits Tryz.prog 27 pl18 (Tryz.f18.body.getD .skip) = true := by kernel_rfl
theorem call18 {args : List AV} {H : Heap} {K : AV → Heap → Prop} (ha : args.length ≤ 27) (h : cwp Tryz.prog 27 pl18 (Tryz.f18.body.getD .skip) (retQ Tryz.prog Tryz.f18.results.toList K) (env0 args) H) : ACall Tryz.prog 18 args H K :=
  ACall.of_code (pl := pl18) Tryz.func18 rfl rfl fit18 ha h
def pl19 : Plans := [(6, .take 0 (.take 1 (.take 2 (.take 3 (.take 4 (.take 5 (.take 6 (.take 7 (.take 8 (.done))))))))))]
theorem fit19 : fits Tryz.prog 26 pl19 (Tryz.f19.body.getD .skip) = true := by kernel_rfl
theorem call19 {args : List AV} {H : Heap} {K : AV → Heap → Prop} (ha : args.length ≤ 26) (h : cwp Tryz.prog 26 pl19 (Tryz.f19.body.getD .skip) (retQ Tryz.prog Tryz.f19.results.toList K) (env0 args) H) : ACall Tryz.prog 19 args H K :=
  ACall.of_code (pl := pl19) Tryz.func19 rfl rfl fit19 ha h
def pl20 : Plans := []
theorem fit20 : fits Tryz.prog 27 pl20 (Tryz.f20.body.getD .skip) = true := by kernel_rfl
theorem call20 {args : List AV} {H : Heap} {K : AV → Heap → Prop} (ha : args.length ≤ 27) (h : cwp Tryz.prog 27 pl20 (Tryz.f20.body.getD .skip) (retQ Tryz.prog Tryz.f20.results.toList K) (env0 args) H) : ACall Tryz.prog 20 args H K :=
  ACall.of_code (pl := pl20) Tryz.func20 rfl rfl fit20 ha h
def pl21 : Plans := [(6, .take 0 (.take 1 (.take 2 (.take 3 (.take 4 (.take 5 (.take 6 (.take 7 (.take 8 (.done))))))))))]
theorem fit21 : fits Tryz.prog 26 pl21 (Tryz.f21.body.getD .skip) = true := by kernel_rfl
theorem call21 {args : List AV} {H : Heap} {K : AV → Heap → Prop} (ha : args.length ≤ 26) (h : cwp Tryz.prog 26 pl21 (Tryz.f21.body.getD .skip) (retQ Tryz.prog Tryz.f21.results.toList K) (env0 args) H) : ACall Tryz.prog 21 args H K :=
  ACall.of_code (pl := pl21) Tryz.func21 rfl rfl fit21 ha h
def pl22 : Plans := [(6, .take 0 (.take 1 (.take 2 (.take 3 (.take 4 (.take 5 (.take 6 (.take 7 (.take 8 (.done))))))))))]
theorem fit22 : fits Tryz.prog 26 pl22 (Tryz.f22.body.getD .skip) = true := by kernel_rfl
theorem call22 {args : List AV} {H : Heap} {K : AV → Heap → Prop} (ha : args.length ≤ 26) (h : cwp Tryz.prog 26 pl22 (Tryz.f22.body.getD .skip) (retQ Tryz.prog Tryz.f22.results.toList K) (env0 args) H) : ACall Tryz.prog 22 args H K :=
  ACall.of_code (pl := pl22) Tryz.func22 rfl rfl fit22 ha h
def pl23 : Plans := []
theorem fit23 : fits Tryz.prog 14 pl23 (Tryz.f23.body.getD .skip) = true := by kernel_rfl
theorem call23 {args : List AV} {H : Heap} {K : AV → Heap → Prop} (ha : args.length ≤ 14) (h : cwp Tryz.prog 14 pl23 (Tryz.f23.body.getD .skip) (retQ Tryz.prog Tryz.f23.results.toList K) (env0 args) H) : ACall Tryz.prog 23 args H K :=
  ACall.of_code (pl := pl23) Tryz.func23 rfl rfl fit23 ha h
def pl24 : Plans := []
theorem fit24 : fits Tryz.prog 20 pl24 (Tryz.f24.body.getD .skip) = true := by kernel_rfl
theorem call24 {args : List AV} {H : Heap} {K : AV → Heap → Prop} (ha : args.length ≤ 20) (h : cwp Tryz.prog 20 pl24 (Tryz.f24.body.getD .skip) (retQ Tryz.prog Tryz.f24.results.toList K) (env0 args) H) : ACall Tryz.prog 24 args H K :=
  ACall.of_code (pl := pl24) Tryz.func24 rfl rfl fit24 ha h
def pl25 : Plans := []
theorem fit25 : fits Tryz.prog 19 pl25 (Tryz.f25.body.getD .skip) = true := by kernel_rfl
theorem call25 {args : List AV} {H : Heap} {K : AV → Heap → Prop} (ha : args.length ≤ 19) (h : cwp Tryz.prog 19 pl25 (Tryz.f25.body.getD .skip) (retQ Tryz.prog Tryz.f25.results.toList K) (env0 args) H) : ACall Tryz.prog 25 args H K :=
  ACall.of_code (pl := pl25) Tryz.func25 rfl rfl fit25 ha h
def pl26 : Plans := []
theorem fit26 : fits Tryz.prog 19 pl26 (Tryz.f26.body.getD .skip) = true := by kernel_rfl
theorem call26 {args : List AV} {H : Heap} {K : AV → Heap → Prop} (ha : args.length ≤ 19) (h : cwp Tryz.prog 19 pl26 (Tryz.f26.body.getD .skip) (retQ Tryz.prog Tryz.f26.results.toList K) (env0 args) H) : ACall Tryz.prog 26 args H K :=
  ACall.of_code (pl := pl26) Tryz.func26 rfl rfl fit26 ha h
def pl27 : Plans := []
theorem fit27 : fits Tryz.prog 21 pl27 (Tryz.f27.body.getD .skip) = true := by kernel_rfl
theorem call27 {args : List AV} {H : Heap} {K : AV → Heap → Prop} (ha : args.length ≤ 21) (h : cwp Tryz.prog 21 pl27 (Tryz.f27.body.getD .skip) (retQ Tryz.prog Tryz.f27.results.toList K) (env0 args) H) : ACall Tryz.prog 27 args H K :=
  ACall.of_code (pl := pl27) Tryz.func27 rfl rfl fit27 ha h
def pl28 : Plans := []
theorem fit28 : fits Tryz.prog 21 pl28 (Tryz.f28.body.getD .skip) = true := by kernel_rfl
theorem call28 {args : List AV} {H : Heap} {K : AV → Heap → Prop} (ha : args.length ≤ 21) (h : cwp Tryz.prog 21 pl28 (Tryz.f28.body.getD .skip) (retQ Tryz.prog Tryz.f28.results.toList K) (env0 args) H) : ACall Tryz.prog 28 args H K :=
  ACall.of_code (pl := pl28) Tryz.func28 rfl rfl fit28 ha h
def pl29 : Plans := []
theorem fit29 : fits Tryz.prog 23 pl29 (Tryz.f29.body.getD .skip) = true := by kernel_rfl
theorem call29 {args : List AV} {H : Heap} {K : AV → Heap → Prop} (ha : args.length ≤ 23) (h : cwp Tryz.prog 23 pl29 (Tryz.f29.body.getD .skip) (retQ Tryz.prog Tryz.f29.results.toList K) (env0 args) H) : ACall Tryz.prog 29 args H K :=
  ACall.of_code (pl := pl29) Tryz.func29 rfl rfl fit29 ha h
def pl30 : Plans := []
theorem fit30 : fits Tryz.prog 13 pl30 (Tryz.f30.body.getD .skip) = true := by kernel_rfl
theorem call30 {args : List AV} {H : Heap} {K : AV → Heap → Prop} (ha : args.length ≤ 13) (h : cwp Tryz.prog 13 pl30 (Tryz.f30.body.getD .skip) (retQ Tryz.prog Tryz.f30.results.toList K) (env0 args) H) : ACall Tryz.prog 30 args H K :=
  ACall.of_code (pl := pl30) Tryz.func30 rfl rfl fit30 ha h
def pl31 : Plans := []
theorem fit31 : fits Tryz.prog 13 pl31 (Tryz.f31.body.getD .skip) = true := by kernel_rfl
theorem call31 {args : List AV} {H : Heap} {K : AV → Heap → Prop} (ha : args.length ≤ 13) (h : cwp Tryz.prog 13 pl31 (Tryz.f31.body.getD .skip) (retQ Tryz.prog Tryz.f31.results.toList K) (env0 args) H) : ACall Tryz.prog 31 args H K :=
  ACall.of_code (pl := pl31) Tryz.func31 rfl rfl fit31 ha h
def pl32 : Plans := []
theorem fit32 : fits Tryz.prog 21 pl32 (Tryz.f32.body.getD .skip) = true := by kernel_rfl
theorem call32 {args : List AV} {H : Heap} {K : AV → Heap → Prop} (ha : args.length ≤ 21) (h : cwp Tryz.prog 21 pl32 (Tryz.f32.body.getD .skip) (retQ Tryz.prog Tryz.f32.results.toList K) (env0 args) H) : ACall Tryz.prog 32 args H K :=
  ACall.of_code (pl := pl32) Tryz.func32 rfl rfl fit32 ha h
def pl33 : Plans := [(3, .take 0 (.take 1 (.take 2 (.take 4 (.take 5 (.take 6 (.eff 3 [0, 2, 1] [4, 5, 6] (.eff 7 [3, 6, 0, 2, 5, 1, 4] [] (.take 8 (.done)) (.no)) (.no)))))))), (7, .take 0 (.take 1 (.take 2 (.take 3 (.take 4 (.take 5 (.take 6 (.take 7 (.take 9 (.take 10 (.take 11 (.take 12 (.eff 8 [2, 7, 1, 6, 0, 3, 5, 4] [9, 10, 11, 12] (.eff 13 [8, 12, 1, 2, 7, 11, 0, 6, 9, 10, 3, 5, 4] [] (.take 14 (.eff 15 [14, 13, 0, 1, 2, 3, 4, 5, 6, 7, 8, 9, 10, 11, 12] [] (.done) (.no))) (.no)) (.no))))))))))))))]
theorem fit33 : fits Tryz.prog 55 pl33 (Tryz.f33.body.getD .skip) = true := by kernel_rfl
theorem call33 {args : List AV} {H : Heap} {K : AV → Heap → Prop} (ha : args.length ≤ 55) (h : cwp Tryz.prog 55 pl33 (Tryz.f33.body.getD .skip) (retQ Tryz.prog Tryz.f33.results.toList K) (env0 args) H) : ACall Tryz.prog 33 args H K :=
  ACall.of_code (pl := pl33) Tryz.func33 rfl rfl fit33 ha h
def pl34 : Plans := [(6, .take 0 (.take 1 (.take 2 (.take 3 (.take 4 (.take 5 (.take 7 (.take 8 (.take 9 (.take 10 (.eff 6 [0, 5, 4, 1, 3, 2] [7, 8, 9, 10] (.eff 11 [6, 10, 0, 5, 9, 4, 7, 8, 1, 3, 2] [] (.take 12 (.done)) (.no)) (.no)))))))))))), (8, .take 0 (.take 1 (.take 2 (.take 3 (.take 4 (.take 5 (.take 6 (.eff 7 [3, 6, 5, 4] [0, 1, 2] (.eff 8 [0, 2, 7, 1, 3, 6, 5, 4] [] (.take 9 (.take 10 (.done))) (.no)) (.no)))))))))]
theorem fit34 : fits Tryz.prog 48 pl34 (Tryz.f34.body.getD .skip) = true := by kernel_rfl
theorem call34 {args : List AV} {H : Heap} {K : AV → Heap → Prop} (ha : args.length ≤ 48) (h : cwp Tryz.prog 48 pl34 (Tryz.f34.body.getD .skip) (retQ Tryz.prog Tryz.f34.results.toList K) (env0 args) H) : ACall Tryz.prog 34 args H K :=
  ACall.of_code (pl := pl34) Tryz.func34 rfl rfl fit34 ha h
def pl35 : Plans := []
theorem fit35 : fits Tryz.prog 12 pl35 (Tryz.f35.body.getD .skip) = true := by kernel_rfl
theorem call35 {args : List AV} {H : Heap} {K : AV → Heap → Prop} (ha : args.length ≤ 12) (h : cwp Tryz.prog 12 pl35 (Tryz.f35.body.getD .skip) (retQ Tryz.prog Tryz.f35.results.toList K) (env0 args) H) : ACall Tryz.prog 35 args H K :=
  ACall.of_code (pl := pl35) Tryz.func35 rfl rfl fit35 ha h
def pl36 : Plans := [(6, .take 0 (.take 1 (.take 2 (.take 3 (.eff 4 [2, 3] [0, 1] (.eff 5 [0, 1, 4, 2, 3] [] (.take 6 (.done)) (.no)) (.no))))))]
theorem fit36 : fits Tryz.prog 32 pl36 (Tryz.f36.body.getD .skip) = true := by kernel_rfl
theorem call36 {args : List AV} {H : Heap} {K : AV → Heap → Prop} (ha : args.length ≤ 32) (h : cwp Tryz.prog 32 pl36 (Tryz.f36.body.getD .skip) (retQ Tryz.prog Tryz.f36.results.toList K) (env0 args) H) : ACall Tryz.prog 36 args H K :=
  ACall.of_code (pl := pl36) Tryz.func36 rfl rfl fit36 ha h
def pl37 : Plans := []
theorem fit37 : fits Tryz.prog 23 pl37 (Tryz.f37.body.getD .skip) = true := by kernel_rfl
theorem call37 {args : List AV} {H : Heap} {K : AV → Heap → Prop} (ha : args.length ≤ 23) (h : cwp Tryz.prog 23 pl37 (Tryz.f37.body.getD .skip) (retQ Tryz.prog Tryz.f37.results.toList K) (env0 args) H) : ACall Tryz.prog 37 args H K :=
  ACall.of_code (pl := pl37) Tryz.func37 rfl rfl fit37 ha h
def pl38 : Plans := []
theorem fit38 : fits Tryz.prog 20 pl38 (Tryz.f38.body.getD .skip) = true := by kernel_rfl
theorem call38 {args : List AV} {H : Heap} {K : AV → Heap → Prop} (ha : args.length ≤ 20) (h : cwp Tryz.prog 20 pl38 (Tryz.f38.body.getD .skip) (retQ Tryz.prog Tryz.f38.results.toList K) (env0 args) H) : ACall Tryz.prog 38 args H K :=
  ACall.of_code (pl := pl38) Tryz.func38 rfl rfl fit38 ha h
def pl39 : Plans := [(6, .take 0 (.take 1 (.take 2 (.take 3 (.take 4 (.take 5 (.take 6 (.take 7 (.eff 8 [3, 7, 2, 6, 0, 1, 4, 5] [] (.take 9 (.done)) (.no))))))))))]
theorem fit39 : fits Tryz.prog 27 pl39 (Tryz.f39.body.getD .skip) = true := by kernel_rfl
theorem call39 {args : List AV} {H : Heap} {K : AV → Heap → Prop} (ha : args.length ≤ 27) (h : cwp Tryz.prog 27 pl39 (Tryz.f39.body.getD .skip) (retQ Tryz.prog Tryz.f39.results.toList K) (env0 args) H) : ACall Tryz.prog 39 args H K :=
  ACall.of_code (pl := pl39) Tryz.func39 rfl rfl fit39 ha h
def pl40 : Plans := []
theorem fit40 : fits Tryz.prog 34 pl40 (Tryz.f40.body.getD .skip) = true := by kernel_rfl
theorem call40 {args : List AV} {H : Heap} {K : AV → Heap → Prop} (ha : args.length ≤ 34) (h : cwp Tryz.prog 34 pl40 (Tryz.f40.body.getD .skip) (retQ Tryz.prog Tryz.f40.results.toList K) (env0 args) H) : ACall Tryz.prog 40 args H K :=
  ACall.of_code (pl := pl40) Tryz.func40 rfl rfl fit40 ha h
def pl41 : Plans := [(3, .take 0 (.take 2 (.take 3 (.take 4 (.take 7 (.eff 1 [0] [2, 3, 4, 7] (.eff 5 [2, 4, 1, 3, 0] [7] (.eff 6 [1, 5, 0, 2, 4, 3] [7] (.take 8 (.take 9 (.take 10 (.done)))) (.no)) (.no)) (.no)))))))]
theorem fit41 : fits Tryz.prog 24 pl41 (Tryz.f41.body.getD .skip) = true := by kernel_rfl
theorem call41 {args : List AV} {H : Heap} {K : AV → Heap → Prop} (ha : args.length ≤ 24) (h : cwp Tryz.prog 24 pl41 (Tryz.f41.body.getD .skip) (retQ Tryz.prog Tryz.f41.results.toList K) (env0 args) H) : ACall Tryz.prog 41 args H K :=
  ACall.of_code (pl := pl41) Tryz.func41 rfl rfl fit41 ha h
def pl42 : Plans := []
theorem fit42 : fits Tryz.prog 9 pl42 (Tryz.f42.body.getD .skip) = true := by kernel_rfl
theorem call42 {args : List AV} {H : Heap} {K : AV → Heap → Prop} (ha : args.length ≤ 9) (h : cwp Tryz.prog 9 pl42 (Tryz.f42.body.getD .skip) (retQ Tryz.prog Tryz.f42.results.toList K) (env0 args) H) : ACall Tryz.prog 42 args H K :=
  ACall.of_code (pl := pl42) Tryz.func42 rfl rfl fit42 ha h
def pl43 : Plans := []
theorem fit43 : fits Tryz.prog 9 pl43 (Tryz.f43.body.getD .skip) = true := by kernel_rfl
theorem call43 {args : List AV} {H : Heap} {K : AV → Heap → Prop} (ha : args.length ≤ 9) (h : cwp Tryz.prog 9 pl43 (Tryz.f43.body.getD .skip) (retQ Tryz.prog Tryz.f43.results.toList K) (env0 args) H) : ACall Tryz.prog 43 args H K :=
  ACall.of_code (pl := pl43) Tryz.func43 rfl rfl fit43 ha h
def pl44 : Plans := [(7, .take 0 (.take 1 (.take 2 (.eff 3 [1, 2] [0] (.eff 4 [0, 3, 1, 2] [] (.take 5 (.take 6 (.done))) (.no)) (.no)))))]
theorem fit44 : fits Tryz.prog 30 pl44 (Tryz.f44.body.getD .skip) = true := by kernel_rfl
theorem call44 {args : List AV} {H : Heap} {K : AV → Heap → Prop} (ha : args.length ≤ 30) (h : cwp Tryz.prog 30 pl44 (Tryz.f44.body.getD .skip) (retQ Tryz.prog Tryz.f44.results.toList K) (env0 args) H) : ACall Tryz.prog 44 args H K :=
  ACall.of_code (pl := pl44) Tryz.func44 rfl rfl fit44 ha h
def pl45 : Plans := []
theorem fit45 : fits Tryz.prog 33 pl45 (Tryz.f45.body.getD .skip) = true := by kernel_rfl
theorem call45 {args : List AV} {H : Heap} {K : AV → Heap → Prop} (ha : args.length ≤ 33) (h : cwp Tryz.prog 33 pl45 (Tryz.f45.body.getD .skip) (retQ Tryz.prog Tryz.f45.results.toList K) (env0 args) H) : ACall Tryz.prog 45 args H K :=
  ACall.of_code (pl := pl45) Tryz.func45 rfl rfl fit45 ha h
def pl46 : Plans := []
theorem fit46 : fits Tryz.prog 20 pl46 (Tryz.f46.body.getD .skip) = true := by kernel_rfl
theorem call46 {args : List AV} {H : Heap} {K : AV → Heap → Prop} (ha : args.length ≤ 20) (h : cwp Tryz.prog 20 pl46 (Tryz.f46.body.getD .skip) (retQ Tryz.prog Tryz.f46.results.toList K) (env0 args) H) : ACall Tryz.prog 46 args H K :=
  ACall.of_code (pl := pl46) Tryz.func46 rfl rfl fit46 ha h
def pl47 : Plans := []
theorem fit47 : fits Tryz.prog 21 pl47 (Tryz.f47.body.getD .skip) = true := by kernel_rfl
theorem call47 {args : List AV} {H : Heap} {K : AV → Heap → Prop} (ha : args.length ≤ 21) (h : cwp Tryz.prog 21 pl47 (Tryz.f47.body.getD .skip) (retQ Tryz.prog Tryz.f47.results.toList K) (env0 args) H) : ACall Tryz.prog 47 args H K :=
  ACall.of_code (pl := pl47) Tryz.func47 rfl rfl fit47 ha h
def pl48 : Plans := [(14, .take 0 (.take 1 (.take 2 (.take 3 (.take 4 (.take 5 (.take 6 (.eff 7 [0, 6, 5, 1, 4, 3, 2] [] (.take 8 (.done)) (.no)))))))))]
theorem fit48 : fits Tryz.prog 53 pl48 (Tryz.f48.body.getD .skip) = true := by kernel_rfl
theorem call48 {args : List AV} {H : Heap} {K : AV → Heap → Prop} (ha : args.length ≤ 53) (h : cwp Tryz.prog 53 pl48 (Tryz.f48.body.getD .skip) (retQ Tryz.prog Tryz.f48.results.toList K) (env0 args) H) : ACall Tryz.prog 48 args H K :=
  ACall.of_code (pl := pl48) Tryz.func48 rfl rfl fit48 ha h
def pl49 : Plans := [(3, .take 0 (.take 2 (.take 3 (.take 4 (.take 6 (.eff 1 [0] [2, 3, 4, 6] (.eff 5 [2, 4, 1, 3, 0] [6] (.eff 7 [6] [0, 2, 3, 4] (.eff 8 [1, 5, 7, 0, 2, 4, 6, 3] [] (.take 9 (.done)) (.no)) (.no)) (.eff 7 [6] [0, 2, 3, 4] (.eff 5 [2, 4, 1, 3, 0] [6] (.eff 8 [1, 5, 7, 0, 2, 4, 6, 3] [] (.take 9 (.done)) (.no)) (.no)) (.no))) (.eff 7 [6] [0, 2, 3, 4] (.eff 1 [0] [2, 3, 4, 6] (.eff 5 [2, 4, 1, 3, 0] [6] (.eff 8 [1, 5, 7, 0, 2, 4, 6, 3] [] (.take 9 (.done)) (.no)) (.no)) (.no)) (.no))))))))]
theorem fit49 : fits Tryz.prog 23 pl49 (Tryz.f49.body.getD .skip) = true := by kernel_rfl
theorem call49 {args : List AV} {H : Heap} {K : AV → Heap → Prop} (ha : args.length ≤ 23) (h : cwp Tryz.prog 23 pl49 (Tryz.f49.body.getD .skip) (retQ Tryz.prog Tryz.f49.results.toList K) (env0 args) H) : ACall Tryz.prog 49 args H K :=
  ACall.of_code (pl := pl49) Tryz.func49 rfl rfl fit49 ha h
def pl50 : Plans := []
theorem fit50 : fits Tryz.prog 27 pl50 (Tryz.f50.body.getD .skip) = true := by kernel_rfl
theorem call50 {args : List AV} {H : Heap} {K : AV → Heap → Prop} (ha : args.length ≤ 27) (h : cwp Tryz.prog 27 pl50 (Tryz.f50.body.getD .skip) (retQ Tryz.prog Tryz.f50.results.toList K) (env0 args) H) : ACall Tryz.prog 50 args H K :=
  ACall.of_code (pl := pl50) Tryz.func50 rfl rfl fit50 ha h
def pl51 : Plans := []
theorem fit51 : fits Tryz.prog 29 pl51 (Tryz.f51.body.getD .skip) = true := by kernel_rfl
theorem call51 {args : List AV} {H : Heap} {K : AV → Heap → Prop} (ha : args.length ≤ 29) (h : cwp Tryz.prog 29 pl51 (Tryz.f51.body.getD .skip) (retQ Tryz.prog Tryz.f51.results.toList K) (env0 args) H) : ACall Tryz.prog 51 args H K :=
  ACall.of_code (pl := pl51) Tryz.func51 rfl rfl fit51 ha h
def pl52 : Plans := []
theorem fit52 : fits Tryz.prog 16 pl52 (Tryz.f52.body.getD .skip) = true := by kernel_rfl
theorem call52 {args : List AV} {H : Heap} {K : AV → Heap → Prop} (ha : args.length ≤ 16) (h : cwp Tryz.prog 16 pl52 (Tryz.f52.body.getD .skip) (retQ Tryz.prog Tryz.f52.results.toList K) (env0 args) H) : ACall Tryz.prog 52 args H K :=
  ACall.of_code (pl := pl52) Tryz.func52 rfl rfl fit52 ha h
def pl53 : Plans := []
theorem fit53 : fits Tryz.prog 28 pl53 (Tryz.f53.body.getD .skip) = true := by kernel_rfl
theorem call53 {args : List AV} {H : Heap} {K : AV → Heap → Prop} (ha : args.length ≤ 28) (h : cwp Tryz.prog 28 pl53 (Tryz.f53.body.getD .skip) (retQ Tryz.prog Tryz.f53.results.toList K) (env0 args) H) : ACall Tryz.prog 53 args H K :=
  ACall.of_code (pl := pl53) Tryz.func53 rfl rfl fit53 ha h
def pl54 : Plans := []
theorem fit54 : fits Tryz.prog 23 pl54 (Tryz.f54.body.getD .skip) = true := by kernel_rfl
theorem call54 {args : List AV} {H : Heap} {K : AV → Heap → Prop} (ha : args.length ≤ 23) (h : cwp Tryz.prog 23 pl54 (Tryz.f54.body.getD .skip) (retQ Tryz.prog Tryz.f54.results.toList K) (env0 args) H) : ACall Tryz.prog 54 args H K :=
  ACall.of_code (pl := pl54) Tryz.func54 rfl rfl fit54 ha h
def pl55 : Plans := []
theorem fit55 : fits Tryz.prog 15 pl55 (Tryz.f55.body.getD .skip) = true := by kernel_rfl
theorem call55 {args : List AV} {H : Heap} {K : AV → Heap → Prop} (ha : args.length ≤ 15) (h : cwp Tryz.prog 15 pl55 (Tryz.f55.body.getD .skip) (retQ Tryz.prog Tryz.f55.results.toList K) (env0 args) H) : ACall Tryz.prog 55 args H K :=
  ACall.of_code (pl := pl55) Tryz.func55 rfl rfl fit55 ha h
def pl56 : Plans := [(1, .take 0 (.take 1 (.eff 2 [0, 1] [] (.take 3 (.take 4 (.take 5 (.take 6 (.eff 7 [5, 6, 4, 3, 2, 0, 1] [] (.take 8 (.take 9 (.take 10 (.take 11 (.take 12 (.take 13 (.take 14 (.take 15 (.take 16 (.take 17 (.take 18 (.eff 19 [11, 17, 18, 10, 16, 9, 7, 15, 4, 8, 5, 6, 13, 14, 3, 2, 12, 0, 1] [] (.take 20 (.take 21 (.done))) (.no))))))))))))) (.no)))))) (.no)))), (3, .take 0 (.take 1 (.take 2 (.take 3 (.take 4 (.take 5 (.take 6 (.eff 7 [0, 5, 6, 4, 2, 3, 1] [] (.take 8 (.take 9 (.done))) (.no)))))))))]
theorem fit56 : fits Tryz.prog 38 pl56 (Tryz.f56.body.getD .skip) = true := by kernel_rfl
theorem call56 {args : List AV} {H : Heap} {K : AV → Heap → Prop} (ha : args.length ≤ 38) (h : cwp Tryz.prog 38 pl56 (Tryz.f56.body.getD .skip) (retQ Tryz.prog Tryz.f56.results.toList K) (env0 args) H) : ACall Tryz.prog 56 args H K :=
  ACall.of_code (pl := pl56) Tryz.func56 rfl rfl fit56 ha h
def pl57 : Plans := []
theorem fit57 : fits Tryz.prog 8 pl57 (Tryz.f57.body.getD .skip) = true := by kernel_rfl
theorem call57 {args : List AV} {H : Heap} {K : AV → Heap → Prop} (ha : args.length ≤ 8) (h : cwp Tryz.prog 8 pl57 (Tryz.f57.body.getD .skip) (retQ Tryz.prog Tryz.f57.results.toList K) (env0 args) H) : ACall Tryz.prog 57 args H K :=
  ACall.of_code (pl := pl57) Tryz.func57 rfl rfl fit57 ha h
def pl58 : Plans := [(6, .take 0 (.take 1 (.take 2 (.take 3 (.take 4 (.take 5 (.take 6 (.take 7 (.eff 8 [3, 7, 2, 6, 0, 1, 4, 5] [] (.take 9 (.done)) (.no))))))))))]
theorem fit58 : fits Tryz.prog 27 pl58 (Tryz.f58.body.getD .skip) = true := by kernel_rfl
theorem call58 {args : List AV} {H : Heap} {K : AV → Heap → Prop} (ha : args.length ≤ 27) (h : cwp Tryz.prog 27 pl58 (Tryz.f58.body.getD .skip) (retQ Tryz.prog Tryz.f58.results.toList K) (env0 args) H) : ACall Tryz.prog 58 args H K :=
  ACall.of_code (pl := pl58) Tryz.func58 rfl rfl fit58 ha h
def pl59 : Plans := []
theorem fit59 : fits Tryz.prog 28 pl59 (Tryz.f59.body.getD .skip) = true := by kernel_rfl
theorem call59 {args : List AV} {H : Heap} {K : AV → Heap → Prop} (ha : args.length ≤ 28) (h : cwp Tryz.prog 28 pl59 (Tryz.f59.body.getD .skip) (retQ Tryz.prog Tryz.f59.results.toList K) (env0 args) H) : ACall Tryz.prog 59 args H K :=
  ACall.of_code (pl := pl59) Tryz.func59 rfl rfl fit59 ha h
def pl60 : Plans := []
theorem fit60 : fits Tryz.prog 27 pl60 (Tryz.f60.body.getD .skip) = true := by kernel_rfl
theorem call60 {args : List AV} {H : Heap} {K : AV → Heap → Prop} (ha : args.length ≤ 27) (h : cwp Tryz.prog 27 pl60 (Tryz.f60.body.getD .skip) (retQ Tryz.prog Tryz.f60.results.toList K) (env0 args) H) : ACall Tryz.prog 60 args H K :=
  ACall.of_code (pl := pl60) Tryz.func60 rfl rfl fit60 ha h
def pl61 : Plans := []
theorem fit61 : fits Tryz.prog 22 pl61 (Tryz.f61.body.getD .skip) = true := by kernel_rfl
theorem call61 {args : List AV} {H : Heap} {K : AV → Heap → Prop} (ha : args.length ≤ 22) (h : cwp Tryz.prog 22 pl61 (Tryz.f61.body.getD .skip) (retQ Tryz.prog Tryz.f61.results.toList K) (env0 args) H) : ACall Tryz.prog 61 args H K :=
  ACall.of_code (pl := pl61) Tryz.func61 rfl rfl fit61 ha h
def pl62 : Plans := []
theorem fit62 : fits Tryz.prog 14 pl62 (Tryz.f62.body.getD .skip) = true := by kernel_rfl
theorem call62 {args : List AV} {H : Heap} {K : AV → Heap → Prop} (ha : args.length ≤ 14) (h : cwp Tryz.prog 14 pl62 (Tryz.f62.body.getD .skip) (retQ Tryz.prog Tryz.f62.results.toList K) (env0 args) H) : ACall Tryz.prog 62 args H K :=
  ACall.of_code (pl := pl62) Tryz.func62 rfl rfl fit62 ha h
def pl63 : Plans := [(6, .take 0 (.take 1 (.take 2 (.take 3 (.take 4 (.eff 5 [2, 3, 4] [0, 1] (.eff 6 [1, 5, 2, 3, 4] [0] (.eff 7 [0, 6, 1, 5, 2, 3, 4] [] (.eff 8 [7, 0, 1, 2, 3, 4, 5, 6] [] (.done) (.no)) (.no)) (.no)) (.no)))))))]
theorem fit63 : fits Tryz.prog 35 pl63 (Tryz.f63.body.getD .skip) = true := by kernel_rfl
theorem call63 {args : List AV} {H : Heap} {K : AV → Heap → Prop} (ha : args.length ≤ 35) (h : cwp Tryz.prog 35 pl63 (Tryz.f63.body.getD .skip) (retQ Tryz.prog Tryz.f63.results.toList K) (env0 args) H) : ACall Tryz.prog 63 args H K :=
  ACall.of_code (pl := pl63) Tryz.func63 rfl rfl fit63 ha h
def pl64 : Plans := []
theorem fit64 : fits Tryz.prog 17 pl64 (Tryz.f64.body.getD .skip) = true := by kernel_rfl
theorem call64 {args : List AV} {H : Heap} {K : AV → Heap → Prop} (ha : args.length ≤ 17) (h : cwp Tryz.prog 17 pl64 (Tryz.f64.body.getD .skip) (retQ Tryz.prog Tryz.f64.results.toList K) (env0 args) H) : ACall Tryz.prog 64 args H K :=
  ACall.of_code (pl := pl64) Tryz.func64 rfl rfl fit64 ha h
def pl65 : Plans := [(6, .take 0 (.take 1 (.take 2 (.take 3 (.take 4 (.eff 5 [2, 3, 4] [0, 1] (.eff 6 [1, 5, 2, 3, 4] [0] (.eff 7 [6, 1, 5, 2, 3, 4] [0] (.eff 8 [0, 7, 6, 1, 5, 2, 3, 4] [] (.eff 9 [8, 0, 1, 2, 3, 4, 5, 6, 7] [] (.done) (.no)) (.no)) (.no)) (.no)) (.no)))))))]
theorem fit65 : fits Tryz.prog 44 pl65 (Tryz.f65.body.getD .skip) = true := by kernel_rfl
theorem call65 {args : List AV} {H : Heap} {K : AV → Heap → Prop} (ha : args.length ≤ 44) (h : cwp Tryz.prog 44 pl65 (Tryz.f65.body.getD .skip) (retQ Tryz.prog Tryz.f65.results.toList K) (env0 args) H) : ACall Tryz.prog 65 args H K :=
  ACall.of_code (pl := pl65) Tryz.func65 rfl rfl fit65 ha h
def pl66 : Plans := []
theorem fit66 : fits Tryz.prog 13 pl66 (Tryz.f66.body.getD .skip) = true := by kernel_rfl
theorem call66 {args : List AV} {H : Heap} {K : AV → Heap → Prop} (ha : args.length ≤ 13) (h : cwp Tryz.prog 13 pl66 (Tryz.f66.body.getD .skip) (retQ Tryz.prog Tryz.f66.results.toList K) (env0 args) H) : ACall Tryz.prog 66 args H K :=
  ACall.of_code (pl := pl66) Tryz.func66 rfl rfl fit66 ha h
def pl67 : Plans := []
theorem fit67 : fits Tryz.prog 15 pl67 (Tryz.f67.body.getD .skip) = true := by kernel_rfl
theorem call67 {args : List AV} {H : Heap} {K : AV → Heap → Prop} (ha : args.length ≤ 15) (h : cwp Tryz.prog 15 pl67 (Tryz.f67.body.getD .skip) (retQ Tryz.prog Tryz.f67.results.toList K) (env0 args) H) : ACall Tryz.prog 67 args H K :=
  ACall.of_code (pl := pl67) Tryz.func67 rfl rfl fit67 ha h
def pl68 : Plans := []
theorem fit68 : fits Tryz.prog 21 pl68 (Tryz.f68.body.getD .skip) = true := by kernel_rfl
theorem call68 {args : List AV} {H : Heap} {K : AV → Heap → Prop} (ha : args.length ≤ 21) (h : cwp Tryz.prog 21 pl68 (Tryz.f68.body.getD .skip) (retQ Tryz.prog Tryz.f68.results.toList K) (env0 args) H) : ACall Tryz.prog 68 args H K :=
  ACall.of_code (pl := pl68) Tryz.func68 rfl rfl fit68 ha h
def pl69 : Plans := []
theorem fit69 : fits Tryz.prog 10 pl69 (Tryz.f69.body.getD .skip) = true := by kernel_rfl
theorem call69 {args : List AV} {H : Heap} {K : AV → Heap → Prop} (ha : args.length ≤ 10) (h : cwp Tryz.prog 10 pl69 (Tryz.f69.body.getD .skip) (retQ Tryz.prog Tryz.f69.results.toList K) (env0 args) H) : ACall Tryz.prog 69 args H K :=
  ACall.of_code (pl := pl69) Tryz.func69 rfl rfl fit69 ha h
def pl70 : Plans := []
theorem fit70 : fits Tryz.prog 17 pl70 (Tryz.f70.body.getD .skip) = true := by kernel_rfl
theorem call70 {args : List AV} {H : Heap} {K : AV → Heap → Prop} (ha : args.length ≤ 17) (h : cwp Tryz.prog 17 pl70 (Tryz.f70.body.getD .skip) (retQ Tryz.prog Tryz.f70.results.toList K) (env0 args) H) : ACall Tryz.prog 70 args H K :=
  ACall.of_code (pl := pl70) Tryz.func70 rfl rfl fit70 ha h
def pl71 : Plans := [(5, .take 0 (.take 1 (.take 2 (.take 3 (.eff 4 [2, 3] [0, 1] (.eff 5 [0, 1, 4, 2, 3] [] (.done) (.no)) (.no))))))]
theorem fit71 : fits Tryz.prog 24 pl71 (Tryz.f71.body.getD .skip) = true := by kernel_rfl
theorem call71 {args : List AV} {H : Heap} {K : AV → Heap → Prop} (ha : args.length ≤ 24) (h : cwp Tryz.prog 24 pl71 (Tryz.f71.body.getD .skip) (retQ Tryz.prog Tryz.f71.results.toList K) (env0 args) H) : ACall Tryz.prog 71 args H K :=
  ACall.of_code (pl := pl71) Tryz.func71 rfl rfl fit71 ha h
def pl72 : Plans := []
theorem fit72 : fits Tryz.prog 9 pl72 (Tryz.f72.body.getD .skip) = true := by kernel_rfl
theorem call72 {args : List AV} {H : Heap} {K : AV → Heap → Prop} (ha : args.length ≤ 9) (h : cwp Tryz.prog 9 pl72 (Tryz.f72.body.getD .skip) (retQ Tryz.prog Tryz.f72.results.toList K) (env0 args) H) : ACall Tryz.prog 72 args H K :=
  ACall.of_code (pl := pl72) Tryz.func72 rfl rfl fit72 ha h
def pl73 : Plans := []
theorem fit73 : fits Tryz.prog 8 pl73 (Tryz.f73.body.getD .skip) = true := by kernel_rfl
theorem call73 {args : List AV} {H : Heap} {K : AV → Heap → Prop} (ha : args.length ≤ 8) (h : cwp Tryz.prog 8 pl73 (Tryz.f73.body.getD .skip) (retQ Tryz.prog Tryz.f73.results.toList K) (env0 args) H) : ACall Tryz.prog 73 args H K :=
  ACall.of_code (pl := pl73) Tryz.func73 rfl rfl fit73 ha h
def pl74 : Plans := []
theorem fit74 : fits Tryz.prog 9 pl74 (Tryz.f74.body.getD .skip) = true := by kernel_rfl
theorem call74 {args : List AV} {H : Heap} {K : AV → Heap → Prop} (ha : args.length ≤ 9) (h : cwp Tryz.prog 9 pl74 (Tryz.f74.body.getD .skip) (retQ Tryz.prog Tryz.f74.results.toList K) (env0 args) H) : ACall Tryz.prog 74 args H K :=
  ACall.of_code (pl := pl74) Tryz.func74 rfl rfl fit74 ha h
def pl75 : Plans := []
theorem fit75 : fits Tryz.prog 13 pl75 (Tryz.f75.body.getD .skip) = true := by kernel_rfl
theorem call75 {args : List AV} {H : Heap} {K : AV → Heap → Prop} (ha : args.length ≤ 13) (h : cwp Tryz.prog 13 pl75 (Tryz.f75.body.getD .skip) (retQ Tryz.prog Tryz.f75.results.toList K) (env0 args) H) : ACall Tryz.prog 75 args H K :=
  ACall.of_code (pl := pl75) Tryz.func75 rfl rfl fit75 ha h
def pl76 : Plans := [(5, .take 0 (.take 1 (.take 2 (.take 3 (.take 4 (.take 5 (.take 6 (.take 7 (.take 8 (.take 9 (.eff 10 [9, 8] [0, 1, 2, 3, 4, 5, 6, 7] (.take 11 (.eff 12 [11, 7, 10, 2, 6, 9, 1, 4, 5, 8, 3] [0] (.eff 13 [0, 12, 10, 11, 9, 7, 8, 2, 6, 1, 4, 5, 3] [] (.eff 14 [13, 0, 1, 2, 3, 4, 5, 6, 7, 8, 9, 10, 11, 12] [] (.done) (.no)) (.no)) (.no))) (.no))))))))))))]
theorem fit76 : fits Tryz.prog 29 pl76 (Tryz.f76.body.getD .skip) = true := by kernel_rfl
theorem call76 {args : List AV} {H : Heap} {K : AV → Heap → Prop} (ha : args.length ≤ 29) (h : cwp Tryz.prog 29 pl76 (Tryz.f76.body.getD .skip) (retQ Tryz.prog Tryz.f76.results.toList K) (env0 args) H) : ACall Tryz.prog 76 args H K :=
  ACall.of_code (pl := pl76) Tryz.func76 rfl rfl fit76 ha h
def pl77 : Plans := []
theorem fit77 : fits Tryz.prog 12 pl77 (Tryz.f77.body.getD .skip) = true := by kernel_rfl
theorem call77 {args : List AV} {H : Heap} {K : AV → Heap → Prop} (ha : args.length ≤ 12) (h : cwp Tryz.prog 12 pl77 (Tryz.f77.body.getD .skip) (retQ Tryz.prog Tryz.f77.results.toList K) (env0 args) H) : ACall Tryz.prog 77 args H K :=
  ACall.of_code (pl := pl77) Tryz.func77 rfl rfl fit77 ha h
def pl78 : Plans := []
theorem fit78 : fits Tryz.prog 21 pl78 (Tryz.f78.body.getD .skip) = true := by kernel_rfl
theorem call78 {args : List AV} {H : Heap} {K : AV → Heap → Prop} (ha : args.length ≤ 21) (h : cwp Tryz.prog 21 pl78 (Tryz.f78.body.getD .skip) (retQ Tryz.prog Tryz.f78.results.toList K) (env0 args) H) : ACall Tryz.prog 78 args H K :=
  ACall.of_code (pl := pl78) Tryz.func78 rfl rfl fit78 ha h
def pl79 : Plans := []
theorem fit79 : fits Tryz.prog 16 pl79 (Tryz.f79.body.getD .skip) = true := by kernel_rfl
theorem call79 {args : List AV} {H : Heap} {K : AV → Heap → Prop} (ha : args.length ≤ 16) (h : cwp Tryz.prog 16 pl79 (Tryz.f79.body.getD .skip) (retQ Tryz.prog Tryz.f79.results.toList K) (env0 args) H) : ACall Tryz.prog 79 args H K :=
  ACall.of_code (pl := pl79) Tryz.func79 rfl rfl fit79 ha h
def pl80 : Plans := []
theorem fit80 : fits Tryz.prog 31 pl80 (Tryz.f80.body.getD .skip) = true := by kernel_rfl
theorem call80 {args : List AV} {H : Heap} {K : AV → Heap → Prop} (ha : args.length ≤ 31) (h : cwp Tryz.prog 31 pl80 (Tryz.f80.body.getD .skip) (retQ Tryz.prog Tryz.f80.results.toList K) (env0 args) H) : ACall Tryz.prog 80 args H K :=
  ACall.of_code (pl := pl80) Tryz.func80 rfl rfl fit80 ha h
def pl81 : Plans := []
theorem fit81 : fits Tryz.prog 11 pl81 (Tryz.f81.body.getD .skip) = true := by kernel_rfl
theorem call81 {args : List AV} {H : Heap} {K : AV → Heap → Prop} (ha : args.length ≤ 11) (h : cwp Tryz.prog 11 pl81 (Tryz.f81.body.getD .skip) (retQ Tryz.prog Tryz.f81.results.toList K) (env0 args) H) : ACall Tryz.prog 81 args H K :=
  ACall.of_code (pl := pl81) Tryz.func81 rfl rfl fit81 ha h
def pl82 : Plans := []
theorem fit82 : fits Tryz.prog 13 pl82 (Tryz.f82.body.getD .skip) = true := by kernel_rfl
theorem call82 {args : List AV} {H : Heap} {K : AV → Heap → Prop} (ha : args.length ≤ 13) (h : cwp Tryz.prog 13 pl82 (Tryz.f82.body.getD .skip) (retQ Tryz.prog Tryz.f82.results.toList K) (env0 args) H) : ACall Tryz.prog 82 args H K :=
  ACall.of_code (pl := pl82) Tryz.func82 rfl rfl fit82 ha h
def pl83 : Plans := []
theorem fit83 : fits Tryz.prog 11 pl83 (Tryz.f83.body.getD .skip) = true := by kernel_rfl
theorem call83 {args : List AV} {H : Heap} {K : AV → Heap → Prop} (ha : args.length ≤ 11) (h : cwp Tryz.prog 11 pl83 (Tryz.f83.body.getD .skip) (retQ Tryz.prog Tryz.f83.results.toList K) (env0 args) H) : ACall Tryz.prog 83 args H K :=
  ACall.of_code (pl := pl83) Tryz.func83 rfl rfl fit83 ha h
def pl84 : Plans := [(1, .take 0 (.take 2 (.take 3 (.take 4 (.eff 1 [0] [2, 3, 4] (.eff 5 [2, 4, 1, 3, 0] [] (.eff 6 [1, 5, 0, 2, 4, 3] [] (.take 7 (.done)) (.no)) (.no)) (.no))))))]
theorem fit84 : fits Tryz.prog 10 pl84 (Tryz.f84.body.getD .skip) = true := by kernel_rfl
theorem call84 {args : List AV} {H : Heap} {K : AV → Heap → Prop} (ha : args.length ≤ 10) (h : cwp Tryz.prog 10 pl84 (Tryz.f84.body.getD .skip) (retQ Tryz.prog Tryz.f84.results.toList K) (env0 args) H) : ACall Tryz.prog 84 args H K :=
  ACall.of_code (pl := pl84) Tryz.func84 rfl rfl fit84 ha h
def pl85 : Plans := [(1, .take 0 (.take 1 (.take 2 (.take 3 (.eff 4 [2, 3] [0, 1] (.eff 5 [0, 1, 4, 2, 3] [] (.take 6 (.take 7 (.done))) (.no)) (.no))))))]
theorem fit85 : fits Tryz.prog 12 pl85 (Tryz.f85.body.getD .skip) = true := by kernel_rfl
theorem call85 {args : List AV} {H : Heap} {K : AV → Heap → Prop} (ha : args.length ≤ 12) (h : cwp Tryz.prog 12 pl85 (Tryz.f85.body.getD .skip) (retQ Tryz.prog Tryz.f85.results.toList K) (env0 args) H) : ACall Tryz.prog 85 args H K :=
  ACall.of_code (pl := pl85) Tryz.func85 rfl rfl fit85 ha h
def pl86 : Plans := []
theorem fit86 : fits Tryz.prog 15 pl86 (Tryz.f86.body.getD .skip) = true := by kernel_rfl
theorem call86 {args : List AV} {H : Heap} {K : AV → Heap → Prop} (ha : args.length ≤ 15) (h : cwp Tryz.prog 15 pl86 (Tryz.f86.body.getD .skip) (retQ Tryz.prog Tryz.f86.results.toList K) (env0 args) H) : ACall Tryz.prog 86 args H K :=
  ACall.of_code (pl := pl86) Tryz.func86 rfl rfl fit86 ha h
def pl87 : Plans := []
theorem fit87 : fits Tryz.prog 21 pl87 (Tryz.f87.body.getD .skip) = true := by kernel_rfl
theorem call87 {args : List AV} {H : Heap} {K : AV → Heap → Prop} (ha : args.length ≤ 21) (h : cwp Tryz.prog 21 pl87 (Tryz.f87.body.getD .skip) (retQ Tryz.prog Tryz.f87.results.toList K) (env0 args) H) : ACall Tryz.prog 87 args H K :=
  ACall.of_code (pl := pl87) Tryz.func87 rfl rfl fit87 ha h
def pl88 : Plans := []
theorem fit88 : fits Tryz.prog 30 pl88 (Tryz.f88.body.getD .skip) = true := by kernel_rfl
theorem call88 {args : List AV} {H : Heap} {K : AV → Heap → Prop} (ha : args.length ≤ 30) (h : cwp Tryz.prog 30 pl88 (Tryz.f88.body.getD .skip) (retQ Tryz.prog Tryz.f88.results.toList K) (env0 args) H) : ACall Tryz.prog 88 args H K :=
  ACall.of_code (pl := pl88) Tryz.func88 rfl rfl fit88 ha h
def pl89 : Plans := []
theorem fit89 : fits Tryz.prog 64 pl89 (Tryz.f89.body.getD .skip) = true := by kernel_rfl
theorem call89 {args : List AV} {H : Heap} {K : AV → Heap → Prop} (ha : args.length ≤ 64) (h : cwp Tryz.prog 64 pl89 (Tryz.f89.body.getD .skip) (retQ Tryz.prog Tryz.f89.results.toList K) (env0 args) H) : ACall Tryz.prog 89 args H K :=
  ACall.of_code (pl := pl89) Tryz.func89 rfl rfl fit89 ha h
def pl90 : Plans := []
theorem fit90 : fits Tryz.prog 19 pl90 (Tryz.f90.body.getD .skip) = true := by kernel_rfl
theorem call90 {args : List AV} {H : Heap} {K : AV → Heap → Prop} (ha : args.length ≤ 19) (h : cwp Tryz.prog 19 pl90 (Tryz.f90.body.getD .skip) (retQ Tryz.prog Tryz.f90.results.toList K) (env0 args) H) : ACall Tryz.prog 90 args H K :=
  ACall.of_code (pl := pl90) Tryz.func90 rfl rfl fit90 ha h
def pl91 : Plans := [(5, .take 0 (.take 1 (.take 2 (.take 3 (.eff 4 [2, 3] [0, 1] (.eff 5 [0, 1, 4, 2, 3] [] (.done) (.no)) (.no))))))]
theorem fit91 : fits Tryz.prog 25 pl91 (Tryz.f91.body.getD .skip) = true := by kernel_rfl
theorem call91 {args : List AV} {H : Heap} {K : AV → Heap → Prop} (ha : args.length ≤ 25) (h : cwp Tryz.prog 25 pl91 (Tryz.f91.body.getD .skip) (retQ Tryz.prog Tryz.f91.results.toList K) (env0 args) H) : ACall Tryz.prog 91 args H K :=
  ACall.of_code (pl := pl91) Tryz.func91 rfl rfl fit91 ha h
def pl92 : Plans := []
theorem fit92 : fits Tryz.prog 27 pl92 (Tryz.f92.body.getD .skip) = true := by kernel_rfl
theorem call92 {args : List AV} {H : Heap} {K : AV → Heap → Prop} (ha : args.length ≤ 27) (h : cwp Tryz.prog 27 pl92 (Tryz.f92.body.getD .skip) (retQ Tryz.prog Tryz.f92.results.toList K) (env0 args) H) : ACall Tryz.prog 92 args H K :=
  ACall.of_code (pl := pl92) Tryz.func92 rfl rfl fit92 ha h
def pl93 : Plans := []
theorem fit93 : fits Tryz.prog 9 pl93 (Tryz.f93.body.getD .skip) = true := by kernel_rfl
theorem call93 {args : List AV} {H : Heap} {K : AV → Heap → Prop} (ha : args.length ≤ 9) (h : cwp Tryz.prog 9 pl93 (Tryz.f93.body.getD .skip) (retQ Tryz.prog Tryz.f93.results.toList K) (env0 args) H) : ACall Tryz.prog 93 args H K :=
  ACall.of_code (pl := pl93) Tryz.func93 rfl rfl fit93 ha h
def pl94 : Plans := []
theorem fit94 : fits Tryz.prog 10 pl94 (Tryz.f94.body.getD .skip) = true := by kernel_rfl
theorem call94 {args : List AV} {H : Heap} {K : AV → Heap → Prop} (ha : args.length ≤ 10) (h : cwp Tryz.prog 10 pl94 (Tryz.f94.body.getD .skip) (retQ Tryz.prog Tryz.f94.results.toList K) (env0 args) H) : ACall Tryz.prog 94 args H K :=
  ACall.of_code (pl := pl94) Tryz.func94 rfl rfl fit94 ha h
def pl95 : Plans := []
theorem fit95 : fits Tryz.prog 35 pl95 (Tryz.f95.body.getD .skip) = true := by kernel_rfl
theorem call95 {args : List AV} {H : Heap} {K : AV → Heap → Prop} (ha : args.length ≤ 35) (h : cwp Tryz.prog 35 pl95 (Tryz.f95.body.getD .skip) (retQ Tryz.prog Tryz.f95.results.toList K) (env0 args) H) : ACall Tryz.prog 95 args H K :=
  ACall.of_code (pl := pl95) Tryz.func95 rfl rfl fit95 ha h
def pl96 : Plans := []
theorem fit96 : fits Tryz.prog 32 pl96 (Tryz.f96.body.getD .skip) = true := by kernel_rfl
theorem call96 {args : List AV} {H : Heap} {K : AV → Heap → Prop} (ha : args.length ≤ 32) (h : cwp Tryz.prog 32 pl96 (Tryz.f96.body.getD .skip) (retQ Tryz.prog Tryz.f96.results.toList K) (env0 args) H) : ACall Tryz.prog 96 args H K :=
  ACall.of_code (pl := pl96) Tryz.func96 rfl rfl fit96 ha h
def pl97 : Plans := []
theorem fit97 : fits Tryz.prog 35 pl97 (Tryz.f97.body.getD .skip) = true := by kernel_rfl
theorem call97 {args : List AV} {H : Heap} {K : AV → Heap → Prop} (ha : args.length ≤ 35) (h : cwp Tryz.prog 35 pl97 (Tryz.f97.body.getD .skip) (retQ Tryz.prog Tryz.f97.results.toList K) (env0 args) H) : ACall Tryz.prog 97 args H K :=
  ACall.of_code (pl := pl97) Tryz.func97 rfl rfl fit97 ha h
def pl98 : Plans := []
theorem fit98 : fits Tryz.prog 9 pl98 (Tryz.f98.body.getD .skip) = true := by kernel_rfl
theorem call98 {args : List AV} {H : Heap} {K : AV → Heap → Prop} (ha : args.length ≤ 9) (h : cwp Tryz.prog 9 pl98 (Tryz.f98.body.getD .skip) (retQ Tryz.prog Tryz.f98.results.toList K) (env0 args) H) : ACall Tryz.prog 98 args H K :=
  ACall.of_code (pl := pl98) Tryz.func98 rfl rfl fit98 ha h
def pl99 : Plans := []
theorem fit99 : fits Tryz.prog 26 pl99 (Tryz.f99.body.getD .skip) = true := by kernel_rfl
theorem call99 {args : List AV} {H : Heap} {K : AV → Heap → Prop} (ha : args.length ≤ 26) (h : cwp Tryz.prog 26 pl99 (Tryz.f99.body.getD .skip) (retQ Tryz.prog Tryz.f99.results.toList K) (env0 args) H) : ACall Tryz.prog 99 args H K :=
  ACall.of_code (pl := pl99) Tryz.func99 rfl rfl fit99 ha h
def pl100 : Plans := []
theorem fit100 : fits Tryz.prog 37 pl100 (Tryz.f100.body.getD .skip) = true := by kernel_rfl
theorem call100 {args : List AV} {H : Heap} {K : AV → Heap → Prop} (ha : args.length ≤ 37) (h : cwp Tryz.prog 37 pl100 (Tryz.f100.body.getD .skip) (retQ Tryz.prog Tryz.f100.results.toList K) (env0 args) H) : ACall Tryz.prog 100 args H K :=
  ACall.of_code (pl := pl100) Tryz.func100 rfl rfl fit100 ha h
def pl101 : Plans := []
theorem fit101 : fits Tryz.prog 22 pl101 (Tryz.f101.body.getD .skip) = true := by kernel_rfl
theorem call101 {args : List AV} {H : Heap} {K : AV → Heap → Prop} (ha : args.length ≤ 22) (h : cwp Tryz.prog 22 pl101 (Tryz.f101.body.getD .skip) (retQ Tryz.prog Tryz.f101.results.toList K) (env0 args) H) : ACall Tryz.prog 101 args H K :=
  ACall.of_code (pl := pl101) Tryz.func101 rfl rfl fit101 ha h
def pl102 : Plans := [(5, .take 0 (.take 1 (.take 2 (.take 3 (.take 4 (.take 5 (.take 6 (.take 7 (.take 8 (.take 9 (.take 10 (.take 11 (.take 12 (.take 13 (.take 14 (.take 15 (.take 16 (.take 17 (.take 18 (.take 19 (.done)))))))))))))))))))))]
theorem fit102 : fits Tryz.prog 75 pl102 (Tryz.f102.body.getD .skip) = true := by kernel_rfl
theorem call102 {args : List AV} {H : Heap} {K : AV → Heap → Prop} (ha : args.length ≤ 75) (h : cwp Tryz.prog 75 pl102 (Tryz.f102.body.getD .skip) (retQ Tryz.prog Tryz.f102.results.toList K) (env0 args) H) : ACall Tryz.prog 102 args H K :=
  ACall.of_code (pl := pl102) Tryz.func102 rfl rfl fit102 ha h
def pl103 : Plans := []
theorem fit103 : fits Tryz.prog 18 pl103 (Tryz.f103.body.getD .skip) = true := by kernel_rfl
theorem call103 {args : List AV} {H : Heap} {K : AV → Heap → Prop} (ha : args.length ≤ 18) (h : cwp Tryz.prog 18 pl103 (Tryz.f103.body.getD .skip) (retQ Tryz.prog Tryz.f103.results.toList K) (env0 args) H) : ACall Tryz.prog 103 args H K :=
  ACall.of_code (pl := pl103) Tryz.func103 rfl rfl fit103 ha h
def pl104 : Plans := [(6, .take 0 (.take 1 (.take 2 (.take 3 (.take 4 (.eff 5 [1, 4, 0, 3, 2] [] (.take 6 (.take 7 (.take 8 (.take 9 (.take 10 (.take 11 (.take 12 (.take 13 (.take 14 (.take 15 (.take 16 (.take 17 (.take 18 (.take 19 (.take 20 (.take 21 (.take 22 (.take 23 (.take 24 (.take 25 (.take 26 (.take 27 (.take 28 (.take 29 (.eff 30 [25, 27, 29, 23, 24, 26, 28, 22, 10, 7, 21, 9, 6, 5, 20, 8, 1, 4, 17, 19, 0, 3, 16, 18, 2, 15, 12, 14, 11, 13] [] (.take 31 (.take 32 (.done))) (.no)))))))))))))))))))))))))) (.no)))))))]
theorem fit104 : fits Tryz.prog 62 pl104 (Tryz.f104.body.getD .skip) = true := by kernel_rfl
theorem call104 {args : List AV} {H : Heap} {K : AV → Heap → Prop} (ha : args.length ≤ 62) (h : cwp Tryz.prog 62 pl104 (Tryz.f104.body.getD .skip) (retQ Tryz.prog Tryz.f104.results.toList K) (env0 args) H) : ACall Tryz.prog 104 args H K :=
  ACall.of_code (pl := pl104) Tryz.func104 rfl rfl fit104 ha h
def pl105 : Plans := []
theorem fit105 : fits Tryz.prog 18 pl105 (Tryz.f105.body.getD .skip) = true := by kernel_rfl
theorem call105 {args : List AV} {H : Heap} {K : AV → Heap → Prop} (ha : args.length ≤ 18) (h : cwp Tryz.prog 18 pl105 (Tryz.f105.body.getD .skip) (retQ Tryz.prog Tryz.f105.results.toList K) (env0 args) H) : ACall Tryz.prog 105 args H K :=
  ACall.of_code (pl := pl105) Tryz.func105 rfl rfl fit105 ha h
def pl106 : Plans := []
theorem fit106 : fits Tryz.prog 18 pl106 (Tryz.f106.body.getD .skip) = true := by kernel_rfl
theorem call106 {args : List AV} {H : Heap} {K : AV → Heap → Prop} (ha : args.length ≤ 18) (h : cwp Tryz.prog 18 pl106 (Tryz.f106.body.getD .skip) (retQ Tryz.prog Tryz.f106.results.toList K) (env0 args) H) : ACall Tryz.prog 106 args H K :=
  ACall.of_code (pl := pl106) Tryz.func106 rfl rfl fit106 ha h
def pl107 : Plans := [(5, .take 0 (.take 1 (.take 2 (.take 3 (.take 4 (.take 5 (.take 6 (.take 7 (.take 8 (.take 9 (.take 10 (.take 11 (.eff 12 [4, 6, 10, 11, 3, 5, 9, 8, 7] [0, 1, 2] (.take 13 (.eff 14 [13, 12, 0, 1, 2, 3, 4, 5, 6, 7, 8, 9, 10, 11] [] (.done) (.no))) (.no))))))))))))))]
theorem fit107 : fits Tryz.prog 40 pl107 (Tryz.f107.body.getD .skip) = true := by kernel_rfl
theorem call107 {args : List AV} {H : Heap} {K : AV → Heap → Prop} (ha : args.length ≤ 40) (h : cwp Tryz.prog 40 pl107 (Tryz.f107.body.getD .skip) (retQ Tryz.prog Tryz.f107.results.toList K) (env0 args) H) : ACall Tryz.prog 107 args H K :=
  ACall.of_code (pl := pl107) Tryz.func107 rfl rfl fit107 ha h
def pl108 : Plans := []
theorem fit108 : fits Tryz.prog 13 pl108 (Tryz.f108.body.getD .skip) = true := by kernel_rfl
theorem call108 {args : List AV} {H : Heap} {K : AV → Heap → Prop} (ha : args.length ≤ 13) (h : cwp Tryz.prog 13 pl108 (Tryz.f108.body.getD .skip) (retQ Tryz.prog Tryz.f108.results.toList K) (env0 args) H) : ACall Tryz.prog 108 args H K :=
  ACall.of_code (pl := pl108) Tryz.func108 rfl rfl fit108 ha h
def pl109 : Plans := []
theorem fit109 : fits Tryz.prog 37 pl109 (Tryz.f109.body.getD .skip) = true := by kernel_rfl
theorem call109 {args : List AV} {H : Heap} {K : AV → Heap → Prop} (ha : args.length ≤ 37) (h : cwp Tryz.prog 37 pl109 (Tryz.f109.body.getD .skip) (retQ Tryz.prog Tryz.f109.results.toList K) (env0 args) H) : ACall Tryz.prog 109 args H K :=
  ACall.of_code (pl := pl109) Tryz.func109 rfl rfl fit109 ha h
def pl110 : Plans := []
theorem fit110 : fits Tryz.prog 25 pl110 (Tryz.f110.body.getD .skip) = true := by kernel_rfl
theorem call110 {args : List AV} {H : Heap} {K : AV → Heap → Prop} (ha : args.length ≤ 25) (h : cwp Tryz.prog 25 pl110 (Tryz.f110.body.getD .skip) (retQ Tryz.prog Tryz.f110.results.toList K) (env0 args) H) : ACall Tryz.prog 110 args H K :=
  ACall.of_code (pl := pl110) Tryz.func110 rfl rfl fit110 ha h
def pl111 : Plans := []
theorem fit111 : fits Tryz.prog 14 pl111 (Tryz.f111.body.getD .skip) = true := by kernel_rfl
theorem call111 {args : List AV} {H : Heap} {K : AV → Heap → Prop} (ha : args.length ≤ 14) (h : cwp Tryz.prog 14 pl111 (Tryz.f111.body.getD .skip) (retQ Tryz.prog Tryz.f111.results.toList K) (env0 args) H) : ACall Tryz.prog 111 args H K :=
  ACall.of_code (pl := pl111) Tryz.func111 rfl rfl fit111 ha h
def pl112 : Plans := [(5, .take 0 (.take 1 (.take 2 (.take 3 (.take 4 (.take 5 (.take 6 (.take 7 (.eff 8 [4, 6, 7, 3, 5] [0, 1, 2] (.take 9 (.eff 10 [9, 8, 0, 1, 2, 3, 4, 5, 6, 7] [] (.done) (.no))) (.no))))))))))]
theorem fit112 : fits Tryz.prog 31 pl112 (Tryz.f112.body.getD .skip) = true := by kernel_rfl
theorem call112 {args : List AV} {H : Heap} {K : AV → Heap → Prop} (ha : args.length ≤ 31) (h : cwp Tryz.prog 31 pl112 (Tryz.f112.body.getD .skip) (retQ Tryz.prog Tryz.f112.results.toList K) (env0 args) H) : ACall Tryz.prog 112 args H K :=
  ACall.of_code (pl := pl112) Tryz.func112 rfl rfl fit112 ha h
def pl113 : Plans := []
theorem fit113 : fits Tryz.prog 17 pl113 (Tryz.f113.body.getD .skip) = true := by kernel_rfl
theorem call113 {args : List AV} {H : Heap} {K : AV → Heap → Prop} (ha : args.length ≤ 17) (h : cwp Tryz.prog 17 pl113 (Tryz.f113.body.getD .skip) (retQ Tryz.prog Tryz.f113.results.toList K) (env0 args) H) : ACall Tryz.prog 113 args H K :=
  ACall.of_code (pl := pl113) Tryz.func113 rfl rfl fit113 ha h
def pl114 : Plans := []
theorem fit114 : fits Tryz.prog 27 pl114 (Tryz.f114.body.getD .skip) = true := by kernel_rfl
theorem call114 {args : List AV} {H : Heap} {K : AV → Heap → Prop} (ha : args.length ≤ 27) (h : cwp Tryz.prog 27 pl114 (Tryz.f114.body.getD .skip) (retQ Tryz.prog Tryz.f114.results.toList K) (env0 args) H) : ACall Tryz.prog 114 args H K :=
  ACall.of_code (pl := pl114) Tryz.func114 rfl rfl fit114 ha h
def pl115 : Plans := []
theorem fit115 : fits Tryz.prog 48 pl115 (Tryz.f115.body.getD .skip) = true := by kernel_rfl
theorem call115 {args : List AV} {H : Heap} {K : AV → Heap → Prop} (ha : args.length ≤ 48) (h : cwp Tryz.prog 48 pl115 (Tryz.f115.body.getD .skip) (retQ Tryz.prog Tryz.f115.results.toList K) (env0 args) H) : ACall Tryz.prog 115 args H K :=
  ACall.of_code (pl := pl115) Tryz.func115 rfl rfl fit115 ha h
def pl116 : Plans := [(5, .take 0 (.take 1 (.take 2 (.take 3 (.take 4 (.take 5 (.take 6 (.take 7 (.take 8 (.take 9 (.take 10 (.eff 11 [10, 0, 1, 2, 3, 4, 5, 6, 7, 8, 9] [] (.done) (.no)))))))))))))]
theorem fit116 : fits Tryz.prog 26 pl116 (Tryz.f116.body.getD .skip) = true := by kernel_rfl
theorem call116 {args : List AV} {H : Heap} {K : AV → Heap → Prop} (ha : args.length ≤ 26) (h : cwp Tryz.prog 26 pl116 (Tryz.f116.body.getD .skip) (retQ Tryz.prog Tryz.f116.results.toList K) (env0 args) H) : ACall Tryz.prog 116 args H K :=
  ACall.of_code (pl := pl116) Tryz.func116 rfl rfl fit116 ha h
def pl117 : Plans := []
theorem fit117 : fits Tryz.prog 26 pl117 (Tryz.f117.body.getD .skip) = true := by kernel_rfl
theorem call117 {args : List AV} {H : Heap} {K : AV → Heap → Prop} (ha : args.length ≤ 26) (h : cwp Tryz.prog 26 pl117 (Tryz.f117.body.getD .skip) (retQ Tryz.prog Tryz.f117.results.toList K) (env0 args) H) : ACall Tryz.prog 117 args H K :=
  ACall.of_code (pl := pl117) Tryz.func117 rfl rfl fit117 ha h
def pl118 : Plans := []
theorem fit118 : fits Tryz.prog 11 pl118 (Tryz.f118.body.getD .skip) = true := by kernel_rfl
theorem call118 {args : List AV} {H : Heap} {K : AV → Heap → Prop} (ha : args.length ≤ 11) (h : cwp Tryz.prog 11 pl118 (Tryz.f118.body.getD .skip) (retQ Tryz.prog Tryz.f118.results.toList K) (env0 args) H) : ACall Tryz.prog 118 args H K :=
  ACall.of_code (pl := pl118) Tryz.func118 rfl rfl fit118 ha h
def pl119 : Plans := [(6, .take 0 (.take 1 (.take 2 (.take 3 (.take 4 (.take 5 (.take 6 (.take 7 (.take 8 (.take 9 (.done))))))))))), (11, .take 0 (.take 1 (.take 2 (.take 3 (.take 4 (.take 5 (.take 6 (.take 7 (.take 8 (.take 9 (.done)))))))))))]
theorem fit119 : fits Tryz.prog 61 pl119 (Tryz.f119.body.getD .skip) = true := by kernel_rfl
theorem call119 {args : List AV} {H : Heap} {K : AV → Heap → Prop} (ha : args.length ≤ 61) (h : cwp Tryz.prog 61 pl119 (Tryz.f119.body.getD .skip) (retQ Tryz.prog Tryz.f119.results.toList K) (env0 args) H) : ACall Tryz.prog 119 args H K :=
  ACall.of_code (pl := pl119) Tryz.func119 rfl rfl fit119 ha h
def pl120 : Plans := []
theorem fit120 : fits Tryz.prog 19 pl120 (Tryz.f120.body.getD .skip) = true := by kernel_rfl
theorem call120 {args : List AV} {H : Heap} {K : AV → Heap → Prop} (ha : args.length ≤ 19) (h : cwp Tryz.prog 19 pl120 (Tryz.f120.body.getD .skip) (retQ Tryz.prog Tryz.f120.results.toList K) (env0 args) H) : ACall Tryz.prog 120 args H K :=
  ACall.of_code (pl := pl120) Tryz.func120 rfl rfl fit120 ha h
def pl121 : Plans := []
theorem fit121 : fits Tryz.prog 19 pl121 (Tryz.f121.body.getD .skip) = true := by kernel_rfl
theorem call121 {args : List AV} {H : Heap} {K : AV → Heap → Prop} (ha : args.length ≤ 19) (h : cwp Tryz.prog 19 pl121 (Tryz.f121.body.getD .skip) (retQ Tryz.prog Tryz.f121.results.toList K) (env0 args) H) : ACall Tryz.prog 121 args H K :=
  ACall.of_code (pl := pl121) Tryz.func121 rfl rfl fit121 ha h
def pl122 : Plans := [(14, .take 0 (.take 1 (.take 2 (.take 3 (.take 4 (.take 5 (.take 6 (.take 7 (.eff 8 [7] [0, 1, 2, 3, 4, 5, 6] (.take 9 (.take 10 (.eff 11 [10, 9, 8, 0, 1, 2, 3, 4, 5, 6, 7] [] (.done) (.no)))) (.no)))))))))), (7, .take 0 (.take 1 (.take 2 (.take 3 (.take 4 (.take 5 (.take 6 (.take 7 (.take 8 (.take 9 (.take 10 (.take 11 (.take 12 (.take 13 (.take 14 (.take 15 (.eff 16 [4, 6, 11, 15, 5, 10, 14, 7, 9, 12, 13, 8] [0, 1, 2, 3] (.eff 17 [16, 4, 6, 11, 15, 5, 10, 14, 7, 9, 12, 13, 8] [0, 1, 2, 3] (.eff 18 [3, 17, 16, 0, 2, 4, 6, 11, 15, 1, 5, 10, 14, 7, 9, 12, 13, 8] [] (.eff 19 [18, 0, 1, 2, 3, 4, 5, 6, 7, 8, 9, 10, 11, 12, 13, 14, 15, 16, 17] [] (.done) (.no)) (.no)) (.no)) (.no))))))))))))))))))]
theorem fit122 : fits Tryz.prog 87 pl122 (Tryz.f122.body.getD .skip) = true := by kernel_rfl
theorem call122 {args : List AV} {H : Heap} {K : AV → Heap → Prop} (ha : args.length ≤ 87) (h : cwp Tryz.prog 87 pl122 (Tryz.f122.body.getD .skip) (retQ Tryz.prog Tryz.f122.results.toList K) (env0 args) H) : ACall Tryz.prog 122 args H K :=
  ACall.of_code (pl := pl122) Tryz.func122 rfl rfl fit122 ha h
def pl123 : Plans := []
theorem fit123 : fits Tryz.prog 6 pl123 (Tryz.f123.body.getD .skip) = true := by kernel_rfl
theorem call123 {args : List AV} {H : Heap} {K : AV → Heap → Prop} (ha : args.length ≤ 6) (h : cwp Tryz.prog 6 pl123 (Tryz.f123.body.getD .skip) (retQ Tryz.prog Tryz.f123.results.toList K) (env0 args) H) : ACall Tryz.prog 123 args H K :=
  ACall.of_code (pl := pl123) Tryz.func123 rfl rfl fit123 ha h
def pl124 : Plans := []
theorem fit124 : fits Tryz.prog 83 pl124 (Tryz.f124.body.getD .skip) = true := by kernel_rfl
theorem call124 {args : List AV} {H : Heap} {K : AV → Heap → Prop} (ha : args.length ≤ 83) (h : cwp Tryz.prog 83 pl124 (Tryz.f124.body.getD .skip) (retQ Tryz.prog Tryz.f124.results.toList K) (env0 args) H) : ACall Tryz.prog 124 args H K :=
  ACall.of_code (pl := pl124) Tryz.func124 rfl rfl fit124 ha h
def pl125 : Plans := [(11, .take 0 (.take 1 (.take 2 (.take 3 (.take 4 (.take 5 (.take 6 (.take 7 (.take 10 (.take 12 (.take 13 (.take 14 (.take 15 (.take 16 (.eff 8 [5, 7, 6] [0, 1, 2, 3, 4, 10, 12, 13, 14, 15, 16] (.take 9 (.eff 11 [3, 4, 9, 10, 8, 5, 7, 6] [0, 1, 2, 12, 13, 14, 15, 16] (.eff 17 [12, 13, 15, 16, 11, 14, 3, 4, 9, 10, 8, 5, 7, 6] [0, 1, 2] (.eff 18 [0, 2, 11, 17, 1, 3, 4, 9, 10, 8, 12, 13, 15, 16, 5, 7, 14, 6] [] (.take 19 (.done)) (.no)) (.no)) (.no))) (.no))))))))))))))))]
theorem fit125 : fits Tryz.prog 81 pl125 (Tryz.f125.body.getD .skip) = true := by kernel_rfl
theorem call125 {args : List AV} {H : Heap} {K : AV → Heap → Prop} (ha : args.length ≤ 81) (h : cwp Tryz.prog 81 pl125 (Tryz.f125.body.getD .skip) (retQ Tryz.prog Tryz.f125.results.toList K) (env0 args) H) : ACall Tryz.prog 125 args H K :=
  ACall.of_code (pl := pl125) Tryz.func125 rfl rfl fit125 ha h
def pl126 : Plans := []
theorem fit126 : fits Tryz.prog 19 pl126 (Tryz.f126.body.getD .skip) = true := by kernel_rfl
theorem call126 {args : List AV} {H : Heap} {K : AV → Heap → Prop} (ha : args.length ≤ 19) (h : cwp Tryz.prog 19 pl126 (Tryz.f126.body.getD .skip) (retQ Tryz.prog Tryz.f126.results.toList K) (env0 args) H) : ACall Tryz.prog 126 args H K :=
  ACall.of_code (pl := pl126) Tryz.func126 rfl rfl fit126 ha h
def pl127 : Plans := []
theorem fit127 : fits Tryz.prog 6 pl127 (Tryz.f127.body.getD .skip) = true := by kernel_rfl
theorem call127 {args : List AV} {H : Heap} {K : AV → Heap → Prop} (ha : args.length ≤ 6) (h : cwp Tryz.prog 6 pl127 (Tryz.f127.body.getD .skip) (retQ Tryz.prog Tryz.f127.results.toList K) (env0 args) H) : ACall Tryz.prog 127 args H K :=
  ACall.of_code (pl := pl127) Tryz.func127 rfl rfl fit127 ha h
def pl128 : Plans := [(9, .take 0 (.take 1 (.take 2 (.take 3 (.take 4 (.take 5 (.take 6 (.eff 7 [3, 6, 1, 2, 4, 5] [0] (.take 8 (.eff 9 [8, 7, 0, 1, 2, 3, 4, 5, 6] [] (.done) (.no))) (.no)))))))))]
theorem fit128 : fits Tryz.prog 48 pl128 (Tryz.f128.body.getD .skip) = true := by kernel_rfl
theorem call128 {args : List AV} {H : Heap} {K : AV → Heap → Prop} (ha : args.length ≤ 48) (h : cwp Tryz.prog 48 pl128 (Tryz.f128.body.getD .skip) (retQ Tryz.prog Tryz.f128.results.toList K) (env0 args) H) : ACall Tryz.prog 128 args H K :=
  ACall.of_code (pl := pl128) Tryz.func128 rfl rfl fit128 ha h
def pl129 : Plans := []
theorem fit129 : fits Tryz.prog 8 pl129 (Tryz.f129.body.getD .skip) = true := by kernel_rfl
theorem call129 {args : List AV} {H : Heap} {K : AV → Heap → Prop} (ha : args.length ≤ 8) (h : cwp Tryz.prog 8 pl129 (Tryz.f129.body.getD .skip) (retQ Tryz.prog Tryz.f129.results.toList K) (env0 args) H) : ACall Tryz.prog 129 args H K :=
  ACall.of_code (pl := pl129) Tryz.func129 rfl rfl fit129 ha h
def pl130 : Plans := []
theorem fit130 : fits Tryz.prog 19 pl130 (Tryz.f130.body.getD .skip) = true := by kernel_rfl
theorem call130 {args : List AV} {H : Heap} {K : AV → Heap → Prop} (ha : args.length ≤ 19) (h : cwp Tryz.prog 19 pl130 (Tryz.f130.body.getD .skip) (retQ Tryz.prog Tryz.f130.results.toList K) (env0 args) H) : ACall Tryz.prog 130 args H K :=
  ACall.of_code (pl := pl130) Tryz.func130 rfl rfl fit130 ha h
def pl131 : Plans := []
theorem fit131 : fits Tryz.prog 17 pl131 (Tryz.f131.body.getD .skip) = true := by kernel_rfl
theorem call131 {args : List AV} {H : Heap} {K : AV → Heap → Prop} (ha : args.length ≤ 17) (h : cwp Tryz.prog 17 pl131 (Tryz.f131.body.getD .skip) (retQ Tryz.prog Tryz.f131.results.toList K) (env0 args) H) : ACall Tryz.prog 131 args H K :=
  ACall.of_code (pl := pl131) Tryz.func131 rfl rfl fit131 ha h
def pl132 : Plans := [(1, .take 0 (.take 1 (.take 2 (.take 3 (.take 4 (.take 5 (.take 6 (.take 7 (.take 8 (.take 9 (.take 10 (.done))))))))))))]
theorem fit132 : fits Tryz.prog 15 pl132 (Tryz.f132.body.getD .skip) = true := by kernel_rfl
theorem call132 {args : List AV} {H : Heap} {K : AV → Heap → Prop} (ha : args.length ≤ 15) (h : cwp Tryz.prog 15 pl132 (Tryz.f132.body.getD .skip) (retQ Tryz.prog Tryz.f132.results.toList K) (env0 args) H) : ACall Tryz.prog 132 args H K :=
  ACall.of_code (pl := pl132) Tryz.func132 rfl rfl fit132 ha h
def pl133 : Plans := []
theorem fit133 : fits Tryz.prog 27 pl133 (Tryz.f133.body.getD .skip) = true := by kernel_rfl
theorem call133 {args : List AV} {H : Heap} {K : AV → Heap → Prop} (ha : args.length ≤ 27) (h : cwp Tryz.prog 27 pl133 (Tryz.f133.body.getD .skip) (retQ Tryz.prog Tryz.f133.results.toList K) (env0 args) H) : ACall Tryz.prog 133 args H K :=
  ACall.of_code (pl := pl133) Tryz.func133 rfl rfl fit133 ha h
def pl134 : Plans := []
theorem fit134 : fits Tryz.prog 14 pl134 (Tryz.f134.body.getD .skip) = true := by kernel_rfl
theorem call134 {args : List AV} {H : Heap} {K : AV → Heap → Prop} (ha : args.length ≤ 14) (h : cwp Tryz.prog 14 pl134 (Tryz.f134.body.getD .skip) (retQ Tryz.prog Tryz.f134.results.toList K) (env0 args) H) : ACall Tryz.prog 134 args H K :=
  ACall.of_code (pl := pl134) Tryz.func134 rfl rfl fit134 ha h
def pl135 : Plans := []
theorem fit135 : fits Tryz.prog 23 pl135 (Tryz.f135.body.getD .skip) = true := by kernel_rfl
theorem call135 {args : List AV} {H : Heap} {K : AV → Heap → Prop} (ha : args.length ≤ 23) (h : cwp Tryz.prog 23 pl135 (Tryz.f135.body.getD .skip) (retQ Tryz.prog Tryz.f135.results.toList K) (env0 args) H) : ACall Tryz.prog 135 args H K :=
  ACall.of_code (pl := pl135) Tryz.func135 rfl rfl fit135 ha h
def pl136 : Plans := []
theorem fit136 : fits Tryz.prog 9 pl136 (Tryz.f136.body.getD .skip) = true := by kernel_rfl
theorem call136 {args : List AV} {H : Heap} {K : AV → Heap → Prop} (ha : args.length ≤ 9) (h : cwp Tryz.prog 9 pl136 (Tryz.f136.body.getD .skip) (retQ Tryz.prog Tryz.f136.results.toList K) (env0 args) H) : ACall Tryz.prog 136 args H K :=
  ACall.of_code (pl := pl136) Tryz.func136 rfl rfl fit136 ha h
def pl137 : Plans := []
theorem fit137 : fits Tryz.prog 9 pl137 (Tryz.f137.body.getD .skip) = true := by kernel_rfl
theorem call137 {args : List AV} {H : Heap} {K : AV → Heap → Prop} (ha : args.length ≤ 9) (h : cwp Tryz.prog 9 pl137 (Tryz.f137.body.getD .skip) (retQ Tryz.prog Tryz.f137.results.toList K) (env0 args) H) : ACall Tryz.prog 137 args H K :=
  ACall.of_code (pl := pl137) Tryz.func137 rfl rfl fit137 ha h
def pl138 : Plans := []
theorem fit138 : fits Tryz.prog 8 pl138 (Tryz.f138.body.getD .skip) = true := by kernel_rfl
theorem call138 {args : List AV} {H : Heap} {K : AV → Heap → Prop} (ha : args.length ≤ 8) (h : cwp Tryz.prog 8 pl138 (Tryz.f138.body.getD .skip) (retQ Tryz.prog Tryz.f138.results.toList K) (env0 args) H) : ACall Tryz.prog 138 args H K :=
  ACall.of_code (pl := pl138) Tryz.func138 rfl rfl fit138 ha h
def pl139 : Plans := [(6, .take 0 (.take 1 (.take 2 (.take 3 (.take 4 (.take 5 (.take 6 (.take 7 (.take 8 (.take 9 (.take 10 (.take 11 (.take 12 (.take 13 (.take 14 (.take 15 (.take 16 (.take 17 (.take 18 (.take 19 (.take 20 (.take 21 (.take 22 (.take 23 (.take 24 (.take 25 (.take 26 (.take 27 (.take 28 (.take 29 (.take 30 (.take 31 (.take 32 (.eff 33 [28, 30, 32, 26, 27, 29, 31, 25, 13, 10, 24, 12, 9, 3, 23, 11, 8, 2, 20, 22, 5, 7, 1, 19, 21, 4, 6, 0, 18, 15, 17, 14, 16] [] (.take 34 (.take 35 (.done))) (.no)))))))))))))))))))))))))))))))))))]
theorem fit139 : fits Tryz.prog 57 pl139 (Tryz.f139.body.getD .skip) = true := by kernel_rfl
theorem call139 {args : List AV} {H : Heap} {K : AV → Heap → Prop} (ha : args.length ≤ 57) (h : cwp Tryz.prog 57 pl139 (Tryz.f139.body.getD .skip) (retQ Tryz.prog Tryz.f139.results.toList K) (env0 args) H) : ACall Tryz.prog 139 args H K :=
  ACall.of_code (pl := pl139) Tryz.func139 rfl rfl fit139 ha h
def pl140 : Plans := []
theorem fit140 : fits Tryz.prog 9 pl140 (Tryz.f140.body.getD .skip) = true := by kernel_rfl
theorem call140 {args : List AV} {H : Heap} {K : AV → Heap → Prop} (ha : args.length ≤ 9) (h : cwp Tryz.prog 9 pl140 (Tryz.f140.body.getD .skip) (retQ Tryz.prog Tryz.f140.results.toList K) (env0 args) H) : ACall Tryz.prog 140 args H K :=
  ACall.of_code (pl := pl140) Tryz.func140 rfl rfl fit140 ha h
def pl141 : Plans := []
theorem fit141 : fits Tryz.prog 8 pl141 (Tryz.f141.body.getD .skip) = true := by kernel_rfl
theorem call141 {args : List AV} {H : Heap} {K : AV → Heap → Prop} (ha : args.length ≤ 8) (h : cwp Tryz.prog 8 pl141 (Tryz.f141.body.getD .skip) (retQ Tryz.prog Tryz.f141.results.toList K) (env0 args) H) : ACall Tryz.prog 141 args H K :=
  ACall.of_code (pl := pl141) Tryz.func141 rfl rfl fit141 ha h
def pl142 : Plans := []
theorem fit142 : fits Tryz.prog 13 pl142 (Tryz.f142.body.getD .skip) = true := by kernel_rfl
theorem call142 {args : List AV} {H : Heap} {K : AV → Heap → Prop} (ha : args.length ≤ 13) (h : cwp Tryz.prog 13 pl142 (Tryz.f142.body.getD .skip) (retQ Tryz.prog Tryz.f142.results.toList K) (env0 args) H) : ACall Tryz.prog 142 args H K :=
  ACall.of_code (pl := pl142) Tryz.func142 rfl rfl fit142 ha h
def pl143 : Plans := [(6, .take 0 (.take 1 (.take 2 (.take 3 (.take 4 (.take 5 (.take 6 (.take 7 (.eff 8 [3, 7, 2, 6, 0, 1, 4, 5] [] (.take 9 (.done)) (.no))))))))))]
theorem fit143 : fits Tryz.prog 27 pl143 (Tryz.f143.body.getD .skip) = true := by kernel_rfl
theorem call143 {args : List AV} {H : Heap} {K : AV → Heap → Prop} (ha : args.length ≤ 27) (h : cwp Tryz.prog 27 pl143 (Tryz.f143.body.getD .skip) (retQ Tryz.prog Tryz.f143.results.toList K) (env0 args) H) : ACall Tryz.prog 143 args H K :=
  ACall.of_code (pl := pl143) Tryz.func143 rfl rfl fit143 ha h
def pl144 : Plans := [(17, .take 0 (.take 1 (.take 2 (.take 3 (.take 4 (.take 5 (.take 6 (.take 7 (.take 8 (.take 9 (.take 10 (.take 11 (.eff 12 [7, 11, 2, 6, 10, 1, 3, 5, 8, 9, 0, 4] [] (.take 13 (.take 14 (.done))) (.no))))))))))))))]
theorem fit144 : fits Tryz.prog 134 pl144 (Tryz.f144.body.getD .skip) = true := by kernel_rfl
theorem call144 {args : List AV} {H : Heap} {K : AV → Heap → Prop} (ha : args.length ≤ 134) (h : cwp Tryz.prog 134 pl144 (Tryz.f144.body.getD .skip) (retQ Tryz.prog Tryz.f144.results.toList K) (env0 args) H) : ACall Tryz.prog 144 args H K :=
  ACall.of_code (pl := pl144) Tryz.func144 rfl rfl fit144 ha h
def pl145 : Plans := []
theorem fit145 : fits Tryz.prog 8 pl145 (Tryz.f145.body.getD .skip) = true := by kernel_rfl
theorem call145 {args : List AV} {H : Heap} {K : AV → Heap → Prop} (ha : args.length ≤ 8) (h : cwp Tryz.prog 8 pl145 (Tryz.f145.body.getD .skip) (retQ Tryz.prog Tryz.f145.results.toList K) (env0 args) H) : ACall Tryz.prog 145 args H K :=
  ACall.of_code (pl := pl145) Tryz.func145 rfl rfl fit145 ha h
def pl146 : Plans := []
theorem fit146 : fits Tryz.prog 98 pl146 (Tryz.f146.body.getD .skip) = true := by kernel_rfl
theorem call146 {args : List AV} {H : Heap} {K : AV → Heap → Prop} (ha : args.length ≤ 98) (h : cwp Tryz.prog 98 pl146 (Tryz.f146.body.getD .skip) (retQ Tryz.prog Tryz.f146.results.toList K) (env0 args) H) : ACall Tryz.prog 146 args H K :=
  ACall.of_code (pl := pl146) Tryz.func146 rfl rfl fit146 ha h
def pl147 : Plans := []
theorem fit147 : fits Tryz.prog 5 pl147 (Tryz.f147.body.getD .skip) = true := by kernel_rfl
theorem call147 {args : List AV} {H : Heap} {K : AV → Heap → Prop} (ha : args.length ≤ 5) (h : cwp Tryz.prog 5 pl147 (Tryz.f147.body.getD .skip) (retQ Tryz.prog Tryz.f147.results.toList K) (env0 args) H) : ACall Tryz.prog 147 args H K :=
  ACall.of_code (pl := pl147) Tryz.func147 rfl rfl fit147 ha h
def pl148 : Plans := []
theorem fit148 : fits Tryz.prog 34 pl148 (Tryz.f148.body.getD .skip) = true := by kernel_rfl
theorem call148 {args : List AV} {H : Heap} {K : AV → Heap → Prop} (ha : args.length ≤ 34) (h : cwp Tryz.prog 34 pl148 (Tryz.f148.body.getD .skip) (retQ Tryz.prog Tryz.f148.results.toList K) (env0 args) H) : ACall Tryz.prog 148 args H K :=
  ACall.of_code (pl := pl148) Tryz.func148 rfl rfl fit148 ha h
def pl149 : Plans := []
theorem fit149 : fits Tryz.prog 30 pl149 (Tryz.f149.body.getD .skip) = true := by kernel_rfl
theorem call149 {args : List AV} {H : Heap} {K : AV → Heap → Prop} (ha : args.length ≤ 30) (h : cwp Tryz.prog 30 pl149 (Tryz.f149.body.getD .skip) (retQ Tryz.prog Tryz.f149.results.toList K) (env0 args) H) : ACall Tryz.prog 149 args H K :=
  ACall.of_code (pl := pl149) Tryz.func149 rfl rfl fit149 ha h
def pl150 : Plans := []
theorem fit150 : fits Tryz.prog 20 pl150 (Tryz.f150.body.getD .skip) = true := by kernel_rfl
theorem call150 {args : List AV} {H : Heap} {K : AV → Heap → Prop} (ha : args.length ≤ 20) (h : cwp Tryz.prog 20 pl150 (Tryz.f150.body.getD .skip) (retQ Tryz.prog Tryz.f150.results.toList K) (env0 args) H) : ACall Tryz.prog 150 args H K :=
  ACall.of_code (pl := pl150) Tryz.func150 rfl rfl fit150 ha h
def pl151 : Plans := []
theorem fit151 : fits Tryz.prog 99 pl151 (Tryz.f151.body.getD .skip) = true := by kernel_rfl
theorem call151 {args : List AV} {H : Heap} {K : AV → Heap → Prop} (ha : args.length ≤ 99) (h : cwp Tryz.prog 99 pl151 (Tryz.f151.body.getD .skip) (retQ Tryz.prog Tryz.f151.results.toList K) (env0 args) H) : ACall Tryz.prog 151 args H K :=
  ACall.of_code (pl := pl151) Tryz.func151 rfl rfl fit151 ha h
def pl152 : Plans := []
theorem fit152 : fits Tryz.prog 29 pl152 (Tryz.f152.body.getD .skip) = true := by kernel_rfl
theorem call152 {args : List AV} {H : Heap} {K : AV → Heap → Prop} (ha : args.length ≤ 29) (h : cwp Tryz.prog 29 pl152 (Tryz.f152.body.getD .skip) (retQ Tryz.prog Tryz.f152.results.toList K) (env0 args) H) : ACall Tryz.prog 152 args H K :=
  ACall.of_code (pl := pl152) Tryz.func152 rfl rfl fit152 ha h
def pl153 : Plans := []
theorem fit153 : fits Tryz.prog 80 pl153 (Tryz.f153.body.getD .skip) = true := by kernel_rfl
theorem call153 {args : List AV} {H : Heap} {K : AV → Heap → Prop} (ha : args.length ≤ 80) (h : cwp Tryz.prog 80 pl153 (Tryz.f153.body.getD .skip) (retQ Tryz.prog Tryz.f153.results.toList K) (env0 args) H) : ACall Tryz.prog 153 args H K :=
  ACall.of_code (pl := pl153) Tryz.func153 rfl rfl fit153 ha h
def pl154 : Plans := []
theorem fit154 : fits Tryz.prog 19 pl154 (Tryz.f154.body.getD .skip) = true := by kernel_rfl
theorem call154 {args : List AV} {H : Heap} {K : AV → Heap → Prop} (ha : args.length ≤ 19) (h : cwp Tryz.prog 19 pl154 (Tryz.f154.body.getD .skip) (retQ Tryz.prog Tryz.f154.results.toList K) (env0 args) H) : ACall Tryz.prog 154 args H K :=
  ACall.of_code (pl := pl154) Tryz.func154 rfl rfl fit154 ha h
def pl155 : Plans := []
theorem fit155 : fits Tryz.prog 30 pl155 (Tryz.f155.body.getD .skip) = true := by kernel_rfl
theorem call155 {args : List AV} {H : Heap} {K : AV → Heap → Prop} (ha : args.length ≤ 30) (h : cwp Tryz.prog 30 pl155 (Tryz.f155.body.getD .skip) (retQ Tryz.prog Tryz.f155.results.toList K) (env0 args) H) : ACall Tryz.prog 155 args H K :=
  ACall.of_code (pl := pl155) Tryz.func155 rfl rfl fit155 ha h
def pl156 : Plans := []
theorem fit156 : fits Tryz.prog 12 pl156 (Tryz.f156.body.getD .skip) = true := by kernel_rfl
theorem call156 {args : List AV} {H : Heap} {K : AV → Heap → Prop} (ha : args.length ≤ 12) (h : cwp Tryz.prog 12 pl156 (Tryz.f156.body.getD .skip) (retQ Tryz.prog Tryz.f156.results.toList K) (env0 args) H) : ACall Tryz.prog 156 args H K :=
  ACall.of_code (pl := pl156) Tryz.func156 rfl rfl fit156 ha h
def pl157 : Plans := []
theorem fit157 : fits Tryz.prog 12 pl157 (Tryz.f157.body.getD .skip) = true := by kernel_rfl
theorem call157 {args : List AV} {H : Heap} {K : AV → Heap → Prop} (ha : args.length ≤ 12) (h : cwp Tryz.prog 12 pl157 (Tryz.f157.body.getD .skip) (retQ Tryz.prog Tryz.f157.results.toList K) (env0 args) H) : ACall Tryz.prog 157 args H K :=
  ACall.of_code (pl := pl157) Tryz.func157 rfl rfl fit157 ha h
def pl158 : Plans := []
theorem fit158 : fits Tryz.prog 19 pl158 (Tryz.f158.body.getD .skip) = true := by kernel_rfl
theorem call158 {args : List AV} {H : Heap} {K : AV → Heap → Prop} (ha : args.length ≤ 19) (h : cwp Tryz.prog 19 pl158 (Tryz.f158.body.getD .skip) (retQ Tryz.prog Tryz.f158.results.toList K) (env0 args) H) : ACall Tryz.prog 158 args H K :=
  ACall.of_code (pl := pl158) Tryz.func158 rfl rfl fit158 ha h
def pl159 : Plans := []
theorem fit159 : fits Tryz.prog 16 pl159 (Tryz.f159.body.getD .skip) = true := by kernel_rfl
theorem call159 {args : List AV} {H : Heap} {K : AV → Heap → Prop} (ha : args.length ≤ 16) (h : cwp Tryz.prog 16 pl159 (Tryz.f159.body.getD .skip) (retQ Tryz.prog Tryz.f159.results.toList K) (env0 args) H) : ACall Tryz.prog 159 args H K :=
  ACall.of_code (pl := pl159) Tryz.func159 rfl rfl fit159 ha h
def pl160 : Plans := [(4, .take 0 (.take 1 (.take 2 (.take 3 (.take 4 (.take 5 (.take 6 (.take 7 (.take 8 (.take 9 (.take 10 (.take 11 (.take 12 (.eff 13 [7, 12, 3, 6, 11, 2, 4, 5, 8, 10, 0, 1, 9] [] (.take 14 (.done)) (.no))))))))))))))), (6, .take 0 (.take 1 (.take 2 (.take 3 (.take 4 (.take 5 (.take 6 (.take 7 (.take 8 (.take 9 (.take 10 (.take 11 (.take 12 (.take 13 (.take 14 (.eff 15 [14, 9, 0, 1, 5, 6, 7, 8, 13, 12, 10, 11] [2, 3, 4] (.take 16 (.eff 17 [16, 13, 15, 0, 1, 2, 3, 4, 5, 6, 7, 8, 9, 10, 11, 12, 14] [] (.done) (.no))) (.no)))))))))))))))))]
theorem fit160 : fits Tryz.prog 49 pl160 (Tryz.f160.body.getD .skip) = true := by kernel_rfl
theorem call160 {args : List AV} {H : Heap} {K : AV → Heap → Prop} (ha : args.length ≤ 49) (h : cwp Tryz.prog 49 pl160 (Tryz.f160.body.getD .skip) (retQ Tryz.prog Tryz.f160.results.toList K) (env0 args) H) : ACall Tryz.prog 160 args H K :=
  ACall.of_code (pl := pl160) Tryz.func160 rfl rfl fit160 ha h
def pl161 : Plans := [(10, .take 0 (.take 1 (.take 2 (.take 3 (.take 4 (.take 5 (.take 6 (.take 7 (.take 8 (.take 9 (.take 10 (.take 11 (.take 12 (.take 13 (.take 14 (.take 15 (.take 16 (.eff 17 [16, 11, 0, 1, 6, 7, 8, 9, 10, 15, 14, 12, 13] [2, 3, 4, 5] (.take 18 (.eff 19 [18, 15, 17, 0, 1, 2, 3, 4, 5, 6, 7, 8, 9, 10, 11, 12, 13, 14, 16] [] (.done) (.no))) (.no)))))))))))))))))))]
theorem fit161 : fits Tryz.prog 56 pl161 (Tryz.f161.body.getD .skip) = true := by kernel_rfl
theorem call161 {args : List AV} {H : Heap} {K : AV → Heap → Prop} (ha : args.length ≤ 56) (h : cwp Tryz.prog 56 pl161 (Tryz.f161.body.getD .skip) (retQ Tryz.prog Tryz.f161.results.toList K) (env0 args) H) : ACall Tryz.prog 161 args H K :=
  ACall.of_code (pl := pl161) Tryz.func161 rfl rfl fit161 ha h
def pl162 : Plans := [(10, .take 0 (.take 1 (.take 2 (.take 3 (.take 4 (.take 5 (.take 6 (.take 7 (.take 8 (.take 9 (.take 10 (.take 11 (.take 12 (.take 13 (.take 14 (.take 15 (.take 16 (.eff 17 [16, 11, 0, 1, 6, 7, 8, 9, 10, 15, 14, 12, 13] [2, 3, 4, 5] (.take 18 (.eff 19 [18, 15, 17, 0, 1, 2, 3, 4, 5, 6, 7, 8, 9, 10, 11, 12, 13, 14, 16] [] (.done) (.no))) (.no)))))))))))))))))))]
theorem fit162 : fits Tryz.prog 65 pl162 (Tryz.f162.body.getD .skip) = true := by kernel_rfl
theorem call162 {args : List AV} {H : Heap} {K : AV → Heap → Prop} (ha : args.length ≤ 65) (h : cwp Tryz.prog 65 pl162 (Tryz.f162.body.getD .skip) (retQ Tryz.prog Tryz.f162.results.toList K) (env0 args) H) : ACall Tryz.prog 162 args H K :=
  ACall.of_code (pl := pl162) Tryz.func162 rfl rfl fit162 ha h
def pl163 : Plans := []
theorem fit163 : fits Tryz.prog 57 pl163 (Tryz.f163.body.getD .skip) = true := by kernel_rfl
theorem call163 {args : List AV} {H : Heap} {K : AV → Heap → Prop} (ha : args.length ≤ 57) (h : cwp Tryz.prog 57 pl163 (Tryz.f163.body.getD .skip) (retQ Tryz.prog Tryz.f163.results.toList K) (env0 args) H) : ACall Tryz.prog 163 args H K :=
  ACall.of_code (pl := pl163) Tryz.func163 rfl rfl fit163 ha h
def pl164 : Plans := [(3, .take 0 (.take 1 (.take 2 (.take 3 (.take 4 (.take 5 (.take 6 (.take 7 (.take 8 (.take 9 (.take 10 (.take 11 (.take 12 (.eff 13 [12, 7, 0, 1, 4, 5, 6, 11, 10, 8, 9] [2, 3] (.take 14 (.eff 15 [14, 11, 13, 0, 1, 2, 3, 4, 5, 6, 7, 8, 9, 10, 12] [] (.done) (.no))) (.no)))))))))))))))]
theorem fit164 : fits Tryz.prog 32 pl164 (Tryz.f164.body.getD .skip) = true := by kernel_rfl
theorem call164 {args : List AV} {H : Heap} {K : AV → Heap → Prop} (ha : args.length ≤ 32) (h : cwp Tryz.prog 32 pl164 (Tryz.f164.body.getD .skip) (retQ Tryz.prog Tryz.f164.results.toList K) (env0 args) H) : ACall Tryz.prog 164 args H K :=
  ACall.of_code (pl := pl164) Tryz.func164 rfl rfl fit164 ha h
def pl165 : Plans := [(5, .take 0 (.take 1 (.take 2 (.take 3 (.take 4 (.take 5 (.take 6 (.take 7 (.take 8 (.take 9 (.take 10 (.take 11 (.take 12 (.eff 13 [7, 12, 3, 6, 11, 2, 4, 5, 8, 10, 0, 1, 9] [] (.take 14 (.take 15 (.done))) (.no))))))))))))))), (11, .take 0 (.take 1 (.take 2 (.take 3 (.take 4 (.take 5 (.take 6 (.take 7 (.take 8 (.take 9 (.take 10 (.take 11 (.take 12 (.take 13 (.take 14 (.eff 15 [14, 9, 0, 1, 5, 6, 7, 8, 13, 12, 10, 11] [2, 3, 4] (.take 16 (.eff 17 [16, 13, 15, 0, 1, 2, 3, 4, 5, 6, 7, 8, 9, 10, 11, 12, 14] [] (.done) (.no))) (.no))))))))))))))))), (16, .take 0 (.take 1 (.take 2 (.take 3 (.take 4 (.take 5 (.take 6 (.take 7 (.take 8 (.eff 9 [3, 8, 2, 7, 0, 1, 4, 6, 5] [] (.take 10 (.done)) (.no))))))))))), (17, .take 0 (.take 1 (.take 2 (.take 3 (.take 4 (.take 5 (.take 6 (.take 7 (.take 8 (.take 9 (.take 10 (.take 11 (.take 12 (.take 13 (.take 14 (.eff 15 [14, 9, 0, 1, 5, 6, 7, 8, 13, 12, 10, 11] [2, 3, 4] (.take 16 (.eff 17 [16, 13, 15, 0, 1, 2, 3, 4, 5, 6, 7, 8, 9, 10, 11, 12, 14] [] (.done) (.no))) (.no))))))))))))))))), (22, .take 0 (.take 1 (.take 2 (.take 3 (.take 4 (.take 5 (.take 6 (.take 7 (.take 8 (.eff 9 [3, 8, 2, 7, 0, 1, 4, 6, 5] [] (.take 10 (.done)) (.no))))))))))), (23, .take 0 (.take 1 (.take 2 (.take 3 (.take 4 (.take 5 (.take 6 (.take 7 (.take 8 (.take 9 (.take 10 (.take 11 (.take 12 (.take 13 (.take 14 (.eff 15 [14, 9, 0, 1, 5, 6, 7, 8, 13, 12, 10, 11] [2, 3, 4] (.take 16 (.eff 17 [16, 13, 15, 0, 1, 2, 3, 4, 5, 6, 7, 8, 9, 10, 11, 12, 14] [] (.done) (.no))) (.no)))))))))))))))))]
theorem fit165 : fits Tryz.prog 133 pl165 (Tryz.f165.body.getD .skip) = true := by kernel_rfl
theorem call165 {args : List AV} {H : Heap} {K : AV → Heap → Prop} (ha : args.length ≤ 133) (h : cwp Tryz.prog 133 pl165 (Tryz.f165.body.getD .skip) (retQ Tryz.prog Tryz.f165.results.toList K) (env0 args) H) : ACall Tryz.prog 165 args H K :=
  ACall.of_code (pl := pl165) Tryz.func165 rfl rfl fit165 ha h
def pl166 : Plans := []
theorem fit166 : fits Tryz.prog 17 pl166 (Tryz.f166.body.getD .skip) = true := by kernel_rfl
theorem call166 {args : List AV} {H : Heap} {K : AV → Heap → Prop} (ha : args.length ≤ 17) (h : cwp Tryz.prog 17 pl166 (Tryz.f166.body.getD .skip) (retQ Tryz.prog Tryz.f166.results.toList K) (env0 args) H) : ACall Tryz.prog 166 args H K :=
  ACall.of_code (pl := pl166) Tryz.func166 rfl rfl fit166 ha h
def pl167 : Plans := [(1, .take 0 (.take 1 (.take 2 (.take 3 (.take 4 (.take 5 (.take 6 (.take 7 (.take 8 (.take 9 (.take 10 (.take 11 (.take 12 (.eff 13 [12, 7, 0, 1, 4, 5, 6, 11, 10, 8, 9] [2, 3] (.take 14 (.eff 15 [14, 11, 13, 0, 1, 2, 3, 4, 5, 6, 7, 8, 9, 10, 12] [] (.done) (.no))) (.no))))))))))))))), (3, .take 0 (.take 1 (.take 2 (.take 3 (.take 4 (.take 5 (.take 6 (.take 7 (.take 8 (.take 9 (.take 10 (.take 11 (.eff 12 [7, 11, 3, 6, 10, 2, 4, 5, 8, 9, 0, 1] [] (.take 13 (.take 14 (.done))) (.no)))))))))))))), (5, .take 0 (.take 1 (.take 2 (.take 3 (.take 4 (.take 5 (.take 6 (.take 7 (.take 8 (.take 9 (.take 10 (.take 11 (.eff 12 [7, 11, 3, 6, 10, 2, 4, 5, 8, 9, 0, 1] [] (.take 13 (.done)) (.no)))))))))))))), (8, .take 0 (.take 1 (.take 2 (.take 3 (.take 4 (.take 5 (.take 6 (.take 7 (.take 8 (.take 9 (.take 10 (.take 11 (.take 12 (.eff 13 [12, 7, 0, 1, 4, 5, 6, 11, 10, 8, 9] [2, 3] (.take 14 (.eff 15 [14, 11, 13, 0, 1, 2, 3, 4, 5, 6, 7, 8, 9, 10, 12] [] (.done) (.no))) (.no)))))))))))))))]
theorem fit167 : fits Tryz.prog 84 pl167 (Tryz.f167.body.getD .skip) = true := by kernel_rfl
theorem call167 {args : List AV} {H : Heap} {K : AV → Heap → Prop} (ha : args.length ≤ 84) (h : cwp Tryz.prog 84 pl167 (Tryz.f167.body.getD .skip) (retQ Tryz.prog Tryz.f167.results.toList K) (env0 args) H) : ACall Tryz.prog 167 args H K :=
  ACall.of_code (pl := pl167) Tryz.func167 rfl rfl fit167 ha h
def pl168 : Plans := [(1, .take 0 (.take 1 (.take 2 (.take 3 (.take 4 (.take 5 (.take 6 (.take 7 (.take 8 (.take 9 (.take 10 (.take 11 (.take 12 (.eff 13 [12, 7, 0, 1, 4, 5, 6, 11, 10, 8, 9] [2, 3] (.take 14 (.eff 15 [14, 11, 13, 0, 1, 2, 3, 4, 5, 6, 7, 8, 9, 10, 12] [] (.done) (.no))) (.no))))))))))))))), (3, .take 0 (.take 1 (.take 2 (.take 3 (.take 4 (.take 5 (.take 6 (.take 7 (.take 8 (.take 9 (.take 10 (.take 11 (.eff 12 [7, 11, 3, 6, 10, 2, 4, 5, 8, 9, 0, 1] [] (.take 13 (.done)) (.no)))))))))))))), (5, .take 0 (.take 1 (.take 2 (.take 3 (.take 4 (.take 5 (.take 6 (.take 7 (.take 8 (.take 9 (.take 10 (.take 11 (.eff 12 [7, 11, 3, 6, 10, 2, 4, 5, 8, 9, 0, 1] [] (.take 13 (.take 14 (.done))) (.no)))))))))))))), (8, .take 0 (.take 1 (.take 2 (.take 3 (.take 4 (.take 5 (.take 6 (.take 7 (.take 8 (.take 9 (.take 10 (.take 11 (.take 12 (.eff 13 [12, 7, 0, 1, 4, 5, 6, 11, 10, 8, 9] [2, 3] (.take 14 (.eff 15 [14, 11, 13, 0, 1, 2, 3, 4, 5, 6, 7, 8, 9, 10, 12] [] (.done) (.no))) (.no))))))))))))))), (10, .take 0 (.take 1 (.take 2 (.take 3 (.take 4 (.take 5 (.take 6 (.take 7 (.take 8 (.take 9 (.take 10 (.take 11 (.take 12 (.eff 13 [12, 7, 0, 1, 4, 5, 6, 11, 10, 8, 9] [2, 3] (.take 14 (.eff 15 [14, 11, 13, 0, 1, 2, 3, 4, 5, 6, 7, 8, 9, 10, 12] [] (.done) (.no))) (.no))))))))))))))), (13, .take 0 (.take 1 (.take 2 (.take 3 (.take 4 (.take 5 (.take 6 (.take 7 (.take 8 (.take 9 (.take 10 (.take 11 (.eff 12 [7, 11, 3, 6, 10, 2, 4, 5, 8, 9, 0, 1] [] (.take 13 (.done)) (.no)))))))))))))), (15, .take 0 (.take 1 (.take 2 (.take 3 (.take 4 (.take 5 (.take 6 (.take 7 (.take 8 (.take 9 (.take 10 (.take 11 (.eff 12 [7, 11, 3, 6, 10, 2, 4, 5, 8, 9, 0, 1] [] (.take 13 (.take 14 (.done))) (.no)))))))))))))), (18, .take 0 (.take 1 (.take 2 (.take 3 (.take 4 (.take 5 (.take 6 (.take 7 (.take 8 (.take 9 (.take 10 (.take 11 (.take 12 (.eff 13 [12, 7, 0, 1, 4, 5, 6, 11, 10, 8, 9] [2, 3] (.take 14 (.eff 15 [14, 11, 13, 0, 1, 2, 3, 4, 5, 6, 7, 8, 9, 10, 12] [] (.done) (.no))) (.no))))))))))))))), (21, .take 0 (.take 1 (.take 2 (.take 3 (.take 4 (.take 5 (.take 6 (.take 7 (.take 8 (.take 9 (.take 10 (.take 11 (.take 12 (.eff 13 [12, 7, 0, 1, 4, 5, 6, 11, 10, 8, 9] [2, 3] (.take 14 (.eff 15 [14, 11, 13, 0, 1, 2, 3, 4, 5, 6, 7, 8, 9, 10, 12] [] (.done) (.no))) (.no)))))))))))))))]
theorem fit168 : fits Tryz.prog 168 pl168 (Tryz.f168.body.getD .skip) = true := by kernel_rfl
theorem call168 {args : List AV} {H : Heap} {K : AV → Heap → Prop} (ha : args.length ≤ 168) (h : cwp Tryz.prog 168 pl168 (Tryz.f168.body.getD .skip) (retQ Tryz.prog Tryz.f168.results.toList K) (env0 args) H) : ACall Tryz.prog 168 args H K :=
  ACall.of_code (pl := pl168) Tryz.func168 rfl rfl fit168 ha h
def pl169 : Plans := []
theorem fit169 : fits Tryz.prog 19 pl169 (Tryz.f169.body.getD .skip) = true := by kernel_rfl
theorem call169 {args : List AV} {H : Heap} {K : AV → Heap → Prop} (ha : args.length ≤ 19) (h : cwp Tryz.prog 19 pl169 (Tryz.f169.body.getD .skip) (retQ Tryz.prog Tryz.f169.results.toList K) (env0 args) H) : ACall Tryz.prog 169 args H K :=
  ACall.of_code (pl := pl169) Tryz.func169 rfl rfl fit169 ha h
def pl170 : Plans := []
theorem fit170 : fits Tryz.prog 25 pl170 (Tryz.f170.body.getD .skip) = true := by kernel_rfl
theorem call170 {args : List AV} {H : Heap} {K : AV → Heap → Prop} (ha : args.length ≤ 25) (h : cwp Tryz.prog 25 pl170 (Tryz.f170.body.getD .skip) (retQ Tryz.prog Tryz.f170.results.toList K) (env0 args) H) : ACall Tryz.prog 170 args H K :=
  ACall.of_code (pl := pl170) Tryz.func170 rfl rfl fit170 ha h
def pl171 : Plans := []
theorem fit171 : fits Tryz.prog 31 pl171 (Tryz.f171.body.getD .skip) = true := by kernel_rfl
theorem call171 {args : List AV} {H : Heap} {K : AV → Heap → Prop} (ha : args.length ≤ 31) (h : cwp Tryz.prog 31 pl171 (Tryz.f171.body.getD .skip) (retQ Tryz.prog Tryz.f171.results.toList K) (env0 args) H) : ACall Tryz.prog 171 args H K :=
  ACall.of_code (pl := pl171) Tryz.func171 rfl rfl fit171 ha h
def pl172 : Plans := []
theorem fit172 : fits Tryz.prog 25 pl172 (Tryz.f172.body.getD .skip) = true := by kernel_rfl
theorem call172 {args : List AV} {H : Heap} {K : AV → Heap → Prop} (ha : args.length ≤ 25) (h : cwp Tryz.prog 25 pl172 (Tryz.f172.body.getD .skip) (retQ Tryz.prog Tryz.f172.results.toList K) (env0 args) H) : ACall Tryz.prog 172 args H K :=
  ACall.of_code (pl := pl172) Tryz.func172 rfl rfl fit172 ha h
def pl173 : Plans := []
theorem fit173 : fits Tryz.prog 4 pl173 (Tryz.f173.body.getD .skip) = true := by kernel_rfl
theorem call173 {args : List AV} {H : Heap} {K : AV → Heap → Prop} (ha : args.length ≤ 4) (h : cwp Tryz.prog 4 pl173 (Tryz.f173.body.getD .skip) (retQ Tryz.prog Tryz.f173.results.toList K) (env0 args) H) : ACall Tryz.prog 173 args H K :=
  ACall.of_code (pl := pl173) Tryz.func173 rfl rfl fit173 ha h
def pl174 : Plans := []
theorem fit174 : fits Tryz.prog 13 pl174 (Tryz.f174.body.getD .skip) = true := by kernel_rfl
theorem call174 {args : List AV} {H : Heap} {K : AV → Heap → Prop} (ha : args.length ≤ 13) (h : cwp Tryz.prog 13 pl174 (Tryz.f174.body.getD .skip) (retQ Tryz.prog Tryz.f174.results.toList K) (env0 args) H) : ACall Tryz.prog 174 args H K :=
  ACall.of_code (pl := pl174) Tryz.func174 rfl rfl fit174 ha h
def pl175 : Plans := [(5, .take 0 (.take 1 (.take 2 (.take 3 (.take 4 (.take 5 (.take 6 (.take 7 (.take 8 (.done))))))))))]
theorem fit175 : fits Tryz.prog 25 pl175 (Tryz.f175.body.getD .skip) = true := by kernel_rfl
theorem call175 {args : List AV} {H : Heap} {K : AV → Heap → Prop} (ha : args.length ≤ 25) (h : cwp Tryz.prog 25 pl175 (Tryz.f175.body.getD .skip) (retQ Tryz.prog Tryz.f175.results.toList K) (env0 args) H) : ACall Tryz.prog 175 args H K :=
  ACall.of_code (pl := pl175) Tryz.func175 rfl rfl fit175 ha h
def pl176 : Plans := []
theorem fit176 : fits Tryz.prog 25 pl176 (Tryz.f176.body.getD .skip) = true := by kernel_rfl
theorem call176 {args : List AV} {H : Heap} {K : AV → Heap → Prop} (ha : args.length ≤ 25) (h : cwp Tryz.prog 25 pl176 (Tryz.f176.body.getD .skip) (retQ Tryz.prog Tryz.f176.results.toList K) (env0 args) H) : ACall Tryz.prog 176 args H K :=
  ACall.of_code (pl := pl176) Tryz.func176 rfl rfl fit176 ha h
def pl177 : Plans := []
theorem fit177 : fits Tryz.prog 4 pl177 (Tryz.f177.body.getD .skip) = true := by kernel_rfl
theorem call177 {args : List AV} {H : Heap} {K : AV → Heap → Prop} (ha : args.length ≤ 4) (h : cwp Tryz.prog 4 pl177 (Tryz.f177.body.getD .skip) (retQ Tryz.prog Tryz.f177.results.toList K) (env0 args) H) : ACall Tryz.prog 177 args H K :=
  ACall.of_code (pl := pl177) Tryz.func177 rfl rfl fit177 ha h
def pl178 : Plans := []
theorem fit178 : fits Tryz.prog 20 pl178 (Tryz.f178.body.getD .skip) = true := by kernel_rfl
theorem call178 {args : List AV} {H : Heap} {K : AV → Heap → Prop} (ha : args.length ≤ 20) (h : cwp Tryz.prog 20 pl178 (Tryz.f178.body.getD .skip) (retQ Tryz.prog Tryz.f178.results.toList K) (env0 args) H) : ACall Tryz.prog 178 args H K :=
  ACall.of_code (pl := pl178) Tryz.func178 rfl rfl fit178 ha h
def pl179 : Plans := []
theorem fit179 : fits Tryz.prog 42 pl179 (Tryz.f179.body.getD .skip) = true := by kernel_rfl
theorem call179 {args : List AV} {H : Heap} {K : AV → Heap → Prop} (ha : args.length ≤ 42) (h : cwp Tryz.prog 42 pl179 (Tryz.f179.body.getD .skip) (retQ Tryz.prog Tryz.f179.results.toList K) (env0 args) H) : ACall Tryz.prog 179 args H K :=
  ACall.of_code (pl := pl179) Tryz.func179 rfl rfl fit179 ha h
def pl180 : Plans := []
theorem fit180 : fits Tryz.prog 30 pl180 (Tryz.f180.body.getD .skip) = true := by kernel_rfl
theorem call180 {args : List AV} {H : Heap} {K : AV → Heap → Prop} (ha : args.length ≤ 30) (h : cwp Tryz.prog 30 pl180 (Tryz.f180.body.getD .skip) (retQ Tryz.prog Tryz.f180.results.toList K) (env0 args) H) : ACall Tryz.prog 180 args H K :=
  ACall.of_code (pl := pl180) Tryz.func180 rfl rfl fit180 ha h
def pl181 : Plans := []
theorem fit181 : fits Tryz.prog 7 pl181 (Tryz.f181.body.getD .skip) = true := by kernel_rfl
theorem call181 {args : List AV} {H : Heap} {K : AV → Heap → Prop} (ha : args.length ≤ 7) (h : cwp Tryz.prog 7 pl181 (Tryz.f181.body.getD .skip) (retQ Tryz.prog Tryz.f181.results.toList K) (env0 args) H) : ACall Tryz.prog 181 args H K :=
  ACall.of_code (pl := pl181) Tryz.func181 rfl rfl fit181 ha h
def pl182 : Plans := []
theorem fit182 : fits Tryz.prog 17 pl182 (Tryz.f182.body.getD .skip) = true := by kernel_rfl
theorem call182 {args : List AV} {H : Heap} {K : AV → Heap → Prop} (ha : args.length ≤ 17) (h : cwp Tryz.prog 17 pl182 (Tryz.f182.body.getD .skip) (retQ Tryz.prog Tryz.f182.results.toList K) (env0 args) H) : ACall Tryz.prog 182 args H K :=
  ACall.of_code (pl := pl182) Tryz.func182 rfl rfl fit182 ha h
def pl183 : Plans := []
theorem fit183 : fits Tryz.prog 51 pl183 (Tryz.f183.body.getD .skip) = true := by kernel_rfl
theorem call183 {args : List AV} {H : Heap} {K : AV → Heap → Prop} (ha : args.length ≤ 51) (h : cwp Tryz.prog 51 pl183 (Tryz.f183.body.getD .skip) (retQ Tryz.prog Tryz.f183.results.toList K) (env0 args) H) : ACall Tryz.prog 183 args H K :=
  ACall.of_code (pl := pl183) Tryz.func183 rfl rfl fit183 ha h
def pl184 : Plans := [(3, .take 0 (.take 1 (.take 2 (.take 3 (.take 4 (.take 5 (.take 6 (.take 7 (.take 8 (.take 9 (.take 10 (.take 11 (.take 12 (.take 13 (.take 14 (.take 15 (.take 16 (.take 17 (.eff 18 [10, 17, 4, 9, 16, 3, 5, 8, 11, 15, 1, 2, 6, 7, 14, 0, 12, 13] [] (.take 19 (.done)) (.no)))))))))))))))))))), (5, .take 0 (.take 1 (.take 2 (.take 3 (.take 4 (.take 5 (.take 6 (.take 7 (.take 8 (.take 9 (.take 10 (.take 11 (.eff 12 [5, 11, 4, 10, 0, 3, 6, 9, 1, 2, 7, 8] [] (.take 13 (.done)) (.no)))))))))))))), (6, .take 0 (.take 1 (.take 2 (.take 3 (.take 4 (.take 5 (.take 6 (.take 7 (.take 8 (.take 9 (.take 10 (.take 11 (.take 12 (.take 13 (.take 14 (.take 15 (.take 16 (.take 17 (.take 18 (.take 19 (.take 20 (.eff 21 [20, 13, 0, 1, 2, 3, 8, 9, 10, 11, 12, 19, 18, 14, 17, 15, 16] [4, 5, 6, 7] (.take 22 (.eff 23 [22, 19, 21, 0, 1, 2, 3, 4, 5, 6, 7, 8, 9, 10, 11, 12, 13, 14, 15, 16, 17, 18, 20] [] (.done) (.no))) (.no)))))))))))))))))))))))]
theorem fit184 : fits Tryz.prog 76 pl184 (Tryz.f184.body.getD .skip) = true := by kernel_rfl
theorem call184 {args : List AV} {H : Heap} {K : AV → Heap → Prop} (ha : args.length ≤ 76) (h : cwp Tryz.prog 76 pl184 (Tryz.f184.body.getD .skip) (retQ Tryz.prog Tryz.f184.results.toList K) (env0 args) H) : ACall Tryz.prog 184 args H K :=
  ACall.of_code (pl := pl184) Tryz.func184 rfl rfl fit184 ha h
def pl185 : Plans := []
theorem fit185 : fits Tryz.prog 7 pl185 (Tryz.f185.body.getD .skip) = true := by kernel_rfl
theorem call185 {args : List AV} {H : Heap} {K : AV → Heap → Prop} (ha : args.length ≤ 7) (h : cwp Tryz.prog 7 pl185 (Tryz.f185.body.getD .skip) (retQ Tryz.prog Tryz.f185.results.toList K) (env0 args) H) : ACall Tryz.prog 185 args H K :=
  ACall.of_code (pl := pl185) Tryz.func185 rfl rfl fit185 ha h
def pl186 : Plans := [(1, .take 0 (.take 1 (.take 2 (.take 3 (.take 4 (.take 5 (.take 6 (.take 7 (.take 8 (.eff 9 [8, 7, 0, 1, 2, 3, 4, 5, 6] [] (.done) (.no))))))))))), (2, .take 0 (.take 1 (.take 2 (.take 3 (.take 4 (.take 5 (.take 6 (.take 7 (.take 8 (.eff 9 [8, 7, 0, 1, 2, 3, 4, 5, 6] [] (.done) (.no))))))))))), (3, .take 0 (.take 1 (.take 2 (.take 3 (.take 4 (.take 5 (.take 6 (.take 7 (.take 8 (.eff 9 [8, 7, 0, 1, 2, 3, 4, 5, 6] [] (.done) (.no)))))))))))]
theorem fit186 : fits Tryz.prog 33 pl186 (Tryz.f186.body.getD .skip) = true := by kernel_rfl
theorem call186 {args : List AV} {H : Heap} {K : AV → Heap → Prop} (ha : args.length ≤ 33) (h : cwp Tryz.prog 33 pl186 (Tryz.f186.body.getD .skip) (retQ Tryz.prog Tryz.f186.results.toList K) (env0 args) H) : ACall Tryz.prog 186 args H K :=
  ACall.of_code (pl := pl186) Tryz.func186 rfl rfl fit186 ha h
def pl187 : Plans := []
theorem fit187 : fits Tryz.prog 15 pl187 (Tryz.f187.body.getD .skip) = true := by kernel_rfl
theorem call187 {args : List AV} {H : Heap} {K : AV → Heap → Prop} (ha : args.length ≤ 15) (h : cwp Tryz.prog 15 pl187 (Tryz.f187.body.getD .skip) (retQ Tryz.prog Tryz.f187.results.toList K) (env0 args) H) : ACall Tryz.prog 187 args H K :=
  ACall.of_code (pl := pl187) Tryz.func187 rfl rfl fit187 ha h
def pl188 : Plans := []
theorem fit188 : fits Tryz.prog 36 pl188 (Tryz.f188.body.getD .skip) = true := by kernel_rfl
theorem call188 {args : List AV} {H : Heap} {K : AV → Heap → Prop} (ha : args.length ≤ 36) (h : cwp Tryz.prog 36 pl188 (Tryz.f188.body.getD .skip) (retQ Tryz.prog Tryz.f188.results.toList K) (env0 args) H) : ACall Tryz.prog 188 args H K :=
  ACall.of_code (pl := pl188) Tryz.func188 rfl rfl fit188 ha h
def pl189 : Plans := []
theorem fit189 : fits Tryz.prog 6 pl189 (Tryz.f189.body.getD .skip) = true := by kernel_rfl
theorem call189 {args : List AV} {H : Heap} {K : AV → Heap → Prop} (ha : args.length ≤ 6) (h : cwp Tryz.prog 6 pl189 (Tryz.f189.body.getD .skip) (retQ Tryz.prog Tryz.f189.results.toList K) (env0 args) H) : ACall Tryz.prog 189 args H K :=
  ACall.of_code (pl := pl189) Tryz.func189 rfl rfl fit189 ha h
def pl190 : Plans := []
theorem fit190 : fits Tryz.prog 15 pl190 (Tryz.f190.body.getD .skip) = true := by kernel_rfl
theorem call190 {args : List AV} {H : Heap} {K : AV → Heap → Prop} (ha : args.length ≤ 15) (h : cwp Tryz.prog 15 pl190 (Tryz.f190.body.getD .skip) (retQ Tryz.prog Tryz.f190.results.toList K) (env0 args) H) : ACall Tryz.prog 190 args H K :=
  ACall.of_code (pl := pl190) Tryz.func190 rfl rfl fit190 ha h
def pl191 : Plans := [(6, .take 0 (.take 1 (.take 2 (.take 3 (.take 4 (.take 5 (.take 6 (.take 7 (.done)))))))))]
theorem fit191 : fits Tryz.prog 135 pl191 (Tryz.f191.body.getD .skip) = true := by kernel_rfl
theorem call191 {args : List AV} {H : Heap} {K : AV → Heap → Prop} (ha : args.length ≤ 135) (h : cwp Tryz.prog 135 pl191 (Tryz.f191.body.getD .skip) (retQ Tryz.prog Tryz.f191.results.toList K) (env0 args) H) : ACall Tryz.prog 191 args H K :=
  ACall.of_code (pl := pl191) Tryz.func191 rfl rfl fit191 ha h
def pl192 : Plans := []
theorem fit192 : fits Tryz.prog 15 pl192 (Tryz.f192.body.getD .skip) = true := by kernel_rfl
theorem call192 {args : List AV} {H : Heap} {K : AV → Heap → Prop} (ha : args.length ≤ 15) (h : cwp Tryz.prog 15 pl192 (Tryz.f192.body.getD .skip) (retQ Tryz.prog Tryz.f192.results.toList K) (env0 args) H) : ACall Tryz.prog 192 args H K :=
  ACall.of_code (pl := pl192) Tryz.func192 rfl rfl fit192 ha h
def pl193 : Plans := [(1, .take 0 (.take 1 (.take 2 (.take 3 (.take 4 (.take 5 (.take 6 (.take 7 (.eff 8 [3, 7, 2, 6, 0, 1, 4, 5] [] (.done) (.no))))))))))]
theorem fit193 : fits Tryz.prog 28 pl193 (Tryz.f193.body.getD .skip) = true := by kernel_rfl
theorem call193 {args : List AV} {H : Heap} {K : AV → Heap → Prop} (ha : args.length ≤ 28) (h : cwp Tryz.prog 28 pl193 (Tryz.f193.body.getD .skip) (retQ Tryz.prog Tryz.f193.results.toList K) (env0 args) H) : ACall Tryz.prog 193 args H K :=
  ACall.of_code (pl := pl193) Tryz.func193 rfl rfl fit193 ha h
def pl194 : Plans := []
theorem fit194 : fits Tryz.prog 6 pl194 (Tryz.f194.body.getD .skip) = true := by kernel_rfl
theorem call194 {args : List AV} {H : Heap} {K : AV → Heap → Prop} (ha : args.length ≤ 6) (h : cwp Tryz.prog 6 pl194 (Tryz.f194.body.getD .skip) (retQ Tryz.prog Tryz.f194.results.toList K) (env0 args) H) : ACall Tryz.prog 194 args H K :=
  ACall.of_code (pl := pl194) Tryz.func194 rfl rfl fit194 ha h
end Go.Proofs.YteegphdelekdaaaGreat
