/- The functions' plans and rules; written by wip/gen/gen_fn.py. -/
import Derived.Test.YtclpodljplkbbaaTy
import Derived.Test.YtclpodljplkbbaaAbs3
set_option maxRecDepth 100000
namespace Go.Proofs.Ytclpodljplkbbaa
open Go.Abs
def pl2 : Plans := []
theorem fit2 : fits Try.prog 1 pl2 (Try.f2.body.getD .skip) = true := by kernel_rfl
theorem call2 {args : List AV} {H : Heap} {K : AV → Heap → Prop} (ha : args.length ≤ 1) (h : cwp Try.prog 1 pl2 (Try.f2.body.getD .skip) (retQ Try.prog Try.f2.results.toList K) (env0 args) H) : ACall Try.prog 2 args H K :=
  ACall.of_code (pl := pl2) Try.func2 rfl rfl fit2 ha h
def pl3 : Plans := [(14, .take 0 (.take 1 (.eff 2 [1] [0] (.eff 3 [0, 2, 1] [] (.take 4 (.done)) (.no)) (.no))))]
theorem fit3 : fits Try.prog 62 pl3 (Try.f3.body.getD .skip) = true := by kernel_rfl
theorem call3 {args : List AV} {H : Heap} {K : AV → Heap → Prop} (ha : args.length ≤ 62) (h : cwp Try.prog 62 pl3 (Try.f3.body.getD .skip) (retQ Try.prog Try.f3.results.toList K) (env0 args) H) : ACall Try.prog 3 args H K :=
  ACall.of_code (pl := pl3) Try.func3 rfl rfl fit3 ha h
def pl4 : Plans := [(13, .take 0 (.take 1 (.eff 2 [1] [0] (.eff 3 [0, 2, 1] [] (.take 4 (.done)) (.no)) (.no))))]
theorem fit4 : fits Try.prog 56 pl4 (Try.f4.body.getD .skip) = true := by kernel_rfl
theorem call4 {args : List AV} {H : Heap} {K : AV → Heap → Prop} (ha : args.length ≤ 56) (h : cwp Try.prog 56 pl4 (Try.f4.body.getD .skip) (retQ Try.prog Try.f4.results.toList K) (env0 args) H) : ACall Try.prog 4 args H K :=
  ACall.of_code (pl := pl4) Try.func4 rfl rfl fit4 ha h
def pl5 : Plans := [(10, .take 0 (.take 1 (.eff 2 [1] [0] (.eff 3 [0, 2, 1] [] (.take 4 (.done)) (.no)) (.no))))]
theorem fit5 : fits Try.prog 96 pl5 (Try.f5.body.getD .skip) = true := by kernel_rfl
theorem call5 {args : List AV} {H : Heap} {K : AV → Heap → Prop} (ha : args.length ≤ 96) (h : cwp Try.prog 96 pl5 (Try.f5.body.getD .skip) (retQ Try.prog Try.f5.results.toList K) (env0 args) H) : ACall Try.prog 5 args H K :=
  ACall.of_code (pl := pl5) Try.func5 rfl rfl fit5 ha h
def pl6 : Plans := [(13, .take 0 (.take 1 (.eff 2 [1] [0] (.eff 3 [0, 2, 1] [] (.take 4 (.done)) (.no)) (.no))))]
theorem fit6 : fits Try.prog 117 pl6 (Try.f6.body.getD .skip) = true := by kernel_rfl
theorem call6 {args : List AV} {H : Heap} {K : AV → Heap → Prop} (ha : args.length ≤ 117) (h : cwp Try.prog 117 pl6 (Try.f6.body.getD .skip) (retQ Try.prog Try.f6.results.toList K) (env0 args) H) : ACall Try.prog 6 args H K :=
  ACall.of_code (pl := pl6) Try.func6 rfl rfl fit6 ha h
def pl7 : Plans := [(13, .take 0 (.take 1 (.eff 2 [1] [0] (.eff 3 [0, 2, 1] [] (.take 4 (.done)) (.no)) (.no))))]
theorem fit7 : fits Try.prog 122 pl7 (Try.f7.body.getD .skip) = true := by kernel_rfl
theorem call7 {args : List AV} {H : Heap} {K : AV → Heap → Prop} (ha : args.length ≤ 122) (h : cwp Try.prog 122 pl7 (Try.f7.body.getD .skip) (retQ Try.prog Try.f7.results.toList K) (env0 args) H) : ACall Try.prog 7 args H K :=
  ACall.of_code (pl := pl7) Try.func7 rfl rfl fit7 ha h
def pl8 : Plans := []
theorem fit8 : fits Try.prog 18 pl8 (Try.f8.body.getD .skip) = true := by kernel_rfl
theorem call8 {args : List AV} {H : Heap} {K : AV → Heap → Prop} (ha : args.length ≤ 18) (h : cwp Try.prog 18 pl8 (Try.f8.body.getD .skip) (retQ Try.prog Try.f8.results.toList K) (env0 args) H) : ACall Try.prog 8 args H K :=
  ACall.of_code (pl := pl8) Try.func8 rfl rfl fit8 ha h
def pl9 : Plans := []
theorem fit9 : fits Try.prog 12 pl9 (Try.f9.body.getD .skip) = true := by kernel_rfl
theorem call9 {args : List AV} {H : Heap} {K : AV → Heap → Prop} (ha : args.length ≤ 12) (h : cwp Try.prog 12 pl9 (Try.f9.body.getD .skip) (retQ Try.prog Try.f9.results.toList K) (env0 args) H) : ACall Try.prog 9 args H K :=
  ACall.of_code (pl := pl9) Try.func9 rfl rfl fit9 ha h
def pl10 : Plans := [(3, .take 0 (.take 1 (.take 2 (.take 3 (.eff 4 [2, 3] [0, 1] (.eff 5 [0, 1, 4, 2, 3] [] (.take 6 (.take 7 (.done))) (.no)) (.no))))))]
theorem fit10 : fits Try.prog 24 pl10 (Try.f10.body.getD .skip) = true := by kernel_rfl
theorem call10 {args : List AV} {H : Heap} {K : AV → Heap → Prop} (ha : args.length ≤ 24) (h : cwp Try.prog 24 pl10 (Try.f10.body.getD .skip) (retQ Try.prog Try.f10.results.toList K) (env0 args) H) : ACall Try.prog 10 args H K :=
  ACall.of_code (pl := pl10) Try.func10 rfl rfl fit10 ha h
def pl11 : Plans := []
theorem fit11 : fits Try.prog 19 pl11 (Try.f11.body.getD .skip) = true := by kernel_rfl
theorem call11 {args : List AV} {H : Heap} {K : AV → Heap → Prop} (ha : args.length ≤ 19) (h : cwp Try.prog 19 pl11 (Try.f11.body.getD .skip) (retQ Try.prog Try.f11.results.toList K) (env0 args) H) : ACall Try.prog 11 args H K :=
  ACall.of_code (pl := pl11) Try.func11 rfl rfl fit11 ha h
def pl12 : Plans := []
theorem fit12 : fits Try.prog 23 pl12 (Try.f12.body.getD .skip) = true := by kernel_rfl
theorem call12 {args : List AV} {H : Heap} {K : AV → Heap → Prop} (ha : args.length ≤ 23) (h : cwp Try.prog 23 pl12 (Try.f12.body.getD .skip) (retQ Try.prog Try.f12.results.toList K) (env0 args) H) : ACall Try.prog 12 args H K :=
  ACall.of_code (pl := pl12) Try.func12 rfl rfl fit12 ha h
def pl13 : Plans := [(3, .take 0 (.take 1 (.take 2 (.take 3 (.eff 4 [2, 3] [0, 1] (.eff 5 [0, 1, 4, 2, 3] [] (.take 6 (.take 7 (.done))) (.no)) (.no))))))]
theorem fit13 : fits Try.prog 24 pl13 (Try.f13.body.getD .skip) = true := by kernel_rfl
theorem call13 {args : List AV} {H : Heap} {K : AV → Heap → Prop} (ha : args.length ≤ 24) (h : cwp Try.prog 24 pl13 (Try.f13.body.getD .skip) (retQ Try.prog Try.f13.results.toList K) (env0 args) H) : ACall Try.prog 13 args H K :=
  ACall.of_code (pl := pl13) Try.func13 rfl rfl fit13 ha h
def pl14 : Plans := []
theorem fit14 : fits Try.prog 27 pl14 (Try.f14.body.getD .skip) = true := by kernel_rfl
theorem call14 {args : List AV} {H : Heap} {K : AV → Heap → Prop} (ha : args.length ≤ 27) (h : cwp Try.prog 27 pl14 (Try.f14.body.getD .skip) (retQ Try.prog Try.f14.results.toList K) (env0 args) H) : ACall Try.prog 14 args H K :=
  ACall.of_code (pl := pl14) Try.func14 rfl rfl fit14 ha h
def pl15 : Plans := [(6, .take 0 (.take 1 (.take 2 (.take 3 (.take 4 (.take 5 (.take 6 (.take 7 (.eff 8 [3, 7, 2, 6, 0, 1, 4, 5] [] (.take 9 (.done)) (.no))))))))))]
theorem fit15 : fits Try.prog 27 pl15 (Try.f15.body.getD .skip) = true := by kernel_rfl
theorem call15 {args : List AV} {H : Heap} {K : AV → Heap → Prop} (ha : args.length ≤ 27) (h : cwp Try.prog 27 pl15 (Try.f15.body.getD .skip) (retQ Try.prog Try.f15.results.toList K) (env0 args) H) : ACall Try.prog 15 args H K :=
  ACall.of_code (pl := pl15) Try.func15 rfl rfl fit15 ha h
def pl16 : Plans := []
theorem fit16 : fits Try.prog 20 pl16 (Try.f16.body.getD .skip) = true := by kernel_rfl
theorem call16 {args : List AV} {H : Heap} {K : AV → Heap → Prop} (ha : args.length ≤ 20) (h : cwp Try.prog 20 pl16 (Try.f16.body.getD .skip) (retQ Try.prog Try.f16.results.toList K) (env0 args) H) : ACall Try.prog 16 args H K :=
  ACall.of_code (pl := pl16) Try.func16 rfl rfl fit16 ha h
def pl17 : Plans := []
theorem fit17 : fits Try.prog 22 pl17 (Try.f17.body.getD .skip) = true := by kernel_rfl
theorem call17 {args : List AV} {H : Heap} {K : AV → Heap → Prop} (ha : args.length ≤ 22) (h : cwp Try.prog 22 pl17 (Try.f17.body.getD .skip) (retQ Try.prog Try.f17.results.toList K) (env0 args) H) : ACall Try.prog 17 args H K :=
  ACall.of_code (pl := pl17) Try.func17 rfl rfl fit17 ha h
def pl18 : Plans := []
theorem fit18 : fits Try.prog 15 pl18 (Try.f18.body.getD .skip) = true := by kernel_rfl
theorem call18 {args : List AV} {H : Heap} {K : AV → Heap → Prop} (ha : args.length ≤ 15) (h : cwp Try.prog 15 pl18 (Try.f18.body.getD .skip) (retQ Try.prog Try.f18.results.toList K) (env0 args) H) : ACall Try.prog 18 args H K :=
  ACall.of_code (pl := pl18) Try.func18 rfl rfl fit18 ha h
def pl19 : Plans := [(6, .take 0 (.take 1 (.take 2 (.take 3 (.take 4 (.take 5 (.take 6 (.take 7 (.take 8 (.done))))))))))]
theorem fit19 : fits Try.prog 26 pl19 (Try.f19.body.getD .skip) = true := by kernel_rfl
theorem call19 {args : List AV} {H : Heap} {K : AV → Heap → Prop} (ha : args.length ≤ 26) (h : cwp Try.prog 26 pl19 (Try.f19.body.getD .skip) (retQ Try.prog Try.f19.results.toList K) (env0 args) H) : ACall Try.prog 19 args H K :=
  ACall.of_code (pl := pl19) Try.func19 rfl rfl fit19 ha h
def pl20 : Plans := []
theorem fit20 : fits Try.prog 11 pl20 (Try.f20.body.getD .skip) = true := by kernel_rfl
theorem call20 {args : List AV} {H : Heap} {K : AV → Heap → Prop} (ha : args.length ≤ 11) (h : cwp Try.prog 11 pl20 (Try.f20.body.getD .skip) (retQ Try.prog Try.f20.results.toList K) (env0 args) H) : ACall Try.prog 20 args H K :=
  ACall.of_code (pl := pl20) Try.func20 rfl rfl fit20 ha h
def pl21 : Plans := []
theorem fit21 : fits Try.prog 11 pl21 (Try.f21.body.getD .skip) = true := by kernel_rfl
theorem call21 {args : List AV} {H : Heap} {K : AV → Heap → Prop} (ha : args.length ≤ 11) (h : cwp Try.prog 11 pl21 (Try.f21.body.getD .skip) (retQ Try.prog Try.f21.results.toList K) (env0 args) H) : ACall Try.prog 21 args H K :=
  ACall.of_code (pl := pl21) Try.func21 rfl rfl fit21 ha h
def pl22 : Plans := [(6, .take 0 (.take 1 (.take 2 (.take 3 (.take 4 (.take 5 (.take 6 (.take 7 (.take 8 (.done))))))))))]
theorem fit22 : fits Try.prog 26 pl22 (Try.f22.body.getD .skip) = true := by kernel_rfl
theorem call22 {args : List AV} {H : Heap} {K : AV → Heap → Prop} (ha : args.length ≤ 26) (h : cwp Try.prog 26 pl22 (Try.f22.body.getD .skip) (retQ Try.prog Try.f22.results.toList K) (env0 args) H) : ACall Try.prog 22 args H K :=
  ACall.of_code (pl := pl22) Try.func22 rfl rfl fit22 ha h
def pl23 : Plans := []
theorem fit23 : fits Try.prog 14 pl23 (Try.f23.body.getD .skip) = true := by kernel_rfl
theorem call23 {args : List AV} {H : Heap} {K : AV → Heap → Prop} (ha : args.length ≤ 14) (h : cwp Try.prog 14 pl23 (Try.f23.body.getD .skip) (retQ Try.prog Try.f23.results.toList K) (env0 args) H) : ACall Try.prog 23 args H K :=
  ACall.of_code (pl := pl23) Try.func23 rfl rfl fit23 ha h
def pl24 : Plans := []
theorem fit24 : fits Try.prog 19 pl24 (Try.f24.body.getD .skip) = true := by kernel_rfl
theorem call24 {args : List AV} {H : Heap} {K : AV → Heap → Prop} (ha : args.length ≤ 19) (h : cwp Try.prog 19 pl24 (Try.f24.body.getD .skip) (retQ Try.prog Try.f24.results.toList K) (env0 args) H) : ACall Try.prog 24 args H K :=
  ACall.of_code (pl := pl24) Try.func24 rfl rfl fit24 ha h
def pl25 : Plans := []
theorem fit25 : fits Try.prog 21 pl25 (Try.f25.body.getD .skip) = true := by kernel_rfl
theorem call25 {args : List AV} {H : Heap} {K : AV → Heap → Prop} (ha : args.length ≤ 21) (h : cwp Try.prog 21 pl25 (Try.f25.body.getD .skip) (retQ Try.prog Try.f25.results.toList K) (env0 args) H) : ACall Try.prog 25 args H K :=
  ACall.of_code (pl := pl25) Try.func25 rfl rfl fit25 ha h
def pl26 : Plans := []
theorem fit26 : fits Try.prog 18 pl26 (Try.f26.body.getD .skip) = true := by kernel_rfl
theorem call26 {args : List AV} {H : Heap} {K : AV → Heap → Prop} (ha : args.length ≤ 18) (h : cwp Try.prog 18 pl26 (Try.f26.body.getD .skip) (retQ Try.prog Try.f26.results.toList K) (env0 args) H) : ACall Try.prog 26 args H K :=
  ACall.of_code (pl := pl26) Try.func26 rfl rfl fit26 ha h
def pl27 : Plans := []
theorem fit27 : fits Try.prog 33 pl27 (Try.f27.body.getD .skip) = true := by kernel_rfl
theorem call27 {args : List AV} {H : Heap} {K : AV → Heap → Prop} (ha : args.length ≤ 33) (h : cwp Try.prog 33 pl27 (Try.f27.body.getD .skip) (retQ Try.prog Try.f27.results.toList K) (env0 args) H) : ACall Try.prog 27 args H K :=
  ACall.of_code (pl := pl27) Try.func27 rfl rfl fit27 ha h
def pl28 : Plans := []
theorem fit28 : fits Try.prog 20 pl28 (Try.f28.body.getD .skip) = true := by kernel_rfl
theorem call28 {args : List AV} {H : Heap} {K : AV → Heap → Prop} (ha : args.length ≤ 20) (h : cwp Try.prog 20 pl28 (Try.f28.body.getD .skip) (retQ Try.prog Try.f28.results.toList K) (env0 args) H) : ACall Try.prog 28 args H K :=
  ACall.of_code (pl := pl28) Try.func28 rfl rfl fit28 ha h
def pl29 : Plans := []
theorem fit29 : fits Try.prog 28 pl29 (Try.f29.body.getD .skip) = true := by kernel_rfl
theorem call29 {args : List AV} {H : Heap} {K : AV → Heap → Prop} (ha : args.length ≤ 28) (h : cwp Try.prog 28 pl29 (Try.f29.body.getD .skip) (retQ Try.prog Try.f29.results.toList K) (env0 args) H) : ACall Try.prog 29 args H K :=
  ACall.of_code (pl := pl29) Try.func29 rfl rfl fit29 ha h
def pl30 : Plans := [(1, .take 0 (.take 1 (.eff 2 [0, 1] [] (.take 3 (.take 4 (.take 5 (.take 6 (.eff 7 [5, 6, 4, 3, 2, 0, 1] [] (.take 8 (.take 9 (.take 10 (.take 11 (.take 12 (.take 13 (.take 14 (.take 15 (.take 16 (.take 17 (.take 18 (.eff 19 [11, 17, 18, 10, 16, 9, 7, 15, 4, 8, 5, 6, 13, 14, 3, 2, 12, 0, 1] [] (.take 20 (.take 21 (.done))) (.no))))))))))))) (.no)))))) (.no)))), (3, .take 0 (.take 1 (.take 2 (.take 3 (.take 4 (.take 5 (.take 6 (.eff 7 [0, 5, 6, 4, 2, 3, 1] [] (.take 8 (.take 9 (.done))) (.no)))))))))]
theorem fit30 : fits Try.prog 38 pl30 (Try.f30.body.getD .skip) = true := by kernel_rfl
theorem call30 {args : List AV} {H : Heap} {K : AV → Heap → Prop} (ha : args.length ≤ 38) (h : cwp Try.prog 38 pl30 (Try.f30.body.getD .skip) (retQ Try.prog Try.f30.results.toList K) (env0 args) H) : ACall Try.prog 30 args H K :=
  ACall.of_code (pl := pl30) Try.func30 rfl rfl fit30 ha h
def pl31 : Plans := []
theorem fit31 : fits Try.prog 22 pl31 (Try.f31.body.getD .skip) = true := by kernel_rfl
theorem call31 {args : List AV} {H : Heap} {K : AV → Heap → Prop} (ha : args.length ≤ 22) (h : cwp Try.prog 22 pl31 (Try.f31.body.getD .skip) (retQ Try.prog Try.f31.results.toList K) (env0 args) H) : ACall Try.prog 31 args H K :=
  ACall.of_code (pl := pl31) Try.func31 rfl rfl fit31 ha h
def pl32 : Plans := []
theorem fit32 : fits Try.prog 27 pl32 (Try.f32.body.getD .skip) = true := by kernel_rfl
theorem call32 {args : List AV} {H : Heap} {K : AV → Heap → Prop} (ha : args.length ≤ 27) (h : cwp Try.prog 27 pl32 (Try.f32.body.getD .skip) (retQ Try.prog Try.f32.results.toList K) (env0 args) H) : ACall Try.prog 32 args H K :=
  ACall.of_code (pl := pl32) Try.func32 rfl rfl fit32 ha h
def pl33 : Plans := []
theorem fit33 : fits Try.prog 14 pl33 (Try.f33.body.getD .skip) = true := by kernel_rfl
theorem call33 {args : List AV} {H : Heap} {K : AV → Heap → Prop} (ha : args.length ≤ 14) (h : cwp Try.prog 14 pl33 (Try.f33.body.getD .skip) (retQ Try.prog Try.f33.results.toList K) (env0 args) H) : ACall Try.prog 33 args H K :=
  ACall.of_code (pl := pl33) Try.func33 rfl rfl fit33 ha h
def pl34 : Plans := []
theorem fit34 : fits Try.prog 12 pl34 (Try.f34.body.getD .skip) = true := by kernel_rfl
theorem call34 {args : List AV} {H : Heap} {K : AV → Heap → Prop} (ha : args.length ≤ 12) (h : cwp Try.prog 12 pl34 (Try.f34.body.getD .skip) (retQ Try.prog Try.f34.results.toList K) (env0 args) H) : ACall Try.prog 34 args H K :=
  ACall.of_code (pl := pl34) Try.func34 rfl rfl fit34 ha h
def pl35 : Plans := []
theorem fit35 : fits Try.prog 16 pl35 (Try.f35.body.getD .skip) = true := by kernel_rfl
theorem call35 {args : List AV} {H : Heap} {K : AV → Heap → Prop} (ha : args.length ≤ 16) (h : cwp Try.prog 16 pl35 (Try.f35.body.getD .skip) (retQ Try.prog Try.f35.results.toList K) (env0 args) H) : ACall Try.prog 35 args H K :=
  ACall.of_code (pl := pl35) Try.func35 rfl rfl fit35 ha h
def pl36 : Plans := []
theorem fit36 : fits Try.prog 31 pl36 (Try.f36.body.getD .skip) = true := by kernel_rfl
theorem call36 {args : List AV} {H : Heap} {K : AV → Heap → Prop} (ha : args.length ≤ 31) (h : cwp Try.prog 31 pl36 (Try.f36.body.getD .skip) (retQ Try.prog Try.f36.results.toList K) (env0 args) H) : ACall Try.prog 36 args H K :=
  ACall.of_code (pl := pl36) Try.func36 rfl rfl fit36 ha h
def pl37 : Plans := []
theorem fit37 : fits Try.prog 23 pl37 (Try.f37.body.getD .skip) = true := by kernel_rfl
theorem call37 {args : List AV} {H : Heap} {K : AV → Heap → Prop} (ha : args.length ≤ 23) (h : cwp Try.prog 23 pl37 (Try.f37.body.getD .skip) (retQ Try.prog Try.f37.results.toList K) (env0 args) H) : ACall Try.prog 37 args H K :=
  ACall.of_code (pl := pl37) Try.func37 rfl rfl fit37 ha h
def pl38 : Plans := []
theorem fit38 : fits Try.prog 11 pl38 (Try.f38.body.getD .skip) = true := by kernel_rfl
theorem call38 {args : List AV} {H : Heap} {K : AV → Heap → Prop} (ha : args.length ≤ 11) (h : cwp Try.prog 11 pl38 (Try.f38.body.getD .skip) (retQ Try.prog Try.f38.results.toList K) (env0 args) H) : ACall Try.prog 38 args H K :=
  ACall.of_code (pl := pl38) Try.func38 rfl rfl fit38 ha h
def pl39 : Plans := []
theorem fit39 : fits Try.prog 17 pl39 (Try.f39.body.getD .skip) = true := by kernel_rfl
theorem call39 {args : List AV} {H : Heap} {K : AV → Heap → Prop} (ha : args.length ≤ 17) (h : cwp Try.prog 17 pl39 (Try.f39.body.getD .skip) (retQ Try.prog Try.f39.results.toList K) (env0 args) H) : ACall Try.prog 39 args H K :=
  ACall.of_code (pl := pl39) Try.func39 rfl rfl fit39 ha h
def pl40 : Plans := []
theorem fit40 : fits Try.prog 11 pl40 (Try.f40.body.getD .skip) = true := by kernel_rfl
theorem call40 {args : List AV} {H : Heap} {K : AV → Heap → Prop} (ha : args.length ≤ 11) (h : cwp Try.prog 11 pl40 (Try.f40.body.getD .skip) (retQ Try.prog Try.f40.results.toList K) (env0 args) H) : ACall Try.prog 40 args H K :=
  ACall.of_code (pl := pl40) Try.func40 rfl rfl fit40 ha h
def pl41 : Plans := []
theorem fit41 : fits Try.prog 13 pl41 (Try.f41.body.getD .skip) = true := by kernel_rfl
theorem call41 {args : List AV} {H : Heap} {K : AV → Heap → Prop} (ha : args.length ≤ 13) (h : cwp Try.prog 13 pl41 (Try.f41.body.getD .skip) (retQ Try.prog Try.f41.results.toList K) (env0 args) H) : ACall Try.prog 41 args H K :=
  ACall.of_code (pl := pl41) Try.func41 rfl rfl fit41 ha h
def pl42 : Plans := [(5, .take 0 (.take 1 (.take 2 (.take 3 (.take 4 (.take 5 (.take 6 (.take 7 (.take 8 (.take 9 (.eff 10 [9, 8] [0, 1, 2, 3, 4, 5, 6, 7] (.take 11 (.eff 12 [11, 7, 10, 2, 6, 9, 1, 4, 5, 8, 3] [0] (.eff 13 [0, 12, 10, 11, 9, 7, 8, 2, 6, 1, 4, 5, 3] [] (.eff 14 [13, 0, 1, 2, 3, 4, 5, 6, 7, 8, 9, 10, 11, 12] [] (.done) (.no)) (.no)) (.no))) (.no))))))))))))]
theorem fit42 : fits Try.prog 29 pl42 (Try.f42.body.getD .skip) = true := by kernel_rfl
theorem call42 {args : List AV} {H : Heap} {K : AV → Heap → Prop} (ha : args.length ≤ 29) (h : cwp Try.prog 29 pl42 (Try.f42.body.getD .skip) (retQ Try.prog Try.f42.results.toList K) (env0 args) H) : ACall Try.prog 42 args H K :=
  ACall.of_code (pl := pl42) Try.func42 rfl rfl fit42 ha h
def pl43 : Plans := [(6, .take 0 (.take 1 (.take 2 (.take 3 (.take 4 (.take 5 (.take 6 (.take 7 (.eff 8 [3, 7, 2, 6, 0, 1, 4, 5] [] (.take 9 (.done)) (.no))))))))))]
theorem fit43 : fits Try.prog 27 pl43 (Try.f43.body.getD .skip) = true := by kernel_rfl
theorem call43 {args : List AV} {H : Heap} {K : AV → Heap → Prop} (ha : args.length ≤ 27) (h : cwp Try.prog 27 pl43 (Try.f43.body.getD .skip) (retQ Try.prog Try.f43.results.toList K) (env0 args) H) : ACall Try.prog 43 args H K :=
  ACall.of_code (pl := pl43) Try.func43 rfl rfl fit43 ha h
def pl44 : Plans := []
theorem fit44 : fits Try.prog 15 pl44 (Try.f44.body.getD .skip) = true := by kernel_rfl
theorem call44 {args : List AV} {H : Heap} {K : AV → Heap → Prop} (ha : args.length ≤ 15) (h : cwp Try.prog 15 pl44 (Try.f44.body.getD .skip) (retQ Try.prog Try.f44.results.toList K) (env0 args) H) : ACall Try.prog 44 args H K :=
  ACall.of_code (pl := pl44) Try.func44 rfl rfl fit44 ha h
def pl45 : Plans := []
theorem fit45 : fits Try.prog 29 pl45 (Try.f45.body.getD .skip) = true := by kernel_rfl
theorem call45 {args : List AV} {H : Heap} {K : AV → Heap → Prop} (ha : args.length ≤ 29) (h : cwp Try.prog 29 pl45 (Try.f45.body.getD .skip) (retQ Try.prog Try.f45.results.toList K) (env0 args) H) : ACall Try.prog 45 args H K :=
  ACall.of_code (pl := pl45) Try.func45 rfl rfl fit45 ha h
def pl46 : Plans := []
theorem fit46 : fits Try.prog 16 pl46 (Try.f46.body.getD .skip) = true := by kernel_rfl
theorem call46 {args : List AV} {H : Heap} {K : AV → Heap → Prop} (ha : args.length ≤ 16) (h : cwp Try.prog 16 pl46 (Try.f46.body.getD .skip) (retQ Try.prog Try.f46.results.toList K) (env0 args) H) : ACall Try.prog 46 args H K :=
  ACall.of_code (pl := pl46) Try.func46 rfl rfl fit46 ha h
def pl47 : Plans := []
theorem fit47 : fits Try.prog 15 pl47 (Try.f47.body.getD .skip) = true := by kernel_rfl
theorem call47 {args : List AV} {H : Heap} {K : AV → Heap → Prop} (ha : args.length ≤ 15) (h : cwp Try.prog 15 pl47 (Try.f47.body.getD .skip) (retQ Try.prog Try.f47.results.toList K) (env0 args) H) : ACall Try.prog 47 args H K :=
  ACall.of_code (pl := pl47) Try.func47 rfl rfl fit47 ha h
def pl48 : Plans := []
theorem fit48 : fits Try.prog 13 pl48 (Try.f48.body.getD .skip) = true := by kernel_rfl
theorem call48 {args : List AV} {H : Heap} {K : AV → Heap → Prop} (ha : args.length ≤ 13) (h : cwp Try.prog 13 pl48 (Try.f48.body.getD .skip) (retQ Try.prog Try.f48.results.toList K) (env0 args) H) : ACall Try.prog 48 args H K :=
  ACall.of_code (pl := pl48) Try.func48 rfl rfl fit48 ha h
def pl49 : Plans := [(5, .take 0 (.take 1 (.take 2 (.take 3 (.eff 4 [2, 3] [0, 1] (.eff 5 [0, 1, 4, 2, 3] [] (.done) (.no)) (.no))))))]
theorem fit49 : fits Try.prog 24 pl49 (Try.f49.body.getD .skip) = true := by kernel_rfl
theorem call49 {args : List AV} {H : Heap} {K : AV → Heap → Prop} (ha : args.length ≤ 24) (h : cwp Try.prog 24 pl49 (Try.f49.body.getD .skip) (retQ Try.prog Try.f49.results.toList K) (env0 args) H) : ACall Try.prog 49 args H K :=
  ACall.of_code (pl := pl49) Try.func49 rfl rfl fit49 ha h
def pl50 : Plans := []
theorem fit50 : fits Try.prog 13 pl50 (Try.f50.body.getD .skip) = true := by kernel_rfl
theorem call50 {args : List AV} {H : Heap} {K : AV → Heap → Prop} (ha : args.length ≤ 13) (h : cwp Try.prog 13 pl50 (Try.f50.body.getD .skip) (retQ Try.prog Try.f50.results.toList K) (env0 args) H) : ACall Try.prog 50 args H K :=
  ACall.of_code (pl := pl50) Try.func50 rfl rfl fit50 ha h
def pl51 : Plans := [(5, .take 0 (.take 1 (.take 2 (.take 3 (.eff 4 [2, 3] [0, 1] (.eff 5 [0, 1, 4, 2, 3] [] (.done) (.no)) (.no))))))]
theorem fit51 : fits Try.prog 25 pl51 (Try.f51.body.getD .skip) = true := by kernel_rfl
theorem call51 {args : List AV} {H : Heap} {K : AV → Heap → Prop} (ha : args.length ≤ 25) (h : cwp Try.prog 25 pl51 (Try.f51.body.getD .skip) (retQ Try.prog Try.f51.results.toList K) (env0 args) H) : ACall Try.prog 51 args H K :=
  ACall.of_code (pl := pl51) Try.func51 rfl rfl fit51 ha h
def pl52 : Plans := []
theorem fit52 : fits Try.prog 28 pl52 (Try.f52.body.getD .skip) = true := by kernel_rfl
theorem call52 {args : List AV} {H : Heap} {K : AV → Heap → Prop} (ha : args.length ≤ 28) (h : cwp Try.prog 28 pl52 (Try.f52.body.getD .skip) (retQ Try.prog Try.f52.results.toList K) (env0 args) H) : ACall Try.prog 52 args H K :=
  ACall.of_code (pl := pl52) Try.func52 rfl rfl fit52 ha h
def pl53 : Plans := []
theorem fit53 : fits Try.prog 27 pl53 (Try.f53.body.getD .skip) = true := by kernel_rfl
theorem call53 {args : List AV} {H : Heap} {K : AV → Heap → Prop} (ha : args.length ≤ 27) (h : cwp Try.prog 27 pl53 (Try.f53.body.getD .skip) (retQ Try.prog Try.f53.results.toList K) (env0 args) H) : ACall Try.prog 53 args H K :=
  ACall.of_code (pl := pl53) Try.func53 rfl rfl fit53 ha h
def pl54 : Plans := []
theorem fit54 : fits Try.prog 27 pl54 (Try.f54.body.getD .skip) = true := by kernel_rfl
theorem call54 {args : List AV} {H : Heap} {K : AV → Heap → Prop} (ha : args.length ≤ 27) (h : cwp Try.prog 27 pl54 (Try.f54.body.getD .skip) (retQ Try.prog Try.f54.results.toList K) (env0 args) H) : ACall Try.prog 54 args H K :=
  ACall.of_code (pl := pl54) Try.func54 rfl rfl fit54 ha h
def pl55 : Plans := []
theorem fit55 : fits Try.prog 17 pl55 (Try.f55.body.getD .skip) = true := by kernel_rfl
theorem call55 {args : List AV} {H : Heap} {K : AV → Heap → Prop} (ha : args.length ≤ 17) (h : cwp Try.prog 17 pl55 (Try.f55.body.getD .skip) (retQ Try.prog Try.f55.results.toList K) (env0 args) H) : ACall Try.prog 55 args H K :=
  ACall.of_code (pl := pl55) Try.func55 rfl rfl fit55 ha h
def pl56 : Plans := [(5, .take 0 (.take 1 (.take 2 (.take 3 (.take 4 (.take 5 (.take 6 (.take 7 (.take 8 (.take 9 (.take 10 (.take 11 (.eff 12 [4, 6, 10, 11, 3, 5, 9, 8, 7] [0, 1, 2] (.take 13 (.eff 14 [13, 12, 0, 1, 2, 3, 4, 5, 6, 7, 8, 9, 10, 11] [] (.done) (.no))) (.no))))))))))))))]
theorem fit56 : fits Try.prog 40 pl56 (Try.f56.body.getD .skip) = true := by kernel_rfl
theorem call56 {args : List AV} {H : Heap} {K : AV → Heap → Prop} (ha : args.length ≤ 40) (h : cwp Try.prog 40 pl56 (Try.f56.body.getD .skip) (retQ Try.prog Try.f56.results.toList K) (env0 args) H) : ACall Try.prog 56 args H K :=
  ACall.of_code (pl := pl56) Try.func56 rfl rfl fit56 ha h
def pl57 : Plans := []
theorem fit57 : fits Try.prog 14 pl57 (Try.f57.body.getD .skip) = true := by kernel_rfl
theorem call57 {args : List AV} {H : Heap} {K : AV → Heap → Prop} (ha : args.length ≤ 14) (h : cwp Try.prog 14 pl57 (Try.f57.body.getD .skip) (retQ Try.prog Try.f57.results.toList K) (env0 args) H) : ACall Try.prog 57 args H K :=
  ACall.of_code (pl := pl57) Try.func57 rfl rfl fit57 ha h
def pl58 : Plans := [(5, .take 0 (.take 1 (.take 2 (.take 3 (.take 4 (.take 5 (.take 6 (.take 7 (.eff 8 [4, 6, 7, 3, 5] [0, 1, 2] (.take 9 (.eff 10 [9, 8, 0, 1, 2, 3, 4, 5, 6, 7] [] (.done) (.no))) (.no))))))))))]
theorem fit58 : fits Try.prog 31 pl58 (Try.f58.body.getD .skip) = true := by kernel_rfl
theorem call58 {args : List AV} {H : Heap} {K : AV → Heap → Prop} (ha : args.length ≤ 31) (h : cwp Try.prog 31 pl58 (Try.f58.body.getD .skip) (retQ Try.prog Try.f58.results.toList K) (env0 args) H) : ACall Try.prog 58 args H K :=
  ACall.of_code (pl := pl58) Try.func58 rfl rfl fit58 ha h
def pl59 : Plans := []
theorem fit59 : fits Try.prog 18 pl59 (Try.f59.body.getD .skip) = true := by kernel_rfl
theorem call59 {args : List AV} {H : Heap} {K : AV → Heap → Prop} (ha : args.length ≤ 18) (h : cwp Try.prog 18 pl59 (Try.f59.body.getD .skip) (retQ Try.prog Try.f59.results.toList K) (env0 args) H) : ACall Try.prog 59 args H K :=
  ACall.of_code (pl := pl59) Try.func59 rfl rfl fit59 ha h
def pl60 : Plans := []
theorem fit60 : fits Try.prog 15 pl60 (Try.f60.body.getD .skip) = true := by kernel_rfl
theorem call60 {args : List AV} {H : Heap} {K : AV → Heap → Prop} (ha : args.length ≤ 15) (h : cwp Try.prog 15 pl60 (Try.f60.body.getD .skip) (retQ Try.prog Try.f60.results.toList K) (env0 args) H) : ACall Try.prog 60 args H K :=
  ACall.of_code (pl := pl60) Try.func60 rfl rfl fit60 ha h
def pl61 : Plans := []
theorem fit61 : fits Try.prog 10 pl61 (Try.f61.body.getD .skip) = true := by kernel_rfl
theorem call61 {args : List AV} {H : Heap} {K : AV → Heap → Prop} (ha : args.length ≤ 10) (h : cwp Try.prog 10 pl61 (Try.f61.body.getD .skip) (retQ Try.prog Try.f61.results.toList K) (env0 args) H) : ACall Try.prog 61 args H K :=
  ACall.of_code (pl := pl61) Try.func61 rfl rfl fit61 ha h
def pl62 : Plans := []
theorem fit62 : fits Try.prog 83 pl62 (Try.f62.body.getD .skip) = true := by kernel_rfl
theorem call62 {args : List AV} {H : Heap} {K : AV → Heap → Prop} (ha : args.length ≤ 83) (h : cwp Try.prog 83 pl62 (Try.f62.body.getD .skip) (retQ Try.prog Try.f62.results.toList K) (env0 args) H) : ACall Try.prog 62 args H K :=
  ACall.of_code (pl := pl62) Try.func62 rfl rfl fit62 ha h
def pl63 : Plans := [(11, .take 0 (.take 1 (.take 2 (.take 3 (.take 4 (.take 5 (.take 6 (.take 7 (.take 10 (.take 12 (.take 13 (.take 14 (.take 15 (.take 16 (.eff 8 [5, 7, 6] [0, 1, 2, 3, 4, 10, 12, 13, 14, 15, 16] (.take 9 (.eff 11 [3, 4, 9, 10, 8, 5, 7, 6] [0, 1, 2, 12, 13, 14, 15, 16] (.eff 17 [12, 13, 15, 16, 11, 14, 3, 4, 9, 10, 8, 5, 7, 6] [0, 1, 2] (.eff 18 [0, 2, 11, 17, 1, 3, 4, 9, 10, 8, 12, 13, 15, 16, 5, 7, 14, 6] [] (.take 19 (.done)) (.no)) (.no)) (.no))) (.no))))))))))))))))]
theorem fit63 : fits Try.prog 81 pl63 (Try.f63.body.getD .skip) = true := by kernel_rfl
theorem call63 {args : List AV} {H : Heap} {K : AV → Heap → Prop} (ha : args.length ≤ 81) (h : cwp Try.prog 81 pl63 (Try.f63.body.getD .skip) (retQ Try.prog Try.f63.results.toList K) (env0 args) H) : ACall Try.prog 63 args H K :=
  ACall.of_code (pl := pl63) Try.func63 rfl rfl fit63 ha h
def pl64 : Plans := []
theorem fit64 : fits Try.prog 13 pl64 (Try.f64.body.getD .skip) = true := by kernel_rfl
theorem call64 {args : List AV} {H : Heap} {K : AV → Heap → Prop} (ha : args.length ≤ 13) (h : cwp Try.prog 13 pl64 (Try.f64.body.getD .skip) (retQ Try.prog Try.f64.results.toList K) (env0 args) H) : ACall Try.prog 64 args H K :=
  ACall.of_code (pl := pl64) Try.func64 rfl rfl fit64 ha h
def pl65 : Plans := []
theorem fit65 : fits Try.prog 9 pl65 (Try.f65.body.getD .skip) = true := by kernel_rfl
theorem call65 {args : List AV} {H : Heap} {K : AV → Heap → Prop} (ha : args.length ≤ 9) (h : cwp Try.prog 9 pl65 (Try.f65.body.getD .skip) (retQ Try.prog Try.f65.results.toList K) (env0 args) H) : ACall Try.prog 65 args H K :=
  ACall.of_code (pl := pl65) Try.func65 rfl rfl fit65 ha h
def pl66 : Plans := []
theorem fit66 : fits Try.prog 19 pl66 (Try.f66.body.getD .skip) = true := by kernel_rfl
theorem call66 {args : List AV} {H : Heap} {K : AV → Heap → Prop} (ha : args.length ≤ 19) (h : cwp Try.prog 19 pl66 (Try.f66.body.getD .skip) (retQ Try.prog Try.f66.results.toList K) (env0 args) H) : ACall Try.prog 66 args H K :=
  ACall.of_code (pl := pl66) Try.func66 rfl rfl fit66 ha h
def pl67 : Plans := [(14, .take 0 (.take 1 (.take 2 (.take 3 (.take 4 (.take 5 (.take 6 (.take 7 (.eff 8 [7] [0, 1, 2, 3, 4, 5, 6] (.take 9 (.take 10 (.eff 11 [10, 9, 8, 0, 1, 2, 3, 4, 5, 6, 7] [] (.done) (.no)))) (.no)))))))))), (7, .take 0 (.take 1 (.take 2 (.take 3 (.take 4 (.take 5 (.take 6 (.take 7 (.take 8 (.take 9 (.take 10 (.take 11 (.take 12 (.take 13 (.take 14 (.take 15 (.eff 16 [4, 6, 11, 15, 5, 10, 14, 7, 9, 12, 13, 8] [0, 1, 2, 3] (.eff 17 [16, 4, 6, 11, 15, 5, 10, 14, 7, 9, 12, 13, 8] [0, 1, 2, 3] (.eff 18 [3, 17, 16, 0, 2, 4, 6, 11, 15, 1, 5, 10, 14, 7, 9, 12, 13, 8] [] (.eff 19 [18, 0, 1, 2, 3, 4, 5, 6, 7, 8, 9, 10, 11, 12, 13, 14, 15, 16, 17] [] (.done) (.no)) (.no)) (.no)) (.no))))))))))))))))))]
theorem fit67 : fits Try.prog 87 pl67 (Try.f67.body.getD .skip) = true := by kernel_rfl
theorem call67 {args : List AV} {H : Heap} {K : AV → Heap → Prop} (ha : args.length ≤ 87) (h : cwp Try.prog 87 pl67 (Try.f67.body.getD .skip) (retQ Try.prog Try.f67.results.toList K) (env0 args) H) : ACall Try.prog 67 args H K :=
  ACall.of_code (pl := pl67) Try.func67 rfl rfl fit67 ha h
def pl68 : Plans := []
theorem fit68 : fits Try.prog 6 pl68 (Try.f68.body.getD .skip) = true := by kernel_rfl
theorem call68 {args : List AV} {H : Heap} {K : AV → Heap → Prop} (ha : args.length ≤ 6) (h : cwp Try.prog 6 pl68 (Try.f68.body.getD .skip) (retQ Try.prog Try.f68.results.toList K) (env0 args) H) : ACall Try.prog 68 args H K :=
  ACall.of_code (pl := pl68) Try.func68 rfl rfl fit68 ha h
def pl69 : Plans := []
theorem fit69 : fits Try.prog 17 pl69 (Try.f69.body.getD .skip) = true := by kernel_rfl
theorem call69 {args : List AV} {H : Heap} {K : AV → Heap → Prop} (ha : args.length ≤ 17) (h : cwp Try.prog 17 pl69 (Try.f69.body.getD .skip) (retQ Try.prog Try.f69.results.toList K) (env0 args) H) : ACall Try.prog 69 args H K :=
  ACall.of_code (pl := pl69) Try.func69 rfl rfl fit69 ha h
def pl70 : Plans := [(6, .take 0 (.take 1 (.take 2 (.take 3 (.take 4 (.eff 5 [1, 4, 0, 3, 2] [] (.take 6 (.take 7 (.take 8 (.take 9 (.take 10 (.take 11 (.take 12 (.take 13 (.take 14 (.take 15 (.take 16 (.take 17 (.take 18 (.take 19 (.take 20 (.take 21 (.take 22 (.take 23 (.take 24 (.take 25 (.take 26 (.take 27 (.take 28 (.take 29 (.eff 30 [25, 27, 29, 23, 24, 26, 28, 22, 10, 7, 21, 9, 6, 5, 20, 8, 1, 4, 17, 19, 0, 3, 16, 18, 2, 15, 12, 14, 11, 13] [] (.take 31 (.take 32 (.done))) (.no)))))))))))))))))))))))))) (.no)))))))]
theorem fit70 : fits Try.prog 62 pl70 (Try.f70.body.getD .skip) = true := by kernel_rfl
theorem call70 {args : List AV} {H : Heap} {K : AV → Heap → Prop} (ha : args.length ≤ 62) (h : cwp Try.prog 62 pl70 (Try.f70.body.getD .skip) (retQ Try.prog Try.f70.results.toList K) (env0 args) H) : ACall Try.prog 70 args H K :=
  ACall.of_code (pl := pl70) Try.func70 rfl rfl fit70 ha h
def pl71 : Plans := []
theorem fit71 : fits Try.prog 18 pl71 (Try.f71.body.getD .skip) = true := by kernel_rfl
theorem call71 {args : List AV} {H : Heap} {K : AV → Heap → Prop} (ha : args.length ≤ 18) (h : cwp Try.prog 18 pl71 (Try.f71.body.getD .skip) (retQ Try.prog Try.f71.results.toList K) (env0 args) H) : ACall Try.prog 71 args H K :=
  ACall.of_code (pl := pl71) Try.func71 rfl rfl fit71 ha h
def pl72 : Plans := []
theorem fit72 : fits Try.prog 37 pl72 (Try.f72.body.getD .skip) = true := by kernel_rfl
theorem call72 {args : List AV} {H : Heap} {K : AV → Heap → Prop} (ha : args.length ≤ 37) (h : cwp Try.prog 37 pl72 (Try.f72.body.getD .skip) (retQ Try.prog Try.f72.results.toList K) (env0 args) H) : ACall Try.prog 72 args H K :=
  ACall.of_code (pl := pl72) Try.func72 rfl rfl fit72 ha h
def pl73 : Plans := []
theorem fit73 : fits Try.prog 25 pl73 (Try.f73.body.getD .skip) = true := by kernel_rfl
theorem call73 {args : List AV} {H : Heap} {K : AV → Heap → Prop} (ha : args.length ≤ 25) (h : cwp Try.prog 25 pl73 (Try.f73.body.getD .skip) (retQ Try.prog Try.f73.results.toList K) (env0 args) H) : ACall Try.prog 73 args H K :=
  ACall.of_code (pl := pl73) Try.func73 rfl rfl fit73 ha h
def pl74 : Plans := []
theorem fit74 : fits Try.prog 27 pl74 (Try.f74.body.getD .skip) = true := by kernel_rfl
theorem call74 {args : List AV} {H : Heap} {K : AV → Heap → Prop} (ha : args.length ≤ 27) (h : cwp Try.prog 27 pl74 (Try.f74.body.getD .skip) (retQ Try.prog Try.f74.results.toList K) (env0 args) H) : ACall Try.prog 74 args H K :=
  ACall.of_code (pl := pl74) Try.func74 rfl rfl fit74 ha h
def pl75 : Plans := []
theorem fit75 : fits Try.prog 8 pl75 (Try.f75.body.getD .skip) = true := by kernel_rfl
theorem call75 {args : List AV} {H : Heap} {K : AV → Heap → Prop} (ha : args.length ≤ 8) (h : cwp Try.prog 8 pl75 (Try.f75.body.getD .skip) (retQ Try.prog Try.f75.results.toList K) (env0 args) H) : ACall Try.prog 75 args H K :=
  ACall.of_code (pl := pl75) Try.func75 rfl rfl fit75 ha h
def pl76 : Plans := []
theorem fit76 : fits Try.prog 27 pl76 (Try.f76.body.getD .skip) = true := by kernel_rfl
theorem call76 {args : List AV} {H : Heap} {K : AV → Heap → Prop} (ha : args.length ≤ 27) (h : cwp Try.prog 27 pl76 (Try.f76.body.getD .skip) (retQ Try.prog Try.f76.results.toList K) (env0 args) H) : ACall Try.prog 76 args H K :=
  ACall.of_code (pl := pl76) Try.func76 rfl rfl fit76 ha h
def pl77 : Plans := []
theorem fit77 : fits Try.prog 5 pl77 (Try.f77.body.getD .skip) = true := by kernel_rfl
theorem call77 {args : List AV} {H : Heap} {K : AV → Heap → Prop} (ha : args.length ≤ 5) (h : cwp Try.prog 5 pl77 (Try.f77.body.getD .skip) (retQ Try.prog Try.f77.results.toList K) (env0 args) H) : ACall Try.prog 77 args H K :=
  ACall.of_code (pl := pl77) Try.func77 rfl rfl fit77 ha h
def pl78 : Plans := []
theorem fit78 : fits Try.prog 34 pl78 (Try.f78.body.getD .skip) = true := by kernel_rfl
theorem call78 {args : List AV} {H : Heap} {K : AV → Heap → Prop} (ha : args.length ≤ 34) (h : cwp Try.prog 34 pl78 (Try.f78.body.getD .skip) (retQ Try.prog Try.f78.results.toList K) (env0 args) H) : ACall Try.prog 78 args H K :=
  ACall.of_code (pl := pl78) Try.func78 rfl rfl fit78 ha h
def pl79 : Plans := []
theorem fit79 : fits Try.prog 30 pl79 (Try.f79.body.getD .skip) = true := by kernel_rfl
theorem call79 {args : List AV} {H : Heap} {K : AV → Heap → Prop} (ha : args.length ≤ 30) (h : cwp Try.prog 30 pl79 (Try.f79.body.getD .skip) (retQ Try.prog Try.f79.results.toList K) (env0 args) H) : ACall Try.prog 79 args H K :=
  ACall.of_code (pl := pl79) Try.func79 rfl rfl fit79 ha h
def pl80 : Plans := []
theorem fit80 : fits Try.prog 20 pl80 (Try.f80.body.getD .skip) = true := by kernel_rfl
theorem call80 {args : List AV} {H : Heap} {K : AV → Heap → Prop} (ha : args.length ≤ 20) (h : cwp Try.prog 20 pl80 (Try.f80.body.getD .skip) (retQ Try.prog Try.f80.results.toList K) (env0 args) H) : ACall Try.prog 80 args H K :=
  ACall.of_code (pl := pl80) Try.func80 rfl rfl fit80 ha h
def pl81 : Plans := []
theorem fit81 : fits Try.prog 99 pl81 (Try.f81.body.getD .skip) = true := by kernel_rfl
theorem call81 {args : List AV} {H : Heap} {K : AV → Heap → Prop} (ha : args.length ≤ 99) (h : cwp Try.prog 99 pl81 (Try.f81.body.getD .skip) (retQ Try.prog Try.f81.results.toList K) (env0 args) H) : ACall Try.prog 81 args H K :=
  ACall.of_code (pl := pl81) Try.func81 rfl rfl fit81 ha h
def pl82 : Plans := []
theorem fit82 : fits Try.prog 29 pl82 (Try.f82.body.getD .skip) = true := by kernel_rfl
theorem call82 {args : List AV} {H : Heap} {K : AV → Heap → Prop} (ha : args.length ≤ 29) (h : cwp Try.prog 29 pl82 (Try.f82.body.getD .skip) (retQ Try.prog Try.f82.results.toList K) (env0 args) H) : ACall Try.prog 82 args H K :=
  ACall.of_code (pl := pl82) Try.func82 rfl rfl fit82 ha h
def pl83 : Plans := []
theorem fit83 : fits Try.prog 23 pl83 (Try.f83.body.getD .skip) = true := by kernel_rfl
theorem call83 {args : List AV} {H : Heap} {K : AV → Heap → Prop} (ha : args.length ≤ 23) (h : cwp Try.prog 23 pl83 (Try.f83.body.getD .skip) (retQ Try.prog Try.f83.results.toList K) (env0 args) H) : ACall Try.prog 83 args H K :=
  ACall.of_code (pl := pl83) Try.func83 rfl rfl fit83 ha h
def pl84 : Plans := []
theorem fit84 : fits Try.prog 80 pl84 (Try.f84.body.getD .skip) = true := by kernel_rfl
theorem call84 {args : List AV} {H : Heap} {K : AV → Heap → Prop} (ha : args.length ≤ 80) (h : cwp Try.prog 80 pl84 (Try.f84.body.getD .skip) (retQ Try.prog Try.f84.results.toList K) (env0 args) H) : ACall Try.prog 84 args H K :=
  ACall.of_code (pl := pl84) Try.func84 rfl rfl fit84 ha h
def pl85 : Plans := []
theorem fit85 : fits Try.prog 19 pl85 (Try.f85.body.getD .skip) = true := by kernel_rfl
theorem call85 {args : List AV} {H : Heap} {K : AV → Heap → Prop} (ha : args.length ≤ 19) (h : cwp Try.prog 19 pl85 (Try.f85.body.getD .skip) (retQ Try.prog Try.f85.results.toList K) (env0 args) H) : ACall Try.prog 85 args H K :=
  ACall.of_code (pl := pl85) Try.func85 rfl rfl fit85 ha h
def pl86 : Plans := []
theorem fit86 : fits Try.prog 98 pl86 (Try.f86.body.getD .skip) = true := by kernel_rfl
theorem call86 {args : List AV} {H : Heap} {K : AV → Heap → Prop} (ha : args.length ≤ 98) (h : cwp Try.prog 98 pl86 (Try.f86.body.getD .skip) (retQ Try.prog Try.f86.results.toList K) (env0 args) H) : ACall Try.prog 86 args H K :=
  ACall.of_code (pl := pl86) Try.func86 rfl rfl fit86 ha h
def pl87 : Plans := [(6, .take 0 (.take 1 (.take 2 (.take 3 (.take 4 (.take 5 (.take 6 (.take 7 (.eff 8 [3, 7, 2, 6, 0, 1, 4, 5] [] (.take 9 (.done)) (.no))))))))))]
theorem fit87 : fits Try.prog 27 pl87 (Try.f87.body.getD .skip) = true := by kernel_rfl
theorem call87 {args : List AV} {H : Heap} {K : AV → Heap → Prop} (ha : args.length ≤ 27) (h : cwp Try.prog 27 pl87 (Try.f87.body.getD .skip) (retQ Try.prog Try.f87.results.toList K) (env0 args) H) : ACall Try.prog 87 args H K :=
  ACall.of_code (pl := pl87) Try.func87 rfl rfl fit87 ha h
def pl88 : Plans := []
theorem fit88 : fits Try.prog 14 pl88 (Try.f88.body.getD .skip) = true := by kernel_rfl
theorem call88 {args : List AV} {H : Heap} {K : AV → Heap → Prop} (ha : args.length ≤ 14) (h : cwp Try.prog 14 pl88 (Try.f88.body.getD .skip) (retQ Try.prog Try.f88.results.toList K) (env0 args) H) : ACall Try.prog 88 args H K :=
  ACall.of_code (pl := pl88) Try.func88 rfl rfl fit88 ha h
def pl89 : Plans := []
theorem fit89 : fits Try.prog 9 pl89 (Try.f89.body.getD .skip) = true := by kernel_rfl
theorem call89 {args : List AV} {H : Heap} {K : AV → Heap → Prop} (ha : args.length ≤ 9) (h : cwp Try.prog 9 pl89 (Try.f89.body.getD .skip) (retQ Try.prog Try.f89.results.toList K) (env0 args) H) : ACall Try.prog 89 args H K :=
  ACall.of_code (pl := pl89) Try.func89 rfl rfl fit89 ha h
def pl90 : Plans := []
theorem fit90 : fits Try.prog 9 pl90 (Try.f90.body.getD .skip) = true := by kernel_rfl
theorem call90 {args : List AV} {H : Heap} {K : AV → Heap → Prop} (ha : args.length ≤ 9) (h : cwp Try.prog 9 pl90 (Try.f90.body.getD .skip) (retQ Try.prog Try.f90.results.toList K) (env0 args) H) : ACall Try.prog 90 args H K :=
  ACall.of_code (pl := pl90) Try.func90 rfl rfl fit90 ha h
def pl91 : Plans := []
theorem fit91 : fits Try.prog 9 pl91 (Try.f91.body.getD .skip) = true := by kernel_rfl
theorem call91 {args : List AV} {H : Heap} {K : AV → Heap → Prop} (ha : args.length ≤ 9) (h : cwp Try.prog 9 pl91 (Try.f91.body.getD .skip) (retQ Try.prog Try.f91.results.toList K) (env0 args) H) : ACall Try.prog 91 args H K :=
  ACall.of_code (pl := pl91) Try.func91 rfl rfl fit91 ha h
def pl92 : Plans := []
theorem fit92 : fits Try.prog 8 pl92 (Try.f92.body.getD .skip) = true := by kernel_rfl
theorem call92 {args : List AV} {H : Heap} {K : AV → Heap → Prop} (ha : args.length ≤ 8) (h : cwp Try.prog 8 pl92 (Try.f92.body.getD .skip) (retQ Try.prog Try.f92.results.toList K) (env0 args) H) : ACall Try.prog 92 args H K :=
  ACall.of_code (pl := pl92) Try.func92 rfl rfl fit92 ha h
def pl93 : Plans := [(6, .take 0 (.take 1 (.take 2 (.take 3 (.take 4 (.take 5 (.take 6 (.take 7 (.take 8 (.take 9 (.take 10 (.take 11 (.take 12 (.take 13 (.take 14 (.take 15 (.take 16 (.take 17 (.take 18 (.take 19 (.take 20 (.take 21 (.take 22 (.take 23 (.take 24 (.take 25 (.take 26 (.take 27 (.take 28 (.take 29 (.take 30 (.take 31 (.take 32 (.eff 33 [28, 30, 32, 26, 27, 29, 31, 25, 13, 10, 24, 12, 9, 3, 23, 11, 8, 2, 20, 22, 5, 7, 1, 19, 21, 4, 6, 0, 18, 15, 17, 14, 16] [] (.take 34 (.take 35 (.done))) (.no)))))))))))))))))))))))))))))))))))]
theorem fit93 : fits Try.prog 57 pl93 (Try.f93.body.getD .skip) = true := by kernel_rfl
theorem call93 {args : List AV} {H : Heap} {K : AV → Heap → Prop} (ha : args.length ≤ 57) (h : cwp Try.prog 57 pl93 (Try.f93.body.getD .skip) (retQ Try.prog Try.f93.results.toList K) (env0 args) H) : ACall Try.prog 93 args H K :=
  ACall.of_code (pl := pl93) Try.func93 rfl rfl fit93 ha h
def pl94 : Plans := []
theorem fit94 : fits Try.prog 9 pl94 (Try.f94.body.getD .skip) = true := by kernel_rfl
theorem call94 {args : List AV} {H : Heap} {K : AV → Heap → Prop} (ha : args.length ≤ 9) (h : cwp Try.prog 9 pl94 (Try.f94.body.getD .skip) (retQ Try.prog Try.f94.results.toList K) (env0 args) H) : ACall Try.prog 94 args H K :=
  ACall.of_code (pl := pl94) Try.func94 rfl rfl fit94 ha h
def pl95 : Plans := []
theorem fit95 : fits Try.prog 8 pl95 (Try.f95.body.getD .skip) = true := by kernel_rfl
theorem call95 {args : List AV} {H : Heap} {K : AV → Heap → Prop} (ha : args.length ≤ 8) (h : cwp Try.prog 8 pl95 (Try.f95.body.getD .skip) (retQ Try.prog Try.f95.results.toList K) (env0 args) H) : ACall Try.prog 95 args H K :=
  ACall.of_code (pl := pl95) Try.func95 rfl rfl fit95 ha h
def pl96 : Plans := []
theorem fit96 : fits Try.prog 13 pl96 (Try.f96.body.getD .skip) = true := by kernel_rfl
theorem call96 {args : List AV} {H : Heap} {K : AV → Heap → Prop} (ha : args.length ≤ 13) (h : cwp Try.prog 13 pl96 (Try.f96.body.getD .skip) (retQ Try.prog Try.f96.results.toList K) (env0 args) H) : ACall Try.prog 96 args H K :=
  ACall.of_code (pl := pl96) Try.func96 rfl rfl fit96 ha h
def pl97 : Plans := []
theorem fit97 : fits Try.prog 12 pl97 (Try.f97.body.getD .skip) = true := by kernel_rfl
theorem call97 {args : List AV} {H : Heap} {K : AV → Heap → Prop} (ha : args.length ≤ 12) (h : cwp Try.prog 12 pl97 (Try.f97.body.getD .skip) (retQ Try.prog Try.f97.results.toList K) (env0 args) H) : ACall Try.prog 97 args H K :=
  ACall.of_code (pl := pl97) Try.func97 rfl rfl fit97 ha h
def pl98 : Plans := [(5, .take 0 (.take 1 (.take 2 (.take 3 (.take 4 (.take 5 (.take 6 (.take 7 (.take 8 (.done))))))))))]
theorem fit98 : fits Try.prog 25 pl98 (Try.f98.body.getD .skip) = true := by kernel_rfl
theorem call98 {args : List AV} {H : Heap} {K : AV → Heap → Prop} (ha : args.length ≤ 25) (h : cwp Try.prog 25 pl98 (Try.f98.body.getD .skip) (retQ Try.prog Try.f98.results.toList K) (env0 args) H) : ACall Try.prog 98 args H K :=
  ACall.of_code (pl := pl98) Try.func98 rfl rfl fit98 ha h
def pl99 : Plans := []
theorem fit99 : fits Try.prog 25 pl99 (Try.f99.body.getD .skip) = true := by kernel_rfl
theorem call99 {args : List AV} {H : Heap} {K : AV → Heap → Prop} (ha : args.length ≤ 25) (h : cwp Try.prog 25 pl99 (Try.f99.body.getD .skip) (retQ Try.prog Try.f99.results.toList K) (env0 args) H) : ACall Try.prog 99 args H K :=
  ACall.of_code (pl := pl99) Try.func99 rfl rfl fit99 ha h
def pl100 : Plans := []
theorem fit100 : fits Try.prog 4 pl100 (Try.f100.body.getD .skip) = true := by kernel_rfl
theorem call100 {args : List AV} {H : Heap} {K : AV → Heap → Prop} (ha : args.length ≤ 4) (h : cwp Try.prog 4 pl100 (Try.f100.body.getD .skip) (retQ Try.prog Try.f100.results.toList K) (env0 args) H) : ACall Try.prog 100 args H K :=
  ACall.of_code (pl := pl100) Try.func100 rfl rfl fit100 ha h
def pl101 : Plans := []
theorem fit101 : fits Try.prog 20 pl101 (Try.f101.body.getD .skip) = true := by kernel_rfl
theorem call101 {args : List AV} {H : Heap} {K : AV → Heap → Prop} (ha : args.length ≤ 20) (h : cwp Try.prog 20 pl101 (Try.f101.body.getD .skip) (retQ Try.prog Try.f101.results.toList K) (env0 args) H) : ACall Try.prog 101 args H K :=
  ACall.of_code (pl := pl101) Try.func101 rfl rfl fit101 ha h
def pl102 : Plans := []
theorem fit102 : fits Try.prog 12 pl102 (Try.f102.body.getD .skip) = true := by kernel_rfl
theorem call102 {args : List AV} {H : Heap} {K : AV → Heap → Prop} (ha : args.length ≤ 12) (h : cwp Try.prog 12 pl102 (Try.f102.body.getD .skip) (retQ Try.prog Try.f102.results.toList K) (env0 args) H) : ACall Try.prog 102 args H K :=
  ACall.of_code (pl := pl102) Try.func102 rfl rfl fit102 ha h
def pl103 : Plans := []
theorem fit103 : fits Try.prog 42 pl103 (Try.f103.body.getD .skip) = true := by kernel_rfl
theorem call103 {args : List AV} {H : Heap} {K : AV → Heap → Prop} (ha : args.length ≤ 42) (h : cwp Try.prog 42 pl103 (Try.f103.body.getD .skip) (retQ Try.prog Try.f103.results.toList K) (env0 args) H) : ACall Try.prog 103 args H K :=
  ACall.of_code (pl := pl103) Try.func103 rfl rfl fit103 ha h
def pl104 : Plans := []
theorem fit104 : fits Try.prog 30 pl104 (Try.f104.body.getD .skip) = true := by kernel_rfl
theorem call104 {args : List AV} {H : Heap} {K : AV → Heap → Prop} (ha : args.length ≤ 30) (h : cwp Try.prog 30 pl104 (Try.f104.body.getD .skip) (retQ Try.prog Try.f104.results.toList K) (env0 args) H) : ACall Try.prog 104 args H K :=
  ACall.of_code (pl := pl104) Try.func104 rfl rfl fit104 ha h
def pl105 : Plans := []
theorem fit105 : fits Try.prog 9 pl105 (Try.f105.body.getD .skip) = true := by kernel_rfl
theorem call105 {args : List AV} {H : Heap} {K : AV → Heap → Prop} (ha : args.length ≤ 9) (h : cwp Try.prog 9 pl105 (Try.f105.body.getD .skip) (retQ Try.prog Try.f105.results.toList K) (env0 args) H) : ACall Try.prog 105 args H K :=
  ACall.of_code (pl := pl105) Try.func105 rfl rfl fit105 ha h
def pl106 : Plans := []
theorem fit106 : fits Try.prog 7 pl106 (Try.f106.body.getD .skip) = true := by kernel_rfl
theorem call106 {args : List AV} {H : Heap} {K : AV → Heap → Prop} (ha : args.length ≤ 7) (h : cwp Try.prog 7 pl106 (Try.f106.body.getD .skip) (retQ Try.prog Try.f106.results.toList K) (env0 args) H) : ACall Try.prog 106 args H K :=
  ACall.of_code (pl := pl106) Try.func106 rfl rfl fit106 ha h
def pl107 : Plans := []
theorem fit107 : fits Try.prog 31 pl107 (Try.f107.body.getD .skip) = true := by kernel_rfl
theorem call107 {args : List AV} {H : Heap} {K : AV → Heap → Prop} (ha : args.length ≤ 31) (h : cwp Try.prog 31 pl107 (Try.f107.body.getD .skip) (retQ Try.prog Try.f107.results.toList K) (env0 args) H) : ACall Try.prog 107 args H K :=
  ACall.of_code (pl := pl107) Try.func107 rfl rfl fit107 ha h
def pl108 : Plans := []
theorem fit108 : fits Try.prog 25 pl108 (Try.f108.body.getD .skip) = true := by kernel_rfl
theorem call108 {args : List AV} {H : Heap} {K : AV → Heap → Prop} (ha : args.length ≤ 25) (h : cwp Try.prog 25 pl108 (Try.f108.body.getD .skip) (retQ Try.prog Try.f108.results.toList K) (env0 args) H) : ACall Try.prog 108 args H K :=
  ACall.of_code (pl := pl108) Try.func108 rfl rfl fit108 ha h
def pl109 : Plans := []
theorem fit109 : fits Try.prog 4 pl109 (Try.f109.body.getD .skip) = true := by kernel_rfl
theorem call109 {args : List AV} {H : Heap} {K : AV → Heap → Prop} (ha : args.length ≤ 4) (h : cwp Try.prog 4 pl109 (Try.f109.body.getD .skip) (retQ Try.prog Try.f109.results.toList K) (env0 args) H) : ACall Try.prog 109 args H K :=
  ACall.of_code (pl := pl109) Try.func109 rfl rfl fit109 ha h
def pl110 : Plans := []
theorem fit110 : fits Try.prog 13 pl110 (Try.f110.body.getD .skip) = true := by kernel_rfl
theorem call110 {args : List AV} {H : Heap} {K : AV → Heap → Prop} (ha : args.length ≤ 13) (h : cwp Try.prog 13 pl110 (Try.f110.body.getD .skip) (retQ Try.prog Try.f110.results.toList K) (env0 args) H) : ACall Try.prog 110 args H K :=
  ACall.of_code (pl := pl110) Try.func110 rfl rfl fit110 ha h
def pl111 : Plans := []
theorem fit111 : fits Try.prog 16 pl111 (Try.f111.body.getD .skip) = true := by kernel_rfl
theorem call111 {args : List AV} {H : Heap} {K : AV → Heap → Prop} (ha : args.length ≤ 16) (h : cwp Try.prog 16 pl111 (Try.f111.body.getD .skip) (retQ Try.prog Try.f111.results.toList K) (env0 args) H) : ACall Try.prog 111 args H K :=
  ACall.of_code (pl := pl111) Try.func111 rfl rfl fit111 ha h
def pl112 : Plans := []
theorem fit112 : fits Try.prog 19 pl112 (Try.f112.body.getD .skip) = true := by kernel_rfl
theorem call112 {args : List AV} {H : Heap} {K : AV → Heap → Prop} (ha : args.length ≤ 19) (h : cwp Try.prog 19 pl112 (Try.f112.body.getD .skip) (retQ Try.prog Try.f112.results.toList K) (env0 args) H) : ACall Try.prog 112 args H K :=
  ACall.of_code (pl := pl112) Try.func112 rfl rfl fit112 ha h
def pl113 : Plans := []
theorem fit113 : fits Try.prog 19 pl113 (Try.f113.body.getD .skip) = true := by kernel_rfl
theorem call113 {args : List AV} {H : Heap} {K : AV → Heap → Prop} (ha : args.length ≤ 19) (h : cwp Try.prog 19 pl113 (Try.f113.body.getD .skip) (retQ Try.prog Try.f113.results.toList K) (env0 args) H) : ACall Try.prog 113 args H K :=
  ACall.of_code (pl := pl113) Try.func113 rfl rfl fit113 ha h
def pl114 : Plans := []
theorem fit114 : fits Try.prog 15 pl114 (Try.f114.body.getD .skip) = true := by kernel_rfl
theorem call114 {args : List AV} {H : Heap} {K : AV → Heap → Prop} (ha : args.length ≤ 15) (h : cwp Try.prog 15 pl114 (Try.f114.body.getD .skip) (retQ Try.prog Try.f114.results.toList K) (env0 args) H) : ACall Try.prog 114 args H K :=
  ACall.of_code (pl := pl114) Try.func114 rfl rfl fit114 ha h
def pl115 : Plans := []
theorem fit115 : fits Try.prog 19 pl115 (Try.f115.body.getD .skip) = true := by kernel_rfl
theorem call115 {args : List AV} {H : Heap} {K : AV → Heap → Prop} (ha : args.length ≤ 19) (h : cwp Try.prog 19 pl115 (Try.f115.body.getD .skip) (retQ Try.prog Try.f115.results.toList K) (env0 args) H) : ACall Try.prog 115 args H K :=
  ACall.of_code (pl := pl115) Try.func115 rfl rfl fit115 ha h
def pl116 : Plans := []
theorem fit116 : fits Try.prog 15 pl116 (Try.f116.body.getD .skip) = true := by kernel_rfl
theorem call116 {args : List AV} {H : Heap} {K : AV → Heap → Prop} (ha : args.length ≤ 15) (h : cwp Try.prog 15 pl116 (Try.f116.body.getD .skip) (retQ Try.prog Try.f116.results.toList K) (env0 args) H) : ACall Try.prog 116 args H K :=
  ACall.of_code (pl := pl116) Try.func116 rfl rfl fit116 ha h
def pl117 : Plans := [(6, .take 0 (.take 1 (.take 2 (.take 3 (.take 4 (.take 5 (.take 6 (.take 7 (.done)))))))))]
theorem fit117 : fits Try.prog 135 pl117 (Try.f117.body.getD .skip) = true := by kernel_rfl
theorem call117 {args : List AV} {H : Heap} {K : AV → Heap → Prop} (ha : args.length ≤ 135) (h : cwp Try.prog 135 pl117 (Try.f117.body.getD .skip) (retQ Try.prog Try.f117.results.toList K) (env0 args) H) : ACall Try.prog 117 args H K :=
  ACall.of_code (pl := pl117) Try.func117 rfl rfl fit117 ha h
def pl118 : Plans := []
theorem fit118 : fits Try.prog 6 pl118 (Try.f118.body.getD .skip) = true := by kernel_rfl
theorem call118 {args : List AV} {H : Heap} {K : AV → Heap → Prop} (ha : args.length ≤ 6) (h : cwp Try.prog 6 pl118 (Try.f118.body.getD .skip) (retQ Try.prog Try.f118.results.toList K) (env0 args) H) : ACall Try.prog 118 args H K :=
  ACall.of_code (pl := pl118) Try.func118 rfl rfl fit118 ha h
def pl119 : Plans := []
theorem fit119 : fits Try.prog 25 pl119 (Try.f119.body.getD .skip) = true := by kernel_rfl
theorem call119 {args : List AV} {H : Heap} {K : AV → Heap → Prop} (ha : args.length ≤ 25) (h : cwp Try.prog 25 pl119 (Try.f119.body.getD .skip) (retQ Try.prog Try.f119.results.toList K) (env0 args) H) : ACall Try.prog 119 args H K :=
  ACall.of_code (pl := pl119) Try.func119 rfl rfl fit119 ha h
end Go.Proofs.Ytclpodljplkbbaa
