/- The functions' plans and rules; written by wip/gen/gen_fn.py. -/
import Derived.Test.YtmpbbjdkpdakeaaTy
import Derived.Test.YtmpbbjdkpdakeaaAbs3
set_option maxRecDepth 100000
namespace Go.Proofs.Ytmpbbjdkpdakeaa
open Go.Abs
def pl2 : Plans := []
theorem fit2 : fits Try.prog 1 pl2 (Try.f2.body.getD .skip) = true := by kernel_rfl
theorem call2 {args : List AV} {H : Heap} {K : AV → Heap → Prop} (ha : args.length ≤ 1) (h : cwp Try.prog 1 pl2 (Try.f2.body.getD .skip) (retQ Try.prog Try.f2.results.toList K) (env0 args) H) : ACall Try.prog 2 args H K :=
  ACall.of_code (pl := pl2) Try.func2 rfl rfl fit2 ha h
def pl3 : Plans := [(10, .take 0 (.take 1 (.take 3 (.take 4 (.eff 2 [] [0, 1, 3, 4] (.eff 5 [2, 4, 3] [0, 1] (.take 6 (.eff 7 [] [0, 1, 3, 4, 6] (.eff 8 [7, 6, 5, 0, 1, 2, 3, 4] [] (.done) (.no)) (.no))) (.eff 7 [] [0, 1, 3, 4] (.eff 5 [2, 4, 3] [0, 1] (.take 6 (.eff 8 [7, 6, 5, 0, 1, 2, 3, 4] [] (.done) (.no))) (.no)) (.no))) (.eff 7 [] [0, 1, 3, 4] (.eff 2 [] [0, 1, 3, 4] (.eff 5 [2, 4, 3] [0, 1] (.take 6 (.eff 8 [7, 6, 5, 0, 1, 2, 3, 4] [] (.done) (.no))) (.no)) (.no)) (.no)))))))]
theorem fit3 : fits Try.prog 174 pl3 (Try.f3.body.getD .skip) = true := by kernel_rfl
theorem call3 {args : List AV} {H : Heap} {K : AV → Heap → Prop} (ha : args.length ≤ 174) (h : cwp Try.prog 174 pl3 (Try.f3.body.getD .skip) (retQ Try.prog Try.f3.results.toList K) (env0 args) H) : ACall Try.prog 3 args H K :=
  ACall.of_code (pl := pl3) Try.func3 rfl rfl fit3 ha h
def pl4 : Plans := []
theorem fit4 : fits Try.prog 114 pl4 (Try.f4.body.getD .skip) = true := by kernel_rfl
theorem call4 {args : List AV} {H : Heap} {K : AV → Heap → Prop} (ha : args.length ≤ 114) (h : cwp Try.prog 114 pl4 (Try.f4.body.getD .skip) (retQ Try.prog Try.f4.results.toList K) (env0 args) H) : ACall Try.prog 4 args H K :=
  ACall.of_code (pl := pl4) Try.func4 rfl rfl fit4 ha h
def pl5 : Plans := [(10, .take 0 (.take 1 (.eff 2 [1] [0] (.eff 3 [0, 2, 1] [] (.take 4 (.done)) (.no)) (.no))))]
theorem fit5 : fits Try.prog 96 pl5 (Try.f5.body.getD .skip) = true := by kernel_rfl
theorem call5 {args : List AV} {H : Heap} {K : AV → Heap → Prop} (ha : args.length ≤ 96) (h : cwp Try.prog 96 pl5 (Try.f5.body.getD .skip) (retQ Try.prog Try.f5.results.toList K) (env0 args) H) : ACall Try.prog 5 args H K :=
  ACall.of_code (pl := pl5) Try.func5 rfl rfl fit5 ha h
def pl6 : Plans := [(8, .take 0 (.take 2 (.take 4 (.eff 1 [0] [2, 4] (.eff 3 [2, 1, 0] [4] (.eff 5 [1, 3, 4, 0, 2] [] (.take 6 (.take 7 (.take 8 (.take 9 (.take 10 (.done)))))) (.no)) (.no)) (.no))))), (16, .take 0 (.take 1 (.eff 2 [1] [0] (.eff 3 [0, 2, 1] [] (.take 4 (.done)) (.no)) (.no))))]
theorem fit6 : fits Try.prog 62 pl6 (Try.f6.body.getD .skip) = true := by kernel_rfl
theorem call6 {args : List AV} {H : Heap} {K : AV → Heap → Prop} (ha : args.length ≤ 62) (h : cwp Try.prog 62 pl6 (Try.f6.body.getD .skip) (retQ Try.prog Try.f6.results.toList K) (env0 args) H) : ACall Try.prog 6 args H K :=
  ACall.of_code (pl := pl6) Try.func6 rfl rfl fit6 ha h
def pl7 : Plans := [(14, .take 0 (.take 1 (.eff 2 [1] [0] (.eff 3 [0, 2, 1] [] (.take 4 (.done)) (.no)) (.no))))]
theorem fit7 : fits Try.prog 119 pl7 (Try.f7.body.getD .skip) = true := by kernel_rfl
theorem call7 {args : List AV} {H : Heap} {K : AV → Heap → Prop} (ha : args.length ≤ 119) (h : cwp Try.prog 119 pl7 (Try.f7.body.getD .skip) (retQ Try.prog Try.f7.results.toList K) (env0 args) H) : ACall Try.prog 7 args H K :=
  ACall.of_code (pl := pl7) Try.func7 rfl rfl fit7 ha h
def pl8 : Plans := []
theorem fit8 : fits Try.prog 96 pl8 (Try.f8.body.getD .skip) = true := by kernel_rfl
theorem call8 {args : List AV} {H : Heap} {K : AV → Heap → Prop} (ha : args.length ≤ 96) (h : cwp Try.prog 96 pl8 (Try.f8.body.getD .skip) (retQ Try.prog Try.f8.results.toList K) (env0 args) H) : ACall Try.prog 8 args H K :=
  ACall.of_code (pl := pl8) Try.func8 rfl rfl fit8 ha h
def pl9 : Plans := [(17, .take 0 (.take 1 (.eff 2 [1] [0] (.eff 3 [0, 2, 1] [] (.take 4 (.done)) (.no)) (.no))))]
theorem fit9 : fits Try.prog 177 pl9 (Try.f9.body.getD .skip) = true := by kernel_rfl
theorem call9 {args : List AV} {H : Heap} {K : AV → Heap → Prop} (ha : args.length ≤ 177) (h : cwp Try.prog 177 pl9 (Try.f9.body.getD .skip) (retQ Try.prog Try.f9.results.toList K) (env0 args) H) : ACall Try.prog 9 args H K :=
  ACall.of_code (pl := pl9) Try.func9 rfl rfl fit9 ha h
def pl10 : Plans := []
theorem fit10 : fits Try.prog 16 pl10 (Try.f10.body.getD .skip) = true := by kernel_rfl
theorem call10 {args : List AV} {H : Heap} {K : AV → Heap → Prop} (ha : args.length ≤ 16) (h : cwp Try.prog 16 pl10 (Try.f10.body.getD .skip) (retQ Try.prog Try.f10.results.toList K) (env0 args) H) : ACall Try.prog 10 args H K :=
  ACall.of_code (pl := pl10) Try.func10 rfl rfl fit10 ha h
def pl11 : Plans := []
theorem fit11 : fits Try.prog 54 pl11 (Try.f11.body.getD .skip) = true := by kernel_rfl
theorem call11 {args : List AV} {H : Heap} {K : AV → Heap → Prop} (ha : args.length ≤ 54) (h : cwp Try.prog 54 pl11 (Try.f11.body.getD .skip) (retQ Try.prog Try.f11.results.toList K) (env0 args) H) : ACall Try.prog 11 args H K :=
  ACall.of_code (pl := pl11) Try.func11 rfl rfl fit11 ha h
def pl12 : Plans := []
theorem fit12 : fits Try.prog 70 pl12 (Try.f12.body.getD .skip) = true := by kernel_rfl
theorem call12 {args : List AV} {H : Heap} {K : AV → Heap → Prop} (ha : args.length ≤ 70) (h : cwp Try.prog 70 pl12 (Try.f12.body.getD .skip) (retQ Try.prog Try.f12.results.toList K) (env0 args) H) : ACall Try.prog 12 args H K :=
  ACall.of_code (pl := pl12) Try.func12 rfl rfl fit12 ha h
def pl13 : Plans := []
theorem fit13 : fits Try.prog 84 pl13 (Try.f13.body.getD .skip) = true := by kernel_rfl
theorem call13 {args : List AV} {H : Heap} {K : AV → Heap → Prop} (ha : args.length ≤ 84) (h : cwp Try.prog 84 pl13 (Try.f13.body.getD .skip) (retQ Try.prog Try.f13.results.toList K) (env0 args) H) : ACall Try.prog 13 args H K :=
  ACall.of_code (pl := pl13) Try.func13 rfl rfl fit13 ha h
def pl14 : Plans := [(6, .take 0 (.take 1 (.take 2 (.take 3 (.take 4 (.take 5 (.take 6 (.take 7 (.take 8 (.done))))))))))]
theorem fit14 : fits Try.prog 26 pl14 (Try.f14.body.getD .skip) = true := by kernel_rfl
theorem call14 {args : List AV} {H : Heap} {K : AV → Heap → Prop} (ha : args.length ≤ 26) (h : cwp Try.prog 26 pl14 (Try.f14.body.getD .skip) (retQ Try.prog Try.f14.results.toList K) (env0 args) H) : ACall Try.prog 14 args H K :=
  ACall.of_code (pl := pl14) Try.func14 rfl rfl fit14 ha h
def pl15 : Plans := []
theorem fit15 : fits Try.prog 28 pl15 (Try.f15.body.getD .skip) = true := by kernel_rfl
theorem call15 {args : List AV} {H : Heap} {K : AV → Heap → Prop} (ha : args.length ≤ 28) (h : cwp Try.prog 28 pl15 (Try.f15.body.getD .skip) (retQ Try.prog Try.f15.results.toList K) (env0 args) H) : ACall Try.prog 15 args H K :=
  ACall.of_code (pl := pl15) Try.func15 rfl rfl fit15 ha h
def pl16 : Plans := [(5, .take 0 (.take 1 (.take 2 (.take 3 (.take 4 (.take 5 (.take 6 (.take 7 (.take 8 (.take 9 (.done)))))))))))]
theorem fit16 : fits Try.prog 34 pl16 (Try.f16.body.getD .skip) = true := by kernel_rfl
theorem call16 {args : List AV} {H : Heap} {K : AV → Heap → Prop} (ha : args.length ≤ 34) (h : cwp Try.prog 34 pl16 (Try.f16.body.getD .skip) (retQ Try.prog Try.f16.results.toList K) (env0 args) H) : ACall Try.prog 16 args H K :=
  ACall.of_code (pl := pl16) Try.func16 rfl rfl fit16 ha h
def pl17 : Plans := []
theorem fit17 : fits Try.prog 5 pl17 (Try.f17.body.getD .skip) = true := by kernel_rfl
theorem call17 {args : List AV} {H : Heap} {K : AV → Heap → Prop} (ha : args.length ≤ 5) (h : cwp Try.prog 5 pl17 (Try.f17.body.getD .skip) (retQ Try.prog Try.f17.results.toList K) (env0 args) H) : ACall Try.prog 17 args H K :=
  ACall.of_code (pl := pl17) Try.func17 rfl rfl fit17 ha h
def pl18 : Plans := [(7, .take 0 (.take 1 (.take 2 (.take 3 (.take 4 (.take 5 (.take 6 (.take 7 (.take 8 (.take 9 (.take 10 (.done)))))))))))), (9, .take 0 (.take 1 (.take 2 (.take 3 (.take 4 (.take 5 (.take 6 (.take 7 (.take 8 (.take 9 (.take 10 (.take 11 (.take 12 (.take 13 (.take 14 (.take 15 (.take 16 (.take 17 (.eff 18 [17, 16, 11, 15, 9, 10, 14, 8, 12, 13, 7, 4, 6, 5] [0, 1, 2, 3] (.eff 19 [3, 18, 0, 2, 17, 1, 16, 11, 15, 9, 10, 14, 8, 12, 13, 7, 4, 6, 5] [] (.eff 20 [19, 0, 1, 2, 3, 4, 5, 6, 7, 8, 9, 10, 11, 12, 13, 14, 15, 16, 17, 18] [] (.done) (.no)) (.no)) (.no))))))))))))))))))))]
theorem fit18 : fits Try.prog 82 pl18 (Try.f18.body.getD .skip) = true := by kernel_rfl
theorem call18 {args : List AV} {H : Heap} {K : AV → Heap → Prop} (ha : args.length ≤ 82) (h : cwp Try.prog 82 pl18 (Try.f18.body.getD .skip) (retQ Try.prog Try.f18.results.toList K) (env0 args) H) : ACall Try.prog 18 args H K :=
  ACall.of_code (pl := pl18) Try.func18 rfl rfl fit18 ha h
def pl19 : Plans := []
theorem fit19 : fits Try.prog 12 pl19 (Try.f19.body.getD .skip) = true := by kernel_rfl
theorem call19 {args : List AV} {H : Heap} {K : AV → Heap → Prop} (ha : args.length ≤ 12) (h : cwp Try.prog 12 pl19 (Try.f19.body.getD .skip) (retQ Try.prog Try.f19.results.toList K) (env0 args) H) : ACall Try.prog 19 args H K :=
  ACall.of_code (pl := pl19) Try.func19 rfl rfl fit19 ha h
def pl20 : Plans := [(6, .take 0 (.take 1 (.take 2 (.take 3 (.take 4 (.take 5 (.take 6 (.done))))))))]
theorem fit20 : fits Try.prog 40 pl20 (Try.f20.body.getD .skip) = true := by kernel_rfl
theorem call20 {args : List AV} {H : Heap} {K : AV → Heap → Prop} (ha : args.length ≤ 40) (h : cwp Try.prog 40 pl20 (Try.f20.body.getD .skip) (retQ Try.prog Try.f20.results.toList K) (env0 args) H) : ACall Try.prog 20 args H K :=
  ACall.of_code (pl := pl20) Try.func20 rfl rfl fit20 ha h
def pl21 : Plans := [(6, .take 0 (.take 1 (.take 2 (.take 3 (.take 4 (.take 5 (.take 6 (.take 7 (.take 8 (.done))))))))))]
theorem fit21 : fits Try.prog 26 pl21 (Try.f21.body.getD .skip) = true := by kernel_rfl
theorem call21 {args : List AV} {H : Heap} {K : AV → Heap → Prop} (ha : args.length ≤ 26) (h : cwp Try.prog 26 pl21 (Try.f21.body.getD .skip) (retQ Try.prog Try.f21.results.toList K) (env0 args) H) : ACall Try.prog 21 args H K :=
  ACall.of_code (pl := pl21) Try.func21 rfl rfl fit21 ha h
def pl22 : Plans := []
theorem fit22 : fits Try.prog 28 pl22 (Try.f22.body.getD .skip) = true := by kernel_rfl
theorem call22 {args : List AV} {H : Heap} {K : AV → Heap → Prop} (ha : args.length ≤ 28) (h : cwp Try.prog 28 pl22 (Try.f22.body.getD .skip) (retQ Try.prog Try.f22.results.toList K) (env0 args) H) : ACall Try.prog 22 args H K :=
  ACall.of_code (pl := pl22) Try.func22 rfl rfl fit22 ha h
def pl23 : Plans := []
theorem fit23 : fits Try.prog 31 pl23 (Try.f23.body.getD .skip) = true := by kernel_rfl
theorem call23 {args : List AV} {H : Heap} {K : AV → Heap → Prop} (ha : args.length ≤ 31) (h : cwp Try.prog 31 pl23 (Try.f23.body.getD .skip) (retQ Try.prog Try.f23.results.toList K) (env0 args) H) : ACall Try.prog 23 args H K :=
  ACall.of_code (pl := pl23) Try.func23 rfl rfl fit23 ha h
def pl24 : Plans := []
theorem fit24 : fits Try.prog 12 pl24 (Try.f24.body.getD .skip) = true := by kernel_rfl
theorem call24 {args : List AV} {H : Heap} {K : AV → Heap → Prop} (ha : args.length ≤ 12) (h : cwp Try.prog 12 pl24 (Try.f24.body.getD .skip) (retQ Try.prog Try.f24.results.toList K) (env0 args) H) : ACall Try.prog 24 args H K :=
  ACall.of_code (pl := pl24) Try.func24 rfl rfl fit24 ha h
def pl25 : Plans := []
theorem fit25 : fits Try.prog 10 pl25 (Try.f25.body.getD .skip) = true := by kernel_rfl
theorem call25 {args : List AV} {H : Heap} {K : AV → Heap → Prop} (ha : args.length ≤ 10) (h : cwp Try.prog 10 pl25 (Try.f25.body.getD .skip) (retQ Try.prog Try.f25.results.toList K) (env0 args) H) : ACall Try.prog 25 args H K :=
  ACall.of_code (pl := pl25) Try.func25 rfl rfl fit25 ha h
def pl26 : Plans := []
theorem fit26 : fits Try.prog 9 pl26 (Try.f26.body.getD .skip) = true := by kernel_rfl
theorem call26 {args : List AV} {H : Heap} {K : AV → Heap → Prop} (ha : args.length ≤ 9) (h : cwp Try.prog 9 pl26 (Try.f26.body.getD .skip) (retQ Try.prog Try.f26.results.toList K) (env0 args) H) : ACall Try.prog 26 args H K :=
  ACall.of_code (pl := pl26) Try.func26 rfl rfl fit26 ha h
def pl27 : Plans := [(3, .take 0 (.take 1 (.take 4 (.take 5 (.take 6 (.eff 2 [1, 0] [4, 5, 6] (.eff 3 [] [0, 1, 4, 5, 6] (.eff 7 [3, 6, 2, 5, 1, 4, 0] [] (.eff 8 [] [0, 1, 4, 5, 6] (.eff 9 [] [0, 1, 4, 5, 6] (.eff 10 [8, 2, 7, 0, 1, 9, 3, 6, 5, 4] [] (.eff 11 [9, 7, 10, 0, 1, 2, 3, 4, 5, 6, 8] [] (.done) (.no)) (.no)) (.no)) (.eff 9 [] [0, 1, 4, 5, 6] (.eff 8 [] [0, 1, 4, 5, 6] (.eff 10 [8, 2, 7, 0, 1, 9, 3, 6, 5, 4] [] (.eff 11 [9, 7, 10, 0, 1, 2, 3, 4, 5, 6, 8] [] (.done) (.no)) (.no)) (.no)) (.no))) (.eff 8 [] [0, 1, 4, 5, 6] (.eff 7 [3, 6, 2, 5, 1, 4, 0] [] (.eff 9 [] [0, 1, 4, 5, 6] (.eff 10 [8, 2, 7, 0, 1, 9, 3, 6, 5, 4] [] (.eff 11 [9, 7, 10, 0, 1, 2, 3, 4, 5, 6, 8] [] (.done) (.no)) (.no)) (.no)) (.eff 9 [] [0, 1, 4, 5, 6] (.eff 7 [3, 6, 2, 5, 1, 4, 0] [] (.eff 10 [8, 2, 7, 0, 1, 9, 3, 6, 5, 4] [] (.eff 11 [9, 7, 10, 0, 1, 2, 3, 4, 5, 6, 8] [] (.done) (.no)) (.no)) (.no)) (.no))) (.eff 9 [] [0, 1, 4, 5, 6] (.eff 7 [3, 6, 2, 5, 1, 4, 0] [] (.eff 8 [] [0, 1, 4, 5, 6] (.eff 10 [8, 2, 7, 0, 1, 9, 3, 6, 5, 4] [] (.eff 11 [9, 7, 10, 0, 1, 2, 3, 4, 5, 6, 8] [] (.done) (.no)) (.no)) (.no)) (.eff 8 [] [0, 1, 4, 5, 6] (.eff 7 [3, 6, 2, 5, 1, 4, 0] [] (.eff 10 [8, 2, 7, 0, 1, 9, 3, 6, 5, 4] [] (.eff 11 [9, 7, 10, 0, 1, 2, 3, 4, 5, 6, 8] [] (.done) (.no)) (.no)) (.no)) (.no))) (.no)))) (.eff 8 [] [0, 1, 4, 5, 6] (.eff 3 [] [0, 1, 4, 5, 6] (.eff 7 [3, 6, 2, 5, 1, 4, 0] [] (.eff 9 [] [0, 1, 4, 5, 6] (.eff 10 [8, 2, 7, 0, 1, 9, 3, 6, 5, 4] [] (.eff 11 [9, 7, 10, 0, 1, 2, 3, 4, 5, 6, 8] [] (.done) (.no)) (.no)) (.no)) (.eff 9 [] [0, 1, 4, 5, 6] (.eff 7 [3, 6, 2, 5, 1, 4, 0] [] (.eff 10 [8, 2, 7, 0, 1, 9, 3, 6, 5, 4] [] (.eff 11 [9, 7, 10, 0, 1, 2, 3, 4, 5, 6, 8] [] (.done) (.no)) (.no)) (.no)) (.no))) (.eff 9 [] [0, 1, 4, 5, 6] (.eff 3 [] [0, 1, 4, 5, 6] (.eff 7 [3, 6, 2, 5, 1, 4, 0] [] (.eff 10 [8, 2, 7, 0, 1, 9, 3, 6, 5, 4] [] (.eff 11 [9, 7, 10, 0, 1, 2, 3, 4, 5, 6, 8] [] (.done) (.no)) (.no)) (.no)) (.no)) (.no))) (.eff 9 [] [0, 1, 4, 5, 6] (.eff 3 [] [0, 1, 4, 5, 6] (.eff 7 [3, 6, 2, 5, 1, 4, 0] [] (.eff 8 [] [0, 1, 4, 5, 6] (.eff 10 [8, 2, 7, 0, 1, 9, 3, 6, 5, 4] [] (.eff 11 [9, 7, 10, 0, 1, 2, 3, 4, 5, 6, 8] [] (.done) (.no)) (.no)) (.no)) (.eff 8 [] [0, 1, 4, 5, 6] (.eff 7 [3, 6, 2, 5, 1, 4, 0] [] (.eff 10 [8, 2, 7, 0, 1, 9, 3, 6, 5, 4] [] (.eff 11 [9, 7, 10, 0, 1, 2, 3, 4, 5, 6, 8] [] (.done) (.no)) (.no)) (.no)) (.no))) (.eff 8 [] [0, 1, 4, 5, 6] (.eff 3 [] [0, 1, 4, 5, 6] (.eff 7 [3, 6, 2, 5, 1, 4, 0] [] (.eff 10 [8, 2, 7, 0, 1, 9, 3, 6, 5, 4] [] (.eff 11 [9, 7, 10, 0, 1, 2, 3, 4, 5, 6, 8] [] (.done) (.no)) (.no)) (.no)) (.no)) (.no))) (.no)))) (.eff 3 [] [0, 1, 4, 5, 6] (.eff 2 [1, 0] [4, 5, 6] (.eff 7 [3, 6, 2, 5, 1, 4, 0] [] (.eff 8 [] [0, 1, 4, 5, 6] (.eff 9 [] [0, 1, 4, 5, 6] (.eff 10 [8, 2, 7, 0, 1, 9, 3, 6, 5, 4] [] (.eff 11 [9, 7, 10, 0, 1, 2, 3, 4, 5, 6, 8] [] (.done) (.no)) (.no)) (.no)) (.eff 9 [] [0, 1, 4, 5, 6] (.eff 8 [] [0, 1, 4, 5, 6] (.eff 10 [8, 2, 7, 0, 1, 9, 3, 6, 5, 4] [] (.eff 11 [9, 7, 10, 0, 1, 2, 3, 4, 5, 6, 8] [] (.done) (.no)) (.no)) (.no)) (.no))) (.eff 8 [] [0, 1, 4, 5, 6] (.eff 7 [3, 6, 2, 5, 1, 4, 0] [] (.eff 9 [] [0, 1, 4, 5, 6] (.eff 10 [8, 2, 7, 0, 1, 9, 3, 6, 5, 4] [] (.eff 11 [9, 7, 10, 0, 1, 2, 3, 4, 5, 6, 8] [] (.done) (.no)) (.no)) (.no)) (.eff 9 [] [0, 1, 4, 5, 6] (.eff 7 [3, 6, 2, 5, 1, 4, 0] [] (.eff 10 [8, 2, 7, 0, 1, 9, 3, 6, 5, 4] [] (.eff 11 [9, 7, 10, 0, 1, 2, 3, 4, 5, 6, 8] [] (.done) (.no)) (.no)) (.no)) (.no))) (.eff 9 [] [0, 1, 4, 5, 6] (.eff 7 [3, 6, 2, 5, 1, 4, 0] [] (.eff 8 [] [0, 1, 4, 5, 6] (.eff 10 [8, 2, 7, 0, 1, 9, 3, 6, 5, 4] [] (.eff 11 [9, 7, 10, 0, 1, 2, 3, 4, 5, 6, 8] [] (.done) (.no)) (.no)) (.no)) (.eff 8 [] [0, 1, 4, 5, 6] (.eff 7 [3, 6, 2, 5, 1, 4, 0] [] (.eff 10 [8, 2, 7, 0, 1, 9, 3, 6, 5, 4] [] (.eff 11 [9, 7, 10, 0, 1, 2, 3, 4, 5, 6, 8] [] (.done) (.no)) (.no)) (.no)) (.no))) (.no)))) (.eff 8 [] [0, 1, 4, 5, 6] (.eff 2 [1, 0] [4, 5, 6] (.eff 7 [3, 6, 2, 5, 1, 4, 0] [] (.eff 9 [] [0, 1, 4, 5, 6] (.eff 10 [8, 2, 7, 0, 1, 9, 3, 6, 5, 4] [] (.eff 11 [9, 7, 10, 0, 1, 2, 3, 4, 5, 6, 8] [] (.done) (.no)) (.no)) (.no)) (.eff 9 [] [0, 1, 4, 5, 6] (.eff 7 [3, 6, 2, 5, 1, 4, 0] [] (.eff 10 [8, 2, 7, 0, 1, 9, 3, 6, 5, 4] [] (.eff 11 [9, 7, 10, 0, 1, 2, 3, 4, 5, 6, 8] [] (.done) (.no)) (.no)) (.no)) (.no))) (.eff 9 [] [0, 1, 4, 5, 6] (.eff 2 [1, 0] [4, 5, 6] (.eff 7 [3, 6, 2, 5, 1, 4, 0] [] (.eff 10 [8, 2, 7, 0, 1, 9, 3, 6, 5, 4] [] (.eff 11 [9, 7, 10, 0, 1, 2, 3, 4, 5, 6, 8] [] (.done) (.no)) (.no)) (.no)) (.no)) (.no))) (.eff 9 [] [0, 1, 4, 5, 6] (.eff 2 [1, 0] [4, 5, 6] (.eff 7 [3, 6, 2, 5, 1, 4, 0] [] (.eff 8 [] [0, 1, 4, 5, 6] (.eff 10 [8, 2, 7, 0, 1, 9, 3, 6, 5, 4] [] (.eff 11 [9, 7, 10, 0, 1, 2, 3, 4, 5, 6, 8] [] (.done) (.no)) (.no)) (.no)) (.eff 8 [] [0, 1, 4, 5, 6] (.eff 7 [3, 6, 2, 5, 1, 4, 0] [] (.eff 10 [8, 2, 7, 0, 1, 9, 3, 6, 5, 4] [] (.eff 11 [9, 7, 10, 0, 1, 2, 3, 4, 5, 6, 8] [] (.done) (.no)) (.no)) (.no)) (.no))) (.eff 8 [] [0, 1, 4, 5, 6] (.eff 2 [1, 0] [4, 5, 6] (.eff 7 [3, 6, 2, 5, 1, 4, 0] [] (.eff 10 [8, 2, 7, 0, 1, 9, 3, 6, 5, 4] [] (.eff 11 [9, 7, 10, 0, 1, 2, 3, 4, 5, 6, 8] [] (.done) (.no)) (.no)) (.no)) (.no)) (.no))) (.no)))) (.eff 8 [] [0, 1, 4, 5, 6] (.eff 2 [1, 0] [4, 5, 6] (.eff 3 [] [0, 1, 4, 5, 6] (.eff 7 [3, 6, 2, 5, 1, 4, 0] [] (.eff 9 [] [0, 1, 4, 5, 6] (.eff 10 [8, 2, 7, 0, 1, 9, 3, 6, 5, 4] [] (.eff 11 [9, 7, 10, 0, 1, 2, 3, 4, 5, 6, 8] [] (.done) (.no)) (.no)) (.no)) (.eff 9 [] [0, 1, 4, 5, 6] (.eff 7 [3, 6, 2, 5, 1, 4, 0] [] (.eff 10 [8, 2, 7, 0, 1, 9, 3, 6, 5, 4] [] (.eff 11 [9, 7, 10, 0, 1, 2, 3, 4, 5, 6, 8] [] (.done) (.no)) (.no)) (.no)) (.no))) (.eff 9 [] [0, 1, 4, 5, 6] (.eff 3 [] [0, 1, 4, 5, 6] (.eff 7 [3, 6, 2, 5, 1, 4, 0] [] (.eff 10 [8, 2, 7, 0, 1, 9, 3, 6, 5, 4] [] (.eff 11 [9, 7, 10, 0, 1, 2, 3, 4, 5, 6, 8] [] (.done) (.no)) (.no)) (.no)) (.no)) (.no))) (.eff 3 [] [0, 1, 4, 5, 6] (.eff 2 [1, 0] [4, 5, 6] (.eff 7 [3, 6, 2, 5, 1, 4, 0] [] (.eff 9 [] [0, 1, 4, 5, 6] (.eff 10 [8, 2, 7, 0, 1, 9, 3, 6, 5, 4] [] (.eff 11 [9, 7, 10, 0, 1, 2, 3, 4, 5, 6, 8] [] (.done) (.no)) (.no)) (.no)) (.eff 9 [] [0, 1, 4, 5, 6] (.eff 7 [3, 6, 2, 5, 1, 4, 0] [] (.eff 10 [8, 2, 7, 0, 1, 9, 3, 6, 5, 4] [] (.eff 11 [9, 7, 10, 0, 1, 2, 3, 4, 5, 6, 8] [] (.done) (.no)) (.no)) (.no)) (.no))) (.eff 9 [] [0, 1, 4, 5, 6] (.eff 2 [1, 0] [4, 5, 6] (.eff 7 [3, 6, 2, 5, 1, 4, 0] [] (.eff 10 [8, 2, 7, 0, 1, 9, 3, 6, 5, 4] [] (.eff 11 [9, 7, 10, 0, 1, 2, 3, 4, 5, 6, 8] [] (.done) (.no)) (.no)) (.no)) (.no)) (.no))) (.eff 9 [] [0, 1, 4, 5, 6] (.eff 2 [1, 0] [4, 5, 6] (.eff 3 [] [0, 1, 4, 5, 6] (.eff 7 [3, 6, 2, 5, 1, 4, 0] [] (.eff 10 [8, 2, 7, 0, 1, 9, 3, 6, 5, 4] [] (.eff 11 [9, 7, 10, 0, 1, 2, 3, 4, 5, 6, 8] [] (.done) (.no)) (.no)) (.no)) (.no)) (.eff 3 [] [0, 1, 4, 5, 6] (.eff 2 [1, 0] [4, 5, 6] (.eff 7 [3, 6, 2, 5, 1, 4, 0] [] (.eff 10 [8, 2, 7, 0, 1, 9, 3, 6, 5, 4] [] (.eff 11 [9, 7, 10, 0, 1, 2, 3, 4, 5, 6, 8] [] (.done) (.no)) (.no)) (.no)) (.no)) (.no))) (.no)))) (.eff 9 [] [0, 1, 4, 5, 6] (.eff 2 [1, 0] [4, 5, 6] (.eff 3 [] [0, 1, 4, 5, 6] (.eff 7 [3, 6, 2, 5, 1, 4, 0] [] (.eff 8 [] [0, 1, 4, 5, 6] (.eff 10 [8, 2, 7, 0, 1, 9, 3, 6, 5, 4] [] (.eff 11 [9, 7, 10, 0, 1, 2, 3, 4, 5, 6, 8] [] (.done) (.no)) (.no)) (.no)) (.eff 8 [] [0, 1, 4, 5, 6] (.eff 7 [3, 6, 2, 5, 1, 4, 0] [] (.eff 10 [8, 2, 7, 0, 1, 9, 3, 6, 5, 4] [] (.eff 11 [9, 7, 10, 0, 1, 2, 3, 4, 5, 6, 8] [] (.done) (.no)) (.no)) (.no)) (.no))) (.eff 8 [] [0, 1, 4, 5, 6] (.eff 3 [] [0, 1, 4, 5, 6] (.eff 7 [3, 6, 2, 5, 1, 4, 0] [] (.eff 10 [8, 2, 7, 0, 1, 9, 3, 6, 5, 4] [] (.eff 11 [9, 7, 10, 0, 1, 2, 3, 4, 5, 6, 8] [] (.done) (.no)) (.no)) (.no)) (.no)) (.no))) (.eff 3 [] [0, 1, 4, 5, 6] (.eff 2 [1, 0] [4, 5, 6] (.eff 7 [3, 6, 2, 5, 1, 4, 0] [] (.eff 8 [] [0, 1, 4, 5, 6] (.eff 10 [8, 2, 7, 0, 1, 9, 3, 6, 5, 4] [] (.eff 11 [9, 7, 10, 0, 1, 2, 3, 4, 5, 6, 8] [] (.done) (.no)) (.no)) (.no)) (.eff 8 [] [0, 1, 4, 5, 6] (.eff 7 [3, 6, 2, 5, 1, 4, 0] [] (.eff 10 [8, 2, 7, 0, 1, 9, 3, 6, 5, 4] [] (.eff 11 [9, 7, 10, 0, 1, 2, 3, 4, 5, 6, 8] [] (.done) (.no)) (.no)) (.no)) (.no))) (.eff 8 [] [0, 1, 4, 5, 6] (.eff 2 [1, 0] [4, 5, 6] (.eff 7 [3, 6, 2, 5, 1, 4, 0] [] (.eff 10 [8, 2, 7, 0, 1, 9, 3, 6, 5, 4] [] (.eff 11 [9, 7, 10, 0, 1, 2, 3, 4, 5, 6, 8] [] (.done) (.no)) (.no)) (.no)) (.no)) (.no))) (.eff 8 [] [0, 1, 4, 5, 6] (.eff 2 [1, 0] [4, 5, 6] (.eff 3 [] [0, 1, 4, 5, 6] (.eff 7 [3, 6, 2, 5, 1, 4, 0] [] (.eff 10 [8, 2, 7, 0, 1, 9, 3, 6, 5, 4] [] (.eff 11 [9, 7, 10, 0, 1, 2, 3, 4, 5, 6, 8] [] (.done) (.no)) (.no)) (.no)) (.no)) (.eff 3 [] [0, 1, 4, 5, 6] (.eff 2 [1, 0] [4, 5, 6] (.eff 7 [3, 6, 2, 5, 1, 4, 0] [] (.eff 10 [8, 2, 7, 0, 1, 9, 3, 6, 5, 4] [] (.eff 11 [9, 7, 10, 0, 1, 2, 3, 4, 5, 6, 8] [] (.done) (.no)) (.no)) (.no)) (.no)) (.no))) (.no)))) (.no)))))))))), (8, .take 0 (.take 1 (.take 2 (.take 3 (.take 4 (.take 5 (.take 6 (.eff 7 [6] [0, 1, 2, 3, 4, 5] (.eff 8 [5, 7, 4, 6, 2, 3] [0, 1] (.take 9 (.eff 10 [9, 8, 0, 1, 2, 3, 4, 5, 6, 7] [] (.done) (.no))) (.no)) (.no))))))))), (16, .take 0 (.take 1 (.take 2 (.take 3 (.take 4 (.take 5 (.eff 6 [1, 5, 4, 2, 3] [0] (.eff 7 [6, 1, 5, 4, 2, 3] [0] (.eff 8 [0, 7, 6, 1, 5, 4, 2, 3] [] (.eff 9 [8, 0, 1, 2, 3, 4, 5, 6, 7] [] (.done) (.no)) (.no)) (.no)) (.no))))))))]
theorem fit27 : fits Try.prog 64 pl27 (Try.f27.body.getD .skip) = true := by kernel_rfl
theorem call27 {args : List AV} {H : Heap} {K : AV → Heap → Prop} (ha : args.length ≤ 64) (h : cwp Try.prog 64 pl27 (Try.f27.body.getD .skip) (retQ Try.prog Try.f27.results.toList K) (env0 args) H) : ACall Try.prog 27 args H K :=
  ACall.of_code (pl := pl27) Try.func27 rfl rfl fit27 ha h
def pl28 : Plans := [(6, .take 0 (.take 1 (.take 2 (.take 3 (.take 4 (.take 5 (.take 6 (.take 7 (.take 8 (.done))))))))))]
theorem fit28 : fits Try.prog 26 pl28 (Try.f28.body.getD .skip) = true := by kernel_rfl
theorem call28 {args : List AV} {H : Heap} {K : AV → Heap → Prop} (ha : args.length ≤ 26) (h : cwp Try.prog 26 pl28 (Try.f28.body.getD .skip) (retQ Try.prog Try.f28.results.toList K) (env0 args) H) : ACall Try.prog 28 args H K :=
  ACall.of_code (pl := pl28) Try.func28 rfl rfl fit28 ha h
def pl29 : Plans := []
theorem fit29 : fits Try.prog 11 pl29 (Try.f29.body.getD .skip) = true := by kernel_rfl
theorem call29 {args : List AV} {H : Heap} {K : AV → Heap → Prop} (ha : args.length ≤ 11) (h : cwp Try.prog 11 pl29 (Try.f29.body.getD .skip) (retQ Try.prog Try.f29.results.toList K) (env0 args) H) : ACall Try.prog 29 args H K :=
  ACall.of_code (pl := pl29) Try.func29 rfl rfl fit29 ha h
def pl30 : Plans := []
theorem fit30 : fits Try.prog 10 pl30 (Try.f30.body.getD .skip) = true := by kernel_rfl
theorem call30 {args : List AV} {H : Heap} {K : AV → Heap → Prop} (ha : args.length ≤ 10) (h : cwp Try.prog 10 pl30 (Try.f30.body.getD .skip) (retQ Try.prog Try.f30.results.toList K) (env0 args) H) : ACall Try.prog 30 args H K :=
  ACall.of_code (pl := pl30) Try.func30 rfl rfl fit30 ha h
def pl31 : Plans := []
theorem fit31 : fits Try.prog 19 pl31 (Try.f31.body.getD .skip) = true := by kernel_rfl
theorem call31 {args : List AV} {H : Heap} {K : AV → Heap → Prop} (ha : args.length ≤ 19) (h : cwp Try.prog 19 pl31 (Try.f31.body.getD .skip) (retQ Try.prog Try.f31.results.toList K) (env0 args) H) : ACall Try.prog 31 args H K :=
  ACall.of_code (pl := pl31) Try.func31 rfl rfl fit31 ha h
def pl32 : Plans := []
theorem fit32 : fits Try.prog 21 pl32 (Try.f32.body.getD .skip) = true := by kernel_rfl
theorem call32 {args : List AV} {H : Heap} {K : AV → Heap → Prop} (ha : args.length ≤ 21) (h : cwp Try.prog 21 pl32 (Try.f32.body.getD .skip) (retQ Try.prog Try.f32.results.toList K) (env0 args) H) : ACall Try.prog 32 args H K :=
  ACall.of_code (pl := pl32) Try.func32 rfl rfl fit32 ha h
def pl33 : Plans := []
theorem fit33 : fits Try.prog 12 pl33 (Try.f33.body.getD .skip) = true := by kernel_rfl
theorem call33 {args : List AV} {H : Heap} {K : AV → Heap → Prop} (ha : args.length ≤ 12) (h : cwp Try.prog 12 pl33 (Try.f33.body.getD .skip) (retQ Try.prog Try.f33.results.toList K) (env0 args) H) : ACall Try.prog 33 args H K :=
  ACall.of_code (pl := pl33) Try.func33 rfl rfl fit33 ha h
def pl34 : Plans := []
theorem fit34 : fits Try.prog 18 pl34 (Try.f34.body.getD .skip) = true := by kernel_rfl
theorem call34 {args : List AV} {H : Heap} {K : AV → Heap → Prop} (ha : args.length ≤ 18) (h : cwp Try.prog 18 pl34 (Try.f34.body.getD .skip) (retQ Try.prog Try.f34.results.toList K) (env0 args) H) : ACall Try.prog 34 args H K :=
  ACall.of_code (pl := pl34) Try.func34 rfl rfl fit34 ha h
def pl35 : Plans := []
theorem fit35 : fits Try.prog 25 pl35 (Try.f35.body.getD .skip) = true := by kernel_rfl
theorem call35 {args : List AV} {H : Heap} {K : AV → Heap → Prop} (ha : args.length ≤ 25) (h : cwp Try.prog 25 pl35 (Try.f35.body.getD .skip) (retQ Try.prog Try.f35.results.toList K) (env0 args) H) : ACall Try.prog 35 args H K :=
  ACall.of_code (pl := pl35) Try.func35 rfl rfl fit35 ha h
def pl36 : Plans := []
theorem fit36 : fits Try.prog 23 pl36 (Try.f36.body.getD .skip) = true := by kernel_rfl
theorem call36 {args : List AV} {H : Heap} {K : AV → Heap → Prop} (ha : args.length ≤ 23) (h : cwp Try.prog 23 pl36 (Try.f36.body.getD .skip) (retQ Try.prog Try.f36.results.toList K) (env0 args) H) : ACall Try.prog 36 args H K :=
  ACall.of_code (pl := pl36) Try.func36 rfl rfl fit36 ha h
def pl37 : Plans := []
theorem fit37 : fits Try.prog 13 pl37 (Try.f37.body.getD .skip) = true := by kernel_rfl
theorem call37 {args : List AV} {H : Heap} {K : AV → Heap → Prop} (ha : args.length ≤ 13) (h : cwp Try.prog 13 pl37 (Try.f37.body.getD .skip) (retQ Try.prog Try.f37.results.toList K) (env0 args) H) : ACall Try.prog 37 args H K :=
  ACall.of_code (pl := pl37) Try.func37 rfl rfl fit37 ha h
def pl38 : Plans := [(4, .take 0 (.take 1 (.take 2 (.take 3 (.take 4 (.take 5 (.take 6 (.take 7 (.take 8 (.take 9 (.take 10 (.take 11 (.take 12 (.eff 13 [12, 0, 1, 2, 3, 4, 5, 6, 7, 8, 9, 10, 11] [] (.done) (.no)))))))))))))))]
theorem fit38 : fits Try.prog 45 pl38 (Try.f38.body.getD .skip) = true := by kernel_rfl
theorem call38 {args : List AV} {H : Heap} {K : AV → Heap → Prop} (ha : args.length ≤ 45) (h : cwp Try.prog 45 pl38 (Try.f38.body.getD .skip) (retQ Try.prog Try.f38.results.toList K) (env0 args) H) : ACall Try.prog 38 args H K :=
  ACall.of_code (pl := pl38) Try.func38 rfl rfl fit38 ha h
def pl39 : Plans := [(6, .take 0 (.take 1 (.take 2 (.take 3 (.take 4 (.take 5 (.take 6 (.take 7 (.eff 8 [3, 7, 2, 6, 0, 1, 4, 5] [] (.take 9 (.done)) (.no))))))))))]
theorem fit39 : fits Try.prog 27 pl39 (Try.f39.body.getD .skip) = true := by kernel_rfl
theorem call39 {args : List AV} {H : Heap} {K : AV → Heap → Prop} (ha : args.length ≤ 27) (h : cwp Try.prog 27 pl39 (Try.f39.body.getD .skip) (retQ Try.prog Try.f39.results.toList K) (env0 args) H) : ACall Try.prog 39 args H K :=
  ACall.of_code (pl := pl39) Try.func39 rfl rfl fit39 ha h
def pl40 : Plans := []
theorem fit40 : fits Try.prog 17 pl40 (Try.f40.body.getD .skip) = true := by kernel_rfl
theorem call40 {args : List AV} {H : Heap} {K : AV → Heap → Prop} (ha : args.length ≤ 17) (h : cwp Try.prog 17 pl40 (Try.f40.body.getD .skip) (retQ Try.prog Try.f40.results.toList K) (env0 args) H) : ACall Try.prog 40 args H K :=
  ACall.of_code (pl := pl40) Try.func40 rfl rfl fit40 ha h
def pl41 : Plans := []
theorem fit41 : fits Try.prog 27 pl41 (Try.f41.body.getD .skip) = true := by kernel_rfl
theorem call41 {args : List AV} {H : Heap} {K : AV → Heap → Prop} (ha : args.length ≤ 27) (h : cwp Try.prog 27 pl41 (Try.f41.body.getD .skip) (retQ Try.prog Try.f41.results.toList K) (env0 args) H) : ACall Try.prog 41 args H K :=
  ACall.of_code (pl := pl41) Try.func41 rfl rfl fit41 ha h
def pl42 : Plans := [(3, .take 0 (.take 1 (.take 3 (.take 4 (.take 5 (.eff 2 [1, 0] [3, 4, 5] (.eff 6 [4, 5, 2, 3, 1, 0] [] (.eff 7 [2, 6, 1, 4, 5, 0, 3] [] (.take 8 (.take 9 (.done))) (.no)) (.no)) (.no)))))))]
theorem fit42 : fits Try.prog 25 pl42 (Try.f42.body.getD .skip) = true := by kernel_rfl
theorem call42 {args : List AV} {H : Heap} {K : AV → Heap → Prop} (ha : args.length ≤ 25) (h : cwp Try.prog 25 pl42 (Try.f42.body.getD .skip) (retQ Try.prog Try.f42.results.toList K) (env0 args) H) : ACall Try.prog 42 args H K :=
  ACall.of_code (pl := pl42) Try.func42 rfl rfl fit42 ha h
def pl43 : Plans := []
theorem fit43 : fits Try.prog 23 pl43 (Try.f43.body.getD .skip) = true := by kernel_rfl
theorem call43 {args : List AV} {H : Heap} {K : AV → Heap → Prop} (ha : args.length ≤ 23) (h : cwp Try.prog 23 pl43 (Try.f43.body.getD .skip) (retQ Try.prog Try.f43.results.toList K) (env0 args) H) : ACall Try.prog 43 args H K :=
  ACall.of_code (pl := pl43) Try.func43 rfl rfl fit43 ha h
def pl44 : Plans := []
theorem fit44 : fits Try.prog 21 pl44 (Try.f44.body.getD .skip) = true := by kernel_rfl
theorem call44 {args : List AV} {H : Heap} {K : AV → Heap → Prop} (ha : args.length ≤ 21) (h : cwp Try.prog 21 pl44 (Try.f44.body.getD .skip) (retQ Try.prog Try.f44.results.toList K) (env0 args) H) : ACall Try.prog 44 args H K :=
  ACall.of_code (pl := pl44) Try.func44 rfl rfl fit44 ha h
def pl45 : Plans := [(6, .take 0 (.take 1 (.take 2 (.take 3 (.take 4 (.take 5 (.take 6 (.take 7 (.eff 8 [3, 7, 2, 6, 0, 1, 4, 5] [] (.take 9 (.done)) (.no))))))))))]
theorem fit45 : fits Try.prog 27 pl45 (Try.f45.body.getD .skip) = true := by kernel_rfl
theorem call45 {args : List AV} {H : Heap} {K : AV → Heap → Prop} (ha : args.length ≤ 27) (h : cwp Try.prog 27 pl45 (Try.f45.body.getD .skip) (retQ Try.prog Try.f45.results.toList K) (env0 args) H) : ACall Try.prog 45 args H K :=
  ACall.of_code (pl := pl45) Try.func45 rfl rfl fit45 ha h
def pl46 : Plans := []
theorem fit46 : fits Try.prog 19 pl46 (Try.f46.body.getD .skip) = true := by kernel_rfl
theorem call46 {args : List AV} {H : Heap} {K : AV → Heap → Prop} (ha : args.length ≤ 19) (h : cwp Try.prog 19 pl46 (Try.f46.body.getD .skip) (retQ Try.prog Try.f46.results.toList K) (env0 args) H) : ACall Try.prog 46 args H K :=
  ACall.of_code (pl := pl46) Try.func46 rfl rfl fit46 ha h
def pl47 : Plans := []
theorem fit47 : fits Try.prog 25 pl47 (Try.f47.body.getD .skip) = true := by kernel_rfl
theorem call47 {args : List AV} {H : Heap} {K : AV → Heap → Prop} (ha : args.length ≤ 25) (h : cwp Try.prog 25 pl47 (Try.f47.body.getD .skip) (retQ Try.prog Try.f47.results.toList K) (env0 args) H) : ACall Try.prog 47 args H K :=
  ACall.of_code (pl := pl47) Try.func47 rfl rfl fit47 ha h
def pl48 : Plans := []
theorem fit48 : fits Try.prog 9 pl48 (Try.f48.body.getD .skip) = true := by kernel_rfl
theorem call48 {args : List AV} {H : Heap} {K : AV → Heap → Prop} (ha : args.length ≤ 9) (h : cwp Try.prog 9 pl48 (Try.f48.body.getD .skip) (retQ Try.prog Try.f48.results.toList K) (env0 args) H) : ACall Try.prog 48 args H K :=
  ACall.of_code (pl := pl48) Try.func48 rfl rfl fit48 ha h
def pl49 : Plans := []
theorem fit49 : fits Try.prog 27 pl49 (Try.f49.body.getD .skip) = true := by kernel_rfl
theorem call49 {args : List AV} {H : Heap} {K : AV → Heap → Prop} (ha : args.length ≤ 27) (h : cwp Try.prog 27 pl49 (Try.f49.body.getD .skip) (retQ Try.prog Try.f49.results.toList K) (env0 args) H) : ACall Try.prog 49 args H K :=
  ACall.of_code (pl := pl49) Try.func49 rfl rfl fit49 ha h
def pl50 : Plans := []
theorem fit50 : fits Try.prog 36 pl50 (Try.f50.body.getD .skip) = true := by kernel_rfl
theorem call50 {args : List AV} {H : Heap} {K : AV → Heap → Prop} (ha : args.length ≤ 36) (h : cwp Try.prog 36 pl50 (Try.f50.body.getD .skip) (retQ Try.prog Try.f50.results.toList K) (env0 args) H) : ACall Try.prog 50 args H K :=
  ACall.of_code (pl := pl50) Try.func50 rfl rfl fit50 ha h
def pl51 : Plans := []
theorem fit51 : fits Try.prog 22 pl51 (Try.f51.body.getD .skip) = true := by kernel_rfl
theorem call51 {args : List AV} {H : Heap} {K : AV → Heap → Prop} (ha : args.length ≤ 22) (h : cwp Try.prog 22 pl51 (Try.f51.body.getD .skip) (retQ Try.prog Try.f51.results.toList K) (env0 args) H) : ACall Try.prog 51 args H K :=
  ACall.of_code (pl := pl51) Try.func51 rfl rfl fit51 ha h
def pl52 : Plans := []
theorem fit52 : fits Try.prog 29 pl52 (Try.f52.body.getD .skip) = true := by kernel_rfl
theorem call52 {args : List AV} {H : Heap} {K : AV → Heap → Prop} (ha : args.length ≤ 29) (h : cwp Try.prog 29 pl52 (Try.f52.body.getD .skip) (retQ Try.prog Try.f52.results.toList K) (env0 args) H) : ACall Try.prog 52 args H K :=
  ACall.of_code (pl := pl52) Try.func52 rfl rfl fit52 ha h
def pl53 : Plans := []
theorem fit53 : fits Try.prog 53 pl53 (Try.f53.body.getD .skip) = true := by kernel_rfl
theorem call53 {args : List AV} {H : Heap} {K : AV → Heap → Prop} (ha : args.length ≤ 53) (h : cwp Try.prog 53 pl53 (Try.f53.body.getD .skip) (retQ Try.prog Try.f53.results.toList K) (env0 args) H) : ACall Try.prog 53 args H K :=
  ACall.of_code (pl := pl53) Try.func53 rfl rfl fit53 ha h
def pl54 : Plans := []
theorem fit54 : fits Try.prog 20 pl54 (Try.f54.body.getD .skip) = true := by kernel_rfl
theorem call54 {args : List AV} {H : Heap} {K : AV → Heap → Prop} (ha : args.length ≤ 20) (h : cwp Try.prog 20 pl54 (Try.f54.body.getD .skip) (retQ Try.prog Try.f54.results.toList K) (env0 args) H) : ACall Try.prog 54 args H K :=
  ACall.of_code (pl := pl54) Try.func54 rfl rfl fit54 ha h
def pl55 : Plans := []
theorem fit55 : fits Try.prog 9 pl55 (Try.f55.body.getD .skip) = true := by kernel_rfl
theorem call55 {args : List AV} {H : Heap} {K : AV → Heap → Prop} (ha : args.length ≤ 9) (h : cwp Try.prog 9 pl55 (Try.f55.body.getD .skip) (retQ Try.prog Try.f55.results.toList K) (env0 args) H) : ACall Try.prog 55 args H K :=
  ACall.of_code (pl := pl55) Try.func55 rfl rfl fit55 ha h
def pl56 : Plans := []
theorem fit56 : fits Try.prog 22 pl56 (Try.f56.body.getD .skip) = true := by kernel_rfl
theorem call56 {args : List AV} {H : Heap} {K : AV → Heap → Prop} (ha : args.length ≤ 22) (h : cwp Try.prog 22 pl56 (Try.f56.body.getD .skip) (retQ Try.prog Try.f56.results.toList K) (env0 args) H) : ACall Try.prog 56 args H K :=
  ACall.of_code (pl := pl56) Try.func56 rfl rfl fit56 ha h
def pl57 : Plans := []
theorem fit57 : fits Try.prog 18 pl57 (Try.f57.body.getD .skip) = true := by kernel_rfl
theorem call57 {args : List AV} {H : Heap} {K : AV → Heap → Prop} (ha : args.length ≤ 18) (h : cwp Try.prog 18 pl57 (Try.f57.body.getD .skip) (retQ Try.prog Try.f57.results.toList K) (env0 args) H) : ACall Try.prog 57 args H K :=
  ACall.of_code (pl := pl57) Try.func57 rfl rfl fit57 ha h
def pl58 : Plans := []
theorem fit58 : fits Try.prog 9 pl58 (Try.f58.body.getD .skip) = true := by kernel_rfl
theorem call58 {args : List AV} {H : Heap} {K : AV → Heap → Prop} (ha : args.length ≤ 9) (h : cwp Try.prog 9 pl58 (Try.f58.body.getD .skip) (retQ Try.prog Try.f58.results.toList K) (env0 args) H) : ACall Try.prog 58 args H K :=
  ACall.of_code (pl := pl58) Try.func58 rfl rfl fit58 ha h
def pl59 : Plans := []
theorem fit59 : fits Try.prog 86 pl59 (Try.f59.body.getD .skip) = true := by kernel_rfl
theorem call59 {args : List AV} {H : Heap} {K : AV → Heap → Prop} (ha : args.length ≤ 86) (h : cwp Try.prog 86 pl59 (Try.f59.body.getD .skip) (retQ Try.prog Try.f59.results.toList K) (env0 args) H) : ACall Try.prog 59 args H K :=
  ACall.of_code (pl := pl59) Try.func59 rfl rfl fit59 ha h
def pl60 : Plans := []
theorem fit60 : fits Try.prog 15 pl60 (Try.f60.body.getD .skip) = true := by kernel_rfl
theorem call60 {args : List AV} {H : Heap} {K : AV → Heap → Prop} (ha : args.length ≤ 15) (h : cwp Try.prog 15 pl60 (Try.f60.body.getD .skip) (retQ Try.prog Try.f60.results.toList K) (env0 args) H) : ACall Try.prog 60 args H K :=
  ACall.of_code (pl := pl60) Try.func60 rfl rfl fit60 ha h
def pl61 : Plans := []
theorem fit61 : fits Try.prog 17 pl61 (Try.f61.body.getD .skip) = true := by kernel_rfl
theorem call61 {args : List AV} {H : Heap} {K : AV → Heap → Prop} (ha : args.length ≤ 17) (h : cwp Try.prog 17 pl61 (Try.f61.body.getD .skip) (retQ Try.prog Try.f61.results.toList K) (env0 args) H) : ACall Try.prog 61 args H K :=
  ACall.of_code (pl := pl61) Try.func61 rfl rfl fit61 ha h
def pl62 : Plans := []
theorem fit62 : fits Try.prog 65 pl62 (Try.f62.body.getD .skip) = true := by kernel_rfl
theorem call62 {args : List AV} {H : Heap} {K : AV → Heap → Prop} (ha : args.length ≤ 65) (h : cwp Try.prog 65 pl62 (Try.f62.body.getD .skip) (retQ Try.prog Try.f62.results.toList K) (env0 args) H) : ACall Try.prog 62 args H K :=
  ACall.of_code (pl := pl62) Try.func62 rfl rfl fit62 ha h
def pl63 : Plans := []
theorem fit63 : fits Try.prog 27 pl63 (Try.f63.body.getD .skip) = true := by kernel_rfl
theorem call63 {args : List AV} {H : Heap} {K : AV → Heap → Prop} (ha : args.length ≤ 27) (h : cwp Try.prog 27 pl63 (Try.f63.body.getD .skip) (retQ Try.prog Try.f63.results.toList K) (env0 args) H) : ACall Try.prog 63 args H K :=
  ACall.of_code (pl := pl63) Try.func63 rfl rfl fit63 ha h
def pl64 : Plans := []
theorem fit64 : fits Try.prog 9 pl64 (Try.f64.body.getD .skip) = true := by kernel_rfl
theorem call64 {args : List AV} {H : Heap} {K : AV → Heap → Prop} (ha : args.length ≤ 9) (h : cwp Try.prog 9 pl64 (Try.f64.body.getD .skip) (retQ Try.prog Try.f64.results.toList K) (env0 args) H) : ACall Try.prog 64 args H K :=
  ACall.of_code (pl := pl64) Try.func64 rfl rfl fit64 ha h
def pl65 : Plans := []
theorem fit65 : fits Try.prog 88 pl65 (Try.f65.body.getD .skip) = true := by kernel_rfl
theorem call65 {args : List AV} {H : Heap} {K : AV → Heap → Prop} (ha : args.length ≤ 88) (h : cwp Try.prog 88 pl65 (Try.f65.body.getD .skip) (retQ Try.prog Try.f65.results.toList K) (env0 args) H) : ACall Try.prog 65 args H K :=
  ACall.of_code (pl := pl65) Try.func65 rfl rfl fit65 ha h
def pl66 : Plans := []
theorem fit66 : fits Try.prog 9 pl66 (Try.f66.body.getD .skip) = true := by kernel_rfl
theorem call66 {args : List AV} {H : Heap} {K : AV → Heap → Prop} (ha : args.length ≤ 9) (h : cwp Try.prog 9 pl66 (Try.f66.body.getD .skip) (retQ Try.prog Try.f66.results.toList K) (env0 args) H) : ACall Try.prog 66 args H K :=
  ACall.of_code (pl := pl66) Try.func66 rfl rfl fit66 ha h
def pl67 : Plans := []
theorem fit67 : fits Try.prog 39 pl67 (Try.f67.body.getD .skip) = true := by kernel_rfl
theorem call67 {args : List AV} {H : Heap} {K : AV → Heap → Prop} (ha : args.length ≤ 39) (h : cwp Try.prog 39 pl67 (Try.f67.body.getD .skip) (retQ Try.prog Try.f67.results.toList K) (env0 args) H) : ACall Try.prog 67 args H K :=
  ACall.of_code (pl := pl67) Try.func67 rfl rfl fit67 ha h
def pl68 : Plans := []
theorem fit68 : fits Try.prog 15 pl68 (Try.f68.body.getD .skip) = true := by kernel_rfl
theorem call68 {args : List AV} {H : Heap} {K : AV → Heap → Prop} (ha : args.length ≤ 15) (h : cwp Try.prog 15 pl68 (Try.f68.body.getD .skip) (retQ Try.prog Try.f68.results.toList K) (env0 args) H) : ACall Try.prog 68 args H K :=
  ACall.of_code (pl := pl68) Try.func68 rfl rfl fit68 ha h
def pl69 : Plans := []
theorem fit69 : fits Try.prog 39 pl69 (Try.f69.body.getD .skip) = true := by kernel_rfl
theorem call69 {args : List AV} {H : Heap} {K : AV → Heap → Prop} (ha : args.length ≤ 39) (h : cwp Try.prog 39 pl69 (Try.f69.body.getD .skip) (retQ Try.prog Try.f69.results.toList K) (env0 args) H) : ACall Try.prog 69 args H K :=
  ACall.of_code (pl := pl69) Try.func69 rfl rfl fit69 ha h
def pl70 : Plans := [(11, .take 0 (.take 1 (.take 2 (.take 3 (.take 8 (.take 9 (.take 10 (.take 11 (.take 12 (.take 13 (.take 14 (.take 15 (.take 17 (.take 18 (.take 19 (.eff 4 [1, 3, 2] [0, 8, 9, 10, 11, 12, 13, 14, 15, 17, 18, 19] (.take 5 (.eff 6 [0, 5, 4, 1, 3, 2] [8, 9, 10, 11, 12, 13, 14, 15, 17, 18, 19] (.take 7 (.take 16 (.eff 20 [17, 19, 6, 18, 0, 5, 4, 1, 3, 2] [8, 9, 10, 11, 12, 13, 14, 15, 7, 16] (.take 21 (.take 22 (.take 23 (.done)))) (.no)))) (.no))) (.no)))))))))))))))))]
theorem fit70 : fits Try.prog 63 pl70 (Try.f70.body.getD .skip) = true := by kernel_rfl
theorem call70 {args : List AV} {H : Heap} {K : AV → Heap → Prop} (ha : args.length ≤ 63) (h : cwp Try.prog 63 pl70 (Try.f70.body.getD .skip) (retQ Try.prog Try.f70.results.toList K) (env0 args) H) : ACall Try.prog 70 args H K :=
  ACall.of_code (pl := pl70) Try.func70 rfl rfl fit70 ha h
def pl71 : Plans := []
theorem fit71 : fits Try.prog 52 pl71 (Try.f71.body.getD .skip) = true := by kernel_rfl
theorem call71 {args : List AV} {H : Heap} {K : AV → Heap → Prop} (ha : args.length ≤ 52) (h : cwp Try.prog 52 pl71 (Try.f71.body.getD .skip) (retQ Try.prog Try.f71.results.toList K) (env0 args) H) : ACall Try.prog 71 args H K :=
  ACall.of_code (pl := pl71) Try.func71 rfl rfl fit71 ha h
def pl72 : Plans := []
theorem fit72 : fits Try.prog 41 pl72 (Try.f72.body.getD .skip) = true := by kernel_rfl
theorem call72 {args : List AV} {H : Heap} {K : AV → Heap → Prop} (ha : args.length ≤ 41) (h : cwp Try.prog 41 pl72 (Try.f72.body.getD .skip) (retQ Try.prog Try.f72.results.toList K) (env0 args) H) : ACall Try.prog 72 args H K :=
  ACall.of_code (pl := pl72) Try.func72 rfl rfl fit72 ha h
def pl73 : Plans := [(9, .take 0 (.take 1 (.take 2 (.take 3 (.take 4 (.take 5 (.take 6 (.take 7 (.take 8 (.eff 9 [8, 0, 1, 2, 3, 4, 5, 6, 7] [] (.done) (.no))))))))))), (11, .take 0 (.take 1 (.take 2 (.take 3 (.take 4 (.take 5 (.take 6 (.take 7 (.take 8 (.take 9 (.eff 10 [9, 0, 1, 2, 3, 4, 5, 6, 7, 8] [] (.done) (.no)))))))))))), (7, .take 0 (.take 1 (.take 2 (.take 3 (.take 4 (.take 5 (.take 6 (.take 7 (.eff 8 [7, 0, 1, 2, 3, 4, 5, 6] [] (.done) (.no))))))))))]
theorem fit73 : fits Try.prog 68 pl73 (Try.f73.body.getD .skip) = true := by kernel_rfl
theorem call73 {args : List AV} {H : Heap} {K : AV → Heap → Prop} (ha : args.length ≤ 68) (h : cwp Try.prog 68 pl73 (Try.f73.body.getD .skip) (retQ Try.prog Try.f73.results.toList K) (env0 args) H) : ACall Try.prog 73 args H K :=
  ACall.of_code (pl := pl73) Try.func73 rfl rfl fit73 ha h
def pl74 : Plans := []
theorem fit74 : fits Try.prog 12 pl74 (Try.f74.body.getD .skip) = true := by kernel_rfl
theorem call74 {args : List AV} {H : Heap} {K : AV → Heap → Prop} (ha : args.length ≤ 12) (h : cwp Try.prog 12 pl74 (Try.f74.body.getD .skip) (retQ Try.prog Try.f74.results.toList K) (env0 args) H) : ACall Try.prog 74 args H K :=
  ACall.of_code (pl := pl74) Try.func74 rfl rfl fit74 ha h
def pl75 : Plans := [(27, .take 0 (.take 1 (.take 2 (.take 3 (.take 4 (.take 5 (.take 6 (.done))))))))]
theorem fit75 : fits Try.prog 137 pl75 (Try.f75.body.getD .skip) = true := by kernel_rfl
theorem call75 {args : List AV} {H : Heap} {K : AV → Heap → Prop} (ha : args.length ≤ 137) (h : cwp Try.prog 137 pl75 (Try.f75.body.getD .skip) (retQ Try.prog Try.f75.results.toList K) (env0 args) H) : ACall Try.prog 75 args H K :=
  ACall.of_code (pl := pl75) Try.func75 rfl rfl fit75 ha h
def pl76 : Plans := []
theorem fit76 : fits Try.prog 35 pl76 (Try.f76.body.getD .skip) = true := by kernel_rfl
theorem call76 {args : List AV} {H : Heap} {K : AV → Heap → Prop} (ha : args.length ≤ 35) (h : cwp Try.prog 35 pl76 (Try.f76.body.getD .skip) (retQ Try.prog Try.f76.results.toList K) (env0 args) H) : ACall Try.prog 76 args H K :=
  ACall.of_code (pl := pl76) Try.func76 rfl rfl fit76 ha h
def pl77 : Plans := []
theorem fit77 : fits Try.prog 43 pl77 (Try.f77.body.getD .skip) = true := by kernel_rfl
theorem call77 {args : List AV} {H : Heap} {K : AV → Heap → Prop} (ha : args.length ≤ 43) (h : cwp Try.prog 43 pl77 (Try.f77.body.getD .skip) (retQ Try.prog Try.f77.results.toList K) (env0 args) H) : ACall Try.prog 77 args H K :=
  ACall.of_code (pl := pl77) Try.func77 rfl rfl fit77 ha h
def pl78 : Plans := []
theorem fit78 : fits Try.prog 30 pl78 (Try.f78.body.getD .skip) = true := by kernel_rfl
theorem call78 {args : List AV} {H : Heap} {K : AV → Heap → Prop} (ha : args.length ≤ 30) (h : cwp Try.prog 30 pl78 (Try.f78.body.getD .skip) (retQ Try.prog Try.f78.results.toList K) (env0 args) H) : ACall Try.prog 78 args H K :=
  ACall.of_code (pl := pl78) Try.func78 rfl rfl fit78 ha h
def pl79 : Plans := [(2, .take 0 (.take 1 (.take 3 (.take 6 (.eff 2 [1] [0, 3, 6] (.eff 4 [3] [0, 1, 6] (.eff 5 [] [0, 1, 3, 6] (.eff 7 [5, 6] [0, 1, 3] (.take 8 (.eff 9 [8, 0, 2, 4, 7, 1, 3, 5, 6] [] (.take 10 (.done)) (.no))) (.no)) (.no)) (.eff 5 [] [0, 1, 3, 6] (.eff 4 [3] [0, 1, 6] (.eff 7 [5, 6] [0, 1, 3] (.take 8 (.eff 9 [8, 0, 2, 4, 7, 1, 3, 5, 6] [] (.take 10 (.done)) (.no))) (.no)) (.eff 7 [5, 6] [0, 1, 3] (.eff 4 [3] [0, 1, 6] (.take 8 (.eff 9 [8, 0, 2, 4, 7, 1, 3, 5, 6] [] (.take 10 (.done)) (.no))) (.no)) (.no))) (.no))) (.eff 4 [3] [0, 1, 6] (.eff 2 [1] [0, 3, 6] (.eff 5 [] [0, 1, 3, 6] (.eff 7 [5, 6] [0, 1, 3] (.take 8 (.eff 9 [8, 0, 2, 4, 7, 1, 3, 5, 6] [] (.take 10 (.done)) (.no))) (.no)) (.no)) (.eff 5 [] [0, 1, 3, 6] (.eff 2 [1] [0, 3, 6] (.eff 7 [5, 6] [0, 1, 3] (.take 8 (.eff 9 [8, 0, 2, 4, 7, 1, 3, 5, 6] [] (.take 10 (.done)) (.no))) (.no)) (.eff 7 [5, 6] [0, 1, 3] (.eff 2 [1] [0, 3, 6] (.take 8 (.eff 9 [8, 0, 2, 4, 7, 1, 3, 5, 6] [] (.take 10 (.done)) (.no))) (.no)) (.no))) (.no))) (.eff 5 [] [0, 1, 3, 6] (.eff 2 [1] [0, 3, 6] (.eff 4 [3] [0, 1, 6] (.eff 7 [5, 6] [0, 1, 3] (.take 8 (.eff 9 [8, 0, 2, 4, 7, 1, 3, 5, 6] [] (.take 10 (.done)) (.no))) (.no)) (.eff 7 [5, 6] [0, 1, 3] (.eff 4 [3] [0, 1, 6] (.take 8 (.eff 9 [8, 0, 2, 4, 7, 1, 3, 5, 6] [] (.take 10 (.done)) (.no))) (.no)) (.no))) (.eff 4 [3] [0, 1, 6] (.eff 2 [1] [0, 3, 6] (.eff 7 [5, 6] [0, 1, 3] (.take 8 (.eff 9 [8, 0, 2, 4, 7, 1, 3, 5, 6] [] (.take 10 (.done)) (.no))) (.no)) (.eff 7 [5, 6] [0, 1, 3] (.eff 2 [1] [0, 3, 6] (.take 8 (.eff 9 [8, 0, 2, 4, 7, 1, 3, 5, 6] [] (.take 10 (.done)) (.no))) (.no)) (.no))) (.eff 7 [5, 6] [0, 1, 3] (.eff 2 [1] [0, 3, 6] (.eff 4 [3] [0, 1, 6] (.take 8 (.eff 9 [8, 0, 2, 4, 7, 1, 3, 5, 6] [] (.take 10 (.done)) (.no))) (.no)) (.eff 4 [3] [0, 1, 6] (.eff 2 [1] [0, 3, 6] (.take 8 (.eff 9 [8, 0, 2, 4, 7, 1, 3, 5, 6] [] (.take 10 (.done)) (.no))) (.no)) (.no))) (.no)))) (.no))))))))]
theorem fit79 : fits Try.prog 39 pl79 (Try.f79.body.getD .skip) = true := by kernel_rfl
theorem call79 {args : List AV} {H : Heap} {K : AV → Heap → Prop} (ha : args.length ≤ 39) (h : cwp Try.prog 39 pl79 (Try.f79.body.getD .skip) (retQ Try.prog Try.f79.results.toList K) (env0 args) H) : ACall Try.prog 79 args H K :=
  ACall.of_code (pl := pl79) Try.func79 rfl rfl fit79 ha h
def pl80 : Plans := [(9, .take 0 (.take 1 (.take 2 (.take 3 (.take 4 (.take 5 (.take 6 (.eff 7 [3, 6, 1, 2, 4, 5] [0] (.take 8 (.eff 9 [8, 7, 0, 1, 2, 3, 4, 5, 6] [] (.done) (.no))) (.no)))))))))]
theorem fit80 : fits Try.prog 48 pl80 (Try.f80.body.getD .skip) = true := by kernel_rfl
theorem call80 {args : List AV} {H : Heap} {K : AV → Heap → Prop} (ha : args.length ≤ 48) (h : cwp Try.prog 48 pl80 (Try.f80.body.getD .skip) (retQ Try.prog Try.f80.results.toList K) (env0 args) H) : ACall Try.prog 80 args H K :=
  ACall.of_code (pl := pl80) Try.func80 rfl rfl fit80 ha h
def pl81 : Plans := [(11, .take 0 (.take 1 (.take 2 (.take 3 (.take 4 (.take 5 (.eff 6 [1, 5, 4, 2, 3] [0] (.take 7 (.take 8 (.eff 9 [8, 6, 0, 1, 2, 3, 4, 5, 7] [] (.done) (.no)))) (.no))))))))]
theorem fit81 : fits Try.prog 63 pl81 (Try.f81.body.getD .skip) = true := by kernel_rfl
theorem call81 {args : List AV} {H : Heap} {K : AV → Heap → Prop} (ha : args.length ≤ 63) (h : cwp Try.prog 63 pl81 (Try.f81.body.getD .skip) (retQ Try.prog Try.f81.results.toList K) (env0 args) H) : ACall Try.prog 81 args H K :=
  ACall.of_code (pl := pl81) Try.func81 rfl rfl fit81 ha h
def pl82 : Plans := []
theorem fit82 : fits Try.prog 12 pl82 (Try.f82.body.getD .skip) = true := by kernel_rfl
theorem call82 {args : List AV} {H : Heap} {K : AV → Heap → Prop} (ha : args.length ≤ 12) (h : cwp Try.prog 12 pl82 (Try.f82.body.getD .skip) (retQ Try.prog Try.f82.results.toList K) (env0 args) H) : ACall Try.prog 82 args H K :=
  ACall.of_code (pl := pl82) Try.func82 rfl rfl fit82 ha h
def pl83 : Plans := []
theorem fit83 : fits Try.prog 23 pl83 (Try.f83.body.getD .skip) = true := by kernel_rfl
theorem call83 {args : List AV} {H : Heap} {K : AV → Heap → Prop} (ha : args.length ≤ 23) (h : cwp Try.prog 23 pl83 (Try.f83.body.getD .skip) (retQ Try.prog Try.f83.results.toList K) (env0 args) H) : ACall Try.prog 83 args H K :=
  ACall.of_code (pl := pl83) Try.func83 rfl rfl fit83 ha h
def pl84 : Plans := [(1, .take 0 (.take 1 (.take 3 (.take 4 (.take 5 (.take 8 (.take 9 (.eff 2 [0, 1] [3, 4, 5, 8, 9] (.take 6 (.take 7 (.eff 10 [8, 9, 2, 0, 1] [3, 4, 5, 6, 7] (.take 11 (.take 12 (.take 13 (.done)))) (.no)))) (.no)))))))))]
theorem fit84 : fits Try.prog 20 pl84 (Try.f84.body.getD .skip) = true := by kernel_rfl
theorem call84 {args : List AV} {H : Heap} {K : AV → Heap → Prop} (ha : args.length ≤ 20) (h : cwp Try.prog 20 pl84 (Try.f84.body.getD .skip) (retQ Try.prog Try.f84.results.toList K) (env0 args) H) : ACall Try.prog 84 args H K :=
  ACall.of_code (pl := pl84) Try.func84 rfl rfl fit84 ha h
def pl85 : Plans := []
theorem fit85 : fits Try.prog 11 pl85 (Try.f85.body.getD .skip) = true := by kernel_rfl
theorem call85 {args : List AV} {H : Heap} {K : AV → Heap → Prop} (ha : args.length ≤ 11) (h : cwp Try.prog 11 pl85 (Try.f85.body.getD .skip) (retQ Try.prog Try.f85.results.toList K) (env0 args) H) : ACall Try.prog 85 args H K :=
  ACall.of_code (pl := pl85) Try.func85 rfl rfl fit85 ha h
def pl86 : Plans := []
theorem fit86 : fits Try.prog 29 pl86 (Try.f86.body.getD .skip) = true := by kernel_rfl
theorem call86 {args : List AV} {H : Heap} {K : AV → Heap → Prop} (ha : args.length ≤ 29) (h : cwp Try.prog 29 pl86 (Try.f86.body.getD .skip) (retQ Try.prog Try.f86.results.toList K) (env0 args) H) : ACall Try.prog 86 args H K :=
  ACall.of_code (pl := pl86) Try.func86 rfl rfl fit86 ha h
def pl87 : Plans := []
theorem fit87 : fits Try.prog 9 pl87 (Try.f87.body.getD .skip) = true := by kernel_rfl
theorem call87 {args : List AV} {H : Heap} {K : AV → Heap → Prop} (ha : args.length ≤ 9) (h : cwp Try.prog 9 pl87 (Try.f87.body.getD .skip) (retQ Try.prog Try.f87.results.toList K) (env0 args) H) : ACall Try.prog 87 args H K :=
  ACall.of_code (pl := pl87) Try.func87 rfl rfl fit87 ha h
def pl88 : Plans := [(6, .take 0 (.take 1 (.take 2 (.take 3 (.take 4 (.take 5 (.take 6 (.take 7 (.eff 8 [7, 5, 6] [0, 1, 2, 3, 4] (.eff 9 [3, 4, 8, 7, 5, 6] [0, 1, 2] (.eff 10 [9, 3, 4, 8, 7, 5, 6] [0, 1, 2] (.eff 11 [2, 10, 9, 0, 1, 3, 4, 8, 7, 5, 6] [] (.eff 12 [11, 0, 1, 2, 3, 4, 5, 6, 7, 8, 9, 10] [] (.done) (.no)) (.no)) (.no)) (.no)) (.no))))))))))]
theorem fit88 : fits Try.prog 38 pl88 (Try.f88.body.getD .skip) = true := by kernel_rfl
theorem call88 {args : List AV} {H : Heap} {K : AV → Heap → Prop} (ha : args.length ≤ 38) (h : cwp Try.prog 38 pl88 (Try.f88.body.getD .skip) (retQ Try.prog Try.f88.results.toList K) (env0 args) H) : ACall Try.prog 88 args H K :=
  ACall.of_code (pl := pl88) Try.func88 rfl rfl fit88 ha h
def pl89 : Plans := []
theorem fit89 : fits Try.prog 15 pl89 (Try.f89.body.getD .skip) = true := by kernel_rfl
theorem call89 {args : List AV} {H : Heap} {K : AV → Heap → Prop} (ha : args.length ≤ 15) (h : cwp Try.prog 15 pl89 (Try.f89.body.getD .skip) (retQ Try.prog Try.f89.results.toList K) (env0 args) H) : ACall Try.prog 89 args H K :=
  ACall.of_code (pl := pl89) Try.func89 rfl rfl fit89 ha h
def pl90 : Plans := []
theorem fit90 : fits Try.prog 21 pl90 (Try.f90.body.getD .skip) = true := by kernel_rfl
theorem call90 {args : List AV} {H : Heap} {K : AV → Heap → Prop} (ha : args.length ≤ 21) (h : cwp Try.prog 21 pl90 (Try.f90.body.getD .skip) (retQ Try.prog Try.f90.results.toList K) (env0 args) H) : ACall Try.prog 90 args H K :=
  ACall.of_code (pl := pl90) Try.func90 rfl rfl fit90 ha h
def pl91 : Plans := []
theorem fit91 : fits Try.prog 25 pl91 (Try.f91.body.getD .skip) = true := by kernel_rfl
theorem call91 {args : List AV} {H : Heap} {K : AV → Heap → Prop} (ha : args.length ≤ 25) (h : cwp Try.prog 25 pl91 (Try.f91.body.getD .skip) (retQ Try.prog Try.f91.results.toList K) (env0 args) H) : ACall Try.prog 91 args H K :=
  ACall.of_code (pl := pl91) Try.func91 rfl rfl fit91 ha h
def pl92 : Plans := []
theorem fit92 : fits Try.prog 37 pl92 (Try.f92.body.getD .skip) = true := by kernel_rfl
theorem call92 {args : List AV} {H : Heap} {K : AV → Heap → Prop} (ha : args.length ≤ 37) (h : cwp Try.prog 37 pl92 (Try.f92.body.getD .skip) (retQ Try.prog Try.f92.results.toList K) (env0 args) H) : ACall Try.prog 92 args H K :=
  ACall.of_code (pl := pl92) Try.func92 rfl rfl fit92 ha h
def pl93 : Plans := [(8, .take 0 (.take 1 (.take 2 (.take 3 (.take 4 (.take 5 (.take 6 (.take 7 (.take 8 (.take 9 (.take 10 (.take 11 (.take 12 (.take 13 (.take 14 (.take 15 (.take 16 (.take 17 (.eff 18 [17, 16, 12, 0, 1, 2, 3, 4, 5, 6, 7, 8, 9, 10, 11, 13, 14, 15] [] (.done) (.no))))))))))))))))))))]
theorem fit93 : fits Try.prog 116 pl93 (Try.f93.body.getD .skip) = true := by kernel_rfl
theorem call93 {args : List AV} {H : Heap} {K : AV → Heap → Prop} (ha : args.length ≤ 116) (h : cwp Try.prog 116 pl93 (Try.f93.body.getD .skip) (retQ Try.prog Try.f93.results.toList K) (env0 args) H) : ACall Try.prog 93 args H K :=
  ACall.of_code (pl := pl93) Try.func93 rfl rfl fit93 ha h
def pl94 : Plans := []
theorem fit94 : fits Try.prog 14 pl94 (Try.f94.body.getD .skip) = true := by kernel_rfl
theorem call94 {args : List AV} {H : Heap} {K : AV → Heap → Prop} (ha : args.length ≤ 14) (h : cwp Try.prog 14 pl94 (Try.f94.body.getD .skip) (retQ Try.prog Try.f94.results.toList K) (env0 args) H) : ACall Try.prog 94 args H K :=
  ACall.of_code (pl := pl94) Try.func94 rfl rfl fit94 ha h
def pl95 : Plans := []
theorem fit95 : fits Try.prog 12 pl95 (Try.f95.body.getD .skip) = true := by kernel_rfl
theorem call95 {args : List AV} {H : Heap} {K : AV → Heap → Prop} (ha : args.length ≤ 12) (h : cwp Try.prog 12 pl95 (Try.f95.body.getD .skip) (retQ Try.prog Try.f95.results.toList K) (env0 args) H) : ACall Try.prog 95 args H K :=
  ACall.of_code (pl := pl95) Try.func95 rfl rfl fit95 ha h
def pl96 : Plans := []
theorem fit96 : fits Try.prog 48 pl96 (Try.f96.body.getD .skip) = true := by kernel_rfl
theorem call96 {args : List AV} {H : Heap} {K : AV → Heap → Prop} (ha : args.length ≤ 48) (h : cwp Try.prog 48 pl96 (Try.f96.body.getD .skip) (retQ Try.prog Try.f96.results.toList K) (env0 args) H) : ACall Try.prog 96 args H K :=
  ACall.of_code (pl := pl96) Try.func96 rfl rfl fit96 ha h
def pl97 : Plans := []
theorem fit97 : fits Try.prog 26 pl97 (Try.f97.body.getD .skip) = true := by kernel_rfl
theorem call97 {args : List AV} {H : Heap} {K : AV → Heap → Prop} (ha : args.length ≤ 26) (h : cwp Try.prog 26 pl97 (Try.f97.body.getD .skip) (retQ Try.prog Try.f97.results.toList K) (env0 args) H) : ACall Try.prog 97 args H K :=
  ACall.of_code (pl := pl97) Try.func97 rfl rfl fit97 ha h
def pl98 : Plans := []
theorem fit98 : fits Try.prog 9 pl98 (Try.f98.body.getD .skip) = true := by kernel_rfl
theorem call98 {args : List AV} {H : Heap} {K : AV → Heap → Prop} (ha : args.length ≤ 9) (h : cwp Try.prog 9 pl98 (Try.f98.body.getD .skip) (retQ Try.prog Try.f98.results.toList K) (env0 args) H) : ACall Try.prog 98 args H K :=
  ACall.of_code (pl := pl98) Try.func98 rfl rfl fit98 ha h
def pl99 : Plans := [(6, .take 0 (.take 1 (.take 2 (.take 3 (.take 4 (.take 5 (.take 6 (.take 7 (.take 8 (.take 9 (.take 10 (.take 11 (.take 12 (.take 13 (.take 14 (.take 15 (.take 16 (.take 17 (.take 18 (.take 19 (.done))))))))))))))))))))), (22, .take 0 (.take 1 (.take 2 (.take 3 (.take 4 (.take 5 (.take 6 (.take 7 (.take 8 (.done)))))))))), (29, .take 0 (.take 1 (.take 2 (.take 3 (.take 4 (.take 5 (.take 6 (.take 7 (.take 8 (.take 9 (.take 10 (.eff 11 [5, 10, 6, 9, 8, 7] [0, 1, 2, 3, 4] (.take 12 (.take 13 (.take 14 (.done)))) (.no)))))))))))))]
theorem fit99 : fits Try.prog 147 pl99 (Try.f99.body.getD .skip) = true := by kernel_rfl
theorem call99 {args : List AV} {H : Heap} {K : AV → Heap → Prop} (ha : args.length ≤ 147) (h : cwp Try.prog 147 pl99 (Try.f99.body.getD .skip) (retQ Try.prog Try.f99.results.toList K) (env0 args) H) : ACall Try.prog 99 args H K :=
  ACall.of_code (pl := pl99) Try.func99 rfl rfl fit99 ha h
def pl100 : Plans := []
theorem fit100 : fits Try.prog 14 pl100 (Try.f100.body.getD .skip) = true := by kernel_rfl
theorem call100 {args : List AV} {H : Heap} {K : AV → Heap → Prop} (ha : args.length ≤ 14) (h : cwp Try.prog 14 pl100 (Try.f100.body.getD .skip) (retQ Try.prog Try.f100.results.toList K) (env0 args) H) : ACall Try.prog 100 args H K :=
  ACall.of_code (pl := pl100) Try.func100 rfl rfl fit100 ha h
def pl101 : Plans := [(5, .take 0 (.take 1 (.take 2 (.take 3 (.take 4 (.take 5 (.take 7 (.eff 6 [0, 1, 5, 4, 2, 3] [7] (.take 9 (.eff 8 [7] [0, 1, 2, 3, 4, 5, 9] (.take 10 (.done)) (.no))) (.eff 8 [7] [0, 1, 2, 3, 4, 5] (.eff 6 [0, 1, 5, 4, 2, 3] [7] (.take 9 (.take 10 (.done))) (.no)) (.no)))))))))), (13, .take 0 (.take 1 (.take 2 (.take 3 (.take 4 (.take 5 (.take 6 (.take 7 (.take 8 (.take 9 (.take 10 (.eff 11 [10] [0, 1, 2, 3, 4, 5, 6, 7, 8, 9] (.eff 12 [0, 9, 11, 8, 10, 1, 7, 6, 2, 5, 4, 3] [] (.take 13 (.done)) (.no)) (.no))))))))))))), (14, .take 0 (.take 1 (.take 2 (.take 3 (.take 4 (.take 5 (.take 6 (.take 7 (.take 8 (.take 9 (.take 10 (.eff 11 [5, 10, 6, 9, 8, 7] [0, 1, 2, 3, 4] (.take 12 (.take 13 (.take 14 (.done)))) (.no)))))))))))))]
theorem fit101 : fits Try.prog 89 pl101 (Try.f101.body.getD .skip) = true := by kernel_rfl
theorem call101 {args : List AV} {H : Heap} {K : AV → Heap → Prop} (ha : args.length ≤ 89) (h : cwp Try.prog 89 pl101 (Try.f101.body.getD .skip) (retQ Try.prog Try.f101.results.toList K) (env0 args) H) : ACall Try.prog 101 args H K :=
  ACall.of_code (pl := pl101) Try.func101 rfl rfl fit101 ha h
def pl102 : Plans := []
theorem fit102 : fits Try.prog 32 pl102 (Try.f102.body.getD .skip) = true := by kernel_rfl
theorem call102 {args : List AV} {H : Heap} {K : AV → Heap → Prop} (ha : args.length ≤ 32) (h : cwp Try.prog 32 pl102 (Try.f102.body.getD .skip) (retQ Try.prog Try.f102.results.toList K) (env0 args) H) : ACall Try.prog 102 args H K :=
  ACall.of_code (pl := pl102) Try.func102 rfl rfl fit102 ha h
def pl103 : Plans := []
theorem fit103 : fits Try.prog 12 pl103 (Try.f103.body.getD .skip) = true := by kernel_rfl
theorem call103 {args : List AV} {H : Heap} {K : AV → Heap → Prop} (ha : args.length ≤ 12) (h : cwp Try.prog 12 pl103 (Try.f103.body.getD .skip) (retQ Try.prog Try.f103.results.toList K) (env0 args) H) : ACall Try.prog 103 args H K :=
  ACall.of_code (pl := pl103) Try.func103 rfl rfl fit103 ha h
def pl104 : Plans := [(2, .take 0 (.take 1 (.take 2 (.take 3 (.take 4 (.take 5 (.take 6 (.take 7 (.take 8 (.take 9 (.done))))))))))), (3, .take 0 (.take 1 (.take 2 (.take 3 (.take 4 (.take 5 (.take 6 (.take 7 (.take 8 (.take 9 (.take 10 (.take 11 (.done))))))))))))), (6, .take 0 (.take 1 (.take 2 (.take 3 (.take 4 (.take 5 (.take 6 (.take 7 (.take 8 (.take 9 (.done)))))))))))]
theorem fit104 : fits Try.prog 62 pl104 (Try.f104.body.getD .skip) = true := by kernel_rfl
theorem call104 {args : List AV} {H : Heap} {K : AV → Heap → Prop} (ha : args.length ≤ 62) (h : cwp Try.prog 62 pl104 (Try.f104.body.getD .skip) (retQ Try.prog Try.f104.results.toList K) (env0 args) H) : ACall Try.prog 104 args H K :=
  ACall.of_code (pl := pl104) Try.func104 rfl rfl fit104 ha h
def pl105 : Plans := []
theorem fit105 : fits Try.prog 9 pl105 (Try.f105.body.getD .skip) = true := by kernel_rfl
theorem call105 {args : List AV} {H : Heap} {K : AV → Heap → Prop} (ha : args.length ≤ 9) (h : cwp Try.prog 9 pl105 (Try.f105.body.getD .skip) (retQ Try.prog Try.f105.results.toList K) (env0 args) H) : ACall Try.prog 105 args H K :=
  ACall.of_code (pl := pl105) Try.func105 rfl rfl fit105 ha h
def pl106 : Plans := []
theorem fit106 : fits Try.prog 9 pl106 (Try.f106.body.getD .skip) = true := by kernel_rfl
theorem call106 {args : List AV} {H : Heap} {K : AV → Heap → Prop} (ha : args.length ≤ 9) (h : cwp Try.prog 9 pl106 (Try.f106.body.getD .skip) (retQ Try.prog Try.f106.results.toList K) (env0 args) H) : ACall Try.prog 106 args H K :=
  ACall.of_code (pl := pl106) Try.func106 rfl rfl fit106 ha h
def pl107 : Plans := []
theorem fit107 : fits Try.prog 14 pl107 (Try.f107.body.getD .skip) = true := by kernel_rfl
theorem call107 {args : List AV} {H : Heap} {K : AV → Heap → Prop} (ha : args.length ≤ 14) (h : cwp Try.prog 14 pl107 (Try.f107.body.getD .skip) (retQ Try.prog Try.f107.results.toList K) (env0 args) H) : ACall Try.prog 107 args H K :=
  ACall.of_code (pl := pl107) Try.func107 rfl rfl fit107 ha h
def pl108 : Plans := []
theorem fit108 : fits Try.prog 19 pl108 (Try.f108.body.getD .skip) = true := by kernel_rfl
theorem call108 {args : List AV} {H : Heap} {K : AV → Heap → Prop} (ha : args.length ≤ 19) (h : cwp Try.prog 19 pl108 (Try.f108.body.getD .skip) (retQ Try.prog Try.f108.results.toList K) (env0 args) H) : ACall Try.prog 108 args H K :=
  ACall.of_code (pl := pl108) Try.func108 rfl rfl fit108 ha h
def pl109 : Plans := [(0, .take 0 (.take 1 (.eff 2 [1] [0] (.take 3 (.take 4 (.take 5 (.done)))) (.no)))), (1, .take 0 (.take 1 (.take 3 (.eff 2 [1] [0, 3] (.eff 4 [3, 2, 1] [0] (.take 5 (.eff 6 [5, 4, 0, 1, 2, 3] [] (.done) (.no))) (.no)) (.no)))))]
theorem fit109 : fits Try.prog 20 pl109 (Try.f109.body.getD .skip) = true := by kernel_rfl
theorem call109 {args : List AV} {H : Heap} {K : AV → Heap → Prop} (ha : args.length ≤ 20) (h : cwp Try.prog 20 pl109 (Try.f109.body.getD .skip) (retQ Try.prog Try.f109.results.toList K) (env0 args) H) : ACall Try.prog 109 args H K :=
  ACall.of_code (pl := pl109) Try.func109 rfl rfl fit109 ha h
def pl110 : Plans := []
theorem fit110 : fits Try.prog 7 pl110 (Try.f110.body.getD .skip) = true := by kernel_rfl
theorem call110 {args : List AV} {H : Heap} {K : AV → Heap → Prop} (ha : args.length ≤ 7) (h : cwp Try.prog 7 pl110 (Try.f110.body.getD .skip) (retQ Try.prog Try.f110.results.toList K) (env0 args) H) : ACall Try.prog 110 args H K :=
  ACall.of_code (pl := pl110) Try.func110 rfl rfl fit110 ha h
def pl111 : Plans := []
theorem fit111 : fits Try.prog 20 pl111 (Try.f111.body.getD .skip) = true := by kernel_rfl
theorem call111 {args : List AV} {H : Heap} {K : AV → Heap → Prop} (ha : args.length ≤ 20) (h : cwp Try.prog 20 pl111 (Try.f111.body.getD .skip) (retQ Try.prog Try.f111.results.toList K) (env0 args) H) : ACall Try.prog 111 args H K :=
  ACall.of_code (pl := pl111) Try.func111 rfl rfl fit111 ha h
def pl112 : Plans := [(1, .take 0 (.take 1 (.take 2 (.take 3 (.take 4 (.take 5 (.eff 6 [4, 5, 3, 1, 2, 0] [] (.take 7 (.take 8 (.take 9 (.take 10 (.take 11 (.done)))))) (.no))))))))]
theorem fit112 : fits Try.prog 24 pl112 (Try.f112.body.getD .skip) = true := by kernel_rfl
theorem call112 {args : List AV} {H : Heap} {K : AV → Heap → Prop} (ha : args.length ≤ 24) (h : cwp Try.prog 24 pl112 (Try.f112.body.getD .skip) (retQ Try.prog Try.f112.results.toList K) (env0 args) H) : ACall Try.prog 112 args H K :=
  ACall.of_code (pl := pl112) Try.func112 rfl rfl fit112 ha h
def pl113 : Plans := []
theorem fit113 : fits Try.prog 36 pl113 (Try.f113.body.getD .skip) = true := by kernel_rfl
theorem call113 {args : List AV} {H : Heap} {K : AV → Heap → Prop} (ha : args.length ≤ 36) (h : cwp Try.prog 36 pl113 (Try.f113.body.getD .skip) (retQ Try.prog Try.f113.results.toList K) (env0 args) H) : ACall Try.prog 113 args H K :=
  ACall.of_code (pl := pl113) Try.func113 rfl rfl fit113 ha h
def pl114 : Plans := []
theorem fit114 : fits Try.prog 8 pl114 (Try.f114.body.getD .skip) = true := by kernel_rfl
theorem call114 {args : List AV} {H : Heap} {K : AV → Heap → Prop} (ha : args.length ≤ 8) (h : cwp Try.prog 8 pl114 (Try.f114.body.getD .skip) (retQ Try.prog Try.f114.results.toList K) (env0 args) H) : ACall Try.prog 114 args H K :=
  ACall.of_code (pl := pl114) Try.func114 rfl rfl fit114 ha h
def pl115 : Plans := []
theorem fit115 : fits Try.prog 34 pl115 (Try.f115.body.getD .skip) = true := by kernel_rfl
theorem call115 {args : List AV} {H : Heap} {K : AV → Heap → Prop} (ha : args.length ≤ 34) (h : cwp Try.prog 34 pl115 (Try.f115.body.getD .skip) (retQ Try.prog Try.f115.results.toList K) (env0 args) H) : ACall Try.prog 115 args H K :=
  ACall.of_code (pl := pl115) Try.func115 rfl rfl fit115 ha h
def pl116 : Plans := []
theorem fit116 : fits Try.prog 15 pl116 (Try.f116.body.getD .skip) = true := by kernel_rfl
theorem call116 {args : List AV} {H : Heap} {K : AV → Heap → Prop} (ha : args.length ≤ 15) (h : cwp Try.prog 15 pl116 (Try.f116.body.getD .skip) (retQ Try.prog Try.f116.results.toList K) (env0 args) H) : ACall Try.prog 116 args H K :=
  ACall.of_code (pl := pl116) Try.func116 rfl rfl fit116 ha h
def pl117 : Plans := []
theorem fit117 : fits Try.prog 18 pl117 (Try.f117.body.getD .skip) = true := by kernel_rfl
theorem call117 {args : List AV} {H : Heap} {K : AV → Heap → Prop} (ha : args.length ≤ 18) (h : cwp Try.prog 18 pl117 (Try.f117.body.getD .skip) (retQ Try.prog Try.f117.results.toList K) (env0 args) H) : ACall Try.prog 117 args H K :=
  ACall.of_code (pl := pl117) Try.func117 rfl rfl fit117 ha h
def pl118 : Plans := [(3, .take 0 (.take 1 (.take 3 (.take 4 (.take 5 (.take 6 (.eff 2 [1, 0] [3, 4, 5, 6] (.eff 7 [6, 5, 4, 3] [0, 1] (.take 8 (.take 9 (.take 10 (.done)))) (.no)) (.eff 7 [6, 5, 4, 3] [0, 1] (.take 8 (.eff 2 [1, 0] [3, 4, 5, 6, 8] (.take 9 (.take 10 (.done))) (.no))) (.no)))))))))]
theorem fit118 : fits Try.prog 20 pl118 (Try.f118.body.getD .skip) = true := by kernel_rfl
theorem call118 {args : List AV} {H : Heap} {K : AV → Heap → Prop} (ha : args.length ≤ 20) (h : cwp Try.prog 20 pl118 (Try.f118.body.getD .skip) (retQ Try.prog Try.f118.results.toList K) (env0 args) H) : ACall Try.prog 118 args H K :=
  ACall.of_code (pl := pl118) Try.func118 rfl rfl fit118 ha h
def pl119 : Plans := []
theorem fit119 : fits Try.prog 23 pl119 (Try.f119.body.getD .skip) = true := by kernel_rfl
theorem call119 {args : List AV} {H : Heap} {K : AV → Heap → Prop} (ha : args.length ≤ 23) (h : cwp Try.prog 23 pl119 (Try.f119.body.getD .skip) (retQ Try.prog Try.f119.results.toList K) (env0 args) H) : ACall Try.prog 119 args H K :=
  ACall.of_code (pl := pl119) Try.func119 rfl rfl fit119 ha h
def pl120 : Plans := [(1, .take 0 (.take 1 (.take 2 (.take 3 (.take 4 (.take 5 (.take 6 (.take 7 (.take 8 (.take 9 (.take 10 (.take 11 (.take 12 (.take 13 (.take 14 (.take 15 (.done))))))))))))))))), (4, .take 0 (.take 1 (.take 2 (.take 3 (.take 4 (.take 5 (.take 6 (.take 7 (.take 8 (.take 9 (.eff 10 [0, 9, 4, 8, 3, 7, 2, 6, 1, 5] [] (.take 11 (.done)) (.no))))))))))))]
theorem fit120 : fits Try.prog 49 pl120 (Try.f120.body.getD .skip) = true := by kernel_rfl
theorem call120 {args : List AV} {H : Heap} {K : AV → Heap → Prop} (ha : args.length ≤ 49) (h : cwp Try.prog 49 pl120 (Try.f120.body.getD .skip) (retQ Try.prog Try.f120.results.toList K) (env0 args) H) : ACall Try.prog 120 args H K :=
  ACall.of_code (pl := pl120) Try.func120 rfl rfl fit120 ha h
def pl121 : Plans := []
theorem fit121 : fits Try.prog 36 pl121 (Try.f121.body.getD .skip) = true := by kernel_rfl
theorem call121 {args : List AV} {H : Heap} {K : AV → Heap → Prop} (ha : args.length ≤ 36) (h : cwp Try.prog 36 pl121 (Try.f121.body.getD .skip) (retQ Try.prog Try.f121.results.toList K) (env0 args) H) : ACall Try.prog 121 args H K :=
  ACall.of_code (pl := pl121) Try.func121 rfl rfl fit121 ha h
def pl122 : Plans := []
theorem fit122 : fits Try.prog 50 pl122 (Try.f122.body.getD .skip) = true := by kernel_rfl
theorem call122 {args : List AV} {H : Heap} {K : AV → Heap → Prop} (ha : args.length ≤ 50) (h : cwp Try.prog 50 pl122 (Try.f122.body.getD .skip) (retQ Try.prog Try.f122.results.toList K) (env0 args) H) : ACall Try.prog 122 args H K :=
  ACall.of_code (pl := pl122) Try.func122 rfl rfl fit122 ha h
def pl123 : Plans := [(7, .take 0 (.take 2 (.take 3 (.eff 1 [0] [2, 3] (.eff 4 [3, 2] [0] (.take 5 (.eff 6 [5, 1, 4, 0, 3, 2] [] (.take 7 (.done)) (.no))) (.no)) (.eff 4 [3, 2] [0] (.eff 1 [0] [2, 3] (.take 5 (.eff 6 [5, 1, 4, 0, 3, 2] [] (.take 7 (.done)) (.no))) (.no)) (.no))))))]
theorem fit123 : fits Try.prog 91 pl123 (Try.f123.body.getD .skip) = true := by kernel_rfl
theorem call123 {args : List AV} {H : Heap} {K : AV → Heap → Prop} (ha : args.length ≤ 91) (h : cwp Try.prog 91 pl123 (Try.f123.body.getD .skip) (retQ Try.prog Try.f123.results.toList K) (env0 args) H) : ACall Try.prog 123 args H K :=
  ACall.of_code (pl := pl123) Try.func123 rfl rfl fit123 ha h
def pl124 : Plans := []
theorem fit124 : fits Try.prog 69 pl124 (Try.f124.body.getD .skip) = true := by kernel_rfl
theorem call124 {args : List AV} {H : Heap} {K : AV → Heap → Prop} (ha : args.length ≤ 69) (h : cwp Try.prog 69 pl124 (Try.f124.body.getD .skip) (retQ Try.prog Try.f124.results.toList K) (env0 args) H) : ACall Try.prog 124 args H K :=
  ACall.of_code (pl := pl124) Try.func124 rfl rfl fit124 ha h
def pl125 : Plans := []
theorem fit125 : fits Try.prog 35 pl125 (Try.f125.body.getD .skip) = true := by kernel_rfl
theorem call125 {args : List AV} {H : Heap} {K : AV → Heap → Prop} (ha : args.length ≤ 35) (h : cwp Try.prog 35 pl125 (Try.f125.body.getD .skip) (retQ Try.prog Try.f125.results.toList K) (env0 args) H) : ACall Try.prog 125 args H K :=
  ACall.of_code (pl := pl125) Try.func125 rfl rfl fit125 ha h
def pl126 : Plans := [(1, .take 0 (.take 1 (.take 2 (.take 3 (.take 4 (.take 5 (.take 6 (.take 7 (.take 8 (.take 9 (.take 10 (.take 11 (.take 12 (.take 13 (.take 14 (.take 15 (.take 16 (.take 17 (.take 18 (.eff 19 [18, 13, 0, 1, 2, 3, 4, 8, 10, 11, 12, 17, 7, 16, 6, 15, 5, 14] [9] (.take 20 (.eff 21 [20, 17, 19, 0, 1, 2, 3, 4, 5, 6, 7, 8, 9, 10, 11, 12, 13, 14, 15, 16, 18] [] (.done) (.no))) (.no))))))))))))))))))))), (8, .take 0 (.take 1 (.take 2 (.take 3 (.take 4 (.take 5 (.take 6 (.take 7 (.take 8 (.take 9 (.take 10 (.take 11 (.take 12 (.take 13 (.take 14 (.take 15 (.take 16 (.take 17 (.take 18 (.take 19 (.take 20 (.eff 21 [20, 19, 0, 1, 2, 3, 4, 5, 6, 7, 8, 9, 10, 11, 12, 13, 14, 15, 16, 17, 18] [] (.done) (.no))))))))))))))))))))))), (10, .take 0 (.take 1 (.take 2 (.take 3 (.take 4 (.take 5 (.take 6 (.take 7 (.take 8 (.take 9 (.take 10 (.take 11 (.take 12 (.take 13 (.take 14 (.take 15 (.take 16 (.take 17 (.take 18 (.take 19 (.take 20 (.eff 21 [20, 19, 0, 1, 2, 3, 4, 5, 6, 7, 8, 9, 10, 11, 12, 13, 14, 15, 16, 17, 18] [] (.done) (.no))))))))))))))))))))))), (12, .take 0 (.take 1 (.take 2 (.take 3 (.take 4 (.take 5 (.take 6 (.take 7 (.take 8 (.take 9 (.take 10 (.take 11 (.take 12 (.take 13 (.take 14 (.done))))))))))))))))]
theorem fit126 : fits Try.prog 177 pl126 (Try.f126.body.getD .skip) = true := by kernel_rfl
theorem call126 {args : List AV} {H : Heap} {K : AV → Heap → Prop} (ha : args.length ≤ 177) (h : cwp Try.prog 177 pl126 (Try.f126.body.getD .skip) (retQ Try.prog Try.f126.results.toList K) (env0 args) H) : ACall Try.prog 126 args H K :=
  ACall.of_code (pl := pl126) Try.func126 rfl rfl fit126 ha h
def pl127 : Plans := []
theorem fit127 : fits Try.prog 30 pl127 (Try.f127.body.getD .skip) = true := by kernel_rfl
theorem call127 {args : List AV} {H : Heap} {K : AV → Heap → Prop} (ha : args.length ≤ 30) (h : cwp Try.prog 30 pl127 (Try.f127.body.getD .skip) (retQ Try.prog Try.f127.results.toList K) (env0 args) H) : ACall Try.prog 127 args H K :=
  ACall.of_code (pl := pl127) Try.func127 rfl rfl fit127 ha h
def pl128 : Plans := []
theorem fit128 : fits Try.prog 21 pl128 (Try.f128.body.getD .skip) = true := by kernel_rfl
theorem call128 {args : List AV} {H : Heap} {K : AV → Heap → Prop} (ha : args.length ≤ 21) (h : cwp Try.prog 21 pl128 (Try.f128.body.getD .skip) (retQ Try.prog Try.f128.results.toList K) (env0 args) H) : ACall Try.prog 128 args H K :=
  ACall.of_code (pl := pl128) Try.func128 rfl rfl fit128 ha h
def pl129 : Plans := [(21, .take 0 (.take 1 (.take 2 (.take 3 (.take 4 (.take 5 (.take 6 (.take 8 (.take 9 (.take 10 (.take 11 (.take 12 (.take 13 (.eff 7 [5, 6] [0, 1, 2, 3, 4, 8, 9, 10, 11, 12, 13] (.eff 14 [2, 3, 4, 7, 8, 9, 13, 5, 6, 12, 10, 11] [0, 1] (.take 15 (.eff 16 [15, 14, 0, 1, 2, 3, 4, 5, 6, 7, 8, 9, 10, 11, 12, 13] [] (.done) (.no))) (.no)) (.no)))))))))))))))]
theorem fit129 : fits Try.prog 82 pl129 (Try.f129.body.getD .skip) = true := by kernel_rfl
theorem call129 {args : List AV} {H : Heap} {K : AV → Heap → Prop} (ha : args.length ≤ 82) (h : cwp Try.prog 82 pl129 (Try.f129.body.getD .skip) (retQ Try.prog Try.f129.results.toList K) (env0 args) H) : ACall Try.prog 129 args H K :=
  ACall.of_code (pl := pl129) Try.func129 rfl rfl fit129 ha h
def pl130 : Plans := [(3, .take 0 (.take 1 (.take 2 (.take 3 (.take 4 (.take 5 (.take 6 (.take 7 (.take 8 (.take 9 (.take 10 (.take 11 (.take 12 (.take 13 (.done)))))))))))))))]
theorem fit130 : fits Try.prog 24 pl130 (Try.f130.body.getD .skip) = true := by kernel_rfl
theorem call130 {args : List AV} {H : Heap} {K : AV → Heap → Prop} (ha : args.length ≤ 24) (h : cwp Try.prog 24 pl130 (Try.f130.body.getD .skip) (retQ Try.prog Try.f130.results.toList K) (env0 args) H) : ACall Try.prog 130 args H K :=
  ACall.of_code (pl := pl130) Try.func130 rfl rfl fit130 ha h
def pl131 : Plans := []
theorem fit131 : fits Try.prog 6 pl131 (Try.f131.body.getD .skip) = true := by kernel_rfl
theorem call131 {args : List AV} {H : Heap} {K : AV → Heap → Prop} (ha : args.length ≤ 6) (h : cwp Try.prog 6 pl131 (Try.f131.body.getD .skip) (retQ Try.prog Try.f131.results.toList K) (env0 args) H) : ACall Try.prog 131 args H K :=
  ACall.of_code (pl := pl131) Try.func131 rfl rfl fit131 ha h
def pl132 : Plans := [(14, .take 0 (.take 1 (.take 3 (.take 4 (.eff 2 [0, 1] [3, 4] (.take 5 (.take 6 (.take 7 (.take 8 (.done))))) (.no)))))), (18, .take 0 (.take 1 (.take 2 (.eff 3 [1, 2] [0] (.eff 4 [0, 3, 1, 2] [] (.take 5 (.done)) (.no)) (.no)))))]
theorem fit132 : fits Try.prog 91 pl132 (Try.f132.body.getD .skip) = true := by kernel_rfl
theorem call132 {args : List AV} {H : Heap} {K : AV → Heap → Prop} (ha : args.length ≤ 91) (h : cwp Try.prog 91 pl132 (Try.f132.body.getD .skip) (retQ Try.prog Try.f132.results.toList K) (env0 args) H) : ACall Try.prog 132 args H K :=
  ACall.of_code (pl := pl132) Try.func132 rfl rfl fit132 ha h
def pl133 : Plans := []
theorem fit133 : fits Try.prog 8 pl133 (Try.f133.body.getD .skip) = true := by kernel_rfl
theorem call133 {args : List AV} {H : Heap} {K : AV → Heap → Prop} (ha : args.length ≤ 8) (h : cwp Try.prog 8 pl133 (Try.f133.body.getD .skip) (retQ Try.prog Try.f133.results.toList K) (env0 args) H) : ACall Try.prog 133 args H K :=
  ACall.of_code (pl := pl133) Try.func133 rfl rfl fit133 ha h
def pl134 : Plans := []
theorem fit134 : fits Try.prog 73 pl134 (Try.f134.body.getD .skip) = true := by kernel_rfl
theorem call134 {args : List AV} {H : Heap} {K : AV → Heap → Prop} (ha : args.length ≤ 73) (h : cwp Try.prog 73 pl134 (Try.f134.body.getD .skip) (retQ Try.prog Try.f134.results.toList K) (env0 args) H) : ACall Try.prog 134 args H K :=
  ACall.of_code (pl := pl134) Try.func134 rfl rfl fit134 ha h
def pl135 : Plans := [(8, .take 0 (.take 1 (.take 2 (.take 3 (.take 4 (.take 5 (.take 6 (.take 7 (.take 8 (.done))))))))))]
theorem fit135 : fits Try.prog 48 pl135 (Try.f135.body.getD .skip) = true := by kernel_rfl
theorem call135 {args : List AV} {H : Heap} {K : AV → Heap → Prop} (ha : args.length ≤ 48) (h : cwp Try.prog 48 pl135 (Try.f135.body.getD .skip) (retQ Try.prog Try.f135.results.toList K) (env0 args) H) : ACall Try.prog 135 args H K :=
  ACall.of_code (pl := pl135) Try.func135 rfl rfl fit135 ha h
def pl136 : Plans := []
theorem fit136 : fits Try.prog 8 pl136 (Try.f136.body.getD .skip) = true := by kernel_rfl
theorem call136 {args : List AV} {H : Heap} {K : AV → Heap → Prop} (ha : args.length ≤ 8) (h : cwp Try.prog 8 pl136 (Try.f136.body.getD .skip) (retQ Try.prog Try.f136.results.toList K) (env0 args) H) : ACall Try.prog 136 args H K :=
  ACall.of_code (pl := pl136) Try.func136 rfl rfl fit136 ha h
def pl137 : Plans := []
theorem fit137 : fits Try.prog 26 pl137 (Try.f137.body.getD .skip) = true := by kernel_rfl
theorem call137 {args : List AV} {H : Heap} {K : AV → Heap → Prop} (ha : args.length ≤ 26) (h : cwp Try.prog 26 pl137 (Try.f137.body.getD .skip) (retQ Try.prog Try.f137.results.toList K) (env0 args) H) : ACall Try.prog 137 args H K :=
  ACall.of_code (pl := pl137) Try.func137 rfl rfl fit137 ha h
def pl138 : Plans := []
theorem fit138 : fits Try.prog 37 pl138 (Try.f138.body.getD .skip) = true := by kernel_rfl
theorem call138 {args : List AV} {H : Heap} {K : AV → Heap → Prop} (ha : args.length ≤ 37) (h : cwp Try.prog 37 pl138 (Try.f138.body.getD .skip) (retQ Try.prog Try.f138.results.toList K) (env0 args) H) : ACall Try.prog 138 args H K :=
  ACall.of_code (pl := pl138) Try.func138 rfl rfl fit138 ha h
def pl139 : Plans := []
theorem fit139 : fits Try.prog 21 pl139 (Try.f139.body.getD .skip) = true := by kernel_rfl
theorem call139 {args : List AV} {H : Heap} {K : AV → Heap → Prop} (ha : args.length ≤ 21) (h : cwp Try.prog 21 pl139 (Try.f139.body.getD .skip) (retQ Try.prog Try.f139.results.toList K) (env0 args) H) : ACall Try.prog 139 args H K :=
  ACall.of_code (pl := pl139) Try.func139 rfl rfl fit139 ha h
def pl140 : Plans := [(2, .take 0 (.take 2 (.eff 1 [0] [2] (.take 4 (.eff 3 [2] [0, 4] (.take 5 (.done)) (.no))) (.eff 3 [2] [0] (.eff 1 [0] [2] (.take 4 (.take 5 (.done))) (.no)) (.no))))), (9, .take 0 (.take 1 (.take 2 (.take 3 (.take 4 (.take 5 (.take 6 (.take 7 (.take 8 (.take 9 (.take 10 (.take 11 (.take 12 (.take 13 (.take 14 (.take 15 (.take 16 (.take 17 (.take 18 (.take 19 (.take 20 (.take 21 (.take 22 (.take 23 (.eff 24 [23, 22, 12, 0, 1, 2, 3, 4, 5, 6, 7, 8, 9, 10, 11, 13, 14, 15, 16, 17, 18, 19, 20, 21] [] (.done) (.no))))))))))))))))))))))))))]
theorem fit140 : fits Try.prog 125 pl140 (Try.f140.body.getD .skip) = true := by kernel_rfl
theorem call140 {args : List AV} {H : Heap} {K : AV → Heap → Prop} (ha : args.length ≤ 125) (h : cwp Try.prog 125 pl140 (Try.f140.body.getD .skip) (retQ Try.prog Try.f140.results.toList K) (env0 args) H) : ACall Try.prog 140 args H K :=
  ACall.of_code (pl := pl140) Try.func140 rfl rfl fit140 ha h
def pl141 : Plans := []
theorem fit141 : fits Try.prog 11 pl141 (Try.f141.body.getD .skip) = true := by kernel_rfl
theorem call141 {args : List AV} {H : Heap} {K : AV → Heap → Prop} (ha : args.length ≤ 11) (h : cwp Try.prog 11 pl141 (Try.f141.body.getD .skip) (retQ Try.prog Try.f141.results.toList K) (env0 args) H) : ACall Try.prog 141 args H K :=
  ACall.of_code (pl := pl141) Try.func141 rfl rfl fit141 ha h
def pl142 : Plans := [(6, .take 0 (.take 1 (.take 2 (.take 3 (.take 4 (.take 5 (.take 6 (.take 7 (.take 8 (.take 9 (.done))))))))))), (11, .take 0 (.take 1 (.take 2 (.take 3 (.take 4 (.take 5 (.take 6 (.take 7 (.take 8 (.take 9 (.done)))))))))))]
theorem fit142 : fits Try.prog 61 pl142 (Try.f142.body.getD .skip) = true := by kernel_rfl
theorem call142 {args : List AV} {H : Heap} {K : AV → Heap → Prop} (ha : args.length ≤ 61) (h : cwp Try.prog 61 pl142 (Try.f142.body.getD .skip) (retQ Try.prog Try.f142.results.toList K) (env0 args) H) : ACall Try.prog 142 args H K :=
  ACall.of_code (pl := pl142) Try.func142 rfl rfl fit142 ha h
def pl143 : Plans := []
theorem fit143 : fits Try.prog 35 pl143 (Try.f143.body.getD .skip) = true := by kernel_rfl
theorem call143 {args : List AV} {H : Heap} {K : AV → Heap → Prop} (ha : args.length ≤ 35) (h : cwp Try.prog 35 pl143 (Try.f143.body.getD .skip) (retQ Try.prog Try.f143.results.toList K) (env0 args) H) : ACall Try.prog 143 args H K :=
  ACall.of_code (pl := pl143) Try.func143 rfl rfl fit143 ha h
def pl144 : Plans := [(6, .take 0 (.take 1 (.take 2 (.take 3 (.take 4 (.take 5 (.take 6 (.take 7 (.take 8 (.take 9 (.take 10 (.take 11 (.take 12 (.take 13 (.take 14 (.take 15 (.take 16 (.take 17 (.take 18 (.take 19 (.done))))))))))))))))))))), (16, .take 0 (.take 1 (.take 2 (.take 3 (.take 4 (.take 5 (.take 6 (.take 7 (.take 8 (.take 9 (.done)))))))))))]
theorem fit144 : fits Try.prog 82 pl144 (Try.f144.body.getD .skip) = true := by kernel_rfl
theorem call144 {args : List AV} {H : Heap} {K : AV → Heap → Prop} (ha : args.length ≤ 82) (h : cwp Try.prog 82 pl144 (Try.f144.body.getD .skip) (retQ Try.prog Try.f144.results.toList K) (env0 args) H) : ACall Try.prog 144 args H K :=
  ACall.of_code (pl := pl144) Try.func144 rfl rfl fit144 ha h
def pl145 : Plans := [(5, .take 0 (.take 1 (.take 2 (.take 3 (.take 4 (.take 5 (.take 6 (.take 7 (.take 8 (.take 9 (.take 10 (.take 11 (.take 12 (.take 13 (.take 14 (.take 15 (.take 16 (.take 17 (.take 18 (.take 19 (.take 20 (.take 21 (.take 22 (.done))))))))))))))))))))))))]
theorem fit145 : fits Try.prog 49 pl145 (Try.f145.body.getD .skip) = true := by kernel_rfl
theorem call145 {args : List AV} {H : Heap} {K : AV → Heap → Prop} (ha : args.length ≤ 49) (h : cwp Try.prog 49 pl145 (Try.f145.body.getD .skip) (retQ Try.prog Try.f145.results.toList K) (env0 args) H) : ACall Try.prog 145 args H K :=
  ACall.of_code (pl := pl145) Try.func145 rfl rfl fit145 ha h
def pl146 : Plans := [(5, .take 0 (.take 1 (.take 2 (.take 3 (.take 4 (.take 5 (.take 6 (.take 7 (.take 8 (.take 9 (.take 10 (.take 11 (.take 12 (.take 13 (.take 14 (.take 15 (.take 16 (.take 17 (.take 18 (.take 19 (.done)))))))))))))))))))))]
theorem fit146 : fits Try.prog 75 pl146 (Try.f146.body.getD .skip) = true := by kernel_rfl
theorem call146 {args : List AV} {H : Heap} {K : AV → Heap → Prop} (ha : args.length ≤ 75) (h : cwp Try.prog 75 pl146 (Try.f146.body.getD .skip) (retQ Try.prog Try.f146.results.toList K) (env0 args) H) : ACall Try.prog 146 args H K :=
  ACall.of_code (pl := pl146) Try.func146 rfl rfl fit146 ha h
def pl147 : Plans := []
theorem fit147 : fits Try.prog 55 pl147 (Try.f147.body.getD .skip) = true := by kernel_rfl
theorem call147 {args : List AV} {H : Heap} {K : AV → Heap → Prop} (ha : args.length ≤ 55) (h : cwp Try.prog 55 pl147 (Try.f147.body.getD .skip) (retQ Try.prog Try.f147.results.toList K) (env0 args) H) : ACall Try.prog 147 args H K :=
  ACall.of_code (pl := pl147) Try.func147 rfl rfl fit147 ha h
def pl148 : Plans := []
theorem fit148 : fits Try.prog 42 pl148 (Try.f148.body.getD .skip) = true := by kernel_rfl
theorem call148 {args : List AV} {H : Heap} {K : AV → Heap → Prop} (ha : args.length ≤ 42) (h : cwp Try.prog 42 pl148 (Try.f148.body.getD .skip) (retQ Try.prog Try.f148.results.toList K) (env0 args) H) : ACall Try.prog 148 args H K :=
  ACall.of_code (pl := pl148) Try.func148 rfl rfl fit148 ha h
def pl149 : Plans := [(1, .take 0 (.take 1 (.take 2 (.take 3 (.take 4 (.take 5 (.take 6 (.take 7 (.take 8 (.take 9 (.done)))))))))))]
theorem fit149 : fits Try.prog 14 pl149 (Try.f149.body.getD .skip) = true := by kernel_rfl
theorem call149 {args : List AV} {H : Heap} {K : AV → Heap → Prop} (ha : args.length ≤ 14) (h : cwp Try.prog 14 pl149 (Try.f149.body.getD .skip) (retQ Try.prog Try.f149.results.toList K) (env0 args) H) : ACall Try.prog 149 args H K :=
  ACall.of_code (pl := pl149) Try.func149 rfl rfl fit149 ha h
def pl150 : Plans := []
theorem fit150 : fits Try.prog 6 pl150 (Try.f150.body.getD .skip) = true := by kernel_rfl
theorem call150 {args : List AV} {H : Heap} {K : AV → Heap → Prop} (ha : args.length ≤ 6) (h : cwp Try.prog 6 pl150 (Try.f150.body.getD .skip) (retQ Try.prog Try.f150.results.toList K) (env0 args) H) : ACall Try.prog 150 args H K :=
  ACall.of_code (pl := pl150) Try.func150 rfl rfl fit150 ha h
def pl151 : Plans := []
theorem fit151 : fits Try.prog 19 pl151 (Try.f151.body.getD .skip) = true := by kernel_rfl
theorem call151 {args : List AV} {H : Heap} {K : AV → Heap → Prop} (ha : args.length ≤ 19) (h : cwp Try.prog 19 pl151 (Try.f151.body.getD .skip) (retQ Try.prog Try.f151.results.toList K) (env0 args) H) : ACall Try.prog 151 args H K :=
  ACall.of_code (pl := pl151) Try.func151 rfl rfl fit151 ha h
def pl152 : Plans := []
theorem fit152 : fits Try.prog 9 pl152 (Try.f152.body.getD .skip) = true := by kernel_rfl
theorem call152 {args : List AV} {H : Heap} {K : AV → Heap → Prop} (ha : args.length ≤ 9) (h : cwp Try.prog 9 pl152 (Try.f152.body.getD .skip) (retQ Try.prog Try.f152.results.toList K) (env0 args) H) : ACall Try.prog 152 args H K :=
  ACall.of_code (pl := pl152) Try.func152 rfl rfl fit152 ha h
def pl153 : Plans := []
theorem fit153 : fits Try.prog 8 pl153 (Try.f153.body.getD .skip) = true := by kernel_rfl
theorem call153 {args : List AV} {H : Heap} {K : AV → Heap → Prop} (ha : args.length ≤ 8) (h : cwp Try.prog 8 pl153 (Try.f153.body.getD .skip) (retQ Try.prog Try.f153.results.toList K) (env0 args) H) : ACall Try.prog 153 args H K :=
  ACall.of_code (pl := pl153) Try.func153 rfl rfl fit153 ha h
def pl154 : Plans := []
theorem fit154 : fits Try.prog 6 pl154 (Try.f154.body.getD .skip) = true := by kernel_rfl
theorem call154 {args : List AV} {H : Heap} {K : AV → Heap → Prop} (ha : args.length ≤ 6) (h : cwp Try.prog 6 pl154 (Try.f154.body.getD .skip) (retQ Try.prog Try.f154.results.toList K) (env0 args) H) : ACall Try.prog 154 args H K :=
  ACall.of_code (pl := pl154) Try.func154 rfl rfl fit154 ha h
def pl155 : Plans := []
theorem fit155 : fits Try.prog 13 pl155 (Try.f155.body.getD .skip) = true := by kernel_rfl
theorem call155 {args : List AV} {H : Heap} {K : AV → Heap → Prop} (ha : args.length ≤ 13) (h : cwp Try.prog 13 pl155 (Try.f155.body.getD .skip) (retQ Try.prog Try.f155.results.toList K) (env0 args) H) : ACall Try.prog 155 args H K :=
  ACall.of_code (pl := pl155) Try.func155 rfl rfl fit155 ha h
def pl156 : Plans := []
theorem fit156 : fits Try.prog 13 pl156 (Try.f156.body.getD .skip) = true := by kernel_rfl
theorem call156 {args : List AV} {H : Heap} {K : AV → Heap → Prop} (ha : args.length ≤ 13) (h : cwp Try.prog 13 pl156 (Try.f156.body.getD .skip) (retQ Try.prog Try.f156.results.toList K) (env0 args) H) : ACall Try.prog 156 args H K :=
  ACall.of_code (pl := pl156) Try.func156 rfl rfl fit156 ha h
def pl157 : Plans := []
theorem fit157 : fits Try.prog 8 pl157 (Try.f157.body.getD .skip) = true := by kernel_rfl
theorem call157 {args : List AV} {H : Heap} {K : AV → Heap → Prop} (ha : args.length ≤ 8) (h : cwp Try.prog 8 pl157 (Try.f157.body.getD .skip) (retQ Try.prog Try.f157.results.toList K) (env0 args) H) : ACall Try.prog 157 args H K :=
  ACall.of_code (pl := pl157) Try.func157 rfl rfl fit157 ha h
def pl158 : Plans := []
theorem fit158 : fits Try.prog 27 pl158 (Try.f158.body.getD .skip) = true := by kernel_rfl
theorem call158 {args : List AV} {H : Heap} {K : AV → Heap → Prop} (ha : args.length ≤ 27) (h : cwp Try.prog 27 pl158 (Try.f158.body.getD .skip) (retQ Try.prog Try.f158.results.toList K) (env0 args) H) : ACall Try.prog 158 args H K :=
  ACall.of_code (pl := pl158) Try.func158 rfl rfl fit158 ha h
def pl159 : Plans := []
theorem fit159 : fits Try.prog 45 pl159 (Try.f159.body.getD .skip) = true := by kernel_rfl
theorem call159 {args : List AV} {H : Heap} {K : AV → Heap → Prop} (ha : args.length ≤ 45) (h : cwp Try.prog 45 pl159 (Try.f159.body.getD .skip) (retQ Try.prog Try.f159.results.toList K) (env0 args) H) : ACall Try.prog 159 args H K :=
  ACall.of_code (pl := pl159) Try.func159 rfl rfl fit159 ha h
def pl160 : Plans := []
theorem fit160 : fits Try.prog 25 pl160 (Try.f160.body.getD .skip) = true := by kernel_rfl
theorem call160 {args : List AV} {H : Heap} {K : AV → Heap → Prop} (ha : args.length ≤ 25) (h : cwp Try.prog 25 pl160 (Try.f160.body.getD .skip) (retQ Try.prog Try.f160.results.toList K) (env0 args) H) : ACall Try.prog 160 args H K :=
  ACall.of_code (pl := pl160) Try.func160 rfl rfl fit160 ha h
def pl161 : Plans := []
theorem fit161 : fits Try.prog 17 pl161 (Try.f161.body.getD .skip) = true := by kernel_rfl
theorem call161 {args : List AV} {H : Heap} {K : AV → Heap → Prop} (ha : args.length ≤ 17) (h : cwp Try.prog 17 pl161 (Try.f161.body.getD .skip) (retQ Try.prog Try.f161.results.toList K) (env0 args) H) : ACall Try.prog 161 args H K :=
  ACall.of_code (pl := pl161) Try.func161 rfl rfl fit161 ha h
def pl162 : Plans := []
theorem fit162 : fits Try.prog 51 pl162 (Try.f162.body.getD .skip) = true := by kernel_rfl
theorem call162 {args : List AV} {H : Heap} {K : AV → Heap → Prop} (ha : args.length ≤ 51) (h : cwp Try.prog 51 pl162 (Try.f162.body.getD .skip) (retQ Try.prog Try.f162.results.toList K) (env0 args) H) : ACall Try.prog 162 args H K :=
  ACall.of_code (pl := pl162) Try.func162 rfl rfl fit162 ha h
def pl163 : Plans := []
theorem fit163 : fits Try.prog 108 pl163 (Try.f163.body.getD .skip) = true := by kernel_rfl
theorem call163 {args : List AV} {H : Heap} {K : AV → Heap → Prop} (ha : args.length ≤ 108) (h : cwp Try.prog 108 pl163 (Try.f163.body.getD .skip) (retQ Try.prog Try.f163.results.toList K) (env0 args) H) : ACall Try.prog 163 args H K :=
  ACall.of_code (pl := pl163) Try.func163 rfl rfl fit163 ha h
def pl164 : Plans := [(3, .take 0 (.take 1 (.take 2 (.take 3 (.take 4 (.take 5 (.take 6 (.take 7 (.take 8 (.take 9 (.take 10 (.take 11 (.take 12 (.take 13 (.done)))))))))))))))]
theorem fit164 : fits Try.prog 28 pl164 (Try.f164.body.getD .skip) = true := by kernel_rfl
theorem call164 {args : List AV} {H : Heap} {K : AV → Heap → Prop} (ha : args.length ≤ 28) (h : cwp Try.prog 28 pl164 (Try.f164.body.getD .skip) (retQ Try.prog Try.f164.results.toList K) (env0 args) H) : ACall Try.prog 164 args H K :=
  ACall.of_code (pl := pl164) Try.func164 rfl rfl fit164 ha h
def pl165 : Plans := []
theorem fit165 : fits Try.prog 9 pl165 (Try.f165.body.getD .skip) = true := by kernel_rfl
theorem call165 {args : List AV} {H : Heap} {K : AV → Heap → Prop} (ha : args.length ≤ 9) (h : cwp Try.prog 9 pl165 (Try.f165.body.getD .skip) (retQ Try.prog Try.f165.results.toList K) (env0 args) H) : ACall Try.prog 165 args H K :=
  ACall.of_code (pl := pl165) Try.func165 rfl rfl fit165 ha h
def pl166 : Plans := []
theorem fit166 : fits Try.prog 10 pl166 (Try.f166.body.getD .skip) = true := by kernel_rfl
theorem call166 {args : List AV} {H : Heap} {K : AV → Heap → Prop} (ha : args.length ≤ 10) (h : cwp Try.prog 10 pl166 (Try.f166.body.getD .skip) (retQ Try.prog Try.f166.results.toList K) (env0 args) H) : ACall Try.prog 166 args H K :=
  ACall.of_code (pl := pl166) Try.func166 rfl rfl fit166 ha h
def pl167 : Plans := []
theorem fit167 : fits Try.prog 10 pl167 (Try.f167.body.getD .skip) = true := by kernel_rfl
theorem call167 {args : List AV} {H : Heap} {K : AV → Heap → Prop} (ha : args.length ≤ 10) (h : cwp Try.prog 10 pl167 (Try.f167.body.getD .skip) (retQ Try.prog Try.f167.results.toList K) (env0 args) H) : ACall Try.prog 167 args H K :=
  ACall.of_code (pl := pl167) Try.func167 rfl rfl fit167 ha h
def pl169 : Plans := []
theorem fit169 : fits Try.prog 18 pl169 (Try.f169.body.getD .skip) = true := by kernel_rfl
theorem call169 {args : List AV} {H : Heap} {K : AV → Heap → Prop} (ha : args.length ≤ 18) (h : cwp Try.prog 18 pl169 (Try.f169.body.getD .skip) (retQ Try.prog Try.f169.results.toList K) (env0 args) H) : ACall Try.prog 169 args H K :=
  ACall.of_code (pl := pl169) Try.func169 rfl rfl fit169 ha h
def pl170 : Plans := []
theorem fit170 : fits Try.prog 18 pl170 (Try.f170.body.getD .skip) = true := by kernel_rfl
theorem call170 {args : List AV} {H : Heap} {K : AV → Heap → Prop} (ha : args.length ≤ 18) (h : cwp Try.prog 18 pl170 (Try.f170.body.getD .skip) (retQ Try.prog Try.f170.results.toList K) (env0 args) H) : ACall Try.prog 170 args H K :=
  ACall.of_code (pl := pl170) Try.func170 rfl rfl fit170 ha h
def pl171 : Plans := [(3, .take 0 (.take 1 (.take 2 (.take 3 (.take 4 (.take 5 (.take 6 (.take 7 (.take 8 (.take 9 (.take 10 (.take 11 (.take 12 (.take 13 (.done)))))))))))))))]
theorem fit171 : fits Try.prog 28 pl171 (Try.f171.body.getD .skip) = true := by kernel_rfl
theorem call171 {args : List AV} {H : Heap} {K : AV → Heap → Prop} (ha : args.length ≤ 28) (h : cwp Try.prog 28 pl171 (Try.f171.body.getD .skip) (retQ Try.prog Try.f171.results.toList K) (env0 args) H) : ACall Try.prog 171 args H K :=
  ACall.of_code (pl := pl171) Try.func171 rfl rfl fit171 ha h
def pl172 : Plans := []
theorem fit172 : fits Try.prog 20 pl172 (Try.f172.body.getD .skip) = true := by kernel_rfl
theorem call172 {args : List AV} {H : Heap} {K : AV → Heap → Prop} (ha : args.length ≤ 20) (h : cwp Try.prog 20 pl172 (Try.f172.body.getD .skip) (retQ Try.prog Try.f172.results.toList K) (env0 args) H) : ACall Try.prog 172 args H K :=
  ACall.of_code (pl := pl172) Try.func172 rfl rfl fit172 ha h
def pl173 : Plans := []
theorem fit173 : fits Try.prog 6 pl173 (Try.f173.body.getD .skip) = true := by kernel_rfl
theorem call173 {args : List AV} {H : Heap} {K : AV → Heap → Prop} (ha : args.length ≤ 6) (h : cwp Try.prog 6 pl173 (Try.f173.body.getD .skip) (retQ Try.prog Try.f173.results.toList K) (env0 args) H) : ACall Try.prog 173 args H K :=
  ACall.of_code (pl := pl173) Try.func173 rfl rfl fit173 ha h
def pl174 : Plans := []
theorem fit174 : fits Try.prog 64 pl174 (Try.f174.body.getD .skip) = true := by kernel_rfl
theorem call174 {args : List AV} {H : Heap} {K : AV → Heap → Prop} (ha : args.length ≤ 64) (h : cwp Try.prog 64 pl174 (Try.f174.body.getD .skip) (retQ Try.prog Try.f174.results.toList K) (env0 args) H) : ACall Try.prog 174 args H K :=
  ACall.of_code (pl := pl174) Try.func174 rfl rfl fit174 ha h
def pl175 : Plans := [(17, .take 0 (.take 1 (.take 2 (.take 3 (.take 4 (.take 5 (.take 6 (.take 7 (.take 8 (.take 9 (.take 10 (.take 11 (.eff 12 [7, 11, 2, 6, 10, 1, 3, 5, 8, 9, 0, 4] [] (.take 13 (.take 14 (.done))) (.no))))))))))))))]
theorem fit175 : fits Try.prog 134 pl175 (Try.f175.body.getD .skip) = true := by kernel_rfl
theorem call175 {args : List AV} {H : Heap} {K : AV → Heap → Prop} (ha : args.length ≤ 134) (h : cwp Try.prog 134 pl175 (Try.f175.body.getD .skip) (retQ Try.prog Try.f175.results.toList K) (env0 args) H) : ACall Try.prog 175 args H K :=
  ACall.of_code (pl := pl175) Try.func175 rfl rfl fit175 ha h
def pl176 : Plans := []
theorem fit176 : fits Try.prog 8 pl176 (Try.f176.body.getD .skip) = true := by kernel_rfl
theorem call176 {args : List AV} {H : Heap} {K : AV → Heap → Prop} (ha : args.length ≤ 8) (h : cwp Try.prog 8 pl176 (Try.f176.body.getD .skip) (retQ Try.prog Try.f176.results.toList K) (env0 args) H) : ACall Try.prog 176 args H K :=
  ACall.of_code (pl := pl176) Try.func176 rfl rfl fit176 ha h
def pl177 : Plans := []
theorem fit177 : fits Try.prog 19 pl177 (Try.f177.body.getD .skip) = true := by kernel_rfl
theorem call177 {args : List AV} {H : Heap} {K : AV → Heap → Prop} (ha : args.length ≤ 19) (h : cwp Try.prog 19 pl177 (Try.f177.body.getD .skip) (retQ Try.prog Try.f177.results.toList K) (env0 args) H) : ACall Try.prog 177 args H K :=
  ACall.of_code (pl := pl177) Try.func177 rfl rfl fit177 ha h
def pl178 : Plans := [(1, .take 0 (.take 1 (.take 2 (.take 3 (.take 4 (.take 5 (.take 6 (.take 7 (.take 8 (.take 9 (.take 10 (.done))))))))))))]
theorem fit178 : fits Try.prog 15 pl178 (Try.f178.body.getD .skip) = true := by kernel_rfl
theorem call178 {args : List AV} {H : Heap} {K : AV → Heap → Prop} (ha : args.length ≤ 15) (h : cwp Try.prog 15 pl178 (Try.f178.body.getD .skip) (retQ Try.prog Try.f178.results.toList K) (env0 args) H) : ACall Try.prog 178 args H K :=
  ACall.of_code (pl := pl178) Try.func178 rfl rfl fit178 ha h
def pl179 : Plans := []
theorem fit179 : fits Try.prog 8 pl179 (Try.f179.body.getD .skip) = true := by kernel_rfl
theorem call179 {args : List AV} {H : Heap} {K : AV → Heap → Prop} (ha : args.length ≤ 8) (h : cwp Try.prog 8 pl179 (Try.f179.body.getD .skip) (retQ Try.prog Try.f179.results.toList K) (env0 args) H) : ACall Try.prog 179 args H K :=
  ACall.of_code (pl := pl179) Try.func179 rfl rfl fit179 ha h
def pl180 : Plans := [(9, .take 0 (.take 1 (.take 2 (.take 3 (.take 4 (.take 5 (.take 6 (.eff 7 [3, 6, 1, 2, 4, 5] [0] (.take 8 (.eff 9 [8, 7, 0, 1, 2, 3, 4, 5, 6] [] (.done) (.no))) (.no)))))))))]
theorem fit180 : fits Try.prog 48 pl180 (Try.f180.body.getD .skip) = true := by kernel_rfl
theorem call180 {args : List AV} {H : Heap} {K : AV → Heap → Prop} (ha : args.length ≤ 48) (h : cwp Try.prog 48 pl180 (Try.f180.body.getD .skip) (retQ Try.prog Try.f180.results.toList K) (env0 args) H) : ACall Try.prog 180 args H K :=
  ACall.of_code (pl := pl180) Try.func180 rfl rfl fit180 ha h
def pl181 : Plans := []
theorem fit181 : fits Try.prog 4 pl181 (Try.f181.body.getD .skip) = true := by kernel_rfl
theorem call181 {args : List AV} {H : Heap} {K : AV → Heap → Prop} (ha : args.length ≤ 4) (h : cwp Try.prog 4 pl181 (Try.f181.body.getD .skip) (retQ Try.prog Try.f181.results.toList K) (env0 args) H) : ACall Try.prog 181 args H K :=
  ACall.of_code (pl := pl181) Try.func181 rfl rfl fit181 ha h
def pl182 : Plans := [(4, .take 0 (.take 1 (.take 2 (.take 3 (.take 4 (.take 5 (.take 6 (.take 7 (.take 8 (.take 9 (.take 10 (.take 11 (.take 12 (.eff 13 [7, 12, 3, 6, 11, 2, 4, 5, 8, 10, 0, 1, 9] [] (.take 14 (.done)) (.no))))))))))))))), (6, .take 0 (.take 1 (.take 2 (.take 3 (.take 4 (.take 5 (.take 6 (.take 7 (.take 8 (.take 9 (.take 10 (.take 11 (.take 12 (.take 13 (.take 14 (.eff 15 [14, 9, 0, 1, 5, 6, 7, 8, 13, 12, 10, 11] [2, 3, 4] (.take 16 (.eff 17 [16, 13, 15, 0, 1, 2, 3, 4, 5, 6, 7, 8, 9, 10, 11, 12, 14] [] (.done) (.no))) (.no)))))))))))))))))]
theorem fit182 : fits Try.prog 49 pl182 (Try.f182.body.getD .skip) = true := by kernel_rfl
theorem call182 {args : List AV} {H : Heap} {K : AV → Heap → Prop} (ha : args.length ≤ 49) (h : cwp Try.prog 49 pl182 (Try.f182.body.getD .skip) (retQ Try.prog Try.f182.results.toList K) (env0 args) H) : ACall Try.prog 182 args H K :=
  ACall.of_code (pl := pl182) Try.func182 rfl rfl fit182 ha h
def pl183 : Plans := [(10, .take 0 (.take 1 (.take 2 (.take 3 (.take 4 (.take 5 (.take 6 (.take 7 (.take 8 (.take 9 (.take 10 (.take 11 (.take 12 (.take 13 (.take 14 (.take 15 (.take 16 (.eff 17 [16, 11, 0, 1, 6, 7, 8, 9, 10, 15, 14, 12, 13] [2, 3, 4, 5] (.take 18 (.eff 19 [18, 15, 17, 0, 1, 2, 3, 4, 5, 6, 7, 8, 9, 10, 11, 12, 13, 14, 16] [] (.done) (.no))) (.no)))))))))))))))))))]
theorem fit183 : fits Try.prog 56 pl183 (Try.f183.body.getD .skip) = true := by kernel_rfl
theorem call183 {args : List AV} {H : Heap} {K : AV → Heap → Prop} (ha : args.length ≤ 56) (h : cwp Try.prog 56 pl183 (Try.f183.body.getD .skip) (retQ Try.prog Try.f183.results.toList K) (env0 args) H) : ACall Try.prog 183 args H K :=
  ACall.of_code (pl := pl183) Try.func183 rfl rfl fit183 ha h
def pl184 : Plans := [(10, .take 0 (.take 1 (.take 2 (.take 3 (.take 4 (.take 5 (.take 6 (.take 7 (.take 8 (.take 9 (.take 10 (.take 11 (.take 12 (.take 13 (.take 14 (.take 15 (.take 16 (.eff 17 [16, 11, 0, 1, 6, 7, 8, 9, 10, 15, 14, 12, 13] [2, 3, 4, 5] (.take 18 (.eff 19 [18, 15, 17, 0, 1, 2, 3, 4, 5, 6, 7, 8, 9, 10, 11, 12, 13, 14, 16] [] (.done) (.no))) (.no)))))))))))))))))))]
theorem fit184 : fits Try.prog 65 pl184 (Try.f184.body.getD .skip) = true := by kernel_rfl
theorem call184 {args : List AV} {H : Heap} {K : AV → Heap → Prop} (ha : args.length ≤ 65) (h : cwp Try.prog 65 pl184 (Try.f184.body.getD .skip) (retQ Try.prog Try.f184.results.toList K) (env0 args) H) : ACall Try.prog 184 args H K :=
  ACall.of_code (pl := pl184) Try.func184 rfl rfl fit184 ha h
def pl185 : Plans := []
theorem fit185 : fits Try.prog 57 pl185 (Try.f185.body.getD .skip) = true := by kernel_rfl
theorem call185 {args : List AV} {H : Heap} {K : AV → Heap → Prop} (ha : args.length ≤ 57) (h : cwp Try.prog 57 pl185 (Try.f185.body.getD .skip) (retQ Try.prog Try.f185.results.toList K) (env0 args) H) : ACall Try.prog 185 args H K :=
  ACall.of_code (pl := pl185) Try.func185 rfl rfl fit185 ha h
def pl186 : Plans := [(3, .take 0 (.take 1 (.take 2 (.take 3 (.take 4 (.take 5 (.take 6 (.take 7 (.take 8 (.take 9 (.take 10 (.take 11 (.take 12 (.eff 13 [12, 7, 0, 1, 4, 5, 6, 11, 10, 8, 9] [2, 3] (.take 14 (.eff 15 [14, 11, 13, 0, 1, 2, 3, 4, 5, 6, 7, 8, 9, 10, 12] [] (.done) (.no))) (.no)))))))))))))))]
theorem fit186 : fits Try.prog 32 pl186 (Try.f186.body.getD .skip) = true := by kernel_rfl
theorem call186 {args : List AV} {H : Heap} {K : AV → Heap → Prop} (ha : args.length ≤ 32) (h : cwp Try.prog 32 pl186 (Try.f186.body.getD .skip) (retQ Try.prog Try.f186.results.toList K) (env0 args) H) : ACall Try.prog 186 args H K :=
  ACall.of_code (pl := pl186) Try.func186 rfl rfl fit186 ha h
def pl187 : Plans := [(5, .take 0 (.take 1 (.take 2 (.take 3 (.take 4 (.take 5 (.take 6 (.take 7 (.take 8 (.take 9 (.take 10 (.take 11 (.take 12 (.eff 13 [7, 12, 3, 6, 11, 2, 4, 5, 8, 10, 0, 1, 9] [] (.take 14 (.take 15 (.done))) (.no))))))))))))))), (11, .take 0 (.take 1 (.take 2 (.take 3 (.take 4 (.take 5 (.take 6 (.take 7 (.take 8 (.take 9 (.take 10 (.take 11 (.take 12 (.take 13 (.take 14 (.eff 15 [14, 9, 0, 1, 5, 6, 7, 8, 13, 12, 10, 11] [2, 3, 4] (.take 16 (.eff 17 [16, 13, 15, 0, 1, 2, 3, 4, 5, 6, 7, 8, 9, 10, 11, 12, 14] [] (.done) (.no))) (.no))))))))))))))))), (16, .take 0 (.take 1 (.take 2 (.take 3 (.take 4 (.take 5 (.take 6 (.take 7 (.take 8 (.eff 9 [3, 8, 2, 7, 0, 1, 4, 6, 5] [] (.take 10 (.done)) (.no))))))))))), (17, .take 0 (.take 1 (.take 2 (.take 3 (.take 4 (.take 5 (.take 6 (.take 7 (.take 8 (.take 9 (.take 10 (.take 11 (.take 12 (.take 13 (.take 14 (.eff 15 [14, 9, 0, 1, 5, 6, 7, 8, 13, 12, 10, 11] [2, 3, 4] (.take 16 (.eff 17 [16, 13, 15, 0, 1, 2, 3, 4, 5, 6, 7, 8, 9, 10, 11, 12, 14] [] (.done) (.no))) (.no))))))))))))))))), (22, .take 0 (.take 1 (.take 2 (.take 3 (.take 4 (.take 5 (.take 6 (.take 7 (.take 8 (.eff 9 [3, 8, 2, 7, 0, 1, 4, 6, 5] [] (.take 10 (.done)) (.no))))))))))), (23, .take 0 (.take 1 (.take 2 (.take 3 (.take 4 (.take 5 (.take 6 (.take 7 (.take 8 (.take 9 (.take 10 (.take 11 (.take 12 (.take 13 (.take 14 (.eff 15 [14, 9, 0, 1, 5, 6, 7, 8, 13, 12, 10, 11] [2, 3, 4] (.take 16 (.eff 17 [16, 13, 15, 0, 1, 2, 3, 4, 5, 6, 7, 8, 9, 10, 11, 12, 14] [] (.done) (.no))) (.no)))))))))))))))))]
theorem fit187 : fits Try.prog 133 pl187 (Try.f187.body.getD .skip) = true := by kernel_rfl
theorem call187 {args : List AV} {H : Heap} {K : AV → Heap → Prop} (ha : args.length ≤ 133) (h : cwp Try.prog 133 pl187 (Try.f187.body.getD .skip) (retQ Try.prog Try.f187.results.toList K) (env0 args) H) : ACall Try.prog 187 args H K :=
  ACall.of_code (pl := pl187) Try.func187 rfl rfl fit187 ha h
def pl188 : Plans := []
theorem fit188 : fits Try.prog 17 pl188 (Try.f188.body.getD .skip) = true := by kernel_rfl
theorem call188 {args : List AV} {H : Heap} {K : AV → Heap → Prop} (ha : args.length ≤ 17) (h : cwp Try.prog 17 pl188 (Try.f188.body.getD .skip) (retQ Try.prog Try.f188.results.toList K) (env0 args) H) : ACall Try.prog 188 args H K :=
  ACall.of_code (pl := pl188) Try.func188 rfl rfl fit188 ha h
def pl189 : Plans := [(1, .take 0 (.take 1 (.take 2 (.take 3 (.take 4 (.take 5 (.take 6 (.take 7 (.take 8 (.take 9 (.take 10 (.take 11 (.take 12 (.eff 13 [12, 7, 0, 1, 4, 5, 6, 11, 10, 8, 9] [2, 3] (.take 14 (.eff 15 [14, 11, 13, 0, 1, 2, 3, 4, 5, 6, 7, 8, 9, 10, 12] [] (.done) (.no))) (.no))))))))))))))), (3, .take 0 (.take 1 (.take 2 (.take 3 (.take 4 (.take 5 (.take 6 (.take 7 (.take 8 (.take 9 (.take 10 (.take 11 (.eff 12 [7, 11, 3, 6, 10, 2, 4, 5, 8, 9, 0, 1] [] (.take 13 (.take 14 (.done))) (.no)))))))))))))), (5, .take 0 (.take 1 (.take 2 (.take 3 (.take 4 (.take 5 (.take 6 (.take 7 (.take 8 (.take 9 (.take 10 (.take 11 (.eff 12 [7, 11, 3, 6, 10, 2, 4, 5, 8, 9, 0, 1] [] (.take 13 (.done)) (.no)))))))))))))), (8, .take 0 (.take 1 (.take 2 (.take 3 (.take 4 (.take 5 (.take 6 (.take 7 (.take 8 (.take 9 (.take 10 (.take 11 (.take 12 (.eff 13 [12, 7, 0, 1, 4, 5, 6, 11, 10, 8, 9] [2, 3] (.take 14 (.eff 15 [14, 11, 13, 0, 1, 2, 3, 4, 5, 6, 7, 8, 9, 10, 12] [] (.done) (.no))) (.no)))))))))))))))]
theorem fit189 : fits Try.prog 84 pl189 (Try.f189.body.getD .skip) = true := by kernel_rfl
theorem call189 {args : List AV} {H : Heap} {K : AV → Heap → Prop} (ha : args.length ≤ 84) (h : cwp Try.prog 84 pl189 (Try.f189.body.getD .skip) (retQ Try.prog Try.f189.results.toList K) (env0 args) H) : ACall Try.prog 189 args H K :=
  ACall.of_code (pl := pl189) Try.func189 rfl rfl fit189 ha h
def pl190 : Plans := [(1, .take 0 (.take 1 (.take 2 (.take 3 (.take 4 (.take 5 (.take 6 (.take 7 (.take 8 (.take 9 (.take 10 (.take 11 (.take 12 (.eff 13 [12, 7, 0, 1, 4, 5, 6, 11, 10, 8, 9] [2, 3] (.take 14 (.eff 15 [14, 11, 13, 0, 1, 2, 3, 4, 5, 6, 7, 8, 9, 10, 12] [] (.done) (.no))) (.no))))))))))))))), (3, .take 0 (.take 1 (.take 2 (.take 3 (.take 4 (.take 5 (.take 6 (.take 7 (.take 8 (.take 9 (.take 10 (.take 11 (.eff 12 [7, 11, 3, 6, 10, 2, 4, 5, 8, 9, 0, 1] [] (.take 13 (.done)) (.no)))))))))))))), (5, .take 0 (.take 1 (.take 2 (.take 3 (.take 4 (.take 5 (.take 6 (.take 7 (.take 8 (.take 9 (.take 10 (.take 11 (.eff 12 [7, 11, 3, 6, 10, 2, 4, 5, 8, 9, 0, 1] [] (.take 13 (.take 14 (.done))) (.no)))))))))))))), (8, .take 0 (.take 1 (.take 2 (.take 3 (.take 4 (.take 5 (.take 6 (.take 7 (.take 8 (.take 9 (.take 10 (.take 11 (.take 12 (.eff 13 [12, 7, 0, 1, 4, 5, 6, 11, 10, 8, 9] [2, 3] (.take 14 (.eff 15 [14, 11, 13, 0, 1, 2, 3, 4, 5, 6, 7, 8, 9, 10, 12] [] (.done) (.no))) (.no))))))))))))))), (10, .take 0 (.take 1 (.take 2 (.take 3 (.take 4 (.take 5 (.take 6 (.take 7 (.take 8 (.take 9 (.take 10 (.take 11 (.take 12 (.eff 13 [12, 7, 0, 1, 4, 5, 6, 11, 10, 8, 9] [2, 3] (.take 14 (.eff 15 [14, 11, 13, 0, 1, 2, 3, 4, 5, 6, 7, 8, 9, 10, 12] [] (.done) (.no))) (.no))))))))))))))), (13, .take 0 (.take 1 (.take 2 (.take 3 (.take 4 (.take 5 (.take 6 (.take 7 (.take 8 (.take 9 (.take 10 (.take 11 (.eff 12 [7, 11, 3, 6, 10, 2, 4, 5, 8, 9, 0, 1] [] (.take 13 (.done)) (.no)))))))))))))), (15, .take 0 (.take 1 (.take 2 (.take 3 (.take 4 (.take 5 (.take 6 (.take 7 (.take 8 (.take 9 (.take 10 (.take 11 (.eff 12 [7, 11, 3, 6, 10, 2, 4, 5, 8, 9, 0, 1] [] (.take 13 (.take 14 (.done))) (.no)))))))))))))), (18, .take 0 (.take 1 (.take 2 (.take 3 (.take 4 (.take 5 (.take 6 (.take 7 (.take 8 (.take 9 (.take 10 (.take 11 (.take 12 (.eff 13 [12, 7, 0, 1, 4, 5, 6, 11, 10, 8, 9] [2, 3] (.take 14 (.eff 15 [14, 11, 13, 0, 1, 2, 3, 4, 5, 6, 7, 8, 9, 10, 12] [] (.done) (.no))) (.no))))))))))))))), (21, .take 0 (.take 1 (.take 2 (.take 3 (.take 4 (.take 5 (.take 6 (.take 7 (.take 8 (.take 9 (.take 10 (.take 11 (.take 12 (.eff 13 [12, 7, 0, 1, 4, 5, 6, 11, 10, 8, 9] [2, 3] (.take 14 (.eff 15 [14, 11, 13, 0, 1, 2, 3, 4, 5, 6, 7, 8, 9, 10, 12] [] (.done) (.no))) (.no)))))))))))))))]
theorem fit190 : fits Try.prog 168 pl190 (Try.f190.body.getD .skip) = true := by kernel_rfl
theorem call190 {args : List AV} {H : Heap} {K : AV → Heap → Prop} (ha : args.length ≤ 168) (h : cwp Try.prog 168 pl190 (Try.f190.body.getD .skip) (retQ Try.prog Try.f190.results.toList K) (env0 args) H) : ACall Try.prog 190 args H K :=
  ACall.of_code (pl := pl190) Try.func190 rfl rfl fit190 ha h
def pl191 : Plans := []
theorem fit191 : fits Try.prog 19 pl191 (Try.f191.body.getD .skip) = true := by kernel_rfl
theorem call191 {args : List AV} {H : Heap} {K : AV → Heap → Prop} (ha : args.length ≤ 19) (h : cwp Try.prog 19 pl191 (Try.f191.body.getD .skip) (retQ Try.prog Try.f191.results.toList K) (env0 args) H) : ACall Try.prog 191 args H K :=
  ACall.of_code (pl := pl191) Try.func191 rfl rfl fit191 ha h
def pl192 : Plans := []
theorem fit192 : fits Try.prog 25 pl192 (Try.f192.body.getD .skip) = true := by kernel_rfl
theorem call192 {args : List AV} {H : Heap} {K : AV → Heap → Prop} (ha : args.length ≤ 25) (h : cwp Try.prog 25 pl192 (Try.f192.body.getD .skip) (retQ Try.prog Try.f192.results.toList K) (env0 args) H) : ACall Try.prog 192 args H K :=
  ACall.of_code (pl := pl192) Try.func192 rfl rfl fit192 ha h
def pl194 : Plans := []
theorem fit194 : fits Try.prog 19 pl194 (Try.f194.body.getD .skip) = true := by kernel_rfl
theorem call194 {args : List AV} {H : Heap} {K : AV → Heap → Prop} (ha : args.length ≤ 19) (h : cwp Try.prog 19 pl194 (Try.f194.body.getD .skip) (retQ Try.prog Try.f194.results.toList K) (env0 args) H) : ACall Try.prog 194 args H K :=
  ACall.of_code (pl := pl194) Try.func194 rfl rfl fit194 ha h
def pl195 : Plans := [(3, .take 0 (.take 1 (.take 2 (.take 3 (.take 4 (.take 5 (.take 6 (.take 7 (.take 8 (.take 9 (.take 10 (.take 11 (.take 12 (.take 13 (.take 14 (.take 15 (.take 16 (.take 17 (.eff 18 [10, 17, 4, 9, 16, 3, 5, 8, 11, 15, 1, 2, 6, 7, 14, 0, 12, 13] [] (.take 19 (.done)) (.no)))))))))))))))))))), (5, .take 0 (.take 1 (.take 2 (.take 3 (.take 4 (.take 5 (.take 6 (.take 7 (.take 8 (.take 9 (.take 10 (.take 11 (.eff 12 [5, 11, 4, 10, 0, 3, 6, 9, 1, 2, 7, 8] [] (.take 13 (.done)) (.no)))))))))))))), (6, .take 0 (.take 1 (.take 2 (.take 3 (.take 4 (.take 5 (.take 6 (.take 7 (.take 8 (.take 9 (.take 10 (.take 11 (.take 12 (.take 13 (.take 14 (.take 15 (.take 16 (.take 17 (.take 18 (.take 19 (.take 20 (.eff 21 [20, 13, 0, 1, 2, 3, 8, 9, 10, 11, 12, 19, 18, 14, 17, 15, 16] [4, 5, 6, 7] (.take 22 (.eff 23 [22, 19, 21, 0, 1, 2, 3, 4, 5, 6, 7, 8, 9, 10, 11, 12, 13, 14, 15, 16, 17, 18, 20] [] (.done) (.no))) (.no)))))))))))))))))))))))]
theorem fit195 : fits Try.prog 76 pl195 (Try.f195.body.getD .skip) = true := by kernel_rfl
theorem call195 {args : List AV} {H : Heap} {K : AV → Heap → Prop} (ha : args.length ≤ 76) (h : cwp Try.prog 76 pl195 (Try.f195.body.getD .skip) (retQ Try.prog Try.f195.results.toList K) (env0 args) H) : ACall Try.prog 195 args H K :=
  ACall.of_code (pl := pl195) Try.func195 rfl rfl fit195 ha h
def pl196 : Plans := []
theorem fit196 : fits Try.prog 7 pl196 (Try.f196.body.getD .skip) = true := by kernel_rfl
theorem call196 {args : List AV} {H : Heap} {K : AV → Heap → Prop} (ha : args.length ≤ 7) (h : cwp Try.prog 7 pl196 (Try.f196.body.getD .skip) (retQ Try.prog Try.f196.results.toList K) (env0 args) H) : ACall Try.prog 196 args H K :=
  ACall.of_code (pl := pl196) Try.func196 rfl rfl fit196 ha h
def pl197 : Plans := [(1, .take 0 (.take 1 (.take 2 (.take 3 (.take 4 (.take 5 (.take 6 (.take 7 (.take 8 (.eff 9 [8, 7, 0, 1, 2, 3, 4, 5, 6] [] (.done) (.no))))))))))), (2, .take 0 (.take 1 (.take 2 (.take 3 (.take 4 (.take 5 (.take 6 (.take 7 (.take 8 (.eff 9 [8, 7, 0, 1, 2, 3, 4, 5, 6] [] (.done) (.no))))))))))), (3, .take 0 (.take 1 (.take 2 (.take 3 (.take 4 (.take 5 (.take 6 (.take 7 (.take 8 (.eff 9 [8, 7, 0, 1, 2, 3, 4, 5, 6] [] (.done) (.no)))))))))))]
theorem fit197 : fits Try.prog 33 pl197 (Try.f197.body.getD .skip) = true := by kernel_rfl
theorem call197 {args : List AV} {H : Heap} {K : AV → Heap → Prop} (ha : args.length ≤ 33) (h : cwp Try.prog 33 pl197 (Try.f197.body.getD .skip) (retQ Try.prog Try.f197.results.toList K) (env0 args) H) : ACall Try.prog 197 args H K :=
  ACall.of_code (pl := pl197) Try.func197 rfl rfl fit197 ha h
def pl198 : Plans := []
theorem fit198 : fits Try.prog 15 pl198 (Try.f198.body.getD .skip) = true := by kernel_rfl
theorem call198 {args : List AV} {H : Heap} {K : AV → Heap → Prop} (ha : args.length ≤ 15) (h : cwp Try.prog 15 pl198 (Try.f198.body.getD .skip) (retQ Try.prog Try.f198.results.toList K) (env0 args) H) : ACall Try.prog 198 args H K :=
  ACall.of_code (pl := pl198) Try.func198 rfl rfl fit198 ha h
def pl199 : Plans := []
theorem fit199 : fits Try.prog 36 pl199 (Try.f199.body.getD .skip) = true := by kernel_rfl
theorem call199 {args : List AV} {H : Heap} {K : AV → Heap → Prop} (ha : args.length ≤ 36) (h : cwp Try.prog 36 pl199 (Try.f199.body.getD .skip) (retQ Try.prog Try.f199.results.toList K) (env0 args) H) : ACall Try.prog 199 args H K :=
  ACall.of_code (pl := pl199) Try.func199 rfl rfl fit199 ha h
def pl200 : Plans := [(1, .take 0 (.take 1 (.take 2 (.take 3 (.take 4 (.take 5 (.take 6 (.take 7 (.eff 8 [3, 7, 2, 6, 0, 1, 4, 5] [] (.done) (.no))))))))))]
theorem fit200 : fits Try.prog 28 pl200 (Try.f200.body.getD .skip) = true := by kernel_rfl
theorem call200 {args : List AV} {H : Heap} {K : AV → Heap → Prop} (ha : args.length ≤ 28) (h : cwp Try.prog 28 pl200 (Try.f200.body.getD .skip) (retQ Try.prog Try.f200.results.toList K) (env0 args) H) : ACall Try.prog 200 args H K :=
  ACall.of_code (pl := pl200) Try.func200 rfl rfl fit200 ha h
end Go.Proofs.Ytmpbbjdkpdakeaa
